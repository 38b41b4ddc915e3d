/- Merged: EvF95, EvF39, EvF42v568, EvF43v568, EvF44v6206, EvF45v568, EvF46v568, EvF39v8145, EvF125, EvF96, EvF40, EvF40v1385, EvF47v568, EvF91, EvF126, EvF97, EvF48, EvF10, EvS19, ShaB, ShaC. -/
import Derived.Test.YtjlolgpbidfmeaaMTreePlays3
import Derived.Test.YtjlolgpbidfmeaaProg
import Derived.KernelRfl
import Derived.Test.YtjlolgpbidfmeaaMTreePlays5
import Derived.Test.YtjlolgpbidfmeaaMTreePlays4
section
namespace Go.Proofs.Ytjlolgpbidfmeaa.X
open Go Go.Proofs.Ytjlolgpbidfmeaa.Ev Go.Proofs
set_option linter.unusedVariables false
set_option linter.unusedSectionVars false
/-! pentimentoref12.Tree).Bad -/
noncomputable def f95_1_l3 {β : Type} (F : Nat) (v2 : Int) (v3 : Int) (v4 : Int) (v5 : Int) (v6 : List ByteArray) (K0 : List Int → Option β) : Nat → Int → List Int → Option β
  | 0, _, _ => none
  | k + 1, v1, v7 => cond (decide (v1 < ((v6.length : Nat) : Int))) (cond (decide ((0 : Int) ≤ v1 ∧ v1 < ((v6.length : Nat) : Int))) (cond (decide (0 + v1.toNat < v6.length)) (f92_1 F v2 v3 v4 v5 v1 v6 (fun x8 => cond (!((v6.getD (0 + v1.toNat) ByteArray.empty).toList == x8.toList)) (cond (decide ((v7.length + 1) * 8 ≤ 70368744177664)) (f95_1_l3 F v2 v3 v4 v5 v6 K0 k (IntKind.i64.wrap (v1 + 1)) (v7 ++ [v1])) none) (f95_1_l3 F v2 v3 v4 v5 v6 K0 k (IntKind.i64.wrap (v1 + 1)) v7)) ) none) none) (K0 v7)
noncomputable def f95_1 {β : Type} (F : Nat) (a1 : Int) (a2 : Int) (a3 : Int) (a4 : Int) (a5 : List ByteArray) (K0 : List Int → Option β) : Option β := f95_1_l3 F a1 a2 a3 a4 a5 (fun x9 => K0 x9) F a1 []
variable [FZ]
def sh95_1 : Sh := ⟨[.lf (.ptr 0 0)], [some ⟨none, [.int .i64, .int .i64, .int .i64, .int .i64, .full 1]⟩, some ⟨none, [.seq .str 0]⟩]⟩
noncomputable def S95_1 (F : Nat) (o : Summ) : Summ := mkS sh95_1 (fun d K => f95_1 F d.2.1.2.1 d.2.1.2.2.1 d.2.1.2.2.2.1 d.2.1.2.2.2.2.1 d.2.2.1.2.1 (fun (y5 : List Int) => K [.lf (.full 2)] [some ⟨d.2.1.1, [.int .i64 d.2.1.2.1, .int .i64 d.2.1.2.2.1, .int .i64 d.2.1.2.2.2.1, .int .i64 d.2.1.2.2.2.2.1, .full 1]⟩, some ⟨d.2.2.1.1, [.seq .str 0 d.2.2.1.2.1]⟩, some ⟨false, [.seq (.int .i64) 0 y5]⟩])) o
noncomputable def code95 : Code := bodyOf Try.f95
noncomputable def b95_0 : Code := cB (cB (cR (cL (cR (cR (code95))))))
theorem scopes95 : scopesOf code95 = [] := by kernel_rfl
theorem ranges95 : rangesOf code95 = [] := by kernel_rfl
theorem loops95 : loopsOf code95 = [b95_0] := by kernel_rfl
theorem enter95 : ∀ args w, (callFunc 95 args).run Try.prog w = .ok (.enter 95 args) w := enter_of (fn := Try.f95) (by kernel_rfl) (by kernel_rfl) (by kernel_rfl)
noncomputable def T95_1 (F : Nat) : FuncId → Option Summ := tab [(92, (S92_1 F noS))]
def sh95_1_l3 : Sh := ⟨[.lf (.ptr 0 0), .lf (.full 2), .lf (.int .i64)], [some ⟨none, [.int .i64, .int .i64, .int .i64, .int .i64, .full 1]⟩, some ⟨none, [.seq .str 0]⟩, some ⟨some false, [.seq (.int .i64) 0]⟩]⟩
noncomputable def G95_1_3 (F k : Nat) : LoopS := mkG sh95_1_l3 [0, 3, 4] (outT [(.exit 0, [3])]) (fun d K => f95_1_l3 F d.2.1.2.1 d.2.1.2.2.1 d.2.1.2.2.2.1 d.2.1.2.2.2.2.1 d.2.2.1.2.1 (fun (y5 : List Int) => K (.exit 0) [.tv (.lf (.full 2))] [some ⟨d.2.1.1, [.int .i64 d.2.1.2.1, .int .i64 d.2.1.2.2.1, .int .i64 d.2.1.2.2.2.1, .int .i64 d.2.1.2.2.2.2.1, .full 1]⟩, some ⟨d.2.2.1.1, [.seq .str 0 d.2.2.1.2.1]⟩, some ⟨false, [.seq (.int .i64) 0 y5]⟩]) k d.1.2.2.1 d.2.2.2.1.2.1) []
noncomputable def LT95_1 (F : Nat) : Nat → Option LoopS := ltab [(3, G95_1_3 F F)]
theorem L95_1_l3g (F k : Nat) (c92_1 : Int → Int → Int → Int → Int → List ByteArray → (ByteArray → Option Res) → Option Res)  (l3 : Int → Int → Int → Int → List ByteArray → (List Int → Option Res) → Nat → Int → List Int → Option Res) (X3 : LoopS) (d : sh95_1_l3.den) (K : KL) : (fun (v2 : Int) (v3 : Int) (v4 : Int) (v5 : Int) (v6 : List ByteArray) (K0 : (List Int → Option Res)) (k : Nat) (v1 : Int) (v7 : List Int) => cond (decide (v1 < ((v6.length : Nat) : Int))) (cond (decide ((0 : Int) ≤ v1 ∧ v1 < ((v6.length : Nat) : Int))) (cond (decide (0 + v1.toNat < v6.length)) (c92_1 v2 v3 v4 v5 v1 v6 (fun x8 => cond (!((v6.getD (0 + v1.toNat) ByteArray.empty).toList == x8.toList)) (cond (decide ((v7.length + 1) * 8 ≤ 70368744177664)) (l3 v2 v3 v4 v5 v6 K0 k (IntKind.i64.wrap (v1 + 1)) (v7 ++ [v1])) none) (l3 v2 v3 v4 v5 v6 K0 k (IntKind.i64.wrap (v1 + 1)) v7)) ) none) none) (K0 v7)) d.2.1.2.1 d.2.1.2.2.1 d.2.1.2.2.2.1 d.2.1.2.2.2.2.1 d.2.2.1.2.1 (fun (y5 : List Int) => K (.exit 0) [.tv (.lf (.full 2))] [some ⟨d.2.1.1, [.int .i64 d.2.1.2.1, .int .i64 d.2.1.2.2.1, .int .i64 d.2.1.2.2.2.1, .int .i64 d.2.1.2.2.2.2.1, .full 1]⟩, some ⟨d.2.2.1.1, [.seq .str 0 d.2.2.1.2.1]⟩, some ⟨false, [.seq (.int .i64) 0 y5]⟩]) k d.1.2.2.1 d.2.2.2.1.2.1 = roundOf Try.prog (tab [(92, (mkS sh92_1 (fun d K => c92_1 d.1.1.1 d.1.1.2.1 d.1.1.2.2.1 d.1.1.2.2.2.1 d.1.2.2.1 d.2.1.2.1 (fun (y0 : ByteArray) => K [.lf (.str y0)] [some ⟨d.2.1.1, [.seq .str 0 d.2.1.2.1]⟩])) noS))]) (xw []) 42 2 (ltab [(3, X3)]) (mkG sh95_1_l3 [0, 3, 4] (outT [(.exit 0, [3])]) (fun d K => l3 d.2.1.2.1 d.2.1.2.2.1 d.2.1.2.2.2.1 d.2.1.2.2.2.2.1 d.2.2.1.2.1 (fun (y5 : List Int) => K (.exit 0) [.tv (.lf (.full 2))] [some ⟨d.2.1.1, [.int .i64 d.2.1.2.1, .int .i64 d.2.1.2.2.1, .int .i64 d.2.1.2.2.2.1, .int .i64 d.2.1.2.2.2.2.1, .full 1]⟩, some ⟨d.2.2.1.1, [.seq .str 0 d.2.2.1.2.1]⟩, some ⟨false, [.seq (.int .i64) 0 y5]⟩]) k d.1.2.2.1 d.2.2.2.1.2.1) []) b95_0 (encT sh95_1_l3.vs d.1) (encH sh95_1_l3.h d.2) K := by kernel_rfl
theorem L95_1_3 (F : Nat) : LoopOK Try.prog (T95_1 F) (xw []) 42 2 (LT95_1 F) (G95_1_3 F F) b95_0 :=
  loopOK_of (s := sh95_1_l3) (live := [0, 3, 4]) (out := (outT [(.exit 0, [3])])) (mv := []) (fun k d K => f95_1_l3 F d.2.1.2.1 d.2.1.2.2.1 d.2.1.2.2.2.1 d.2.1.2.2.2.2.1 d.2.2.1.2.1 (fun (y5 : List Int) => K (.exit 0) [.tv (.lf (.full 2))] [some ⟨d.2.1.1, [.int .i64 d.2.1.2.1, .int .i64 d.2.1.2.2.1, .int .i64 d.2.1.2.2.2.1, .int .i64 d.2.1.2.2.2.2.1, .full 1]⟩, some ⟨d.2.2.1.1, [.seq .str 0 d.2.2.1.2.1]⟩, some ⟨false, [.seq (.int .i64) 0 y5]⟩]) k d.1.2.2.1 d.2.2.2.1.2.1) F (fun d K => by kernel_rfl)  (fun k d K => Eq.mp (by kernel_rfl) (L95_1_l3g F k (f92_1 F)  (f95_1_l3 F) (G95_1_3 F F) d K))
theorem E95_1g (F : Nat) (c92_1 : Int → Int → Int → Int → Int → List ByteArray → (ByteArray → Option Res) → Option Res) (l3 : Int → Int → Int → Int → List ByteArray → (List Int → Option Res) → Nat → Int → List Int → Option Res)  (d : sh95_1.den) (K : KF) : evBody Try.prog (tab [(92, (mkS sh92_1 (fun d K => c92_1 d.1.1.1 d.1.1.2.1 d.1.1.2.2.1 d.1.1.2.2.2.1 d.1.2.2.1 d.2.1.2.1 (fun (y0 : ByteArray) => K [.lf (.str y0)] [some ⟨d.2.1.1, [.seq .str 0 d.2.1.2.1]⟩])) noS))]) (xw []) 42 2 (ltab [(3, mkG sh95_1_l3 [0, 3, 4] (outT [(.exit 0, [3])]) (fun d K => l3 d.2.1.2.1 d.2.1.2.2.1 d.2.1.2.2.2.1 d.2.1.2.2.2.2.1 d.2.2.1.2.1 (fun (y5 : List Int) => K (.exit 0) [.tv (.lf (.full 2))] [some ⟨d.2.1.1, [.int .i64 d.2.1.2.1, .int .i64 d.2.1.2.2.1, .int .i64 d.2.1.2.2.2.1, .int .i64 d.2.1.2.2.2.2.1, .full 1]⟩, some ⟨d.2.2.1.1, [.seq .str 0 d.2.2.1.2.1]⟩, some ⟨false, [.seq (.int .i64) 0 y5]⟩]) F d.1.2.2.1 d.2.2.2.1.2.1) [])]) code95 Try.f95.results.toList (encT sh95_1.vs d.1) (encH sh95_1.h d.2) K = (fun (a1 : Int) (a2 : Int) (a3 : Int) (a4 : Int) (a5 : List ByteArray) (K0 : (List Int → Option Res)) => l3 a1 a2 a3 a4 a5 (fun x9 => K0 x9) F a1 []) d.2.1.2.1 d.2.1.2.2.1 d.2.1.2.2.2.1 d.2.1.2.2.2.2.1 d.2.2.1.2.1 (fun (y5 : List Int) => K [.lf (.full 2)] [some ⟨d.2.1.1, [.int .i64 d.2.1.2.1, .int .i64 d.2.1.2.2.1, .int .i64 d.2.1.2.2.2.1, .int .i64 d.2.1.2.2.2.2.1, .full 1]⟩, some ⟨d.2.2.1.1, [.seq .str 0 d.2.2.1.2.1]⟩, some ⟨false, [.seq (.int .i64) 0 y5]⟩]) := by kernel_rfl
theorem E95_1 (F : Nat) (d : sh95_1.den) (K : KF) : evBody Try.prog (T95_1 F) (xw []) 42 2 (LT95_1 F) code95 Try.f95.results.toList (encT sh95_1.vs d.1) (encH sh95_1.h d.2) K = f95_1 F d.2.1.2.1 d.2.1.2.2.1 d.2.1.2.2.2.1 d.2.1.2.2.2.2.1 d.2.2.1.2.1 (fun (y5 : List Int) => K [.lf (.full 2)] [some ⟨d.2.1.1, [.int .i64 d.2.1.2.1, .int .i64 d.2.1.2.2.1, .int .i64 d.2.1.2.2.2.1, .int .i64 d.2.1.2.2.2.2.1, .full 1]⟩, some ⟨d.2.2.1.1, [.seq .str 0 d.2.2.1.2.1]⟩, some ⟨false, [.seq (.int .i64) 0 y5]⟩]) := Eq.mp (by kernel_rfl) (E95_1g F (f92_1 F) (f95_1_l3 F)  d K)
theorem S95_1_ok (F : Nat) (o : Summ) (ho : SoundFn Try.prog 95 o) : SoundFn Try.prog 95 (S95_1 F o) :=
  soundFn_of (fn := Try.f95) (c := code95) rfl rfl (by kernel_rfl) (tab_cons (S92_1_ok F _ (noS_sound enter92)) tab_nil) (by kernel_rfl) (by kernel_rfl) ho (by rw [loops95]; exact (loopsOK_cons (by kernel_rfl) (L95_1_3 F) loopsOK_nil)) (by rw [scopes95]; exact scopesOK_nil) (by rw [ranges95]; exact rangesOK_nil) (E95_1 F)
end Go.Proofs.Ytjlolgpbidfmeaa.X
end

section
namespace Go.Proofs.Ytjlolgpbidfmeaa.X
open Go Go.Proofs.Ytjlolgpbidfmeaa.Ev Go.Proofs
set_option linter.unusedVariables false
set_option linter.unusedSectionVars false
/-! pentimentolaw12.same -/
noncomputable def f39_1 {β : Type} (F : Nat) (a1 : Int) (a2 : Int) (a3 : Int) (a4 : Int) (a5 : Int) (a6 : List ByteArray) (a7 : Int) (a8 : Int) (a9 : Int) (a10 : Int) (a11 : List ByteArray) (K0 : Bool → Option β) : Option β := f44_1 F a1 a2 a3 a4 a5 a6 (fun x1 x2 => f93_1 F a1 a7 a8 a9 a10 a11 (fun x3 x4 => f45_1 F a2 a3 a4 a5 a6 (cond ((a2 == a7) && ((a3 == a8) && ((a4 == a9) && (a5 == a10)))) (f46_1 F a2 a3 a4 a5 a6 (fun x5 => f94_1 F a7 a8 a9 a10 a11 (fun x6 => cond (x5.toList == x6.toList) (f42_1 F a2 a3 a4 a5 a6 (fun x7 => f41_1 F x7 a11 (fun x8 => cond x8 (cond (x1.toList == x3.toList) (cond (x2 == x4) (f43_1 F a2 a3 a4 a5 a6 (fun x9 => f95_1 F a7 a8 a9 a10 a11 (fun x10 => f37_1 F x9 x10 (fun x11 => K0 x11) ) ) ) (K0 false)) (K0 false)) (K0 false)) ) ) (K0 false)) ) ) (K0 false)) ) ) 
variable [FZ]
def sh39_1 : Sh := ⟨[.lf (.ptr 0 0), .lf (.ptr 2 0), .lf (.int .i64)], [some ⟨none, [.int .i64, .int .i64, .int .i64, .int .i64, .full 1]⟩, some ⟨none, [.seq .str 0]⟩, some ⟨none, [.int .i64, .int .i64, .int .i64, .int .i64, .full 3]⟩, some ⟨none, [.seq .str 0]⟩]⟩
noncomputable def S39_1 (F : Nat) (o : Summ) : Summ := mkS sh39_1 (fun d K => f39_1 F d.1.2.2.1 d.2.1.2.1 d.2.1.2.2.1 d.2.1.2.2.2.1 d.2.1.2.2.2.2.1 d.2.2.1.2.1 d.2.2.2.1.2.1 d.2.2.2.1.2.2.1 d.2.2.2.1.2.2.2.1 d.2.2.2.1.2.2.2.2.1 d.2.2.2.2.1.2.1 (fun (y0 : Bool) => K [.lf (.bool y0)] [some ⟨d.2.1.1, [.int .i64 d.2.1.2.1, .int .i64 d.2.1.2.2.1, .int .i64 d.2.1.2.2.2.1, .int .i64 d.2.1.2.2.2.2.1, .full 1]⟩, some ⟨d.2.2.1.1, [.seq .str 0 d.2.2.1.2.1]⟩, some ⟨d.2.2.2.1.1, [.int .i64 d.2.2.2.1.2.1, .int .i64 d.2.2.2.1.2.2.1, .int .i64 d.2.2.2.1.2.2.2.1, .int .i64 d.2.2.2.1.2.2.2.2.1, .full 3]⟩, some ⟨d.2.2.2.2.1.1, [.seq .str 0 d.2.2.2.2.1.2.1]⟩])) o
noncomputable def code39 : Code := bodyOf Try.f39
theorem scopes39 : scopesOf code39 = [] := by kernel_rfl
theorem ranges39 : rangesOf code39 = [] := by kernel_rfl
theorem loops39 : loopsOf code39 = [] := by kernel_rfl
theorem enter39 : ∀ args w, (callFunc 39 args).run Try.prog w = .ok (.enter 39 args) w := enter_of (fn := Try.f39) (by kernel_rfl) (by kernel_rfl) (by kernel_rfl)
noncomputable def T39_1 (F : Nat) : FuncId → Option Summ := tab [(37, (S37_1 F noS)), (41, (S41_1 F noS)), (42, (S42_1 F noS)), (43, (S43_1 F noS)), (44, (S44_1 F noS)), (45, (S45_1 F noS)), (46, (S46_1 F noS)), (93, (S93_1 F noS)), (94, (S94_1 F noS)), (95, (S95_1 F noS))]
noncomputable def LT39_1 (F : Nat) : Nat → Option LoopS := ltab []
theorem E39_1g (F : Nat) (c37_1 : List Int → List Int → (Bool → Option Res) → Option Res) (c41_1 : List ByteArray → List ByteArray → (Bool → Option Res) → Option Res) (c42_1 : Int → Int → Int → Int → List ByteArray → (List ByteArray → Option Res) → Option Res) (c43_1 : Int → Int → Int → Int → List ByteArray → (List Int → Option Res) → Option Res) (c44_1 : Int → Int → Int → Int → Int → List ByteArray → (ByteArray → Int → Option Res) → Option Res) (c45_1 : Int → Int → Int → Int → List ByteArray → (Option Res) → Option Res) (c46_1 : Int → Int → Int → Int → List ByteArray → (ByteArray → Option Res) → Option Res) (c93_1 : Int → Int → Int → Int → Int → List ByteArray → (ByteArray → Int → Option Res) → Option Res) (c94_1 : Int → Int → Int → Int → List ByteArray → (ByteArray → Option Res) → Option Res) (c95_1 : Int → Int → Int → Int → List ByteArray → (List Int → Option Res) → Option Res)   (d : sh39_1.den) (K : KF) : evBody Try.prog (tab [(37, (mkS sh37_1 (fun d K => c37_1 d.2.1.2.1 d.2.2.1.2.1 (fun (y0 : Bool) => K [.lf (.bool y0)] [some ⟨d.2.1.1, [.seq (.int .i64) 0 d.2.1.2.1]⟩, some ⟨d.2.2.1.1, [.seq (.int .i64) 0 d.2.2.1.2.1]⟩])) noS)), (41, (mkS sh41_1 (fun d K => c41_1 d.2.1.2.1 d.2.2.1.2.1 (fun (y0 : Bool) => K [.lf (.bool y0)] [some ⟨d.2.1.1, [.seq .str 0 d.2.1.2.1]⟩, some ⟨d.2.2.1.1, [.seq .str 0 d.2.2.1.2.1]⟩])) noS)), (42, (mkS sh42_1 (fun d K => c42_1 d.2.1.2.1 d.2.1.2.2.1 d.2.1.2.2.2.1 d.2.1.2.2.2.2.1 d.2.2.1.2.1 (fun (y5 : List ByteArray) => K [.lf (.full 2)] [some ⟨d.2.1.1, [.int .i64 d.2.1.2.1, .int .i64 d.2.1.2.2.1, .int .i64 d.2.1.2.2.2.1, .int .i64 d.2.1.2.2.2.2.1, .full 1]⟩, some ⟨d.2.2.1.1, [.seq .str 0 d.2.2.1.2.1]⟩, some ⟨false, [.seq .str 0 y5]⟩])) noS)), (43, (mkS sh43_1 (fun d K => c43_1 d.2.1.2.1 d.2.1.2.2.1 d.2.1.2.2.2.1 d.2.1.2.2.2.2.1 d.2.2.1.2.1 (fun (y5 : List Int) => K [.lf (.full 2)] [some ⟨d.2.1.1, [.int .i64 d.2.1.2.1, .int .i64 d.2.1.2.2.1, .int .i64 d.2.1.2.2.2.1, .int .i64 d.2.1.2.2.2.2.1, .full 1]⟩, some ⟨d.2.2.1.1, [.seq .str 0 d.2.2.1.2.1]⟩, some ⟨false, [.seq (.int .i64) 0 y5]⟩])) noS)), (44, (mkS sh44_1 (fun d K => c44_1 d.1.2.1 d.2.1.2.1 d.2.1.2.2.1 d.2.1.2.2.2.1 d.2.1.2.2.2.2.1 d.2.2.1.2.1 (fun (y0 : ByteArray) (y1 : Int) => K [.lf (.str y0), .lf (.int .i64 y1)] [some ⟨d.2.1.1, [.int .i64 d.2.1.2.1, .int .i64 d.2.1.2.2.1, .int .i64 d.2.1.2.2.2.1, .int .i64 d.2.1.2.2.2.2.1, .full 1]⟩, some ⟨d.2.2.1.1, [.seq .str 0 d.2.2.1.2.1]⟩])) noS)), (45, (mkS sh45_1 (fun d K => c45_1 d.2.1.2.1 d.2.1.2.2.1 d.2.1.2.2.2.1 d.2.1.2.2.2.2.1 d.2.2.1.2.1 (K [.agg [.int .i64 d.2.1.2.1, .int .i64 d.2.1.2.2.1, .int .i64 d.2.1.2.2.2.1, .int .i64 d.2.1.2.2.2.2.1]] [some ⟨d.2.1.1, [.int .i64 d.2.1.2.1, .int .i64 d.2.1.2.2.1, .int .i64 d.2.1.2.2.2.1, .int .i64 d.2.1.2.2.2.2.1, .full 1]⟩, some ⟨d.2.2.1.1, [.seq .str 0 d.2.2.1.2.1]⟩])) noS)), (46, (mkS sh46_1 (fun d K => c46_1 d.2.1.2.1 d.2.1.2.2.1 d.2.1.2.2.2.1 d.2.1.2.2.2.2.1 d.2.2.1.2.1 (fun (y0 : ByteArray) => K [.lf (.str y0)] [some ⟨d.2.1.1, [.int .i64 d.2.1.2.1, .int .i64 d.2.1.2.2.1, .int .i64 d.2.1.2.2.2.1, .int .i64 d.2.1.2.2.2.2.1, .full 1]⟩, some ⟨d.2.2.1.1, [.seq .str 0 d.2.2.1.2.1]⟩])) noS)), (93, (mkS sh93_1 (fun d K => c93_1 d.1.2.1 d.2.1.2.1 d.2.1.2.2.1 d.2.1.2.2.2.1 d.2.1.2.2.2.2.1 d.2.2.1.2.1 (fun (y0 : ByteArray) (y1 : Int) => K [.lf (.str y0), .lf (.int .i64 y1)] [some ⟨d.2.1.1, [.int .i64 d.2.1.2.1, .int .i64 d.2.1.2.2.1, .int .i64 d.2.1.2.2.2.1, .int .i64 d.2.1.2.2.2.2.1, .full 1]⟩, some ⟨d.2.2.1.1, [.seq .str 0 d.2.2.1.2.1]⟩])) noS)), (94, (mkS sh94_1 (fun d K => c94_1 d.2.1.2.1 d.2.1.2.2.1 d.2.1.2.2.2.1 d.2.1.2.2.2.2.1 d.2.2.1.2.1 (fun (y0 : ByteArray) => K [.lf (.str y0)] [some ⟨d.2.1.1, [.int .i64 d.2.1.2.1, .int .i64 d.2.1.2.2.1, .int .i64 d.2.1.2.2.2.1, .int .i64 d.2.1.2.2.2.2.1, .full 1]⟩, some ⟨d.2.2.1.1, [.seq .str 0 d.2.2.1.2.1]⟩])) noS)), (95, (mkS sh95_1 (fun d K => c95_1 d.2.1.2.1 d.2.1.2.2.1 d.2.1.2.2.2.1 d.2.1.2.2.2.2.1 d.2.2.1.2.1 (fun (y5 : List Int) => K [.lf (.full 2)] [some ⟨d.2.1.1, [.int .i64 d.2.1.2.1, .int .i64 d.2.1.2.2.1, .int .i64 d.2.1.2.2.2.1, .int .i64 d.2.1.2.2.2.2.1, .full 1]⟩, some ⟨d.2.2.1.1, [.seq .str 0 d.2.2.1.2.1]⟩, some ⟨false, [.seq (.int .i64) 0 y5]⟩])) noS))]) (xw []) 63 4 (ltab []) code39 Try.f39.results.toList (encT sh39_1.vs d.1) (encH sh39_1.h d.2) K = (fun (a1 : Int) (a2 : Int) (a3 : Int) (a4 : Int) (a5 : Int) (a6 : List ByteArray) (a7 : Int) (a8 : Int) (a9 : Int) (a10 : Int) (a11 : List ByteArray) (K0 : (Bool → Option Res)) => c44_1 a1 a2 a3 a4 a5 a6 (fun x1 x2 => c93_1 a1 a7 a8 a9 a10 a11 (fun x3 x4 => c45_1 a2 a3 a4 a5 a6 (cond ((a2 == a7) && ((a3 == a8) && ((a4 == a9) && (a5 == a10)))) (c46_1 a2 a3 a4 a5 a6 (fun x5 => c94_1 a7 a8 a9 a10 a11 (fun x6 => cond (x5.toList == x6.toList) (c42_1 a2 a3 a4 a5 a6 (fun x7 => c41_1 x7 a11 (fun x8 => cond x8 (cond (x1.toList == x3.toList) (cond (x2 == x4) (c43_1 a2 a3 a4 a5 a6 (fun x9 => c95_1 a7 a8 a9 a10 a11 (fun x10 => c37_1 x9 x10 (fun x11 => K0 x11) ) ) ) (K0 false)) (K0 false)) (K0 false)) ) ) (K0 false)) ) ) (K0 false)) ) ) ) d.1.2.2.1 d.2.1.2.1 d.2.1.2.2.1 d.2.1.2.2.2.1 d.2.1.2.2.2.2.1 d.2.2.1.2.1 d.2.2.2.1.2.1 d.2.2.2.1.2.2.1 d.2.2.2.1.2.2.2.1 d.2.2.2.1.2.2.2.2.1 d.2.2.2.2.1.2.1 (fun (y0 : Bool) => K [.lf (.bool y0)] [some ⟨d.2.1.1, [.int .i64 d.2.1.2.1, .int .i64 d.2.1.2.2.1, .int .i64 d.2.1.2.2.2.1, .int .i64 d.2.1.2.2.2.2.1, .full 1]⟩, some ⟨d.2.2.1.1, [.seq .str 0 d.2.2.1.2.1]⟩, some ⟨d.2.2.2.1.1, [.int .i64 d.2.2.2.1.2.1, .int .i64 d.2.2.2.1.2.2.1, .int .i64 d.2.2.2.1.2.2.2.1, .int .i64 d.2.2.2.1.2.2.2.2.1, .full 3]⟩, some ⟨d.2.2.2.2.1.1, [.seq .str 0 d.2.2.2.2.1.2.1]⟩]) := by kernel_rfl
theorem E39_1 (F : Nat) (d : sh39_1.den) (K : KF) : evBody Try.prog (T39_1 F) (xw []) 63 4 (LT39_1 F) code39 Try.f39.results.toList (encT sh39_1.vs d.1) (encH sh39_1.h d.2) K = f39_1 F d.1.2.2.1 d.2.1.2.1 d.2.1.2.2.1 d.2.1.2.2.2.1 d.2.1.2.2.2.2.1 d.2.2.1.2.1 d.2.2.2.1.2.1 d.2.2.2.1.2.2.1 d.2.2.2.1.2.2.2.1 d.2.2.2.1.2.2.2.2.1 d.2.2.2.2.1.2.1 (fun (y0 : Bool) => K [.lf (.bool y0)] [some ⟨d.2.1.1, [.int .i64 d.2.1.2.1, .int .i64 d.2.1.2.2.1, .int .i64 d.2.1.2.2.2.1, .int .i64 d.2.1.2.2.2.2.1, .full 1]⟩, some ⟨d.2.2.1.1, [.seq .str 0 d.2.2.1.2.1]⟩, some ⟨d.2.2.2.1.1, [.int .i64 d.2.2.2.1.2.1, .int .i64 d.2.2.2.1.2.2.1, .int .i64 d.2.2.2.1.2.2.2.1, .int .i64 d.2.2.2.1.2.2.2.2.1, .full 3]⟩, some ⟨d.2.2.2.2.1.1, [.seq .str 0 d.2.2.2.2.1.2.1]⟩]) := Eq.mp (by kernel_rfl) (E39_1g F (f37_1 F) (f41_1 F) (f42_1 F) (f43_1 F) (f44_1 F) (f45_1 F) (f46_1 F) (f93_1 F) (f94_1 F) (f95_1 F)   d K)
theorem S39_1_ok (F : Nat) (o : Summ) (ho : SoundFn Try.prog 39 o) : SoundFn Try.prog 39 (S39_1 F o) :=
  soundFn_of (fn := Try.f39) (c := code39) rfl rfl (by kernel_rfl) (tab_cons (S37_1_ok F _ (noS_sound enter37)) (tab_cons (S41_1_ok F _ (noS_sound enter41)) (tab_cons (S42_1_ok F _ (noS_sound enter42)) (tab_cons (S43_1_ok F _ (noS_sound enter43)) (tab_cons (S44_1_ok F _ (noS_sound enter44)) (tab_cons (S45_1_ok F _ (noS_sound enter45)) (tab_cons (S46_1_ok F _ (noS_sound enter46)) (tab_cons (S93_1_ok F _ (noS_sound enter93)) (tab_cons (S94_1_ok F _ (noS_sound enter94)) (tab_cons (S95_1_ok F _ (noS_sound enter95)) tab_nil)))))))))) (by kernel_rfl) (by kernel_rfl) ho (by rw [loops39]; exact loopsOK_nil) (by rw [scopes39]; exact scopesOK_nil) (by rw [ranges39]; exact rangesOK_nil) (E39_1 F)
end Go.Proofs.Ytjlolgpbidfmeaa.X
end

section
namespace Go.Proofs.Ytjlolgpbidfmeaa.X
open Go Go.Proofs.Ytjlolgpbidfmeaa.Ev Go.Proofs
set_option linter.unusedVariables false
set_option linter.unusedSectionVars false
/-! tree.Tree).All -/
noncomputable def f42_568 {β : Type} (F : Nat)  (K0 : List ByteArray → Option β) : Option β := K0 []
variable [FZ]
def sh42_568 : Sh := ⟨[.lf (.nilp)], []⟩
noncomputable def S42_568 (F : Nat) (o : Summ) : Summ := mkS sh42_568 (fun d K => f42_568 F (fun (y0 : List ByteArray) => K [.lf (.full 0)] [some ⟨false, [.seq .str 0 y0]⟩])) o
noncomputable def T42_568 (F : Nat) : FuncId → Option Summ := tab []
noncomputable def LT42_568 (F : Nat) : Nat → Option LoopS := ltab []
theorem E42_568g (F : Nat)    (d : sh42_568.den) (K : KF) : evBody Try.prog (tab []) (xw []) 10 0 (ltab []) code42 Try.f42.results.toList (encT sh42_568.vs d.1) (encH sh42_568.h d.2) K = (fun (K0 : (List ByteArray → Option Res)) => K0 []) (fun (y0 : List ByteArray) => K [.lf (.full 0)] [some ⟨false, [.seq .str 0 y0]⟩]) := by kernel_rfl
theorem E42_568 (F : Nat) (d : sh42_568.den) (K : KF) : evBody Try.prog (T42_568 F) (xw []) 10 0 (LT42_568 F) code42 Try.f42.results.toList (encT sh42_568.vs d.1) (encH sh42_568.h d.2) K = f42_568 F (fun (y0 : List ByteArray) => K [.lf (.full 0)] [some ⟨false, [.seq .str 0 y0]⟩]) := Eq.mp (by kernel_rfl) (E42_568g F    d K)
theorem S42_568_ok (F : Nat) (o : Summ) (ho : SoundFn Try.prog 42 o) : SoundFn Try.prog 42 (S42_568 F o) :=
  soundFn_of (fn := Try.f42) (c := code42) rfl rfl (by kernel_rfl) tab_nil (by kernel_rfl) (by kernel_rfl) ho (by rw [loops42]; exact loopsOK_nil) (by rw [scopes42]; exact scopesOK_nil) (by rw [ranges42]; exact rangesOK_nil) (E42_568 F)
end Go.Proofs.Ytjlolgpbidfmeaa.X
end

section
namespace Go.Proofs.Ytjlolgpbidfmeaa.X
open Go Go.Proofs.Ytjlolgpbidfmeaa.Ev Go.Proofs
set_option linter.unusedVariables false
set_option linter.unusedSectionVars false
/-! tree.Tree).Bad -/
noncomputable def f43_568 {β : Type} (F : Nat)  (K0 : List Int → Option β) : Option β := K0 []
variable [FZ]
def sh43_568 : Sh := ⟨[.lf (.nilp)], []⟩
noncomputable def S43_568 (F : Nat) (o : Summ) : Summ := mkS sh43_568 (fun d K => f43_568 F (fun (y0 : List Int) => K [.lf (.full 0)] [some ⟨false, [.seq (.int .i64) 0 y0]⟩])) o
noncomputable def T43_568 (F : Nat) : FuncId → Option Summ := tab []
noncomputable def LT43_568 (F : Nat) : Nat → Option LoopS := ltab []
theorem E43_568g (F : Nat)    (d : sh43_568.den) (K : KF) : evBody Try.prog (tab []) (xw []) 37 0 (ltab []) code43 Try.f43.results.toList (encT sh43_568.vs d.1) (encH sh43_568.h d.2) K = (fun (K0 : (List Int → Option Res)) => K0 []) (fun (y0 : List Int) => K [.lf (.full 0)] [some ⟨false, [.seq (.int .i64) 0 y0]⟩]) := by kernel_rfl
theorem E43_568 (F : Nat) (d : sh43_568.den) (K : KF) : evBody Try.prog (T43_568 F) (xw []) 37 0 (LT43_568 F) code43 Try.f43.results.toList (encT sh43_568.vs d.1) (encH sh43_568.h d.2) K = f43_568 F (fun (y0 : List Int) => K [.lf (.full 0)] [some ⟨false, [.seq (.int .i64) 0 y0]⟩]) := Eq.mp (by kernel_rfl) (E43_568g F    d K)
theorem S43_568_ok (F : Nat) (o : Summ) (ho : SoundFn Try.prog 43 o) : SoundFn Try.prog 43 (S43_568 F o) :=
  soundFn_of (fn := Try.f43) (c := code43) rfl rfl (by kernel_rfl) tab_nil (by kernel_rfl) (by kernel_rfl) ho (by rw [loops43]; exact (loopsOK_skip (by kernel_rfl) loopsOK_nil)) (by rw [scopes43]; exact scopesOK_nil) (by rw [ranges43]; exact rangesOK_nil) (E43_568 F)
end Go.Proofs.Ytjlolgpbidfmeaa.X
end

section
namespace Go.Proofs.Ytjlolgpbidfmeaa.X
open Go Go.Proofs.Ytjlolgpbidfmeaa.Ev Go.Proofs
set_option linter.unusedVariables false
set_option linter.unusedSectionVars false
/-! tree.Tree).Digest -/
noncomputable def f44_6206 {β : Type} (F : Nat) (a1 : Int) (K0 : Option β) : Option β := K0
variable [FZ]
def sh44_6206 : Sh := ⟨[.lf (.nilp), .lf (.int .i64)], []⟩
noncomputable def S44_6206 (F : Nat) (o : Summ) : Summ := mkS sh44_6206 (fun d K => f44_6206 F d.1.2.1 (K [.lf (.str ByteArray.empty), .lf (.int .i64 1)] [])) o
noncomputable def T44_6206 (F : Nat) : FuncId → Option Summ := tab []
noncomputable def LT44_6206 (F : Nat) : Nat → Option LoopS := ltab []
theorem E44_6206g (F : Nat)    (d : sh44_6206.den) (K : KF) : evBody Try.prog (tab []) (xw []) 28 0 (ltab []) code44 Try.f44.results.toList (encT sh44_6206.vs d.1) (encH sh44_6206.h d.2) K = (fun (a1 : Int) (K0 : (Option Res)) => K0) d.1.2.1 (K [.lf (.str ByteArray.empty), .lf (.int .i64 1)] []) := by kernel_rfl
theorem E44_6206 (F : Nat) (d : sh44_6206.den) (K : KF) : evBody Try.prog (T44_6206 F) (xw []) 28 0 (LT44_6206 F) code44 Try.f44.results.toList (encT sh44_6206.vs d.1) (encH sh44_6206.h d.2) K = f44_6206 F d.1.2.1 (K [.lf (.str ByteArray.empty), .lf (.int .i64 1)] []) := Eq.mp (by kernel_rfl) (E44_6206g F    d K)
theorem S44_6206_ok (F : Nat) (o : Summ) (ho : SoundFn Try.prog 44 o) : SoundFn Try.prog 44 (S44_6206 F o) :=
  soundFn_of (fn := Try.f44) (c := code44) rfl rfl (by kernel_rfl) tab_nil (by kernel_rfl) (by kernel_rfl) ho (by rw [loops44]; exact loopsOK_nil) (by rw [scopes44]; exact scopesOK_nil) (by rw [ranges44]; exact rangesOK_nil) (E44_6206 F)
end Go.Proofs.Ytjlolgpbidfmeaa.X
end

section
namespace Go.Proofs.Ytjlolgpbidfmeaa.X
open Go Go.Proofs.Ytjlolgpbidfmeaa.Ev Go.Proofs
set_option linter.unusedVariables false
set_option linter.unusedSectionVars false
/-! tree.Tree).Geom -/
noncomputable def f45_568 {β : Type} (F : Nat)  (K0 : Option β) : Option β := K0
variable [FZ]
def sh45_568 : Sh := ⟨[.lf (.nilp)], []⟩
noncomputable def S45_568 (F : Nat) (o : Summ) : Summ := mkS sh45_568 (fun d K => f45_568 F (K [.agg [.int .i64 0, .int .i64 0, .int .i64 0, .int .i64 0]] [])) o
noncomputable def T45_568 (F : Nat) : FuncId → Option Summ := tab []
noncomputable def LT45_568 (F : Nat) : Nat → Option LoopS := ltab []
theorem E45_568g (F : Nat)    (d : sh45_568.den) (K : KF) : evBody Try.prog (tab []) (xw []) 10 0 (ltab []) code45 Try.f45.results.toList (encT sh45_568.vs d.1) (encH sh45_568.h d.2) K = (fun (K0 : (Option Res)) => K0) (K [.agg [.int .i64 0, .int .i64 0, .int .i64 0, .int .i64 0]] []) := by kernel_rfl
theorem E45_568 (F : Nat) (d : sh45_568.den) (K : KF) : evBody Try.prog (T45_568 F) (xw []) 10 0 (LT45_568 F) code45 Try.f45.results.toList (encT sh45_568.vs d.1) (encH sh45_568.h d.2) K = f45_568 F (K [.agg [.int .i64 0, .int .i64 0, .int .i64 0, .int .i64 0]] []) := Eq.mp (by kernel_rfl) (E45_568g F    d K)
theorem S45_568_ok (F : Nat) (o : Summ) (ho : SoundFn Try.prog 45 o) : SoundFn Try.prog 45 (S45_568 F o) :=
  soundFn_of (fn := Try.f45) (c := code45) rfl rfl (by kernel_rfl) tab_nil (by kernel_rfl) (by kernel_rfl) ho (by rw [loops45]; exact loopsOK_nil) (by rw [scopes45]; exact scopesOK_nil) (by rw [ranges45]; exact rangesOK_nil) (E45_568 F)
end Go.Proofs.Ytjlolgpbidfmeaa.X
end

section
namespace Go.Proofs.Ytjlolgpbidfmeaa.X
open Go Go.Proofs.Ytjlolgpbidfmeaa.Ev Go.Proofs
set_option linter.unusedVariables false
set_option linter.unusedSectionVars false
/-! tree.Tree).Root -/
noncomputable def f46_568 {β : Type} (F : Nat)  (K0 : Option β) : Option β := K0
variable [FZ]
def sh46_568 : Sh := ⟨[.lf (.nilp)], []⟩
noncomputable def S46_568 (F : Nat) (o : Summ) : Summ := mkS sh46_568 (fun d K => f46_568 F (K [.lf (.str ByteArray.empty)] [])) o
noncomputable def T46_568 (F : Nat) : FuncId → Option Summ := tab []
noncomputable def LT46_568 (F : Nat) : Nat → Option LoopS := ltab []
theorem E46_568g (F : Nat)    (d : sh46_568.den) (K : KF) : evBody Try.prog (tab []) (xw []) 17 0 (ltab []) code46 Try.f46.results.toList (encT sh46_568.vs d.1) (encH sh46_568.h d.2) K = (fun (K0 : (Option Res)) => K0) (K [.lf (.str ByteArray.empty)] []) := by kernel_rfl
theorem E46_568 (F : Nat) (d : sh46_568.den) (K : KF) : evBody Try.prog (T46_568 F) (xw []) 17 0 (LT46_568 F) code46 Try.f46.results.toList (encT sh46_568.vs d.1) (encH sh46_568.h d.2) K = f46_568 F (K [.lf (.str ByteArray.empty)] []) := Eq.mp (by kernel_rfl) (E46_568g F    d K)
theorem S46_568_ok (F : Nat) (o : Summ) (ho : SoundFn Try.prog 46 o) : SoundFn Try.prog 46 (S46_568 F o) :=
  soundFn_of (fn := Try.f46) (c := code46) rfl rfl (by kernel_rfl) tab_nil (by kernel_rfl) (by kernel_rfl) ho (by rw [loops46]; exact loopsOK_nil) (by rw [scopes46]; exact scopesOK_nil) (by rw [ranges46]; exact rangesOK_nil) (E46_568 F)
end Go.Proofs.Ytjlolgpbidfmeaa.X
end

section
namespace Go.Proofs.Ytjlolgpbidfmeaa.X
open Go Go.Proofs.Ytjlolgpbidfmeaa.Ev Go.Proofs
set_option linter.unusedVariables false
set_option linter.unusedSectionVars false
/-! pentimentolaw12.same -/
noncomputable def f39_8145 {β : Type} (F : Nat) (a1 : Int) (a2 : Int) (a3 : Int) (a4 : Int) (a5 : Int) (a6 : List ByteArray) (K0 : Bool → Option β) : Option β := f44_6206 F a1 (f93_1 F a1 a2 a3 a4 a5 a6 (fun x1 x2 => f45_568 F  (cond (((0 : Int) == a2) && (((0 : Int) == a3) && (((0 : Int) == a4) && ((0 : Int) == a5)))) (f46_568 F  (f94_1 F a2 a3 a4 a5 a6 (fun x3 => cond (ByteArray.empty.toList == x3.toList) (f42_568 F  (fun x4 => f41_1 F x4 a6 (fun x5 => cond x5 (cond (ByteArray.empty.toList == x1.toList) (cond ((1 : Int) == x2) (f43_568 F  (fun x6 => f95_1 F a2 a3 a4 a5 a6 (fun x7 => f37_1 F x6 x7 (fun x8 => K0 x8) ) ) ) (K0 false)) (K0 false)) (K0 false)) ) ) (K0 false)) ) ) (K0 false)) ) ) 
variable [FZ]
def sh39_8145 : Sh := ⟨[.lf (.nilp), .lf (.ptr 0 0), .lf (.int .i64)], [some ⟨none, [.int .i64, .int .i64, .int .i64, .int .i64, .full 1]⟩, some ⟨none, [.seq .str 0]⟩]⟩
noncomputable def S39_8145 (F : Nat) (o : Summ) : Summ := mkS sh39_8145 (fun d K => f39_8145 F d.1.2.2.1 d.2.1.2.1 d.2.1.2.2.1 d.2.1.2.2.2.1 d.2.1.2.2.2.2.1 d.2.2.1.2.1 (fun (y0 : Bool) => K [.lf (.bool y0)] [some ⟨d.2.1.1, [.int .i64 d.2.1.2.1, .int .i64 d.2.1.2.2.1, .int .i64 d.2.1.2.2.2.1, .int .i64 d.2.1.2.2.2.2.1, .full 1]⟩, some ⟨d.2.2.1.1, [.seq .str 0 d.2.2.1.2.1]⟩])) o
noncomputable def T39_8145 (F : Nat) : FuncId → Option Summ := tab [(37, (S37_1 F noS)), (41, (S41_1 F noS)), (42, (S42_568 F noS)), (43, (S43_568 F noS)), (44, (S44_6206 F noS)), (45, (S45_568 F noS)), (46, (S46_568 F noS)), (93, (S93_1 F noS)), (94, (S94_1 F noS)), (95, (S95_1 F noS))]
noncomputable def LT39_8145 (F : Nat) : Nat → Option LoopS := ltab []
theorem E39_8145g (F : Nat) (c37_1 : List Int → List Int → (Bool → Option Res) → Option Res) (c41_1 : List ByteArray → List ByteArray → (Bool → Option Res) → Option Res) (c42_568 : (List ByteArray → Option Res) → Option Res) (c43_568 : (List Int → Option Res) → Option Res) (c44_6206 : Int → (Option Res) → Option Res) (c45_568 : (Option Res) → Option Res) (c46_568 : (Option Res) → Option Res) (c93_1 : Int → Int → Int → Int → Int → List ByteArray → (ByteArray → Int → Option Res) → Option Res) (c94_1 : Int → Int → Int → Int → List ByteArray → (ByteArray → Option Res) → Option Res) (c95_1 : Int → Int → Int → Int → List ByteArray → (List Int → Option Res) → Option Res)   (d : sh39_8145.den) (K : KF) : evBody Try.prog (tab [(37, (mkS sh37_1 (fun d K => c37_1 d.2.1.2.1 d.2.2.1.2.1 (fun (y0 : Bool) => K [.lf (.bool y0)] [some ⟨d.2.1.1, [.seq (.int .i64) 0 d.2.1.2.1]⟩, some ⟨d.2.2.1.1, [.seq (.int .i64) 0 d.2.2.1.2.1]⟩])) noS)), (41, (mkS sh41_1 (fun d K => c41_1 d.2.1.2.1 d.2.2.1.2.1 (fun (y0 : Bool) => K [.lf (.bool y0)] [some ⟨d.2.1.1, [.seq .str 0 d.2.1.2.1]⟩, some ⟨d.2.2.1.1, [.seq .str 0 d.2.2.1.2.1]⟩])) noS)), (42, (mkS sh42_568 (fun d K => c42_568 (fun (y0 : List ByteArray) => K [.lf (.full 0)] [some ⟨false, [.seq .str 0 y0]⟩])) noS)), (43, (mkS sh43_568 (fun d K => c43_568 (fun (y0 : List Int) => K [.lf (.full 0)] [some ⟨false, [.seq (.int .i64) 0 y0]⟩])) noS)), (44, (mkS sh44_6206 (fun d K => c44_6206 d.1.2.1 (K [.lf (.str ByteArray.empty), .lf (.int .i64 1)] [])) noS)), (45, (mkS sh45_568 (fun d K => c45_568 (K [.agg [.int .i64 0, .int .i64 0, .int .i64 0, .int .i64 0]] [])) noS)), (46, (mkS sh46_568 (fun d K => c46_568 (K [.lf (.str ByteArray.empty)] [])) noS)), (93, (mkS sh93_1 (fun d K => c93_1 d.1.2.1 d.2.1.2.1 d.2.1.2.2.1 d.2.1.2.2.2.1 d.2.1.2.2.2.2.1 d.2.2.1.2.1 (fun (y0 : ByteArray) (y1 : Int) => K [.lf (.str y0), .lf (.int .i64 y1)] [some ⟨d.2.1.1, [.int .i64 d.2.1.2.1, .int .i64 d.2.1.2.2.1, .int .i64 d.2.1.2.2.2.1, .int .i64 d.2.1.2.2.2.2.1, .full 1]⟩, some ⟨d.2.2.1.1, [.seq .str 0 d.2.2.1.2.1]⟩])) noS)), (94, (mkS sh94_1 (fun d K => c94_1 d.2.1.2.1 d.2.1.2.2.1 d.2.1.2.2.2.1 d.2.1.2.2.2.2.1 d.2.2.1.2.1 (fun (y0 : ByteArray) => K [.lf (.str y0)] [some ⟨d.2.1.1, [.int .i64 d.2.1.2.1, .int .i64 d.2.1.2.2.1, .int .i64 d.2.1.2.2.2.1, .int .i64 d.2.1.2.2.2.2.1, .full 1]⟩, some ⟨d.2.2.1.1, [.seq .str 0 d.2.2.1.2.1]⟩])) noS)), (95, (mkS sh95_1 (fun d K => c95_1 d.2.1.2.1 d.2.1.2.2.1 d.2.1.2.2.2.1 d.2.1.2.2.2.2.1 d.2.2.1.2.1 (fun (y5 : List Int) => K [.lf (.full 2)] [some ⟨d.2.1.1, [.int .i64 d.2.1.2.1, .int .i64 d.2.1.2.2.1, .int .i64 d.2.1.2.2.2.1, .int .i64 d.2.1.2.2.2.2.1, .full 1]⟩, some ⟨d.2.2.1.1, [.seq .str 0 d.2.2.1.2.1]⟩, some ⟨false, [.seq (.int .i64) 0 y5]⟩])) noS))]) (xw []) 63 2 (ltab []) code39 Try.f39.results.toList (encT sh39_8145.vs d.1) (encH sh39_8145.h d.2) K = (fun (a1 : Int) (a2 : Int) (a3 : Int) (a4 : Int) (a5 : Int) (a6 : List ByteArray) (K0 : (Bool → Option Res)) => c44_6206 a1 (c93_1 a1 a2 a3 a4 a5 a6 (fun x1 x2 => c45_568  (cond (((0 : Int) == a2) && (((0 : Int) == a3) && (((0 : Int) == a4) && ((0 : Int) == a5)))) (c46_568  (c94_1 a2 a3 a4 a5 a6 (fun x3 => cond (ByteArray.empty.toList == x3.toList) (c42_568  (fun x4 => c41_1 x4 a6 (fun x5 => cond x5 (cond (ByteArray.empty.toList == x1.toList) (cond ((1 : Int) == x2) (c43_568  (fun x6 => c95_1 a2 a3 a4 a5 a6 (fun x7 => c37_1 x6 x7 (fun x8 => K0 x8) ) ) ) (K0 false)) (K0 false)) (K0 false)) ) ) (K0 false)) ) ) (K0 false)) ) ) ) d.1.2.2.1 d.2.1.2.1 d.2.1.2.2.1 d.2.1.2.2.2.1 d.2.1.2.2.2.2.1 d.2.2.1.2.1 (fun (y0 : Bool) => K [.lf (.bool y0)] [some ⟨d.2.1.1, [.int .i64 d.2.1.2.1, .int .i64 d.2.1.2.2.1, .int .i64 d.2.1.2.2.2.1, .int .i64 d.2.1.2.2.2.2.1, .full 1]⟩, some ⟨d.2.2.1.1, [.seq .str 0 d.2.2.1.2.1]⟩]) := by kernel_rfl
theorem E39_8145 (F : Nat) (d : sh39_8145.den) (K : KF) : evBody Try.prog (T39_8145 F) (xw []) 63 2 (LT39_8145 F) code39 Try.f39.results.toList (encT sh39_8145.vs d.1) (encH sh39_8145.h d.2) K = f39_8145 F d.1.2.2.1 d.2.1.2.1 d.2.1.2.2.1 d.2.1.2.2.2.1 d.2.1.2.2.2.2.1 d.2.2.1.2.1 (fun (y0 : Bool) => K [.lf (.bool y0)] [some ⟨d.2.1.1, [.int .i64 d.2.1.2.1, .int .i64 d.2.1.2.2.1, .int .i64 d.2.1.2.2.2.1, .int .i64 d.2.1.2.2.2.2.1, .full 1]⟩, some ⟨d.2.2.1.1, [.seq .str 0 d.2.2.1.2.1]⟩]) := Eq.mp (by kernel_rfl) (E39_8145g F (f37_1 F) (f41_1 F) (f42_568 F) (f43_568 F) (f44_6206 F) (f45_568 F) (f46_568 F) (f93_1 F) (f94_1 F) (f95_1 F)   d K)
theorem S39_8145_ok (F : Nat) (o : Summ) (ho : SoundFn Try.prog 39 o) : SoundFn Try.prog 39 (S39_8145 F o) :=
  soundFn_of (fn := Try.f39) (c := code39) rfl rfl (by kernel_rfl) (tab_cons (S37_1_ok F _ (noS_sound enter37)) (tab_cons (S41_1_ok F _ (noS_sound enter41)) (tab_cons (S42_568_ok F _ (noS_sound enter42)) (tab_cons (S43_568_ok F _ (noS_sound enter43)) (tab_cons (S44_6206_ok F _ (noS_sound enter44)) (tab_cons (S45_568_ok F _ (noS_sound enter45)) (tab_cons (S46_568_ok F _ (noS_sound enter46)) (tab_cons (S93_1_ok F _ (noS_sound enter93)) (tab_cons (S94_1_ok F _ (noS_sound enter94)) (tab_cons (S95_1_ok F _ (noS_sound enter95)) tab_nil)))))))))) (by kernel_rfl) (by kernel_rfl) ho (by rw [loops39]; exact loopsOK_nil) (by rw [scopes39]; exact scopesOK_nil) (by rw [ranges39]; exact rangesOK_nil) (E39_8145 F)
end Go.Proofs.Ytjlolgpbidfmeaa.X
end

section
namespace Go.Proofs.Ytjlolgpbidfmeaa.X
open Go Go.Proofs.Ytjlolgpbidfmeaa.Ev Go.Proofs
set_option linter.unusedVariables false
set_option linter.unusedSectionVars false
/-! geom.Parent -/
noncomputable def f125_1 {β : Type} (F : Nat) (a1 : Int) (a2 : Int) (a3 : Int) (a4 : Int) (a5 : Int) (K0 : Int → Option β) : Option β := f123_1 F a1 a2 a3 a4 a5 (fun x1 x2 x3 => cond (!x3) (K0 (-1)) (f81_1 F a1 a2 a3 a4 (fun x4 => cond (a5 == x4) (K0 (-1)) (cond (decide (a2 = 0)) none (f124_1 F a1 a2 a3 a4 (fun x5 => cond (decide ((0 : Int) ≤ x1 ∧ x1 < ((x5.length : Nat) : Int))) (cond (decide (0 + x1.toNat < x5.length)) (K0 (IntKind.i64.wrap ((IntKind.i64.wrap (x2 + (x5.getD (0 + x1.toNat) 0))) + (IntKind.i64.wrap ((IntKind.i64.wrap (a5 - x2)).tdiv a2))))) none) none) ))) )) 
variable [FZ]
def sh125_1 : Sh := ⟨[.agg [.int .i64, .int .i64, .int .i64, .int .i64], .lf (.int .i64)], []⟩
noncomputable def S125_1 (F : Nat) (o : Summ) : Summ := mkS sh125_1 (fun d K => f125_1 F d.1.1.1 d.1.1.2.1 d.1.1.2.2.1 d.1.1.2.2.2.1 d.1.2.1 (fun (y0 : Int) => K [.lf (.int .i64 y0)] [])) o
noncomputable def code125 : Code := bodyOf Try.f125
theorem scopes125 : scopesOf code125 = [] := by kernel_rfl
theorem ranges125 : rangesOf code125 = [] := by kernel_rfl
theorem loops125 : loopsOf code125 = [] := by kernel_rfl
theorem enter125 : ∀ args w, (callFunc 125 args).run Try.prog w = .ok (.enter 125 args) w := enter_of (fn := Try.f125) (by kernel_rfl) (by kernel_rfl) (by kernel_rfl)
noncomputable def T125_1 (F : Nat) : FuncId → Option Summ := tab [(81, (S81_1 F noS)), (123, (S123_1 F noS)), (124, (S124_1 F noS))]
noncomputable def LT125_1 (F : Nat) : Nat → Option LoopS := ltab []
theorem E125_1g (F : Nat) (c81_1 : Int → Int → Int → Int → (Int → Option Res) → Option Res) (c123_1 : Int → Int → Int → Int → Int → (Int → Int → Bool → Option Res) → Option Res) (c124_1 : Int → Int → Int → Int → (List Int → Option Res) → Option Res)   (d : sh125_1.den) (K : KF) : evBody Try.prog (tab [(81, (mkS sh81_1 (fun d K => c81_1 d.1.1.1 d.1.1.2.1 d.1.1.2.2.1 d.1.1.2.2.2.1 (fun (y0 : Int) => K [.lf (.int .i64 y0)] [])) noS)), (123, (mkS sh123_1 (fun d K => c123_1 d.1.1.1 d.1.1.2.1 d.1.1.2.2.1 d.1.1.2.2.2.1 d.1.2.1 (fun (y0 : Int) (y1 : Int) (y2 : Bool) => K [.lf (.int .i64 y0), .lf (.int .i64 y1), .lf (.bool y2)] [])) noS)), (124, (mkS sh124_1 (fun d K => c124_1 d.1.1.1 d.1.1.2.1 d.1.1.2.2.1 d.1.1.2.2.2.1 (fun (y0 : List Int) => K [.lf (.full 0)] [some ⟨false, [.seq (.int .i64) 0 y0]⟩])) noS))]) (xw []) 37 0 (ltab []) code125 Try.f125.results.toList (encT sh125_1.vs d.1) (encH sh125_1.h d.2) K = (fun (a1 : Int) (a2 : Int) (a3 : Int) (a4 : Int) (a5 : Int) (K0 : (Int → Option Res)) => c123_1 a1 a2 a3 a4 a5 (fun x1 x2 x3 => cond (!x3) (K0 (-1)) (c81_1 a1 a2 a3 a4 (fun x4 => cond (a5 == x4) (K0 (-1)) (cond (decide (a2 = 0)) none (c124_1 a1 a2 a3 a4 (fun x5 => cond (decide ((0 : Int) ≤ x1 ∧ x1 < ((x5.length : Nat) : Int))) (cond (decide (0 + x1.toNat < x5.length)) (K0 (IntKind.i64.wrap ((IntKind.i64.wrap (x2 + (x5.getD (0 + x1.toNat) 0))) + (IntKind.i64.wrap ((IntKind.i64.wrap (a5 - x2)).tdiv a2))))) none) none) ))) )) ) d.1.1.1 d.1.1.2.1 d.1.1.2.2.1 d.1.1.2.2.2.1 d.1.2.1 (fun (y0 : Int) => K [.lf (.int .i64 y0)] []) := by kernel_rfl
theorem E125_1 (F : Nat) (d : sh125_1.den) (K : KF) : evBody Try.prog (T125_1 F) (xw []) 37 0 (LT125_1 F) code125 Try.f125.results.toList (encT sh125_1.vs d.1) (encH sh125_1.h d.2) K = f125_1 F d.1.1.1 d.1.1.2.1 d.1.1.2.2.1 d.1.1.2.2.2.1 d.1.2.1 (fun (y0 : Int) => K [.lf (.int .i64 y0)] []) := Eq.mp (by kernel_rfl) (E125_1g F (f81_1 F) (f123_1 F) (f124_1 F)   d K)
theorem S125_1_ok (F : Nat) (o : Summ) (ho : SoundFn Try.prog 125 o) : SoundFn Try.prog 125 (S125_1 F o) :=
  soundFn_of (fn := Try.f125) (c := code125) rfl rfl (by kernel_rfl) (tab_cons (S81_1_ok F _ (noS_sound enter81)) (tab_cons (S123_1_ok F _ (noS_sound enter123)) (tab_cons (S124_1_ok F _ (noS_sound enter124)) tab_nil))) (by kernel_rfl) (by kernel_rfl) ho (by rw [loops125]; exact loopsOK_nil) (by rw [scopes125]; exact scopesOK_nil) (by rw [ranges125]; exact rangesOK_nil) (E125_1 F)
end Go.Proofs.Ytjlolgpbidfmeaa.X
end

section
namespace Go.Proofs.Ytjlolgpbidfmeaa.X
open Go Go.Proofs.Ytjlolgpbidfmeaa.Ev Go.Proofs
set_option linter.unusedVariables false
set_option linter.unusedSectionVars false
/-! geom.Path -/
noncomputable def f96_1_l5 {β : Type} (F : Nat) (v4 : Int) (v5 : Int) (v6 : Int) (v7 : Int) (K0 : List Int → Option β) : Nat → Int → List Int → Option β
  | 0, _, _ => none
  | k + 1, v3, v8 => cond (v3 != (-1)) (cond (decide ((v8.length + 1) * 8 ≤ 70368744177664)) (f125_1 F v4 v5 v6 v7 v3 (fun x9 => f96_1_l5 F v4 v5 v6 v7 K0 k x9 (v8 ++ [v3])) ) none) (K0 v8)
noncomputable def f96_1 {β : Type} (F : Nat) (a1 : Int) (a2 : Int) (a3 : Int) (a4 : Int) (a5 : Int) (K0 : List Int → Option β) : Option β := f77_1 F a1 a2 a3 a4 (fun x1 => cond (!x1) (K0 []) (f121_1 F a5 0 (IntKind.i64.wrap (a1 - 1)) (fun x2 => cond (!x2) (K0 []) (f96_1_l5 F a1 a2 a3 a4 (fun x10 => K0 x10) F a5 [])) )) 
variable [FZ]
def sh96_1 : Sh := ⟨[.agg [.int .i64, .int .i64, .int .i64, .int .i64], .lf (.int .i64)], []⟩
noncomputable def S96_1 (F : Nat) (o : Summ) : Summ := mkS sh96_1 (fun d K => f96_1 F d.1.1.1 d.1.1.2.1 d.1.1.2.2.1 d.1.1.2.2.2.1 d.1.2.1 (fun (y0 : List Int) => K [.lf (.full 0)] [some ⟨false, [.seq (.int .i64) 0 y0]⟩])) o
noncomputable def code96 : Code := bodyOf Try.f96
noncomputable def b96_0 : Code := cB (cB (cR (cL (cR (cR (cR (code96)))))))
theorem scopes96 : scopesOf code96 = [] := by kernel_rfl
theorem ranges96 : rangesOf code96 = [] := by kernel_rfl
theorem loops96 : loopsOf code96 = [b96_0] := by kernel_rfl
theorem enter96 : ∀ args w, (callFunc 96 args).run Try.prog w = .ok (.enter 96 args) w := enter_of (fn := Try.f96) (by kernel_rfl) (by kernel_rfl) (by kernel_rfl)
noncomputable def T96_1 (F : Nat) : FuncId → Option Summ := tab [(77, (S77_1 F noS)), (121, (S121_1 F noS)), (125, (S125_1 F noS))]
def sh96_1_l5 : Sh := ⟨[.lf (.ptr 0 0), .lf (.full 1), .lf (.int .i64)], [some ⟨some false, [.int .i64, .int .i64, .int .i64, .int .i64]⟩, some ⟨some false, [.seq (.int .i64) 0]⟩]⟩
noncomputable def G96_1_5 (F k : Nat) : LoopS := mkG sh96_1_l5 [2, 5, 6] (outT [(.exit 0, [5])]) (fun d K => f96_1_l5 F d.2.1.2.1 d.2.1.2.2.1 d.2.1.2.2.2.1 d.2.1.2.2.2.2.1 (fun (y4 : List Int) => K (.exit 0) [.tv (.lf (.full 1))] [some ⟨false, [.int .i64 d.2.1.2.1, .int .i64 d.2.1.2.2.1, .int .i64 d.2.1.2.2.2.1, .int .i64 d.2.1.2.2.2.2.1]⟩, some ⟨false, [.seq (.int .i64) 0 y4]⟩]) k d.1.2.2.1 d.2.2.1.2.1) []
noncomputable def LT96_1 (F : Nat) : Nat → Option LoopS := ltab [(5, G96_1_5 F F)]
theorem L96_1_l5g (F k : Nat) (c77_1 : Int → Int → Int → Int → (Bool → Option Res) → Option Res) (c121_1 : Int → Int → Int → (Bool → Option Res) → Option Res) (c125_1 : Int → Int → Int → Int → Int → (Int → Option Res) → Option Res)  (l5 : Int → Int → Int → Int → (List Int → Option Res) → Nat → Int → List Int → Option Res) (X5 : LoopS) (d : sh96_1_l5.den) (K : KL) : (fun (v4 : Int) (v5 : Int) (v6 : Int) (v7 : Int) (K0 : (List Int → Option Res)) (k : Nat) (v3 : Int) (v8 : List Int) => cond (v3 != (-1)) (cond (decide ((v8.length + 1) * 8 ≤ 70368744177664)) (c125_1 v4 v5 v6 v7 v3 (fun x9 => l5 v4 v5 v6 v7 K0 k x9 (v8 ++ [v3])) ) none) (K0 v8)) d.2.1.2.1 d.2.1.2.2.1 d.2.1.2.2.2.1 d.2.1.2.2.2.2.1 (fun (y4 : List Int) => K (.exit 0) [.tv (.lf (.full 1))] [some ⟨false, [.int .i64 d.2.1.2.1, .int .i64 d.2.1.2.2.1, .int .i64 d.2.1.2.2.2.1, .int .i64 d.2.1.2.2.2.2.1]⟩, some ⟨false, [.seq (.int .i64) 0 y4]⟩]) k d.1.2.2.1 d.2.2.1.2.1 = roundOf Try.prog (tab [(77, (mkS sh77_1 (fun d K => c77_1 d.1.1.1 d.1.1.2.1 d.1.1.2.2.1 d.1.1.2.2.2.1 (fun (y0 : Bool) => K [.lf (.bool y0)] [])) noS)), (121, (mkS sh121_1 (fun d K => c121_1 d.1.1 d.1.2.1 d.1.2.2.1 (fun (y0 : Bool) => K [.lf (.bool y0)] [])) noS)), (125, (mkS sh125_1 (fun d K => c125_1 d.1.1.1 d.1.1.2.1 d.1.1.2.2.1 d.1.1.2.2.2.1 d.1.2.1 (fun (y0 : Int) => K [.lf (.int .i64 y0)] [])) noS))]) (xw []) 29 0 (ltab [(5, X5)]) (mkG sh96_1_l5 [2, 5, 6] (outT [(.exit 0, [5])]) (fun d K => l5 d.2.1.2.1 d.2.1.2.2.1 d.2.1.2.2.2.1 d.2.1.2.2.2.2.1 (fun (y4 : List Int) => K (.exit 0) [.tv (.lf (.full 1))] [some ⟨false, [.int .i64 d.2.1.2.1, .int .i64 d.2.1.2.2.1, .int .i64 d.2.1.2.2.2.1, .int .i64 d.2.1.2.2.2.2.1]⟩, some ⟨false, [.seq (.int .i64) 0 y4]⟩]) k d.1.2.2.1 d.2.2.1.2.1) []) b96_0 (encT sh96_1_l5.vs d.1) (encH sh96_1_l5.h d.2) K := by kernel_rfl
theorem L96_1_5 (F : Nat) : LoopOK Try.prog (T96_1 F) (xw []) 29 0 (LT96_1 F) (G96_1_5 F F) b96_0 :=
  loopOK_of (s := sh96_1_l5) (live := [2, 5, 6]) (out := (outT [(.exit 0, [5])])) (mv := []) (fun k d K => f96_1_l5 F d.2.1.2.1 d.2.1.2.2.1 d.2.1.2.2.2.1 d.2.1.2.2.2.2.1 (fun (y4 : List Int) => K (.exit 0) [.tv (.lf (.full 1))] [some ⟨false, [.int .i64 d.2.1.2.1, .int .i64 d.2.1.2.2.1, .int .i64 d.2.1.2.2.2.1, .int .i64 d.2.1.2.2.2.2.1]⟩, some ⟨false, [.seq (.int .i64) 0 y4]⟩]) k d.1.2.2.1 d.2.2.1.2.1) F (fun d K => by kernel_rfl)  (fun k d K => Eq.mp (by kernel_rfl) (L96_1_l5g F k (f77_1 F) (f121_1 F) (f125_1 F)  (f96_1_l5 F) (G96_1_5 F F) d K))
theorem E96_1g (F : Nat) (c77_1 : Int → Int → Int → Int → (Bool → Option Res) → Option Res) (c121_1 : Int → Int → Int → (Bool → Option Res) → Option Res) (c125_1 : Int → Int → Int → Int → Int → (Int → Option Res) → Option Res) (l5 : Int → Int → Int → Int → (List Int → Option Res) → Nat → Int → List Int → Option Res)  (d : sh96_1.den) (K : KF) : evBody Try.prog (tab [(77, (mkS sh77_1 (fun d K => c77_1 d.1.1.1 d.1.1.2.1 d.1.1.2.2.1 d.1.1.2.2.2.1 (fun (y0 : Bool) => K [.lf (.bool y0)] [])) noS)), (121, (mkS sh121_1 (fun d K => c121_1 d.1.1 d.1.2.1 d.1.2.2.1 (fun (y0 : Bool) => K [.lf (.bool y0)] [])) noS)), (125, (mkS sh125_1 (fun d K => c125_1 d.1.1.1 d.1.1.2.1 d.1.1.2.2.1 d.1.1.2.2.2.1 d.1.2.1 (fun (y0 : Int) => K [.lf (.int .i64 y0)] [])) noS))]) (xw []) 29 0 (ltab [(5, mkG sh96_1_l5 [2, 5, 6] (outT [(.exit 0, [5])]) (fun d K => l5 d.2.1.2.1 d.2.1.2.2.1 d.2.1.2.2.2.1 d.2.1.2.2.2.2.1 (fun (y4 : List Int) => K (.exit 0) [.tv (.lf (.full 1))] [some ⟨false, [.int .i64 d.2.1.2.1, .int .i64 d.2.1.2.2.1, .int .i64 d.2.1.2.2.2.1, .int .i64 d.2.1.2.2.2.2.1]⟩, some ⟨false, [.seq (.int .i64) 0 y4]⟩]) F d.1.2.2.1 d.2.2.1.2.1) [])]) code96 Try.f96.results.toList (encT sh96_1.vs d.1) (encH sh96_1.h d.2) K = (fun (a1 : Int) (a2 : Int) (a3 : Int) (a4 : Int) (a5 : Int) (K0 : (List Int → Option Res)) => c77_1 a1 a2 a3 a4 (fun x1 => cond (!x1) (K0 []) (c121_1 a5 0 (IntKind.i64.wrap (a1 - 1)) (fun x2 => cond (!x2) (K0 []) (l5 a1 a2 a3 a4 (fun x10 => K0 x10) F a5 [])) )) ) d.1.1.1 d.1.1.2.1 d.1.1.2.2.1 d.1.1.2.2.2.1 d.1.2.1 (fun (y0 : List Int) => K [.lf (.full 0)] [some ⟨false, [.seq (.int .i64) 0 y0]⟩]) := by kernel_rfl
theorem E96_1 (F : Nat) (d : sh96_1.den) (K : KF) : evBody Try.prog (T96_1 F) (xw []) 29 0 (LT96_1 F) code96 Try.f96.results.toList (encT sh96_1.vs d.1) (encH sh96_1.h d.2) K = f96_1 F d.1.1.1 d.1.1.2.1 d.1.1.2.2.1 d.1.1.2.2.2.1 d.1.2.1 (fun (y0 : List Int) => K [.lf (.full 0)] [some ⟨false, [.seq (.int .i64) 0 y0]⟩]) := Eq.mp (by kernel_rfl) (E96_1g F (f77_1 F) (f121_1 F) (f125_1 F) (f96_1_l5 F)  d K)
theorem S96_1_ok (F : Nat) (o : Summ) (ho : SoundFn Try.prog 96 o) : SoundFn Try.prog 96 (S96_1 F o) :=
  soundFn_of (fn := Try.f96) (c := code96) rfl rfl (by kernel_rfl) (tab_cons (S77_1_ok F _ (noS_sound enter77)) (tab_cons (S121_1_ok F _ (noS_sound enter121)) (tab_cons (S125_1_ok F _ (noS_sound enter125)) tab_nil))) (by kernel_rfl) (by kernel_rfl) ho (by rw [loops96]; exact (loopsOK_cons (by kernel_rfl) (L96_1_5 F) loopsOK_nil)) (by rw [scopes96]; exact scopesOK_nil) (by rw [ranges96]; exact rangesOK_nil) (E96_1 F)
end Go.Proofs.Ytjlolgpbidfmeaa.X
end

section
namespace Go.Proofs.Ytjlolgpbidfmeaa.X
open Go Go.Proofs.Ytjlolgpbidfmeaa.Ev Go.Proofs
set_option linter.unusedVariables false
set_option linter.unusedSectionVars false
/-! tree.Tree).Set -/
noncomputable def f40_1_l9 {β : Type} (F : Nat) (v4 : Nat) (v5 : Nat) (v6 : Int) (v8 : Int) (v9 : Int) (v10 : Int) (v11 : Int) (v13 : List Int) (K0 : List ByteArray → Option β) : Nat → Int → List ByteArray → Option β
  | 0, _, _ => none
  | k + 1, v7, v12 => cond (decide (v7 < v6)) (cond (decide ((0 : Int) ≤ v7 ∧ v7 < ((v5 : Nat) : Int))) (cond (decide (v4 + v7.toNat < v13.length)) (f82_1 F (v13.getD (v4 + v7.toNat) 0) v8 v9 v10 v11 v12 (fun x14 => cond (decide ((0 : Int) ≤ v13.getD (v4 + v7.toNat) 0 ∧ v13.getD (v4 + v7.toNat) 0 < ((v12.length : Nat) : Int))) (cond (decide (0 + ((v13.getD (v4 + v7.toNat) 0).toNat) < v12.length)) (f40_1_l9 F v4 v5 v6 v8 v9 v10 v11 v13 K0 k (IntKind.i64.wrap (v7 + 1)) (v12.set (0 + ((v13.getD (v4 + v7.toNat) 0).toNat)) x14)) none) none) ) none) none) (K0 v12)
noncomputable def f40_1 {β : Type} (F : Nat) (a1 : Int) (a2 : ByteArray) (a3 : Int) (a4 : Int) (a5 : Int) (a6 : Int) (a7 : List ByteArray) (K0 : Int → List ByteArray → Option β) : Option β := cond (decide (a1 < 0)) (K0 3 a7) (cond (decide (a1 ≥ a3)) (K0 3 a7) (f80_1 F a2 (fun x1 => cond (!x1) (K0 4 a7) (f16_1 F a2 (fun x2 => cond (decide ((0 : Int) ≤ a1 ∧ a1 < ((a7.length : Nat) : Int))) (cond (decide (0 + a1.toNat < a7.length)) (f96_1 F a3 a4 a5 a6 a1 (fun x3 => cond (decide ((0 : Int) ≤ (1 : Int) ∧ (1 : Int) ≤ ((x3.length : Nat) : Int) ∧ ((x3.length : Nat) : Int) ≤ ((x3.length : Nat) : Int))) (f40_1_l9 F 1 ((((x3.length : Nat) : Int) - 1).toNat) (((((x3.length : Nat) : Int) - 1).toNat : Nat) : Int) a3 a4 a5 a6 x3 (fun x15 => K0 0 x15) F 0 (a7.set (0 + a1.toNat) x2)) none) ) none) none) )) ))
variable [FZ]
def sh40_1 : Sh := ⟨[.lf (.ptr 0 0), .lf (.int .i64), .lf (.str)], [some ⟨none, [.int .i64, .int .i64, .int .i64, .int .i64, .full 1]⟩, some ⟨some false, [.seq .str 0]⟩]⟩
noncomputable def S40_1 (F : Nat) (o : Summ) : Summ := mkS sh40_1 (fun d K => f40_1 F d.1.2.1 d.1.2.2.1 d.2.1.2.1 d.2.1.2.2.1 d.2.1.2.2.2.1 d.2.1.2.2.2.2.1 d.2.2.1.2.1 (fun (y0 : Int) (y5 : List ByteArray) => K [.lf (.int .i64 y0)] [some ⟨d.2.1.1, [.int .i64 d.2.1.2.1, .int .i64 d.2.1.2.2.1, .int .i64 d.2.1.2.2.2.1, .int .i64 d.2.1.2.2.2.2.1, .full 1]⟩, some ⟨false, [.seq .str 0 y5]⟩])) o
noncomputable def code40 : Code := bodyOf Try.f40
noncomputable def b40_0 : Code := cB (cB (cR (cL (cR (cR (cR (code40)))))))
theorem scopes40 : scopesOf code40 = [] := by kernel_rfl
theorem ranges40 : rangesOf code40 = [] := by kernel_rfl
theorem loops40 : loopsOf code40 = [b40_0] := by kernel_rfl
theorem enter40 : ∀ args w, (callFunc 40 args).run Try.prog w = .ok (.enter 40 args) w := enter_of (fn := Try.f40) (by kernel_rfl) (by kernel_rfl) (by kernel_rfl)
noncomputable def T40_1 (F : Nat) : FuncId → Option Summ := tab [(16, (S16_1 F noS)), (80, (S80_1 F noS)), (82, (S82_1 F noS)), (96, (S96_1 F noS))]
def sh40_1_l9 : Sh := ⟨[.lf (.ptr 0 0), .lf (.slice 2 0), .lf (.int .i64), .lf (.int .i64)], [some ⟨none, [.int .i64, .int .i64, .int .i64, .int .i64, .full 1]⟩, some ⟨some false, [.seq .str 0]⟩, some ⟨some false, [.seq (.int .i64) 0]⟩]⟩
noncomputable def G40_1_9 (F k : Nat) : LoopS := mkG sh40_1_l9 [0, 42, 43, 44] (outT [(.exit 1, [])]) (fun d K => f40_1_l9 F d.1.2.1.1 d.1.2.1.2 d.1.2.2.1 d.2.1.2.1 d.2.1.2.2.1 d.2.1.2.2.2.1 d.2.1.2.2.2.2.1 d.2.2.2.1.2.1 (fun (y4 : List ByteArray) => K (.exit 1) [] [some ⟨d.2.1.1, [.int .i64 d.2.1.2.1, .int .i64 d.2.1.2.2.1, .int .i64 d.2.1.2.2.2.1, .int .i64 d.2.1.2.2.2.2.1, .full 1]⟩, some ⟨false, [.seq .str 0 y4]⟩, some ⟨false, [.seq (.int .i64) 0 d.2.2.2.1.2.1]⟩]) k d.1.2.2.2.1 d.2.2.1.2.1) []
noncomputable def LT40_1 (F : Nat) : Nat → Option LoopS := ltab [(9, G40_1_9 F F)]
theorem L40_1_l9g (F k : Nat) (c16_1 : ByteArray → (ByteArray → Option Res) → Option Res) (c80_1 : ByteArray → (Bool → Option Res) → Option Res) (c82_1 : Int → Int → Int → Int → Int → List ByteArray → (ByteArray → Option Res) → Option Res) (c96_1 : Int → Int → Int → Int → Int → (List Int → Option Res) → Option Res)  (l9 : Nat → Nat → Int → Int → Int → Int → Int → List Int → (List ByteArray → Option Res) → Nat → Int → List ByteArray → Option Res) (X9 : LoopS) (d : sh40_1_l9.den) (K : KL) : (fun (v4 : Nat) (v5 : Nat) (v6 : Int) (v8 : Int) (v9 : Int) (v10 : Int) (v11 : Int) (v13 : List Int) (K0 : (List ByteArray → Option Res)) (k : Nat) (v7 : Int) (v12 : List ByteArray) => cond (decide (v7 < v6)) (cond (decide ((0 : Int) ≤ v7 ∧ v7 < ((v5 : Nat) : Int))) (cond (decide (v4 + v7.toNat < v13.length)) (c82_1 (v13.getD (v4 + v7.toNat) 0) v8 v9 v10 v11 v12 (fun x14 => cond (decide ((0 : Int) ≤ v13.getD (v4 + v7.toNat) 0 ∧ v13.getD (v4 + v7.toNat) 0 < ((v12.length : Nat) : Int))) (cond (decide (0 + ((v13.getD (v4 + v7.toNat) 0).toNat) < v12.length)) (l9 v4 v5 v6 v8 v9 v10 v11 v13 K0 k (IntKind.i64.wrap (v7 + 1)) (v12.set (0 + ((v13.getD (v4 + v7.toNat) 0).toNat)) x14)) none) none) ) none) none) (K0 v12)) d.1.2.1.1 d.1.2.1.2 d.1.2.2.1 d.2.1.2.1 d.2.1.2.2.1 d.2.1.2.2.2.1 d.2.1.2.2.2.2.1 d.2.2.2.1.2.1 (fun (y4 : List ByteArray) => K (.exit 1) [] [some ⟨d.2.1.1, [.int .i64 d.2.1.2.1, .int .i64 d.2.1.2.2.1, .int .i64 d.2.1.2.2.2.1, .int .i64 d.2.1.2.2.2.2.1, .full 1]⟩, some ⟨false, [.seq .str 0 y4]⟩, some ⟨false, [.seq (.int .i64) 0 d.2.2.2.1.2.1]⟩]) k d.1.2.2.2.1 d.2.2.1.2.1 = roundOf Try.prog (tab [(16, (mkS sh16_1 (fun d K => c16_1 d.1.1 (fun (y0 : ByteArray) => K [.lf (.str y0)] [])) noS)), (80, (mkS sh80_1 (fun d K => c80_1 d.1.1 (fun (y0 : Bool) => K [.lf (.bool y0)] [])) noS)), (82, (mkS sh82_1 (fun d K => c82_1 d.1.2.1 d.2.1.2.1 d.2.1.2.2.1 d.2.1.2.2.2.1 d.2.1.2.2.2.2.1 d.2.2.1.2.1 (fun (y0 : ByteArray) => K [.lf (.str y0)] [some ⟨d.2.1.1, [.int .i64 d.2.1.2.1, .int .i64 d.2.1.2.2.1, .int .i64 d.2.1.2.2.2.1, .int .i64 d.2.1.2.2.2.2.1, .full 1]⟩, some ⟨d.2.2.1.1, [.seq .str 0 d.2.2.1.2.1]⟩])) noS)), (96, (mkS sh96_1 (fun d K => c96_1 d.1.1.1 d.1.1.2.1 d.1.1.2.2.1 d.1.1.2.2.2.1 d.1.2.1 (fun (y0 : List Int) => K [.lf (.full 0)] [some ⟨false, [.seq (.int .i64) 0 y0]⟩])) noS))]) (xw []) 58 2 (ltab [(9, X9)]) (mkG sh40_1_l9 [0, 42, 43, 44] (outT [(.exit 1, [])]) (fun d K => l9 d.1.2.1.1 d.1.2.1.2 d.1.2.2.1 d.2.1.2.1 d.2.1.2.2.1 d.2.1.2.2.2.1 d.2.1.2.2.2.2.1 d.2.2.2.1.2.1 (fun (y4 : List ByteArray) => K (.exit 1) [] [some ⟨d.2.1.1, [.int .i64 d.2.1.2.1, .int .i64 d.2.1.2.2.1, .int .i64 d.2.1.2.2.2.1, .int .i64 d.2.1.2.2.2.2.1, .full 1]⟩, some ⟨false, [.seq .str 0 y4]⟩, some ⟨false, [.seq (.int .i64) 0 d.2.2.2.1.2.1]⟩]) k d.1.2.2.2.1 d.2.2.1.2.1) []) b40_0 (encT sh40_1_l9.vs d.1) (encH sh40_1_l9.h d.2) K := by kernel_rfl
theorem L40_1_9 (F : Nat) : LoopOK Try.prog (T40_1 F) (xw []) 58 2 (LT40_1 F) (G40_1_9 F F) b40_0 :=
  loopOK_of (s := sh40_1_l9) (live := [0, 42, 43, 44]) (out := (outT [(.exit 1, [])])) (mv := []) (fun k d K => f40_1_l9 F d.1.2.1.1 d.1.2.1.2 d.1.2.2.1 d.2.1.2.1 d.2.1.2.2.1 d.2.1.2.2.2.1 d.2.1.2.2.2.2.1 d.2.2.2.1.2.1 (fun (y4 : List ByteArray) => K (.exit 1) [] [some ⟨d.2.1.1, [.int .i64 d.2.1.2.1, .int .i64 d.2.1.2.2.1, .int .i64 d.2.1.2.2.2.1, .int .i64 d.2.1.2.2.2.2.1, .full 1]⟩, some ⟨false, [.seq .str 0 y4]⟩, some ⟨false, [.seq (.int .i64) 0 d.2.2.2.1.2.1]⟩]) k d.1.2.2.2.1 d.2.2.1.2.1) F (fun d K => by kernel_rfl)  (fun k d K => Eq.mp (by kernel_rfl) (L40_1_l9g F k (f16_1 F) (f80_1 F) (f82_1 F) (f96_1 F)  (f40_1_l9 F) (G40_1_9 F F) d K))
theorem E40_1g (F : Nat) (c16_1 : ByteArray → (ByteArray → Option Res) → Option Res) (c80_1 : ByteArray → (Bool → Option Res) → Option Res) (c82_1 : Int → Int → Int → Int → Int → List ByteArray → (ByteArray → Option Res) → Option Res) (c96_1 : Int → Int → Int → Int → Int → (List Int → Option Res) → Option Res) (l9 : Nat → Nat → Int → Int → Int → Int → Int → List Int → (List ByteArray → Option Res) → Nat → Int → List ByteArray → Option Res)  (d : sh40_1.den) (K : KF) : evBody Try.prog (tab [(16, (mkS sh16_1 (fun d K => c16_1 d.1.1 (fun (y0 : ByteArray) => K [.lf (.str y0)] [])) noS)), (80, (mkS sh80_1 (fun d K => c80_1 d.1.1 (fun (y0 : Bool) => K [.lf (.bool y0)] [])) noS)), (82, (mkS sh82_1 (fun d K => c82_1 d.1.2.1 d.2.1.2.1 d.2.1.2.2.1 d.2.1.2.2.2.1 d.2.1.2.2.2.2.1 d.2.2.1.2.1 (fun (y0 : ByteArray) => K [.lf (.str y0)] [some ⟨d.2.1.1, [.int .i64 d.2.1.2.1, .int .i64 d.2.1.2.2.1, .int .i64 d.2.1.2.2.2.1, .int .i64 d.2.1.2.2.2.2.1, .full 1]⟩, some ⟨d.2.2.1.1, [.seq .str 0 d.2.2.1.2.1]⟩])) noS)), (96, (mkS sh96_1 (fun d K => c96_1 d.1.1.1 d.1.1.2.1 d.1.1.2.2.1 d.1.1.2.2.2.1 d.1.2.1 (fun (y0 : List Int) => K [.lf (.full 0)] [some ⟨false, [.seq (.int .i64) 0 y0]⟩])) noS))]) (xw []) 58 2 (ltab [(9, mkG sh40_1_l9 [0, 42, 43, 44] (outT [(.exit 1, [])]) (fun d K => l9 d.1.2.1.1 d.1.2.1.2 d.1.2.2.1 d.2.1.2.1 d.2.1.2.2.1 d.2.1.2.2.2.1 d.2.1.2.2.2.2.1 d.2.2.2.1.2.1 (fun (y4 : List ByteArray) => K (.exit 1) [] [some ⟨d.2.1.1, [.int .i64 d.2.1.2.1, .int .i64 d.2.1.2.2.1, .int .i64 d.2.1.2.2.2.1, .int .i64 d.2.1.2.2.2.2.1, .full 1]⟩, some ⟨false, [.seq .str 0 y4]⟩, some ⟨false, [.seq (.int .i64) 0 d.2.2.2.1.2.1]⟩]) F d.1.2.2.2.1 d.2.2.1.2.1) [])]) code40 Try.f40.results.toList (encT sh40_1.vs d.1) (encH sh40_1.h d.2) K = (fun (a1 : Int) (a2 : ByteArray) (a3 : Int) (a4 : Int) (a5 : Int) (a6 : Int) (a7 : List ByteArray) (K0 : (Int → List ByteArray → Option Res)) => cond (decide (a1 < 0)) (K0 3 a7) (cond (decide (a1 ≥ a3)) (K0 3 a7) (c80_1 a2 (fun x1 => cond (!x1) (K0 4 a7) (c16_1 a2 (fun x2 => cond (decide ((0 : Int) ≤ a1 ∧ a1 < ((a7.length : Nat) : Int))) (cond (decide (0 + a1.toNat < a7.length)) (c96_1 a3 a4 a5 a6 a1 (fun x3 => cond (decide ((0 : Int) ≤ (1 : Int) ∧ (1 : Int) ≤ ((x3.length : Nat) : Int) ∧ ((x3.length : Nat) : Int) ≤ ((x3.length : Nat) : Int))) (l9 1 ((((x3.length : Nat) : Int) - 1).toNat) (((((x3.length : Nat) : Int) - 1).toNat : Nat) : Int) a3 a4 a5 a6 x3 (fun x15 => K0 0 x15) F 0 (a7.set (0 + a1.toNat) x2)) none) ) none) none) )) ))) d.1.2.1 d.1.2.2.1 d.2.1.2.1 d.2.1.2.2.1 d.2.1.2.2.2.1 d.2.1.2.2.2.2.1 d.2.2.1.2.1 (fun (y0 : Int) (y5 : List ByteArray) => K [.lf (.int .i64 y0)] [some ⟨d.2.1.1, [.int .i64 d.2.1.2.1, .int .i64 d.2.1.2.2.1, .int .i64 d.2.1.2.2.2.1, .int .i64 d.2.1.2.2.2.2.1, .full 1]⟩, some ⟨false, [.seq .str 0 y5]⟩]) := by kernel_rfl
theorem E40_1 (F : Nat) (d : sh40_1.den) (K : KF) : evBody Try.prog (T40_1 F) (xw []) 58 2 (LT40_1 F) code40 Try.f40.results.toList (encT sh40_1.vs d.1) (encH sh40_1.h d.2) K = f40_1 F d.1.2.1 d.1.2.2.1 d.2.1.2.1 d.2.1.2.2.1 d.2.1.2.2.2.1 d.2.1.2.2.2.2.1 d.2.2.1.2.1 (fun (y0 : Int) (y5 : List ByteArray) => K [.lf (.int .i64 y0)] [some ⟨d.2.1.1, [.int .i64 d.2.1.2.1, .int .i64 d.2.1.2.2.1, .int .i64 d.2.1.2.2.2.1, .int .i64 d.2.1.2.2.2.2.1, .full 1]⟩, some ⟨false, [.seq .str 0 y5]⟩]) := Eq.mp (by kernel_rfl) (E40_1g F (f16_1 F) (f80_1 F) (f82_1 F) (f96_1 F) (f40_1_l9 F)  d K)
theorem S40_1_ok (F : Nat) (o : Summ) (ho : SoundFn Try.prog 40 o) : SoundFn Try.prog 40 (S40_1 F o) :=
  soundFn_of (fn := Try.f40) (c := code40) rfl rfl (by kernel_rfl) (tab_cons (S16_1_ok F _ (noS_sound enter16)) (tab_cons (S80_1_ok F _ (noS_sound enter80)) (tab_cons (S82_1_ok F _ (noS_sound enter82)) (tab_cons (S96_1_ok F _ (noS_sound enter96)) tab_nil)))) (by kernel_rfl) (by kernel_rfl) ho (by rw [loops40]; exact (loopsOK_cons (by kernel_rfl) (L40_1_9 F) loopsOK_nil)) (by rw [scopes40]; exact scopesOK_nil) (by rw [ranges40]; exact rangesOK_nil) (E40_1 F)
end Go.Proofs.Ytjlolgpbidfmeaa.X
end

section
namespace Go.Proofs.Ytjlolgpbidfmeaa.X
open Go Go.Proofs.Ytjlolgpbidfmeaa.Ev Go.Proofs
set_option linter.unusedVariables false
set_option linter.unusedSectionVars false
/-! tree.Tree).Set -/
noncomputable def f40_1385 {β : Type} (F : Nat) (a1 : Int) (a2 : ByteArray) (K0 : Option β) : Option β := K0
variable [FZ]
def sh40_1385 : Sh := ⟨[.lf (.nilp), .lf (.int .i64), .lf (.str)], []⟩
noncomputable def S40_1385 (F : Nat) (o : Summ) : Summ := mkS sh40_1385 (fun d K => f40_1385 F d.1.2.1 d.1.2.2.1 (K [.lf (.int .i64 1)] [])) o
noncomputable def T40_1385 (F : Nat) : FuncId → Option Summ := tab []
noncomputable def LT40_1385 (F : Nat) : Nat → Option LoopS := ltab []
theorem E40_1385g (F : Nat)    (d : sh40_1385.den) (K : KF) : evBody Try.prog (tab []) (xw []) 58 0 (ltab []) code40 Try.f40.results.toList (encT sh40_1385.vs d.1) (encH sh40_1385.h d.2) K = (fun (a1 : Int) (a2 : ByteArray) (K0 : (Option Res)) => K0) d.1.2.1 d.1.2.2.1 (K [.lf (.int .i64 1)] []) := by kernel_rfl
theorem E40_1385 (F : Nat) (d : sh40_1385.den) (K : KF) : evBody Try.prog (T40_1385 F) (xw []) 58 0 (LT40_1385 F) code40 Try.f40.results.toList (encT sh40_1385.vs d.1) (encH sh40_1385.h d.2) K = f40_1385 F d.1.2.1 d.1.2.2.1 (K [.lf (.int .i64 1)] []) := Eq.mp (by kernel_rfl) (E40_1385g F    d K)
theorem S40_1385_ok (F : Nat) (o : Summ) (ho : SoundFn Try.prog 40 o) : SoundFn Try.prog 40 (S40_1385 F o) :=
  soundFn_of (fn := Try.f40) (c := code40) rfl rfl (by kernel_rfl) tab_nil (by kernel_rfl) (by kernel_rfl) ho (by rw [loops40]; exact (loopsOK_skip (by kernel_rfl) loopsOK_nil)) (by rw [scopes40]; exact scopesOK_nil) (by rw [ranges40]; exact rangesOK_nil) (E40_1385 F)
end Go.Proofs.Ytjlolgpbidfmeaa.X
end

section
namespace Go.Proofs.Ytjlolgpbidfmeaa.X
open Go Go.Proofs.Ytjlolgpbidfmeaa.Ev Go.Proofs
set_option linter.unusedVariables false
set_option linter.unusedSectionVars false
/-! tree.Tree).Copy -/
noncomputable def f47_568 {β : Type} (F : Nat)  (K0 : Option β) : Option β := K0
variable [FZ]
def sh47_568 : Sh := ⟨[.lf (.nilp)], []⟩
noncomputable def S47_568 (F : Nat) (o : Summ) : Summ := mkS sh47_568 (fun d K => f47_568 F (K [.lf (.nilp)] [])) o
noncomputable def T47_568 (F : Nat) : FuncId → Option Summ := tab []
noncomputable def LT47_568 (F : Nat) : Nat → Option LoopS := ltab []
theorem E47_568g (F : Nat)    (d : sh47_568.den) (K : KF) : evBody Try.prog (tab []) (xw []) 16 0 (ltab []) code47 Try.f47.results.toList (encT sh47_568.vs d.1) (encH sh47_568.h d.2) K = (fun (K0 : (Option Res)) => K0) (K [.lf (.nilp)] []) := by kernel_rfl
theorem E47_568 (F : Nat) (d : sh47_568.den) (K : KF) : evBody Try.prog (T47_568 F) (xw []) 16 0 (LT47_568 F) code47 Try.f47.results.toList (encT sh47_568.vs d.1) (encH sh47_568.h d.2) K = f47_568 F (K [.lf (.nilp)] []) := Eq.mp (by kernel_rfl) (E47_568g F    d K)
theorem S47_568_ok (F : Nat) (o : Summ) (ho : SoundFn Try.prog 47 o) : SoundFn Try.prog 47 (S47_568 F o) :=
  soundFn_of (fn := Try.f47) (c := code47) rfl rfl (by kernel_rfl) tab_nil (by kernel_rfl) (by kernel_rfl) ho (by rw [loops47]; exact loopsOK_nil) (by rw [scopes47]; exact scopesOK_nil) (by rw [ranges47]; exact rangesOK_nil) (E47_568 F)
end Go.Proofs.Ytjlolgpbidfmeaa.X
end

section
namespace Go.Proofs.Ytjlolgpbidfmeaa.X
open Go Go.Proofs.Ytjlolgpbidfmeaa.Ev Go.Proofs
set_option linter.unusedVariables false
set_option linter.unusedSectionVars false
/-! pentimentoref05.Right -/
noncomputable def f91_1 {β : Type} (F : Nat) (a1 : ByteArray) (K0 : Bool → Option β) : Option β := K0 ((a1.size : Int) == 64)
variable [FZ]
def sh91_1 : Sh := ⟨[.lf (.str)], []⟩
noncomputable def S91_1 (F : Nat) (o : Summ) : Summ := mkS sh91_1 (fun d K => f91_1 F d.1.1 (fun (y0 : Bool) => K [.lf (.bool y0)] [])) o
noncomputable def code91 : Code := bodyOf Try.f91
theorem scopes91 : scopesOf code91 = [] := by kernel_rfl
theorem ranges91 : rangesOf code91 = [] := by kernel_rfl
theorem loops91 : loopsOf code91 = [] := by kernel_rfl
theorem enter91 : ∀ args w, (callFunc 91 args).run Try.prog w = .ok (.enter 91 args) w := enter_of (fn := Try.f91) (by kernel_rfl) (by kernel_rfl) (by kernel_rfl)
noncomputable def T91_1 (F : Nat) : FuncId → Option Summ := tab []
noncomputable def LT91_1 (F : Nat) : Nat → Option LoopS := ltab []
theorem E91_1g (F : Nat)    (d : sh91_1.den) (K : KF) : evBody Try.prog (tab []) (xw []) 6 0 (ltab []) code91 Try.f91.results.toList (encT sh91_1.vs d.1) (encH sh91_1.h d.2) K = (fun (a1 : ByteArray) (K0 : (Bool → Option Res)) => K0 ((a1.size : Int) == 64)) d.1.1 (fun (y0 : Bool) => K [.lf (.bool y0)] []) := by kernel_rfl
theorem E91_1 (F : Nat) (d : sh91_1.den) (K : KF) : evBody Try.prog (T91_1 F) (xw []) 6 0 (LT91_1 F) code91 Try.f91.results.toList (encT sh91_1.vs d.1) (encH sh91_1.h d.2) K = f91_1 F d.1.1 (fun (y0 : Bool) => K [.lf (.bool y0)] []) := Eq.mp (by kernel_rfl) (E91_1g F    d K)
theorem S91_1_ok (F : Nat) (o : Summ) (ho : SoundFn Try.prog 91 o) : SoundFn Try.prog 91 (S91_1 F o) :=
  soundFn_of (fn := Try.f91) (c := code91) rfl rfl (by kernel_rfl) tab_nil (by kernel_rfl) (by kernel_rfl) ho (by rw [loops91]; exact loopsOK_nil) (by rw [scopes91]; exact scopesOK_nil) (by rw [ranges91]; exact rangesOK_nil) (E91_1 F)
end Go.Proofs.Ytjlolgpbidfmeaa.X
end

section
namespace Go.Proofs.Ytjlolgpbidfmeaa.X
open Go Go.Proofs.Ytjlolgpbidfmeaa.Ev Go.Proofs
set_option linter.unusedVariables false
set_option linter.unusedSectionVars false
/-! pentimentoref07.Parent -/
noncomputable def f126_1_l7 {β : Type} (F : Nat) (v10 : Int) (v11 : Int) (v12 : Int) (v14 : Int) (v15 : Int) (v16 : Int) (v17 : Int) (v18 : List Int) (K0 : Option β) (K1 : Option β) : Nat → Int → Option β
  | 0, _ => none
  | k + 1, v13 => cond (decide (v13 < ((v18.length : Nat) : Int))) (cond (decide ((0 : Int) ≤ v13 ∧ v13 < ((v18.length : Nat) : Int))) (cond (decide (0 + v13.toNat < v18.length)) (cond ((v18.getD (0 + v13.toNat) 0) == v10) (K0) (f126_1_l7 F v10 v11 v12 v14 v15 v16 v17 v18 K0 K1 k (IntKind.i64.wrap (v13 + 1)))) none) none) (K1)
noncomputable def f126_1_l3 {β : Type} (F : Nat) (v2 : Int) (v3 : Int) (v5 : Int) (v6 : Int) (v7 : Int) (v8 : Int) (K0 : Int → List Int → Option β) (K1 : Option β) : Nat → Int → Option β
  | 0, _ => none
  | k + 1, v4 => cond (decide (v4 < v3)) (f85_1 F v5 v6 v7 v8 v4 (fun x9 => f126_1_l7 F v2 v3 v4 v5 v6 v7 v8 x9 (K0 v4 x9) (f126_1_l3 F v2 v3 v5 v6 v7 v8 K0 K1 k (IntKind.i64.wrap (v4 + 1))) F 0) ) (K1)
noncomputable def f126_1 {β : Type} (F : Nat) (a1 : Int) (a2 : Int) (a3 : Int) (a4 : Int) (a5 : Int) (K0 : Int → Option β) : Option β := f89_1 F a1 a2 a3 a4 (fun x1 => f126_1_l3 F a5 x1 a1 a2 a3 a4 (fun x19 x20 => K0 x19) (K0 (-1)) F 0) 
variable [FZ]
def sh126_1 : Sh := ⟨[.agg [.int .i64, .int .i64, .int .i64, .int .i64], .lf (.int .i64)], []⟩
noncomputable def S126_1 (F : Nat) (o : Summ) : Summ := mkS sh126_1 (fun d K => f126_1 F d.1.1.1 d.1.1.2.1 d.1.1.2.2.1 d.1.1.2.2.2.1 d.1.2.1 (fun (y0 : Int) => K [.lf (.int .i64 y0)] [])) o
noncomputable def code126 : Code := bodyOf Try.f126
noncomputable def b126_0 : Code := cB (cB (cR (cL (cR (cR (code126))))))
noncomputable def b126_1 : Code := cB (cB (cR (cR (cB (cL (cR (cB (cB (cR (cL (cR (cR (code126)))))))))))))
theorem scopes126 : scopesOf code126 = [] := by kernel_rfl
theorem ranges126 : rangesOf code126 = [] := by kernel_rfl
theorem loops126 : loopsOf code126 = [b126_0, b126_1] := by kernel_rfl
theorem enter126 : ∀ args w, (callFunc 126 args).run Try.prog w = .ok (.enter 126 args) w := enter_of (fn := Try.f126) (by kernel_rfl) (by kernel_rfl) (by kernel_rfl)
noncomputable def T126_1 (F : Nat) : FuncId → Option Summ := tab [(85, (S85_1 F noS)), (89, (S89_1 F noS))]
def sh126_1_l7 : Sh := ⟨[.lf (.int .i64), .lf (.ptr 0 0), .lf (.int .i64), .lf (.int .i64), .lf (.full 1), .lf (.int .i64)], [some ⟨some false, [.int .i64, .int .i64, .int .i64, .int .i64]⟩, some ⟨some false, [.seq (.int .i64) 0]⟩]⟩
def sh126_1_l3 : Sh := ⟨[.lf (.int .i64), .lf (.ptr 0 0), .lf (.int .i64), .lf (.int .i64)], [some ⟨some false, [.int .i64, .int .i64, .int .i64, .int .i64]⟩]⟩
noncomputable def G126_1_7 (F k : Nat) : LoopS := mkG sh126_1_l7 [1, 2, 5, 6, 7, 8] (outT [(.exit 2, [1, 2, 5, 6]), (.ret, [4])]) (fun d K => f126_1_l7 F d.1.1 d.1.2.2.1 d.1.2.2.2.1 d.2.1.2.1 d.2.1.2.2.1 d.2.1.2.2.2.1 d.2.1.2.2.2.2.1 d.2.2.1.2.1 (K .ret [.tv (.lf (.int .i64 d.1.2.2.2.1))] [some ⟨false, [.int .i64 d.2.1.2.1, .int .i64 d.2.1.2.2.1, .int .i64 d.2.1.2.2.2.1, .int .i64 d.2.1.2.2.2.2.1]⟩, some ⟨false, [.seq (.int .i64) 0 d.2.2.1.2.1]⟩]) (K (.exit 2) [.tv (.lf (.int .i64 d.1.1)), .tv (.lf (.ptr 0 0)), .tv (.lf (.int .i64 d.1.2.2.1)), .tv (.lf (.int .i64 d.1.2.2.2.1))] [some ⟨false, [.int .i64 d.2.1.2.1, .int .i64 d.2.1.2.2.1, .int .i64 d.2.1.2.2.2.1, .int .i64 d.2.1.2.2.2.2.1]⟩, some ⟨false, [.seq (.int .i64) 0 d.2.2.1.2.1]⟩]) k d.1.2.2.2.2.2.1) []
noncomputable def G126_1_3 (F k : Nat) : LoopS := mkG sh126_1_l3 [1, 2, 5, 6] (outT [(.exit 0, []), (.ret, [4])]) (fun d K => f126_1_l3 F d.1.1 d.1.2.2.1 d.2.1.2.1 d.2.1.2.2.1 d.2.1.2.2.2.1 d.2.1.2.2.2.2.1 (fun (y0 : Int) (y5 : List Int) => K .ret [.tv (.lf (.int .i64 y0))] [some ⟨false, [.int .i64 d.2.1.2.1, .int .i64 d.2.1.2.2.1, .int .i64 d.2.1.2.2.2.1, .int .i64 d.2.1.2.2.2.2.1]⟩, some ⟨false, [.seq (.int .i64) 0 y5]⟩]) (K (.exit 0) [] [some ⟨false, [.int .i64 d.2.1.2.1, .int .i64 d.2.1.2.2.1, .int .i64 d.2.1.2.2.2.1, .int .i64 d.2.1.2.2.2.2.1]⟩]) k d.1.2.2.2.1) []
noncomputable def LT126_1 (F : Nat) : Nat → Option LoopS := ltab [(7, G126_1_7 F F), (3, G126_1_3 F F)]
theorem L126_1_l7g (F k : Nat) (c85_1 : Int → Int → Int → Int → Int → (List Int → Option Res) → Option Res) (c89_1 : Int → Int → Int → Int → (Int → Option Res) → Option Res)  (l7 : Int → Int → Int → Int → Int → Int → Int → List Int → (Option Res) → (Option Res) → Nat → Int → Option Res) (X7 : LoopS) (X3 : LoopS) (d : sh126_1_l7.den) (K : KL) : (fun (v10 : Int) (v11 : Int) (v12 : Int) (v14 : Int) (v15 : Int) (v16 : Int) (v17 : Int) (v18 : List Int) (K0 : (Option Res)) (K1 : (Option Res)) (k : Nat) (v13 : Int) => cond (decide (v13 < ((v18.length : Nat) : Int))) (cond (decide ((0 : Int) ≤ v13 ∧ v13 < ((v18.length : Nat) : Int))) (cond (decide (0 + v13.toNat < v18.length)) (cond ((v18.getD (0 + v13.toNat) 0) == v10) (K0) (l7 v10 v11 v12 v14 v15 v16 v17 v18 K0 K1 k (IntKind.i64.wrap (v13 + 1)))) none) none) (K1)) d.1.1 d.1.2.2.1 d.1.2.2.2.1 d.2.1.2.1 d.2.1.2.2.1 d.2.1.2.2.2.1 d.2.1.2.2.2.2.1 d.2.2.1.2.1 (K .ret [.tv (.lf (.int .i64 d.1.2.2.2.1))] [some ⟨false, [.int .i64 d.2.1.2.1, .int .i64 d.2.1.2.2.1, .int .i64 d.2.1.2.2.2.1, .int .i64 d.2.1.2.2.2.2.1]⟩, some ⟨false, [.seq (.int .i64) 0 d.2.2.1.2.1]⟩]) (K (.exit 2) [.tv (.lf (.int .i64 d.1.1)), .tv (.lf (.ptr 0 0)), .tv (.lf (.int .i64 d.1.2.2.1)), .tv (.lf (.int .i64 d.1.2.2.2.1))] [some ⟨false, [.int .i64 d.2.1.2.1, .int .i64 d.2.1.2.2.1, .int .i64 d.2.1.2.2.2.1, .int .i64 d.2.1.2.2.2.2.1]⟩, some ⟨false, [.seq (.int .i64) 0 d.2.2.1.2.1]⟩]) k d.1.2.2.2.2.2.1 = roundOf Try.prog (tab [(85, (mkS sh85_1 (fun d K => c85_1 d.1.1.1 d.1.1.2.1 d.1.1.2.2.1 d.1.1.2.2.2.1 d.1.2.1 (fun (y0 : List Int) => K [.lf (.full 0)] [some ⟨false, [.seq (.int .i64) 0 y0]⟩])) noS)), (89, (mkS sh89_1 (fun d K => c89_1 d.1.1.1 d.1.1.2.1 d.1.1.2.2.1 d.1.1.2.2.2.1 (fun (y0 : Int) => K [.lf (.int .i64 y0)] [])) noS))]) (xw []) 32 0 (ltab [(7, X7), (3, X3)]) (mkG sh126_1_l7 [1, 2, 5, 6, 7, 8] (outT [(.exit 2, [1, 2, 5, 6]), (.ret, [4])]) (fun d K => l7 d.1.1 d.1.2.2.1 d.1.2.2.2.1 d.2.1.2.1 d.2.1.2.2.1 d.2.1.2.2.2.1 d.2.1.2.2.2.2.1 d.2.2.1.2.1 (K .ret [.tv (.lf (.int .i64 d.1.2.2.2.1))] [some ⟨false, [.int .i64 d.2.1.2.1, .int .i64 d.2.1.2.2.1, .int .i64 d.2.1.2.2.2.1, .int .i64 d.2.1.2.2.2.2.1]⟩, some ⟨false, [.seq (.int .i64) 0 d.2.2.1.2.1]⟩]) (K (.exit 2) [.tv (.lf (.int .i64 d.1.1)), .tv (.lf (.ptr 0 0)), .tv (.lf (.int .i64 d.1.2.2.1)), .tv (.lf (.int .i64 d.1.2.2.2.1))] [some ⟨false, [.int .i64 d.2.1.2.1, .int .i64 d.2.1.2.2.1, .int .i64 d.2.1.2.2.2.1, .int .i64 d.2.1.2.2.2.2.1]⟩, some ⟨false, [.seq (.int .i64) 0 d.2.2.1.2.1]⟩]) k d.1.2.2.2.2.2.1) []) b126_1 (encT sh126_1_l7.vs d.1) (encH sh126_1_l7.h d.2) K := by kernel_rfl
theorem L126_1_7 (F : Nat) : LoopOK Try.prog (T126_1 F) (xw []) 32 0 (LT126_1 F) (G126_1_7 F F) b126_1 :=
  loopOK_of (s := sh126_1_l7) (live := [1, 2, 5, 6, 7, 8]) (out := (outT [(.exit 2, [1, 2, 5, 6]), (.ret, [4])])) (mv := []) (fun k d K => f126_1_l7 F d.1.1 d.1.2.2.1 d.1.2.2.2.1 d.2.1.2.1 d.2.1.2.2.1 d.2.1.2.2.2.1 d.2.1.2.2.2.2.1 d.2.2.1.2.1 (K .ret [.tv (.lf (.int .i64 d.1.2.2.2.1))] [some ⟨false, [.int .i64 d.2.1.2.1, .int .i64 d.2.1.2.2.1, .int .i64 d.2.1.2.2.2.1, .int .i64 d.2.1.2.2.2.2.1]⟩, some ⟨false, [.seq (.int .i64) 0 d.2.2.1.2.1]⟩]) (K (.exit 2) [.tv (.lf (.int .i64 d.1.1)), .tv (.lf (.ptr 0 0)), .tv (.lf (.int .i64 d.1.2.2.1)), .tv (.lf (.int .i64 d.1.2.2.2.1))] [some ⟨false, [.int .i64 d.2.1.2.1, .int .i64 d.2.1.2.2.1, .int .i64 d.2.1.2.2.2.1, .int .i64 d.2.1.2.2.2.2.1]⟩, some ⟨false, [.seq (.int .i64) 0 d.2.2.1.2.1]⟩]) k d.1.2.2.2.2.2.1) F (fun d K => by kernel_rfl)  (fun k d K => Eq.mp (by kernel_rfl) (L126_1_l7g F k (f85_1 F) (f89_1 F)  (f126_1_l7 F) (G126_1_7 F F) (G126_1_3 F F) d K))
theorem L126_1_l3g (F k : Nat) (c85_1 : Int → Int → Int → Int → Int → (List Int → Option Res) → Option Res) (c89_1 : Int → Int → Int → Int → (Int → Option Res) → Option Res) (l7 : Int → Int → Int → Int → Int → Int → Int → List Int → (Option Res) → (Option Res) → Nat → Int → Option Res) (l3 : Int → Int → Int → Int → Int → Int → (Int → List Int → Option Res) → (Option Res) → Nat → Int → Option Res) (X3 : LoopS) (d : sh126_1_l3.den) (K : KL) : (fun (v2 : Int) (v3 : Int) (v5 : Int) (v6 : Int) (v7 : Int) (v8 : Int) (K0 : (Int → List Int → Option Res)) (K1 : (Option Res)) (k : Nat) (v4 : Int) => cond (decide (v4 < v3)) (c85_1 v5 v6 v7 v8 v4 (fun x9 => l7 v2 v3 v4 v5 v6 v7 v8 x9 (K0 v4 x9) (l3 v2 v3 v5 v6 v7 v8 K0 K1 k (IntKind.i64.wrap (v4 + 1))) F 0) ) (K1)) d.1.1 d.1.2.2.1 d.2.1.2.1 d.2.1.2.2.1 d.2.1.2.2.2.1 d.2.1.2.2.2.2.1 (fun (y0 : Int) (y5 : List Int) => K .ret [.tv (.lf (.int .i64 y0))] [some ⟨false, [.int .i64 d.2.1.2.1, .int .i64 d.2.1.2.2.1, .int .i64 d.2.1.2.2.2.1, .int .i64 d.2.1.2.2.2.2.1]⟩, some ⟨false, [.seq (.int .i64) 0 y5]⟩]) (K (.exit 0) [] [some ⟨false, [.int .i64 d.2.1.2.1, .int .i64 d.2.1.2.2.1, .int .i64 d.2.1.2.2.2.1, .int .i64 d.2.1.2.2.2.2.1]⟩]) k d.1.2.2.2.1 = roundOf Try.prog (tab [(85, (mkS sh85_1 (fun d K => c85_1 d.1.1.1 d.1.1.2.1 d.1.1.2.2.1 d.1.1.2.2.2.1 d.1.2.1 (fun (y0 : List Int) => K [.lf (.full 0)] [some ⟨false, [.seq (.int .i64) 0 y0]⟩])) noS)), (89, (mkS sh89_1 (fun d K => c89_1 d.1.1.1 d.1.1.2.1 d.1.1.2.2.1 d.1.1.2.2.2.1 (fun (y0 : Int) => K [.lf (.int .i64 y0)] [])) noS))]) (xw []) 32 0 (ltab [(7, mkG sh126_1_l7 [1, 2, 5, 6, 7, 8] (outT [(.exit 2, [1, 2, 5, 6]), (.ret, [4])]) (fun d K => l7 d.1.1 d.1.2.2.1 d.1.2.2.2.1 d.2.1.2.1 d.2.1.2.2.1 d.2.1.2.2.2.1 d.2.1.2.2.2.2.1 d.2.2.1.2.1 (K .ret [.tv (.lf (.int .i64 d.1.2.2.2.1))] [some ⟨false, [.int .i64 d.2.1.2.1, .int .i64 d.2.1.2.2.1, .int .i64 d.2.1.2.2.2.1, .int .i64 d.2.1.2.2.2.2.1]⟩, some ⟨false, [.seq (.int .i64) 0 d.2.2.1.2.1]⟩]) (K (.exit 2) [.tv (.lf (.int .i64 d.1.1)), .tv (.lf (.ptr 0 0)), .tv (.lf (.int .i64 d.1.2.2.1)), .tv (.lf (.int .i64 d.1.2.2.2.1))] [some ⟨false, [.int .i64 d.2.1.2.1, .int .i64 d.2.1.2.2.1, .int .i64 d.2.1.2.2.2.1, .int .i64 d.2.1.2.2.2.2.1]⟩, some ⟨false, [.seq (.int .i64) 0 d.2.2.1.2.1]⟩]) F d.1.2.2.2.2.2.1) []), (3, X3)]) (mkG sh126_1_l3 [1, 2, 5, 6] (outT [(.exit 0, []), (.ret, [4])]) (fun d K => l3 d.1.1 d.1.2.2.1 d.2.1.2.1 d.2.1.2.2.1 d.2.1.2.2.2.1 d.2.1.2.2.2.2.1 (fun (y0 : Int) (y5 : List Int) => K .ret [.tv (.lf (.int .i64 y0))] [some ⟨false, [.int .i64 d.2.1.2.1, .int .i64 d.2.1.2.2.1, .int .i64 d.2.1.2.2.2.1, .int .i64 d.2.1.2.2.2.2.1]⟩, some ⟨false, [.seq (.int .i64) 0 y5]⟩]) (K (.exit 0) [] [some ⟨false, [.int .i64 d.2.1.2.1, .int .i64 d.2.1.2.2.1, .int .i64 d.2.1.2.2.2.1, .int .i64 d.2.1.2.2.2.2.1]⟩]) k d.1.2.2.2.1) []) b126_0 (encT sh126_1_l3.vs d.1) (encH sh126_1_l3.h d.2) K := by kernel_rfl
theorem L126_1_3 (F : Nat) : LoopOK Try.prog (T126_1 F) (xw []) 32 0 (LT126_1 F) (G126_1_3 F F) b126_0 :=
  loopOK_of (s := sh126_1_l3) (live := [1, 2, 5, 6]) (out := (outT [(.exit 0, []), (.ret, [4])])) (mv := []) (fun k d K => f126_1_l3 F d.1.1 d.1.2.2.1 d.2.1.2.1 d.2.1.2.2.1 d.2.1.2.2.2.1 d.2.1.2.2.2.2.1 (fun (y0 : Int) (y5 : List Int) => K .ret [.tv (.lf (.int .i64 y0))] [some ⟨false, [.int .i64 d.2.1.2.1, .int .i64 d.2.1.2.2.1, .int .i64 d.2.1.2.2.2.1, .int .i64 d.2.1.2.2.2.2.1]⟩, some ⟨false, [.seq (.int .i64) 0 y5]⟩]) (K (.exit 0) [] [some ⟨false, [.int .i64 d.2.1.2.1, .int .i64 d.2.1.2.2.1, .int .i64 d.2.1.2.2.2.1, .int .i64 d.2.1.2.2.2.2.1]⟩]) k d.1.2.2.2.1) F (fun d K => by kernel_rfl)  (fun k d K => Eq.mp (by kernel_rfl) (L126_1_l3g F k (f85_1 F) (f89_1 F) (f126_1_l7 F) (f126_1_l3 F) (G126_1_3 F F) d K))
theorem E126_1g (F : Nat) (c85_1 : Int → Int → Int → Int → Int → (List Int → Option Res) → Option Res) (c89_1 : Int → Int → Int → Int → (Int → Option Res) → Option Res) (l3 : Int → Int → Int → Int → Int → Int → (Int → List Int → Option Res) → (Option Res) → Nat → Int → Option Res) (X7 : LoopS) (d : sh126_1.den) (K : KF) : evBody Try.prog (tab [(85, (mkS sh85_1 (fun d K => c85_1 d.1.1.1 d.1.1.2.1 d.1.1.2.2.1 d.1.1.2.2.2.1 d.1.2.1 (fun (y0 : List Int) => K [.lf (.full 0)] [some ⟨false, [.seq (.int .i64) 0 y0]⟩])) noS)), (89, (mkS sh89_1 (fun d K => c89_1 d.1.1.1 d.1.1.2.1 d.1.1.2.2.1 d.1.1.2.2.2.1 (fun (y0 : Int) => K [.lf (.int .i64 y0)] [])) noS))]) (xw []) 32 0 (ltab [(7, X7), (3, mkG sh126_1_l3 [1, 2, 5, 6] (outT [(.exit 0, []), (.ret, [4])]) (fun d K => l3 d.1.1 d.1.2.2.1 d.2.1.2.1 d.2.1.2.2.1 d.2.1.2.2.2.1 d.2.1.2.2.2.2.1 (fun (y0 : Int) (y5 : List Int) => K .ret [.tv (.lf (.int .i64 y0))] [some ⟨false, [.int .i64 d.2.1.2.1, .int .i64 d.2.1.2.2.1, .int .i64 d.2.1.2.2.2.1, .int .i64 d.2.1.2.2.2.2.1]⟩, some ⟨false, [.seq (.int .i64) 0 y5]⟩]) (K (.exit 0) [] [some ⟨false, [.int .i64 d.2.1.2.1, .int .i64 d.2.1.2.2.1, .int .i64 d.2.1.2.2.2.1, .int .i64 d.2.1.2.2.2.2.1]⟩]) F d.1.2.2.2.1) [])]) code126 Try.f126.results.toList (encT sh126_1.vs d.1) (encH sh126_1.h d.2) K = (fun (a1 : Int) (a2 : Int) (a3 : Int) (a4 : Int) (a5 : Int) (K0 : (Int → Option Res)) => c89_1 a1 a2 a3 a4 (fun x1 => l3 a5 x1 a1 a2 a3 a4 (fun x19 x20 => K0 x19) (K0 (-1)) F 0) ) d.1.1.1 d.1.1.2.1 d.1.1.2.2.1 d.1.1.2.2.2.1 d.1.2.1 (fun (y0 : Int) => K [.lf (.int .i64 y0)] []) := by kernel_rfl
theorem E126_1 (F : Nat) (d : sh126_1.den) (K : KF) : evBody Try.prog (T126_1 F) (xw []) 32 0 (LT126_1 F) code126 Try.f126.results.toList (encT sh126_1.vs d.1) (encH sh126_1.h d.2) K = f126_1 F d.1.1.1 d.1.1.2.1 d.1.1.2.2.1 d.1.1.2.2.2.1 d.1.2.1 (fun (y0 : Int) => K [.lf (.int .i64 y0)] []) := Eq.mp (by kernel_rfl) (E126_1g F (f85_1 F) (f89_1 F) (f126_1_l3 F) (G126_1_7 F F) d K)
theorem S126_1_ok (F : Nat) (o : Summ) (ho : SoundFn Try.prog 126 o) : SoundFn Try.prog 126 (S126_1 F o) :=
  soundFn_of (fn := Try.f126) (c := code126) rfl rfl (by kernel_rfl) (tab_cons (S85_1_ok F _ (noS_sound enter85)) (tab_cons (S89_1_ok F _ (noS_sound enter89)) tab_nil)) (by kernel_rfl) (by kernel_rfl) ho (by rw [loops126]; exact (loopsOK_cons (by kernel_rfl) (L126_1_3 F) (loopsOK_cons (by kernel_rfl) (L126_1_7 F) loopsOK_nil))) (by rw [scopes126]; exact scopesOK_nil) (by rw [ranges126]; exact rangesOK_nil) (E126_1 F)
end Go.Proofs.Ytjlolgpbidfmeaa.X
end

section
namespace Go.Proofs.Ytjlolgpbidfmeaa.X
open Go Go.Proofs.Ytjlolgpbidfmeaa.Ev Go.Proofs
set_option linter.unusedVariables false
set_option linter.unusedSectionVars false
/-! pentimentoref07.Path -/
noncomputable def f97_1_l5 {β : Type} (F : Nat) (v3 : Int) (v4 : Int) (v5 : Int) (v6 : Int) (K0 : List Int → Option β) : Nat → Int → List Int → Option β
  | 0, _, _ => none
  | k + 1, v2, v7 => cond (decide (v2 ≥ 0)) (cond (decide ((v7.length + 1) * 8 ≤ 70368744177664)) (f126_1 F v3 v4 v5 v6 v2 (fun x8 => f97_1_l5 F v3 v4 v5 v6 K0 k x8 (v7 ++ [v2])) ) none) (K0 v7)
noncomputable def f97_1 {β : Type} (F : Nat) (a1 : Int) (a2 : Int) (a3 : Int) (a4 : Int) (a5 : Int) (K0 : List Int → Option β) : Option β := f27_1 F a1 a2 a3 a4 (fun x1 => cond (!x1) (K0 []) (cond (decide (a5 < 0)) (K0 []) (cond (decide (a5 ≥ a1)) (K0 []) (f97_1_l5 F a1 a2 a3 a4 (fun x9 => K0 x9) F a5 [])))) 
variable [FZ]
def sh97_1 : Sh := ⟨[.agg [.int .i64, .int .i64, .int .i64, .int .i64], .lf (.int .i64)], []⟩
noncomputable def S97_1 (F : Nat) (o : Summ) : Summ := mkS sh97_1 (fun d K => f97_1 F d.1.1.1 d.1.1.2.1 d.1.1.2.2.1 d.1.1.2.2.2.1 d.1.2.1 (fun (y0 : List Int) => K [.lf (.full 0)] [some ⟨false, [.seq (.int .i64) 0 y0]⟩])) o
noncomputable def code97 : Code := bodyOf Try.f97
noncomputable def b97_0 : Code := cB (cB (cR (cL (cR (cR (cR (code97)))))))
theorem scopes97 : scopesOf code97 = [] := by kernel_rfl
theorem ranges97 : rangesOf code97 = [] := by kernel_rfl
theorem loops97 : loopsOf code97 = [b97_0] := by kernel_rfl
theorem enter97 : ∀ args w, (callFunc 97 args).run Try.prog w = .ok (.enter 97 args) w := enter_of (fn := Try.f97) (by kernel_rfl) (by kernel_rfl) (by kernel_rfl)
noncomputable def T97_1 (F : Nat) : FuncId → Option Summ := tab [(27, (S27_1 F noS)), (126, (S126_1 F noS))]
def sh97_1_l5 : Sh := ⟨[.lf (.ptr 0 0), .lf (.full 1), .lf (.int .i64)], [some ⟨some false, [.int .i64, .int .i64, .int .i64, .int .i64]⟩, some ⟨some false, [.seq (.int .i64) 0]⟩]⟩
noncomputable def G97_1_5 (F k : Nat) : LoopS := mkG sh97_1_l5 [2, 5, 6] (outT [(.exit 0, [5])]) (fun d K => f97_1_l5 F d.2.1.2.1 d.2.1.2.2.1 d.2.1.2.2.2.1 d.2.1.2.2.2.2.1 (fun (y4 : List Int) => K (.exit 0) [.tv (.lf (.full 1))] [some ⟨false, [.int .i64 d.2.1.2.1, .int .i64 d.2.1.2.2.1, .int .i64 d.2.1.2.2.2.1, .int .i64 d.2.1.2.2.2.2.1]⟩, some ⟨false, [.seq (.int .i64) 0 y4]⟩]) k d.1.2.2.1 d.2.2.1.2.1) []
noncomputable def LT97_1 (F : Nat) : Nat → Option LoopS := ltab [(5, G97_1_5 F F)]
theorem L97_1_l5g (F k : Nat) (c27_1 : Int → Int → Int → Int → (Bool → Option Res) → Option Res) (c126_1 : Int → Int → Int → Int → Int → (Int → Option Res) → Option Res)  (l5 : Int → Int → Int → Int → (List Int → Option Res) → Nat → Int → List Int → Option Res) (X5 : LoopS) (d : sh97_1_l5.den) (K : KL) : (fun (v3 : Int) (v4 : Int) (v5 : Int) (v6 : Int) (K0 : (List Int → Option Res)) (k : Nat) (v2 : Int) (v7 : List Int) => cond (decide (v2 ≥ 0)) (cond (decide ((v7.length + 1) * 8 ≤ 70368744177664)) (c126_1 v3 v4 v5 v6 v2 (fun x8 => l5 v3 v4 v5 v6 K0 k x8 (v7 ++ [v2])) ) none) (K0 v7)) d.2.1.2.1 d.2.1.2.2.1 d.2.1.2.2.2.1 d.2.1.2.2.2.2.1 (fun (y4 : List Int) => K (.exit 0) [.tv (.lf (.full 1))] [some ⟨false, [.int .i64 d.2.1.2.1, .int .i64 d.2.1.2.2.1, .int .i64 d.2.1.2.2.2.1, .int .i64 d.2.1.2.2.2.2.1]⟩, some ⟨false, [.seq (.int .i64) 0 y4]⟩]) k d.1.2.2.1 d.2.2.1.2.1 = roundOf Try.prog (tab [(27, (mkS sh27_1 (fun d K => c27_1 d.1.1.1 d.1.1.2.1 d.1.1.2.2.1 d.1.1.2.2.2.1 (fun (y0 : Bool) => K [.lf (.bool y0)] [])) noS)), (126, (mkS sh126_1 (fun d K => c126_1 d.1.1.1 d.1.1.2.1 d.1.1.2.2.1 d.1.1.2.2.2.1 d.1.2.1 (fun (y0 : Int) => K [.lf (.int .i64 y0)] [])) noS))]) (xw []) 31 0 (ltab [(5, X5)]) (mkG sh97_1_l5 [2, 5, 6] (outT [(.exit 0, [5])]) (fun d K => l5 d.2.1.2.1 d.2.1.2.2.1 d.2.1.2.2.2.1 d.2.1.2.2.2.2.1 (fun (y4 : List Int) => K (.exit 0) [.tv (.lf (.full 1))] [some ⟨false, [.int .i64 d.2.1.2.1, .int .i64 d.2.1.2.2.1, .int .i64 d.2.1.2.2.2.1, .int .i64 d.2.1.2.2.2.2.1]⟩, some ⟨false, [.seq (.int .i64) 0 y4]⟩]) k d.1.2.2.1 d.2.2.1.2.1) []) b97_0 (encT sh97_1_l5.vs d.1) (encH sh97_1_l5.h d.2) K := by kernel_rfl
theorem L97_1_5 (F : Nat) : LoopOK Try.prog (T97_1 F) (xw []) 31 0 (LT97_1 F) (G97_1_5 F F) b97_0 :=
  loopOK_of (s := sh97_1_l5) (live := [2, 5, 6]) (out := (outT [(.exit 0, [5])])) (mv := []) (fun k d K => f97_1_l5 F d.2.1.2.1 d.2.1.2.2.1 d.2.1.2.2.2.1 d.2.1.2.2.2.2.1 (fun (y4 : List Int) => K (.exit 0) [.tv (.lf (.full 1))] [some ⟨false, [.int .i64 d.2.1.2.1, .int .i64 d.2.1.2.2.1, .int .i64 d.2.1.2.2.2.1, .int .i64 d.2.1.2.2.2.2.1]⟩, some ⟨false, [.seq (.int .i64) 0 y4]⟩]) k d.1.2.2.1 d.2.2.1.2.1) F (fun d K => by kernel_rfl)  (fun k d K => Eq.mp (by kernel_rfl) (L97_1_l5g F k (f27_1 F) (f126_1 F)  (f97_1_l5 F) (G97_1_5 F F) d K))
theorem E97_1g (F : Nat) (c27_1 : Int → Int → Int → Int → (Bool → Option Res) → Option Res) (c126_1 : Int → Int → Int → Int → Int → (Int → Option Res) → Option Res) (l5 : Int → Int → Int → Int → (List Int → Option Res) → Nat → Int → List Int → Option Res)  (d : sh97_1.den) (K : KF) : evBody Try.prog (tab [(27, (mkS sh27_1 (fun d K => c27_1 d.1.1.1 d.1.1.2.1 d.1.1.2.2.1 d.1.1.2.2.2.1 (fun (y0 : Bool) => K [.lf (.bool y0)] [])) noS)), (126, (mkS sh126_1 (fun d K => c126_1 d.1.1.1 d.1.1.2.1 d.1.1.2.2.1 d.1.1.2.2.2.1 d.1.2.1 (fun (y0 : Int) => K [.lf (.int .i64 y0)] [])) noS))]) (xw []) 31 0 (ltab [(5, mkG sh97_1_l5 [2, 5, 6] (outT [(.exit 0, [5])]) (fun d K => l5 d.2.1.2.1 d.2.1.2.2.1 d.2.1.2.2.2.1 d.2.1.2.2.2.2.1 (fun (y4 : List Int) => K (.exit 0) [.tv (.lf (.full 1))] [some ⟨false, [.int .i64 d.2.1.2.1, .int .i64 d.2.1.2.2.1, .int .i64 d.2.1.2.2.2.1, .int .i64 d.2.1.2.2.2.2.1]⟩, some ⟨false, [.seq (.int .i64) 0 y4]⟩]) F d.1.2.2.1 d.2.2.1.2.1) [])]) code97 Try.f97.results.toList (encT sh97_1.vs d.1) (encH sh97_1.h d.2) K = (fun (a1 : Int) (a2 : Int) (a3 : Int) (a4 : Int) (a5 : Int) (K0 : (List Int → Option Res)) => c27_1 a1 a2 a3 a4 (fun x1 => cond (!x1) (K0 []) (cond (decide (a5 < 0)) (K0 []) (cond (decide (a5 ≥ a1)) (K0 []) (l5 a1 a2 a3 a4 (fun x9 => K0 x9) F a5 [])))) ) d.1.1.1 d.1.1.2.1 d.1.1.2.2.1 d.1.1.2.2.2.1 d.1.2.1 (fun (y0 : List Int) => K [.lf (.full 0)] [some ⟨false, [.seq (.int .i64) 0 y0]⟩]) := by kernel_rfl
theorem E97_1 (F : Nat) (d : sh97_1.den) (K : KF) : evBody Try.prog (T97_1 F) (xw []) 31 0 (LT97_1 F) code97 Try.f97.results.toList (encT sh97_1.vs d.1) (encH sh97_1.h d.2) K = f97_1 F d.1.1.1 d.1.1.2.1 d.1.1.2.2.1 d.1.1.2.2.2.1 d.1.2.1 (fun (y0 : List Int) => K [.lf (.full 0)] [some ⟨false, [.seq (.int .i64) 0 y0]⟩]) := Eq.mp (by kernel_rfl) (E97_1g F (f27_1 F) (f126_1 F) (f97_1_l5 F)  d K)
theorem S97_1_ok (F : Nat) (o : Summ) (ho : SoundFn Try.prog 97 o) : SoundFn Try.prog 97 (S97_1 F o) :=
  soundFn_of (fn := Try.f97) (c := code97) rfl rfl (by kernel_rfl) (tab_cons (S27_1_ok F _ (noS_sound enter27)) (tab_cons (S126_1_ok F _ (noS_sound enter126)) tab_nil)) (by kernel_rfl) (by kernel_rfl) ho (by rw [loops97]; exact (loopsOK_cons (by kernel_rfl) (L97_1_5 F) loopsOK_nil)) (by rw [scopes97]; exact scopesOK_nil) (by rw [ranges97]; exact rangesOK_nil) (E97_1 F)
end Go.Proofs.Ytjlolgpbidfmeaa.X
end

section
namespace Go.Proofs.Ytjlolgpbidfmeaa.X
open Go Go.Proofs.Ytjlolgpbidfmeaa.Ev Go.Proofs
set_option linter.unusedVariables false
set_option linter.unusedSectionVars false
/-! pentimentoref12.Tree).Set -/
noncomputable def f48_1_l8 {β : Type} (F : Nat) (v5 : Int) (v6 : Int) (v7 : Int) (v8 : Int) (v10 : List Int) (K0 : List ByteArray → Option β) : Nat → Int → List ByteArray → Option β
  | 0, _, _ => none
  | k + 1, v4, v9 => cond (decide (v4 < ((v10.length : Nat) : Int))) (cond (decide ((0 : Int) ≤ v4 ∧ v4 < ((v10.length : Nat) : Int))) (cond (decide (0 + v4.toNat < v10.length)) (f92_1 F v5 v6 v7 v8 (v10.getD (0 + v4.toNat) 0) v9 (fun x11 => cond (decide ((0 : Int) ≤ v10.getD (0 + v4.toNat) 0 ∧ v10.getD (0 + v4.toNat) 0 < ((v9.length : Nat) : Int))) (cond (decide (0 + ((v10.getD (0 + v4.toNat) 0).toNat) < v9.length)) (f48_1_l8 F v5 v6 v7 v8 v10 K0 k (IntKind.i64.wrap (v4 + 1)) (v9.set (0 + ((v10.getD (0 + v4.toNat) 0).toNat)) x11)) none) none) ) none) none) (K0 v9)
noncomputable def f48_1 {β : Type} (F : Nat) (a1 : Int) (a2 : ByteArray) (a3 : Int) (a4 : Int) (a5 : Int) (a6 : Int) (a7 : List ByteArray) (K0 : Int → List ByteArray → Option β) : Option β := cond (decide (a1 < 0)) (K0 3 a7) (cond (decide (a1 ≥ a3)) (K0 3 a7) (f91_1 F a2 (fun x1 => cond (!x1) (K0 4 a7) (f17_1 F a2 (fun x2 => cond (decide ((0 : Int) ≤ a1 ∧ a1 < ((a7.length : Nat) : Int))) (cond (decide (0 + a1.toNat < a7.length)) (f97_1 F a3 a4 a5 a6 a1 (fun x3 => f48_1_l8 F a3 a4 a5 a6 x3 (fun x12 => K0 0 x12) F 1 (a7.set (0 + a1.toNat) x2)) ) none) none) )) ))
variable [FZ]
def sh48_1 : Sh := ⟨[.lf (.ptr 0 0), .lf (.int .i64), .lf (.str)], [some ⟨none, [.int .i64, .int .i64, .int .i64, .int .i64, .full 1]⟩, some ⟨some false, [.seq .str 0]⟩]⟩
noncomputable def S48_1 (F : Nat) (o : Summ) : Summ := mkS sh48_1 (fun d K => f48_1 F d.1.2.1 d.1.2.2.1 d.2.1.2.1 d.2.1.2.2.1 d.2.1.2.2.2.1 d.2.1.2.2.2.2.1 d.2.2.1.2.1 (fun (y0 : Int) (y5 : List ByteArray) => K [.lf (.int .i64 y0)] [some ⟨d.2.1.1, [.int .i64 d.2.1.2.1, .int .i64 d.2.1.2.2.1, .int .i64 d.2.1.2.2.2.1, .int .i64 d.2.1.2.2.2.2.1, .full 1]⟩, some ⟨false, [.seq .str 0 y5]⟩])) o
noncomputable def code48 : Code := bodyOf Try.f48
noncomputable def b48_0 : Code := cB (cB (cR (cL (cR (cR (cR (cR (cR (code48)))))))))
theorem scopes48 : scopesOf code48 = [] := by kernel_rfl
theorem ranges48 : rangesOf code48 = [] := by kernel_rfl
theorem loops48 : loopsOf code48 = [b48_0] := by kernel_rfl
theorem enter48 : ∀ args w, (callFunc 48 args).run Try.prog w = .ok (.enter 48 args) w := enter_of (fn := Try.f48) (by kernel_rfl) (by kernel_rfl) (by kernel_rfl)
noncomputable def T48_1 (F : Nat) : FuncId → Option Summ := tab [(17, (S17_1 F noS)), (91, (S91_1 F noS)), (92, (S92_1 F noS)), (97, (S97_1 F noS))]
def sh48_1_l8 : Sh := ⟨[.lf (.ptr 0 0), .lf (.full 2), .lf (.int .i64)], [some ⟨none, [.int .i64, .int .i64, .int .i64, .int .i64, .full 1]⟩, some ⟨some false, [.seq .str 0]⟩, some ⟨some false, [.seq (.int .i64) 0]⟩]⟩
noncomputable def G48_1_8 (F k : Nat) : LoopS := mkG sh48_1_l8 [0, 7, 8] (outT [(.exit 0, [])]) (fun d K => f48_1_l8 F d.2.1.2.1 d.2.1.2.2.1 d.2.1.2.2.2.1 d.2.1.2.2.2.2.1 d.2.2.2.1.2.1 (fun (y4 : List ByteArray) => K (.exit 0) [] [some ⟨d.2.1.1, [.int .i64 d.2.1.2.1, .int .i64 d.2.1.2.2.1, .int .i64 d.2.1.2.2.2.1, .int .i64 d.2.1.2.2.2.2.1, .full 1]⟩, some ⟨false, [.seq .str 0 y4]⟩, some ⟨false, [.seq (.int .i64) 0 d.2.2.2.1.2.1]⟩]) k d.1.2.2.1 d.2.2.1.2.1) []
noncomputable def LT48_1 (F : Nat) : Nat → Option LoopS := ltab [(8, G48_1_8 F F)]
theorem L48_1_l8g (F k : Nat) (c17_1 : ByteArray → (ByteArray → Option Res) → Option Res) (c91_1 : ByteArray → (Bool → Option Res) → Option Res) (c92_1 : Int → Int → Int → Int → Int → List ByteArray → (ByteArray → Option Res) → Option Res) (c97_1 : Int → Int → Int → Int → Int → (List Int → Option Res) → Option Res)  (l8 : Int → Int → Int → Int → List Int → (List ByteArray → Option Res) → Nat → Int → List ByteArray → Option Res) (X8 : LoopS) (d : sh48_1_l8.den) (K : KL) : (fun (v5 : Int) (v6 : Int) (v7 : Int) (v8 : Int) (v10 : List Int) (K0 : (List ByteArray → Option Res)) (k : Nat) (v4 : Int) (v9 : List ByteArray) => cond (decide (v4 < ((v10.length : Nat) : Int))) (cond (decide ((0 : Int) ≤ v4 ∧ v4 < ((v10.length : Nat) : Int))) (cond (decide (0 + v4.toNat < v10.length)) (c92_1 v5 v6 v7 v8 (v10.getD (0 + v4.toNat) 0) v9 (fun x11 => cond (decide ((0 : Int) ≤ v10.getD (0 + v4.toNat) 0 ∧ v10.getD (0 + v4.toNat) 0 < ((v9.length : Nat) : Int))) (cond (decide (0 + ((v10.getD (0 + v4.toNat) 0).toNat) < v9.length)) (l8 v5 v6 v7 v8 v10 K0 k (IntKind.i64.wrap (v4 + 1)) (v9.set (0 + ((v10.getD (0 + v4.toNat) 0).toNat)) x11)) none) none) ) none) none) (K0 v9)) d.2.1.2.1 d.2.1.2.2.1 d.2.1.2.2.2.1 d.2.1.2.2.2.2.1 d.2.2.2.1.2.1 (fun (y4 : List ByteArray) => K (.exit 0) [] [some ⟨d.2.1.1, [.int .i64 d.2.1.2.1, .int .i64 d.2.1.2.2.1, .int .i64 d.2.1.2.2.2.1, .int .i64 d.2.1.2.2.2.2.1, .full 1]⟩, some ⟨false, [.seq .str 0 y4]⟩, some ⟨false, [.seq (.int .i64) 0 d.2.2.2.1.2.1]⟩]) k d.1.2.2.1 d.2.2.1.2.1 = roundOf Try.prog (tab [(17, (mkS sh17_1 (fun d K => c17_1 d.1.1 (fun (y0 : ByteArray) => K [.lf (.str y0)] [])) noS)), (91, (mkS sh91_1 (fun d K => c91_1 d.1.1 (fun (y0 : Bool) => K [.lf (.bool y0)] [])) noS)), (92, (mkS sh92_1 (fun d K => c92_1 d.1.1.1 d.1.1.2.1 d.1.1.2.2.1 d.1.1.2.2.2.1 d.1.2.2.1 d.2.1.2.1 (fun (y0 : ByteArray) => K [.lf (.str y0)] [some ⟨d.2.1.1, [.seq .str 0 d.2.1.2.1]⟩])) noS)), (97, (mkS sh97_1 (fun d K => c97_1 d.1.1.1 d.1.1.2.1 d.1.1.2.2.1 d.1.1.2.2.2.1 d.1.2.1 (fun (y0 : List Int) => K [.lf (.full 0)] [some ⟨false, [.seq (.int .i64) 0 y0]⟩])) noS))]) (xw []) 64 2 (ltab [(8, X8)]) (mkG sh48_1_l8 [0, 7, 8] (outT [(.exit 0, [])]) (fun d K => l8 d.2.1.2.1 d.2.1.2.2.1 d.2.1.2.2.2.1 d.2.1.2.2.2.2.1 d.2.2.2.1.2.1 (fun (y4 : List ByteArray) => K (.exit 0) [] [some ⟨d.2.1.1, [.int .i64 d.2.1.2.1, .int .i64 d.2.1.2.2.1, .int .i64 d.2.1.2.2.2.1, .int .i64 d.2.1.2.2.2.2.1, .full 1]⟩, some ⟨false, [.seq .str 0 y4]⟩, some ⟨false, [.seq (.int .i64) 0 d.2.2.2.1.2.1]⟩]) k d.1.2.2.1 d.2.2.1.2.1) []) b48_0 (encT sh48_1_l8.vs d.1) (encH sh48_1_l8.h d.2) K := by kernel_rfl
theorem L48_1_8 (F : Nat) : LoopOK Try.prog (T48_1 F) (xw []) 64 2 (LT48_1 F) (G48_1_8 F F) b48_0 :=
  loopOK_of (s := sh48_1_l8) (live := [0, 7, 8]) (out := (outT [(.exit 0, [])])) (mv := []) (fun k d K => f48_1_l8 F d.2.1.2.1 d.2.1.2.2.1 d.2.1.2.2.2.1 d.2.1.2.2.2.2.1 d.2.2.2.1.2.1 (fun (y4 : List ByteArray) => K (.exit 0) [] [some ⟨d.2.1.1, [.int .i64 d.2.1.2.1, .int .i64 d.2.1.2.2.1, .int .i64 d.2.1.2.2.2.1, .int .i64 d.2.1.2.2.2.2.1, .full 1]⟩, some ⟨false, [.seq .str 0 y4]⟩, some ⟨false, [.seq (.int .i64) 0 d.2.2.2.1.2.1]⟩]) k d.1.2.2.1 d.2.2.1.2.1) F (fun d K => by kernel_rfl)  (fun k d K => Eq.mp (by kernel_rfl) (L48_1_l8g F k (f17_1 F) (f91_1 F) (f92_1 F) (f97_1 F)  (f48_1_l8 F) (G48_1_8 F F) d K))
theorem E48_1g (F : Nat) (c17_1 : ByteArray → (ByteArray → Option Res) → Option Res) (c91_1 : ByteArray → (Bool → Option Res) → Option Res) (c92_1 : Int → Int → Int → Int → Int → List ByteArray → (ByteArray → Option Res) → Option Res) (c97_1 : Int → Int → Int → Int → Int → (List Int → Option Res) → Option Res) (l8 : Int → Int → Int → Int → List Int → (List ByteArray → Option Res) → Nat → Int → List ByteArray → Option Res)  (d : sh48_1.den) (K : KF) : evBody Try.prog (tab [(17, (mkS sh17_1 (fun d K => c17_1 d.1.1 (fun (y0 : ByteArray) => K [.lf (.str y0)] [])) noS)), (91, (mkS sh91_1 (fun d K => c91_1 d.1.1 (fun (y0 : Bool) => K [.lf (.bool y0)] [])) noS)), (92, (mkS sh92_1 (fun d K => c92_1 d.1.1.1 d.1.1.2.1 d.1.1.2.2.1 d.1.1.2.2.2.1 d.1.2.2.1 d.2.1.2.1 (fun (y0 : ByteArray) => K [.lf (.str y0)] [some ⟨d.2.1.1, [.seq .str 0 d.2.1.2.1]⟩])) noS)), (97, (mkS sh97_1 (fun d K => c97_1 d.1.1.1 d.1.1.2.1 d.1.1.2.2.1 d.1.1.2.2.2.1 d.1.2.1 (fun (y0 : List Int) => K [.lf (.full 0)] [some ⟨false, [.seq (.int .i64) 0 y0]⟩])) noS))]) (xw []) 64 2 (ltab [(8, mkG sh48_1_l8 [0, 7, 8] (outT [(.exit 0, [])]) (fun d K => l8 d.2.1.2.1 d.2.1.2.2.1 d.2.1.2.2.2.1 d.2.1.2.2.2.2.1 d.2.2.2.1.2.1 (fun (y4 : List ByteArray) => K (.exit 0) [] [some ⟨d.2.1.1, [.int .i64 d.2.1.2.1, .int .i64 d.2.1.2.2.1, .int .i64 d.2.1.2.2.2.1, .int .i64 d.2.1.2.2.2.2.1, .full 1]⟩, some ⟨false, [.seq .str 0 y4]⟩, some ⟨false, [.seq (.int .i64) 0 d.2.2.2.1.2.1]⟩]) F d.1.2.2.1 d.2.2.1.2.1) [])]) code48 Try.f48.results.toList (encT sh48_1.vs d.1) (encH sh48_1.h d.2) K = (fun (a1 : Int) (a2 : ByteArray) (a3 : Int) (a4 : Int) (a5 : Int) (a6 : Int) (a7 : List ByteArray) (K0 : (Int → List ByteArray → Option Res)) => cond (decide (a1 < 0)) (K0 3 a7) (cond (decide (a1 ≥ a3)) (K0 3 a7) (c91_1 a2 (fun x1 => cond (!x1) (K0 4 a7) (c17_1 a2 (fun x2 => cond (decide ((0 : Int) ≤ a1 ∧ a1 < ((a7.length : Nat) : Int))) (cond (decide (0 + a1.toNat < a7.length)) (c97_1 a3 a4 a5 a6 a1 (fun x3 => l8 a3 a4 a5 a6 x3 (fun x12 => K0 0 x12) F 1 (a7.set (0 + a1.toNat) x2)) ) none) none) )) ))) d.1.2.1 d.1.2.2.1 d.2.1.2.1 d.2.1.2.2.1 d.2.1.2.2.2.1 d.2.1.2.2.2.2.1 d.2.2.1.2.1 (fun (y0 : Int) (y5 : List ByteArray) => K [.lf (.int .i64 y0)] [some ⟨d.2.1.1, [.int .i64 d.2.1.2.1, .int .i64 d.2.1.2.2.1, .int .i64 d.2.1.2.2.2.1, .int .i64 d.2.1.2.2.2.2.1, .full 1]⟩, some ⟨false, [.seq .str 0 y5]⟩]) := by kernel_rfl
theorem E48_1 (F : Nat) (d : sh48_1.den) (K : KF) : evBody Try.prog (T48_1 F) (xw []) 64 2 (LT48_1 F) code48 Try.f48.results.toList (encT sh48_1.vs d.1) (encH sh48_1.h d.2) K = f48_1 F d.1.2.1 d.1.2.2.1 d.2.1.2.1 d.2.1.2.2.1 d.2.1.2.2.2.1 d.2.1.2.2.2.2.1 d.2.2.1.2.1 (fun (y0 : Int) (y5 : List ByteArray) => K [.lf (.int .i64 y0)] [some ⟨d.2.1.1, [.int .i64 d.2.1.2.1, .int .i64 d.2.1.2.2.1, .int .i64 d.2.1.2.2.2.1, .int .i64 d.2.1.2.2.2.2.1, .full 1]⟩, some ⟨false, [.seq .str 0 y5]⟩]) := Eq.mp (by kernel_rfl) (E48_1g F (f17_1 F) (f91_1 F) (f92_1 F) (f97_1 F) (f48_1_l8 F)  d K)
theorem S48_1_ok (F : Nat) (o : Summ) (ho : SoundFn Try.prog 48 o) : SoundFn Try.prog 48 (S48_1 F o) :=
  soundFn_of (fn := Try.f48) (c := code48) rfl rfl (by kernel_rfl) (tab_cons (S17_1_ok F _ (noS_sound enter17)) (tab_cons (S91_1_ok F _ (noS_sound enter91)) (tab_cons (S92_1_ok F _ (noS_sound enter92)) (tab_cons (S97_1_ok F _ (noS_sound enter97)) tab_nil)))) (by kernel_rfl) (by kernel_rfl) ho (by rw [loops48]; exact (loopsOK_cons (by kernel_rfl) (L48_1_8 F) loopsOK_nil)) (by rw [scopes48]; exact scopesOK_nil) (by rw [ranges48]; exact rangesOK_nil) (E48_1 F)
end Go.Proofs.Ytjlolgpbidfmeaa.X
end

section
namespace Go.Proofs.Ytjlolgpbidfmeaa.X
open Go Go.Proofs.Ytjlolgpbidfmeaa.Ev Go.Proofs
set_option linter.unusedVariables false
set_option linter.unusedSectionVars false
/-! pentimentolaw12.TreePlays -/
noncomputable def f10_1_l9 {β : Type} (F : Nat) (v12 : List ByteArray) (v13 : List (Int × ByteArray)) (v14 : Int) (v15 : Int) (v16 : Int) (v17 : Int) (K0 : List ByteArray → Option β) (K1 : List ByteArray → Option β) : Nat → Int → List ByteArray → Option β
  | 0, _, _ => none
  | k + 1, v11, v18 => cond (decide (v11 < ((v13.length : Nat) : Int))) (cond (decide ((0 : Int) ≤ v11 ∧ v11 < ((v13.length : Nat) : Int))) (cond (decide (0 + v11.toNat < v13.length)) (cond (decide ((0 : Int) ≤ v11 ∧ v11 < ((v13.length : Nat) : Int))) (cond (decide (0 + v11.toNat < v13.length)) (cond (decide ((0 : Int) ≤ v11 ∧ v11 < ((v13.length : Nat) : Int))) (cond (decide ((0 : Int) ≤ v11 ∧ v11 < ((v13.length : Nat) : Int))) (amb (f40_1385 F ((v13.getD (0 + v11.toNat) (0, ByteArray.empty)).1) ((v13.getD (0 + v11.toNat) (0, ByteArray.empty)).2) (cond (decide (0 + v11.toNat < v13.length)) (cond (decide (0 + v11.toNat < v13.length)) (f48_1 F ((v13.getD (0 + v11.toNat) (0, ByteArray.empty)).1) ((v13.getD (0 + v11.toNat) (0, ByteArray.empty)).2) v14 v15 v16 v17 v18 (fun x19 x20 => cond ((1 : Int) != x19) (K0 x20) (f10_1_l9 F v12 v13 v14 v15 v16 v17 K0 K1 k (IntKind.i64.wrap (v11 + 1)) x20)) ) none) none) ) (amb (cond (decide (0 + v11.toNat < v13.length)) (amb (f40_1385 F ((v13.getD (0 + v11.toNat) (0, ByteArray.empty)).1) ((v13.getD (0 + v11.toNat) (0, ByteArray.empty)).2) (cond (decide (0 + v11.toNat < v13.length)) (f48_1 F ((v13.getD (0 + v11.toNat) (0, ByteArray.empty)).1) ((v13.getD (0 + v11.toNat) (0, ByteArray.empty)).2) v14 v15 v16 v17 v18 (fun x21 x22 => cond ((1 : Int) != x21) (K0 x22) (f10_1_l9 F v12 v13 v14 v15 v16 v17 K0 K1 k (IntKind.i64.wrap (v11 + 1)) x22)) ) none) ) (cond (decide (0 + v11.toNat < v13.length)) (f40_1385 F ((v13.getD (0 + v11.toNat) (0, ByteArray.empty)).1) ((v13.getD (0 + v11.toNat) (0, ByteArray.empty)).2) (f48_1 F ((v13.getD (0 + v11.toNat) (0, ByteArray.empty)).1) ((v13.getD (0 + v11.toNat) (0, ByteArray.empty)).2) v14 v15 v16 v17 v18 (fun x23 x24 => cond ((1 : Int) != x23) (K0 x24) (f10_1_l9 F v12 v13 v14 v15 v16 v17 K0 K1 k (IntKind.i64.wrap (v11 + 1)) x24)) ) ) none)) none) (cond (decide (0 + v11.toNat < v13.length)) (amb (f40_1385 F ((v13.getD (0 + v11.toNat) (0, ByteArray.empty)).1) ((v13.getD (0 + v11.toNat) (0, ByteArray.empty)).2) (cond (decide (0 + v11.toNat < v13.length)) (f48_1 F ((v13.getD (0 + v11.toNat) (0, ByteArray.empty)).1) ((v13.getD (0 + v11.toNat) (0, ByteArray.empty)).2) v14 v15 v16 v17 v18 (fun x25 x26 => cond ((1 : Int) != x25) (K0 x26) (f10_1_l9 F v12 v13 v14 v15 v16 v17 K0 K1 k (IntKind.i64.wrap (v11 + 1)) x26)) ) none) ) (cond (decide (0 + v11.toNat < v13.length)) (f40_1385 F ((v13.getD (0 + v11.toNat) (0, ByteArray.empty)).1) ((v13.getD (0 + v11.toNat) (0, ByteArray.empty)).2) (f48_1 F ((v13.getD (0 + v11.toNat) (0, ByteArray.empty)).1) ((v13.getD (0 + v11.toNat) (0, ByteArray.empty)).2) v14 v15 v16 v17 v18 (fun x27 x28 => cond ((1 : Int) != x27) (K0 x28) (f10_1_l9 F v12 v13 v14 v15 v16 v17 K0 K1 k (IntKind.i64.wrap (v11 + 1)) x28)) ) ) none)) none))) none) none) none) none) none) none) (K1 v18)
noncomputable def f10_1_l9_2 {β : Type} (F : Nat) (v40 : List ByteArray) (v41 : List (Int × ByteArray)) (v42 : Int) (v43 : Int) (v44 : Int) (v45 : Int) (v47 : Int) (v48 : Int) (v49 : Int) (v50 : Int) (v52 : Int) (v53 : Int) (v54 : Int) (v55 : Int) (v56 : List ByteArray) (K0 : List ByteArray → List ByteArray → Option β) (K1 : List ByteArray → List ByteArray → Option β) : Nat → Int → List ByteArray → List ByteArray → Option β
  | 0, _, _, _ => none
  | k + 1, v39, v46, v51 => cond (decide (v39 < ((v41.length : Nat) : Int))) (cond (decide ((0 : Int) ≤ v39 ∧ v39 < ((v41.length : Nat) : Int))) (cond (decide (0 + v39.toNat < v41.length)) (cond (decide ((0 : Int) ≤ v39 ∧ v39 < ((v41.length : Nat) : Int))) (cond (decide (0 + v39.toNat < v41.length)) (cond (decide ((0 : Int) ≤ v39 ∧ v39 < ((v41.length : Nat) : Int))) (cond (decide ((0 : Int) ≤ v39 ∧ v39 < ((v41.length : Nat) : Int))) (amb (f40_1 F ((v41.getD (0 + v39.toNat) (0, ByteArray.empty)).1) ((v41.getD (0 + v39.toNat) (0, ByteArray.empty)).2) v42 v43 v44 v45 v46 (fun x57 x58 => cond (decide (0 + v39.toNat < v41.length)) (cond (decide (0 + v39.toNat < v41.length)) (f48_1 F ((v41.getD (0 + v39.toNat) (0, ByteArray.empty)).1) ((v41.getD (0 + v39.toNat) (0, ByteArray.empty)).2) v47 v48 v49 v50 v51 (fun x59 x60 => cond (x57 != x59) (K0 x58 x60) (f10_1_l9_2 F v40 v41 v42 v43 v44 v45 v47 v48 v49 v50 v52 v53 v54 v55 v56 K0 K1 k (IntKind.i64.wrap (v39 + 1)) x58 x60)) ) none) none) ) (amb (cond (decide (0 + v39.toNat < v41.length)) (amb (f40_1 F ((v41.getD (0 + v39.toNat) (0, ByteArray.empty)).1) ((v41.getD (0 + v39.toNat) (0, ByteArray.empty)).2) v42 v43 v44 v45 v46 (fun x61 x62 => cond (decide (0 + v39.toNat < v41.length)) (f48_1 F ((v41.getD (0 + v39.toNat) (0, ByteArray.empty)).1) ((v41.getD (0 + v39.toNat) (0, ByteArray.empty)).2) v47 v48 v49 v50 v51 (fun x63 x64 => cond (x61 != x63) (K0 x62 x64) (f10_1_l9_2 F v40 v41 v42 v43 v44 v45 v47 v48 v49 v50 v52 v53 v54 v55 v56 K0 K1 k (IntKind.i64.wrap (v39 + 1)) x62 x64)) ) none) ) (cond (decide (0 + v39.toNat < v41.length)) (f40_1 F ((v41.getD (0 + v39.toNat) (0, ByteArray.empty)).1) ((v41.getD (0 + v39.toNat) (0, ByteArray.empty)).2) v42 v43 v44 v45 v46 (fun x65 x66 => f48_1 F ((v41.getD (0 + v39.toNat) (0, ByteArray.empty)).1) ((v41.getD (0 + v39.toNat) (0, ByteArray.empty)).2) v47 v48 v49 v50 v51 (fun x67 x68 => cond (x65 != x67) (K0 x66 x68) (f10_1_l9_2 F v40 v41 v42 v43 v44 v45 v47 v48 v49 v50 v52 v53 v54 v55 v56 K0 K1 k (IntKind.i64.wrap (v39 + 1)) x66 x68)) ) ) none)) none) (cond (decide (0 + v39.toNat < v41.length)) (amb (f40_1 F ((v41.getD (0 + v39.toNat) (0, ByteArray.empty)).1) ((v41.getD (0 + v39.toNat) (0, ByteArray.empty)).2) v42 v43 v44 v45 v46 (fun x69 x70 => cond (decide (0 + v39.toNat < v41.length)) (f48_1 F ((v41.getD (0 + v39.toNat) (0, ByteArray.empty)).1) ((v41.getD (0 + v39.toNat) (0, ByteArray.empty)).2) v47 v48 v49 v50 v51 (fun x71 x72 => cond (x69 != x71) (K0 x70 x72) (f10_1_l9_2 F v40 v41 v42 v43 v44 v45 v47 v48 v49 v50 v52 v53 v54 v55 v56 K0 K1 k (IntKind.i64.wrap (v39 + 1)) x70 x72)) ) none) ) (cond (decide (0 + v39.toNat < v41.length)) (f40_1 F ((v41.getD (0 + v39.toNat) (0, ByteArray.empty)).1) ((v41.getD (0 + v39.toNat) (0, ByteArray.empty)).2) v42 v43 v44 v45 v46 (fun x73 x74 => f48_1 F ((v41.getD (0 + v39.toNat) (0, ByteArray.empty)).1) ((v41.getD (0 + v39.toNat) (0, ByteArray.empty)).2) v47 v48 v49 v50 v51 (fun x75 x76 => cond (x73 != x75) (K0 x74 x76) (f10_1_l9_2 F v40 v41 v42 v43 v44 v45 v47 v48 v49 v50 v52 v53 v54 v55 v56 K0 K1 k (IntKind.i64.wrap (v39 + 1)) x74 x76)) ) ) none)) none))) none) none) none) none) none) none) (K1 v46 v51)
noncomputable def f10_1 {β : Type} (F : Nat) (a1 : Int) (a2 : Int) (a3 : Int) (a4 : Int) (a5 : List ByteArray) (a6 : List (Int × ByteArray)) (K0 : Bool → Option β) : Option β := f26_1 F a1 a2 a3 a4 (fun x1 => cond (!x1) (f28_1 F  (fun x2 => K0 x2) ) (cond (decide (((a5.length : Nat) : Int) > 80)) (f28_1 F  (fun x3 => K0 x3) ) (cond (decide (((a6.length : Nat) : Int) > 30)) (f28_1 F  (fun x4 => K0 x4) ) (f34_1 F a1 a2 a3 a4 a5 (fun x5 => f35_1 F a1 a2 a3 a4 a5 (fun x6 => cond (x5 != x6) (cond (x5 == x6) (f28_1 F  (fun x7 => K0 x7) ) (K0 false)) (cond (x5 == x6) (f28_1 F  (fun x8 => K0 x8) ) (K0 false))) (fun x9 => cond (x5 != 0) (cond (x5 == 0) (f28_1 F  (fun x10 => K0 x10) ) (K0 false)) (f47_568 F  (f10_1_l9 F a5 a6 a1 a2 a3 a4 (fun x29 => K0 false) (fun x30 => f39_8145 F 0 a1 a2 a3 a4 x30 (fun x31 => cond x31 (f42_568 F  (fun x32 => f41_1 F x32 a5 (fun x33 => cond x33 (f28_1 F  (fun x34 => K0 x34) ) (K0 false)) ) ) (K0 false)) ) F 0 x9) )) ) (fun x35 => f35_1 F a1 a2 a3 a4 a5 (fun x36 => cond ((0 : Int) != x36) (cond ((0 : Int) == x36) (K0 false) (K0 false)) (cond ((0 : Int) == x36) (K0 false) (K0 false))) (fun x37 => f47_1 F a1 a2 a3 a4 x35 (fun x38 => f10_1_l9_2 F a5 a6 a1 a2 a3 a4 a1 a2 a3 a4 a1 a2 a3 a4 x38 (fun x77 x78 => K0 false) (fun x79 x80 => f39_1 F 0 a1 a2 a3 a4 x79 a1 a2 a3 a4 x80 (fun x81 => cond x81 (f42_1 F a1 a2 a3 a4 x38 (fun x82 => f41_1 F x82 a5 (fun x83 => cond x83 (f28_1 F  (fun x84 => K0 x84) ) (K0 false)) ) ) (K0 false)) ) F 0 x35 x37) ) ) )))) 
variable [FZ]
def sh10_1 : Sh := ⟨[.agg [.int .i64, .int .i64, .int .i64, .int .i64], .lf (.full 0), .lf (.full 1)], [some ⟨none, [.seq .str 0]⟩, some ⟨none, [.seq (.pair (.int .i64) .str) 0]⟩]⟩
noncomputable def S10_1 (F : Nat) (o : Summ) : Summ := mkS sh10_1 (fun d K => f10_1 F d.1.1.1 d.1.1.2.1 d.1.1.2.2.1 d.1.1.2.2.2.1 d.2.1.2.1 d.2.2.1.2.1 (fun (y0 : Bool) => K [.lf (.bool y0)] [some ⟨d.2.1.1, [.seq .str 0 d.2.1.2.1]⟩, some ⟨d.2.2.1.1, [.seq (.pair (.int .i64) .str) 0 d.2.2.1.2.1]⟩])) o
noncomputable def code10 : Code := bodyOf Try.f10
noncomputable def b10_0 : Code := cB (cB (cR (cL (cR (cR (cR (cR (cR (cR (code10))))))))))
theorem scopes10 : scopesOf code10 = [] := by kernel_rfl
theorem ranges10 : rangesOf code10 = [] := by kernel_rfl
theorem loops10 : loopsOf code10 = [b10_0] := by kernel_rfl
theorem enter10 : ∀ args w, (callFunc 10 args).run Try.prog w = .ok (.enter 10 args) w := enter_of (fn := Try.f10) (by kernel_rfl) (by kernel_rfl) (by kernel_rfl)
noncomputable def T10_1 (F : Nat) : FuncId → Option Summ := tab [(26, (S26_1 F noS)), (28, (S28_1 F noS)), (34, (S34_1 F noS)), (35, (S35_1 F noS)), (39, (S39_1 F (S39_8145 F noS))), (40, (S40_1 F (S40_1385 F noS))), (41, (S41_1 F noS)), (42, (S42_1 F (S42_568 F noS))), (47, (S47_1 F (S47_568 F noS))), (48, (S48_1 F noS))]
def sh10_1_l9 : Sh := ⟨[.lf (.full 0), .lf (.full 1), .lf (.nilp), .lf (.ptr 2 0), .lf (.nilp), .lf (.int .i64)], [some ⟨none, [.seq .str 0]⟩, some ⟨none, [.seq (.pair (.int .i64) .str) 0]⟩, some ⟨some false, [.int .i64, .int .i64, .int .i64, .int .i64, .full 3]⟩, some ⟨some false, [.seq .str 0]⟩]⟩
def sh10_1_l9_2 : Sh := ⟨[.lf (.full 0), .lf (.full 1), .lf (.ptr 2 0), .lf (.ptr 4 0), .lf (.ptr 6 0), .lf (.int .i64)], [some ⟨none, [.seq .str 0]⟩, some ⟨none, [.seq (.pair (.int .i64) .str) 0]⟩, some ⟨some false, [.int .i64, .int .i64, .int .i64, .int .i64, .full 3]⟩, some ⟨some false, [.seq .str 0]⟩, some ⟨some false, [.int .i64, .int .i64, .int .i64, .int .i64, .full 5]⟩, some ⟨some false, [.seq .str 0]⟩, some ⟨some false, [.int .i64, .int .i64, .int .i64, .int .i64, .full 7]⟩, some ⟨some false, [.seq .str 0]⟩]⟩
noncomputable def G10_1_9 (F k : Nat) : LoopS := orG sh10_1_l9 (fun d K => f10_1_l9 F d.2.1.2.1 d.2.2.1.2.1 d.2.2.2.1.2.1 d.2.2.2.1.2.2.1 d.2.2.2.1.2.2.2.1 d.2.2.2.1.2.2.2.2.1 (fun (y7 : List ByteArray) => K .ret [.tv (.lf (.bool false))] [some ⟨d.2.1.1, [.seq .str 0 d.2.1.2.1]⟩, some ⟨d.2.2.1.1, [.seq (.pair (.int .i64) .str) 0 d.2.2.1.2.1]⟩, some ⟨false, [.int .i64 d.2.2.2.1.2.1, .int .i64 d.2.2.2.1.2.2.1, .int .i64 d.2.2.2.1.2.2.2.1, .int .i64 d.2.2.2.1.2.2.2.2.1, .full 3]⟩, some ⟨false, [.seq .str 0 y7]⟩]) (fun (y6 : List ByteArray) => K (.exit 0) [.tv (.lf (.full 0)), .tv (.lf (.nilp)), .tv (.lf (.ptr 2 0)), .tv (.lf (.nilp))] [some ⟨d.2.1.1, [.seq .str 0 d.2.1.2.1]⟩, some ⟨d.2.2.1.1, [.seq (.pair (.int .i64) .str) 0 d.2.2.1.2.1]⟩, some ⟨false, [.int .i64 d.2.2.2.1.2.1, .int .i64 d.2.2.2.1.2.2.1, .int .i64 d.2.2.2.1.2.2.2.1, .int .i64 d.2.2.2.1.2.2.2.2.1, .full 3]⟩, some ⟨false, [.seq .str 0 y6]⟩]) k d.1.2.2.2.2.2.1 d.2.2.2.2.1.2.1) (mkG sh10_1_l9_2 [1, 2, 7, 9, 11, 12] (outT [(.exit 0, [1, 7, 9, 11]), (.ret, [6])]) (fun d K => f10_1_l9_2 F d.2.1.2.1 d.2.2.1.2.1 d.2.2.2.1.2.1 d.2.2.2.1.2.2.1 d.2.2.2.1.2.2.2.1 d.2.2.2.1.2.2.2.2.1 d.2.2.2.2.2.1.2.1 d.2.2.2.2.2.1.2.2.1 d.2.2.2.2.2.1.2.2.2.1 d.2.2.2.2.2.1.2.2.2.2.1 d.2.2.2.2.2.2.2.1.2.1 d.2.2.2.2.2.2.2.1.2.2.1 d.2.2.2.2.2.2.2.1.2.2.2.1 d.2.2.2.2.2.2.2.1.2.2.2.2.1 d.2.2.2.2.2.2.2.2.1.2.1 (fun (y7 : List ByteArray) (y12 : List ByteArray) => K .ret [.tv (.lf (.bool false))] [some ⟨d.2.1.1, [.seq .str 0 d.2.1.2.1]⟩, some ⟨d.2.2.1.1, [.seq (.pair (.int .i64) .str) 0 d.2.2.1.2.1]⟩, some ⟨false, [.int .i64 d.2.2.2.1.2.1, .int .i64 d.2.2.2.1.2.2.1, .int .i64 d.2.2.2.1.2.2.2.1, .int .i64 d.2.2.2.1.2.2.2.2.1, .full 3]⟩, some ⟨false, [.seq .str 0 y7]⟩, some ⟨false, [.int .i64 d.2.2.2.2.2.1.2.1, .int .i64 d.2.2.2.2.2.1.2.2.1, .int .i64 d.2.2.2.2.2.1.2.2.2.1, .int .i64 d.2.2.2.2.2.1.2.2.2.2.1, .full 5]⟩, some ⟨false, [.seq .str 0 y12]⟩, some ⟨false, [.int .i64 d.2.2.2.2.2.2.2.1.2.1, .int .i64 d.2.2.2.2.2.2.2.1.2.2.1, .int .i64 d.2.2.2.2.2.2.2.1.2.2.2.1, .int .i64 d.2.2.2.2.2.2.2.1.2.2.2.2.1, .full 7]⟩, some ⟨false, [.seq .str 0 d.2.2.2.2.2.2.2.2.1.2.1]⟩]) (fun (y6 : List ByteArray) (y11 : List ByteArray) => K (.exit 0) [.tv (.lf (.full 0)), .tv (.lf (.ptr 2 0)), .tv (.lf (.ptr 4 0)), .tv (.lf (.ptr 6 0))] [some ⟨d.2.1.1, [.seq .str 0 d.2.1.2.1]⟩, some ⟨d.2.2.1.1, [.seq (.pair (.int .i64) .str) 0 d.2.2.1.2.1]⟩, some ⟨false, [.int .i64 d.2.2.2.1.2.1, .int .i64 d.2.2.2.1.2.2.1, .int .i64 d.2.2.2.1.2.2.2.1, .int .i64 d.2.2.2.1.2.2.2.2.1, .full 3]⟩, some ⟨false, [.seq .str 0 y6]⟩, some ⟨false, [.int .i64 d.2.2.2.2.2.1.2.1, .int .i64 d.2.2.2.2.2.1.2.2.1, .int .i64 d.2.2.2.2.2.1.2.2.2.1, .int .i64 d.2.2.2.2.2.1.2.2.2.2.1, .full 5]⟩, some ⟨false, [.seq .str 0 y11]⟩, some ⟨false, [.int .i64 d.2.2.2.2.2.2.2.1.2.1, .int .i64 d.2.2.2.2.2.2.2.1.2.2.1, .int .i64 d.2.2.2.2.2.2.2.1.2.2.2.1, .int .i64 d.2.2.2.2.2.2.2.1.2.2.2.2.1, .full 7]⟩, some ⟨false, [.seq .str 0 d.2.2.2.2.2.2.2.2.1.2.1]⟩]) k d.1.2.2.2.2.2.1 d.2.2.2.2.1.2.1 d.2.2.2.2.2.2.1.2.1) [])
noncomputable def LT10_1 (F : Nat) : Nat → Option LoopS := ltab [(9, G10_1_9 F F)]
theorem L10_1_l9g (F k : Nat) (c26_1 : Int → Int → Int → Int → (Bool → Option Res) → Option Res) (c28_1 : (Bool → Option Res) → Option Res) (c34_1 : Int → Int → Int → Int → List ByteArray → (Int → Option Res) → (List ByteArray → Option Res) → Option Res) (c35_1 : Int → Int → Int → Int → List ByteArray → (Int → Option Res) → (List ByteArray → Option Res) → Option Res) (c39_1 : Int → Int → Int → Int → Int → List ByteArray → Int → Int → Int → Int → List ByteArray → (Bool → Option Res) → Option Res) (c39_8145 : Int → Int → Int → Int → Int → List ByteArray → (Bool → Option Res) → Option Res) (c40_1 : Int → ByteArray → Int → Int → Int → Int → List ByteArray → (Int → List ByteArray → Option Res) → Option Res) (c40_1385 : Int → ByteArray → (Option Res) → Option Res) (c41_1 : List ByteArray → List ByteArray → (Bool → Option Res) → Option Res) (c42_1 : Int → Int → Int → Int → List ByteArray → (List ByteArray → Option Res) → Option Res) (c42_568 : (List ByteArray → Option Res) → Option Res) (c47_1 : Int → Int → Int → Int → List ByteArray → (List ByteArray → Option Res) → Option Res) (c47_568 : (Option Res) → Option Res) (c48_1 : Int → ByteArray → Int → Int → Int → Int → List ByteArray → (Int → List ByteArray → Option Res) → Option Res)  (l9 : List ByteArray → List (Int × ByteArray) → Int → Int → Int → Int → (List ByteArray → Option Res) → (List ByteArray → Option Res) → Nat → Int → List ByteArray → Option Res) (l9_2 : List ByteArray → List (Int × ByteArray) → Int → Int → Int → Int → Int → Int → Int → Int → Int → Int → Int → Int → List ByteArray → (List ByteArray → List ByteArray → Option Res) → (List ByteArray → List ByteArray → Option Res) → Nat → Int → List ByteArray → List ByteArray → Option Res) (X9 : LoopS) (d : sh10_1_l9.den) (K : KL) : (fun (v12 : List ByteArray) (v13 : List (Int × ByteArray)) (v14 : Int) (v15 : Int) (v16 : Int) (v17 : Int) (K0 : (List ByteArray → Option Res)) (K1 : (List ByteArray → Option Res)) (k : Nat) (v11 : Int) (v18 : List ByteArray) => cond (decide (v11 < ((v13.length : Nat) : Int))) (cond (decide ((0 : Int) ≤ v11 ∧ v11 < ((v13.length : Nat) : Int))) (cond (decide (0 + v11.toNat < v13.length)) (cond (decide ((0 : Int) ≤ v11 ∧ v11 < ((v13.length : Nat) : Int))) (cond (decide (0 + v11.toNat < v13.length)) (cond (decide ((0 : Int) ≤ v11 ∧ v11 < ((v13.length : Nat) : Int))) (cond (decide ((0 : Int) ≤ v11 ∧ v11 < ((v13.length : Nat) : Int))) (amb (c40_1385 ((v13.getD (0 + v11.toNat) (0, ByteArray.empty)).1) ((v13.getD (0 + v11.toNat) (0, ByteArray.empty)).2) (cond (decide (0 + v11.toNat < v13.length)) (cond (decide (0 + v11.toNat < v13.length)) (c48_1 ((v13.getD (0 + v11.toNat) (0, ByteArray.empty)).1) ((v13.getD (0 + v11.toNat) (0, ByteArray.empty)).2) v14 v15 v16 v17 v18 (fun x19 x20 => cond ((1 : Int) != x19) (K0 x20) (l9 v12 v13 v14 v15 v16 v17 K0 K1 k (IntKind.i64.wrap (v11 + 1)) x20)) ) none) none) ) (amb (cond (decide (0 + v11.toNat < v13.length)) (amb (c40_1385 ((v13.getD (0 + v11.toNat) (0, ByteArray.empty)).1) ((v13.getD (0 + v11.toNat) (0, ByteArray.empty)).2) (cond (decide (0 + v11.toNat < v13.length)) (c48_1 ((v13.getD (0 + v11.toNat) (0, ByteArray.empty)).1) ((v13.getD (0 + v11.toNat) (0, ByteArray.empty)).2) v14 v15 v16 v17 v18 (fun x21 x22 => cond ((1 : Int) != x21) (K0 x22) (l9 v12 v13 v14 v15 v16 v17 K0 K1 k (IntKind.i64.wrap (v11 + 1)) x22)) ) none) ) (cond (decide (0 + v11.toNat < v13.length)) (c40_1385 ((v13.getD (0 + v11.toNat) (0, ByteArray.empty)).1) ((v13.getD (0 + v11.toNat) (0, ByteArray.empty)).2) (c48_1 ((v13.getD (0 + v11.toNat) (0, ByteArray.empty)).1) ((v13.getD (0 + v11.toNat) (0, ByteArray.empty)).2) v14 v15 v16 v17 v18 (fun x23 x24 => cond ((1 : Int) != x23) (K0 x24) (l9 v12 v13 v14 v15 v16 v17 K0 K1 k (IntKind.i64.wrap (v11 + 1)) x24)) ) ) none)) none) (cond (decide (0 + v11.toNat < v13.length)) (amb (c40_1385 ((v13.getD (0 + v11.toNat) (0, ByteArray.empty)).1) ((v13.getD (0 + v11.toNat) (0, ByteArray.empty)).2) (cond (decide (0 + v11.toNat < v13.length)) (c48_1 ((v13.getD (0 + v11.toNat) (0, ByteArray.empty)).1) ((v13.getD (0 + v11.toNat) (0, ByteArray.empty)).2) v14 v15 v16 v17 v18 (fun x25 x26 => cond ((1 : Int) != x25) (K0 x26) (l9 v12 v13 v14 v15 v16 v17 K0 K1 k (IntKind.i64.wrap (v11 + 1)) x26)) ) none) ) (cond (decide (0 + v11.toNat < v13.length)) (c40_1385 ((v13.getD (0 + v11.toNat) (0, ByteArray.empty)).1) ((v13.getD (0 + v11.toNat) (0, ByteArray.empty)).2) (c48_1 ((v13.getD (0 + v11.toNat) (0, ByteArray.empty)).1) ((v13.getD (0 + v11.toNat) (0, ByteArray.empty)).2) v14 v15 v16 v17 v18 (fun x27 x28 => cond ((1 : Int) != x27) (K0 x28) (l9 v12 v13 v14 v15 v16 v17 K0 K1 k (IntKind.i64.wrap (v11 + 1)) x28)) ) ) none)) none))) none) none) none) none) none) none) (K1 v18)) d.2.1.2.1 d.2.2.1.2.1 d.2.2.2.1.2.1 d.2.2.2.1.2.2.1 d.2.2.2.1.2.2.2.1 d.2.2.2.1.2.2.2.2.1 (fun (y7 : List ByteArray) => K .ret [.tv (.lf (.bool false))] [some ⟨d.2.1.1, [.seq .str 0 d.2.1.2.1]⟩, some ⟨d.2.2.1.1, [.seq (.pair (.int .i64) .str) 0 d.2.2.1.2.1]⟩, some ⟨false, [.int .i64 d.2.2.2.1.2.1, .int .i64 d.2.2.2.1.2.2.1, .int .i64 d.2.2.2.1.2.2.2.1, .int .i64 d.2.2.2.1.2.2.2.2.1, .full 3]⟩, some ⟨false, [.seq .str 0 y7]⟩]) (fun (y6 : List ByteArray) => K (.exit 0) [.tv (.lf (.full 0)), .tv (.lf (.nilp)), .tv (.lf (.ptr 2 0)), .tv (.lf (.nilp))] [some ⟨d.2.1.1, [.seq .str 0 d.2.1.2.1]⟩, some ⟨d.2.2.1.1, [.seq (.pair (.int .i64) .str) 0 d.2.2.1.2.1]⟩, some ⟨false, [.int .i64 d.2.2.2.1.2.1, .int .i64 d.2.2.2.1.2.2.1, .int .i64 d.2.2.2.1.2.2.2.1, .int .i64 d.2.2.2.1.2.2.2.2.1, .full 3]⟩, some ⟨false, [.seq .str 0 y6]⟩]) k d.1.2.2.2.2.2.1 d.2.2.2.2.1.2.1 = roundOf Try.prog (tab [(26, (mkS sh26_1 (fun d K => c26_1 d.1.1.1 d.1.1.2.1 d.1.1.2.2.1 d.1.1.2.2.2.1 (fun (y0 : Bool) => K [.lf (.bool y0)] [])) noS)), (28, (mkS sh28_1 (fun d K => c28_1 (fun (y0 : Bool) => K [.lf (.bool y0)] [])) noS)), (34, (mkS sh34_1 (fun d K => c34_1 d.1.1.1 d.1.1.2.1 d.1.1.2.2.1 d.1.1.2.2.2.1 d.2.1.2.1 (fun (y0 : Int) => K [.lf (.nilp), .lf (.int .i64 y0)] [some ⟨d.2.1.1, [.seq .str 0 d.2.1.2.1]⟩]) (fun (y6 : List ByteArray) => K [.lf (.ptr 1 0), .lf (.int .i64 0)] [some ⟨d.2.1.1, [.seq .str 0 d.2.1.2.1]⟩, some ⟨false, [.int .i64 d.1.1.1, .int .i64 d.1.1.2.1, .int .i64 d.1.1.2.2.1, .int .i64 d.1.1.2.2.2.1, .full 2]⟩, some ⟨false, [.seq .str 0 y6]⟩])) noS)), (35, (mkS sh35_1 (fun d K => c35_1 d.1.1.1 d.1.1.2.1 d.1.1.2.2.1 d.1.1.2.2.2.1 d.2.1.2.1 (fun (y0 : Int) => K [.lf (.nilp), .lf (.int .i64 y0)] [some ⟨d.2.1.1, [.seq .str 0 d.2.1.2.1]⟩]) (fun (y6 : List ByteArray) => K [.lf (.ptr 1 0), .lf (.int .i64 0)] [some ⟨d.2.1.1, [.seq .str 0 d.2.1.2.1]⟩, some ⟨false, [.int .i64 d.1.1.1, .int .i64 d.1.1.2.1, .int .i64 d.1.1.2.2.1, .int .i64 d.1.1.2.2.2.1, .full 2]⟩, some ⟨false, [.seq .str 0 y6]⟩])) noS)), (39, (mkS sh39_1 (fun d K => c39_1 d.1.2.2.1 d.2.1.2.1 d.2.1.2.2.1 d.2.1.2.2.2.1 d.2.1.2.2.2.2.1 d.2.2.1.2.1 d.2.2.2.1.2.1 d.2.2.2.1.2.2.1 d.2.2.2.1.2.2.2.1 d.2.2.2.1.2.2.2.2.1 d.2.2.2.2.1.2.1 (fun (y0 : Bool) => K [.lf (.bool y0)] [some ⟨d.2.1.1, [.int .i64 d.2.1.2.1, .int .i64 d.2.1.2.2.1, .int .i64 d.2.1.2.2.2.1, .int .i64 d.2.1.2.2.2.2.1, .full 1]⟩, some ⟨d.2.2.1.1, [.seq .str 0 d.2.2.1.2.1]⟩, some ⟨d.2.2.2.1.1, [.int .i64 d.2.2.2.1.2.1, .int .i64 d.2.2.2.1.2.2.1, .int .i64 d.2.2.2.1.2.2.2.1, .int .i64 d.2.2.2.1.2.2.2.2.1, .full 3]⟩, some ⟨d.2.2.2.2.1.1, [.seq .str 0 d.2.2.2.2.1.2.1]⟩])) (mkS sh39_8145 (fun d K => c39_8145 d.1.2.2.1 d.2.1.2.1 d.2.1.2.2.1 d.2.1.2.2.2.1 d.2.1.2.2.2.2.1 d.2.2.1.2.1 (fun (y0 : Bool) => K [.lf (.bool y0)] [some ⟨d.2.1.1, [.int .i64 d.2.1.2.1, .int .i64 d.2.1.2.2.1, .int .i64 d.2.1.2.2.2.1, .int .i64 d.2.1.2.2.2.2.1, .full 1]⟩, some ⟨d.2.2.1.1, [.seq .str 0 d.2.2.1.2.1]⟩])) noS))), (40, (mkS sh40_1 (fun d K => c40_1 d.1.2.1 d.1.2.2.1 d.2.1.2.1 d.2.1.2.2.1 d.2.1.2.2.2.1 d.2.1.2.2.2.2.1 d.2.2.1.2.1 (fun (y0 : Int) (y5 : List ByteArray) => K [.lf (.int .i64 y0)] [some ⟨d.2.1.1, [.int .i64 d.2.1.2.1, .int .i64 d.2.1.2.2.1, .int .i64 d.2.1.2.2.2.1, .int .i64 d.2.1.2.2.2.2.1, .full 1]⟩, some ⟨false, [.seq .str 0 y5]⟩])) (mkS sh40_1385 (fun d K => c40_1385 d.1.2.1 d.1.2.2.1 (K [.lf (.int .i64 1)] [])) noS))), (41, (mkS sh41_1 (fun d K => c41_1 d.2.1.2.1 d.2.2.1.2.1 (fun (y0 : Bool) => K [.lf (.bool y0)] [some ⟨d.2.1.1, [.seq .str 0 d.2.1.2.1]⟩, some ⟨d.2.2.1.1, [.seq .str 0 d.2.2.1.2.1]⟩])) noS)), (42, (mkS sh42_1 (fun d K => c42_1 d.2.1.2.1 d.2.1.2.2.1 d.2.1.2.2.2.1 d.2.1.2.2.2.2.1 d.2.2.1.2.1 (fun (y5 : List ByteArray) => K [.lf (.full 2)] [some ⟨d.2.1.1, [.int .i64 d.2.1.2.1, .int .i64 d.2.1.2.2.1, .int .i64 d.2.1.2.2.2.1, .int .i64 d.2.1.2.2.2.2.1, .full 1]⟩, some ⟨d.2.2.1.1, [.seq .str 0 d.2.2.1.2.1]⟩, some ⟨false, [.seq .str 0 y5]⟩])) (mkS sh42_568 (fun d K => c42_568 (fun (y0 : List ByteArray) => K [.lf (.full 0)] [some ⟨false, [.seq .str 0 y0]⟩])) noS))), (47, (mkS sh47_1 (fun d K => c47_1 d.2.1.2.1 d.2.1.2.2.1 d.2.1.2.2.2.1 d.2.1.2.2.2.2.1 d.2.2.1.2.1 (fun (y9 : List ByteArray) => K [.lf (.ptr 2 0)] [some ⟨d.2.1.1, [.int .i64 d.2.1.2.1, .int .i64 d.2.1.2.2.1, .int .i64 d.2.1.2.2.2.1, .int .i64 d.2.1.2.2.2.2.1, .full 1]⟩, some ⟨d.2.2.1.1, [.seq .str 0 d.2.2.1.2.1]⟩, some ⟨false, [.int .i64 d.2.1.2.1, .int .i64 d.2.1.2.2.1, .int .i64 d.2.1.2.2.2.1, .int .i64 d.2.1.2.2.2.2.1, .full 3]⟩, some ⟨false, [.seq .str 0 y9]⟩])) (mkS sh47_568 (fun d K => c47_568 (K [.lf (.nilp)] [])) noS))), (48, (mkS sh48_1 (fun d K => c48_1 d.1.2.1 d.1.2.2.1 d.2.1.2.1 d.2.1.2.2.1 d.2.1.2.2.2.1 d.2.1.2.2.2.2.1 d.2.2.1.2.1 (fun (y0 : Int) (y5 : List ByteArray) => K [.lf (.int .i64 y0)] [some ⟨d.2.1.1, [.int .i64 d.2.1.2.1, .int .i64 d.2.1.2.2.1, .int .i64 d.2.1.2.2.2.1, .int .i64 d.2.1.2.2.2.2.1, .full 1]⟩, some ⟨false, [.seq .str 0 y5]⟩])) noS))]) (xw [11]) 101 2 (ltab [(9, X9)]) (orG sh10_1_l9 (fun d K => l9 d.2.1.2.1 d.2.2.1.2.1 d.2.2.2.1.2.1 d.2.2.2.1.2.2.1 d.2.2.2.1.2.2.2.1 d.2.2.2.1.2.2.2.2.1 (fun (y7 : List ByteArray) => K .ret [.tv (.lf (.bool false))] [some ⟨d.2.1.1, [.seq .str 0 d.2.1.2.1]⟩, some ⟨d.2.2.1.1, [.seq (.pair (.int .i64) .str) 0 d.2.2.1.2.1]⟩, some ⟨false, [.int .i64 d.2.2.2.1.2.1, .int .i64 d.2.2.2.1.2.2.1, .int .i64 d.2.2.2.1.2.2.2.1, .int .i64 d.2.2.2.1.2.2.2.2.1, .full 3]⟩, some ⟨false, [.seq .str 0 y7]⟩]) (fun (y6 : List ByteArray) => K (.exit 0) [.tv (.lf (.full 0)), .tv (.lf (.nilp)), .tv (.lf (.ptr 2 0)), .tv (.lf (.nilp))] [some ⟨d.2.1.1, [.seq .str 0 d.2.1.2.1]⟩, some ⟨d.2.2.1.1, [.seq (.pair (.int .i64) .str) 0 d.2.2.1.2.1]⟩, some ⟨false, [.int .i64 d.2.2.2.1.2.1, .int .i64 d.2.2.2.1.2.2.1, .int .i64 d.2.2.2.1.2.2.2.1, .int .i64 d.2.2.2.1.2.2.2.2.1, .full 3]⟩, some ⟨false, [.seq .str 0 y6]⟩]) k d.1.2.2.2.2.2.1 d.2.2.2.2.1.2.1) (mkG sh10_1_l9_2 [1, 2, 7, 9, 11, 12] (outT [(.exit 0, [1, 7, 9, 11]), (.ret, [6])]) (fun d K => l9_2 d.2.1.2.1 d.2.2.1.2.1 d.2.2.2.1.2.1 d.2.2.2.1.2.2.1 d.2.2.2.1.2.2.2.1 d.2.2.2.1.2.2.2.2.1 d.2.2.2.2.2.1.2.1 d.2.2.2.2.2.1.2.2.1 d.2.2.2.2.2.1.2.2.2.1 d.2.2.2.2.2.1.2.2.2.2.1 d.2.2.2.2.2.2.2.1.2.1 d.2.2.2.2.2.2.2.1.2.2.1 d.2.2.2.2.2.2.2.1.2.2.2.1 d.2.2.2.2.2.2.2.1.2.2.2.2.1 d.2.2.2.2.2.2.2.2.1.2.1 (fun (y7 : List ByteArray) (y12 : List ByteArray) => K .ret [.tv (.lf (.bool false))] [some ⟨d.2.1.1, [.seq .str 0 d.2.1.2.1]⟩, some ⟨d.2.2.1.1, [.seq (.pair (.int .i64) .str) 0 d.2.2.1.2.1]⟩, some ⟨false, [.int .i64 d.2.2.2.1.2.1, .int .i64 d.2.2.2.1.2.2.1, .int .i64 d.2.2.2.1.2.2.2.1, .int .i64 d.2.2.2.1.2.2.2.2.1, .full 3]⟩, some ⟨false, [.seq .str 0 y7]⟩, some ⟨false, [.int .i64 d.2.2.2.2.2.1.2.1, .int .i64 d.2.2.2.2.2.1.2.2.1, .int .i64 d.2.2.2.2.2.1.2.2.2.1, .int .i64 d.2.2.2.2.2.1.2.2.2.2.1, .full 5]⟩, some ⟨false, [.seq .str 0 y12]⟩, some ⟨false, [.int .i64 d.2.2.2.2.2.2.2.1.2.1, .int .i64 d.2.2.2.2.2.2.2.1.2.2.1, .int .i64 d.2.2.2.2.2.2.2.1.2.2.2.1, .int .i64 d.2.2.2.2.2.2.2.1.2.2.2.2.1, .full 7]⟩, some ⟨false, [.seq .str 0 d.2.2.2.2.2.2.2.2.1.2.1]⟩]) (fun (y6 : List ByteArray) (y11 : List ByteArray) => K (.exit 0) [.tv (.lf (.full 0)), .tv (.lf (.ptr 2 0)), .tv (.lf (.ptr 4 0)), .tv (.lf (.ptr 6 0))] [some ⟨d.2.1.1, [.seq .str 0 d.2.1.2.1]⟩, some ⟨d.2.2.1.1, [.seq (.pair (.int .i64) .str) 0 d.2.2.1.2.1]⟩, some ⟨false, [.int .i64 d.2.2.2.1.2.1, .int .i64 d.2.2.2.1.2.2.1, .int .i64 d.2.2.2.1.2.2.2.1, .int .i64 d.2.2.2.1.2.2.2.2.1, .full 3]⟩, some ⟨false, [.seq .str 0 y6]⟩, some ⟨false, [.int .i64 d.2.2.2.2.2.1.2.1, .int .i64 d.2.2.2.2.2.1.2.2.1, .int .i64 d.2.2.2.2.2.1.2.2.2.1, .int .i64 d.2.2.2.2.2.1.2.2.2.2.1, .full 5]⟩, some ⟨false, [.seq .str 0 y11]⟩, some ⟨false, [.int .i64 d.2.2.2.2.2.2.2.1.2.1, .int .i64 d.2.2.2.2.2.2.2.1.2.2.1, .int .i64 d.2.2.2.2.2.2.2.1.2.2.2.1, .int .i64 d.2.2.2.2.2.2.2.1.2.2.2.2.1, .full 7]⟩, some ⟨false, [.seq .str 0 d.2.2.2.2.2.2.2.2.1.2.1]⟩]) k d.1.2.2.2.2.2.1 d.2.2.2.2.1.2.1 d.2.2.2.2.2.2.1.2.1) [])) b10_0 (encT sh10_1_l9.vs d.1) (encH sh10_1_l9.h d.2) K := by kernel_rfl
theorem L10_1_l9_2g (F k : Nat) (c26_1 : Int → Int → Int → Int → (Bool → Option Res) → Option Res) (c28_1 : (Bool → Option Res) → Option Res) (c34_1 : Int → Int → Int → Int → List ByteArray → (Int → Option Res) → (List ByteArray → Option Res) → Option Res) (c35_1 : Int → Int → Int → Int → List ByteArray → (Int → Option Res) → (List ByteArray → Option Res) → Option Res) (c39_1 : Int → Int → Int → Int → Int → List ByteArray → Int → Int → Int → Int → List ByteArray → (Bool → Option Res) → Option Res) (c39_8145 : Int → Int → Int → Int → Int → List ByteArray → (Bool → Option Res) → Option Res) (c40_1 : Int → ByteArray → Int → Int → Int → Int → List ByteArray → (Int → List ByteArray → Option Res) → Option Res) (c40_1385 : Int → ByteArray → (Option Res) → Option Res) (c41_1 : List ByteArray → List ByteArray → (Bool → Option Res) → Option Res) (c42_1 : Int → Int → Int → Int → List ByteArray → (List ByteArray → Option Res) → Option Res) (c42_568 : (List ByteArray → Option Res) → Option Res) (c47_1 : Int → Int → Int → Int → List ByteArray → (List ByteArray → Option Res) → Option Res) (c47_568 : (Option Res) → Option Res) (c48_1 : Int → ByteArray → Int → Int → Int → Int → List ByteArray → (Int → List ByteArray → Option Res) → Option Res)  (l9 : List ByteArray → List (Int × ByteArray) → Int → Int → Int → Int → (List ByteArray → Option Res) → (List ByteArray → Option Res) → Nat → Int → List ByteArray → Option Res) (l9_2 : List ByteArray → List (Int × ByteArray) → Int → Int → Int → Int → Int → Int → Int → Int → Int → Int → Int → Int → List ByteArray → (List ByteArray → List ByteArray → Option Res) → (List ByteArray → List ByteArray → Option Res) → Nat → Int → List ByteArray → List ByteArray → Option Res) (X9 : LoopS) (d : sh10_1_l9_2.den) (K : KL) : (fun (v40 : List ByteArray) (v41 : List (Int × ByteArray)) (v42 : Int) (v43 : Int) (v44 : Int) (v45 : Int) (v47 : Int) (v48 : Int) (v49 : Int) (v50 : Int) (v52 : Int) (v53 : Int) (v54 : Int) (v55 : Int) (v56 : List ByteArray) (K0 : (List ByteArray → List ByteArray → Option Res)) (K1 : (List ByteArray → List ByteArray → Option Res)) (k : Nat) (v39 : Int) (v46 : List ByteArray) (v51 : List ByteArray) => cond (decide (v39 < ((v41.length : Nat) : Int))) (cond (decide ((0 : Int) ≤ v39 ∧ v39 < ((v41.length : Nat) : Int))) (cond (decide (0 + v39.toNat < v41.length)) (cond (decide ((0 : Int) ≤ v39 ∧ v39 < ((v41.length : Nat) : Int))) (cond (decide (0 + v39.toNat < v41.length)) (cond (decide ((0 : Int) ≤ v39 ∧ v39 < ((v41.length : Nat) : Int))) (cond (decide ((0 : Int) ≤ v39 ∧ v39 < ((v41.length : Nat) : Int))) (amb (c40_1 ((v41.getD (0 + v39.toNat) (0, ByteArray.empty)).1) ((v41.getD (0 + v39.toNat) (0, ByteArray.empty)).2) v42 v43 v44 v45 v46 (fun x57 x58 => cond (decide (0 + v39.toNat < v41.length)) (cond (decide (0 + v39.toNat < v41.length)) (c48_1 ((v41.getD (0 + v39.toNat) (0, ByteArray.empty)).1) ((v41.getD (0 + v39.toNat) (0, ByteArray.empty)).2) v47 v48 v49 v50 v51 (fun x59 x60 => cond (x57 != x59) (K0 x58 x60) (l9_2 v40 v41 v42 v43 v44 v45 v47 v48 v49 v50 v52 v53 v54 v55 v56 K0 K1 k (IntKind.i64.wrap (v39 + 1)) x58 x60)) ) none) none) ) (amb (cond (decide (0 + v39.toNat < v41.length)) (amb (c40_1 ((v41.getD (0 + v39.toNat) (0, ByteArray.empty)).1) ((v41.getD (0 + v39.toNat) (0, ByteArray.empty)).2) v42 v43 v44 v45 v46 (fun x61 x62 => cond (decide (0 + v39.toNat < v41.length)) (c48_1 ((v41.getD (0 + v39.toNat) (0, ByteArray.empty)).1) ((v41.getD (0 + v39.toNat) (0, ByteArray.empty)).2) v47 v48 v49 v50 v51 (fun x63 x64 => cond (x61 != x63) (K0 x62 x64) (l9_2 v40 v41 v42 v43 v44 v45 v47 v48 v49 v50 v52 v53 v54 v55 v56 K0 K1 k (IntKind.i64.wrap (v39 + 1)) x62 x64)) ) none) ) (cond (decide (0 + v39.toNat < v41.length)) (c40_1 ((v41.getD (0 + v39.toNat) (0, ByteArray.empty)).1) ((v41.getD (0 + v39.toNat) (0, ByteArray.empty)).2) v42 v43 v44 v45 v46 (fun x65 x66 => c48_1 ((v41.getD (0 + v39.toNat) (0, ByteArray.empty)).1) ((v41.getD (0 + v39.toNat) (0, ByteArray.empty)).2) v47 v48 v49 v50 v51 (fun x67 x68 => cond (x65 != x67) (K0 x66 x68) (l9_2 v40 v41 v42 v43 v44 v45 v47 v48 v49 v50 v52 v53 v54 v55 v56 K0 K1 k (IntKind.i64.wrap (v39 + 1)) x66 x68)) ) ) none)) none) (cond (decide (0 + v39.toNat < v41.length)) (amb (c40_1 ((v41.getD (0 + v39.toNat) (0, ByteArray.empty)).1) ((v41.getD (0 + v39.toNat) (0, ByteArray.empty)).2) v42 v43 v44 v45 v46 (fun x69 x70 => cond (decide (0 + v39.toNat < v41.length)) (c48_1 ((v41.getD (0 + v39.toNat) (0, ByteArray.empty)).1) ((v41.getD (0 + v39.toNat) (0, ByteArray.empty)).2) v47 v48 v49 v50 v51 (fun x71 x72 => cond (x69 != x71) (K0 x70 x72) (l9_2 v40 v41 v42 v43 v44 v45 v47 v48 v49 v50 v52 v53 v54 v55 v56 K0 K1 k (IntKind.i64.wrap (v39 + 1)) x70 x72)) ) none) ) (cond (decide (0 + v39.toNat < v41.length)) (c40_1 ((v41.getD (0 + v39.toNat) (0, ByteArray.empty)).1) ((v41.getD (0 + v39.toNat) (0, ByteArray.empty)).2) v42 v43 v44 v45 v46 (fun x73 x74 => c48_1 ((v41.getD (0 + v39.toNat) (0, ByteArray.empty)).1) ((v41.getD (0 + v39.toNat) (0, ByteArray.empty)).2) v47 v48 v49 v50 v51 (fun x75 x76 => cond (x73 != x75) (K0 x74 x76) (l9_2 v40 v41 v42 v43 v44 v45 v47 v48 v49 v50 v52 v53 v54 v55 v56 K0 K1 k (IntKind.i64.wrap (v39 + 1)) x74 x76)) ) ) none)) none))) none) none) none) none) none) none) (K1 v46 v51)) d.2.1.2.1 d.2.2.1.2.1 d.2.2.2.1.2.1 d.2.2.2.1.2.2.1 d.2.2.2.1.2.2.2.1 d.2.2.2.1.2.2.2.2.1 d.2.2.2.2.2.1.2.1 d.2.2.2.2.2.1.2.2.1 d.2.2.2.2.2.1.2.2.2.1 d.2.2.2.2.2.1.2.2.2.2.1 d.2.2.2.2.2.2.2.1.2.1 d.2.2.2.2.2.2.2.1.2.2.1 d.2.2.2.2.2.2.2.1.2.2.2.1 d.2.2.2.2.2.2.2.1.2.2.2.2.1 d.2.2.2.2.2.2.2.2.1.2.1 (fun (y7 : List ByteArray) (y12 : List ByteArray) => K .ret [.tv (.lf (.bool false))] [some ⟨d.2.1.1, [.seq .str 0 d.2.1.2.1]⟩, some ⟨d.2.2.1.1, [.seq (.pair (.int .i64) .str) 0 d.2.2.1.2.1]⟩, some ⟨false, [.int .i64 d.2.2.2.1.2.1, .int .i64 d.2.2.2.1.2.2.1, .int .i64 d.2.2.2.1.2.2.2.1, .int .i64 d.2.2.2.1.2.2.2.2.1, .full 3]⟩, some ⟨false, [.seq .str 0 y7]⟩, some ⟨false, [.int .i64 d.2.2.2.2.2.1.2.1, .int .i64 d.2.2.2.2.2.1.2.2.1, .int .i64 d.2.2.2.2.2.1.2.2.2.1, .int .i64 d.2.2.2.2.2.1.2.2.2.2.1, .full 5]⟩, some ⟨false, [.seq .str 0 y12]⟩, some ⟨false, [.int .i64 d.2.2.2.2.2.2.2.1.2.1, .int .i64 d.2.2.2.2.2.2.2.1.2.2.1, .int .i64 d.2.2.2.2.2.2.2.1.2.2.2.1, .int .i64 d.2.2.2.2.2.2.2.1.2.2.2.2.1, .full 7]⟩, some ⟨false, [.seq .str 0 d.2.2.2.2.2.2.2.2.1.2.1]⟩]) (fun (y6 : List ByteArray) (y11 : List ByteArray) => K (.exit 0) [.tv (.lf (.full 0)), .tv (.lf (.ptr 2 0)), .tv (.lf (.ptr 4 0)), .tv (.lf (.ptr 6 0))] [some ⟨d.2.1.1, [.seq .str 0 d.2.1.2.1]⟩, some ⟨d.2.2.1.1, [.seq (.pair (.int .i64) .str) 0 d.2.2.1.2.1]⟩, some ⟨false, [.int .i64 d.2.2.2.1.2.1, .int .i64 d.2.2.2.1.2.2.1, .int .i64 d.2.2.2.1.2.2.2.1, .int .i64 d.2.2.2.1.2.2.2.2.1, .full 3]⟩, some ⟨false, [.seq .str 0 y6]⟩, some ⟨false, [.int .i64 d.2.2.2.2.2.1.2.1, .int .i64 d.2.2.2.2.2.1.2.2.1, .int .i64 d.2.2.2.2.2.1.2.2.2.1, .int .i64 d.2.2.2.2.2.1.2.2.2.2.1, .full 5]⟩, some ⟨false, [.seq .str 0 y11]⟩, some ⟨false, [.int .i64 d.2.2.2.2.2.2.2.1.2.1, .int .i64 d.2.2.2.2.2.2.2.1.2.2.1, .int .i64 d.2.2.2.2.2.2.2.1.2.2.2.1, .int .i64 d.2.2.2.2.2.2.2.1.2.2.2.2.1, .full 7]⟩, some ⟨false, [.seq .str 0 d.2.2.2.2.2.2.2.2.1.2.1]⟩]) k d.1.2.2.2.2.2.1 d.2.2.2.2.1.2.1 d.2.2.2.2.2.2.1.2.1 = roundOf Try.prog (tab [(26, (mkS sh26_1 (fun d K => c26_1 d.1.1.1 d.1.1.2.1 d.1.1.2.2.1 d.1.1.2.2.2.1 (fun (y0 : Bool) => K [.lf (.bool y0)] [])) noS)), (28, (mkS sh28_1 (fun d K => c28_1 (fun (y0 : Bool) => K [.lf (.bool y0)] [])) noS)), (34, (mkS sh34_1 (fun d K => c34_1 d.1.1.1 d.1.1.2.1 d.1.1.2.2.1 d.1.1.2.2.2.1 d.2.1.2.1 (fun (y0 : Int) => K [.lf (.nilp), .lf (.int .i64 y0)] [some ⟨d.2.1.1, [.seq .str 0 d.2.1.2.1]⟩]) (fun (y6 : List ByteArray) => K [.lf (.ptr 1 0), .lf (.int .i64 0)] [some ⟨d.2.1.1, [.seq .str 0 d.2.1.2.1]⟩, some ⟨false, [.int .i64 d.1.1.1, .int .i64 d.1.1.2.1, .int .i64 d.1.1.2.2.1, .int .i64 d.1.1.2.2.2.1, .full 2]⟩, some ⟨false, [.seq .str 0 y6]⟩])) noS)), (35, (mkS sh35_1 (fun d K => c35_1 d.1.1.1 d.1.1.2.1 d.1.1.2.2.1 d.1.1.2.2.2.1 d.2.1.2.1 (fun (y0 : Int) => K [.lf (.nilp), .lf (.int .i64 y0)] [some ⟨d.2.1.1, [.seq .str 0 d.2.1.2.1]⟩]) (fun (y6 : List ByteArray) => K [.lf (.ptr 1 0), .lf (.int .i64 0)] [some ⟨d.2.1.1, [.seq .str 0 d.2.1.2.1]⟩, some ⟨false, [.int .i64 d.1.1.1, .int .i64 d.1.1.2.1, .int .i64 d.1.1.2.2.1, .int .i64 d.1.1.2.2.2.1, .full 2]⟩, some ⟨false, [.seq .str 0 y6]⟩])) noS)), (39, (mkS sh39_1 (fun d K => c39_1 d.1.2.2.1 d.2.1.2.1 d.2.1.2.2.1 d.2.1.2.2.2.1 d.2.1.2.2.2.2.1 d.2.2.1.2.1 d.2.2.2.1.2.1 d.2.2.2.1.2.2.1 d.2.2.2.1.2.2.2.1 d.2.2.2.1.2.2.2.2.1 d.2.2.2.2.1.2.1 (fun (y0 : Bool) => K [.lf (.bool y0)] [some ⟨d.2.1.1, [.int .i64 d.2.1.2.1, .int .i64 d.2.1.2.2.1, .int .i64 d.2.1.2.2.2.1, .int .i64 d.2.1.2.2.2.2.1, .full 1]⟩, some ⟨d.2.2.1.1, [.seq .str 0 d.2.2.1.2.1]⟩, some ⟨d.2.2.2.1.1, [.int .i64 d.2.2.2.1.2.1, .int .i64 d.2.2.2.1.2.2.1, .int .i64 d.2.2.2.1.2.2.2.1, .int .i64 d.2.2.2.1.2.2.2.2.1, .full 3]⟩, some ⟨d.2.2.2.2.1.1, [.seq .str 0 d.2.2.2.2.1.2.1]⟩])) (mkS sh39_8145 (fun d K => c39_8145 d.1.2.2.1 d.2.1.2.1 d.2.1.2.2.1 d.2.1.2.2.2.1 d.2.1.2.2.2.2.1 d.2.2.1.2.1 (fun (y0 : Bool) => K [.lf (.bool y0)] [some ⟨d.2.1.1, [.int .i64 d.2.1.2.1, .int .i64 d.2.1.2.2.1, .int .i64 d.2.1.2.2.2.1, .int .i64 d.2.1.2.2.2.2.1, .full 1]⟩, some ⟨d.2.2.1.1, [.seq .str 0 d.2.2.1.2.1]⟩])) noS))), (40, (mkS sh40_1 (fun d K => c40_1 d.1.2.1 d.1.2.2.1 d.2.1.2.1 d.2.1.2.2.1 d.2.1.2.2.2.1 d.2.1.2.2.2.2.1 d.2.2.1.2.1 (fun (y0 : Int) (y5 : List ByteArray) => K [.lf (.int .i64 y0)] [some ⟨d.2.1.1, [.int .i64 d.2.1.2.1, .int .i64 d.2.1.2.2.1, .int .i64 d.2.1.2.2.2.1, .int .i64 d.2.1.2.2.2.2.1, .full 1]⟩, some ⟨false, [.seq .str 0 y5]⟩])) (mkS sh40_1385 (fun d K => c40_1385 d.1.2.1 d.1.2.2.1 (K [.lf (.int .i64 1)] [])) noS))), (41, (mkS sh41_1 (fun d K => c41_1 d.2.1.2.1 d.2.2.1.2.1 (fun (y0 : Bool) => K [.lf (.bool y0)] [some ⟨d.2.1.1, [.seq .str 0 d.2.1.2.1]⟩, some ⟨d.2.2.1.1, [.seq .str 0 d.2.2.1.2.1]⟩])) noS)), (42, (mkS sh42_1 (fun d K => c42_1 d.2.1.2.1 d.2.1.2.2.1 d.2.1.2.2.2.1 d.2.1.2.2.2.2.1 d.2.2.1.2.1 (fun (y5 : List ByteArray) => K [.lf (.full 2)] [some ⟨d.2.1.1, [.int .i64 d.2.1.2.1, .int .i64 d.2.1.2.2.1, .int .i64 d.2.1.2.2.2.1, .int .i64 d.2.1.2.2.2.2.1, .full 1]⟩, some ⟨d.2.2.1.1, [.seq .str 0 d.2.2.1.2.1]⟩, some ⟨false, [.seq .str 0 y5]⟩])) (mkS sh42_568 (fun d K => c42_568 (fun (y0 : List ByteArray) => K [.lf (.full 0)] [some ⟨false, [.seq .str 0 y0]⟩])) noS))), (47, (mkS sh47_1 (fun d K => c47_1 d.2.1.2.1 d.2.1.2.2.1 d.2.1.2.2.2.1 d.2.1.2.2.2.2.1 d.2.2.1.2.1 (fun (y9 : List ByteArray) => K [.lf (.ptr 2 0)] [some ⟨d.2.1.1, [.int .i64 d.2.1.2.1, .int .i64 d.2.1.2.2.1, .int .i64 d.2.1.2.2.2.1, .int .i64 d.2.1.2.2.2.2.1, .full 1]⟩, some ⟨d.2.2.1.1, [.seq .str 0 d.2.2.1.2.1]⟩, some ⟨false, [.int .i64 d.2.1.2.1, .int .i64 d.2.1.2.2.1, .int .i64 d.2.1.2.2.2.1, .int .i64 d.2.1.2.2.2.2.1, .full 3]⟩, some ⟨false, [.seq .str 0 y9]⟩])) (mkS sh47_568 (fun d K => c47_568 (K [.lf (.nilp)] [])) noS))), (48, (mkS sh48_1 (fun d K => c48_1 d.1.2.1 d.1.2.2.1 d.2.1.2.1 d.2.1.2.2.1 d.2.1.2.2.2.1 d.2.1.2.2.2.2.1 d.2.2.1.2.1 (fun (y0 : Int) (y5 : List ByteArray) => K [.lf (.int .i64 y0)] [some ⟨d.2.1.1, [.int .i64 d.2.1.2.1, .int .i64 d.2.1.2.2.1, .int .i64 d.2.1.2.2.2.1, .int .i64 d.2.1.2.2.2.2.1, .full 1]⟩, some ⟨false, [.seq .str 0 y5]⟩])) noS))]) (xw [11]) 101 2 (ltab [(9, X9)]) (orG sh10_1_l9 (fun d K => l9 d.2.1.2.1 d.2.2.1.2.1 d.2.2.2.1.2.1 d.2.2.2.1.2.2.1 d.2.2.2.1.2.2.2.1 d.2.2.2.1.2.2.2.2.1 (fun (y7 : List ByteArray) => K .ret [.tv (.lf (.bool false))] [some ⟨d.2.1.1, [.seq .str 0 d.2.1.2.1]⟩, some ⟨d.2.2.1.1, [.seq (.pair (.int .i64) .str) 0 d.2.2.1.2.1]⟩, some ⟨false, [.int .i64 d.2.2.2.1.2.1, .int .i64 d.2.2.2.1.2.2.1, .int .i64 d.2.2.2.1.2.2.2.1, .int .i64 d.2.2.2.1.2.2.2.2.1, .full 3]⟩, some ⟨false, [.seq .str 0 y7]⟩]) (fun (y6 : List ByteArray) => K (.exit 0) [.tv (.lf (.full 0)), .tv (.lf (.nilp)), .tv (.lf (.ptr 2 0)), .tv (.lf (.nilp))] [some ⟨d.2.1.1, [.seq .str 0 d.2.1.2.1]⟩, some ⟨d.2.2.1.1, [.seq (.pair (.int .i64) .str) 0 d.2.2.1.2.1]⟩, some ⟨false, [.int .i64 d.2.2.2.1.2.1, .int .i64 d.2.2.2.1.2.2.1, .int .i64 d.2.2.2.1.2.2.2.1, .int .i64 d.2.2.2.1.2.2.2.2.1, .full 3]⟩, some ⟨false, [.seq .str 0 y6]⟩]) k d.1.2.2.2.2.2.1 d.2.2.2.2.1.2.1) (mkG sh10_1_l9_2 [1, 2, 7, 9, 11, 12] (outT [(.exit 0, [1, 7, 9, 11]), (.ret, [6])]) (fun d K => l9_2 d.2.1.2.1 d.2.2.1.2.1 d.2.2.2.1.2.1 d.2.2.2.1.2.2.1 d.2.2.2.1.2.2.2.1 d.2.2.2.1.2.2.2.2.1 d.2.2.2.2.2.1.2.1 d.2.2.2.2.2.1.2.2.1 d.2.2.2.2.2.1.2.2.2.1 d.2.2.2.2.2.1.2.2.2.2.1 d.2.2.2.2.2.2.2.1.2.1 d.2.2.2.2.2.2.2.1.2.2.1 d.2.2.2.2.2.2.2.1.2.2.2.1 d.2.2.2.2.2.2.2.1.2.2.2.2.1 d.2.2.2.2.2.2.2.2.1.2.1 (fun (y7 : List ByteArray) (y12 : List ByteArray) => K .ret [.tv (.lf (.bool false))] [some ⟨d.2.1.1, [.seq .str 0 d.2.1.2.1]⟩, some ⟨d.2.2.1.1, [.seq (.pair (.int .i64) .str) 0 d.2.2.1.2.1]⟩, some ⟨false, [.int .i64 d.2.2.2.1.2.1, .int .i64 d.2.2.2.1.2.2.1, .int .i64 d.2.2.2.1.2.2.2.1, .int .i64 d.2.2.2.1.2.2.2.2.1, .full 3]⟩, some ⟨false, [.seq .str 0 y7]⟩, some ⟨false, [.int .i64 d.2.2.2.2.2.1.2.1, .int .i64 d.2.2.2.2.2.1.2.2.1, .int .i64 d.2.2.2.2.2.1.2.2.2.1, .int .i64 d.2.2.2.2.2.1.2.2.2.2.1, .full 5]⟩, some ⟨false, [.seq .str 0 y12]⟩, some ⟨false, [.int .i64 d.2.2.2.2.2.2.2.1.2.1, .int .i64 d.2.2.2.2.2.2.2.1.2.2.1, .int .i64 d.2.2.2.2.2.2.2.1.2.2.2.1, .int .i64 d.2.2.2.2.2.2.2.1.2.2.2.2.1, .full 7]⟩, some ⟨false, [.seq .str 0 d.2.2.2.2.2.2.2.2.1.2.1]⟩]) (fun (y6 : List ByteArray) (y11 : List ByteArray) => K (.exit 0) [.tv (.lf (.full 0)), .tv (.lf (.ptr 2 0)), .tv (.lf (.ptr 4 0)), .tv (.lf (.ptr 6 0))] [some ⟨d.2.1.1, [.seq .str 0 d.2.1.2.1]⟩, some ⟨d.2.2.1.1, [.seq (.pair (.int .i64) .str) 0 d.2.2.1.2.1]⟩, some ⟨false, [.int .i64 d.2.2.2.1.2.1, .int .i64 d.2.2.2.1.2.2.1, .int .i64 d.2.2.2.1.2.2.2.1, .int .i64 d.2.2.2.1.2.2.2.2.1, .full 3]⟩, some ⟨false, [.seq .str 0 y6]⟩, some ⟨false, [.int .i64 d.2.2.2.2.2.1.2.1, .int .i64 d.2.2.2.2.2.1.2.2.1, .int .i64 d.2.2.2.2.2.1.2.2.2.1, .int .i64 d.2.2.2.2.2.1.2.2.2.2.1, .full 5]⟩, some ⟨false, [.seq .str 0 y11]⟩, some ⟨false, [.int .i64 d.2.2.2.2.2.2.2.1.2.1, .int .i64 d.2.2.2.2.2.2.2.1.2.2.1, .int .i64 d.2.2.2.2.2.2.2.1.2.2.2.1, .int .i64 d.2.2.2.2.2.2.2.1.2.2.2.2.1, .full 7]⟩, some ⟨false, [.seq .str 0 d.2.2.2.2.2.2.2.2.1.2.1]⟩]) k d.1.2.2.2.2.2.1 d.2.2.2.2.1.2.1 d.2.2.2.2.2.2.1.2.1) [])) b10_0 (encT sh10_1_l9_2.vs d.1) (encH sh10_1_l9_2.h d.2) K := by kernel_rfl
theorem L10_1_9 (F : Nat) : LoopOK Try.prog (T10_1 F) (xw [11]) 101 2 (LT10_1 F) (G10_1_9 F F) b10_0 :=
  loopOK_vers (G10_1_9 F) F (fun k => ⟨rfl, rfl⟩) (verOK_cons (s := sh10_1_l9) (all := (G10_1_9 F)) (fun k d K => f10_1_l9 F d.2.1.2.1 d.2.2.1.2.1 d.2.2.2.1.2.1 d.2.2.2.1.2.2.1 d.2.2.2.1.2.2.2.1 d.2.2.2.1.2.2.2.2.1 (fun (y7 : List ByteArray) => K .ret [.tv (.lf (.bool false))] [some ⟨d.2.1.1, [.seq .str 0 d.2.1.2.1]⟩, some ⟨d.2.2.1.1, [.seq (.pair (.int .i64) .str) 0 d.2.2.1.2.1]⟩, some ⟨false, [.int .i64 d.2.2.2.1.2.1, .int .i64 d.2.2.2.1.2.2.1, .int .i64 d.2.2.2.1.2.2.2.1, .int .i64 d.2.2.2.1.2.2.2.2.1, .full 3]⟩, some ⟨false, [.seq .str 0 y7]⟩]) (fun (y6 : List ByteArray) => K (.exit 0) [.tv (.lf (.full 0)), .tv (.lf (.nilp)), .tv (.lf (.ptr 2 0)), .tv (.lf (.nilp))] [some ⟨d.2.1.1, [.seq .str 0 d.2.1.2.1]⟩, some ⟨d.2.2.1.1, [.seq (.pair (.int .i64) .str) 0 d.2.2.1.2.1]⟩, some ⟨false, [.int .i64 d.2.2.2.1.2.1, .int .i64 d.2.2.2.1.2.2.1, .int .i64 d.2.2.2.1.2.2.2.1, .int .i64 d.2.2.2.1.2.2.2.2.1, .full 3]⟩, some ⟨false, [.seq .str 0 y6]⟩]) k d.1.2.2.2.2.2.1 d.2.2.2.2.1.2.1) (fun d K => by kernel_rfl) (fun k d K => Eq.mp (by kernel_rfl) (L10_1_l9g F k (f26_1 F) (f28_1 F) (f34_1 F) (f35_1 F) (f39_1 F) (f39_8145 F) (f40_1 F) (f40_1385 F) (f41_1 F) (f42_1 F) (f42_568 F) (f47_1 F) (f47_568 F) (f48_1 F)  (f10_1_l9 F) (f10_1_l9_2 F) (G10_1_9 F F) d K)) (verOK_last (s := sh10_1_l9_2) (live := [1, 2, 7, 9, 11, 12]) (out := (outT [(.exit 0, [1, 7, 9, 11]), (.ret, [6])])) (mv := []) (all := (G10_1_9 F)) (fun k d K => f10_1_l9_2 F d.2.1.2.1 d.2.2.1.2.1 d.2.2.2.1.2.1 d.2.2.2.1.2.2.1 d.2.2.2.1.2.2.2.1 d.2.2.2.1.2.2.2.2.1 d.2.2.2.2.2.1.2.1 d.2.2.2.2.2.1.2.2.1 d.2.2.2.2.2.1.2.2.2.1 d.2.2.2.2.2.1.2.2.2.2.1 d.2.2.2.2.2.2.2.1.2.1 d.2.2.2.2.2.2.2.1.2.2.1 d.2.2.2.2.2.2.2.1.2.2.2.1 d.2.2.2.2.2.2.2.1.2.2.2.2.1 d.2.2.2.2.2.2.2.2.1.2.1 (fun (y7 : List ByteArray) (y12 : List ByteArray) => K .ret [.tv (.lf (.bool false))] [some ⟨d.2.1.1, [.seq .str 0 d.2.1.2.1]⟩, some ⟨d.2.2.1.1, [.seq (.pair (.int .i64) .str) 0 d.2.2.1.2.1]⟩, some ⟨false, [.int .i64 d.2.2.2.1.2.1, .int .i64 d.2.2.2.1.2.2.1, .int .i64 d.2.2.2.1.2.2.2.1, .int .i64 d.2.2.2.1.2.2.2.2.1, .full 3]⟩, some ⟨false, [.seq .str 0 y7]⟩, some ⟨false, [.int .i64 d.2.2.2.2.2.1.2.1, .int .i64 d.2.2.2.2.2.1.2.2.1, .int .i64 d.2.2.2.2.2.1.2.2.2.1, .int .i64 d.2.2.2.2.2.1.2.2.2.2.1, .full 5]⟩, some ⟨false, [.seq .str 0 y12]⟩, some ⟨false, [.int .i64 d.2.2.2.2.2.2.2.1.2.1, .int .i64 d.2.2.2.2.2.2.2.1.2.2.1, .int .i64 d.2.2.2.2.2.2.2.1.2.2.2.1, .int .i64 d.2.2.2.2.2.2.2.1.2.2.2.2.1, .full 7]⟩, some ⟨false, [.seq .str 0 d.2.2.2.2.2.2.2.2.1.2.1]⟩]) (fun (y6 : List ByteArray) (y11 : List ByteArray) => K (.exit 0) [.tv (.lf (.full 0)), .tv (.lf (.ptr 2 0)), .tv (.lf (.ptr 4 0)), .tv (.lf (.ptr 6 0))] [some ⟨d.2.1.1, [.seq .str 0 d.2.1.2.1]⟩, some ⟨d.2.2.1.1, [.seq (.pair (.int .i64) .str) 0 d.2.2.1.2.1]⟩, some ⟨false, [.int .i64 d.2.2.2.1.2.1, .int .i64 d.2.2.2.1.2.2.1, .int .i64 d.2.2.2.1.2.2.2.1, .int .i64 d.2.2.2.1.2.2.2.2.1, .full 3]⟩, some ⟨false, [.seq .str 0 y6]⟩, some ⟨false, [.int .i64 d.2.2.2.2.2.1.2.1, .int .i64 d.2.2.2.2.2.1.2.2.1, .int .i64 d.2.2.2.2.2.1.2.2.2.1, .int .i64 d.2.2.2.2.2.1.2.2.2.2.1, .full 5]⟩, some ⟨false, [.seq .str 0 y11]⟩, some ⟨false, [.int .i64 d.2.2.2.2.2.2.2.1.2.1, .int .i64 d.2.2.2.2.2.2.2.1.2.2.1, .int .i64 d.2.2.2.2.2.2.2.1.2.2.2.1, .int .i64 d.2.2.2.2.2.2.2.1.2.2.2.2.1, .full 7]⟩, some ⟨false, [.seq .str 0 d.2.2.2.2.2.2.2.2.1.2.1]⟩]) k d.1.2.2.2.2.2.1 d.2.2.2.2.1.2.1 d.2.2.2.2.2.2.1.2.1) (fun d K => by kernel_rfl) (fun k d K => Eq.mp (by kernel_rfl) (L10_1_l9_2g F k (f26_1 F) (f28_1 F) (f34_1 F) (f35_1 F) (f39_1 F) (f39_8145 F) (f40_1 F) (f40_1385 F) (f41_1 F) (f42_1 F) (f42_568 F) (f47_1 F) (f47_568 F) (f48_1 F)  (f10_1_l9 F) (f10_1_l9_2 F) (G10_1_9 F F) d K))))
theorem E10_1g (F : Nat) (c26_1 : Int → Int → Int → Int → (Bool → Option Res) → Option Res) (c28_1 : (Bool → Option Res) → Option Res) (c34_1 : Int → Int → Int → Int → List ByteArray → (Int → Option Res) → (List ByteArray → Option Res) → Option Res) (c35_1 : Int → Int → Int → Int → List ByteArray → (Int → Option Res) → (List ByteArray → Option Res) → Option Res) (c39_1 : Int → Int → Int → Int → Int → List ByteArray → Int → Int → Int → Int → List ByteArray → (Bool → Option Res) → Option Res) (c39_8145 : Int → Int → Int → Int → Int → List ByteArray → (Bool → Option Res) → Option Res) (c40_1 : Int → ByteArray → Int → Int → Int → Int → List ByteArray → (Int → List ByteArray → Option Res) → Option Res) (c40_1385 : Int → ByteArray → (Option Res) → Option Res) (c41_1 : List ByteArray → List ByteArray → (Bool → Option Res) → Option Res) (c42_1 : Int → Int → Int → Int → List ByteArray → (List ByteArray → Option Res) → Option Res) (c42_568 : (List ByteArray → Option Res) → Option Res) (c47_1 : Int → Int → Int → Int → List ByteArray → (List ByteArray → Option Res) → Option Res) (c47_568 : (Option Res) → Option Res) (c48_1 : Int → ByteArray → Int → Int → Int → Int → List ByteArray → (Int → List ByteArray → Option Res) → Option Res) (l9 : List ByteArray → List (Int × ByteArray) → Int → Int → Int → Int → (List ByteArray → Option Res) → (List ByteArray → Option Res) → Nat → Int → List ByteArray → Option Res) (l9_2 : List ByteArray → List (Int × ByteArray) → Int → Int → Int → Int → Int → Int → Int → Int → Int → Int → Int → Int → List ByteArray → (List ByteArray → List ByteArray → Option Res) → (List ByteArray → List ByteArray → Option Res) → Nat → Int → List ByteArray → List ByteArray → Option Res)  (d : sh10_1.den) (K : KF) : evBody Try.prog (tab [(26, (mkS sh26_1 (fun d K => c26_1 d.1.1.1 d.1.1.2.1 d.1.1.2.2.1 d.1.1.2.2.2.1 (fun (y0 : Bool) => K [.lf (.bool y0)] [])) noS)), (28, (mkS sh28_1 (fun d K => c28_1 (fun (y0 : Bool) => K [.lf (.bool y0)] [])) noS)), (34, (mkS sh34_1 (fun d K => c34_1 d.1.1.1 d.1.1.2.1 d.1.1.2.2.1 d.1.1.2.2.2.1 d.2.1.2.1 (fun (y0 : Int) => K [.lf (.nilp), .lf (.int .i64 y0)] [some ⟨d.2.1.1, [.seq .str 0 d.2.1.2.1]⟩]) (fun (y6 : List ByteArray) => K [.lf (.ptr 1 0), .lf (.int .i64 0)] [some ⟨d.2.1.1, [.seq .str 0 d.2.1.2.1]⟩, some ⟨false, [.int .i64 d.1.1.1, .int .i64 d.1.1.2.1, .int .i64 d.1.1.2.2.1, .int .i64 d.1.1.2.2.2.1, .full 2]⟩, some ⟨false, [.seq .str 0 y6]⟩])) noS)), (35, (mkS sh35_1 (fun d K => c35_1 d.1.1.1 d.1.1.2.1 d.1.1.2.2.1 d.1.1.2.2.2.1 d.2.1.2.1 (fun (y0 : Int) => K [.lf (.nilp), .lf (.int .i64 y0)] [some ⟨d.2.1.1, [.seq .str 0 d.2.1.2.1]⟩]) (fun (y6 : List ByteArray) => K [.lf (.ptr 1 0), .lf (.int .i64 0)] [some ⟨d.2.1.1, [.seq .str 0 d.2.1.2.1]⟩, some ⟨false, [.int .i64 d.1.1.1, .int .i64 d.1.1.2.1, .int .i64 d.1.1.2.2.1, .int .i64 d.1.1.2.2.2.1, .full 2]⟩, some ⟨false, [.seq .str 0 y6]⟩])) noS)), (39, (mkS sh39_1 (fun d K => c39_1 d.1.2.2.1 d.2.1.2.1 d.2.1.2.2.1 d.2.1.2.2.2.1 d.2.1.2.2.2.2.1 d.2.2.1.2.1 d.2.2.2.1.2.1 d.2.2.2.1.2.2.1 d.2.2.2.1.2.2.2.1 d.2.2.2.1.2.2.2.2.1 d.2.2.2.2.1.2.1 (fun (y0 : Bool) => K [.lf (.bool y0)] [some ⟨d.2.1.1, [.int .i64 d.2.1.2.1, .int .i64 d.2.1.2.2.1, .int .i64 d.2.1.2.2.2.1, .int .i64 d.2.1.2.2.2.2.1, .full 1]⟩, some ⟨d.2.2.1.1, [.seq .str 0 d.2.2.1.2.1]⟩, some ⟨d.2.2.2.1.1, [.int .i64 d.2.2.2.1.2.1, .int .i64 d.2.2.2.1.2.2.1, .int .i64 d.2.2.2.1.2.2.2.1, .int .i64 d.2.2.2.1.2.2.2.2.1, .full 3]⟩, some ⟨d.2.2.2.2.1.1, [.seq .str 0 d.2.2.2.2.1.2.1]⟩])) (mkS sh39_8145 (fun d K => c39_8145 d.1.2.2.1 d.2.1.2.1 d.2.1.2.2.1 d.2.1.2.2.2.1 d.2.1.2.2.2.2.1 d.2.2.1.2.1 (fun (y0 : Bool) => K [.lf (.bool y0)] [some ⟨d.2.1.1, [.int .i64 d.2.1.2.1, .int .i64 d.2.1.2.2.1, .int .i64 d.2.1.2.2.2.1, .int .i64 d.2.1.2.2.2.2.1, .full 1]⟩, some ⟨d.2.2.1.1, [.seq .str 0 d.2.2.1.2.1]⟩])) noS))), (40, (mkS sh40_1 (fun d K => c40_1 d.1.2.1 d.1.2.2.1 d.2.1.2.1 d.2.1.2.2.1 d.2.1.2.2.2.1 d.2.1.2.2.2.2.1 d.2.2.1.2.1 (fun (y0 : Int) (y5 : List ByteArray) => K [.lf (.int .i64 y0)] [some ⟨d.2.1.1, [.int .i64 d.2.1.2.1, .int .i64 d.2.1.2.2.1, .int .i64 d.2.1.2.2.2.1, .int .i64 d.2.1.2.2.2.2.1, .full 1]⟩, some ⟨false, [.seq .str 0 y5]⟩])) (mkS sh40_1385 (fun d K => c40_1385 d.1.2.1 d.1.2.2.1 (K [.lf (.int .i64 1)] [])) noS))), (41, (mkS sh41_1 (fun d K => c41_1 d.2.1.2.1 d.2.2.1.2.1 (fun (y0 : Bool) => K [.lf (.bool y0)] [some ⟨d.2.1.1, [.seq .str 0 d.2.1.2.1]⟩, some ⟨d.2.2.1.1, [.seq .str 0 d.2.2.1.2.1]⟩])) noS)), (42, (mkS sh42_1 (fun d K => c42_1 d.2.1.2.1 d.2.1.2.2.1 d.2.1.2.2.2.1 d.2.1.2.2.2.2.1 d.2.2.1.2.1 (fun (y5 : List ByteArray) => K [.lf (.full 2)] [some ⟨d.2.1.1, [.int .i64 d.2.1.2.1, .int .i64 d.2.1.2.2.1, .int .i64 d.2.1.2.2.2.1, .int .i64 d.2.1.2.2.2.2.1, .full 1]⟩, some ⟨d.2.2.1.1, [.seq .str 0 d.2.2.1.2.1]⟩, some ⟨false, [.seq .str 0 y5]⟩])) (mkS sh42_568 (fun d K => c42_568 (fun (y0 : List ByteArray) => K [.lf (.full 0)] [some ⟨false, [.seq .str 0 y0]⟩])) noS))), (47, (mkS sh47_1 (fun d K => c47_1 d.2.1.2.1 d.2.1.2.2.1 d.2.1.2.2.2.1 d.2.1.2.2.2.2.1 d.2.2.1.2.1 (fun (y9 : List ByteArray) => K [.lf (.ptr 2 0)] [some ⟨d.2.1.1, [.int .i64 d.2.1.2.1, .int .i64 d.2.1.2.2.1, .int .i64 d.2.1.2.2.2.1, .int .i64 d.2.1.2.2.2.2.1, .full 1]⟩, some ⟨d.2.2.1.1, [.seq .str 0 d.2.2.1.2.1]⟩, some ⟨false, [.int .i64 d.2.1.2.1, .int .i64 d.2.1.2.2.1, .int .i64 d.2.1.2.2.2.1, .int .i64 d.2.1.2.2.2.2.1, .full 3]⟩, some ⟨false, [.seq .str 0 y9]⟩])) (mkS sh47_568 (fun d K => c47_568 (K [.lf (.nilp)] [])) noS))), (48, (mkS sh48_1 (fun d K => c48_1 d.1.2.1 d.1.2.2.1 d.2.1.2.1 d.2.1.2.2.1 d.2.1.2.2.2.1 d.2.1.2.2.2.2.1 d.2.2.1.2.1 (fun (y0 : Int) (y5 : List ByteArray) => K [.lf (.int .i64 y0)] [some ⟨d.2.1.1, [.int .i64 d.2.1.2.1, .int .i64 d.2.1.2.2.1, .int .i64 d.2.1.2.2.2.1, .int .i64 d.2.1.2.2.2.2.1, .full 1]⟩, some ⟨false, [.seq .str 0 y5]⟩])) noS))]) (xw [11]) 101 2 (ltab [(9, orG sh10_1_l9 (fun d K => l9 d.2.1.2.1 d.2.2.1.2.1 d.2.2.2.1.2.1 d.2.2.2.1.2.2.1 d.2.2.2.1.2.2.2.1 d.2.2.2.1.2.2.2.2.1 (fun (y7 : List ByteArray) => K .ret [.tv (.lf (.bool false))] [some ⟨d.2.1.1, [.seq .str 0 d.2.1.2.1]⟩, some ⟨d.2.2.1.1, [.seq (.pair (.int .i64) .str) 0 d.2.2.1.2.1]⟩, some ⟨false, [.int .i64 d.2.2.2.1.2.1, .int .i64 d.2.2.2.1.2.2.1, .int .i64 d.2.2.2.1.2.2.2.1, .int .i64 d.2.2.2.1.2.2.2.2.1, .full 3]⟩, some ⟨false, [.seq .str 0 y7]⟩]) (fun (y6 : List ByteArray) => K (.exit 0) [.tv (.lf (.full 0)), .tv (.lf (.nilp)), .tv (.lf (.ptr 2 0)), .tv (.lf (.nilp))] [some ⟨d.2.1.1, [.seq .str 0 d.2.1.2.1]⟩, some ⟨d.2.2.1.1, [.seq (.pair (.int .i64) .str) 0 d.2.2.1.2.1]⟩, some ⟨false, [.int .i64 d.2.2.2.1.2.1, .int .i64 d.2.2.2.1.2.2.1, .int .i64 d.2.2.2.1.2.2.2.1, .int .i64 d.2.2.2.1.2.2.2.2.1, .full 3]⟩, some ⟨false, [.seq .str 0 y6]⟩]) F d.1.2.2.2.2.2.1 d.2.2.2.2.1.2.1) (mkG sh10_1_l9_2 [1, 2, 7, 9, 11, 12] (outT [(.exit 0, [1, 7, 9, 11]), (.ret, [6])]) (fun d K => l9_2 d.2.1.2.1 d.2.2.1.2.1 d.2.2.2.1.2.1 d.2.2.2.1.2.2.1 d.2.2.2.1.2.2.2.1 d.2.2.2.1.2.2.2.2.1 d.2.2.2.2.2.1.2.1 d.2.2.2.2.2.1.2.2.1 d.2.2.2.2.2.1.2.2.2.1 d.2.2.2.2.2.1.2.2.2.2.1 d.2.2.2.2.2.2.2.1.2.1 d.2.2.2.2.2.2.2.1.2.2.1 d.2.2.2.2.2.2.2.1.2.2.2.1 d.2.2.2.2.2.2.2.1.2.2.2.2.1 d.2.2.2.2.2.2.2.2.1.2.1 (fun (y7 : List ByteArray) (y12 : List ByteArray) => K .ret [.tv (.lf (.bool false))] [some ⟨d.2.1.1, [.seq .str 0 d.2.1.2.1]⟩, some ⟨d.2.2.1.1, [.seq (.pair (.int .i64) .str) 0 d.2.2.1.2.1]⟩, some ⟨false, [.int .i64 d.2.2.2.1.2.1, .int .i64 d.2.2.2.1.2.2.1, .int .i64 d.2.2.2.1.2.2.2.1, .int .i64 d.2.2.2.1.2.2.2.2.1, .full 3]⟩, some ⟨false, [.seq .str 0 y7]⟩, some ⟨false, [.int .i64 d.2.2.2.2.2.1.2.1, .int .i64 d.2.2.2.2.2.1.2.2.1, .int .i64 d.2.2.2.2.2.1.2.2.2.1, .int .i64 d.2.2.2.2.2.1.2.2.2.2.1, .full 5]⟩, some ⟨false, [.seq .str 0 y12]⟩, some ⟨false, [.int .i64 d.2.2.2.2.2.2.2.1.2.1, .int .i64 d.2.2.2.2.2.2.2.1.2.2.1, .int .i64 d.2.2.2.2.2.2.2.1.2.2.2.1, .int .i64 d.2.2.2.2.2.2.2.1.2.2.2.2.1, .full 7]⟩, some ⟨false, [.seq .str 0 d.2.2.2.2.2.2.2.2.1.2.1]⟩]) (fun (y6 : List ByteArray) (y11 : List ByteArray) => K (.exit 0) [.tv (.lf (.full 0)), .tv (.lf (.ptr 2 0)), .tv (.lf (.ptr 4 0)), .tv (.lf (.ptr 6 0))] [some ⟨d.2.1.1, [.seq .str 0 d.2.1.2.1]⟩, some ⟨d.2.2.1.1, [.seq (.pair (.int .i64) .str) 0 d.2.2.1.2.1]⟩, some ⟨false, [.int .i64 d.2.2.2.1.2.1, .int .i64 d.2.2.2.1.2.2.1, .int .i64 d.2.2.2.1.2.2.2.1, .int .i64 d.2.2.2.1.2.2.2.2.1, .full 3]⟩, some ⟨false, [.seq .str 0 y6]⟩, some ⟨false, [.int .i64 d.2.2.2.2.2.1.2.1, .int .i64 d.2.2.2.2.2.1.2.2.1, .int .i64 d.2.2.2.2.2.1.2.2.2.1, .int .i64 d.2.2.2.2.2.1.2.2.2.2.1, .full 5]⟩, some ⟨false, [.seq .str 0 y11]⟩, some ⟨false, [.int .i64 d.2.2.2.2.2.2.2.1.2.1, .int .i64 d.2.2.2.2.2.2.2.1.2.2.1, .int .i64 d.2.2.2.2.2.2.2.1.2.2.2.1, .int .i64 d.2.2.2.2.2.2.2.1.2.2.2.2.1, .full 7]⟩, some ⟨false, [.seq .str 0 d.2.2.2.2.2.2.2.2.1.2.1]⟩]) F d.1.2.2.2.2.2.1 d.2.2.2.2.1.2.1 d.2.2.2.2.2.2.1.2.1) []))]) code10 Try.f10.results.toList (encT sh10_1.vs d.1) (encH sh10_1.h d.2) K = (fun (a1 : Int) (a2 : Int) (a3 : Int) (a4 : Int) (a5 : List ByteArray) (a6 : List (Int × ByteArray)) (K0 : (Bool → Option Res)) => c26_1 a1 a2 a3 a4 (fun x1 => cond (!x1) (c28_1  (fun x2 => K0 x2) ) (cond (decide (((a5.length : Nat) : Int) > 80)) (c28_1  (fun x3 => K0 x3) ) (cond (decide (((a6.length : Nat) : Int) > 30)) (c28_1  (fun x4 => K0 x4) ) (c34_1 a1 a2 a3 a4 a5 (fun x5 => c35_1 a1 a2 a3 a4 a5 (fun x6 => cond (x5 != x6) (cond (x5 == x6) (c28_1  (fun x7 => K0 x7) ) (K0 false)) (cond (x5 == x6) (c28_1  (fun x8 => K0 x8) ) (K0 false))) (fun x9 => cond (x5 != 0) (cond (x5 == 0) (c28_1  (fun x10 => K0 x10) ) (K0 false)) (c47_568  (l9 a5 a6 a1 a2 a3 a4 (fun x29 => K0 false) (fun x30 => c39_8145 0 a1 a2 a3 a4 x30 (fun x31 => cond x31 (c42_568  (fun x32 => c41_1 x32 a5 (fun x33 => cond x33 (c28_1  (fun x34 => K0 x34) ) (K0 false)) ) ) (K0 false)) ) F 0 x9) )) ) (fun x35 => c35_1 a1 a2 a3 a4 a5 (fun x36 => cond ((0 : Int) != x36) (cond ((0 : Int) == x36) (K0 false) (K0 false)) (cond ((0 : Int) == x36) (K0 false) (K0 false))) (fun x37 => c47_1 a1 a2 a3 a4 x35 (fun x38 => l9_2 a5 a6 a1 a2 a3 a4 a1 a2 a3 a4 a1 a2 a3 a4 x38 (fun x77 x78 => K0 false) (fun x79 x80 => c39_1 0 a1 a2 a3 a4 x79 a1 a2 a3 a4 x80 (fun x81 => cond x81 (c42_1 a1 a2 a3 a4 x38 (fun x82 => c41_1 x82 a5 (fun x83 => cond x83 (c28_1  (fun x84 => K0 x84) ) (K0 false)) ) ) (K0 false)) ) F 0 x35 x37) ) ) )))) ) d.1.1.1 d.1.1.2.1 d.1.1.2.2.1 d.1.1.2.2.2.1 d.2.1.2.1 d.2.2.1.2.1 (fun (y0 : Bool) => K [.lf (.bool y0)] [some ⟨d.2.1.1, [.seq .str 0 d.2.1.2.1]⟩, some ⟨d.2.2.1.1, [.seq (.pair (.int .i64) .str) 0 d.2.2.1.2.1]⟩]) := by kernel_rfl
theorem E10_1 (F : Nat) (d : sh10_1.den) (K : KF) : evBody Try.prog (T10_1 F) (xw [11]) 101 2 (LT10_1 F) code10 Try.f10.results.toList (encT sh10_1.vs d.1) (encH sh10_1.h d.2) K = f10_1 F d.1.1.1 d.1.1.2.1 d.1.1.2.2.1 d.1.1.2.2.2.1 d.2.1.2.1 d.2.2.1.2.1 (fun (y0 : Bool) => K [.lf (.bool y0)] [some ⟨d.2.1.1, [.seq .str 0 d.2.1.2.1]⟩, some ⟨d.2.2.1.1, [.seq (.pair (.int .i64) .str) 0 d.2.2.1.2.1]⟩]) := Eq.mp (by kernel_rfl) (E10_1g F (f26_1 F) (f28_1 F) (f34_1 F) (f35_1 F) (f39_1 F) (f39_8145 F) (f40_1 F) (f40_1385 F) (f41_1 F) (f42_1 F) (f42_568 F) (f47_1 F) (f47_568 F) (f48_1 F) (f10_1_l9 F) (f10_1_l9_2 F)  d K)
theorem S10_1_ok (F : Nat) (o : Summ) (ho : SoundFn Try.prog 10 o) : SoundFn Try.prog 10 (S10_1 F o) :=
  soundFn_of (fn := Try.f10) (c := code10) rfl rfl (by kernel_rfl) (tab_cons (S26_1_ok F _ (noS_sound enter26)) (tab_cons (S28_1_ok F _ (noS_sound enter28)) (tab_cons (S34_1_ok F _ (noS_sound enter34)) (tab_cons (S35_1_ok F _ (noS_sound enter35)) (tab_cons (S39_1_ok F _ (S39_8145_ok F _ (noS_sound enter39))) (tab_cons (S40_1_ok F _ (S40_1385_ok F _ (noS_sound enter40))) (tab_cons (S41_1_ok F _ (noS_sound enter41)) (tab_cons (S42_1_ok F _ (S42_568_ok F _ (noS_sound enter42))) (tab_cons (S47_1_ok F _ (S47_568_ok F _ (noS_sound enter47))) (tab_cons (S48_1_ok F _ (noS_sound enter48)) tab_nil)))))))))) (by kernel_rfl) (by kernel_rfl) ho (by rw [loops10]; exact (loopsOK_cons (by kernel_rfl) (L10_1_9 F) loopsOK_nil)) (by rw [scopes10]; exact scopesOK_nil) (by rw [ranges10]; exact rangesOK_nil) (E10_1 F)
end Go.Proofs.Ytjlolgpbidfmeaa.X
end

section
/- A row's arguments, opened as typed values: slices, which are lent for reading. -/
namespace Go.Proofs.Ytjlolgpbidfmeaa.Ev
open Go Go.RowKit
set_option linter.unusedVariables false
set_option linter.unusedSimpArgs false
set_option linter.unusedSectionVars false
variable [FZ]

section
variable {P : Program} {H : Type} {enc : TypeId × Value → H} {w : World} {held : Bool}

theorem open_slice (hfz : ∀ a cap cs, FzW (Ctx.of w fun _ => False) a cap cs → FZ.ok a cap cs) {e t : TypeId} {sl : List SL} {k : EK} (conv : denL sl → k.den) (ht : P.underlying t = some (.slice e)) (hs : slOf P 8 e = some sl) (hc : P.cellsOf e = k.w) (hconv : ∀ y, k.of1 (encL sl y) = some (conv y))
    (hwf : ∀ y, wfL sl y → wfE k (conv y)) {r : Reach} {b0 : Nat} {v : Value} {d : DataW H} {ps : List MemPlace} (hv : Value.okWide P w r b0 t v) (h : DataW.Trod enc P w 0 (fun _ => true) held t v d ps) :
    ∃ (l : List k.den) (g : Gh), Shown w k l g v := by
  obtain ⟨a0, n0, c0, rfl⟩ := Go.WideShapes.okWide_slice ht hv
  obtain ⟨fuel, hf⟩ := h
  exact slice_core ht hc (fun n cs x hx => by
    obtain ⟨d', o1, o2⟩ := slOf_open (m := []) hfz 8 e sl n cs x hs hx
    exact ⟨conv d', of1_cells k (hconv d') o1, hwf d' o2⟩) hf

/-- Arguments that are lent. -/
theorem inv_shown {m : GM} {h : Heap} (hfz : ∀ a cap cs, FZ.ok a cap cs → FzW (Ctx.of w fun _ => False) a cap cs) (hl : m.length = h.length) (hq : ∀ (i : Nat) ob g, hget h i = some ob → m[i]? = some g → ob.ro = true ∧ ObRel m g w ob ∧ ∀ b, g.addr = some b → b.1 < w.heap.size) :
    Inv (Ctx.of w fun _ => False) m h w :=
  ⟨hl, fun id ob g h1 h2 => (hq id ob g h1 h2).2.1, fun id ob g b h1 h2 h3 => by rw [(hq id ob g h1 h2).1]; exact ⟨fun h => h, (hq id ob g h1 h2).2.2 b h3, trivial⟩,
   fun i j oi oj gi gj b c _ h1 h2 h3 _ h5 h6 => (by rw [(hq i oi gi h1 h5).1] at h3; cases h3), Str.refl w, Nat.le_refl _, fun _ _ _ => rfl, hfz, fun x hx => by cases hx⟩

theorem inv_cons {m : GM} {h : Heap} {k : EK} {l : List k.den} {g : Gh} {v : Value} (hi : Inv (Ctx.of w fun _ => False) m h w) (hro : ∀ (i : Nat) ob, hget h i = some ob → ob.ro = true) (hs : Shown w k l g v) :
    Inv (Ctx.of w fun _ => False) (m ++ [g]) (h ++ [some ⟨true, [.seq k 0 l]⟩]) w ∧ (∀ (i : Nat) ob, hget (h ++ [some ⟨true, [.seq k 0 l]⟩]) i = some ob → ob.ro = true) ∧ LRel (m ++ [g]) (.full h.length) v := by
  have hro' : ∀ (i : Nat) ob, hget (h ++ [some ⟨true, [.seq k 0 l]⟩]) i = some ob → ob.ro = true := by
    intro i ob h1
    rcases hget_app h1 with ⟨_, h2⟩ | ⟨_, h2⟩
    · exact hro i ob h2
    · cases h2; rfl
  refine ⟨inv_shown hi.fz (by simp [hi.len]) fun i ob g' h1 h2 => ⟨hro' i ob h1, ?_⟩, hro', ?_⟩
  · rcases hget_app h1 with ⟨hlt, h3⟩ | ⟨rfl, h3⟩
    · have h4 := gm_app_old (by rw [hi.len]; exact hlt) h2
      obtain ⟨o1, cs, o2, o3⟩ := hi.obs i ob g' h3 h4
      exact ⟨⟨o1, cs, o2.mono (pre_append _ _), o3⟩, fun b hb => hi.block_lt h3 h4 hb⟩
    · cases h3
      have : (m ++ [g])[h.length]? = some g := by rw [← hi.len]; exact gm_app_new
      rw [this] at h2; cases h2
      exact ⟨hs.obj _, hs.blk⟩
  · exact hs.rel _ _ (by rw [← hi.len]; exact gm_app_new)

end
end Go.Proofs.Ytjlolgpbidfmeaa.Ev
end

section
/- SHA-256: blocks; bytes that come in parts; the digest. -/
namespace Go.Proofs.Ytjlolgpbidfmeaa.X
open Go Go.Proofs.Ytjlolgpbidfmeaa.Ev
set_option linter.unusedSectionVars false
variable [FZ]
set_option linter.unusedVariables false
set_option linter.unusedSimpArgs false

def sS1 (e : Int) : Int := ixor .u32 (ixor .u32 (rot e 6) (rot e 11)) (rot e 25)
def sS0 (a : Int) : Int := ixor .u32 (ixor .u32 (rot a 2) (rot a 13)) (rot a 22)
def t1 (e f g h k w : Int) : Int := IntKind.u32.wrap (IntKind.u32.wrap (IntKind.u32.wrap (IntKind.u32.wrap (h + sS1 e) + ixor .u32 (iand .u32 e f) (iand .u32 (ixor .u32 4294967295 e) g)) + k) + w)
def t2 (a b c : Int) : Int := IntKind.u32.wrap (sS0 a + ixor .u32 (ixor .u32 (iand .u32 a b) (iand .u32 a c)) (iand .u32 b c))

def stp (v : List Int) (k w : Int) : List Int := match v with
  | [a, b, c, d, e, f, g, h] => [IntKind.u32.wrap (t1 e f g h k w + t2 a b c), a, b, c, IntKind.u32.wrap (d + t1 e f g h k w), e, f, g]
  | v => v

def rds (kk ww : List Int) : Nat → Nat → List Int → List Int
  | 0, _, v => v
  | m + 1, i, v => rds kk ww m (i + 1) (stp v (kk.getD i 0) (ww.getD i 0))

def fin8 (s v : List Int) : List Int := match s, v with
  | [a, b, c, d, e, f, g, h], [a', b', c', d', e', f', g', h'] => [IntKind.u32.wrap (a' + a), IntKind.u32.wrap (b' + b), IntKind.u32.wrap (c' + c), IntKind.u32.wrap (d' + d), IntKind.u32.wrap (e' + e), IntKind.u32.wrap (f' + f), IntKind.u32.wrap (g' + g), IntKind.u32.wrap (h' + h)]
  | _, _ => []

def eight (s : List Int) : Prop := ∃ a b c d e f g h, s = [a, b, c, d, e, f, g, h]
theorem eight_of {s : List Int} (h : s.length = 8) : eight s := by
  match s, h with
  | [a, b, c, d, e, f, g, h], _ => exact ⟨a, b, c, d, e, f, g, h, rfl⟩

theorem stp_eight {v : List Int} (h : eight v) (k w : Int) : eight (stp v k w) := by
  obtain ⟨a, b, c, d, e, f, g, h, rfl⟩ := h
  exact ⟨_, _, _, _, _, _, _, _, rfl⟩
theorem rds_eight {kk ww : List Int} : ∀ (m i : Nat) {v : List Int}, eight v → eight (rds kk ww m i v)
  | 0, _, v, h => h
  | m + 1, i, v, h => rds_eight m (i + 1) (stp_eight h _ _)

/-- The numbers behind a block. -/
def blk (s b : List Int) : List Int := fin8 s (rds k64 (wds b) 64 0 s)
theorem blk_eight {s : List Int} (b : List Int) (h : eight s) : eight (blk s b) := by
  have h2 := rds_eight (kk := k64) (ww := wds b) 64 0 h
  obtain ⟨a, b', c, d, e, f, g, h, rfl⟩ := h
  obtain ⟨a', b'', c', d', e', f', g', h', h3⟩ := h2
  unfold blk
  rw [h3]
  exact ⟨_, _, _, _, _, _, _, _, rfl⟩

theorem k64_len : k64.length = 64 := rfl

theorem rdP {β : Type} {F : Nat} {b s z ww : List Int} {K : List Int → Option β} (hw : ww.length = 64) : ∀ (m i k : Nat) (v : List Int), eight v → i + m = 64 → m < k →
    f132_0_l3 F b s z k64 ww K k (i : Int) v = K (rds k64 ww m i v)
  | 0, i, k, v, he, hi, hk => by
    obtain ⟨k, rfl⟩ : ∃ j, k = j + 1 := ⟨k - 1, by omega⟩
    simp only [f132_0_l3]
    rw [cf (by omega)]; rfl
  | m + 1, i, k, v, he, hi, hk => by
    obtain ⟨k, rfl⟩ : ∃ j, k = j + 1 := ⟨k - 1, by omega⟩
    have e4 : IntKind.i64.wrap ((i : Int) + 1) = ((i + 1 : Nat) : Int) := by rw [w64 (by omega) (by omega)]; omega
    have ih := rdP (F := F) (b := b) (s := s) (z := z) (K := K) hw m (i + 1) k _ (stp_eight he (k64.getD i 0) (ww.getD i 0)) (by omega) (by omega)
    obtain ⟨va, vb, vc, vd, ve, vf, vg, vh, rfl⟩ := he
    simp only [f132_0_l3, e4, hw, Int.toNat_natCast]
    have q0 : i < k64.length := by rw [k64_len]; omega
    rw [ct (by omega), ct (by simp), ct (by simp), ct (by simp), ct (by simp), ct (by simp), ct (by simp), ct (by simp), ct (by simp), ct (by simp), ct (by omega), ct q0, ct (by omega), ct (by omega),
      turnP (by omega) (by omega), turnP (by omega) (by omega), turnP (by omega) (by omega), turnP (by omega) (by omega), turnP (by omega) (by omega), turnP (by omega) (by omega)]
    rw [ct (by simp), ct (by simp), ct (by simp)]
    exact ih

def adds (s : List Int) : Nat → Nat → List Int → List Int
  | 0, _, v => v
  | m + 1, i, v => adds s m (i + 1) (v.set i (IntKind.u32.wrap (v.getD i 0 + s.getD i 0)))

theorem addP {β : Type} {F : Nat} {b z s : List Int} {K : List Int → Option β} (hs : s.length = 8) : ∀ (m i k : Nat) (v : List Int), v.length = 8 → i + m = 8 → m < k →
    f132_0_l14 F b s z K k (i : Int) v = K (adds s m i v)
  | 0, i, k, v, he, hi, hk => by
    obtain ⟨k, rfl⟩ : ∃ j, k = j + 1 := ⟨k - 1, by omega⟩
    simp only [f132_0_l14]
    rw [cf (by omega)]; rfl
  | m + 1, i, k, v, he, hi, hk => by
    obtain ⟨k, rfl⟩ : ∃ j, k = j + 1 := ⟨k - 1, by omega⟩
    have e4 : IntKind.i64.wrap ((i : Int) + 1) = ((i + 1 : Nat) : Int) := by rw [w64 (by omega) (by omega)]; omega
    simp only [f132_0_l14, e4, hs, he, Int.toNat_natCast]
    rw [ct (by omega), ct (by omega), ct (by omega), ct (by omega), ct (by omega), ct (by omega), ct (by omega)]
    exact addP hs m (i + 1) k _ (by simp [he]) (by omega) (by omega)

theorem fnP {β : Type} {F : Nat} {b z s v : List Int} {K : List Int → Option β} (hF : 9 ≤ F) (hs : eight s) (hv : eight v) : f132_0_l14 F b s z K F 0 v = K (fin8 s v) := by
  obtain ⟨a, b', c, d, e, f, g, h, rfl⟩ := hs
  obtain ⟨va, vb, vc, vd, ve, vf, vg, vh, rfl⟩ := hv
  exact addP rfl 8 0 F _ rfl (by omega) (by omega)

theorem blkP {β : Type} {F : Nat} {s b : List Int} {K : List Int → Option β} (hF : 100 ≤ F) (hs : eight s) (hb : 64 ≤ b.length) : f132_1 F s b K = K (blk s b) := by
  simp only [f132_1]
  rw [ct ⟨hF, hb⟩]
  simp only [f132_0]
  have h1 := rdP (F := F) (b := b) (s := s) (z := [0, 0, 0, 0, 0, 0, 0, 0]) (K := fun x14 => f132_0_l14 F b s [0, 0, 0, 0, 0, 0, 0, 0] (fun x20 => K x20) F 0 x14) (wds_len b) 64 0 F s hs (by omega) (by omega)
  rw [show ((0 : Nat) : Int) = 0 from rfl] at h1
  rw [h1, fnP (by omega) hs (rds_eight 64 0 hs)]
  rfl

theorem rdR {β : Type} {F : Nat} {b s z ww : List Int} {K : Int → Int → Int → Int → Int → Int → Int → Int → Option β} {K' : List Int → Option β} (hK : ∀ a b c d e f g h, K a b c d e f g h = K' [a, b, c, d, e, f, g, h]) (hw : ww.length = 64) : ∀ (m i k : Nat) (va vb vc vd ve vf vg vh : Int), i + m = 64 → m < k →
    f117_1_l21 F k64 b s z ww K k va vb vc vd ve vf vg vh (i : Int) = K' (rds k64 ww m i [va, vb, vc, vd, ve, vf, vg, vh])
  | 0, i, k, va, vb, vc, vd, ve, vf, vg, vh, hi, hk => by
    obtain ⟨k, rfl⟩ : ∃ j, k = j + 1 := ⟨k - 1, by omega⟩
    simp only [f117_1_l21]
    rw [cf (by omega), hK]; rfl
  | m + 1, i, k, va, vb, vc, vd, ve, vf, vg, vh, hi, hk => by
    obtain ⟨k, rfl⟩ : ∃ j, k = j + 1 := ⟨k - 1, by omega⟩
    have e4 : IntKind.i64.wrap ((i : Int) + 1) = ((i + 1 : Nat) : Int) := by rw [w64 (by omega) (by omega)]; omega
    have q0 : i < k64.length := by rw [k64_len]; omega
    simp only [f117_1_l21, e4, hw, Int.toNat_natCast, Nat.zero_add]
    rw [ct (by omega), ct (by omega), ct q0, ct (by omega), ct (by omega),
      turnR (by omega) (by omega), turnR (by omega) (by omega), turnR (by omega) (by omega), turnR (by omega) (by omega), turnR (by omega) (by omega), turnR (by omega) (by omega)]
    exact rdR hK hw m (i + 1) k _ _ _ _ _ _ _ _ (by omega) (by omega)

theorem blkR {β : Type} {F : Nat} {s b : List Int} {K : List Int → Option β} (hF : 100 ≤ F) (hs : eight s) (hb : 64 ≤ b.length) : f117_1 F s k64 b K = K (blk s b) := by
  simp only [f117_1]
  rw [show ([0, 0, 0, 0, 0, 0, 0, 0, 0, 0, 0, 0, 0, 0, 0, 0, 0, 0, 0, 0, 0, 0, 0, 0, 0, 0, 0, 0, 0, 0, 0, 0, 0, 0, 0, 0, 0, 0, 0, 0, 0, 0, 0, 0, 0, 0, 0, 0, 0, 0, 0, 0, 0, 0, 0, 0, 0, 0, 0, 0, 0, 0, 0, 0] : List Int) = List.replicate 64 0 from rfl]
  have h0 := ldR (F := F) (b := b) (z := [0, 0, 0, 0, 0, 0, 0, 0]) (s := s) (y := k64) (K := fun x7 => f117_1_l7 F k64 b s [0, 0, 0, 0, 0, 0, 0, 0] (fun x18 => cond (decide (0 < s.length)) (cond (decide (1 < s.length)) (cond (decide (2 < s.length)) (cond (decide (3 < s.length)) (cond (decide (4 < s.length)) (cond (decide (5 < s.length)) (cond (decide (6 < s.length)) (cond (decide (7 < s.length)) (f117_1_l21 F k64 b s [0, 0, 0, 0, 0, 0, 0, 0] x18 (fun x39 x40 x41 x42 x43 x44 x45 x46 => cond (decide (0 < s.length)) (cond (decide (1 < s.length)) (cond (decide (2 < s.length)) (cond (decide (3 < s.length)) (cond (decide (4 < s.length)) (cond (decide (5 < s.length)) (cond (decide (6 < s.length)) (cond (decide (7 < s.length)) (K [IntKind.u32.wrap ((s.getD 0 0) + x39), IntKind.u32.wrap ((s.getD 1 0) + x40), IntKind.u32.wrap ((s.getD 2 0) + x41), IntKind.u32.wrap ((s.getD 3 0) + x42), IntKind.u32.wrap ((s.getD 4 0) + x43), IntKind.u32.wrap ((s.getD 5 0) + x44), IntKind.u32.wrap ((s.getD 6 0) + x45), IntKind.u32.wrap ((s.getD 7 0) + x46)]) none) none) none) none) none) none) none) none) F (s.getD 0 0) (s.getD 1 0) (s.getD 2 0) (s.getD 3 0) (s.getD 4 0) (s.getD 5 0) (s.getD 6 0) (s.getD 7 0) 0) none) none) none) none) none) none) none) none) F 16 x7) hb 16 0 F (List.replicate 64 0) (by omega) (by omega) (by simp)
  rw [show ((0 : Nat) : Int) = 0 from rfl] at h0
  rw [h0]
  rw [show (16 : Int) = ((16 : Nat) : Int) from rfl, exR 48 16 F _ (by omega) (by omega) (by omega) (by rw [ldr_len]; simp)]
  obtain ⟨a, b', c, d, e, f, g, h, rfl⟩ := hs
  have hw := wds_len b
  unfold blk
  unfold wds at hw ⊢
  rw [ct (by simp), ct (by simp), ct (by simp), ct (by simp), ct (by simp), ct (by simp), ct (by simp), ct (by simp)]
  have h1 := rdR (F := F) (b := b) (s := [a, b', c, d, e, f, g, h]) (z := [0, 0, 0, 0, 0, 0, 0, 0]) (K' := fun v => K (fin8 [a, b', c, d, e, f, g, h] v)) (K := fun x39 x40 x41 x42 x43 x44 x45 x46 =>
    K [IntKind.u32.wrap (a + x39), IntKind.u32.wrap (b' + x40), IntKind.u32.wrap (c + x41), IntKind.u32.wrap (d + x42), IntKind.u32.wrap (e + x43), IntKind.u32.wrap (f + x44), IntKind.u32.wrap (g + x45), IntKind.u32.wrap (h + x46)])
    (fun x1 x2 x3 x4 x5 x6 x7 x8 => by simp only [fin8]; rw [Int.add_comm a, Int.add_comm b', Int.add_comm c, Int.add_comm d, Int.add_comm e, Int.add_comm f, Int.add_comm g, Int.add_comm h]) hw 64 0 F a b' c d e f g h (by omega) (by omega)
  rw [show ((0 : Nat) : Int) = 0 from rfl] at h1
  exact h1

end Go.Proofs.Ytjlolgpbidfmeaa.X
end

section
/- SHA-256: bytes that come in parts, and the digest: the code's and the document's are one. -/
namespace Go.Proofs.Ytjlolgpbidfmeaa.X
open Go Go.Proofs.Ytjlolgpbidfmeaa.Ev
set_option linter.unusedSectionVars false
variable [FZ]
set_option linter.unusedVariables false
set_option linter.unusedSimpArgs false

def cmpN : Nat → List Int → List Int → List Int × List Int
  | 0, s, l => (s, l)
  | q + 1, s, l => cmpN q (blk s (l.take 64)) (l.drop 64)

theorem cmpN_add : ∀ (q r : Nat) (s l : List Int), cmpN (q + r) s l = cmpN r (cmpN q s l).1 (cmpN q s l).2
  | 0, r, s, l => by simp [cmpN]
  | q + 1, r, s, l => by
    rw [show q + 1 + r = (q + r) + 1 by omega]
    simp only [cmpN]
    exact cmpN_add q r _ _
theorem cmpN_app : ∀ (q : Nat) (s l t : List Int), 64 * q ≤ l.length → cmpN q s (l ++ t) = ((cmpN q s l).1, (cmpN q s l).2 ++ t)
  | 0, s, l, t, _ => rfl
  | q + 1, s, l, t, h => by
    simp only [cmpN]
    rw [List.take_append_of_le_length (by omega), List.drop_append_of_le_length (by omega)]
    exact cmpN_app q _ _ t (by simp; omega)
theorem cmpN_len : ∀ (q : Nat) (s l : List Int), (cmpN q s l).2.length = l.length - 64 * q
  | 0, s, l => by simp [cmpN]
  | q + 1, s, l => by simp only [cmpN]; rw [cmpN_len q]; simp; omega
theorem cmpN_eight : ∀ (q : Nat) {s : List Int} (l : List Int), eight s → eight (cmpN q s l).1
  | 0, s, l, h => h
  | q + 1, s, l, h => cmpN_eight q _ (blk_eight _ h)

theorem writeL {β : Type} {F : Nat} {n : Int} {b : List Int} {K : List Int → List Int → Option β} (hF : 100 ≤ F) : ∀ (q k : Nat) (s l : List Int), eight s → l.length / 64 = q → q < k → l.length ≤ 70368744177664 →
    f113_1_l3 F n b K k s l = K (cmpN q s l).1 (cmpN q s l).2
  | 0, k, s, l, he, hq, hk, hl => by
    obtain ⟨k, rfl⟩ : ∃ j, k = j + 1 := ⟨k - 1, by omega⟩
    simp only [f113_1_l3]
    rw [cf (by omega)]; rfl
  | q + 1, k, s, l, he, hq, hk, hl => by
    obtain ⟨k, rfl⟩ : ∃ j, k = j + 1 := ⟨k - 1, by omega⟩
    have h64 : 64 ≤ l.length := by omega
    have e1 : (l.drop 64).take ((((l.length : Nat) : Int) - 64).toNat) = l.drop 64 := List.take_of_length_le (by simp; omega)
    simp only [f113_1_l3, e1, List.drop_zero, List.nil_append]
    rw [ct (by omega), ct (by omega), blkP hF he (by simp; omega), ct (by omega), ct (by simp; omega)]
    exact writeL hF q k _ _ (blk_eight _ he) (by simp; omega) (by omega) (by simp; omega)

def byt (n : Int) (j : Nat) : Int := IntKind.u8.wrap (ishr .u64 n ((8 * j : Nat) : Int))
/-- A number's eight bytes, the highest first. -/
def bes (n : Int) : Nat → List Int
  | 0 => []
  | m + 1 => byt n m :: bes n m

def setB (n : Int) : Nat → Nat → List Int → List Int
  | 0, _, xs => xs
  | m + 1, i, xs => setB n m (i + 1) (xs.set (7 - i) (byt n i))

theorem setB_len (n : Int) : ∀ m i xs, (setB n m i xs).length = xs.length
  | 0, _, _ => rfl
  | m + 1, i, xs => by rw [setB, setB_len n m]; simp
theorem setB_eq (n : Int) {xs : List Int} (h : xs.length = 8) : setB n 8 0 xs = bes n 8 := by
  match xs, h with
  | [a, b, c, d, e, f, g, h], _ => rfl

theorem bitsL {β : Type} {F L cp : Nat} {n : Int} {s w : List Int} {y : Int} {K : List Int → Option β} {A C : List Int} (hA : A.length + 8 = L) (hL : L ≤ 128) : ∀ (m i k : Nat) (xs : List Int), i + m = 8 → m < k → xs.length = 8 →
    f114_1_l10 F 0 L cp n s y w K k (i : Int) (A ++ (xs ++ C)) = K (A ++ (setB n m i xs ++ C))
  | 0, i, k, xs, hi, hk, hx => by
    obtain ⟨k, rfl⟩ : ∃ j, k = j + 1 := ⟨k - 1, by omega⟩
    simp only [f114_1_l10]
    rw [cf (by omega)]; rfl
  | m + 1, i, k, xs, hi, hk, hx => by
    obtain ⟨k, rfl⟩ : ∃ j, k = j + 1 := ⟨k - 1, by omega⟩
    have e1 : IntKind.i64.wrap (8 * (i : Int)) = ((8 * i : Nat) : Int) := by rw [w64 (by omega) (by omega)]; omega
    have e2 : IntKind.i64.wrap (IntKind.i64.wrap (((L : Nat) : Int) - 1) - (i : Int)) = ((A.length + (7 - i) : Nat) : Int) := by rw [w64 (x := ((L : Nat) : Int) - 1) (by omega) (by omega), w64 (by omega) (by omega)]; omega
    have e4 : IntKind.i64.wrap ((i : Int) + 1) = ((i + 1 : Nat) : Int) := by rw [w64 (by omega) (by omega)]; omega
    have e5 : (A ++ (xs ++ C)).set (A.length + (7 - i)) (byt n i) = A ++ (xs.set (7 - i) (byt n i) ++ C) := by
      rw [List.set_append_right _ _ (by omega), List.set_append_left _ _ (by omega)]
      congr 2
      rw [show A.length + (7 - i) - A.length = 7 - i by omega]
    have e6 : (A ++ (xs ++ C)).length = A.length + 8 + C.length := by simp [hx]; omega
    simp only [f114_1_l10, e1, e2, e4, Int.toNat_natCast, Nat.zero_add]
    rw [ct (by omega), cf (by omega), ct (by omega), ct (by omega)]
    rw [show IntKind.u8.wrap (ishr .u64 n ((8 * i : Nat) : Int)) = byt n i from rfl, e5]
    exact bitsL hA hL m (i + 1) k _ (by omega) (by omega) (by simp [hx])

theorem getD_take {l : List Int} {n i : Nat} (h : i < n) : (l.take n).getD i 0 = l.getD i 0 := by
  rw [List.getD_eq_getElem?_getD, List.getD_eq_getElem?_getD, List.getElem?_take_of_lt h]

theorem word_take {b : List Int} {i : Nat} (h : i < 16) : word (b.take 64) i = word b i := by
  simp only [word]
  rw [getD_take (by omega), getD_take (by omega), getD_take (by omega), getD_take (by omega)]

theorem ldr_take {b : List Int} : ∀ (m i : Nat) (acc : List Int), i + m = 16 → ldr (b.take 64) m i acc = ldr b m i acc
  | 0, i, acc, h => rfl
  | m + 1, i, acc, h => by simp only [ldr]; rw [word_take (by omega), ldr_take m (i + 1) _ (by omega)]

theorem blk_take (s b : List Int) : blk s (b.take 64) = blk s b := by
  simp only [blk, wds]; rw [ldr_take 16 0 _ (by omega)]

theorem lastL {β : Type} {F : Nat} {s0 w buf : List Int} {y : Int} {K : List Int → Option β} (hF : 100 ≤ F) : ∀ (r k lo cp : Nat) (s : List Int), eight s → r < k → r ≤ 2 → lo + 64 * r ≤ buf.length → 64 * r ≤ cp →
    f114_1_l15 F s0 y w buf K k lo (64 * r) cp s = K (cmpN r s ((buf.drop lo).take (64 * r))).1
  | 0, k, lo, cp, s, he, hk, hr, hb, hc => by
    obtain ⟨k, rfl⟩ : ∃ j, k = j + 1 := ⟨k - 1, by omega⟩
    simp only [f114_1_l15]
    rw [cf (by omega)]; rfl
  | r + 1, k, lo, cp, s, he, hk, hr, hb, hc => by
    obtain ⟨k, rfl⟩ : ∃ j, k = j + 1 := ⟨k - 1, by omega⟩
    have e1 : (((64 * (r + 1) : Nat) : Int) - 64).toNat = 64 * r := by omega
    simp only [f114_1_l15, e1]
    rw [ct (by omega), blkP hF he (by simp; omega), ct (by omega)]
    rw [lastL hF r k (lo + 64) (cp - 64) _ (blk_eight _ he) (by omega) (by omega) (by omega) (by omega)]
    simp only [cmpN]
    rw [blk_take, List.drop_take, List.drop_drop, show 64 * (r + 1) - 64 = 64 * r by omega]

def outs (s : List Int) : Nat → Nat → List Int → List Int
  | 0, _, acc => acc
  | m + 1, i, acc => outs s m (i + 1) (acc ++ [IntKind.u8.wrap (ishr .u32 (s.getD i 0) 24), IntKind.u8.wrap (ishr .u32 (s.getD i 0) 16), IntKind.u8.wrap (ishr .u32 (s.getD i 0) 8), IntKind.u8.wrap (s.getD i 0)])

theorem outP {β : Type} {F : Nat} {s s0 w : List Int} {y : Int} {K : List Int → Option β} : ∀ (m i k : Nat) (acc : List Int), i + m = 8 → m < k → acc.length ≤ 4 * i →
    f114_1_l20 F s s0 y w K k (i : Int) acc = K (outs s m i acc)
  | 0, i, k, acc, hi, hk, ha => by
    obtain ⟨k, rfl⟩ : ∃ j, k = j + 1 := ⟨k - 1, by omega⟩
    simp only [f114_1_l20]
    rw [cf (by omega)]; rfl
  | m + 1, i, k, acc, hi, hk, ha => by
    obtain ⟨k, rfl⟩ : ∃ j, k = j + 1 := ⟨k - 1, by omega⟩
    have e4 : IntKind.i64.wrap ((i : Int) + 1) = ((i + 1 : Nat) : Int) := by rw [w64 (by omega) (by omega)]; omega
    simp only [f114_1_l20, e4, Int.toNat_natCast]
    rw [ct (by omega), ct (by omega), ct (by omega)]
    exact outP m (i + 1) k _ (by omega) (by omega) (by simp; omega)

theorem outR {β : Type} {F : Nat} {s b : List Int} {K : List Int → Option β} (hs : s.length = 8) : ∀ (m i k : Nat) (acc : List Int), i + m = 8 → m < k → acc.length ≤ 4 * i →
    f69_1_l19 F b s K k (i : Int) acc = K (outs s m i acc)
  | 0, i, k, acc, hi, hk, ha => by
    obtain ⟨k, rfl⟩ : ∃ j, k = j + 1 := ⟨k - 1, by omega⟩
    simp only [f69_1_l19]
    rw [cf (by omega)]; rfl
  | m + 1, i, k, acc, hi, hk, ha => by
    obtain ⟨k, rfl⟩ : ∃ j, k = j + 1 := ⟨k - 1, by omega⟩
    have e4 : IntKind.i64.wrap ((i : Int) + 1) = ((i + 1 : Nat) : Int) := by rw [w64 (by omega) (by omega)]; omega
    simp only [f69_1_l19, e4, Int.toNat_natCast, hs]
    rw [ct (by omega), ct (by omega), ct (by omega), ct (by omega), ct (by omega), ct (by omega), ct (by omega), ct (by omega), ct (by omega), ct (by omega)]
    exact outR hs m (i + 1) k _ (by omega) (by omega) (by simp; omega)

/-- The numbers ahead of all blocks. -/
def ini : List Int := [1779033703, 3144134277, 1013904242, 2773480762, 1359893119, 2600822924, 528734635, 1541459225]
theorem ini_eight : eight ini := ⟨_, _, _, _, _, _, _, _, rfl⟩

/-- How many bytes 0 stand behind the first one that is laid on. -/
def zs (n : Nat) : Nat := if n % 64 < 56 then 55 - n % 64 else 119 - n % 64
/-- What is laid on behind n bytes. -/
def pad (n : Nat) : List Int := [128] ++ (List.replicate (zs n) 0 ++ bes ((8 * n : Nat) : Int) 8)
def blks (n : Nat) : Nat := if n % 64 < 56 then 1 else 2
theorem pad_len (n : Nat) : (pad n).length = 1 + zs n + 8 := by simp [pad, bes]; omega

/-- The digest of bytes. -/
def dig (b : List Int) : ByteArray := ofInts (outs (cmpN (b.length / 64 + blks b.length) ini (b ++ pad b.length)).1 8 0 [])

theorem zeroL {β : Type} {F : Nat} {b : List Int} {K : List Int → Option β} : ∀ (m k : Nat) (acc : List Int), (acc.length + m) % 64 = 56 → m < 64 → m < k → acc.length + m ≤ 1000000 →
    f69_1_l4 F b K k acc = K (acc ++ List.replicate m 0)
  | 0, k, acc, hm, h6, hk, ha => by
    obtain ⟨k, rfl⟩ : ∃ j, k = j + 1 := ⟨k - 1, by omega⟩
    have : ((((acc.length : Nat) : Int).tmod 64) != 56) = false := by
      rw [show (64 : Int) = ((64 : Nat) : Int) from rfl, tmod_nn, show acc.length % 64 = 56 by omega]; rfl
    simp only [f69_1_l4, this, cond_false, List.replicate_zero, List.append_nil]
  | m + 1, k, acc, hm, h6, hk, ha => by
    obtain ⟨k, rfl⟩ : ∃ j, k = j + 1 := ⟨k - 1, by omega⟩
    have : ((((acc.length : Nat) : Int).tmod 64) != 56) = true := by
      rw [show (64 : Int) = ((64 : Nat) : Int) from rfl, tmod_nn]
      have h0 : ¬ (acc.length % 64 = 56) := by omega
      rw [bne_iff_ne]; intro h1; exact h0 (by exact_mod_cast h1)
    simp only [f69_1_l4, this, cond_true]
    have hl1 : (acc ++ [(0 : Int)]).length = acc.length + 1 := by simp
    rw [ct (by omega), zeroL m k (acc ++ [0]) (by rw [hl1]; omega) (by omega) (by omega) (by rw [hl1]; omega), List.append_assoc]
    rfl

theorem besL {β : Type} {F : Nat} {n : Int} {b : List Int} {K : List Int → Option β} : ∀ (m k : Nat) (acc : List Int), m ≤ 8 → m < k → acc.length ≤ 1000000 - m →
    f69_1_l8 F n b K k ((m : Int) - 1) acc = K (acc ++ bes n m)
  | 0, k, acc, hm, hk, ha => by
    obtain ⟨k, rfl⟩ : ∃ j, k = j + 1 := ⟨k - 1, by omega⟩
    simp only [f69_1_l8]
    rw [cf (by omega)]; simp [bes]
  | m + 1, k, acc, hm, hk, ha => by
    obtain ⟨k, rfl⟩ : ∃ j, k = j + 1 := ⟨k - 1, by omega⟩
    have e1 : IntKind.i64.wrap (8 * (((m + 1 : Nat) : Int) - 1)) = ((8 * m : Nat) : Int) := by rw [w64 (by omega) (by omega)]; omega
    have e2 : IntKind.u64.wrap ((8 * m : Nat) : Int) = ((8 * m : Nat) : Int) := wu64 (by omega) (by omega)
    have e3 : IntKind.i64.wrap ((((m + 1 : Nat) : Int) - 1) - 1) = (m : Int) - 1 := by rw [w64 (by omega) (by omega)]; omega
    simp only [f69_1_l8, e1, e2, e3]
    rw [ct (by omega), cf (by omega), ct (by omega), besL m k _ (by omega) (by omega) (by simp; omega), List.append_assoc]
    rfl

theorem blocksL {β : Type} {F : Nat} {b all : List Int} {K : List Int → Option β} (hF : 100 ≤ F) (hall : all.length ≤ 1000000) : ∀ (q k at_ : Nat) (h : List Int), eight h → at_ + 64 * q = all.length → q < k →
    f69_1_l14 F b all k64 K k (at_ : Int) h = K (cmpN q h (all.drop at_)).1
  | 0, k, at_, h, he, hq, hk => by
    obtain ⟨k, rfl⟩ : ∃ j, k = j + 1 := ⟨k - 1, by omega⟩
    have e1 : IntKind.i64.wrap ((at_ : Int) + 64) = ((at_ + 64 : Nat) : Int) := by rw [w64 (by omega) (by omega)]; omega
    simp only [f69_1_l14, e1]
    rw [cf (by omega)]; rfl
  | q + 1, k, at_, h, he, hq, hk => by
    obtain ⟨k, rfl⟩ : ∃ j, k = j + 1 := ⟨k - 1, by omega⟩
    have e1 : IntKind.i64.wrap ((at_ : Int) + 64) = ((at_ + 64 : Nat) : Int) := by rw [w64 (by omega) (by omega)]; omega
    have e2 : (((at_ + 64 : Nat) : Int) - (at_ : Int)).toNat = 64 := by omega
    simp only [f69_1_l14, e1, e2, Nat.zero_add, Int.toNat_natCast]
    rw [ct (by omega), ct (by omega), blkR hF he (by simp; omega), blocksL hF hall q k (at_ + 64) _ (blk_eight _ he) (by omega) (by omega)]
    simp only [cmpN]
    rw [List.drop_drop]

theorem sumR {β : Type} {F : Nat} {b : List Int} {K : ByteArray → Option β} (hb : b.length ≤ 100000) (hF : 2000 ≤ F) : f69_1 F b K = K (dig b) := by
  have e1 : IntKind.u64.wrap ((b.length : Nat) : Int) = ((b.length : Nat) : Int) := wu64 (by omega) (by omega)
  have e2 : IntKind.u64.wrap (((b.length : Nat) : Int) * 8) = ((8 * b.length : Nat) : Int) := by rw [wu64 (by omega) (by omega)]; omega
  have hz : zs b.length < 64 ∧ (b.length + 1 + zs b.length) % 64 = 56 := by unfold zs; split <;> omega
  have hpl := pad_len b.length
  have hbl : (b ++ pad b.length).length = 64 * (b.length / 64 + blks b.length) := by
    rw [List.length_append, hpl]; unfold zs blks; split <;> omega
  simp only [f69_1, e1, e2]
  rw [ct (by omega), ct (by omega), zeroL (zs b.length) F _ (by simp; omega) (by omega) (by omega) (by simp; omega)]
  have h8 := besL (F := F) (n := ((8 * b.length : Nat) : Int)) (b := b) (K := fun x8 => f115_1 F fun x9 => f116_1 F fun x10 => f69_1_l14 F b x8 x10 (fun x17 => f69_1_l19 F b x17 (fun x22 => K (ofInts x22)) F 0 []) F 0 x9) 8 F (b ++ [128] ++ List.replicate (zs b.length) 0) (by omega) (by omega) (by simp; omega)
  rw [show ((8 : Nat) : Int) - 1 = 7 from rfl] at h8
  rw [h8]
  rw [show b ++ [128] ++ List.replicate (zs b.length) 0 ++ bes ((8 * b.length : Nat) : Int) 8 = b ++ pad b.length by simp [pad]]
  simp only [f115_1, f116_1]
  have hB := blocksL (F := F) (b := b) (all := b ++ pad b.length) (K := fun x17 => f69_1_l19 F b x17 (fun x22 => K (ofInts x22)) F 0 []) (by omega) (by rw [hbl]; unfold blks; split <;> omega)
    (b.length / 64 + blks b.length) F 0 ini ini_eight (by omega) (by unfold blks; split <;> omega)
  rw [show ((0 : Nat) : Int) = 0 from rfl, List.drop_zero] at hB
  refine hB.trans ?_
  obtain ⟨a, b', c, d, e, f, g, h, hx⟩ := cmpN_eight (b.length / 64 + blks b.length) (b ++ pad b.length) ini_eight
  have := outR (F := F) (s := (cmpN (b.length / 64 + blks b.length) ini (b ++ pad b.length)).1) (b := b) (K := fun x22 => K (ofInts x22)) (by rw [hx]; rfl) 8 0 F [] (by omega) (by omega) (by simp)
  exact this

/-- What a hash has behind all these bytes. -/
def HS (all s : List Int) (n : Int) (w : List Int) : Prop := s = (cmpN (all.length / 64) ini all).1 ∧ w = (cmpN (all.length / 64) ini all).2 ∧ n = ((all.length : Nat) : Int)

theorem HS_eight {all s w : List Int} {n : Int} (h : HS all s n w) : eight s := by rw [h.1]; exact cmpN_eight _ _ ini_eight
theorem HS_len {all s w : List Int} {n : Int} (h : HS all s n w) : w.length = all.length % 64 := by rw [h.2.1, cmpN_len]; omega

theorem HS_nil : HS [] ini 0 [] := ⟨rfl, rfl, rfl⟩

theorem HS_app {all s w b : List Int} {n : Int} (h : HS all s n w) : cmpN ((w ++ b).length / 64) s (w ++ b) = cmpN ((all ++ b).length / 64) ini (all ++ b) := by
  have hl := HS_len h
  have : (all ++ b).length / 64 = all.length / 64 + (w ++ b).length / 64 := by simp only [List.length_append, hl]; omega
  rw [this, cmpN_add, cmpN_app (all.length / 64) ini all b (by omega), ← h.1, ← h.2.1]

/-- Some more bytes. -/
theorem writeP {β : Type} {F : Nat} {all s w b : List Int} {n : Int} {K : List Int → Int → List Int → Option β} (hF : 2000 ≤ F) (h : HS all s n w) (hb : (all ++ b).length ≤ 100000) :
    ∃ s' w', HS (all ++ b) s' (((all ++ b).length : Nat) : Int) w' ∧ f113_1 F s n w b K = K s' (((all ++ b).length : Nat) : Int) w' := by
  have hl := HS_len h
  have hab : (all ++ b).length = all.length + b.length := by simp
  refine ⟨_, _, ⟨rfl, rfl, rfl⟩, ?_⟩
  have e1 : IntKind.u64.wrap ((b.length : Nat) : Int) = ((b.length : Nat) : Int) := wu64 (by omega) (by omega)
  have e2 : IntKind.u64.wrap (n + ((b.length : Nat) : Int)) = (((all ++ b).length : Nat) : Int) := by rw [h.2.2, wu64 (by omega) (by omega)]; simp
  simp only [f113_1, e1, e2]
  rw [ct (by omega), writeL (by omega) ((w ++ b).length / 64) F s (w ++ b) (HS_eight h) rfl (by simp; omega) (by simp; omega), HS_app h]

/-- The digest of all that came. -/
theorem sumP {β : Type} {F : Nat} {all s w : List Int} {n : Int} {K : ByteArray → Option β} (hF : 2000 ≤ F) (h : HS all s n w) (hb : all.length ≤ 100000) : f114_1 F s n w K = K (dig all) := by
  have hl := HS_len h
  have he := HS_eight h
  have e2 : IntKind.u64.wrap (8 * n) = ((8 * all.length : Nat) : Int) := by rw [h.2.2, wu64 (by omega) (by omega)]; omega
  have e3 : min w.length 64 = w.length := by omega
  have e4 : w.take 64 = w := List.take_of_length_le (by omega)
  have hbuf : ((List.replicate 128 (0 : Int)).take 0 ++ (w.take 64 ++ (List.replicate 128 0).drop (0 + (min w.length 64)))).set (0 + (((min w.length 64 : Nat) : Int).toNat)) 128 = w ++ ([128] ++ List.replicate (127 - w.length) 0) := by
    rw [e3, e4, Int.toNat_natCast, List.take_zero, List.nil_append, Nat.zero_add, List.set_append_right _ _ (by omega), Nat.sub_self, List.drop_replicate, show 128 - w.length = (127 - w.length) + 1 by omega, List.replicate_succ, List.set_cons_zero]
    rfl
  have hlen0 : ((List.replicate 128 (0 : Int)).take 0 ++ (w.take 64 ++ (List.replicate 128 0).drop (0 + (min w.length 64)))).length = 128 := by
    rw [e3, e4]; simp; omega
  have hall : cmpN (all.length / 64 + blks all.length) ini (all ++ pad all.length) = cmpN (blks all.length) s (w ++ pad all.length) := by
    rw [cmpN_add, cmpN_app _ _ _ _ (by omega), ← h.1, ← h.2.1]
  have fin : ∀ s', eight s' → f114_1_l20 F s' s n w (fun x27 => K (ofInts x27)) F 0 [] = K (ofInts (outs s' 8 0 [])) := fun s' _ =>
    outP (F := F) (s := s') (s0 := s) (w := w) (y := n) (K := fun x27 => K (ofInts x27)) 8 0 F [] (by omega) (by omega) (by simp)
  simp only [f114_1, hbuf]
  rw [ct (by omega), ct (by rw [hlen0]; omega), e2]
  unfold dig
  rw [hall]
  by_cases hw : w.length < 56
  · rw [cf (by omega)]
    have hbk : blks all.length = 1 := by unfold blks; rw [if_pos (by omega)]
    have hzs : zs all.length = 55 - w.length := by unfold zs; rw [if_pos (by omega), hl]
    have hsplit : w ++ ([128] ++ List.replicate (127 - w.length) 0) = (w ++ ([128] ++ List.replicate (zs all.length) 0)) ++ (List.replicate 8 0 ++ List.replicate 64 0) := by
      rw [hzs, show 127 - w.length = (55 - w.length) + (8 + 64) by omega, ← List.replicate_append_replicate, ← List.replicate_append_replicate]
      simp
    rw [hsplit]
    have hb1 := bitsL (F := F) (L := 64) (cp := 128) (n := ((8 * all.length : Nat) : Int)) (s := s) (w := w) (y := n) (A := w ++ ([128] ++ List.replicate (zs all.length) 0)) (C := List.replicate 64 0)
      (K := fun x28 => f114_1_l15 F s n w x28 (fun x29 => f114_1_l20 F x29 s n w (fun x30 => K (ofInts x30)) F 0 []) F 0 64 128 s) (by simp [hzs]; omega) (by omega) 8 0 F (List.replicate 8 0) (by omega) (by omega) (by simp)
    rw [show ((0 : Nat) : Int) = 0 from rfl] at hb1
    refine hb1.trans ?_
    rw [setB_eq _ (by simp)]
    have hpre : (w ++ ([128] ++ List.replicate (zs all.length) 0)) ++ (bes ((8 * all.length : Nat) : Int) 8 ++ List.replicate 64 0) = (w ++ pad all.length) ++ List.replicate 64 0 := by simp [pad]
    rw [hpre]
    have hpl : (w ++ pad all.length).length = 64 := by rw [List.length_append, pad_len, hzs]; omega
    have hL := lastL (F := F) (s0 := s) (w := w) (y := n) (buf := (w ++ pad all.length) ++ List.replicate 64 0) (K := fun x29 => f114_1_l20 F x29 s n w (fun x30 => K (ofInts x30)) F 0 []) (by omega) 1 F 0 128 s he (by omega) (by omega) (by rw [List.length_append, hpl]; simp) (by omega)
    refine hL.trans ?_
    rw [List.drop_zero, List.take_append_of_le_length (by omega), List.take_of_length_le (by omega), fin _ (cmpN_eight _ _ he), hbk]
  · rw [ct (by omega)]
    have hbk : blks all.length = 2 := by unfold blks; rw [if_neg (by omega)]
    have hzs : zs all.length = 119 - w.length := by unfold zs; rw [if_neg (by omega), hl]
    have hsplit : w ++ ([128] ++ List.replicate (127 - w.length) 0) = (w ++ ([128] ++ List.replicate (zs all.length) 0)) ++ (List.replicate 8 0 ++ []) := by
      rw [hzs, show 127 - w.length = (119 - w.length) + 8 by omega, ← List.replicate_append_replicate]
      simp
    rw [hsplit]
    have hb1 := bitsL (F := F) (L := 128) (cp := 128) (n := ((8 * all.length : Nat) : Int)) (s := s) (w := w) (y := n) (A := w ++ ([128] ++ List.replicate (zs all.length) 0)) (C := [])
      (K := fun x28 => f114_1_l15 F s n w x28 (fun x29 => f114_1_l20 F x29 s n w (fun x30 => K (ofInts x30)) F 0 []) F 0 128 128 s) (by simp [hzs]; omega) (by omega) 8 0 F (List.replicate 8 0) (by omega) (by omega) (by simp)
    rw [show ((0 : Nat) : Int) = 0 from rfl] at hb1
    refine hb1.trans ?_
    rw [setB_eq _ (by simp)]
    have hpre : (w ++ ([128] ++ List.replicate (zs all.length) 0)) ++ (bes ((8 * all.length : Nat) : Int) 8 ++ []) = w ++ pad all.length := by simp [pad]
    rw [hpre]
    have hpl : (w ++ pad all.length).length = 128 := by rw [List.length_append, pad_len, hzs]; omega
    have hL := lastL (F := F) (s0 := s) (w := w) (y := n) (buf := w ++ pad all.length) (K := fun x29 => f114_1_l20 F x29 s n w (fun x30 => K (ofInts x30)) F 0 []) (by omega) 2 F 0 128 s he (by omega) (by omega) (by rw [hpl]; omega) (by omega)
    refine hL.trans ?_
    rw [List.drop_zero, List.take_of_length_le (by omega), fin _ (cmpN_eight _ _ he), hbk]

end Go.Proofs.Ytjlolgpbidfmeaa.X
end
