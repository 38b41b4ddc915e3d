import Derived.Test.YtlokielmpdjedaaEvS17
import Derived.Test.YtlokielmpdjedaaProg
import Derived.KernelRfl
import Derived.Test.YtlokielmpdjedaaEvF48
import Derived.Test.YtlokielmpdjedaaEvF54
import Derived.Test.YtlokielmpdjedaaEvF88
namespace Go.Proofs.Ytlokielmpdjedaa.X
open Go Go.Proofs.Ytlokielmpdjedaa.Ev Go.Proofs
set_option linter.unusedVariables false
/-! geom.Parent -/
def f56_1 {β : Type} (F : Nat) (a1 : Int) (a2 : Int) (a3 : Int) (a4 : Int) (a5 : Int) (K0 : Int → Option β) : Option β := f88_1 F a1 a2 a3 a4 a5 (fun x1 x2 x3 => cond (!x3) (K0 (-1)) (f54_1 F a1 a2 a3 a4 (fun x4 => cond (a5 == x4) (K0 (-1)) (cond (decide (a2 = 0)) none (f48_1 F a1 a2 a3 a4 (fun x5 => cond (decide ((0 : Int) ≤ x1 ∧ x1 < ((x5.length : Nat) : Int))) (cond (decide (0 + x1.toNat < x5.length)) (K0 (IntKind.i64.wrap ((IntKind.i64.wrap (x2 + (x5.getD (0 + x1.toNat) 0))) + (IntKind.i64.wrap ((IntKind.i64.wrap (a5 - x2)).tdiv a2))))) none) none) ))) )) 
def sh56_1 : Sh := ⟨[.agg [.int .i64, .int .i64, .int .i64, .int .i64], .lf (.int .i64)], []⟩
def S56_1 (F : Nat) (o : Summ) : Summ := mkS sh56_1 (fun d K => f56_1 F d.1.1.1 d.1.1.2.1 d.1.1.2.2.1 d.1.1.2.2.2.1 d.1.2.1 (fun (y0 : Int) => K [.lf (.int .i64 y0)] [])) o
noncomputable def code56 : Code := bodyOf Try.f56
theorem loops56 : loopsOf code56 = [] := by kernel_rfl
theorem enter56 : ∀ args w, (callFunc 56 args).run Try.prog w = .ok (.enter 56 args) w := enter_of (fn := Try.f56) (by kernel_rfl) (by kernel_rfl) (by kernel_rfl)
def T56_1 (F : Nat) : FuncId → Option Summ := tab [(48, (S48_1 F noS)), (54, (S54_1 F noS)), (88, (S88_1 F noS))]
def LT56_1 (F : Nat) : Nat → Option LoopS := ltab []
theorem E56_1g (F : Nat) (c48_1 : Int → Int → Int → Int → (List Int → Option Res) → Option Res) (c54_1 : Int → Int → Int → Int → (Int → Option Res) → Option Res) (c88_1 : Int → Int → Int → Int → Int → (Int → Int → Bool → Option Res) → Option Res)   (d : sh56_1.den) (K : KF) : evBody Try.prog (tab [(48, (mkS sh48_1 (fun d K => c48_1 d.1.1.1 d.1.1.2.1 d.1.1.2.2.1 d.1.1.2.2.2.1 (fun (y0 : List Int) => K [.lf (.full 0)] [some ⟨false, [.seq (.int .i64) 0 y0]⟩])) noS)), (54, (mkS sh54_1 (fun d K => c54_1 d.1.1.1 d.1.1.2.1 d.1.1.2.2.1 d.1.1.2.2.2.1 (fun (y0 : Int) => K [.lf (.int .i64 y0)] [])) noS)), (88, (mkS sh88_1 (fun d K => c88_1 d.1.1.1 d.1.1.2.1 d.1.1.2.2.1 d.1.1.2.2.2.1 d.1.2.1 (fun (y0 : Int) (y1 : Int) (y2 : Bool) => K [.lf (.int .i64 y0), .lf (.int .i64 y1), .lf (.bool y2)] [])) noS))]) 37 0 (ltab []) code56 Try.f56.results.toList (encT sh56_1.vs d.1) (encH sh56_1.h d.2) K = (fun (a1 : Int) (a2 : Int) (a3 : Int) (a4 : Int) (a5 : Int) (K0 : (Int → Option Res)) => c88_1 a1 a2 a3 a4 a5 (fun x1 x2 x3 => cond (!x3) (K0 (-1)) (c54_1 a1 a2 a3 a4 (fun x4 => cond (a5 == x4) (K0 (-1)) (cond (decide (a2 = 0)) none (c48_1 a1 a2 a3 a4 (fun x5 => cond (decide ((0 : Int) ≤ x1 ∧ x1 < ((x5.length : Nat) : Int))) (cond (decide (0 + x1.toNat < x5.length)) (K0 (IntKind.i64.wrap ((IntKind.i64.wrap (x2 + (x5.getD (0 + x1.toNat) 0))) + (IntKind.i64.wrap ((IntKind.i64.wrap (a5 - x2)).tdiv a2))))) none) none) ))) )) ) d.1.1.1 d.1.1.2.1 d.1.1.2.2.1 d.1.1.2.2.2.1 d.1.2.1 (fun (y0 : Int) => K [.lf (.int .i64 y0)] []) := by kernel_rfl
theorem E56_1 (F : Nat) (d : sh56_1.den) (K : KF) : evBody Try.prog (T56_1 F) 37 0 (LT56_1 F) code56 Try.f56.results.toList (encT sh56_1.vs d.1) (encH sh56_1.h d.2) K = f56_1 F d.1.1.1 d.1.1.2.1 d.1.1.2.2.1 d.1.1.2.2.2.1 d.1.2.1 (fun (y0 : Int) => K [.lf (.int .i64 y0)] []) := Eq.mp (by kernel_rfl) (E56_1g F (f48_1 F) (f54_1 F) (f88_1 F)   d K)
theorem S56_1_ok (F : Nat) (o : Summ) (ho : SoundFn Try.prog 56 o) : SoundFn Try.prog 56 (S56_1 F o) :=
  soundFn_of (fn := Try.f56) (c := code56) (by kernel_rfl) (tab_cons (S48_1_ok F _ (noS_sound enter48)) (tab_cons (S54_1_ok F _ (noS_sound enter54)) (tab_cons (S88_1_ok F _ (noS_sound enter88)) tab_nil))) (by kernel_rfl) (by kernel_rfl) ho (by rw [loops56]; exact loopsOK_nil) (E56_1 F)
end Go.Proofs.Ytlokielmpdjedaa.X
