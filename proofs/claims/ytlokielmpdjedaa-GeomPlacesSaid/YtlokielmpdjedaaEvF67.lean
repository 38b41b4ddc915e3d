import Derived.Test.YtlokielmpdjedaaEvS17
import Derived.Test.YtlokielmpdjedaaProg
import Derived.KernelRfl
import Derived.Test.YtlokielmpdjedaaEvF51
namespace Go.Proofs.Ytlokielmpdjedaa.X
open Go Go.Proofs.Ytlokielmpdjedaa.Ev Go.Proofs
set_option linter.unusedVariables false
/-! pentimentoref07.Node -/
def f67_1 {β : Type} (F : Nat) (a1 : Int) (a2 : Int) (a3 : Int) (a4 : Int) (a5 : Int) (K0 : Int → Option β) : Option β := cond (decide (a5 < 0)) (K0 (-1)) (f51_1 F a1 a2 a3 a4 (fun x1 => cond (decide (a5 ≥ x1)) (K0 (-1)) (K0 (IntKind.i64.wrap ((IntKind.i64.wrap (6 + a1)) + a5)))) )
def sh67_1 : Sh := ⟨[.agg [.int .i64, .int .i64, .int .i64, .int .i64], .lf (.int .i64)], []⟩
def S67_1 (F : Nat) (o : Summ) : Summ := mkS sh67_1 (fun d K => f67_1 F d.1.1.1 d.1.1.2.1 d.1.1.2.2.1 d.1.1.2.2.2.1 d.1.2.1 (fun (y0 : Int) => K [.lf (.int .i64 y0)] [])) o
noncomputable def code67 : Code := bodyOf Try.f67
theorem loops67 : loopsOf code67 = [] := by kernel_rfl
theorem enter67 : ∀ args w, (callFunc 67 args).run Try.prog w = .ok (.enter 67 args) w := enter_of (fn := Try.f67) (by kernel_rfl) (by kernel_rfl) (by kernel_rfl)
def T67_1 (F : Nat) : FuncId → Option Summ := tab [(51, (S51_1 F noS))]
def LT67_1 (F : Nat) : Nat → Option LoopS := ltab []
theorem E67_1g (F : Nat) (c51_1 : Int → Int → Int → Int → (Int → Option Res) → Option Res)   (d : sh67_1.den) (K : KF) : evBody Try.prog (tab [(51, (mkS sh51_1 (fun d K => c51_1 d.1.1.1 d.1.1.2.1 d.1.1.2.2.1 d.1.1.2.2.2.1 (fun (y0 : Int) => K [.lf (.int .i64 y0)] [])) noS))]) 18 0 (ltab []) code67 Try.f67.results.toList (encT sh67_1.vs d.1) (encH sh67_1.h d.2) K = (fun (a1 : Int) (a2 : Int) (a3 : Int) (a4 : Int) (a5 : Int) (K0 : (Int → Option Res)) => cond (decide (a5 < 0)) (K0 (-1)) (c51_1 a1 a2 a3 a4 (fun x1 => cond (decide (a5 ≥ x1)) (K0 (-1)) (K0 (IntKind.i64.wrap ((IntKind.i64.wrap (6 + a1)) + a5)))) )) d.1.1.1 d.1.1.2.1 d.1.1.2.2.1 d.1.1.2.2.2.1 d.1.2.1 (fun (y0 : Int) => K [.lf (.int .i64 y0)] []) := by kernel_rfl
theorem E67_1 (F : Nat) (d : sh67_1.den) (K : KF) : evBody Try.prog (T67_1 F) 18 0 (LT67_1 F) code67 Try.f67.results.toList (encT sh67_1.vs d.1) (encH sh67_1.h d.2) K = f67_1 F d.1.1.1 d.1.1.2.1 d.1.1.2.2.1 d.1.1.2.2.2.1 d.1.2.1 (fun (y0 : Int) => K [.lf (.int .i64 y0)] []) := Eq.mp (by kernel_rfl) (E67_1g F (f51_1 F)   d K)
theorem S67_1_ok (F : Nat) (o : Summ) (ho : SoundFn Try.prog 67 o) : SoundFn Try.prog 67 (S67_1 F o) :=
  soundFn_of (fn := Try.f67) (c := code67) (by kernel_rfl) (tab_cons (S51_1_ok F _ (noS_sound enter51)) tab_nil) (by kernel_rfl) (by kernel_rfl) ho (by rw [loops67]; exact loopsOK_nil) (E67_1 F)
end Go.Proofs.Ytlokielmpdjedaa.X
