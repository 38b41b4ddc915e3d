import Derived.Test.YtlokielmpdjedaaEvS17
import Derived.Test.YtlokielmpdjedaaProg
import Derived.KernelRfl
namespace Go.Proofs.Ytlokielmpdjedaa.X
open Go Go.Proofs.Ytlokielmpdjedaa.Ev Go.Proofs
set_option linter.unusedVariables false
/-! pentimentoref07.area -/
def f89_1 {β : Type} (F : Nat) (a1 : Int) (a2 : Int) (a3 : Int) (a4 : Int) (a5 : Int) (K0 : Int → Option β) : Option β := cond (a5 == 0) (K0 (IntKind.i64.wrap (2 * a3))) (cond (a5 == 1) (K0 (IntKind.i64.wrap (2 * a4))) (K0 (-1)))
def sh89_1 : Sh := ⟨[.agg [.int .i64, .int .i64, .int .i64, .int .i64], .lf (.int .i64)], []⟩
def S89_1 (F : Nat) (o : Summ) : Summ := mkS sh89_1 (fun d K => f89_1 F d.1.1.1 d.1.1.2.1 d.1.1.2.2.1 d.1.1.2.2.2.1 d.1.2.1 (fun (y0 : Int) => K [.lf (.int .i64 y0)] [])) o
noncomputable def code89 : Code := bodyOf Try.f89
theorem loops89 : loopsOf code89 = [] := by kernel_rfl
theorem enter89 : ∀ args w, (callFunc 89 args).run Try.prog w = .ok (.enter 89 args) w := enter_of (fn := Try.f89) (by kernel_rfl) (by kernel_rfl) (by kernel_rfl)
def T89_1 (F : Nat) : FuncId → Option Summ := tab []
def LT89_1 (F : Nat) : Nat → Option LoopS := ltab []
theorem E89_1g (F : Nat)    (d : sh89_1.den) (K : KF) : evBody Try.prog (tab []) 15 0 (ltab []) code89 Try.f89.results.toList (encT sh89_1.vs d.1) (encH sh89_1.h d.2) K = (fun (a1 : Int) (a2 : Int) (a3 : Int) (a4 : Int) (a5 : Int) (K0 : (Int → Option Res)) => cond (a5 == 0) (K0 (IntKind.i64.wrap (2 * a3))) (cond (a5 == 1) (K0 (IntKind.i64.wrap (2 * a4))) (K0 (-1)))) d.1.1.1 d.1.1.2.1 d.1.1.2.2.1 d.1.1.2.2.2.1 d.1.2.1 (fun (y0 : Int) => K [.lf (.int .i64 y0)] []) := by kernel_rfl
theorem E89_1 (F : Nat) (d : sh89_1.den) (K : KF) : evBody Try.prog (T89_1 F) 15 0 (LT89_1 F) code89 Try.f89.results.toList (encT sh89_1.vs d.1) (encH sh89_1.h d.2) K = f89_1 F d.1.1.1 d.1.1.2.1 d.1.1.2.2.1 d.1.1.2.2.2.1 d.1.2.1 (fun (y0 : Int) => K [.lf (.int .i64 y0)] []) := Eq.mp (by kernel_rfl) (E89_1g F    d K)
theorem S89_1_ok (F : Nat) (o : Summ) (ho : SoundFn Try.prog 89 o) : SoundFn Try.prog 89 (S89_1 F o) :=
  soundFn_of (fn := Try.f89) (c := code89) (by kernel_rfl) tab_nil (by kernel_rfl) (by kernel_rfl) ho (by rw [loops89]; exact loopsOK_nil) (E89_1 F)
end Go.Proofs.Ytlokielmpdjedaa.X
