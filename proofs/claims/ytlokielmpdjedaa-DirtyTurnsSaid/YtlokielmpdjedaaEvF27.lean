import Derived.Test.YtlokielmpdjedaaEvS17
import Derived.Test.YtlokielmpdjedaaProg
import Derived.KernelRfl
namespace Go.Proofs.Ytlokielmpdjedaa.X
open Go Go.Proofs.Ytlokielmpdjedaa.Ev Go.Proofs
set_option linter.unusedVariables false
/-! dirty.Map).Freeze -/
def f27_1 {β : Type} (F : Nat) (a1 : List Int) (a2 : List Int) (a3 : Int) (a4 : Int) (K0 : List Int → Option β) : Option β := K0 [0, 0]
def sh27_1 : Sh := ⟨[.agg [.seq (.int .u64) 2, .seq (.int .u64) 2, .int .u64], .lf (.int .u64)], []⟩
def S27_1 (F : Nat) (o : Summ) : Summ := mkS sh27_1 (fun d K => f27_1 F d.1.1.1 d.1.1.2.1 d.1.1.2.2.1 d.1.2.1 (fun (y0 : List Int) => K [.agg [.seq (.int .u64) 2 y0, .seq (.int .u64) 2 d.1.1.1, .int .u64 d.1.2.1]] [])) o
noncomputable def code27 : Code := bodyOf Try.f27
theorem loops27 : loopsOf code27 = [] := by kernel_rfl
theorem enter27 : ∀ args w, (callFunc 27 args).run Try.prog w = .ok (.enter 27 args) w := enter_of (fn := Try.f27) (by kernel_rfl) (by kernel_rfl) (by kernel_rfl)
def T27_1 (F : Nat) : FuncId → Option Summ := tab []
def LT27_1 (F : Nat) : Nat → Option LoopS := ltab []
theorem E27_1g (F : Nat)    (d : sh27_1.den) (K : KF) : evBody Try.prog (tab []) 9 0 (ltab []) code27 Try.f27.results.toList (encT sh27_1.vs d.1) (encH sh27_1.h d.2) K = (fun (a1 : List Int) (a2 : List Int) (a3 : Int) (a4 : Int) (K0 : (List Int → Option Res)) => K0 [0, 0]) d.1.1.1 d.1.1.2.1 d.1.1.2.2.1 d.1.2.1 (fun (y0 : List Int) => K [.agg [.seq (.int .u64) 2 y0, .seq (.int .u64) 2 d.1.1.1, .int .u64 d.1.2.1]] []) := by kernel_rfl
theorem E27_1 (F : Nat) (d : sh27_1.den) (K : KF) : evBody Try.prog (T27_1 F) 9 0 (LT27_1 F) code27 Try.f27.results.toList (encT sh27_1.vs d.1) (encH sh27_1.h d.2) K = f27_1 F d.1.1.1 d.1.1.2.1 d.1.1.2.2.1 d.1.2.1 (fun (y0 : List Int) => K [.agg [.seq (.int .u64) 2 y0, .seq (.int .u64) 2 d.1.1.1, .int .u64 d.1.2.1]] []) := Eq.mp (by kernel_rfl) (E27_1g F    d K)
theorem S27_1_ok (F : Nat) (o : Summ) (ho : SoundFn Try.prog 27 o) : SoundFn Try.prog 27 (S27_1 F o) :=
  soundFn_of (fn := Try.f27) (c := code27) (by kernel_rfl) tab_nil (by kernel_rfl) (by kernel_rfl) ho (by rw [loops27]; exact loopsOK_nil) (E27_1 F)
end Go.Proofs.Ytlokielmpdjedaa.X
