import Derived.Test.YtlokielmpdjedaaEvS17
import Derived.Test.YtlokielmpdjedaaProg
import Derived.KernelRfl
namespace Go.Proofs.Ytlokielmpdjedaa.X
open Go Go.Proofs.Ytlokielmpdjedaa.Ev Go.Proofs
set_option linter.unusedVariables false
/-! pentimentoref11.Map).Freeze -/
def f28_1 {β : Type} (F : Nat) (a1 : List Int) (a2 : List Int) (a3 : Int) (a4 : Int) (K0 : List Int → Option β) : Option β := K0 [0, 0]
def sh28_1 : Sh := ⟨[.agg [.seq (.int .u64) 2, .seq (.int .u64) 2, .int .u64], .lf (.int .u64)], []⟩
def S28_1 (F : Nat) (o : Summ) : Summ := mkS sh28_1 (fun d K => f28_1 F d.1.1.1 d.1.1.2.1 d.1.1.2.2.1 d.1.2.1 (fun (y0 : List Int) => K [.agg [.seq (.int .u64) 2 y0, .seq (.int .u64) 2 d.1.1.1, .int .u64 d.1.2.1]] [])) o
noncomputable def code28 : Code := bodyOf Try.f28
theorem loops28 : loopsOf code28 = [] := by kernel_rfl
theorem enter28 : ∀ args w, (callFunc 28 args).run Try.prog w = .ok (.enter 28 args) w := enter_of (fn := Try.f28) (by kernel_rfl) (by kernel_rfl) (by kernel_rfl)
def T28_1 (F : Nat) : FuncId → Option Summ := tab []
def LT28_1 (F : Nat) : Nat → Option LoopS := ltab []
theorem E28_1g (F : Nat)    (d : sh28_1.den) (K : KF) : evBody Try.prog (tab []) 10 0 (ltab []) code28 Try.f28.results.toList (encT sh28_1.vs d.1) (encH sh28_1.h d.2) K = (fun (a1 : List Int) (a2 : List Int) (a3 : Int) (a4 : Int) (K0 : (List Int → Option Res)) => K0 [0, 0]) d.1.1.1 d.1.1.2.1 d.1.1.2.2.1 d.1.2.1 (fun (y0 : List Int) => K [.agg [.seq (.int .u64) 2 y0, .seq (.int .u64) 2 d.1.1.1, .int .u64 d.1.2.1]] []) := by kernel_rfl
theorem E28_1 (F : Nat) (d : sh28_1.den) (K : KF) : evBody Try.prog (T28_1 F) 10 0 (LT28_1 F) code28 Try.f28.results.toList (encT sh28_1.vs d.1) (encH sh28_1.h d.2) K = f28_1 F d.1.1.1 d.1.1.2.1 d.1.1.2.2.1 d.1.2.1 (fun (y0 : List Int) => K [.agg [.seq (.int .u64) 2 y0, .seq (.int .u64) 2 d.1.1.1, .int .u64 d.1.2.1]] []) := Eq.mp (by kernel_rfl) (E28_1g F    d K)
theorem S28_1_ok (F : Nat) (o : Summ) (ho : SoundFn Try.prog 28 o) : SoundFn Try.prog 28 (S28_1 F o) :=
  soundFn_of (fn := Try.f28) (c := code28) (by kernel_rfl) tab_nil (by kernel_rfl) (by kernel_rfl) ho (by rw [loops28]; exact loopsOK_nil) (E28_1 F)
end Go.Proofs.Ytlokielmpdjedaa.X
