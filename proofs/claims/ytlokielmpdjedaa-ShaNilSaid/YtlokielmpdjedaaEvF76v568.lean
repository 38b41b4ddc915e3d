import Derived.Test.YtlokielmpdjedaaEvS17
import Derived.Test.YtlokielmpdjedaaProg
import Derived.KernelRfl
import Derived.Test.YtlokielmpdjedaaEvF76
namespace Go.Proofs.Ytlokielmpdjedaa.X
open Go Go.Proofs.Ytlokielmpdjedaa.Ev Go.Proofs
set_option linter.unusedVariables false
/-! sha.Hash).Len -/
noncomputable def f76_568 {β : Type} (F : Nat)  (K0 : Option β) : Option β := K0
def sh76_568 : Sh := ⟨[.lf (.nilp)], []⟩
noncomputable def S76_568 (F : Nat) (o : Summ) : Summ := mkS sh76_568 (fun d K => f76_568 F (K [.lf (.int .u64 0)] [])) o
noncomputable def T76_568 (F : Nat) : FuncId → Option Summ := tab []
noncomputable def LT76_568 (F : Nat) : Nat → Option LoopS := ltab []
theorem E76_568g (F : Nat)    (d : sh76_568.den) (K : KF) : evBody Try.prog (tab []) 9 0 (ltab []) code76 Try.f76.results.toList (encT sh76_568.vs d.1) (encH sh76_568.h d.2) K = (fun (K0 : (Option Res)) => K0) (K [.lf (.int .u64 0)] []) := by kernel_rfl
theorem E76_568 (F : Nat) (d : sh76_568.den) (K : KF) : evBody Try.prog (T76_568 F) 9 0 (LT76_568 F) code76 Try.f76.results.toList (encT sh76_568.vs d.1) (encH sh76_568.h d.2) K = f76_568 F (K [.lf (.int .u64 0)] []) := Eq.mp (by kernel_rfl) (E76_568g F    d K)
theorem S76_568_ok (F : Nat) (o : Summ) (ho : SoundFn Try.prog 76 o) : SoundFn Try.prog 76 (S76_568 F o) :=
  soundFn_of (fn := Try.f76) (c := code76) (by kernel_rfl) tab_nil (by kernel_rfl) (by kernel_rfl) ho (by rw [loops76]; exact loopsOK_nil) (by rw [scopes76]; exact scopesOK_nil) (E76_568 F)
end Go.Proofs.Ytlokielmpdjedaa.X
