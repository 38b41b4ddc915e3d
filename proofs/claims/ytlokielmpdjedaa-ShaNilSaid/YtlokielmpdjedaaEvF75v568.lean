import Derived.Test.YtlokielmpdjedaaEvS17
import Derived.Test.YtlokielmpdjedaaProg
import Derived.KernelRfl
import Derived.Test.YtlokielmpdjedaaEvF75
namespace Go.Proofs.Ytlokielmpdjedaa.X
open Go Go.Proofs.Ytlokielmpdjedaa.Ev Go.Proofs
set_option linter.unusedVariables false
/-! sha.Hash).Sum -/
noncomputable def f75_568 {β : Type} (F : Nat)  (K0 : Option β) : Option β := K0
def sh75_568 : Sh := ⟨[.lf (.nilp)], []⟩
noncomputable def S75_568 (F : Nat) (o : Summ) : Summ := mkS sh75_568 (fun d K => f75_568 F (K [.lf (.str ByteArray.empty)] [])) o
noncomputable def T75_568 (F : Nat) : FuncId → Option Summ := tab []
noncomputable def LT75_568 (F : Nat) : Nat → Option LoopS := ltab []
theorem E75_568g (F : Nat)    (d : sh75_568.den) (K : KF) : evBody Try.prog (tab []) 81 0 (ltab []) code75 Try.f75.results.toList (encT sh75_568.vs d.1) (encH sh75_568.h d.2) K = (fun (K0 : (Option Res)) => K0) (K [.lf (.str ByteArray.empty)] []) := by kernel_rfl
theorem E75_568 (F : Nat) (d : sh75_568.den) (K : KF) : evBody Try.prog (T75_568 F) 81 0 (LT75_568 F) code75 Try.f75.results.toList (encT sh75_568.vs d.1) (encH sh75_568.h d.2) K = f75_568 F (K [.lf (.str ByteArray.empty)] []) := Eq.mp (by kernel_rfl) (E75_568g F    d K)
theorem S75_568_ok (F : Nat) (o : Summ) (ho : SoundFn Try.prog 75 o) : SoundFn Try.prog 75 (S75_568 F o) :=
  soundFn_of (fn := Try.f75) (c := code75) (by kernel_rfl) tab_nil (by kernel_rfl) (by kernel_rfl) ho (by rw [loops75]; exact (loopsOK_skip (by kernel_rfl) (loopsOK_skip (by kernel_rfl) (loopsOK_skip (by kernel_rfl) loopsOK_nil)))) (by rw [scopes75]; exact scopesOK_nil) (E75_568 F)
end Go.Proofs.Ytlokielmpdjedaa.X
