import Derived.Test.YtlokielmpdjedaaEvS17
import Derived.Test.YtlokielmpdjedaaProg
import Derived.KernelRfl
import Derived.Test.YtlokielmpdjedaaEvF74
namespace Go.Proofs.Ytlokielmpdjedaa.X
open Go Go.Proofs.Ytlokielmpdjedaa.Ev Go.Proofs
set_option linter.unusedVariables false
/-! sha.Hash).Write -/
noncomputable def f74_6559 {β : Type} (F : Nat) (a1 : List Int) (K0 : Option β) : Option β := K0
def sh74_6559 : Sh := ⟨[.lf (.nilp), .lf (.full 0)], [some ⟨none, [.seq (.int .u8) 0]⟩]⟩
noncomputable def S74_6559 (F : Nat) (o : Summ) : Summ := mkS sh74_6559 (fun d K => f74_6559 F d.2.1.2.1 (K [] [some ⟨d.2.1.1, [.seq (.int .u8) 0 d.2.1.2.1]⟩])) o
noncomputable def T74_6559 (F : Nat) : FuncId → Option Summ := tab []
noncomputable def LT74_6559 (F : Nat) : Nat → Option LoopS := ltab []
theorem E74_6559g (F : Nat)    (d : sh74_6559.den) (K : KF) : evBody Try.prog (tab []) 54 1 (ltab []) code74 Try.f74.results.toList (encT sh74_6559.vs d.1) (encH sh74_6559.h d.2) K = (fun (a1 : List Int) (K0 : (Option Res)) => K0) d.2.1.2.1 (K [] [some ⟨d.2.1.1, [.seq (.int .u8) 0 d.2.1.2.1]⟩]) := by kernel_rfl
theorem E74_6559 (F : Nat) (d : sh74_6559.den) (K : KF) : evBody Try.prog (T74_6559 F) 54 1 (LT74_6559 F) code74 Try.f74.results.toList (encT sh74_6559.vs d.1) (encH sh74_6559.h d.2) K = f74_6559 F d.2.1.2.1 (K [] [some ⟨d.2.1.1, [.seq (.int .u8) 0 d.2.1.2.1]⟩]) := Eq.mp (by kernel_rfl) (E74_6559g F    d K)
theorem S74_6559_ok (F : Nat) (o : Summ) (ho : SoundFn Try.prog 74 o) : SoundFn Try.prog 74 (S74_6559 F o) :=
  soundFn_of (fn := Try.f74) (c := code74) (by kernel_rfl) tab_nil (by kernel_rfl) (by kernel_rfl) ho (by rw [loops74]; exact (loopsOK_skip (by kernel_rfl) loopsOK_nil)) (by rw [scopes74]; exact scopesOK_nil) (E74_6559 F)
end Go.Proofs.Ytlokielmpdjedaa.X
