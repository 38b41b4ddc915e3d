import Derived.Test.YtlokielmpdjedaaEvS17
import Derived.Test.YtlokielmpdjedaaProg
import Derived.KernelRfl
namespace Go.Proofs.Ytlokielmpdjedaa.X
open Go Go.Proofs.Ytlokielmpdjedaa.Ev Go.Proofs
set_option linter.unusedVariables false
/-! sha.Hash).Len -/
noncomputable def f76_1 {β : Type} (F : Nat) (a1 : List Int) (a2 : Int) (a3 : List Int) (K0 : Option β) : Option β := K0
def sh76_1 : Sh := ⟨[.lf (.ptr 0 0)], [some ⟨none, [.seq (.int .u32) 8, .full 1, .int .u64]⟩, some ⟨none, [.seq (.int .u8) 0]⟩]⟩
noncomputable def S76_1 (F : Nat) (o : Summ) : Summ := mkS sh76_1 (fun d K => f76_1 F d.2.1.2.1 d.2.1.2.2.2.1 d.2.2.1.2.1 (K [.lf (.int .u64 d.2.1.2.2.2.1)] [some ⟨d.2.1.1, [.seq (.int .u32) 8 d.2.1.2.1, .full 1, .int .u64 d.2.1.2.2.2.1]⟩, some ⟨d.2.2.1.1, [.seq (.int .u8) 0 d.2.2.1.2.1]⟩])) o
noncomputable def code76 : Code := bodyOf Try.f76
theorem scopes76 : scopesOf code76 = [] := by kernel_rfl
theorem loops76 : loopsOf code76 = [] := by kernel_rfl
theorem enter76 : ∀ args w, (callFunc 76 args).run Try.prog w = .ok (.enter 76 args) w := enter_of (fn := Try.f76) (by kernel_rfl) (by kernel_rfl) (by kernel_rfl)
noncomputable def T76_1 (F : Nat) : FuncId → Option Summ := tab []
noncomputable def LT76_1 (F : Nat) : Nat → Option LoopS := ltab []
theorem E76_1g (F : Nat)    (d : sh76_1.den) (K : KF) : evBody Try.prog (tab []) 9 2 (ltab []) code76 Try.f76.results.toList (encT sh76_1.vs d.1) (encH sh76_1.h d.2) K = (fun (a1 : List Int) (a2 : Int) (a3 : List Int) (K0 : (Option Res)) => K0) d.2.1.2.1 d.2.1.2.2.2.1 d.2.2.1.2.1 (K [.lf (.int .u64 d.2.1.2.2.2.1)] [some ⟨d.2.1.1, [.seq (.int .u32) 8 d.2.1.2.1, .full 1, .int .u64 d.2.1.2.2.2.1]⟩, some ⟨d.2.2.1.1, [.seq (.int .u8) 0 d.2.2.1.2.1]⟩]) := by kernel_rfl
theorem E76_1 (F : Nat) (d : sh76_1.den) (K : KF) : evBody Try.prog (T76_1 F) 9 2 (LT76_1 F) code76 Try.f76.results.toList (encT sh76_1.vs d.1) (encH sh76_1.h d.2) K = f76_1 F d.2.1.2.1 d.2.1.2.2.2.1 d.2.2.1.2.1 (K [.lf (.int .u64 d.2.1.2.2.2.1)] [some ⟨d.2.1.1, [.seq (.int .u32) 8 d.2.1.2.1, .full 1, .int .u64 d.2.1.2.2.2.1]⟩, some ⟨d.2.2.1.1, [.seq (.int .u8) 0 d.2.2.1.2.1]⟩]) := Eq.mp (by kernel_rfl) (E76_1g F    d K)
theorem S76_1_ok (F : Nat) (o : Summ) (ho : SoundFn Try.prog 76 o) : SoundFn Try.prog 76 (S76_1 F o) :=
  soundFn_of (fn := Try.f76) (c := code76) (by kernel_rfl) tab_nil (by kernel_rfl) (by kernel_rfl) ho (by rw [loops76]; exact loopsOK_nil) (by rw [scopes76]; exact scopesOK_nil) (E76_1 F)
end Go.Proofs.Ytlokielmpdjedaa.X
