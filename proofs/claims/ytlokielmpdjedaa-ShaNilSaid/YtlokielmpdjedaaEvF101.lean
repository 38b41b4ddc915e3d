import Derived.Test.YtlokielmpdjedaaEvS17
import Derived.Test.YtlokielmpdjedaaProg
import Derived.KernelRfl
namespace Go.Proofs.Ytlokielmpdjedaa.X
open Go Go.Proofs.Ytlokielmpdjedaa.Ev Go.Proofs
set_option linter.unusedVariables false
/-! pentimentoref03.turn -/
noncomputable def f101_1 {β : Type} (F : Nat) (a1 : Int) (a2 : Int) (K0 : Int → Option β) : Option β := cond (decide (a2 < 0)) none (cond (decide (IntKind.u64.wrap (32 - a2) < 0)) none (K0 (ior .u32 (ishr .u32 a1 a2) (ishl .u32 a1 (IntKind.u64.wrap (32 - a2))))))
def sh101_1 : Sh := ⟨[.lf (.int .u32), .lf (.int .u64)], []⟩
noncomputable def S101_1 (F : Nat) (o : Summ) : Summ := mkS sh101_1 (fun d K => f101_1 F d.1.1 d.1.2.1 (fun (y0 : Int) => K [.lf (.int .u32 y0)] [])) o
noncomputable def code101 : Code := bodyOf Try.f101
theorem scopes101 : scopesOf code101 = [] := by kernel_rfl
theorem loops101 : loopsOf code101 = [] := by kernel_rfl
theorem enter101 : ∀ args w, (callFunc 101 args).run Try.prog w = .ok (.enter 101 args) w := enter_of (fn := Try.f101) (by kernel_rfl) (by kernel_rfl) (by kernel_rfl)
noncomputable def T101_1 (F : Nat) : FuncId → Option Summ := tab []
noncomputable def LT101_1 (F : Nat) : Nat → Option LoopS := ltab []
theorem E101_1g (F : Nat)    (d : sh101_1.den) (K : KF) : evBody Try.prog (tab []) 13 0 (ltab []) code101 Try.f101.results.toList (encT sh101_1.vs d.1) (encH sh101_1.h d.2) K = (fun (a1 : Int) (a2 : Int) (K0 : (Int → Option Res)) => cond (decide (a2 < 0)) none (cond (decide (IntKind.u64.wrap (32 - a2) < 0)) none (K0 (ior .u32 (ishr .u32 a1 a2) (ishl .u32 a1 (IntKind.u64.wrap (32 - a2))))))) d.1.1 d.1.2.1 (fun (y0 : Int) => K [.lf (.int .u32 y0)] []) := by kernel_rfl
theorem E101_1 (F : Nat) (d : sh101_1.den) (K : KF) : evBody Try.prog (T101_1 F) 13 0 (LT101_1 F) code101 Try.f101.results.toList (encT sh101_1.vs d.1) (encH sh101_1.h d.2) K = f101_1 F d.1.1 d.1.2.1 (fun (y0 : Int) => K [.lf (.int .u32 y0)] []) := Eq.mp (by kernel_rfl) (E101_1g F    d K)
theorem S101_1_ok (F : Nat) (o : Summ) (ho : SoundFn Try.prog 101 o) : SoundFn Try.prog 101 (S101_1 F o) :=
  soundFn_of (fn := Try.f101) (c := code101) (by kernel_rfl) tab_nil (by kernel_rfl) (by kernel_rfl) ho (by rw [loops101]; exact loopsOK_nil) (by rw [scopes101]; exact scopesOK_nil) (E101_1 F)
end Go.Proofs.Ytlokielmpdjedaa.X
