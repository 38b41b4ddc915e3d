import Derived.Test.YtlokielmpdjedaaEvS17
import Derived.Test.YtlokielmpdjedaaProg
import Derived.KernelRfl
namespace Go.Proofs.Ytlokielmpdjedaa.X
open Go Go.Proofs.Ytlokielmpdjedaa.Ev Go.Proofs
set_option linter.unusedVariables false
/-! bits.right -/
def f97_1 {β : Type} (F : Nat) (a1 : Int) (K0 : Bool → Option β) : Option β := cond (decide (a1 ≥ 0)) (K0 (decide (a1 < 128))) (K0 false)
def sh97_1 : Sh := ⟨[.lf (.int .i64)], []⟩
def S97_1 (F : Nat) (o : Summ) : Summ := mkS sh97_1 (fun d K => f97_1 F d.1.1 (fun (y0 : Bool) => K [.lf (.bool y0)] [])) o
noncomputable def code97 : Code := bodyOf Try.f97
theorem loops97 : loopsOf code97 = [] := by kernel_rfl
theorem enter97 : ∀ args w, (callFunc 97 args).run Try.prog w = .ok (.enter 97 args) w := enter_of (fn := Try.f97) (by kernel_rfl) (by kernel_rfl) (by kernel_rfl)
def T97_1 (F : Nat) : FuncId → Option Summ := tab []
def LT97_1 (F : Nat) : Nat → Option LoopS := ltab []
theorem E97_1g (F : Nat)    (d : sh97_1.den) (K : KF) : evBody Try.prog (tab []) 9 0 (ltab []) code97 Try.f97.results.toList (encT sh97_1.vs d.1) (encH sh97_1.h d.2) K = (fun (a1 : Int) (K0 : (Bool → Option Res)) => cond (decide (a1 ≥ 0)) (K0 (decide (a1 < 128))) (K0 false)) d.1.1 (fun (y0 : Bool) => K [.lf (.bool y0)] []) := by kernel_rfl
theorem E97_1 (F : Nat) (d : sh97_1.den) (K : KF) : evBody Try.prog (T97_1 F) 9 0 (LT97_1 F) code97 Try.f97.results.toList (encT sh97_1.vs d.1) (encH sh97_1.h d.2) K = f97_1 F d.1.1 (fun (y0 : Bool) => K [.lf (.bool y0)] []) := Eq.mp (by kernel_rfl) (E97_1g F    d K)
theorem S97_1_ok (F : Nat) (o : Summ) (ho : SoundFn Try.prog 97 o) : SoundFn Try.prog 97 (S97_1 F o) :=
  soundFn_of (fn := Try.f97) (c := code97) (by kernel_rfl) tab_nil (by kernel_rfl) (by kernel_rfl) ho (by rw [loops97]; exact loopsOK_nil) (E97_1 F)
end Go.Proofs.Ytlokielmpdjedaa.X
