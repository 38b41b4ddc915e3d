import Derived.Test.YtlokielmpdjedaaEvS17
import Derived.Test.YtlokielmpdjedaaProg
import Derived.KernelRfl
namespace Go.Proofs.Ytlokielmpdjedaa.X
open Go Go.Proofs.Ytlokielmpdjedaa.Ev Go.Proofs
set_option linter.unusedVariables false
/-! geom.within -/
def f87_1 {β : Type} (F : Nat) (a1 : Int) (a2 : Int) (a3 : Int) (K0 : Bool → Option β) : Option β := cond (decide (a1 ≥ a2)) (K0 (decide (a1 ≤ a3))) (K0 false)
def sh87_1 : Sh := ⟨[.lf (.int .i64), .lf (.int .i64), .lf (.int .i64)], []⟩
def S87_1 (F : Nat) (o : Summ) : Summ := mkS sh87_1 (fun d K => f87_1 F d.1.1 d.1.2.1 d.1.2.2.1 (fun (y0 : Bool) => K [.lf (.bool y0)] [])) o
noncomputable def code87 : Code := bodyOf Try.f87
theorem loops87 : loopsOf code87 = [] := by kernel_rfl
theorem enter87 : ∀ args w, (callFunc 87 args).run Try.prog w = .ok (.enter 87 args) w := enter_of (fn := Try.f87) (by kernel_rfl) (by kernel_rfl) (by kernel_rfl)
def T87_1 (F : Nat) : FuncId → Option Summ := tab []
def LT87_1 (F : Nat) : Nat → Option LoopS := ltab []
theorem E87_1g (F : Nat)    (d : sh87_1.den) (K : KF) : evBody Try.prog (tab []) 15 0 (ltab []) code87 Try.f87.results.toList (encT sh87_1.vs d.1) (encH sh87_1.h d.2) K = (fun (a1 : Int) (a2 : Int) (a3 : Int) (K0 : (Bool → Option Res)) => cond (decide (a1 ≥ a2)) (K0 (decide (a1 ≤ a3))) (K0 false)) d.1.1 d.1.2.1 d.1.2.2.1 (fun (y0 : Bool) => K [.lf (.bool y0)] []) := by kernel_rfl
theorem E87_1 (F : Nat) (d : sh87_1.den) (K : KF) : evBody Try.prog (T87_1 F) 15 0 (LT87_1 F) code87 Try.f87.results.toList (encT sh87_1.vs d.1) (encH sh87_1.h d.2) K = f87_1 F d.1.1 d.1.2.1 d.1.2.2.1 (fun (y0 : Bool) => K [.lf (.bool y0)] []) := Eq.mp (by kernel_rfl) (E87_1g F    d K)
theorem S87_1_ok (F : Nat) (o : Summ) (ho : SoundFn Try.prog 87 o) : SoundFn Try.prog 87 (S87_1 F o) :=
  soundFn_of (fn := Try.f87) (c := code87) (by kernel_rfl) tab_nil (by kernel_rfl) (by kernel_rfl) ho (by rw [loops87]; exact loopsOK_nil) (E87_1 F)
end Go.Proofs.Ytlokielmpdjedaa.X
