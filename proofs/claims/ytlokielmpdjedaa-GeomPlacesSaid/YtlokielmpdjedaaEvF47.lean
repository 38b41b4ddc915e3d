import Derived.Test.YtlokielmpdjedaaEvS17
import Derived.Test.YtlokielmpdjedaaProg
import Derived.KernelRfl
namespace Go.Proofs.Ytlokielmpdjedaa.X
open Go Go.Proofs.Ytlokielmpdjedaa.Ev Go.Proofs
set_option linter.unusedVariables false
/-! pentimentoref07.Right -/
def f47_1 {β : Type} (F : Nat) (a1 : Int) (a2 : Int) (a3 : Int) (a4 : Int) (K0 : Bool → Option β) : Option β := cond (decide (a1 ≥ 1)) (cond (decide (a1 ≤ 128)) (cond (decide (a2 ≥ 2)) (cond (decide (a2 ≤ 4)) (cond (decide (a3 ≥ 0)) (cond (decide (a3 ≤ 64)) (cond (decide (a4 ≥ 1)) (K0 (decide (a4 ≤ 320))) (K0 false)) (K0 false)) (K0 false)) (K0 false)) (K0 false)) (K0 false)) (K0 false)
def sh47_1 : Sh := ⟨[.agg [.int .i64, .int .i64, .int .i64, .int .i64]], []⟩
def S47_1 (F : Nat) (o : Summ) : Summ := mkS sh47_1 (fun d K => f47_1 F d.1.1.1 d.1.1.2.1 d.1.1.2.2.1 d.1.1.2.2.2.1 (fun (y0 : Bool) => K [.lf (.bool y0)] [])) o
noncomputable def code47 : Code := bodyOf Try.f47
theorem loops47 : loopsOf code47 = [] := by kernel_rfl
theorem enter47 : ∀ args w, (callFunc 47 args).run Try.prog w = .ok (.enter 47 args) w := enter_of (fn := Try.f47) (by kernel_rfl) (by kernel_rfl) (by kernel_rfl)
def T47_1 (F : Nat) : FuncId → Option Summ := tab []
def LT47_1 (F : Nat) : Nat → Option LoopS := ltab []
theorem E47_1g (F : Nat)    (d : sh47_1.den) (K : KF) : evBody Try.prog (tab []) 41 0 (ltab []) code47 Try.f47.results.toList (encT sh47_1.vs d.1) (encH sh47_1.h d.2) K = (fun (a1 : Int) (a2 : Int) (a3 : Int) (a4 : Int) (K0 : (Bool → Option Res)) => cond (decide (a1 ≥ 1)) (cond (decide (a1 ≤ 128)) (cond (decide (a2 ≥ 2)) (cond (decide (a2 ≤ 4)) (cond (decide (a3 ≥ 0)) (cond (decide (a3 ≤ 64)) (cond (decide (a4 ≥ 1)) (K0 (decide (a4 ≤ 320))) (K0 false)) (K0 false)) (K0 false)) (K0 false)) (K0 false)) (K0 false)) (K0 false)) d.1.1.1 d.1.1.2.1 d.1.1.2.2.1 d.1.1.2.2.2.1 (fun (y0 : Bool) => K [.lf (.bool y0)] []) := by kernel_rfl
theorem E47_1 (F : Nat) (d : sh47_1.den) (K : KF) : evBody Try.prog (T47_1 F) 41 0 (LT47_1 F) code47 Try.f47.results.toList (encT sh47_1.vs d.1) (encH sh47_1.h d.2) K = f47_1 F d.1.1.1 d.1.1.2.1 d.1.1.2.2.1 d.1.1.2.2.2.1 (fun (y0 : Bool) => K [.lf (.bool y0)] []) := Eq.mp (by kernel_rfl) (E47_1g F    d K)
theorem S47_1_ok (F : Nat) (o : Summ) (ho : SoundFn Try.prog 47 o) : SoundFn Try.prog 47 (S47_1 F o) :=
  soundFn_of (fn := Try.f47) (c := code47) (by kernel_rfl) tab_nil (by kernel_rfl) (by kernel_rfl) ho (by rw [loops47]; exact loopsOK_nil) (E47_1 F)
end Go.Proofs.Ytlokielmpdjedaa.X
