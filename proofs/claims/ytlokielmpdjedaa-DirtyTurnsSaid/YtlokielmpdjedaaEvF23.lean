import Derived.Test.YtlokielmpdjedaaEvS17
import Derived.Test.YtlokielmpdjedaaProg
import Derived.KernelRfl
namespace Go.Proofs.Ytlokielmpdjedaa.X
open Go Go.Proofs.Ytlokielmpdjedaa.Ev Go.Proofs
set_option linter.unusedVariables false
/-! pentimentolaw11.given -/
def f23_1 {β : Type} (F : Nat) (a1 : List Int) (a2 : List Int) (a3 : Int) (K0 : Option β) : Option β := K0
def sh23_1 : Sh := ⟨[.agg [.seq (.int .u64) 2, .seq (.int .u64) 2, .int .u64]], []⟩
def S23_1 (F : Nat) (o : Summ) : Summ := mkS sh23_1 (fun d K => f23_1 F d.1.1.1 d.1.1.2.1 d.1.1.2.2.1 (K [.agg [.seq (.int .u64) 2 d.1.1.1, .seq (.int .u64) 2 d.1.1.2.1, .int .u64 d.1.1.2.2.1]] [])) o
noncomputable def code23 : Code := bodyOf Try.f23
theorem loops23 : loopsOf code23 = [] := by kernel_rfl
theorem enter23 : ∀ args w, (callFunc 23 args).run Try.prog w = .ok (.enter 23 args) w := enter_of (fn := Try.f23) (by kernel_rfl) (by kernel_rfl) (by kernel_rfl)
def T23_1 (F : Nat) : FuncId → Option Summ := tab []
def LT23_1 (F : Nat) : Nat → Option LoopS := ltab []
theorem E23_1g (F : Nat)    (d : sh23_1.den) (K : KF) : evBody Try.prog (tab []) 10 0 (ltab []) code23 Try.f23.results.toList (encT sh23_1.vs d.1) (encH sh23_1.h d.2) K = (fun (a1 : List Int) (a2 : List Int) (a3 : Int) (K0 : (Option Res)) => K0) d.1.1.1 d.1.1.2.1 d.1.1.2.2.1 (K [.agg [.seq (.int .u64) 2 d.1.1.1, .seq (.int .u64) 2 d.1.1.2.1, .int .u64 d.1.1.2.2.1]] []) := by kernel_rfl
theorem E23_1 (F : Nat) (d : sh23_1.den) (K : KF) : evBody Try.prog (T23_1 F) 10 0 (LT23_1 F) code23 Try.f23.results.toList (encT sh23_1.vs d.1) (encH sh23_1.h d.2) K = f23_1 F d.1.1.1 d.1.1.2.1 d.1.1.2.2.1 (K [.agg [.seq (.int .u64) 2 d.1.1.1, .seq (.int .u64) 2 d.1.1.2.1, .int .u64 d.1.1.2.2.1]] []) := Eq.mp (by kernel_rfl) (E23_1g F    d K)
theorem S23_1_ok (F : Nat) (o : Summ) (ho : SoundFn Try.prog 23 o) : SoundFn Try.prog 23 (S23_1 F o) :=
  soundFn_of (fn := Try.f23) (c := code23) (by kernel_rfl) tab_nil (by kernel_rfl) (by kernel_rfl) ho (by rw [loops23]; exact loopsOK_nil) (E23_1 F)
end Go.Proofs.Ytlokielmpdjedaa.X
