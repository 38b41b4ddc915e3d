import Derived.Test.YtlokielmpdjedaaEvS17
import Derived.Test.YtlokielmpdjedaaProg
import Derived.KernelRfl
namespace Go.Proofs.Ytlokielmpdjedaa.X
open Go Go.Proofs.Ytlokielmpdjedaa.Ev Go.Proofs
set_option linter.unusedVariables false
/-! pentimentolaw11.taken -/
def f26_1 {β : Type} (F : Nat) (a1 : List Int) (a2 : List Int) (a3 : Int) (K0 : Option β) : Option β := K0
def sh26_1 : Sh := ⟨[.agg [.seq (.int .u64) 2, .seq (.int .u64) 2, .int .u64]], []⟩
def S26_1 (F : Nat) (o : Summ) : Summ := mkS sh26_1 (fun d K => f26_1 F d.1.1.1 d.1.1.2.1 d.1.1.2.2.1 (K [.agg [.seq (.int .u64) 2 d.1.1.1, .seq (.int .u64) 2 d.1.1.2.1, .int .u64 d.1.1.2.2.1]] [])) o
noncomputable def code26 : Code := bodyOf Try.f26
theorem loops26 : loopsOf code26 = [] := by kernel_rfl
theorem enter26 : ∀ args w, (callFunc 26 args).run Try.prog w = .ok (.enter 26 args) w := enter_of (fn := Try.f26) (by kernel_rfl) (by kernel_rfl) (by kernel_rfl)
def T26_1 (F : Nat) : FuncId → Option Summ := tab []
def LT26_1 (F : Nat) : Nat → Option LoopS := ltab []
theorem E26_1g (F : Nat)    (d : sh26_1.den) (K : KF) : evBody Try.prog (tab []) 10 0 (ltab []) code26 Try.f26.results.toList (encT sh26_1.vs d.1) (encH sh26_1.h d.2) K = (fun (a1 : List Int) (a2 : List Int) (a3 : Int) (K0 : (Option Res)) => K0) d.1.1.1 d.1.1.2.1 d.1.1.2.2.1 (K [.agg [.seq (.int .u64) 2 d.1.1.1, .seq (.int .u64) 2 d.1.1.2.1, .int .u64 d.1.1.2.2.1]] []) := by kernel_rfl
theorem E26_1 (F : Nat) (d : sh26_1.den) (K : KF) : evBody Try.prog (T26_1 F) 10 0 (LT26_1 F) code26 Try.f26.results.toList (encT sh26_1.vs d.1) (encH sh26_1.h d.2) K = f26_1 F d.1.1.1 d.1.1.2.1 d.1.1.2.2.1 (K [.agg [.seq (.int .u64) 2 d.1.1.1, .seq (.int .u64) 2 d.1.1.2.1, .int .u64 d.1.1.2.2.1]] []) := Eq.mp (by kernel_rfl) (E26_1g F    d K)
theorem S26_1_ok (F : Nat) (o : Summ) (ho : SoundFn Try.prog 26 o) : SoundFn Try.prog 26 (S26_1 F o) :=
  soundFn_of (fn := Try.f26) (c := code26) (by kernel_rfl) tab_nil (by kernel_rfl) (by kernel_rfl) ho (by rw [loops26]; exact loopsOK_nil) (E26_1 F)
end Go.Proofs.Ytlokielmpdjedaa.X
