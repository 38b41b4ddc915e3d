import Derived.Test.YtlokielmpdjedaaEvS17
import Derived.Test.YtlokielmpdjedaaProg
import Derived.KernelRfl
namespace Go.Proofs.Ytlokielmpdjedaa.X
open Go Go.Proofs.Ytlokielmpdjedaa.Ev Go.Proofs
set_option linter.unusedVariables false
/-! pentimentoref11.Map).Close -/
def f32_1 {β : Type} (F : Nat) (a1 : List Int) (a2 : List Int) (a3 : Int) (K0 : List Int → Option β) : Option β := K0 [0, 0]
def sh32_1 : Sh := ⟨[.agg [.seq (.int .u64) 2, .seq (.int .u64) 2, .int .u64]], []⟩
def S32_1 (F : Nat) (o : Summ) : Summ := mkS sh32_1 (fun d K => f32_1 F d.1.1.1 d.1.1.2.1 d.1.1.2.2.1 (fun (y1 : List Int) => K [.agg [.seq (.int .u64) 2 d.1.1.1, .seq (.int .u64) 2 y1, .int .u64 0]] [])) o
noncomputable def code32 : Code := bodyOf Try.f32
theorem loops32 : loopsOf code32 = [] := by kernel_rfl
theorem enter32 : ∀ args w, (callFunc 32 args).run Try.prog w = .ok (.enter 32 args) w := enter_of (fn := Try.f32) (by kernel_rfl) (by kernel_rfl) (by kernel_rfl)
def T32_1 (F : Nat) : FuncId → Option Summ := tab []
def LT32_1 (F : Nat) : Nat → Option LoopS := ltab []
theorem E32_1g (F : Nat)    (d : sh32_1.den) (K : KF) : evBody Try.prog (tab []) 7 0 (ltab []) code32 Try.f32.results.toList (encT sh32_1.vs d.1) (encH sh32_1.h d.2) K = (fun (a1 : List Int) (a2 : List Int) (a3 : Int) (K0 : (List Int → Option Res)) => K0 [0, 0]) d.1.1.1 d.1.1.2.1 d.1.1.2.2.1 (fun (y1 : List Int) => K [.agg [.seq (.int .u64) 2 d.1.1.1, .seq (.int .u64) 2 y1, .int .u64 0]] []) := by kernel_rfl
theorem E32_1 (F : Nat) (d : sh32_1.den) (K : KF) : evBody Try.prog (T32_1 F) 7 0 (LT32_1 F) code32 Try.f32.results.toList (encT sh32_1.vs d.1) (encH sh32_1.h d.2) K = f32_1 F d.1.1.1 d.1.1.2.1 d.1.1.2.2.1 (fun (y1 : List Int) => K [.agg [.seq (.int .u64) 2 d.1.1.1, .seq (.int .u64) 2 y1, .int .u64 0]] []) := Eq.mp (by kernel_rfl) (E32_1g F    d K)
theorem S32_1_ok (F : Nat) (o : Summ) (ho : SoundFn Try.prog 32 o) : SoundFn Try.prog 32 (S32_1 F o) :=
  soundFn_of (fn := Try.f32) (c := code32) (by kernel_rfl) tab_nil (by kernel_rfl) (by kernel_rfl) ho (by rw [loops32]; exact loopsOK_nil) (E32_1 F)
end Go.Proofs.Ytlokielmpdjedaa.X
