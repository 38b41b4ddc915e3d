import Derived.Test.YtlokielmpdjedaaEvS17
import Derived.Test.YtlokielmpdjedaaProg
import Derived.KernelRfl
namespace Go.Proofs.Ytlokielmpdjedaa.X
open Go Go.Proofs.Ytlokielmpdjedaa.Ev Go.Proofs
set_option linter.unusedVariables false
/-! dirty.Map).Close -/
def f31_1 {β : Type} (F : Nat) (a1 : List Int) (a2 : List Int) (a3 : Int) (K0 : List Int → Option β) : Option β := K0 [0, 0]
def sh31_1 : Sh := ⟨[.agg [.seq (.int .u64) 2, .seq (.int .u64) 2, .int .u64]], []⟩
def S31_1 (F : Nat) (o : Summ) : Summ := mkS sh31_1 (fun d K => f31_1 F d.1.1.1 d.1.1.2.1 d.1.1.2.2.1 (fun (y1 : List Int) => K [.agg [.seq (.int .u64) 2 d.1.1.1, .seq (.int .u64) 2 y1, .int .u64 0]] [])) o
noncomputable def code31 : Code := bodyOf Try.f31
theorem loops31 : loopsOf code31 = [] := by kernel_rfl
theorem enter31 : ∀ args w, (callFunc 31 args).run Try.prog w = .ok (.enter 31 args) w := enter_of (fn := Try.f31) (by kernel_rfl) (by kernel_rfl) (by kernel_rfl)
def T31_1 (F : Nat) : FuncId → Option Summ := tab []
def LT31_1 (F : Nat) : Nat → Option LoopS := ltab []
theorem E31_1g (F : Nat)    (d : sh31_1.den) (K : KF) : evBody Try.prog (tab []) 6 0 (ltab []) code31 Try.f31.results.toList (encT sh31_1.vs d.1) (encH sh31_1.h d.2) K = (fun (a1 : List Int) (a2 : List Int) (a3 : Int) (K0 : (List Int → Option Res)) => K0 [0, 0]) d.1.1.1 d.1.1.2.1 d.1.1.2.2.1 (fun (y1 : List Int) => K [.agg [.seq (.int .u64) 2 d.1.1.1, .seq (.int .u64) 2 y1, .int .u64 0]] []) := by kernel_rfl
theorem E31_1 (F : Nat) (d : sh31_1.den) (K : KF) : evBody Try.prog (T31_1 F) 6 0 (LT31_1 F) code31 Try.f31.results.toList (encT sh31_1.vs d.1) (encH sh31_1.h d.2) K = f31_1 F d.1.1.1 d.1.1.2.1 d.1.1.2.2.1 (fun (y1 : List Int) => K [.agg [.seq (.int .u64) 2 d.1.1.1, .seq (.int .u64) 2 y1, .int .u64 0]] []) := Eq.mp (by kernel_rfl) (E31_1g F    d K)
theorem S31_1_ok (F : Nat) (o : Summ) (ho : SoundFn Try.prog 31 o) : SoundFn Try.prog 31 (S31_1 F o) :=
  soundFn_of (fn := Try.f31) (c := code31) (by kernel_rfl) tab_nil (by kernel_rfl) (by kernel_rfl) ho (by rw [loops31]; exact loopsOK_nil) (E31_1 F)
end Go.Proofs.Ytlokielmpdjedaa.X
