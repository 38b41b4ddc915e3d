import Derived.Test.YtlokielmpdjedaaEvS17
import Derived.Test.YtlokielmpdjedaaProg
import Derived.KernelRfl
namespace Go.Proofs.Ytlokielmpdjedaa.X
open Go Go.Proofs.Ytlokielmpdjedaa.Ev Go.Proofs
set_option linter.unusedVariables false
/-! pentimentoref03.first -/
noncomputable def f90_1 {β : Type} (F : Nat)  (K0 : List Int → Option β) : Option β := K0 [1779033703, 3144134277, 1013904242, 2773480762, 1359893119, 2600822924, 528734635, 1541459225]
def sh90_1 : Sh := ⟨[], []⟩
noncomputable def S90_1 (F : Nat) (o : Summ) : Summ := mkS sh90_1 (fun d K => f90_1 F (fun (y0 : List Int) => K [.agg [.seq (.int .u32) 8 y0]] [])) o
noncomputable def code90 : Code := bodyOf Try.f90
theorem scopes90 : scopesOf code90 = [] := by kernel_rfl
theorem loops90 : loopsOf code90 = [] := by kernel_rfl
theorem enter90 : ∀ args w, (callFunc 90 args).run Try.prog w = .ok (.enter 90 args) w := enter_of (fn := Try.f90) (by kernel_rfl) (by kernel_rfl) (by kernel_rfl)
noncomputable def T90_1 (F : Nat) : FuncId → Option Summ := tab []
noncomputable def LT90_1 (F : Nat) : Nat → Option LoopS := ltab []
theorem E90_1g (F : Nat)    (d : sh90_1.den) (K : KF) : evBody Try.prog (tab []) 2 0 (ltab []) code90 Try.f90.results.toList (encT sh90_1.vs d.1) (encH sh90_1.h d.2) K = (fun (K0 : (List Int → Option Res)) => K0 [1779033703, 3144134277, 1013904242, 2773480762, 1359893119, 2600822924, 528734635, 1541459225]) (fun (y0 : List Int) => K [.agg [.seq (.int .u32) 8 y0]] []) := by kernel_rfl
theorem E90_1 (F : Nat) (d : sh90_1.den) (K : KF) : evBody Try.prog (T90_1 F) 2 0 (LT90_1 F) code90 Try.f90.results.toList (encT sh90_1.vs d.1) (encH sh90_1.h d.2) K = f90_1 F (fun (y0 : List Int) => K [.agg [.seq (.int .u32) 8 y0]] []) := Eq.mp (by kernel_rfl) (E90_1g F    d K)
theorem S90_1_ok (F : Nat) (o : Summ) (ho : SoundFn Try.prog 90 o) : SoundFn Try.prog 90 (S90_1 F o) :=
  soundFn_of (fn := Try.f90) (c := code90) (by kernel_rfl) tab_nil (by kernel_rfl) (by kernel_rfl) ho (by rw [loops90]; exact loopsOK_nil) (by rw [scopes90]; exact scopesOK_nil) (E90_1 F)
end Go.Proofs.Ytlokielmpdjedaa.X
