import Derived.Test.YtlokielmpdjedaaEvS17
import Derived.Test.YtlokielmpdjedaaProg
import Derived.KernelRfl
namespace Go.Proofs.Ytlokielmpdjedaa.X
open Go Go.Proofs.Ytlokielmpdjedaa.Ev Go.Proofs
set_option linter.unusedVariables false
/-! sha.begin -/
noncomputable def f93_1 {β : Type} (F : Nat)  (K0 : List Int → Option β) : Option β := K0 [1779033703, 3144134277, 1013904242, 2773480762, 1359893119, 2600822924, 528734635, 1541459225]
def sh93_1 : Sh := ⟨[], []⟩
noncomputable def S93_1 (F : Nat) (o : Summ) : Summ := mkS sh93_1 (fun d K => f93_1 F (fun (y0 : List Int) => K [.agg [.seq (.int .u32) 8 y0]] [])) o
noncomputable def code93 : Code := bodyOf Try.f93
theorem scopes93 : scopesOf code93 = [] := by kernel_rfl
theorem loops93 : loopsOf code93 = [] := by kernel_rfl
theorem enter93 : ∀ args w, (callFunc 93 args).run Try.prog w = .ok (.enter 93 args) w := enter_of (fn := Try.f93) (by kernel_rfl) (by kernel_rfl) (by kernel_rfl)
noncomputable def T93_1 (F : Nat) : FuncId → Option Summ := tab []
noncomputable def LT93_1 (F : Nat) : Nat → Option LoopS := ltab []
theorem E93_1g (F : Nat)    (d : sh93_1.den) (K : KF) : evBody Try.prog (tab []) 2 0 (ltab []) code93 Try.f93.results.toList (encT sh93_1.vs d.1) (encH sh93_1.h d.2) K = (fun (K0 : (List Int → Option Res)) => K0 [1779033703, 3144134277, 1013904242, 2773480762, 1359893119, 2600822924, 528734635, 1541459225]) (fun (y0 : List Int) => K [.agg [.seq (.int .u32) 8 y0]] []) := by kernel_rfl
theorem E93_1 (F : Nat) (d : sh93_1.den) (K : KF) : evBody Try.prog (T93_1 F) 2 0 (LT93_1 F) code93 Try.f93.results.toList (encT sh93_1.vs d.1) (encH sh93_1.h d.2) K = f93_1 F (fun (y0 : List Int) => K [.agg [.seq (.int .u32) 8 y0]] []) := Eq.mp (by kernel_rfl) (E93_1g F    d K)
theorem S93_1_ok (F : Nat) (o : Summ) (ho : SoundFn Try.prog 93 o) : SoundFn Try.prog 93 (S93_1 F o) :=
  soundFn_of (fn := Try.f93) (c := code93) (by kernel_rfl) tab_nil (by kernel_rfl) (by kernel_rfl) ho (by rw [loops93]; exact loopsOK_nil) (by rw [scopes93]; exact scopesOK_nil) (E93_1 F)
end Go.Proofs.Ytlokielmpdjedaa.X
