import Derived.Test.YtlokielmpdjedaaEvS17
import Derived.Test.YtlokielmpdjedaaProg
import Derived.KernelRfl
namespace Go.Proofs.Ytlokielmpdjedaa.X
open Go Go.Proofs.Ytlokielmpdjedaa.Ev Go.Proofs
set_option linter.unusedVariables false
/-! bits.RotateLeft32 -/
noncomputable def f105_1 {β : Type} (F : Nat) (a1 : Int) (a2 : Int) (K0 : Int → Option β) : Option β := cond (decide (iand .u64 (IntKind.u64.wrap a2) 31 < 0)) none (cond (decide (IntKind.u64.wrap (32 - (iand .u64 (IntKind.u64.wrap a2) 31)) < 0)) none (K0 (ior .u32 (ishl .u32 a1 (iand .u64 (IntKind.u64.wrap a2) 31)) (ishr .u32 a1 (IntKind.u64.wrap (32 - (iand .u64 (IntKind.u64.wrap a2) 31)))))))
def sh105_1 : Sh := ⟨[.lf (.int .u32), .lf (.int .i64)], []⟩
noncomputable def S105_1 (F : Nat) (o : Summ) : Summ := mkS sh105_1 (fun d K => f105_1 F d.1.1 d.1.2.1 (fun (y0 : Int) => K [.lf (.int .u32 y0)] [])) o
noncomputable def code105 : Code := bodyOf Try.f105
theorem scopes105 : scopesOf code105 = [] := by kernel_rfl
theorem loops105 : loopsOf code105 = [] := by kernel_rfl
theorem enter105 : ∀ args w, (callFunc 105 args).run Try.prog w = .ok (.enter 105 args) w := enter_of (fn := Try.f105) (by kernel_rfl) (by kernel_rfl) (by kernel_rfl)
noncomputable def T105_1 (F : Nat) : FuncId → Option Summ := tab []
noncomputable def LT105_1 (F : Nat) : Nat → Option LoopS := ltab []
theorem E105_1g (F : Nat)    (d : sh105_1.den) (K : KF) : evBody Try.prog (tab []) 17 0 (ltab []) code105 Try.f105.results.toList (encT sh105_1.vs d.1) (encH sh105_1.h d.2) K = (fun (a1 : Int) (a2 : Int) (K0 : (Int → Option Res)) => cond (decide (iand .u64 (IntKind.u64.wrap a2) 31 < 0)) none (cond (decide (IntKind.u64.wrap (32 - (iand .u64 (IntKind.u64.wrap a2) 31)) < 0)) none (K0 (ior .u32 (ishl .u32 a1 (iand .u64 (IntKind.u64.wrap a2) 31)) (ishr .u32 a1 (IntKind.u64.wrap (32 - (iand .u64 (IntKind.u64.wrap a2) 31)))))))) d.1.1 d.1.2.1 (fun (y0 : Int) => K [.lf (.int .u32 y0)] []) := by kernel_rfl
theorem E105_1 (F : Nat) (d : sh105_1.den) (K : KF) : evBody Try.prog (T105_1 F) 17 0 (LT105_1 F) code105 Try.f105.results.toList (encT sh105_1.vs d.1) (encH sh105_1.h d.2) K = f105_1 F d.1.1 d.1.2.1 (fun (y0 : Int) => K [.lf (.int .u32 y0)] []) := Eq.mp (by kernel_rfl) (E105_1g F    d K)
theorem S105_1_ok (F : Nat) (o : Summ) (ho : SoundFn Try.prog 105 o) : SoundFn Try.prog 105 (S105_1 F o) :=
  soundFn_of (fn := Try.f105) (c := code105) (by kernel_rfl) tab_nil (by kernel_rfl) (by kernel_rfl) ho (by rw [loops105]; exact loopsOK_nil) (by rw [scopes105]; exact scopesOK_nil) (E105_1 F)
end Go.Proofs.Ytlokielmpdjedaa.X
