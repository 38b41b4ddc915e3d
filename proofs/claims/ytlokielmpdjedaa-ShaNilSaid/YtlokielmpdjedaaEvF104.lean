import Derived.Test.YtlokielmpdjedaaEvS17
import Derived.Test.YtlokielmpdjedaaProg
import Derived.KernelRfl
import Derived.Test.YtlokielmpdjedaaEvF105
namespace Go.Proofs.Ytlokielmpdjedaa.X
open Go Go.Proofs.Ytlokielmpdjedaa.Ev Go.Proofs
set_option linter.unusedVariables false
/-! sha.turn -/
noncomputable def f104_1 {β : Type} (F : Nat) (a1 : Int) (a2 : Int) (K0 : Int → Option β) : Option β := f105_1 F a1 (IntKind.i64.wrap (0 - a2)) (fun x1 => K0 x1) 
def sh104_1 : Sh := ⟨[.lf (.int .u32), .lf (.int .i64)], []⟩
noncomputable def S104_1 (F : Nat) (o : Summ) : Summ := mkS sh104_1 (fun d K => f104_1 F d.1.1 d.1.2.1 (fun (y0 : Int) => K [.lf (.int .u32 y0)] [])) o
noncomputable def code104 : Code := bodyOf Try.f104
theorem scopes104 : scopesOf code104 = [] := by kernel_rfl
theorem loops104 : loopsOf code104 = [] := by kernel_rfl
theorem enter104 : ∀ args w, (callFunc 104 args).run Try.prog w = .ok (.enter 104 args) w := enter_of (fn := Try.f104) (by kernel_rfl) (by kernel_rfl) (by kernel_rfl)
noncomputable def T104_1 (F : Nat) : FuncId → Option Summ := tab [(105, (S105_1 F noS))]
noncomputable def LT104_1 (F : Nat) : Nat → Option LoopS := ltab []
theorem E104_1g (F : Nat) (c105_1 : Int → Int → (Int → Option Res) → Option Res)   (d : sh104_1.den) (K : KF) : evBody Try.prog (tab [(105, (mkS sh105_1 (fun d K => c105_1 d.1.1 d.1.2.1 (fun (y0 : Int) => K [.lf (.int .u32 y0)] [])) noS))]) 9 0 (ltab []) code104 Try.f104.results.toList (encT sh104_1.vs d.1) (encH sh104_1.h d.2) K = (fun (a1 : Int) (a2 : Int) (K0 : (Int → Option Res)) => c105_1 a1 (IntKind.i64.wrap (0 - a2)) (fun x1 => K0 x1) ) d.1.1 d.1.2.1 (fun (y0 : Int) => K [.lf (.int .u32 y0)] []) := by kernel_rfl
theorem E104_1 (F : Nat) (d : sh104_1.den) (K : KF) : evBody Try.prog (T104_1 F) 9 0 (LT104_1 F) code104 Try.f104.results.toList (encT sh104_1.vs d.1) (encH sh104_1.h d.2) K = f104_1 F d.1.1 d.1.2.1 (fun (y0 : Int) => K [.lf (.int .u32 y0)] []) := Eq.mp (by kernel_rfl) (E104_1g F (f105_1 F)   d K)
theorem S104_1_ok (F : Nat) (o : Summ) (ho : SoundFn Try.prog 104 o) : SoundFn Try.prog 104 (S104_1 F o) :=
  soundFn_of (fn := Try.f104) (c := code104) (by kernel_rfl) (tab_cons (S105_1_ok F _ (noS_sound enter105)) tab_nil) (by kernel_rfl) (by kernel_rfl) ho (by rw [loops104]; exact loopsOK_nil) (by rw [scopes104]; exact scopesOK_nil) (E104_1 F)
end Go.Proofs.Ytlokielmpdjedaa.X
