import Derived.Test.YtlokielmpdjedaaEvS17
import Derived.Test.YtlokielmpdjedaaProg
import Derived.KernelRfl
import Derived.Test.YtlokielmpdjedaaEvF93
namespace Go.Proofs.Ytlokielmpdjedaa.X
open Go Go.Proofs.Ytlokielmpdjedaa.Ev Go.Proofs
set_option linter.unusedVariables false
/-! sha.New -/
noncomputable def f73_1 {β : Type} (F : Nat)  (K0 : List Int → List Int → Option β) : Option β := f93_1 F  (fun x1 => K0 x1 []) 
def sh73_1 : Sh := ⟨[], []⟩
noncomputable def S73_1 (F : Nat) (o : Summ) : Summ := mkS sh73_1 (fun d K => f73_1 F (fun (y0 : List Int) (y2 : List Int) => K [.lf (.ptr 0 0)] [some ⟨false, [.seq (.int .u32) 8 y0, .full 1, .int .u64 0]⟩, some ⟨false, [.seq (.int .u8) 0 y2]⟩])) o
noncomputable def code73 : Code := bodyOf Try.f73
theorem scopes73 : scopesOf code73 = [] := by kernel_rfl
theorem loops73 : loopsOf code73 = [] := by kernel_rfl
theorem enter73 : ∀ args w, (callFunc 73 args).run Try.prog w = .ok (.enter 73 args) w := enter_of (fn := Try.f73) (by kernel_rfl) (by kernel_rfl) (by kernel_rfl)
noncomputable def T73_1 (F : Nat) : FuncId → Option Summ := tab [(93, (S93_1 F noS))]
noncomputable def LT73_1 (F : Nat) : Nat → Option LoopS := ltab []
theorem E73_1g (F : Nat) (c93_1 : (List Int → Option Res) → Option Res)   (d : sh73_1.den) (K : KF) : evBody Try.prog (tab [(93, (mkS sh93_1 (fun d K => c93_1 (fun (y0 : List Int) => K [.agg [.seq (.int .u32) 8 y0]] [])) noS))]) 4 0 (ltab []) code73 Try.f73.results.toList (encT sh73_1.vs d.1) (encH sh73_1.h d.2) K = (fun (K0 : (List Int → List Int → Option Res)) => c93_1  (fun x1 => K0 x1 []) ) (fun (y0 : List Int) (y2 : List Int) => K [.lf (.ptr 0 0)] [some ⟨false, [.seq (.int .u32) 8 y0, .full 1, .int .u64 0]⟩, some ⟨false, [.seq (.int .u8) 0 y2]⟩]) := by kernel_rfl
theorem E73_1 (F : Nat) (d : sh73_1.den) (K : KF) : evBody Try.prog (T73_1 F) 4 0 (LT73_1 F) code73 Try.f73.results.toList (encT sh73_1.vs d.1) (encH sh73_1.h d.2) K = f73_1 F (fun (y0 : List Int) (y2 : List Int) => K [.lf (.ptr 0 0)] [some ⟨false, [.seq (.int .u32) 8 y0, .full 1, .int .u64 0]⟩, some ⟨false, [.seq (.int .u8) 0 y2]⟩]) := Eq.mp (by kernel_rfl) (E73_1g F (f93_1 F)   d K)
theorem S73_1_ok (F : Nat) (o : Summ) (ho : SoundFn Try.prog 73 o) : SoundFn Try.prog 73 (S73_1 F o) :=
  soundFn_of (fn := Try.f73) (c := code73) (by kernel_rfl) (tab_cons (S93_1_ok F _ (noS_sound enter93)) tab_nil) (by kernel_rfl) (by kernel_rfl) ho (by rw [loops73]; exact loopsOK_nil) (by rw [scopes73]; exact scopesOK_nil) (E73_1 F)
end Go.Proofs.Ytlokielmpdjedaa.X
