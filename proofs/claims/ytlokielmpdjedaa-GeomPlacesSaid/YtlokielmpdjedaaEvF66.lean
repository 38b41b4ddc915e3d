import Derived.Test.YtlokielmpdjedaaEvS17
import Derived.Test.YtlokielmpdjedaaProg
import Derived.KernelRfl
import Derived.Test.YtlokielmpdjedaaEvF46
import Derived.Test.YtlokielmpdjedaaEvF54
import Derived.Test.YtlokielmpdjedaaEvF87
namespace Go.Proofs.Ytlokielmpdjedaa.X
open Go Go.Proofs.Ytlokielmpdjedaa.Ev Go.Proofs
set_option linter.unusedVariables false
/-! geom.Node -/
def f66_1 {β : Type} (F : Nat) (a1 : Int) (a2 : Int) (a3 : Int) (a4 : Int) (a5 : Int) (K0 : Int → Option β) : Option β := f46_1 F a1 a2 a3 a4 (fun x1 => cond (!x1) (K0 (-1)) (f54_1 F a1 a2 a3 a4 (fun x2 => f87_1 F a5 0 x2 (fun x3 => cond (!x3) (K0 (-1)) (K0 (IntKind.i64.wrap ((IntKind.i64.wrap (6 + a1)) + a5)))) ) )) 
def sh66_1 : Sh := ⟨[.agg [.int .i64, .int .i64, .int .i64, .int .i64], .lf (.int .i64)], []⟩
def S66_1 (F : Nat) (o : Summ) : Summ := mkS sh66_1 (fun d K => f66_1 F d.1.1.1 d.1.1.2.1 d.1.1.2.2.1 d.1.1.2.2.2.1 d.1.2.1 (fun (y0 : Int) => K [.lf (.int .i64 y0)] [])) o
noncomputable def code66 : Code := bodyOf Try.f66
theorem loops66 : loopsOf code66 = [] := by kernel_rfl
theorem enter66 : ∀ args w, (callFunc 66 args).run Try.prog w = .ok (.enter 66 args) w := enter_of (fn := Try.f66) (by kernel_rfl) (by kernel_rfl) (by kernel_rfl)
def T66_1 (F : Nat) : FuncId → Option Summ := tab [(46, (S46_1 F noS)), (54, (S54_1 F noS)), (87, (S87_1 F noS))]
def LT66_1 (F : Nat) : Nat → Option LoopS := ltab []
theorem E66_1g (F : Nat) (c46_1 : Int → Int → Int → Int → (Bool → Option Res) → Option Res) (c54_1 : Int → Int → Int → Int → (Int → Option Res) → Option Res) (c87_1 : Int → Int → Int → (Bool → Option Res) → Option Res)   (d : sh66_1.den) (K : KF) : evBody Try.prog (tab [(46, (mkS sh46_1 (fun d K => c46_1 d.1.1.1 d.1.1.2.1 d.1.1.2.2.1 d.1.1.2.2.2.1 (fun (y0 : Bool) => K [.lf (.bool y0)] [])) noS)), (54, (mkS sh54_1 (fun d K => c54_1 d.1.1.1 d.1.1.2.1 d.1.1.2.2.1 d.1.1.2.2.2.1 (fun (y0 : Int) => K [.lf (.int .i64 y0)] [])) noS)), (87, (mkS sh87_1 (fun d K => c87_1 d.1.1 d.1.2.1 d.1.2.2.1 (fun (y0 : Bool) => K [.lf (.bool y0)] [])) noS))]) 20 0 (ltab []) code66 Try.f66.results.toList (encT sh66_1.vs d.1) (encH sh66_1.h d.2) K = (fun (a1 : Int) (a2 : Int) (a3 : Int) (a4 : Int) (a5 : Int) (K0 : (Int → Option Res)) => c46_1 a1 a2 a3 a4 (fun x1 => cond (!x1) (K0 (-1)) (c54_1 a1 a2 a3 a4 (fun x2 => c87_1 a5 0 x2 (fun x3 => cond (!x3) (K0 (-1)) (K0 (IntKind.i64.wrap ((IntKind.i64.wrap (6 + a1)) + a5)))) ) )) ) d.1.1.1 d.1.1.2.1 d.1.1.2.2.1 d.1.1.2.2.2.1 d.1.2.1 (fun (y0 : Int) => K [.lf (.int .i64 y0)] []) := by kernel_rfl
theorem E66_1 (F : Nat) (d : sh66_1.den) (K : KF) : evBody Try.prog (T66_1 F) 20 0 (LT66_1 F) code66 Try.f66.results.toList (encT sh66_1.vs d.1) (encH sh66_1.h d.2) K = f66_1 F d.1.1.1 d.1.1.2.1 d.1.1.2.2.1 d.1.1.2.2.2.1 d.1.2.1 (fun (y0 : Int) => K [.lf (.int .i64 y0)] []) := Eq.mp (by kernel_rfl) (E66_1g F (f46_1 F) (f54_1 F) (f87_1 F)   d K)
theorem S66_1_ok (F : Nat) (o : Summ) (ho : SoundFn Try.prog 66 o) : SoundFn Try.prog 66 (S66_1 F o) :=
  soundFn_of (fn := Try.f66) (c := code66) (by kernel_rfl) (tab_cons (S46_1_ok F _ (noS_sound enter46)) (tab_cons (S54_1_ok F _ (noS_sound enter54)) (tab_cons (S87_1_ok F _ (noS_sound enter87)) tab_nil))) (by kernel_rfl) (by kernel_rfl) ho (by rw [loops66]; exact loopsOK_nil) (E66_1 F)
end Go.Proofs.Ytlokielmpdjedaa.X
