import Derived.Test.YtlokielmpdjedaaEvS17
import Derived.Test.YtlokielmpdjedaaProg
import Derived.KernelRfl
import Derived.Test.YtlokielmpdjedaaEvF50
namespace Go.Proofs.Ytlokielmpdjedaa.X
open Go Go.Proofs.Ytlokielmpdjedaa.Ev Go.Proofs
set_option linter.unusedVariables false
/-! geom.Root -/
def f54_1 {β : Type} (F : Nat) (a1 : Int) (a2 : Int) (a3 : Int) (a4 : Int) (K0 : Int → Option β) : Option β := f50_1 F a1 a2 a3 a4 (fun x1 => K0 (if IntKind.i64.wrap (x1 - 1) > 0 then IntKind.i64.wrap (x1 - 1) else 0)) 
def sh54_1 : Sh := ⟨[.agg [.int .i64, .int .i64, .int .i64, .int .i64]], []⟩
def S54_1 (F : Nat) (o : Summ) : Summ := mkS sh54_1 (fun d K => f54_1 F d.1.1.1 d.1.1.2.1 d.1.1.2.2.1 d.1.1.2.2.2.1 (fun (y0 : Int) => K [.lf (.int .i64 y0)] [])) o
noncomputable def code54 : Code := bodyOf Try.f54
theorem loops54 : loopsOf code54 = [] := by kernel_rfl
theorem enter54 : ∀ args w, (callFunc 54 args).run Try.prog w = .ok (.enter 54 args) w := enter_of (fn := Try.f54) (by kernel_rfl) (by kernel_rfl) (by kernel_rfl)
def T54_1 (F : Nat) : FuncId → Option Summ := tab [(50, (S50_1 F noS))]
def LT54_1 (F : Nat) : Nat → Option LoopS := ltab []
theorem E54_1g (F : Nat) (c50_1 : Int → Int → Int → Int → (Int → Option Res) → Option Res)   (d : sh54_1.den) (K : KF) : evBody Try.prog (tab [(50, (mkS sh50_1 (fun d K => c50_1 d.1.1.1 d.1.1.2.1 d.1.1.2.2.1 d.1.1.2.2.2.1 (fun (y0 : Int) => K [.lf (.int .i64 y0)] [])) noS))]) 7 0 (ltab []) code54 Try.f54.results.toList (encT sh54_1.vs d.1) (encH sh54_1.h d.2) K = (fun (a1 : Int) (a2 : Int) (a3 : Int) (a4 : Int) (K0 : (Int → Option Res)) => c50_1 a1 a2 a3 a4 (fun x1 => K0 (if IntKind.i64.wrap (x1 - 1) > 0 then IntKind.i64.wrap (x1 - 1) else 0)) ) d.1.1.1 d.1.1.2.1 d.1.1.2.2.1 d.1.1.2.2.2.1 (fun (y0 : Int) => K [.lf (.int .i64 y0)] []) := by kernel_rfl
theorem E54_1 (F : Nat) (d : sh54_1.den) (K : KF) : evBody Try.prog (T54_1 F) 7 0 (LT54_1 F) code54 Try.f54.results.toList (encT sh54_1.vs d.1) (encH sh54_1.h d.2) K = f54_1 F d.1.1.1 d.1.1.2.1 d.1.1.2.2.1 d.1.1.2.2.2.1 (fun (y0 : Int) => K [.lf (.int .i64 y0)] []) := Eq.mp (by kernel_rfl) (E54_1g F (f50_1 F)   d K)
theorem S54_1_ok (F : Nat) (o : Summ) (ho : SoundFn Try.prog 54 o) : SoundFn Try.prog 54 (S54_1 F o) :=
  soundFn_of (fn := Try.f54) (c := code54) (by kernel_rfl) (tab_cons (S50_1_ok F _ (noS_sound enter50)) tab_nil) (by kernel_rfl) (by kernel_rfl) ho (by rw [loops54]; exact loopsOK_nil) (E54_1 F)
end Go.Proofs.Ytlokielmpdjedaa.X
