import Derived.Test.YtlokielmpdjedaaEvS17
import Derived.Test.YtlokielmpdjedaaProg
import Derived.KernelRfl
import Derived.Test.YtlokielmpdjedaaEvF50
import Derived.Test.YtlokielmpdjedaaEvF86
namespace Go.Proofs.Ytlokielmpdjedaa.X
open Go Go.Proofs.Ytlokielmpdjedaa.Ev Go.Proofs
set_option linter.unusedVariables false
/-! geom.Size -/
def f38_1 {β : Type} (F : Nat) (a1 : Int) (a2 : Int) (a3 : Int) (a4 : Int) (a5 : Int) (K0 : Int → Option β) : Option β := f86_1 F a1 a2 a3 a4 a5 (fun x1 x2 => cond (!x2) (K0 0) (f50_1 F a1 a2 a3 a4 (fun x3 => K0 (IntKind.i64.wrap ((IntKind.i64.wrap ((IntKind.i64.wrap (6 + a1)) + x3)) + x1))) )) 
def sh38_1 : Sh := ⟨[.agg [.int .i64, .int .i64, .int .i64, .int .i64], .lf (.int .i64)], []⟩
def S38_1 (F : Nat) (o : Summ) : Summ := mkS sh38_1 (fun d K => f38_1 F d.1.1.1 d.1.1.2.1 d.1.1.2.2.1 d.1.1.2.2.2.1 d.1.2.1 (fun (y0 : Int) => K [.lf (.int .i64 y0)] [])) o
noncomputable def code38 : Code := bodyOf Try.f38
theorem loops38 : loopsOf code38 = [] := by kernel_rfl
theorem enter38 : ∀ args w, (callFunc 38 args).run Try.prog w = .ok (.enter 38 args) w := enter_of (fn := Try.f38) (by kernel_rfl) (by kernel_rfl) (by kernel_rfl)
def T38_1 (F : Nat) : FuncId → Option Summ := tab [(50, (S50_1 F noS)), (86, (S86_1 F noS))]
def LT38_1 (F : Nat) : Nat → Option LoopS := ltab []
theorem E38_1g (F : Nat) (c50_1 : Int → Int → Int → Int → (Int → Option Res) → Option Res) (c86_1 : Int → Int → Int → Int → Int → (Int → Bool → Option Res) → Option Res)   (d : sh38_1.den) (K : KF) : evBody Try.prog (tab [(50, (mkS sh50_1 (fun d K => c50_1 d.1.1.1 d.1.1.2.1 d.1.1.2.2.1 d.1.1.2.2.2.1 (fun (y0 : Int) => K [.lf (.int .i64 y0)] [])) noS)), (86, (mkS sh86_1 (fun d K => c86_1 d.1.1.1 d.1.1.2.1 d.1.1.2.2.1 d.1.1.2.2.2.1 d.1.2.1 (fun (y0 : Int) (y1 : Bool) => K [.lf (.int .i64 y0), .lf (.bool y1)] [])) noS))]) 23 0 (ltab []) code38 Try.f38.results.toList (encT sh38_1.vs d.1) (encH sh38_1.h d.2) K = (fun (a1 : Int) (a2 : Int) (a3 : Int) (a4 : Int) (a5 : Int) (K0 : (Int → Option Res)) => c86_1 a1 a2 a3 a4 a5 (fun x1 x2 => cond (!x2) (K0 0) (c50_1 a1 a2 a3 a4 (fun x3 => K0 (IntKind.i64.wrap ((IntKind.i64.wrap ((IntKind.i64.wrap (6 + a1)) + x3)) + x1))) )) ) d.1.1.1 d.1.1.2.1 d.1.1.2.2.1 d.1.1.2.2.2.1 d.1.2.1 (fun (y0 : Int) => K [.lf (.int .i64 y0)] []) := by kernel_rfl
theorem E38_1 (F : Nat) (d : sh38_1.den) (K : KF) : evBody Try.prog (T38_1 F) 23 0 (LT38_1 F) code38 Try.f38.results.toList (encT sh38_1.vs d.1) (encH sh38_1.h d.2) K = f38_1 F d.1.1.1 d.1.1.2.1 d.1.1.2.2.1 d.1.1.2.2.2.1 d.1.2.1 (fun (y0 : Int) => K [.lf (.int .i64 y0)] []) := Eq.mp (by kernel_rfl) (E38_1g F (f50_1 F) (f86_1 F)   d K)
theorem S38_1_ok (F : Nat) (o : Summ) (ho : SoundFn Try.prog 38 o) : SoundFn Try.prog 38 (S38_1 F o) :=
  soundFn_of (fn := Try.f38) (c := code38) (by kernel_rfl) (tab_cons (S50_1_ok F _ (noS_sound enter50)) (tab_cons (S86_1_ok F _ (noS_sound enter86)) tab_nil)) (by kernel_rfl) (by kernel_rfl) ho (by rw [loops38]; exact loopsOK_nil) (E38_1 F)
end Go.Proofs.Ytlokielmpdjedaa.X
