import Derived.Test.YtlokielmpdjedaaEvS17
import Derived.Test.YtlokielmpdjedaaProg
import Derived.KernelRfl
import Derived.Test.YtlokielmpdjedaaEvF50
import Derived.Test.YtlokielmpdjedaaEvF86
import Derived.Test.YtlokielmpdjedaaEvF87
namespace Go.Proofs.Ytlokielmpdjedaa.X
open Go Go.Proofs.Ytlokielmpdjedaa.Ev Go.Proofs
set_option linter.unusedVariables false
/-! geom.Area -/
def f68_1 {β : Type} (F : Nat) (a1 : Int) (a2 : Int) (a3 : Int) (a4 : Int) (a5 : Int) (a6 : Int) (K0 : Int → Option β) : Option β := f86_1 F a1 a2 a3 a4 a5 (fun x1 x2 => cond (!x2) (K0 (-1)) (f87_1 F a6 0 (IntKind.i64.wrap (x1 - 1)) (fun x3 => cond (!x3) (K0 (-1)) (f50_1 F a1 a2 a3 a4 (fun x4 => K0 (IntKind.i64.wrap ((IntKind.i64.wrap ((IntKind.i64.wrap (6 + a1)) + x4)) + a6))) )) )) 
def sh68_1 : Sh := ⟨[.agg [.int .i64, .int .i64, .int .i64, .int .i64], .lf (.int .i64), .lf (.int .i64)], []⟩
def S68_1 (F : Nat) (o : Summ) : Summ := mkS sh68_1 (fun d K => f68_1 F d.1.1.1 d.1.1.2.1 d.1.1.2.2.1 d.1.1.2.2.2.1 d.1.2.1 d.1.2.2.1 (fun (y0 : Int) => K [.lf (.int .i64 y0)] [])) o
noncomputable def code68 : Code := bodyOf Try.f68
theorem loops68 : loopsOf code68 = [] := by kernel_rfl
theorem enter68 : ∀ args w, (callFunc 68 args).run Try.prog w = .ok (.enter 68 args) w := enter_of (fn := Try.f68) (by kernel_rfl) (by kernel_rfl) (by kernel_rfl)
def T68_1 (F : Nat) : FuncId → Option Summ := tab [(50, (S50_1 F noS)), (86, (S86_1 F noS)), (87, (S87_1 F noS))]
def LT68_1 (F : Nat) : Nat → Option LoopS := ltab []
theorem E68_1g (F : Nat) (c50_1 : Int → Int → Int → Int → (Int → Option Res) → Option Res) (c86_1 : Int → Int → Int → Int → Int → (Int → Bool → Option Res) → Option Res) (c87_1 : Int → Int → Int → (Bool → Option Res) → Option Res)   (d : sh68_1.den) (K : KF) : evBody Try.prog (tab [(50, (mkS sh50_1 (fun d K => c50_1 d.1.1.1 d.1.1.2.1 d.1.1.2.2.1 d.1.1.2.2.2.1 (fun (y0 : Int) => K [.lf (.int .i64 y0)] [])) noS)), (86, (mkS sh86_1 (fun d K => c86_1 d.1.1.1 d.1.1.2.1 d.1.1.2.2.1 d.1.1.2.2.2.1 d.1.2.1 (fun (y0 : Int) (y1 : Bool) => K [.lf (.int .i64 y0), .lf (.bool y1)] [])) noS)), (87, (mkS sh87_1 (fun d K => c87_1 d.1.1 d.1.2.1 d.1.2.2.1 (fun (y0 : Bool) => K [.lf (.bool y0)] [])) noS))]) 32 0 (ltab []) code68 Try.f68.results.toList (encT sh68_1.vs d.1) (encH sh68_1.h d.2) K = (fun (a1 : Int) (a2 : Int) (a3 : Int) (a4 : Int) (a5 : Int) (a6 : Int) (K0 : (Int → Option Res)) => c86_1 a1 a2 a3 a4 a5 (fun x1 x2 => cond (!x2) (K0 (-1)) (c87_1 a6 0 (IntKind.i64.wrap (x1 - 1)) (fun x3 => cond (!x3) (K0 (-1)) (c50_1 a1 a2 a3 a4 (fun x4 => K0 (IntKind.i64.wrap ((IntKind.i64.wrap ((IntKind.i64.wrap (6 + a1)) + x4)) + a6))) )) )) ) d.1.1.1 d.1.1.2.1 d.1.1.2.2.1 d.1.1.2.2.2.1 d.1.2.1 d.1.2.2.1 (fun (y0 : Int) => K [.lf (.int .i64 y0)] []) := by kernel_rfl
theorem E68_1 (F : Nat) (d : sh68_1.den) (K : KF) : evBody Try.prog (T68_1 F) 32 0 (LT68_1 F) code68 Try.f68.results.toList (encT sh68_1.vs d.1) (encH sh68_1.h d.2) K = f68_1 F d.1.1.1 d.1.1.2.1 d.1.1.2.2.1 d.1.1.2.2.2.1 d.1.2.1 d.1.2.2.1 (fun (y0 : Int) => K [.lf (.int .i64 y0)] []) := Eq.mp (by kernel_rfl) (E68_1g F (f50_1 F) (f86_1 F) (f87_1 F)   d K)
theorem S68_1_ok (F : Nat) (o : Summ) (ho : SoundFn Try.prog 68 o) : SoundFn Try.prog 68 (S68_1 F o) :=
  soundFn_of (fn := Try.f68) (c := code68) (by kernel_rfl) (tab_cons (S50_1_ok F _ (noS_sound enter50)) (tab_cons (S86_1_ok F _ (noS_sound enter86)) (tab_cons (S87_1_ok F _ (noS_sound enter87)) tab_nil))) (by kernel_rfl) (by kernel_rfl) ho (by rw [loops68]; exact loopsOK_nil) (E68_1 F)
end Go.Proofs.Ytlokielmpdjedaa.X
