import Derived.Test.YtlokielmpdjedaaEvS17
import Derived.Test.YtlokielmpdjedaaProg
import Derived.KernelRfl
import Derived.Test.YtlokielmpdjedaaEvF46
namespace Go.Proofs.Ytlokielmpdjedaa.X
open Go Go.Proofs.Ytlokielmpdjedaa.Ev Go.Proofs
set_option linter.unusedVariables false
/-! geom.area -/
def f86_1 {β : Type} (F : Nat) (a1 : Int) (a2 : Int) (a3 : Int) (a4 : Int) (a5 : Int) (K0 : Int → Bool → Option β) : Option β := cond (a5 == 0) (f46_1 F a1 a2 a3 a4 (fun x1 => K0 (IntKind.i64.wrap (2 * a3)) x1) ) (cond (a5 == 1) (f46_1 F a1 a2 a3 a4 (fun x2 => K0 (IntKind.i64.wrap (2 * a4)) x2) ) (K0 0 false))
def sh86_1 : Sh := ⟨[.agg [.int .i64, .int .i64, .int .i64, .int .i64], .lf (.int .i64)], []⟩
def S86_1 (F : Nat) (o : Summ) : Summ := mkS sh86_1 (fun d K => f86_1 F d.1.1.1 d.1.1.2.1 d.1.1.2.2.1 d.1.1.2.2.2.1 d.1.2.1 (fun (y0 : Int) (y1 : Bool) => K [.lf (.int .i64 y0), .lf (.bool y1)] [])) o
noncomputable def code86 : Code := bodyOf Try.f86
theorem loops86 : loopsOf code86 = [] := by kernel_rfl
theorem enter86 : ∀ args w, (callFunc 86 args).run Try.prog w = .ok (.enter 86 args) w := enter_of (fn := Try.f86) (by kernel_rfl) (by kernel_rfl) (by kernel_rfl)
def T86_1 (F : Nat) : FuncId → Option Summ := tab [(46, (S46_1 F noS))]
def LT86_1 (F : Nat) : Nat → Option LoopS := ltab []
theorem E86_1g (F : Nat) (c46_1 : Int → Int → Int → Int → (Bool → Option Res) → Option Res)   (d : sh86_1.den) (K : KF) : evBody Try.prog (tab [(46, (mkS sh46_1 (fun d K => c46_1 d.1.1.1 d.1.1.2.1 d.1.1.2.2.1 d.1.1.2.2.2.1 (fun (y0 : Bool) => K [.lf (.bool y0)] [])) noS))]) 21 0 (ltab []) code86 Try.f86.results.toList (encT sh86_1.vs d.1) (encH sh86_1.h d.2) K = (fun (a1 : Int) (a2 : Int) (a3 : Int) (a4 : Int) (a5 : Int) (K0 : (Int → Bool → Option Res)) => cond (a5 == 0) (c46_1 a1 a2 a3 a4 (fun x1 => K0 (IntKind.i64.wrap (2 * a3)) x1) ) (cond (a5 == 1) (c46_1 a1 a2 a3 a4 (fun x2 => K0 (IntKind.i64.wrap (2 * a4)) x2) ) (K0 0 false))) d.1.1.1 d.1.1.2.1 d.1.1.2.2.1 d.1.1.2.2.2.1 d.1.2.1 (fun (y0 : Int) (y1 : Bool) => K [.lf (.int .i64 y0), .lf (.bool y1)] []) := by kernel_rfl
theorem E86_1 (F : Nat) (d : sh86_1.den) (K : KF) : evBody Try.prog (T86_1 F) 21 0 (LT86_1 F) code86 Try.f86.results.toList (encT sh86_1.vs d.1) (encH sh86_1.h d.2) K = f86_1 F d.1.1.1 d.1.1.2.1 d.1.1.2.2.1 d.1.1.2.2.2.1 d.1.2.1 (fun (y0 : Int) (y1 : Bool) => K [.lf (.int .i64 y0), .lf (.bool y1)] []) := Eq.mp (by kernel_rfl) (E86_1g F (f46_1 F)   d K)
theorem S86_1_ok (F : Nat) (o : Summ) (ho : SoundFn Try.prog 86 o) : SoundFn Try.prog 86 (S86_1 F o) :=
  soundFn_of (fn := Try.f86) (c := code86) (by kernel_rfl) (tab_cons (S46_1_ok F _ (noS_sound enter46)) tab_nil) (by kernel_rfl) (by kernel_rfl) ho (by rw [loops86]; exact loopsOK_nil) (E86_1 F)
end Go.Proofs.Ytlokielmpdjedaa.X
