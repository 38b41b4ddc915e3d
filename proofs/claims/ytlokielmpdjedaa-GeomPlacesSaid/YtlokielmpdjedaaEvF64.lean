import Derived.Test.YtlokielmpdjedaaEvS17
import Derived.Test.YtlokielmpdjedaaProg
import Derived.KernelRfl
import Derived.Test.YtlokielmpdjedaaEvF46
import Derived.Test.YtlokielmpdjedaaEvF87
namespace Go.Proofs.Ytlokielmpdjedaa.X
open Go Go.Proofs.Ytlokielmpdjedaa.Ev Go.Proofs
set_option linter.unusedVariables false
/-! geom.Data -/
def f64_1 {β : Type} (F : Nat) (a1 : Int) (a2 : Int) (a3 : Int) (a4 : Int) (a5 : Int) (K0 : Int → Option β) : Option β := f46_1 F a1 a2 a3 a4 (fun x1 => cond (!x1) (K0 (-1)) (f87_1 F a5 0 (IntKind.i64.wrap (a1 - 1)) (fun x2 => cond (!x2) (K0 (-1)) (K0 (IntKind.i64.wrap (6 + a5)))) )) 
def sh64_1 : Sh := ⟨[.agg [.int .i64, .int .i64, .int .i64, .int .i64], .lf (.int .i64)], []⟩
def S64_1 (F : Nat) (o : Summ) : Summ := mkS sh64_1 (fun d K => f64_1 F d.1.1.1 d.1.1.2.1 d.1.1.2.2.1 d.1.1.2.2.2.1 d.1.2.1 (fun (y0 : Int) => K [.lf (.int .i64 y0)] [])) o
noncomputable def code64 : Code := bodyOf Try.f64
theorem loops64 : loopsOf code64 = [] := by kernel_rfl
theorem enter64 : ∀ args w, (callFunc 64 args).run Try.prog w = .ok (.enter 64 args) w := enter_of (fn := Try.f64) (by kernel_rfl) (by kernel_rfl) (by kernel_rfl)
def T64_1 (F : Nat) : FuncId → Option Summ := tab [(46, (S46_1 F noS)), (87, (S87_1 F noS))]
def LT64_1 (F : Nat) : Nat → Option LoopS := ltab []
theorem E64_1g (F : Nat) (c46_1 : Int → Int → Int → Int → (Bool → Option Res) → Option Res) (c87_1 : Int → Int → Int → (Bool → Option Res) → Option Res)   (d : sh64_1.den) (K : KF) : evBody Try.prog (tab [(46, (mkS sh46_1 (fun d K => c46_1 d.1.1.1 d.1.1.2.1 d.1.1.2.2.1 d.1.1.2.2.2.1 (fun (y0 : Bool) => K [.lf (.bool y0)] [])) noS)), (87, (mkS sh87_1 (fun d K => c87_1 d.1.1 d.1.2.1 d.1.2.2.1 (fun (y0 : Bool) => K [.lf (.bool y0)] [])) noS))]) 18 0 (ltab []) code64 Try.f64.results.toList (encT sh64_1.vs d.1) (encH sh64_1.h d.2) K = (fun (a1 : Int) (a2 : Int) (a3 : Int) (a4 : Int) (a5 : Int) (K0 : (Int → Option Res)) => c46_1 a1 a2 a3 a4 (fun x1 => cond (!x1) (K0 (-1)) (c87_1 a5 0 (IntKind.i64.wrap (a1 - 1)) (fun x2 => cond (!x2) (K0 (-1)) (K0 (IntKind.i64.wrap (6 + a5)))) )) ) d.1.1.1 d.1.1.2.1 d.1.1.2.2.1 d.1.1.2.2.2.1 d.1.2.1 (fun (y0 : Int) => K [.lf (.int .i64 y0)] []) := by kernel_rfl
theorem E64_1 (F : Nat) (d : sh64_1.den) (K : KF) : evBody Try.prog (T64_1 F) 18 0 (LT64_1 F) code64 Try.f64.results.toList (encT sh64_1.vs d.1) (encH sh64_1.h d.2) K = f64_1 F d.1.1.1 d.1.1.2.1 d.1.1.2.2.1 d.1.1.2.2.2.1 d.1.2.1 (fun (y0 : Int) => K [.lf (.int .i64 y0)] []) := Eq.mp (by kernel_rfl) (E64_1g F (f46_1 F) (f87_1 F)   d K)
theorem S64_1_ok (F : Nat) (o : Summ) (ho : SoundFn Try.prog 64 o) : SoundFn Try.prog 64 (S64_1 F o) :=
  soundFn_of (fn := Try.f64) (c := code64) (by kernel_rfl) (tab_cons (S46_1_ok F _ (noS_sound enter46)) (tab_cons (S87_1_ok F _ (noS_sound enter87)) tab_nil)) (by kernel_rfl) (by kernel_rfl) ho (by rw [loops64]; exact loopsOK_nil) (E64_1 F)
end Go.Proofs.Ytlokielmpdjedaa.X
