import Derived.Test.YtlokielmpdjedaaEvS17
import Derived.Test.YtlokielmpdjedaaProg
import Derived.KernelRfl
import Derived.Test.YtlokielmpdjedaaEvF87
namespace Go.Proofs.Ytlokielmpdjedaa.X
open Go Go.Proofs.Ytlokielmpdjedaa.Ev Go.Proofs
set_option linter.unusedVariables false
/-! geom.Right -/
def f46_1 {β : Type} (F : Nat) (a1 : Int) (a2 : Int) (a3 : Int) (a4 : Int) (K0 : Bool → Option β) : Option β := f87_1 F a1 1 128 (fun x1 => cond x1 (f87_1 F a2 2 4 (fun x2 => cond x2 (f87_1 F a3 0 64 (fun x3 => cond x3 (f87_1 F a4 1 320 (fun x4 => K0 x4) ) (K0 false)) ) (K0 false)) ) (K0 false)) 
def sh46_1 : Sh := ⟨[.agg [.int .i64, .int .i64, .int .i64, .int .i64]], []⟩
def S46_1 (F : Nat) (o : Summ) : Summ := mkS sh46_1 (fun d K => f46_1 F d.1.1.1 d.1.1.2.1 d.1.1.2.2.1 d.1.1.2.2.2.1 (fun (y0 : Bool) => K [.lf (.bool y0)] [])) o
noncomputable def code46 : Code := bodyOf Try.f46
theorem loops46 : loopsOf code46 = [] := by kernel_rfl
theorem enter46 : ∀ args w, (callFunc 46 args).run Try.prog w = .ok (.enter 46 args) w := enter_of (fn := Try.f46) (by kernel_rfl) (by kernel_rfl) (by kernel_rfl)
def T46_1 (F : Nat) : FuncId → Option Summ := tab [(87, (S87_1 F noS))]
def LT46_1 (F : Nat) : Nat → Option LoopS := ltab []
theorem E46_1g (F : Nat) (c87_1 : Int → Int → Int → (Bool → Option Res) → Option Res)   (d : sh46_1.den) (K : KF) : evBody Try.prog (tab [(87, (mkS sh87_1 (fun d K => c87_1 d.1.1 d.1.2.1 d.1.2.2.1 (fun (y0 : Bool) => K [.lf (.bool y0)] [])) noS))]) 21 0 (ltab []) code46 Try.f46.results.toList (encT sh46_1.vs d.1) (encH sh46_1.h d.2) K = (fun (a1 : Int) (a2 : Int) (a3 : Int) (a4 : Int) (K0 : (Bool → Option Res)) => c87_1 a1 1 128 (fun x1 => cond x1 (c87_1 a2 2 4 (fun x2 => cond x2 (c87_1 a3 0 64 (fun x3 => cond x3 (c87_1 a4 1 320 (fun x4 => K0 x4) ) (K0 false)) ) (K0 false)) ) (K0 false)) ) d.1.1.1 d.1.1.2.1 d.1.1.2.2.1 d.1.1.2.2.2.1 (fun (y0 : Bool) => K [.lf (.bool y0)] []) := by kernel_rfl
theorem E46_1 (F : Nat) (d : sh46_1.den) (K : KF) : evBody Try.prog (T46_1 F) 21 0 (LT46_1 F) code46 Try.f46.results.toList (encT sh46_1.vs d.1) (encH sh46_1.h d.2) K = f46_1 F d.1.1.1 d.1.1.2.1 d.1.1.2.2.1 d.1.1.2.2.2.1 (fun (y0 : Bool) => K [.lf (.bool y0)] []) := Eq.mp (by kernel_rfl) (E46_1g F (f87_1 F)   d K)
theorem S46_1_ok (F : Nat) (o : Summ) (ho : SoundFn Try.prog 46 o) : SoundFn Try.prog 46 (S46_1 F o) :=
  soundFn_of (fn := Try.f46) (c := code46) (by kernel_rfl) (tab_cons (S87_1_ok F _ (noS_sound enter87)) tab_nil) (by kernel_rfl) (by kernel_rfl) ho (by rw [loops46]; exact loopsOK_nil) (E46_1 F)
end Go.Proofs.Ytlokielmpdjedaa.X
