import Derived.Test.YtlokielmpdjedaaEvS17
import Derived.Test.YtlokielmpdjedaaProg
import Derived.KernelRfl
import Derived.Test.YtlokielmpdjedaaEvF47
namespace Go.Proofs.Ytlokielmpdjedaa.X
open Go Go.Proofs.Ytlokielmpdjedaa.Ev Go.Proofs
set_option linter.unusedVariables false
/-! pentimentoref07.Data -/
def f65_1 {β : Type} (F : Nat) (a1 : Int) (a2 : Int) (a3 : Int) (a4 : Int) (a5 : Int) (K0 : Int → Option β) : Option β := f47_1 F a1 a2 a3 a4 (fun x1 => cond (!x1) (K0 (-1)) (cond (decide (a5 < 0)) (K0 (-1)) (cond (decide (a5 ≥ a1)) (K0 (-1)) (K0 (IntKind.i64.wrap (6 + a5)))))) 
def sh65_1 : Sh := ⟨[.agg [.int .i64, .int .i64, .int .i64, .int .i64], .lf (.int .i64)], []⟩
def S65_1 (F : Nat) (o : Summ) : Summ := mkS sh65_1 (fun d K => f65_1 F d.1.1.1 d.1.1.2.1 d.1.1.2.2.1 d.1.1.2.2.2.1 d.1.2.1 (fun (y0 : Int) => K [.lf (.int .i64 y0)] [])) o
noncomputable def code65 : Code := bodyOf Try.f65
theorem loops65 : loopsOf code65 = [] := by kernel_rfl
theorem enter65 : ∀ args w, (callFunc 65 args).run Try.prog w = .ok (.enter 65 args) w := enter_of (fn := Try.f65) (by kernel_rfl) (by kernel_rfl) (by kernel_rfl)
def T65_1 (F : Nat) : FuncId → Option Summ := tab [(47, (S47_1 F noS))]
def LT65_1 (F : Nat) : Nat → Option LoopS := ltab []
theorem E65_1g (F : Nat) (c47_1 : Int → Int → Int → Int → (Bool → Option Res) → Option Res)   (d : sh65_1.den) (K : KF) : evBody Try.prog (tab [(47, (mkS sh47_1 (fun d K => c47_1 d.1.1.1 d.1.1.2.1 d.1.1.2.2.1 d.1.1.2.2.2.1 (fun (y0 : Bool) => K [.lf (.bool y0)] [])) noS))]) 20 0 (ltab []) code65 Try.f65.results.toList (encT sh65_1.vs d.1) (encH sh65_1.h d.2) K = (fun (a1 : Int) (a2 : Int) (a3 : Int) (a4 : Int) (a5 : Int) (K0 : (Int → Option Res)) => c47_1 a1 a2 a3 a4 (fun x1 => cond (!x1) (K0 (-1)) (cond (decide (a5 < 0)) (K0 (-1)) (cond (decide (a5 ≥ a1)) (K0 (-1)) (K0 (IntKind.i64.wrap (6 + a5)))))) ) d.1.1.1 d.1.1.2.1 d.1.1.2.2.1 d.1.1.2.2.2.1 d.1.2.1 (fun (y0 : Int) => K [.lf (.int .i64 y0)] []) := by kernel_rfl
theorem E65_1 (F : Nat) (d : sh65_1.den) (K : KF) : evBody Try.prog (T65_1 F) 20 0 (LT65_1 F) code65 Try.f65.results.toList (encT sh65_1.vs d.1) (encH sh65_1.h d.2) K = f65_1 F d.1.1.1 d.1.1.2.1 d.1.1.2.2.1 d.1.1.2.2.2.1 d.1.2.1 (fun (y0 : Int) => K [.lf (.int .i64 y0)] []) := Eq.mp (by kernel_rfl) (E65_1g F (f47_1 F)   d K)
theorem S65_1_ok (F : Nat) (o : Summ) (ho : SoundFn Try.prog 65 o) : SoundFn Try.prog 65 (S65_1 F o) :=
  soundFn_of (fn := Try.f65) (c := code65) (by kernel_rfl) (tab_cons (S47_1_ok F _ (noS_sound enter47)) tab_nil) (by kernel_rfl) (by kernel_rfl) ho (by rw [loops65]; exact loopsOK_nil) (E65_1 F)
end Go.Proofs.Ytlokielmpdjedaa.X
