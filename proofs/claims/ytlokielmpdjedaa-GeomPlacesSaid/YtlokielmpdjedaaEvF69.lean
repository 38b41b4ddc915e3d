import Derived.Test.YtlokielmpdjedaaEvS17
import Derived.Test.YtlokielmpdjedaaProg
import Derived.KernelRfl
import Derived.Test.YtlokielmpdjedaaEvF47
import Derived.Test.YtlokielmpdjedaaEvF51
import Derived.Test.YtlokielmpdjedaaEvF89
namespace Go.Proofs.Ytlokielmpdjedaa.X
open Go Go.Proofs.Ytlokielmpdjedaa.Ev Go.Proofs
set_option linter.unusedVariables false
/-! pentimentoref07.Area -/
def f69_1 {β : Type} (F : Nat) (a1 : Int) (a2 : Int) (a3 : Int) (a4 : Int) (a5 : Int) (a6 : Int) (K0 : Int → Option β) : Option β := f47_1 F a1 a2 a3 a4 (fun x1 => cond (!x1) (K0 (-1)) (cond (decide (a6 < 0)) (K0 (-1)) (f89_1 F a1 a2 a3 a4 a5 (fun x2 => cond (decide (a6 ≥ x2)) (K0 (-1)) (f51_1 F a1 a2 a3 a4 (fun x3 => K0 (IntKind.i64.wrap ((IntKind.i64.wrap ((IntKind.i64.wrap (6 + a1)) + x3)) + a6))) )) ))) 
def sh69_1 : Sh := ⟨[.agg [.int .i64, .int .i64, .int .i64, .int .i64], .lf (.int .i64), .lf (.int .i64)], []⟩
def S69_1 (F : Nat) (o : Summ) : Summ := mkS sh69_1 (fun d K => f69_1 F d.1.1.1 d.1.1.2.1 d.1.1.2.2.1 d.1.1.2.2.2.1 d.1.2.1 d.1.2.2.1 (fun (y0 : Int) => K [.lf (.int .i64 y0)] [])) o
noncomputable def code69 : Code := bodyOf Try.f69
theorem loops69 : loopsOf code69 = [] := by kernel_rfl
theorem enter69 : ∀ args w, (callFunc 69 args).run Try.prog w = .ok (.enter 69 args) w := enter_of (fn := Try.f69) (by kernel_rfl) (by kernel_rfl) (by kernel_rfl)
def T69_1 (F : Nat) : FuncId → Option Summ := tab [(47, (S47_1 F noS)), (51, (S51_1 F noS)), (89, (S89_1 F noS))]
def LT69_1 (F : Nat) : Nat → Option LoopS := ltab []
theorem E69_1g (F : Nat) (c47_1 : Int → Int → Int → Int → (Bool → Option Res) → Option Res) (c51_1 : Int → Int → Int → Int → (Int → Option Res) → Option Res) (c89_1 : Int → Int → Int → Int → Int → (Int → Option Res) → Option Res)   (d : sh69_1.den) (K : KF) : evBody Try.prog (tab [(47, (mkS sh47_1 (fun d K => c47_1 d.1.1.1 d.1.1.2.1 d.1.1.2.2.1 d.1.1.2.2.2.1 (fun (y0 : Bool) => K [.lf (.bool y0)] [])) noS)), (51, (mkS sh51_1 (fun d K => c51_1 d.1.1.1 d.1.1.2.1 d.1.1.2.2.1 d.1.1.2.2.2.1 (fun (y0 : Int) => K [.lf (.int .i64 y0)] [])) noS)), (89, (mkS sh89_1 (fun d K => c89_1 d.1.1.1 d.1.1.2.1 d.1.1.2.2.1 d.1.1.2.2.2.1 d.1.2.1 (fun (y0 : Int) => K [.lf (.int .i64 y0)] [])) noS))]) 29 0 (ltab []) code69 Try.f69.results.toList (encT sh69_1.vs d.1) (encH sh69_1.h d.2) K = (fun (a1 : Int) (a2 : Int) (a3 : Int) (a4 : Int) (a5 : Int) (a6 : Int) (K0 : (Int → Option Res)) => c47_1 a1 a2 a3 a4 (fun x1 => cond (!x1) (K0 (-1)) (cond (decide (a6 < 0)) (K0 (-1)) (c89_1 a1 a2 a3 a4 a5 (fun x2 => cond (decide (a6 ≥ x2)) (K0 (-1)) (c51_1 a1 a2 a3 a4 (fun x3 => K0 (IntKind.i64.wrap ((IntKind.i64.wrap ((IntKind.i64.wrap (6 + a1)) + x3)) + a6))) )) ))) ) d.1.1.1 d.1.1.2.1 d.1.1.2.2.1 d.1.1.2.2.2.1 d.1.2.1 d.1.2.2.1 (fun (y0 : Int) => K [.lf (.int .i64 y0)] []) := by kernel_rfl
theorem E69_1 (F : Nat) (d : sh69_1.den) (K : KF) : evBody Try.prog (T69_1 F) 29 0 (LT69_1 F) code69 Try.f69.results.toList (encT sh69_1.vs d.1) (encH sh69_1.h d.2) K = f69_1 F d.1.1.1 d.1.1.2.1 d.1.1.2.2.1 d.1.1.2.2.2.1 d.1.2.1 d.1.2.2.1 (fun (y0 : Int) => K [.lf (.int .i64 y0)] []) := Eq.mp (by kernel_rfl) (E69_1g F (f47_1 F) (f51_1 F) (f89_1 F)   d K)
theorem S69_1_ok (F : Nat) (o : Summ) (ho : SoundFn Try.prog 69 o) : SoundFn Try.prog 69 (S69_1 F o) :=
  soundFn_of (fn := Try.f69) (c := code69) (by kernel_rfl) (tab_cons (S47_1_ok F _ (noS_sound enter47)) (tab_cons (S51_1_ok F _ (noS_sound enter51)) (tab_cons (S89_1_ok F _ (noS_sound enter89)) tab_nil))) (by kernel_rfl) (by kernel_rfl) ho (by rw [loops69]; exact loopsOK_nil) (E69_1 F)
end Go.Proofs.Ytlokielmpdjedaa.X
