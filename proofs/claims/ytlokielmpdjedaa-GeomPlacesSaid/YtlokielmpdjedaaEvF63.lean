import Derived.Test.YtlokielmpdjedaaEvS17
import Derived.Test.YtlokielmpdjedaaProg
import Derived.KernelRfl
import Derived.Test.YtlokielmpdjedaaEvF47
import Derived.Test.YtlokielmpdjedaaEvF51
import Derived.Test.YtlokielmpdjedaaEvF89
namespace Go.Proofs.Ytlokielmpdjedaa.X
open Go Go.Proofs.Ytlokielmpdjedaa.Ev Go.Proofs
set_option linter.unusedVariables false
/-! pentimentoref07.Size -/
def f63_1 {β : Type} (F : Nat) (a1 : Int) (a2 : Int) (a3 : Int) (a4 : Int) (a5 : Int) (K0 : Int → Option β) : Option β := f89_1 F a1 a2 a3 a4 a5 (fun x1 => f47_1 F a1 a2 a3 a4 (fun x2 => cond (!x2) (K0 0) (cond (decide (x1 < 0)) (K0 0) (f51_1 F a1 a2 a3 a4 (fun x3 => K0 (IntKind.i64.wrap ((IntKind.i64.wrap ((IntKind.i64.wrap (6 + a1)) + x3)) + x1))) ))) ) 
def sh63_1 : Sh := ⟨[.agg [.int .i64, .int .i64, .int .i64, .int .i64], .lf (.int .i64)], []⟩
def S63_1 (F : Nat) (o : Summ) : Summ := mkS sh63_1 (fun d K => f63_1 F d.1.1.1 d.1.1.2.1 d.1.1.2.2.1 d.1.1.2.2.2.1 d.1.2.1 (fun (y0 : Int) => K [.lf (.int .i64 y0)] [])) o
noncomputable def code63 : Code := bodyOf Try.f63
theorem loops63 : loopsOf code63 = [] := by kernel_rfl
theorem enter63 : ∀ args w, (callFunc 63 args).run Try.prog w = .ok (.enter 63 args) w := enter_of (fn := Try.f63) (by kernel_rfl) (by kernel_rfl) (by kernel_rfl)
def T63_1 (F : Nat) : FuncId → Option Summ := tab [(47, (S47_1 F noS)), (51, (S51_1 F noS)), (89, (S89_1 F noS))]
def LT63_1 (F : Nat) : Nat → Option LoopS := ltab []
theorem E63_1g (F : Nat) (c47_1 : Int → Int → Int → Int → (Bool → Option Res) → Option Res) (c51_1 : Int → Int → Int → Int → (Int → Option Res) → Option Res) (c89_1 : Int → Int → Int → Int → Int → (Int → Option Res) → Option Res)   (d : sh63_1.den) (K : KF) : evBody Try.prog (tab [(47, (mkS sh47_1 (fun d K => c47_1 d.1.1.1 d.1.1.2.1 d.1.1.2.2.1 d.1.1.2.2.2.1 (fun (y0 : Bool) => K [.lf (.bool y0)] [])) noS)), (51, (mkS sh51_1 (fun d K => c51_1 d.1.1.1 d.1.1.2.1 d.1.1.2.2.1 d.1.1.2.2.2.1 (fun (y0 : Int) => K [.lf (.int .i64 y0)] [])) noS)), (89, (mkS sh89_1 (fun d K => c89_1 d.1.1.1 d.1.1.2.1 d.1.1.2.2.1 d.1.1.2.2.2.1 d.1.2.1 (fun (y0 : Int) => K [.lf (.int .i64 y0)] [])) noS))]) 24 0 (ltab []) code63 Try.f63.results.toList (encT sh63_1.vs d.1) (encH sh63_1.h d.2) K = (fun (a1 : Int) (a2 : Int) (a3 : Int) (a4 : Int) (a5 : Int) (K0 : (Int → Option Res)) => c89_1 a1 a2 a3 a4 a5 (fun x1 => c47_1 a1 a2 a3 a4 (fun x2 => cond (!x2) (K0 0) (cond (decide (x1 < 0)) (K0 0) (c51_1 a1 a2 a3 a4 (fun x3 => K0 (IntKind.i64.wrap ((IntKind.i64.wrap ((IntKind.i64.wrap (6 + a1)) + x3)) + x1))) ))) ) ) d.1.1.1 d.1.1.2.1 d.1.1.2.2.1 d.1.1.2.2.2.1 d.1.2.1 (fun (y0 : Int) => K [.lf (.int .i64 y0)] []) := by kernel_rfl
theorem E63_1 (F : Nat) (d : sh63_1.den) (K : KF) : evBody Try.prog (T63_1 F) 24 0 (LT63_1 F) code63 Try.f63.results.toList (encT sh63_1.vs d.1) (encH sh63_1.h d.2) K = f63_1 F d.1.1.1 d.1.1.2.1 d.1.1.2.2.1 d.1.1.2.2.2.1 d.1.2.1 (fun (y0 : Int) => K [.lf (.int .i64 y0)] []) := Eq.mp (by kernel_rfl) (E63_1g F (f47_1 F) (f51_1 F) (f89_1 F)   d K)
theorem S63_1_ok (F : Nat) (o : Summ) (ho : SoundFn Try.prog 63 o) : SoundFn Try.prog 63 (S63_1 F o) :=
  soundFn_of (fn := Try.f63) (c := code63) (by kernel_rfl) (tab_cons (S47_1_ok F _ (noS_sound enter47)) (tab_cons (S51_1_ok F _ (noS_sound enter51)) (tab_cons (S89_1_ok F _ (noS_sound enter89)) tab_nil))) (by kernel_rfl) (by kernel_rfl) ho (by rw [loops63]; exact loopsOK_nil) (E63_1 F)
end Go.Proofs.Ytlokielmpdjedaa.X
