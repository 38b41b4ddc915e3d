import Derived.Test.YtlokielmpdjedaaEvS17
import Derived.Test.YtlokielmpdjedaaProg
import Derived.KernelRfl
import Derived.Test.YtlokielmpdjedaaEvF80
namespace Go.Proofs.Ytlokielmpdjedaa.X
open Go Go.Proofs.Ytlokielmpdjedaa.Ev Go.Proofs
set_option linter.unusedVariables false
/-! pentimentoref11.Map).Mark -/
def f25_1 {β : Type} (F : Nat) (a1 : List Int) (a2 : List Int) (a3 : Int) (a4 : Int) (K0 : List Int → List Int → Int → Int → Option β) : Option β := f80_1 F a1 a4 (fun x1 x2 => cond (x2 != 0) (K0 [0, 0] [0, 0] 0 x2) (K0 x1 a2 a3 0)) 
def sh25_1 : Sh := ⟨[.agg [.seq (.int .u64) 2, .seq (.int .u64) 2, .int .u64], .lf (.int .i64)], []⟩
def S25_1 (F : Nat) (o : Summ) : Summ := mkS sh25_1 (fun d K => f25_1 F d.1.1.1 d.1.1.2.1 d.1.1.2.2.1 d.1.2.1 (fun (y0 : List Int) (y1 : List Int) (y2 : Int) (y3 : Int) => K [.agg [.seq (.int .u64) 2 y0, .seq (.int .u64) 2 y1, .int .u64 y2], .lf (.int .i64 y3)] [])) o
noncomputable def code25 : Code := bodyOf Try.f25
theorem loops25 : loopsOf code25 = [] := by kernel_rfl
theorem enter25 : ∀ args w, (callFunc 25 args).run Try.prog w = .ok (.enter 25 args) w := enter_of (fn := Try.f25) (by kernel_rfl) (by kernel_rfl) (by kernel_rfl)
def T25_1 (F : Nat) : FuncId → Option Summ := tab [(80, (S80_1 F noS))]
def LT25_1 (F : Nat) : Nat → Option LoopS := ltab []
theorem E25_1g (F : Nat) (c80_1 : List Int → Int → (List Int → Int → Option Res) → Option Res)   (d : sh25_1.den) (K : KF) : evBody Try.prog (tab [(80, (mkS sh80_1 (fun d K => c80_1 d.1.1.1 d.1.2.1 (fun (y0 : List Int) (y1 : Int) => K [.agg [.seq (.int .u64) 2 y0], .lf (.int .i64 y1)] [])) noS))]) 25 0 (ltab []) code25 Try.f25.results.toList (encT sh25_1.vs d.1) (encH sh25_1.h d.2) K = (fun (a1 : List Int) (a2 : List Int) (a3 : Int) (a4 : Int) (K0 : (List Int → List Int → Int → Int → Option Res)) => c80_1 a1 a4 (fun x1 x2 => cond (x2 != 0) (K0 [0, 0] [0, 0] 0 x2) (K0 x1 a2 a3 0)) ) d.1.1.1 d.1.1.2.1 d.1.1.2.2.1 d.1.2.1 (fun (y0 : List Int) (y1 : List Int) (y2 : Int) (y3 : Int) => K [.agg [.seq (.int .u64) 2 y0, .seq (.int .u64) 2 y1, .int .u64 y2], .lf (.int .i64 y3)] []) := by kernel_rfl
theorem E25_1 (F : Nat) (d : sh25_1.den) (K : KF) : evBody Try.prog (T25_1 F) 25 0 (LT25_1 F) code25 Try.f25.results.toList (encT sh25_1.vs d.1) (encH sh25_1.h d.2) K = f25_1 F d.1.1.1 d.1.1.2.1 d.1.1.2.2.1 d.1.2.1 (fun (y0 : List Int) (y1 : List Int) (y2 : Int) (y3 : Int) => K [.agg [.seq (.int .u64) 2 y0, .seq (.int .u64) 2 y1, .int .u64 y2], .lf (.int .i64 y3)] []) := Eq.mp (by kernel_rfl) (E25_1g F (f80_1 F)   d K)
theorem S25_1_ok (F : Nat) (o : Summ) (ho : SoundFn Try.prog 25 o) : SoundFn Try.prog 25 (S25_1 F o) :=
  soundFn_of (fn := Try.f25) (c := code25) (by kernel_rfl) (tab_cons (S80_1_ok F _ (noS_sound enter80)) tab_nil) (by kernel_rfl) (by kernel_rfl) ho (by rw [loops25]; exact loopsOK_nil) (E25_1 F)
end Go.Proofs.Ytlokielmpdjedaa.X
