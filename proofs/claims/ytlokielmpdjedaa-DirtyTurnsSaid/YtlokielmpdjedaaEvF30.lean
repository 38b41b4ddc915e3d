import Derived.Test.YtlokielmpdjedaaEvS17
import Derived.Test.YtlokielmpdjedaaProg
import Derived.KernelRfl
import Derived.Test.YtlokielmpdjedaaEvF82
namespace Go.Proofs.Ytlokielmpdjedaa.X
open Go Go.Proofs.Ytlokielmpdjedaa.Ev Go.Proofs
set_option linter.unusedVariables false
/-! pentimentoref11.Map).Merge -/
def f30_1 {β : Type} (F : Nat) (a1 : List Int) (a2 : List Int) (a3 : Int) (K0 : List Int → List Int → Option β) : Option β := f82_1 F a1 a2 (fun x1 => K0 x1 [0, 0]) 
def sh30_1 : Sh := ⟨[.agg [.seq (.int .u64) 2, .seq (.int .u64) 2, .int .u64]], []⟩
def S30_1 (F : Nat) (o : Summ) : Summ := mkS sh30_1 (fun d K => f30_1 F d.1.1.1 d.1.1.2.1 d.1.1.2.2.1 (fun (y0 : List Int) (y1 : List Int) => K [.agg [.seq (.int .u64) 2 y0, .seq (.int .u64) 2 y1, .int .u64 0]] [])) o
noncomputable def code30 : Code := bodyOf Try.f30
theorem loops30 : loopsOf code30 = [] := by kernel_rfl
theorem enter30 : ∀ args w, (callFunc 30 args).run Try.prog w = .ok (.enter 30 args) w := enter_of (fn := Try.f30) (by kernel_rfl) (by kernel_rfl) (by kernel_rfl)
def T30_1 (F : Nat) : FuncId → Option Summ := tab [(82, (S82_1 F noS))]
def LT30_1 (F : Nat) : Nat → Option LoopS := ltab []
theorem E30_1g (F : Nat) (c82_1 : List Int → List Int → (List Int → Option Res) → Option Res)   (d : sh30_1.den) (K : KF) : evBody Try.prog (tab [(82, (mkS sh82_1 (fun d K => c82_1 d.1.1.1 d.1.2.1.1 (fun (y0 : List Int) => K [.agg [.seq (.int .u64) 2 y0]] [])) noS))]) 10 0 (ltab []) code30 Try.f30.results.toList (encT sh30_1.vs d.1) (encH sh30_1.h d.2) K = (fun (a1 : List Int) (a2 : List Int) (a3 : Int) (K0 : (List Int → List Int → Option Res)) => c82_1 a1 a2 (fun x1 => K0 x1 [0, 0]) ) d.1.1.1 d.1.1.2.1 d.1.1.2.2.1 (fun (y0 : List Int) (y1 : List Int) => K [.agg [.seq (.int .u64) 2 y0, .seq (.int .u64) 2 y1, .int .u64 0]] []) := by kernel_rfl
theorem E30_1 (F : Nat) (d : sh30_1.den) (K : KF) : evBody Try.prog (T30_1 F) 10 0 (LT30_1 F) code30 Try.f30.results.toList (encT sh30_1.vs d.1) (encH sh30_1.h d.2) K = f30_1 F d.1.1.1 d.1.1.2.1 d.1.1.2.2.1 (fun (y0 : List Int) (y1 : List Int) => K [.agg [.seq (.int .u64) 2 y0, .seq (.int .u64) 2 y1, .int .u64 0]] []) := Eq.mp (by kernel_rfl) (E30_1g F (f82_1 F)   d K)
theorem S30_1_ok (F : Nat) (o : Summ) (ho : SoundFn Try.prog 30 o) : SoundFn Try.prog 30 (S30_1 F o) :=
  soundFn_of (fn := Try.f30) (c := code30) (by kernel_rfl) (tab_cons (S82_1_ok F _ (noS_sound enter82)) tab_nil) (by kernel_rfl) (by kernel_rfl) ho (by rw [loops30]; exact loopsOK_nil) (E30_1 F)
end Go.Proofs.Ytlokielmpdjedaa.X
