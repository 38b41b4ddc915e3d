import Derived.Test.YtlokielmpdjedaaEvS17
import Derived.Test.YtlokielmpdjedaaProg
import Derived.KernelRfl
import Derived.Test.YtlokielmpdjedaaEvF81
namespace Go.Proofs.Ytlokielmpdjedaa.X
open Go Go.Proofs.Ytlokielmpdjedaa.Ev Go.Proofs
set_option linter.unusedVariables false
/-! dirty.Map).Merge -/
def f29_1 {β : Type} (F : Nat) (a1 : List Int) (a2 : List Int) (a3 : Int) (K0 : List Int → List Int → Option β) : Option β := f81_1 F a1 a2 (fun x1 => K0 x1 [0, 0]) 
def sh29_1 : Sh := ⟨[.agg [.seq (.int .u64) 2, .seq (.int .u64) 2, .int .u64]], []⟩
def S29_1 (F : Nat) (o : Summ) : Summ := mkS sh29_1 (fun d K => f29_1 F d.1.1.1 d.1.1.2.1 d.1.1.2.2.1 (fun (y0 : List Int) (y1 : List Int) => K [.agg [.seq (.int .u64) 2 y0, .seq (.int .u64) 2 y1, .int .u64 0]] [])) o
noncomputable def code29 : Code := bodyOf Try.f29
theorem loops29 : loopsOf code29 = [] := by kernel_rfl
theorem enter29 : ∀ args w, (callFunc 29 args).run Try.prog w = .ok (.enter 29 args) w := enter_of (fn := Try.f29) (by kernel_rfl) (by kernel_rfl) (by kernel_rfl)
def T29_1 (F : Nat) : FuncId → Option Summ := tab [(81, (S81_1 F noS))]
def LT29_1 (F : Nat) : Nat → Option LoopS := ltab []
theorem E29_1g (F : Nat) (c81_1 : List Int → List Int → (List Int → Option Res) → Option Res)   (d : sh29_1.den) (K : KF) : evBody Try.prog (tab [(81, (mkS sh81_1 (fun d K => c81_1 d.1.1.1 d.1.2.1.1 (fun (y0 : List Int) => K [.agg [.seq (.int .u64) 2 y0]] [])) noS))]) 9 0 (ltab []) code29 Try.f29.results.toList (encT sh29_1.vs d.1) (encH sh29_1.h d.2) K = (fun (a1 : List Int) (a2 : List Int) (a3 : Int) (K0 : (List Int → List Int → Option Res)) => c81_1 a1 a2 (fun x1 => K0 x1 [0, 0]) ) d.1.1.1 d.1.1.2.1 d.1.1.2.2.1 (fun (y0 : List Int) (y1 : List Int) => K [.agg [.seq (.int .u64) 2 y0, .seq (.int .u64) 2 y1, .int .u64 0]] []) := by kernel_rfl
theorem E29_1 (F : Nat) (d : sh29_1.den) (K : KF) : evBody Try.prog (T29_1 F) 9 0 (LT29_1 F) code29 Try.f29.results.toList (encT sh29_1.vs d.1) (encH sh29_1.h d.2) K = f29_1 F d.1.1.1 d.1.1.2.1 d.1.1.2.2.1 (fun (y0 : List Int) (y1 : List Int) => K [.agg [.seq (.int .u64) 2 y0, .seq (.int .u64) 2 y1, .int .u64 0]] []) := Eq.mp (by kernel_rfl) (E29_1g F (f81_1 F)   d K)
theorem S29_1_ok (F : Nat) (o : Summ) (ho : SoundFn Try.prog 29 o) : SoundFn Try.prog 29 (S29_1 F o) :=
  soundFn_of (fn := Try.f29) (c := code29) (by kernel_rfl) (tab_cons (S81_1_ok F _ (noS_sound enter81)) tab_nil) (by kernel_rfl) (by kernel_rfl) ho (by rw [loops29]; exact loopsOK_nil) (E29_1 F)
end Go.Proofs.Ytlokielmpdjedaa.X
