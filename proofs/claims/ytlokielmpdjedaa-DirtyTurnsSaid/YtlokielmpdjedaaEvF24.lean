import Derived.Test.YtlokielmpdjedaaEvS17
import Derived.Test.YtlokielmpdjedaaProg
import Derived.KernelRfl
import Derived.Test.YtlokielmpdjedaaEvF79
namespace Go.Proofs.Ytlokielmpdjedaa.X
open Go Go.Proofs.Ytlokielmpdjedaa.Ev Go.Proofs
set_option linter.unusedVariables false
/-! dirty.Map).Mark -/
def f24_1 {β : Type} (F : Nat) (a1 : List Int) (a2 : List Int) (a3 : Int) (a4 : Int) (K0 : List Int → List Int → Int → Int → Option β) : Option β := f79_1 F a1 a4 (fun x1 x2 => cond (x2 != 0) (K0 [0, 0] [0, 0] 0 x2) (K0 x1 a2 a3 0)) 
def sh24_1 : Sh := ⟨[.agg [.seq (.int .u64) 2, .seq (.int .u64) 2, .int .u64], .lf (.int .i64)], []⟩
def S24_1 (F : Nat) (o : Summ) : Summ := mkS sh24_1 (fun d K => f24_1 F d.1.1.1 d.1.1.2.1 d.1.1.2.2.1 d.1.2.1 (fun (y0 : List Int) (y1 : List Int) (y2 : Int) (y3 : Int) => K [.agg [.seq (.int .u64) 2 y0, .seq (.int .u64) 2 y1, .int .u64 y2], .lf (.int .i64 y3)] [])) o
noncomputable def code24 : Code := bodyOf Try.f24
theorem loops24 : loopsOf code24 = [] := by kernel_rfl
theorem enter24 : ∀ args w, (callFunc 24 args).run Try.prog w = .ok (.enter 24 args) w := enter_of (fn := Try.f24) (by kernel_rfl) (by kernel_rfl) (by kernel_rfl)
def T24_1 (F : Nat) : FuncId → Option Summ := tab [(79, (S79_1 F noS))]
def LT24_1 (F : Nat) : Nat → Option LoopS := ltab []
theorem E24_1g (F : Nat) (c79_1 : List Int → Int → (List Int → Int → Option Res) → Option Res)   (d : sh24_1.den) (K : KF) : evBody Try.prog (tab [(79, (mkS sh79_1 (fun d K => c79_1 d.1.1.1 d.1.2.1 (fun (y0 : List Int) (y1 : Int) => K [.agg [.seq (.int .u64) 2 y0], .lf (.int .i64 y1)] [])) noS))]) 22 0 (ltab []) code24 Try.f24.results.toList (encT sh24_1.vs d.1) (encH sh24_1.h d.2) K = (fun (a1 : List Int) (a2 : List Int) (a3 : Int) (a4 : Int) (K0 : (List Int → List Int → Int → Int → Option Res)) => c79_1 a1 a4 (fun x1 x2 => cond (x2 != 0) (K0 [0, 0] [0, 0] 0 x2) (K0 x1 a2 a3 0)) ) d.1.1.1 d.1.1.2.1 d.1.1.2.2.1 d.1.2.1 (fun (y0 : List Int) (y1 : List Int) (y2 : Int) (y3 : Int) => K [.agg [.seq (.int .u64) 2 y0, .seq (.int .u64) 2 y1, .int .u64 y2], .lf (.int .i64 y3)] []) := by kernel_rfl
theorem E24_1 (F : Nat) (d : sh24_1.den) (K : KF) : evBody Try.prog (T24_1 F) 22 0 (LT24_1 F) code24 Try.f24.results.toList (encT sh24_1.vs d.1) (encH sh24_1.h d.2) K = f24_1 F d.1.1.1 d.1.1.2.1 d.1.1.2.2.1 d.1.2.1 (fun (y0 : List Int) (y1 : List Int) (y2 : Int) (y3 : Int) => K [.agg [.seq (.int .u64) 2 y0, .seq (.int .u64) 2 y1, .int .u64 y2], .lf (.int .i64 y3)] []) := Eq.mp (by kernel_rfl) (E24_1g F (f79_1 F)   d K)
theorem S24_1_ok (F : Nat) (o : Summ) (ho : SoundFn Try.prog 24 o) : SoundFn Try.prog 24 (S24_1 F o) :=
  soundFn_of (fn := Try.f24) (c := code24) (by kernel_rfl) (tab_cons (S79_1_ok F _ (noS_sound enter79)) tab_nil) (by kernel_rfl) (by kernel_rfl) ho (by rw [loops24]; exact loopsOK_nil) (E24_1 F)
end Go.Proofs.Ytlokielmpdjedaa.X
