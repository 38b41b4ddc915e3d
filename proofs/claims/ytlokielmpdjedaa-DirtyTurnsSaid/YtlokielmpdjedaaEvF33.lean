import Derived.Test.YtlokielmpdjedaaEvS17
import Derived.Test.YtlokielmpdjedaaProg
import Derived.KernelRfl
import Derived.Test.YtlokielmpdjedaaEvF24
import Derived.Test.YtlokielmpdjedaaEvF27
import Derived.Test.YtlokielmpdjedaaEvF29
import Derived.Test.YtlokielmpdjedaaEvF31
import Derived.Test.YtlokielmpdjedaaEvF83
namespace Go.Proofs.Ytlokielmpdjedaa.X
open Go Go.Proofs.Ytlokielmpdjedaa.Ev Go.Proofs
set_option linter.unusedVariables false
/-! pentimentolaw11.known -/
def f33_1 {β : Type} (F : Nat)  (K0 : Bool → Option β) : Option β := f24_1 F [0, 0] [0, 0] 0 3 (fun x1 x2 x3 x4 => f27_1 F x1 x2 x3 1 (fun x5 => f24_1 F x5 x1 1 4 (fun x6 x7 x8 x9 => f83_1 F [3, 4] (fun x10 x11 => cond (x4 == 0) (cond (x9 == 0) (cond (x8 == 1) (f29_1 F x6 x7 x8 (fun x12 x13 => cond ((lbeq (.int .u64) x12 x10) && ((lbeq (.int .u64) x13 [0, 0]) && true)) (f31_1 F x6 x7 x8 (fun x14 => K0 (lbeq (.int .u64) x14 [0, 0])) ) (K0 false)) ) (K0 false)) (K0 false)) (K0 false)) ) ) ) 
def sh33_1 : Sh := ⟨[], []⟩
def S33_1 (F : Nat) (o : Summ) : Summ := mkS sh33_1 (fun d K => f33_1 F (fun (y0 : Bool) => K [.lf (.bool y0)] [])) o
noncomputable def code33 : Code := bodyOf Try.f33
theorem loops33 : loopsOf code33 = [] := by kernel_rfl
theorem enter33 : ∀ args w, (callFunc 33 args).run Try.prog w = .ok (.enter 33 args) w := enter_of (fn := Try.f33) (by kernel_rfl) (by kernel_rfl) (by kernel_rfl)
def T33_1 (F : Nat) : FuncId → Option Summ := tab [(24, (S24_1 F noS)), (27, (S27_1 F noS)), (29, (S29_1 F noS)), (31, (S31_1 F noS)), (83, (S83_1 F noS))]
def LT33_1 (F : Nat) : Nat → Option LoopS := ltab []
theorem E33_1g (F : Nat) (c24_1 : List Int → List Int → Int → Int → (List Int → List Int → Int → Int → Option Res) → Option Res) (c27_1 : List Int → List Int → Int → Int → (List Int → Option Res) → Option Res) (c29_1 : List Int → List Int → Int → (List Int → List Int → Option Res) → Option Res) (c31_1 : List Int → List Int → Int → (List Int → Option Res) → Option Res) (c83_1 : List Int → (List Int → Int → Option Res) → Option Res)   (d : sh33_1.den) (K : KF) : evBody Try.prog (tab [(24, (mkS sh24_1 (fun d K => c24_1 d.1.1.1 d.1.1.2.1 d.1.1.2.2.1 d.1.2.1 (fun (y0 : List Int) (y1 : List Int) (y2 : Int) (y3 : Int) => K [.agg [.seq (.int .u64) 2 y0, .seq (.int .u64) 2 y1, .int .u64 y2], .lf (.int .i64 y3)] [])) noS)), (27, (mkS sh27_1 (fun d K => c27_1 d.1.1.1 d.1.1.2.1 d.1.1.2.2.1 d.1.2.1 (fun (y0 : List Int) => K [.agg [.seq (.int .u64) 2 y0, .seq (.int .u64) 2 d.1.1.1, .int .u64 d.1.2.1]] [])) noS)), (29, (mkS sh29_1 (fun d K => c29_1 d.1.1.1 d.1.1.2.1 d.1.1.2.2.1 (fun (y0 : List Int) (y1 : List Int) => K [.agg [.seq (.int .u64) 2 y0, .seq (.int .u64) 2 y1, .int .u64 0]] [])) noS)), (31, (mkS sh31_1 (fun d K => c31_1 d.1.1.1 d.1.1.2.1 d.1.1.2.2.1 (fun (y1 : List Int) => K [.agg [.seq (.int .u64) 2 d.1.1.1, .seq (.int .u64) 2 y1, .int .u64 0]] [])) noS)), (83, (mkS sh83_1 (fun d K => c83_1 d.2.1.2.1 (fun (y0 : List Int) (y1 : Int) => K [.agg [.seq (.int .u64) 2 y0], .lf (.int .i64 y1)] [some ⟨d.2.1.1, [.seq (.int .i64) 0 d.2.1.2.1]⟩])) noS))]) 48 0 (ltab []) code33 Try.f33.results.toList (encT sh33_1.vs d.1) (encH sh33_1.h d.2) K = (fun (K0 : (Bool → Option Res)) => c24_1 [0, 0] [0, 0] 0 3 (fun x1 x2 x3 x4 => c27_1 x1 x2 x3 1 (fun x5 => c24_1 x5 x1 1 4 (fun x6 x7 x8 x9 => c83_1 [3, 4] (fun x10 x11 => cond (x4 == 0) (cond (x9 == 0) (cond (x8 == 1) (c29_1 x6 x7 x8 (fun x12 x13 => cond ((lbeq (.int .u64) x12 x10) && ((lbeq (.int .u64) x13 [0, 0]) && true)) (c31_1 x6 x7 x8 (fun x14 => K0 (lbeq (.int .u64) x14 [0, 0])) ) (K0 false)) ) (K0 false)) (K0 false)) (K0 false)) ) ) ) ) (fun (y0 : Bool) => K [.lf (.bool y0)] []) := by kernel_rfl
theorem E33_1 (F : Nat) (d : sh33_1.den) (K : KF) : evBody Try.prog (T33_1 F) 48 0 (LT33_1 F) code33 Try.f33.results.toList (encT sh33_1.vs d.1) (encH sh33_1.h d.2) K = f33_1 F (fun (y0 : Bool) => K [.lf (.bool y0)] []) := Eq.mp (by kernel_rfl) (E33_1g F (f24_1 F) (f27_1 F) (f29_1 F) (f31_1 F) (f83_1 F)   d K)
theorem S33_1_ok (F : Nat) (o : Summ) (ho : SoundFn Try.prog 33 o) : SoundFn Try.prog 33 (S33_1 F o) :=
  soundFn_of (fn := Try.f33) (c := code33) (by kernel_rfl) (tab_cons (S24_1_ok F _ (noS_sound enter24)) (tab_cons (S27_1_ok F _ (noS_sound enter27)) (tab_cons (S29_1_ok F _ (noS_sound enter29)) (tab_cons (S31_1_ok F _ (noS_sound enter31)) (tab_cons (S83_1_ok F _ (noS_sound enter83)) tab_nil))))) (by kernel_rfl) (by kernel_rfl) ho (by rw [loops33]; exact loopsOK_nil) (E33_1 F)
end Go.Proofs.Ytlokielmpdjedaa.X
