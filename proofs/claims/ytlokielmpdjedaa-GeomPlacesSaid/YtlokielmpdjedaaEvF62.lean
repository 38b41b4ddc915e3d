import Derived.Test.YtlokielmpdjedaaEvS17
import Derived.Test.YtlokielmpdjedaaProg
import Derived.KernelRfl
import Derived.Test.YtlokielmpdjedaaEvF21
import Derived.Test.YtlokielmpdjedaaEvF38
import Derived.Test.YtlokielmpdjedaaEvF46
import Derived.Test.YtlokielmpdjedaaEvF48
import Derived.Test.YtlokielmpdjedaaEvF54
import Derived.Test.YtlokielmpdjedaaEvF56
import Derived.Test.YtlokielmpdjedaaEvF58
namespace Go.Proofs.Ytlokielmpdjedaa.X
open Go Go.Proofs.Ytlokielmpdjedaa.Ev Go.Proofs
set_option linter.unusedVariables false
/-! pentimentolaw07.known -/
def f62_1 {β : Type} (F : Nat)  (K0 : Bool → Option β) : Option β := f46_1 F 5 2 1 3 (fun x1 => cond x1 (f48_1 F 5 2 1 3 (fun x2 => f21_1 F x2 [5, 3, 2, 1] (fun x3 => cond x3 (f58_1 F 5 2 1 3 7 (fun x4 => f21_1 F x4 [4] (fun x5 => cond x5 (f56_1 F 5 2 1 3 7 (fun x6 => cond (x6 == 9) (f38_1 F 5 2 1 3 0 (fun x7 => cond (x7 == 24) (f54_1 F 5 2 1 3 (fun x8 => K0 (x8 == 10)) ) (K0 false)) ) (K0 false)) ) (K0 false)) ) ) (K0 false)) ) ) (K0 false)) 
def sh62_1 : Sh := ⟨[], []⟩
def S62_1 (F : Nat) (o : Summ) : Summ := mkS sh62_1 (fun d K => f62_1 F (fun (y0 : Bool) => K [.lf (.bool y0)] [])) o
noncomputable def code62 : Code := bodyOf Try.f62
theorem loops62 : loopsOf code62 = [] := by kernel_rfl
theorem enter62 : ∀ args w, (callFunc 62 args).run Try.prog w = .ok (.enter 62 args) w := enter_of (fn := Try.f62) (by kernel_rfl) (by kernel_rfl) (by kernel_rfl)
def T62_1 (F : Nat) : FuncId → Option Summ := tab [(21, (S21_1 F noS)), (38, (S38_1 F noS)), (46, (S46_1 F noS)), (48, (S48_1 F noS)), (54, (S54_1 F noS)), (56, (S56_1 F noS)), (58, (S58_1 F noS))]
def LT62_1 (F : Nat) : Nat → Option LoopS := ltab []
theorem E62_1g (F : Nat) (c21_1 : List Int → List Int → (Bool → Option Res) → Option Res) (c38_1 : Int → Int → Int → Int → Int → (Int → Option Res) → Option Res) (c46_1 : Int → Int → Int → Int → (Bool → Option Res) → Option Res) (c48_1 : Int → Int → Int → Int → (List Int → Option Res) → Option Res) (c54_1 : Int → Int → Int → Int → (Int → Option Res) → Option Res) (c56_1 : Int → Int → Int → Int → Int → (Int → Option Res) → Option Res) (c58_1 : Int → Int → Int → Int → Int → (List Int → Option Res) → Option Res)   (d : sh62_1.den) (K : KF) : evBody Try.prog (tab [(21, (mkS sh21_1 (fun d K => c21_1 d.2.1.2.1 d.2.2.1.2.1 (fun (y0 : Bool) => K [.lf (.bool y0)] [some ⟨d.2.1.1, [.seq (.int .i64) 0 d.2.1.2.1]⟩, some ⟨d.2.2.1.1, [.seq (.int .i64) 0 d.2.2.1.2.1]⟩])) noS)), (38, (mkS sh38_1 (fun d K => c38_1 d.1.1.1 d.1.1.2.1 d.1.1.2.2.1 d.1.1.2.2.2.1 d.1.2.1 (fun (y0 : Int) => K [.lf (.int .i64 y0)] [])) noS)), (46, (mkS sh46_1 (fun d K => c46_1 d.1.1.1 d.1.1.2.1 d.1.1.2.2.1 d.1.1.2.2.2.1 (fun (y0 : Bool) => K [.lf (.bool y0)] [])) noS)), (48, (mkS sh48_1 (fun d K => c48_1 d.1.1.1 d.1.1.2.1 d.1.1.2.2.1 d.1.1.2.2.2.1 (fun (y0 : List Int) => K [.lf (.full 0)] [some ⟨false, [.seq (.int .i64) 0 y0]⟩])) noS)), (54, (mkS sh54_1 (fun d K => c54_1 d.1.1.1 d.1.1.2.1 d.1.1.2.2.1 d.1.1.2.2.2.1 (fun (y0 : Int) => K [.lf (.int .i64 y0)] [])) noS)), (56, (mkS sh56_1 (fun d K => c56_1 d.1.1.1 d.1.1.2.1 d.1.1.2.2.1 d.1.1.2.2.2.1 d.1.2.1 (fun (y0 : Int) => K [.lf (.int .i64 y0)] [])) noS)), (58, (mkS sh58_1 (fun d K => c58_1 d.1.1.1 d.1.1.2.1 d.1.1.2.2.1 d.1.1.2.2.2.1 d.1.2.1 (fun (y0 : List Int) => K [.lf (.full 0)] [some ⟨false, [.seq (.int .i64) 0 y0]⟩])) noS))]) 32 0 (ltab []) code62 Try.f62.results.toList (encT sh62_1.vs d.1) (encH sh62_1.h d.2) K = (fun (K0 : (Bool → Option Res)) => c46_1 5 2 1 3 (fun x1 => cond x1 (c48_1 5 2 1 3 (fun x2 => c21_1 x2 [5, 3, 2, 1] (fun x3 => cond x3 (c58_1 5 2 1 3 7 (fun x4 => c21_1 x4 [4] (fun x5 => cond x5 (c56_1 5 2 1 3 7 (fun x6 => cond (x6 == 9) (c38_1 5 2 1 3 0 (fun x7 => cond (x7 == 24) (c54_1 5 2 1 3 (fun x8 => K0 (x8 == 10)) ) (K0 false)) ) (K0 false)) ) (K0 false)) ) ) (K0 false)) ) ) (K0 false)) ) (fun (y0 : Bool) => K [.lf (.bool y0)] []) := by kernel_rfl
theorem E62_1 (F : Nat) (d : sh62_1.den) (K : KF) : evBody Try.prog (T62_1 F) 32 0 (LT62_1 F) code62 Try.f62.results.toList (encT sh62_1.vs d.1) (encH sh62_1.h d.2) K = f62_1 F (fun (y0 : Bool) => K [.lf (.bool y0)] []) := Eq.mp (by kernel_rfl) (E62_1g F (f21_1 F) (f38_1 F) (f46_1 F) (f48_1 F) (f54_1 F) (f56_1 F) (f58_1 F)   d K)
theorem S62_1_ok (F : Nat) (o : Summ) (ho : SoundFn Try.prog 62 o) : SoundFn Try.prog 62 (S62_1 F o) :=
  soundFn_of (fn := Try.f62) (c := code62) (by kernel_rfl) (tab_cons (S21_1_ok F _ (noS_sound enter21)) (tab_cons (S38_1_ok F _ (noS_sound enter38)) (tab_cons (S46_1_ok F _ (noS_sound enter46)) (tab_cons (S48_1_ok F _ (noS_sound enter48)) (tab_cons (S54_1_ok F _ (noS_sound enter54)) (tab_cons (S56_1_ok F _ (noS_sound enter56)) (tab_cons (S58_1_ok F _ (noS_sound enter58)) tab_nil))))))) (by kernel_rfl) (by kernel_rfl) ho (by rw [loops62]; exact loopsOK_nil) (E62_1 F)
end Go.Proofs.Ytlokielmpdjedaa.X
