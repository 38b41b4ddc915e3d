import Derived.Test.YtlokielmpdjedaaEvS17
import Derived.Test.YtlokielmpdjedaaProg
import Derived.KernelRfl
import Derived.Test.YtlokielmpdjedaaEvF70
import Derived.Test.YtlokielmpdjedaaEvF71
import Derived.Test.YtlokielmpdjedaaEvF72
namespace Go.Proofs.Ytlokielmpdjedaa.X
open Go Go.Proofs.Ytlokielmpdjedaa.Ev Go.Proofs
set_option linter.unusedVariables false
/-! pentimentolaw03.ShaSums -/
noncomputable def f12_1 {β : Type} (F : Nat) (a1 : List Int) (K0 : Bool → Option β) : Option β := cond (decide (((a1.length : Nat) : Int) > 10000)) (f70_1 F  (fun x1 => K0 x1) ) (f71_1 F a1 (fun x2 => f72_1 F a1 (fun x3 => cond (x2.toList == x3.toList) (f70_1 F  (fun x4 => K0 x4) ) (K0 false)) ) )
def sh12_1 : Sh := ⟨[.lf (.full 0)], [some ⟨none, [.seq (.int .u8) 0]⟩]⟩
noncomputable def S12_1 (F : Nat) (o : Summ) : Summ := mkS sh12_1 (fun d K => f12_1 F d.2.1.2.1 (fun (y0 : Bool) => K [.lf (.bool y0)] [some ⟨d.2.1.1, [.seq (.int .u8) 0 d.2.1.2.1]⟩])) o
noncomputable def code12 : Code := bodyOf Try.f12
theorem scopes12 : scopesOf code12 = [] := by kernel_rfl
theorem loops12 : loopsOf code12 = [] := by kernel_rfl
theorem enter12 : ∀ args w, (callFunc 12 args).run Try.prog w = .ok (.enter 12 args) w := enter_of (fn := Try.f12) (by kernel_rfl) (by kernel_rfl) (by kernel_rfl)
noncomputable def T12_1 (F : Nat) : FuncId → Option Summ := tab [(70, (S70_1 F noS)), (71, (S71_1 F noS)), (72, (S72_1 F noS))]
noncomputable def LT12_1 (F : Nat) : Nat → Option LoopS := ltab []
theorem E12_1g (F : Nat) (c70_1 : (Bool → Option Res) → Option Res) (c71_1 : List Int → (ByteArray → Option Res) → Option Res) (c72_1 : List Int → (ByteArray → Option Res) → Option Res)   (d : sh12_1.den) (K : KF) : evBody Try.prog (tab [(70, (mkS sh70_1 (fun d K => c70_1 (fun (y0 : Bool) => K [.lf (.bool y0)] [])) noS)), (71, (mkS sh71_1 (fun d K => c71_1 d.2.1.2.1 (fun (y0 : ByteArray) => K [.lf (.str y0)] [some ⟨d.2.1.1, [.seq (.int .u8) 0 d.2.1.2.1]⟩])) noS)), (72, (mkS sh72_1 (fun d K => c72_1 d.2.1.2.1 (fun (y0 : ByteArray) => K [.lf (.str y0)] [some ⟨d.2.1.1, [.seq (.int .u8) 0 d.2.1.2.1]⟩])) noS))]) 15 1 (ltab []) code12 Try.f12.results.toList (encT sh12_1.vs d.1) (encH sh12_1.h d.2) K = (fun (a1 : List Int) (K0 : (Bool → Option Res)) => cond (decide (((a1.length : Nat) : Int) > 10000)) (c70_1  (fun x1 => K0 x1) ) (c71_1 a1 (fun x2 => c72_1 a1 (fun x3 => cond (x2.toList == x3.toList) (c70_1  (fun x4 => K0 x4) ) (K0 false)) ) )) d.2.1.2.1 (fun (y0 : Bool) => K [.lf (.bool y0)] [some ⟨d.2.1.1, [.seq (.int .u8) 0 d.2.1.2.1]⟩]) := by kernel_rfl
theorem E12_1 (F : Nat) (d : sh12_1.den) (K : KF) : evBody Try.prog (T12_1 F) 15 1 (LT12_1 F) code12 Try.f12.results.toList (encT sh12_1.vs d.1) (encH sh12_1.h d.2) K = f12_1 F d.2.1.2.1 (fun (y0 : Bool) => K [.lf (.bool y0)] [some ⟨d.2.1.1, [.seq (.int .u8) 0 d.2.1.2.1]⟩]) := Eq.mp (by kernel_rfl) (E12_1g F (f70_1 F) (f71_1 F) (f72_1 F)   d K)
theorem S12_1_ok (F : Nat) (o : Summ) (ho : SoundFn Try.prog 12 o) : SoundFn Try.prog 12 (S12_1 F o) :=
  soundFn_of (fn := Try.f12) (c := code12) (by kernel_rfl) (tab_cons (S70_1_ok F _ (noS_sound enter70)) (tab_cons (S71_1_ok F _ (noS_sound enter71)) (tab_cons (S72_1_ok F _ (noS_sound enter72)) tab_nil))) (by kernel_rfl) (by kernel_rfl) ho (by rw [loops12]; exact loopsOK_nil) (by rw [scopes12]; exact scopesOK_nil) (E12_1 F)
end Go.Proofs.Ytlokielmpdjedaa.X
