import Derived.Test.YtlokielmpdjedaaEvS17
import Derived.Test.YtlokielmpdjedaaProg
import Derived.KernelRfl
import Derived.Test.YtlokielmpdjedaaEvF71
import Derived.Test.YtlokielmpdjedaaEvF73
import Derived.Test.YtlokielmpdjedaaEvF74
import Derived.Test.YtlokielmpdjedaaEvF75
import Derived.Test.YtlokielmpdjedaaEvF76
namespace Go.Proofs.Ytlokielmpdjedaa.X
open Go Go.Proofs.Ytlokielmpdjedaa.Ev Go.Proofs
set_option linter.unusedVariables false
/-! pentimentolaw03.known -/
noncomputable def f70_1 {β : Type} (F : Nat)  (K0 : Bool → Option β) : Option β := f73_1 F  (fun x1 x2 => f74_1 F x1 0 x2 [97, 98, 99] (fun x3 x4 x5 => f75_1 F x3 x4 x5 (fun x6 => cond ((x6.size : Int) == 32) (cond (decide ((0 : Int) ≤ (0 : Int) ∧ (0 : Int) ≤ (4 : Int) ∧ (4 : Int) ≤ (x6.size : Int))) (cond ((x6.extract 0 4).toList == (⟨#[186, 120, 22, 191]⟩ : ByteArray).toList) (f71_1 F [97, 98, 99] (fun x7 => cond (x7.toList == x6.toList) (f76_1 F x3 x4 x5 (K0 (x4 == 3)) ) (K0 false)) ) (K0 false)) none) (K0 false)) ) ) 
def sh70_1 : Sh := ⟨[], []⟩
noncomputable def S70_1 (F : Nat) (o : Summ) : Summ := mkS sh70_1 (fun d K => f70_1 F (fun (y0 : Bool) => K [.lf (.bool y0)] [])) o
noncomputable def code70 : Code := bodyOf Try.f70
theorem scopes70 : scopesOf code70 = [] := by kernel_rfl
theorem loops70 : loopsOf code70 = [] := by kernel_rfl
theorem enter70 : ∀ args w, (callFunc 70 args).run Try.prog w = .ok (.enter 70 args) w := enter_of (fn := Try.f70) (by kernel_rfl) (by kernel_rfl) (by kernel_rfl)
noncomputable def T70_1 (F : Nat) : FuncId → Option Summ := tab [(71, (S71_1 F noS)), (73, (S73_1 F noS)), (74, (S74_1 F noS)), (75, (S75_1 F noS)), (76, (S76_1 F noS))]
noncomputable def LT70_1 (F : Nat) : Nat → Option LoopS := ltab []
theorem E70_1g (F : Nat) (c71_1 : List Int → (ByteArray → Option Res) → Option Res) (c73_1 : (List Int → List Int → Option Res) → Option Res) (c74_1 : List Int → Int → List Int → List Int → (List Int → Int → List Int → Option Res) → Option Res) (c75_1 : List Int → Int → List Int → (ByteArray → Option Res) → Option Res) (c76_1 : List Int → Int → List Int → (Option Res) → Option Res)   (d : sh70_1.den) (K : KF) : evBody Try.prog (tab [(71, (mkS sh71_1 (fun d K => c71_1 d.2.1.2.1 (fun (y0 : ByteArray) => K [.lf (.str y0)] [some ⟨d.2.1.1, [.seq (.int .u8) 0 d.2.1.2.1]⟩])) noS)), (73, (mkS sh73_1 (fun d K => c73_1 (fun (y0 : List Int) (y2 : List Int) => K [.lf (.ptr 0 0)] [some ⟨false, [.seq (.int .u32) 8 y0, .full 1, .int .u64 0]⟩, some ⟨false, [.seq (.int .u8) 0 y2]⟩])) noS)), (74, (mkS sh74_1 (fun d K => c74_1 d.2.1.2.1 d.2.1.2.2.2.1 d.2.2.1.2.1 d.2.2.2.1.2.1 (fun (y0 : List Int) (y1 : Int) (y3 : List Int) => K [] [some ⟨false, [.seq (.int .u32) 8 y0, .full 3, .int .u64 y1]⟩, none, some ⟨d.2.2.2.1.1, [.seq (.int .u8) 0 d.2.2.2.1.2.1]⟩, some ⟨false, [.seq (.int .u8) 0 y3]⟩])) noS)), (75, (mkS sh75_1 (fun d K => c75_1 d.2.1.2.1 d.2.1.2.2.2.1 d.2.2.1.2.1 (fun (y0 : ByteArray) => K [.lf (.str y0)] [some ⟨d.2.1.1, [.seq (.int .u32) 8 d.2.1.2.1, .full 1, .int .u64 d.2.1.2.2.2.1]⟩, some ⟨d.2.2.1.1, [.seq (.int .u8) 0 d.2.2.1.2.1]⟩])) noS)), (76, (mkS sh76_1 (fun d K => c76_1 d.2.1.2.1 d.2.1.2.2.2.1 d.2.2.1.2.1 (K [.lf (.int .u64 d.2.1.2.2.2.1)] [some ⟨d.2.1.1, [.seq (.int .u32) 8 d.2.1.2.1, .full 1, .int .u64 d.2.1.2.2.2.1]⟩, some ⟨d.2.2.1.1, [.seq (.int .u8) 0 d.2.2.1.2.1]⟩])) noS))]) 30 0 (ltab []) code70 Try.f70.results.toList (encT sh70_1.vs d.1) (encH sh70_1.h d.2) K = (fun (K0 : (Bool → Option Res)) => c73_1  (fun x1 x2 => c74_1 x1 0 x2 [97, 98, 99] (fun x3 x4 x5 => c75_1 x3 x4 x5 (fun x6 => cond ((x6.size : Int) == 32) (cond (decide ((0 : Int) ≤ (0 : Int) ∧ (0 : Int) ≤ (4 : Int) ∧ (4 : Int) ≤ (x6.size : Int))) (cond ((x6.extract 0 4).toList == (⟨#[186, 120, 22, 191]⟩ : ByteArray).toList) (c71_1 [97, 98, 99] (fun x7 => cond (x7.toList == x6.toList) (c76_1 x3 x4 x5 (K0 (x4 == 3)) ) (K0 false)) ) (K0 false)) none) (K0 false)) ) ) ) (fun (y0 : Bool) => K [.lf (.bool y0)] []) := by kernel_rfl
theorem E70_1 (F : Nat) (d : sh70_1.den) (K : KF) : evBody Try.prog (T70_1 F) 30 0 (LT70_1 F) code70 Try.f70.results.toList (encT sh70_1.vs d.1) (encH sh70_1.h d.2) K = f70_1 F (fun (y0 : Bool) => K [.lf (.bool y0)] []) := Eq.mp (by kernel_rfl) (E70_1g F (f71_1 F) (f73_1 F) (f74_1 F) (f75_1 F) (f76_1 F)   d K)
theorem S70_1_ok (F : Nat) (o : Summ) (ho : SoundFn Try.prog 70 o) : SoundFn Try.prog 70 (S70_1 F o) :=
  soundFn_of (fn := Try.f70) (c := code70) (by kernel_rfl) (tab_cons (S71_1_ok F _ (noS_sound enter71)) (tab_cons (S73_1_ok F _ (noS_sound enter73)) (tab_cons (S74_1_ok F _ (noS_sound enter74)) (tab_cons (S75_1_ok F _ (noS_sound enter75)) (tab_cons (S76_1_ok F _ (noS_sound enter76)) tab_nil))))) (by kernel_rfl) (by kernel_rfl) ho (by rw [loops70]; exact loopsOK_nil) (by rw [scopes70]; exact scopesOK_nil) (E70_1 F)
end Go.Proofs.Ytlokielmpdjedaa.X
