import Derived.Test.YtlokielmpdjedaaEvS17
import Derived.Test.YtlokielmpdjedaaProg
import Derived.KernelRfl
import Derived.Test.YtlokielmpdjedaaEvF70
import Derived.Test.YtlokielmpdjedaaEvF74v6559
import Derived.Test.YtlokielmpdjedaaEvF75v568
import Derived.Test.YtlokielmpdjedaaEvF76v568
namespace Go.Proofs.Ytlokielmpdjedaa.X
open Go Go.Proofs.Ytlokielmpdjedaa.Ev Go.Proofs
set_option linter.unusedVariables false
/-! pentimentolaw03.ShaNil -/
noncomputable def f14_1 {β : Type} (F : Nat) (a1 : List Int) (K0 : Bool → Option β) : Option β := f74_6559 F a1 (f75_568 F  (f76_568 F  (f70_1 F  (fun x1 => K0 x1) ) ) ) 
def sh14_1 : Sh := ⟨[.lf (.full 0)], [some ⟨none, [.seq (.int .u8) 0]⟩]⟩
noncomputable def S14_1 (F : Nat) (o : Summ) : Summ := mkS sh14_1 (fun d K => f14_1 F d.2.1.2.1 (fun (y0 : Bool) => K [.lf (.bool y0)] [some ⟨d.2.1.1, [.seq (.int .u8) 0 d.2.1.2.1]⟩])) o
noncomputable def code14 : Code := bodyOf Try.f14
theorem scopes14 : scopesOf code14 = [] := by kernel_rfl
theorem loops14 : loopsOf code14 = [] := by kernel_rfl
theorem enter14 : ∀ args w, (callFunc 14 args).run Try.prog w = .ok (.enter 14 args) w := enter_of (fn := Try.f14) (by kernel_rfl) (by kernel_rfl) (by kernel_rfl)
noncomputable def T14_1 (F : Nat) : FuncId → Option Summ := tab [(70, (S70_1 F noS)), (74, (S74_6559 F noS)), (75, (S75_568 F noS)), (76, (S76_568 F noS))]
noncomputable def LT14_1 (F : Nat) : Nat → Option LoopS := ltab []
theorem E14_1g (F : Nat) (c70_1 : (Bool → Option Res) → Option Res) (c74_6559 : List Int → (Option Res) → Option Res) (c75_568 : (Option Res) → Option Res) (c76_568 : (Option Res) → Option Res)   (d : sh14_1.den) (K : KF) : evBody Try.prog (tab [(70, (mkS sh70_1 (fun d K => c70_1 (fun (y0 : Bool) => K [.lf (.bool y0)] [])) noS)), (74, (mkS sh74_6559 (fun d K => c74_6559 d.2.1.2.1 (K [] [some ⟨d.2.1.1, [.seq (.int .u8) 0 d.2.1.2.1]⟩])) noS)), (75, (mkS sh75_568 (fun d K => c75_568 (K [.lf (.str ByteArray.empty)] [])) noS)), (76, (mkS sh76_568 (fun d K => c76_568 (K [.lf (.int .u64 0)] [])) noS))]) 18 1 (ltab []) code14 Try.f14.results.toList (encT sh14_1.vs d.1) (encH sh14_1.h d.2) K = (fun (a1 : List Int) (K0 : (Bool → Option Res)) => c74_6559 a1 (c75_568  (c76_568  (c70_1  (fun x1 => K0 x1) ) ) ) ) d.2.1.2.1 (fun (y0 : Bool) => K [.lf (.bool y0)] [some ⟨d.2.1.1, [.seq (.int .u8) 0 d.2.1.2.1]⟩]) := by kernel_rfl
theorem E14_1 (F : Nat) (d : sh14_1.den) (K : KF) : evBody Try.prog (T14_1 F) 18 1 (LT14_1 F) code14 Try.f14.results.toList (encT sh14_1.vs d.1) (encH sh14_1.h d.2) K = f14_1 F d.2.1.2.1 (fun (y0 : Bool) => K [.lf (.bool y0)] [some ⟨d.2.1.1, [.seq (.int .u8) 0 d.2.1.2.1]⟩]) := Eq.mp (by kernel_rfl) (E14_1g F (f70_1 F) (f74_6559 F) (f75_568 F) (f76_568 F)   d K)
theorem S14_1_ok (F : Nat) (o : Summ) (ho : SoundFn Try.prog 14 o) : SoundFn Try.prog 14 (S14_1 F o) :=
  soundFn_of (fn := Try.f14) (c := code14) (by kernel_rfl) (tab_cons (S70_1_ok F _ (noS_sound enter70)) (tab_cons (S74_6559_ok F _ (noS_sound enter74)) (tab_cons (S75_568_ok F _ (noS_sound enter75)) (tab_cons (S76_568_ok F _ (noS_sound enter76)) tab_nil)))) (by kernel_rfl) (by kernel_rfl) ho (by rw [loops14]; exact loopsOK_nil) (by rw [scopes14]; exact scopesOK_nil) (E14_1 F)
end Go.Proofs.Ytlokielmpdjedaa.X
