import Derived.Test.YtlokielmpdjedaaEvS17
import Derived.Test.YtlokielmpdjedaaProg
import Derived.KernelRfl
import Derived.Test.YtlokielmpdjedaaEvF73
import Derived.Test.YtlokielmpdjedaaEvF74
import Derived.Test.YtlokielmpdjedaaEvF75
namespace Go.Proofs.Ytlokielmpdjedaa.X
open Go Go.Proofs.Ytlokielmpdjedaa.Ev Go.Proofs
set_option linter.unusedVariables false
/-! sha.Sum -/
noncomputable def f71_1 {β : Type} (F : Nat) (a1 : List Int) (K0 : ByteArray → Option β) : Option β := f73_1 F  (fun x1 x2 => f74_1 F x1 0 x2 a1 (fun x3 x4 x5 => f75_1 F x3 x4 x5 (fun x6 => K0 x6) ) ) 
def sh71_1 : Sh := ⟨[.lf (.full 0)], [some ⟨none, [.seq (.int .u8) 0]⟩]⟩
noncomputable def S71_1 (F : Nat) (o : Summ) : Summ := mkS sh71_1 (fun d K => f71_1 F d.2.1.2.1 (fun (y0 : ByteArray) => K [.lf (.str y0)] [some ⟨d.2.1.1, [.seq (.int .u8) 0 d.2.1.2.1]⟩])) o
noncomputable def code71 : Code := bodyOf Try.f71
theorem scopes71 : scopesOf code71 = [] := by kernel_rfl
theorem loops71 : loopsOf code71 = [] := by kernel_rfl
theorem enter71 : ∀ args w, (callFunc 71 args).run Try.prog w = .ok (.enter 71 args) w := enter_of (fn := Try.f71) (by kernel_rfl) (by kernel_rfl) (by kernel_rfl)
noncomputable def T71_1 (F : Nat) : FuncId → Option Summ := tab [(73, (S73_1 F noS)), (74, (S74_1 F noS)), (75, (S75_1 F noS))]
noncomputable def LT71_1 (F : Nat) : Nat → Option LoopS := ltab []
theorem E71_1g (F : Nat) (c73_1 : (List Int → List Int → Option Res) → Option Res) (c74_1 : List Int → Int → List Int → List Int → (List Int → Int → List Int → Option Res) → Option Res) (c75_1 : List Int → Int → List Int → (ByteArray → Option Res) → Option Res)   (d : sh71_1.den) (K : KF) : evBody Try.prog (tab [(73, (mkS sh73_1 (fun d K => c73_1 (fun (y0 : List Int) (y2 : List Int) => K [.lf (.ptr 0 0)] [some ⟨false, [.seq (.int .u32) 8 y0, .full 1, .int .u64 0]⟩, some ⟨false, [.seq (.int .u8) 0 y2]⟩])) noS)), (74, (mkS sh74_1 (fun d K => c74_1 d.2.1.2.1 d.2.1.2.2.2.1 d.2.2.1.2.1 d.2.2.2.1.2.1 (fun (y0 : List Int) (y1 : Int) (y3 : List Int) => K [] [some ⟨false, [.seq (.int .u32) 8 y0, .full 3, .int .u64 y1]⟩, none, some ⟨d.2.2.2.1.1, [.seq (.int .u8) 0 d.2.2.2.1.2.1]⟩, some ⟨false, [.seq (.int .u8) 0 y3]⟩])) noS)), (75, (mkS sh75_1 (fun d K => c75_1 d.2.1.2.1 d.2.1.2.2.2.1 d.2.2.1.2.1 (fun (y0 : ByteArray) => K [.lf (.str y0)] [some ⟨d.2.1.1, [.seq (.int .u32) 8 d.2.1.2.1, .full 1, .int .u64 d.2.1.2.2.2.1]⟩, some ⟨d.2.2.1.1, [.seq (.int .u8) 0 d.2.2.1.2.1]⟩])) noS))]) 10 1 (ltab []) code71 Try.f71.results.toList (encT sh71_1.vs d.1) (encH sh71_1.h d.2) K = (fun (a1 : List Int) (K0 : (ByteArray → Option Res)) => c73_1  (fun x1 x2 => c74_1 x1 0 x2 a1 (fun x3 x4 x5 => c75_1 x3 x4 x5 (fun x6 => K0 x6) ) ) ) d.2.1.2.1 (fun (y0 : ByteArray) => K [.lf (.str y0)] [some ⟨d.2.1.1, [.seq (.int .u8) 0 d.2.1.2.1]⟩]) := by kernel_rfl
theorem E71_1 (F : Nat) (d : sh71_1.den) (K : KF) : evBody Try.prog (T71_1 F) 10 1 (LT71_1 F) code71 Try.f71.results.toList (encT sh71_1.vs d.1) (encH sh71_1.h d.2) K = f71_1 F d.2.1.2.1 (fun (y0 : ByteArray) => K [.lf (.str y0)] [some ⟨d.2.1.1, [.seq (.int .u8) 0 d.2.1.2.1]⟩]) := Eq.mp (by kernel_rfl) (E71_1g F (f73_1 F) (f74_1 F) (f75_1 F)   d K)
theorem S71_1_ok (F : Nat) (o : Summ) (ho : SoundFn Try.prog 71 o) : SoundFn Try.prog 71 (S71_1 F o) :=
  soundFn_of (fn := Try.f71) (c := code71) (by kernel_rfl) (tab_cons (S73_1_ok F _ (noS_sound enter73)) (tab_cons (S74_1_ok F _ (noS_sound enter74)) (tab_cons (S75_1_ok F _ (noS_sound enter75)) tab_nil))) (by kernel_rfl) (by kernel_rfl) ho (by rw [loops71]; exact loopsOK_nil) (by rw [scopes71]; exact scopesOK_nil) (E71_1 F)
end Go.Proofs.Ytlokielmpdjedaa.X
