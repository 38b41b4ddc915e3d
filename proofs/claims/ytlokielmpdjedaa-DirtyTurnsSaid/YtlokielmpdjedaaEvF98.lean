import Derived.Test.YtlokielmpdjedaaEvS17
import Derived.Test.YtlokielmpdjedaaProg
import Derived.KernelRfl
import Derived.Test.YtlokielmpdjedaaEvF100
namespace Go.Proofs.Ytlokielmpdjedaa.X
open Go Go.Proofs.Ytlokielmpdjedaa.Ev Go.Proofs
set_option linter.unusedVariables false
/-! pentimentoref10.Set).told -/
def f98_1_l3 {β : Type} (F : Nat) (v2 : List Int) (K0 : List Bool → Option β) : Nat → Int → List Bool → Option β
  | 0, _, _ => none
  | k + 1, v1, v3 => cond (decide (v1 < 128)) (f100_1 F v2 v1 (fun x4 => cond (decide ((v3.length + 1) * 1 ≤ 70368744177664)) (f98_1_l3 F v2 K0 k (IntKind.i64.wrap (v1 + 1)) (v3 ++ [x4])) none) ) (K0 v3)
def f98_1 {β : Type} (F : Nat) (a1 : List Int) (K0 : List Bool → Option β) : Option β := f98_1_l3 F a1 (fun x5 => K0 x5) F 0 []
def sh98_1 : Sh := ⟨[.agg [.seq (.int .u64) 2]], []⟩
def S98_1 (F : Nat) (o : Summ) : Summ := mkS sh98_1 (fun d K => f98_1 F d.1.1.1 (fun (y0 : List Bool) => K [.lf (.full 0)] [some ⟨false, [.seq .bool 0 y0]⟩])) o
noncomputable def code98 : Code := bodyOf Try.f98
noncomputable def b98_0 : Code := cB (cB (cR (cL (cR (cR (code98))))))
theorem loops98 : loopsOf code98 = [b98_0] := by kernel_rfl
theorem enter98 : ∀ args w, (callFunc 98 args).run Try.prog w = .ok (.enter 98 args) w := enter_of (fn := Try.f98) (by kernel_rfl) (by kernel_rfl) (by kernel_rfl)
def T98_1 (F : Nat) : FuncId → Option Summ := tab [(100, (S100_1 F noS))]
def sh98_1_l3 : Sh := ⟨[.lf (.ptr 0 0), .lf (.full 1), .lf (.int .i64)], [some ⟨some false, [.seq (.int .u64) 2]⟩, some ⟨some false, [.seq .bool 0]⟩]⟩
def G98_1_3 (F k : Nat) : LoopS := mkG sh98_1_l3 [1, 3, 4] (outT [(.exit 0, [3])]) (fun d K => f98_1_l3 F d.2.1.2.1 (fun (y1 : List Bool) => K (.exit 0) [.tv (.lf (.full 1))] [some ⟨false, [.seq (.int .u64) 2 d.2.1.2.1]⟩, some ⟨false, [.seq .bool 0 y1]⟩]) k d.1.2.2.1 d.2.2.1.2.1)
def LT98_1 (F : Nat) : Nat → Option LoopS := ltab [(3, G98_1_3 F F)]
theorem L98_1_3g (F k : Nat) (c100_1 : List Int → Int → (Bool → Option Res) → Option Res)  (l3 : List Int → (List Bool → Option Res) → Nat → Int → List Bool → Option Res) (X3 : LoopS) (d : sh98_1_l3.den) (K : KL) : (fun (v2 : List Int) (K0 : (List Bool → Option Res)) (k : Nat) (v1 : Int) (v3 : List Bool) => cond (decide (v1 < 128)) (c100_1 v2 v1 (fun x4 => cond (decide ((v3.length + 1) * 1 ≤ 70368744177664)) (l3 v2 K0 k (IntKind.i64.wrap (v1 + 1)) (v3 ++ [x4])) none) ) (K0 v3)) d.2.1.2.1 (fun (y1 : List Bool) => K (.exit 0) [.tv (.lf (.full 1))] [some ⟨false, [.seq (.int .u64) 2 d.2.1.2.1]⟩, some ⟨false, [.seq .bool 0 y1]⟩]) k d.1.2.2.1 d.2.2.1.2.1 = roundOf Try.prog (tab [(100, (mkS sh100_1 (fun d K => c100_1 d.1.1.1 d.1.2.1 (fun (y0 : Bool) => K [.lf (.bool y0)] [])) noS))]) 16 0 (ltab [(3, X3)]) (mkG sh98_1_l3 [1, 3, 4] (outT [(.exit 0, [3])]) (fun d K => l3 d.2.1.2.1 (fun (y1 : List Bool) => K (.exit 0) [.tv (.lf (.full 1))] [some ⟨false, [.seq (.int .u64) 2 d.2.1.2.1]⟩, some ⟨false, [.seq .bool 0 y1]⟩]) k d.1.2.2.1 d.2.2.1.2.1)) b98_0 (encT sh98_1_l3.vs d.1) (encH sh98_1_l3.h d.2) K := by kernel_rfl
theorem L98_1_3 (F : Nat) : LoopOK Try.prog (T98_1 F) 16 0 (LT98_1 F) (G98_1_3 F F) b98_0 :=
  loopOK_of (s := sh98_1_l3) (live := [1, 3, 4]) (out := (outT [(.exit 0, [3])])) (fun k d K => f98_1_l3 F d.2.1.2.1 (fun (y1 : List Bool) => K (.exit 0) [.tv (.lf (.full 1))] [some ⟨false, [.seq (.int .u64) 2 d.2.1.2.1]⟩, some ⟨false, [.seq .bool 0 y1]⟩]) k d.1.2.2.1 d.2.2.1.2.1) F (fun d K => by kernel_rfl)  (fun k d K => Eq.mp (by kernel_rfl) (L98_1_3g F k (f100_1 F)  (f98_1_l3 F) (G98_1_3 F F) d K))
theorem E98_1g (F : Nat) (c100_1 : List Int → Int → (Bool → Option Res) → Option Res) (l3 : List Int → (List Bool → Option Res) → Nat → Int → List Bool → Option Res)  (d : sh98_1.den) (K : KF) : evBody Try.prog (tab [(100, (mkS sh100_1 (fun d K => c100_1 d.1.1.1 d.1.2.1 (fun (y0 : Bool) => K [.lf (.bool y0)] [])) noS))]) 16 0 (ltab [(3, mkG sh98_1_l3 [1, 3, 4] (outT [(.exit 0, [3])]) (fun d K => l3 d.2.1.2.1 (fun (y1 : List Bool) => K (.exit 0) [.tv (.lf (.full 1))] [some ⟨false, [.seq (.int .u64) 2 d.2.1.2.1]⟩, some ⟨false, [.seq .bool 0 y1]⟩]) F d.1.2.2.1 d.2.2.1.2.1))]) code98 Try.f98.results.toList (encT sh98_1.vs d.1) (encH sh98_1.h d.2) K = (fun (a1 : List Int) (K0 : (List Bool → Option Res)) => l3 a1 (fun x5 => K0 x5) F 0 []) d.1.1.1 (fun (y0 : List Bool) => K [.lf (.full 0)] [some ⟨false, [.seq .bool 0 y0]⟩]) := by kernel_rfl
theorem E98_1 (F : Nat) (d : sh98_1.den) (K : KF) : evBody Try.prog (T98_1 F) 16 0 (LT98_1 F) code98 Try.f98.results.toList (encT sh98_1.vs d.1) (encH sh98_1.h d.2) K = f98_1 F d.1.1.1 (fun (y0 : List Bool) => K [.lf (.full 0)] [some ⟨false, [.seq .bool 0 y0]⟩]) := Eq.mp (by kernel_rfl) (E98_1g F (f100_1 F) (f98_1_l3 F)  d K)
theorem S98_1_ok (F : Nat) (o : Summ) (ho : SoundFn Try.prog 98 o) : SoundFn Try.prog 98 (S98_1 F o) :=
  soundFn_of (fn := Try.f98) (c := code98) (by kernel_rfl) (tab_cons (S100_1_ok F _ (noS_sound enter100)) tab_nil) (by kernel_rfl) (by kernel_rfl) ho (by rw [loops98]; exact (loopsOK_cons (by kernel_rfl) (L98_1_3 F) loopsOK_nil)) (E98_1 F)
end Go.Proofs.Ytlokielmpdjedaa.X
