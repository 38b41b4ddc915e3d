import Derived.Test.YtlokielmpdjedaaEvS17
import Derived.Test.YtlokielmpdjedaaProg
import Derived.KernelRfl
import Derived.Test.YtlokielmpdjedaaEvF48
namespace Go.Proofs.Ytlokielmpdjedaa.X
open Go Go.Proofs.Ytlokielmpdjedaa.Ev Go.Proofs
set_option linter.unusedVariables false
/-! geom.Nodes -/
def f50_1_l3 {β : Type} (F : Nat) (v3 : Int) (v5 : List Int) (K0 : Int → Option β) : Nat → Int → Int → Option β
  | 0, _, _ => none
  | k + 1, v2, v4 => cond (decide (v4 < v3)) (cond (decide ((0 : Int) ≤ v4 ∧ v4 < ((v5.length : Nat) : Int))) (cond (decide (0 + v4.toNat < v5.length)) (f50_1_l3 F v3 v5 K0 k (IntKind.i64.wrap (v2 + (v5.getD (0 + v4.toNat) 0))) (IntKind.i64.wrap (v4 + 1))) none) none) (K0 v2)
def f50_1 {β : Type} (F : Nat) (a1 : Int) (a2 : Int) (a3 : Int) (a4 : Int) (K0 : Int → Option β) : Option β := f48_1 F a1 a2 a3 a4 (fun x1 => f50_1_l3 F ((x1.length : Nat) : Int) x1 (fun x6 => K0 x6) F 0 0) 
def sh50_1 : Sh := ⟨[.agg [.int .i64, .int .i64, .int .i64, .int .i64]], []⟩
def S50_1 (F : Nat) (o : Summ) : Summ := mkS sh50_1 (fun d K => f50_1 F d.1.1.1 d.1.1.2.1 d.1.1.2.2.1 d.1.1.2.2.2.1 (fun (y0 : Int) => K [.lf (.int .i64 y0)] [])) o
noncomputable def code50 : Code := bodyOf Try.f50
noncomputable def b50_0 : Code := cB (cB (cR (cL (cR (cR (code50))))))
theorem loops50 : loopsOf code50 = [b50_0] := by kernel_rfl
theorem enter50 : ∀ args w, (callFunc 50 args).run Try.prog w = .ok (.enter 50 args) w := enter_of (fn := Try.f50) (by kernel_rfl) (by kernel_rfl) (by kernel_rfl)
def T50_1 (F : Nat) : FuncId → Option Summ := tab [(48, (S48_1 F noS))]
def sh50_1_l3 : Sh := ⟨[.lf (.int .i64), .lf (.full 0), .lf (.int .i64), .lf (.int .i64)], [some ⟨some false, [.seq (.int .i64) 0]⟩]⟩
def G50_1_3 (F k : Nat) : LoopS := mkG sh50_1_l3 [3, 7, 8, 9] (outT [(.exit 0, [3])]) (fun d K => f50_1_l3 F d.1.2.2.1 d.2.1.2.1 (fun (y0 : Int) => K (.exit 0) [.tv (.lf (.int .i64 y0))] [some ⟨false, [.seq (.int .i64) 0 d.2.1.2.1]⟩]) k d.1.1 d.1.2.2.2.1)
def LT50_1 (F : Nat) : Nat → Option LoopS := ltab [(3, G50_1_3 F F)]
theorem L50_1_3g (F k : Nat) (c48_1 : Int → Int → Int → Int → (List Int → Option Res) → Option Res)  (l3 : Int → List Int → (Int → Option Res) → Nat → Int → Int → Option Res) (X3 : LoopS) (d : sh50_1_l3.den) (K : KL) : (fun (v3 : Int) (v5 : List Int) (K0 : (Int → Option Res)) (k : Nat) (v2 : Int) (v4 : Int) => cond (decide (v4 < v3)) (cond (decide ((0 : Int) ≤ v4 ∧ v4 < ((v5.length : Nat) : Int))) (cond (decide (0 + v4.toNat < v5.length)) (l3 v3 v5 K0 k (IntKind.i64.wrap (v2 + (v5.getD (0 + v4.toNat) 0))) (IntKind.i64.wrap (v4 + 1))) none) none) (K0 v2)) d.1.2.2.1 d.2.1.2.1 (fun (y0 : Int) => K (.exit 0) [.tv (.lf (.int .i64 y0))] [some ⟨false, [.seq (.int .i64) 0 d.2.1.2.1]⟩]) k d.1.1 d.1.2.2.2.1 = roundOf Try.prog (tab [(48, (mkS sh48_1 (fun d K => c48_1 d.1.1.1 d.1.1.2.1 d.1.1.2.2.1 d.1.1.2.2.2.1 (fun (y0 : List Int) => K [.lf (.full 0)] [some ⟨false, [.seq (.int .i64) 0 y0]⟩])) noS))]) 18 0 (ltab [(3, X3)]) (mkG sh50_1_l3 [3, 7, 8, 9] (outT [(.exit 0, [3])]) (fun d K => l3 d.1.2.2.1 d.2.1.2.1 (fun (y0 : Int) => K (.exit 0) [.tv (.lf (.int .i64 y0))] [some ⟨false, [.seq (.int .i64) 0 d.2.1.2.1]⟩]) k d.1.1 d.1.2.2.2.1)) b50_0 (encT sh50_1_l3.vs d.1) (encH sh50_1_l3.h d.2) K := by kernel_rfl
theorem L50_1_3 (F : Nat) : LoopOK Try.prog (T50_1 F) 18 0 (LT50_1 F) (G50_1_3 F F) b50_0 :=
  loopOK_of (s := sh50_1_l3) (live := [3, 7, 8, 9]) (out := (outT [(.exit 0, [3])])) (fun k d K => f50_1_l3 F d.1.2.2.1 d.2.1.2.1 (fun (y0 : Int) => K (.exit 0) [.tv (.lf (.int .i64 y0))] [some ⟨false, [.seq (.int .i64) 0 d.2.1.2.1]⟩]) k d.1.1 d.1.2.2.2.1) F (fun d K => by kernel_rfl)  (fun k d K => Eq.mp (by kernel_rfl) (L50_1_3g F k (f48_1 F)  (f50_1_l3 F) (G50_1_3 F F) d K))
theorem E50_1g (F : Nat) (c48_1 : Int → Int → Int → Int → (List Int → Option Res) → Option Res) (l3 : Int → List Int → (Int → Option Res) → Nat → Int → Int → Option Res)  (d : sh50_1.den) (K : KF) : evBody Try.prog (tab [(48, (mkS sh48_1 (fun d K => c48_1 d.1.1.1 d.1.1.2.1 d.1.1.2.2.1 d.1.1.2.2.2.1 (fun (y0 : List Int) => K [.lf (.full 0)] [some ⟨false, [.seq (.int .i64) 0 y0]⟩])) noS))]) 18 0 (ltab [(3, mkG sh50_1_l3 [3, 7, 8, 9] (outT [(.exit 0, [3])]) (fun d K => l3 d.1.2.2.1 d.2.1.2.1 (fun (y0 : Int) => K (.exit 0) [.tv (.lf (.int .i64 y0))] [some ⟨false, [.seq (.int .i64) 0 d.2.1.2.1]⟩]) F d.1.1 d.1.2.2.2.1))]) code50 Try.f50.results.toList (encT sh50_1.vs d.1) (encH sh50_1.h d.2) K = (fun (a1 : Int) (a2 : Int) (a3 : Int) (a4 : Int) (K0 : (Int → Option Res)) => c48_1 a1 a2 a3 a4 (fun x1 => l3 ((x1.length : Nat) : Int) x1 (fun x6 => K0 x6) F 0 0) ) d.1.1.1 d.1.1.2.1 d.1.1.2.2.1 d.1.1.2.2.2.1 (fun (y0 : Int) => K [.lf (.int .i64 y0)] []) := by kernel_rfl
theorem E50_1 (F : Nat) (d : sh50_1.den) (K : KF) : evBody Try.prog (T50_1 F) 18 0 (LT50_1 F) code50 Try.f50.results.toList (encT sh50_1.vs d.1) (encH sh50_1.h d.2) K = f50_1 F d.1.1.1 d.1.1.2.1 d.1.1.2.2.1 d.1.1.2.2.2.1 (fun (y0 : Int) => K [.lf (.int .i64 y0)] []) := Eq.mp (by kernel_rfl) (E50_1g F (f48_1 F) (f50_1_l3 F)  d K)
theorem S50_1_ok (F : Nat) (o : Summ) (ho : SoundFn Try.prog 50 o) : SoundFn Try.prog 50 (S50_1 F o) :=
  soundFn_of (fn := Try.f50) (c := code50) (by kernel_rfl) (tab_cons (S48_1_ok F _ (noS_sound enter48)) tab_nil) (by kernel_rfl) (by kernel_rfl) ho (by rw [loops50]; exact (loopsOK_cons (by kernel_rfl) (L50_1_3 F) loopsOK_nil)) (E50_1 F)
end Go.Proofs.Ytlokielmpdjedaa.X
