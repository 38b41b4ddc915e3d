import Derived.Test.YtlokielmpdjedaaEvS17
import Derived.Test.YtlokielmpdjedaaProg
import Derived.KernelRfl
import Derived.Test.YtlokielmpdjedaaEvF49
namespace Go.Proofs.Ytlokielmpdjedaa.X
open Go Go.Proofs.Ytlokielmpdjedaa.Ev Go.Proofs
set_option linter.unusedVariables false
/-! pentimentoref07.Nodes -/
def f51_1_l4 {β : Type} (F : Nat) (v4 : List Int) (K0 : Int → Option β) : Nat → Int → Int → Option β
  | 0, _, _ => none
  | k + 1, v2, v3 => cond (decide (v3 < ((v4.length : Nat) : Int))) (cond (decide ((0 : Int) ≤ v3 ∧ v3 < ((v4.length : Nat) : Int))) (cond (decide (0 + v3.toNat < v4.length)) (f51_1_l4 F v4 K0 k (IntKind.i64.wrap (v2 + (v4.getD (0 + v3.toNat) 0))) (IntKind.i64.wrap (v3 + 1))) none) none) (K0 v2)
def f51_1 {β : Type} (F : Nat) (a1 : Int) (a2 : Int) (a3 : Int) (a4 : Int) (K0 : Int → Option β) : Option β := f49_1 F a1 a2 a3 a4 (fun x1 => f51_1_l4 F x1 (fun x5 => K0 x5) F 0 0) 
def sh51_1 : Sh := ⟨[.agg [.int .i64, .int .i64, .int .i64, .int .i64]], []⟩
def S51_1 (F : Nat) (o : Summ) : Summ := mkS sh51_1 (fun d K => f51_1 F d.1.1.1 d.1.1.2.1 d.1.1.2.2.1 d.1.1.2.2.2.1 (fun (y0 : Int) => K [.lf (.int .i64 y0)] [])) o
noncomputable def code51 : Code := bodyOf Try.f51
noncomputable def b51_0 : Code := cB (cB (cR (cL (cR (cR (cR (code51)))))))
theorem loops51 : loopsOf code51 = [b51_0] := by kernel_rfl
theorem enter51 : ∀ args w, (callFunc 51 args).run Try.prog w = .ok (.enter 51 args) w := enter_of (fn := Try.f51) (by kernel_rfl) (by kernel_rfl) (by kernel_rfl)
def T51_1 (F : Nat) : FuncId → Option Summ := tab [(49, (S49_1 F noS))]
def sh51_1_l4 : Sh := ⟨[.lf (.int .i64), .lf (.full 0), .lf (.int .i64)], [some ⟨some false, [.seq (.int .i64) 0]⟩]⟩
def G51_1_4 (F k : Nat) : LoopS := mkG sh51_1_l4 [3, 4, 5] (outT [(.exit 0, [3])]) (fun d K => f51_1_l4 F d.2.1.2.1 (fun (y0 : Int) => K (.exit 0) [.tv (.lf (.int .i64 y0))] [some ⟨false, [.seq (.int .i64) 0 d.2.1.2.1]⟩]) k d.1.1 d.1.2.2.1)
def LT51_1 (F : Nat) : Nat → Option LoopS := ltab [(4, G51_1_4 F F)]
theorem L51_1_4g (F k : Nat) (c49_1 : Int → Int → Int → Int → (List Int → Option Res) → Option Res)  (l4 : List Int → (Int → Option Res) → Nat → Int → Int → Option Res) (X4 : LoopS) (d : sh51_1_l4.den) (K : KL) : (fun (v4 : List Int) (K0 : (Int → Option Res)) (k : Nat) (v2 : Int) (v3 : Int) => cond (decide (v3 < ((v4.length : Nat) : Int))) (cond (decide ((0 : Int) ≤ v3 ∧ v3 < ((v4.length : Nat) : Int))) (cond (decide (0 + v3.toNat < v4.length)) (l4 v4 K0 k (IntKind.i64.wrap (v2 + (v4.getD (0 + v3.toNat) 0))) (IntKind.i64.wrap (v3 + 1))) none) none) (K0 v2)) d.2.1.2.1 (fun (y0 : Int) => K (.exit 0) [.tv (.lf (.int .i64 y0))] [some ⟨false, [.seq (.int .i64) 0 d.2.1.2.1]⟩]) k d.1.1 d.1.2.2.1 = roundOf Try.prog (tab [(49, (mkS sh49_1 (fun d K => c49_1 d.1.1.1 d.1.1.2.1 d.1.1.2.2.1 d.1.1.2.2.2.1 (fun (y0 : List Int) => K [.lf (.full 0)] [some ⟨false, [.seq (.int .i64) 0 y0]⟩])) noS))]) 21 0 (ltab [(4, X4)]) (mkG sh51_1_l4 [3, 4, 5] (outT [(.exit 0, [3])]) (fun d K => l4 d.2.1.2.1 (fun (y0 : Int) => K (.exit 0) [.tv (.lf (.int .i64 y0))] [some ⟨false, [.seq (.int .i64) 0 d.2.1.2.1]⟩]) k d.1.1 d.1.2.2.1)) b51_0 (encT sh51_1_l4.vs d.1) (encH sh51_1_l4.h d.2) K := by kernel_rfl
theorem L51_1_4 (F : Nat) : LoopOK Try.prog (T51_1 F) 21 0 (LT51_1 F) (G51_1_4 F F) b51_0 :=
  loopOK_of (s := sh51_1_l4) (live := [3, 4, 5]) (out := (outT [(.exit 0, [3])])) (fun k d K => f51_1_l4 F d.2.1.2.1 (fun (y0 : Int) => K (.exit 0) [.tv (.lf (.int .i64 y0))] [some ⟨false, [.seq (.int .i64) 0 d.2.1.2.1]⟩]) k d.1.1 d.1.2.2.1) F (fun d K => by kernel_rfl)  (fun k d K => Eq.mp (by kernel_rfl) (L51_1_4g F k (f49_1 F)  (f51_1_l4 F) (G51_1_4 F F) d K))
theorem E51_1g (F : Nat) (c49_1 : Int → Int → Int → Int → (List Int → Option Res) → Option Res) (l4 : List Int → (Int → Option Res) → Nat → Int → Int → Option Res)  (d : sh51_1.den) (K : KF) : evBody Try.prog (tab [(49, (mkS sh49_1 (fun d K => c49_1 d.1.1.1 d.1.1.2.1 d.1.1.2.2.1 d.1.1.2.2.2.1 (fun (y0 : List Int) => K [.lf (.full 0)] [some ⟨false, [.seq (.int .i64) 0 y0]⟩])) noS))]) 21 0 (ltab [(4, mkG sh51_1_l4 [3, 4, 5] (outT [(.exit 0, [3])]) (fun d K => l4 d.2.1.2.1 (fun (y0 : Int) => K (.exit 0) [.tv (.lf (.int .i64 y0))] [some ⟨false, [.seq (.int .i64) 0 d.2.1.2.1]⟩]) F d.1.1 d.1.2.2.1))]) code51 Try.f51.results.toList (encT sh51_1.vs d.1) (encH sh51_1.h d.2) K = (fun (a1 : Int) (a2 : Int) (a3 : Int) (a4 : Int) (K0 : (Int → Option Res)) => c49_1 a1 a2 a3 a4 (fun x1 => l4 x1 (fun x5 => K0 x5) F 0 0) ) d.1.1.1 d.1.1.2.1 d.1.1.2.2.1 d.1.1.2.2.2.1 (fun (y0 : Int) => K [.lf (.int .i64 y0)] []) := by kernel_rfl
theorem E51_1 (F : Nat) (d : sh51_1.den) (K : KF) : evBody Try.prog (T51_1 F) 21 0 (LT51_1 F) code51 Try.f51.results.toList (encT sh51_1.vs d.1) (encH sh51_1.h d.2) K = f51_1 F d.1.1.1 d.1.1.2.1 d.1.1.2.2.1 d.1.1.2.2.2.1 (fun (y0 : Int) => K [.lf (.int .i64 y0)] []) := Eq.mp (by kernel_rfl) (E51_1g F (f49_1 F) (f51_1_l4 F)  d K)
theorem S51_1_ok (F : Nat) (o : Summ) (ho : SoundFn Try.prog 51 o) : SoundFn Try.prog 51 (S51_1 F o) :=
  soundFn_of (fn := Try.f51) (c := code51) (by kernel_rfl) (tab_cons (S49_1_ok F _ (noS_sound enter49)) tab_nil) (by kernel_rfl) (by kernel_rfl) ho (by rw [loops51]; exact (loopsOK_cons (by kernel_rfl) (L51_1_4 F) loopsOK_nil)) (E51_1 F)
end Go.Proofs.Ytlokielmpdjedaa.X
