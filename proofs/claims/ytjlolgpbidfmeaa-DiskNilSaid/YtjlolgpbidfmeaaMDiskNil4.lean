/- Merged: EvF58, EvF111, EvF80, EvF64, EvF67, EvF76, EvF50, EvF107, EvF54, EvF54v568, EvF55v6206, EvF56v7155, EvF57v568, EvF58v6206, EvF88, EvF60, EvF60v568, EvF62, EvF62v6206, EvF63, EvF63v568, EvF64v1385, EvF65, EvF65v568, EvF66, EvF66v568, EvF67v568, EvF14, EvF49, EvF75, EvF52, EvF106, EvF100, EvF129, EvF91, EvF101, EvF102, EvF103, EvF104, EvF105. -/
import Derived.Test.YtjlolgpbidfmeaaMDiskNil3
import Derived.Test.YtjlolgpbidfmeaaProg
import Derived.KernelRfl
section
namespace Go.Proofs.Ytjlolgpbidfmeaa.X
open Go Go.Proofs.Ytjlolgpbidfmeaa.Ev Go.Proofs
set_option linter.unusedVariables false
set_option linter.unusedSectionVars false
/-! disk.Disk).Read -/
noncomputable def f58_1_r2000006_l1 {β : Type} (F : Nat) (v10 : Int) (v11 : Bool) (v12 : Int) (v13 : List ByteArray) (v14 : List (Int × ByteArray)) (v15 : Int) (v16 : ByteArray) (v17 : Int) (K0 : ByteArray → Int → ByteArray → Option β) (K1 : Option β) : Nat → Int → Option β
  | 0, _ => none
  | k + 1, v9 => cond (decide (v9 ≥ 0)) (cond (decide ((0 : Int) ≤ v9 ∧ v9 < ((v14.length : Nat) : Int))) (cond (decide (0 + v9.toNat < v14.length)) (cond (((v14.getD (0 + v9.toNat) (0, ByteArray.empty)).1) == v15) (K0 ((v14.getD (0 + v9.toNat) (0, ByteArray.empty)).2) ((v14.getD (0 + v9.toNat) (0, ByteArray.empty)).1) ((v14.getD (0 + v9.toNat) (0, ByteArray.empty)).2)) (f58_1_r2000006_l1 F v10 v11 v12 v13 v14 v15 v16 v17 K0 K1 k (IntKind.i64.wrap (v9 - 1)))) none) none) (K1)
noncomputable def f58_1_r2000006 {β : Type} (F : Nat) (v1 : Int) (v2 : Bool) (v3 : Int) (v4 : List ByteArray) (v5 : List (Int × ByteArray)) (v6 : Int) (v7 : ByteArray) (v8 : Int) (K0 : ByteArray → Int → ByteArray → Option β) (K1 : Option β) : Option β := f58_1_r2000006_l1 F v1 v2 v3 v4 v5 v6 v7 v8 (fun x18 x19 x20 => K0 x18 x19 x20) (K1) F (IntKind.i64.wrap (((v5.length : Nat) : Int) - 1))
noncomputable def f58_1 {β : Type} (F : Nat) (a1 : Int) (a2 : Int) (a3 : Bool) (a4 : Int) (a5 : List ByteArray) (a6 : List (Int × ByteArray)) (K0 : ByteArray → Int → Option β) : Option β := cond a3 (K0 ByteArray.empty 5) (f109_1 F a6 (f58_1_r2000006 F a2 a3 a4 a5 a6 a1 ByteArray.empty 0 (fun x21 x22 x23 => K0 x21 0) (f55_1 F a1 a2 a3 a4 a5 a6 (fun x24 x25 => K0 x24 x25) ) ) )
variable [FZ]
def sh58_1 : Sh := ⟨[.lf (.ptr 0 0), .lf (.int .i64)], [some ⟨none, [.full 1, .full 2, .int .i64, .bool, .int .i64]⟩, some ⟨none, [.seq .str 0]⟩, some ⟨none, [.seq (.pair (.int .i64) .str) 0]⟩]⟩
noncomputable def S58_1 (F : Nat) (o : Summ) : Summ := mkS sh58_1 (fun d K => f58_1 F d.1.2.1 d.2.1.2.2.2.1 d.2.1.2.2.2.2.1 d.2.1.2.2.2.2.2.1 d.2.2.1.2.1 d.2.2.2.1.2.1 (fun (y0 : ByteArray) (y1 : Int) => K [.lf (.str y0), .lf (.int .i64 y1)] [some ⟨d.2.1.1, [.full 1, .full 2, .int .i64 d.2.1.2.2.2.1, .bool d.2.1.2.2.2.2.1, .int .i64 d.2.1.2.2.2.2.2.1]⟩, some ⟨d.2.2.1.1, [.seq .str 0 d.2.2.1.2.1]⟩, some ⟨d.2.2.2.1.1, [.seq (.pair (.int .i64) .str) 0 d.2.2.2.1.2.1]⟩])) o
noncomputable def code58 : Code := bodyOf Try.f58
noncomputable def rg58_0 : Code := cB (cR (cL (cR (cR (code58)))))
theorem scopes58 : scopesOf code58 = [] := by kernel_rfl
theorem ranges58 : rangesOf code58 = [.rangeFunc (rgG rg58_0) (rgP rg58_0) (rgX rg58_0) (rgY rg58_0)] := by kernel_rfl
theorem loops58 : loopsOf code58 = [] := by kernel_rfl
theorem enter58 : ∀ args w, (callFunc 58 args).run Try.prog w = .ok (.enter 58 args) w := enter_of (fn := Try.f58) (by kernel_rfl) (by kernel_rfl) (by kernel_rfl)
noncomputable def T58_1 (F : Nat) : FuncId → Option Summ := tab [(55, (S55_1 F noS)), (109, (S109_1 F noS))]
def sh58_1_l2000006 : Sh := ⟨[.lf (.ptr 0 0), .lf (.ptr 3 0), .lf (.ptr 4 0), .lf (.ptr 5 0), .lf (.clo 130 [6])], [some ⟨none, [.full 1, .full 2, .int .i64, .bool, .int .i64]⟩, some ⟨none, [.seq .str 0]⟩, some ⟨none, [.seq (.pair (.int .i64) .str) 0]⟩, some ⟨some false, [.int .i64]⟩, some ⟨some false, [.str]⟩, some ⟨some false, [.int .i64]⟩, some ⟨some false, [.full 2]⟩]⟩
noncomputable def G58_1_2000006 (F k : Nat) : LoopS := mkG sh58_1_l2000006 [0, 3, 4, 5, 20] (outT [(.normal, [0, 3, 4, 5]), (.ret, [4, 5])]) (fun d K => f58_1_r2000006 F d.2.1.2.2.2.1 d.2.1.2.2.2.2.1 d.2.1.2.2.2.2.2.1 d.2.2.1.2.1 d.2.2.2.1.2.1 d.2.2.2.2.1.2.1 d.2.2.2.2.2.1.2.1 d.2.2.2.2.2.2.1.2.1 (fun (y6 : ByteArray) (y8 : Int) (y9 : ByteArray) => K .ret [.tv (.lf (.ptr 4 0)), .tv (.lf (.ptr 5 0))] [some ⟨d.2.1.1, [.full 1, .full 2, .int .i64 d.2.1.2.2.2.1, .bool d.2.1.2.2.2.2.1, .int .i64 d.2.1.2.2.2.2.2.1]⟩, some ⟨d.2.2.1.1, [.seq .str 0 d.2.2.1.2.1]⟩, some ⟨d.2.2.2.1.1, [.seq (.pair (.int .i64) .str) 0 d.2.2.2.1.2.1]⟩, some ⟨false, [.int .i64 d.2.2.2.2.1.2.1]⟩, some ⟨false, [.str y6]⟩, some ⟨false, [.int .i64 0]⟩, some ⟨false, [.full 2]⟩, none, none, none, none, some ⟨false, [.int .i64 y8, .str y9]⟩]) (K .normal [.tv (.lf (.ptr 0 0)), .tv (.lf (.ptr 3 0)), .tv (.lf (.ptr 4 0)), .tv (.lf (.ptr 5 0))] [some ⟨d.2.1.1, [.full 1, .full 2, .int .i64 d.2.1.2.2.2.1, .bool d.2.1.2.2.2.2.1, .int .i64 d.2.1.2.2.2.2.2.1]⟩, some ⟨d.2.2.1.1, [.seq .str 0 d.2.2.1.2.1]⟩, some ⟨d.2.2.2.1.1, [.seq (.pair (.int .i64) .str) 0 d.2.2.2.1.2.1]⟩, some ⟨false, [.int .i64 d.2.2.2.2.1.2.1]⟩, some ⟨false, [.str d.2.2.2.2.2.1.2.1]⟩, some ⟨false, [.int .i64 d.2.2.2.2.2.2.1.2.1]⟩, some ⟨false, [.full 2]⟩, none, none, none, none])) []
noncomputable def LT58_1 (F : Nat) : Nat → Option LoopS := ltab [(2000006, G58_1_2000006 F F)]
noncomputable def ic58_1_2000006 : Code := bodyOf Try.f130
noncomputable def ic58_1_2000006_b0 : Code := cB (cB (cR (ic58_1_2000006)))
theorem ic58_1_2000006_loops : loopsOf ic58_1_2000006 = [ic58_1_2000006_b0] := by kernel_rfl
theorem ic58_1_2000006_scopes : scopesOf ic58_1_2000006 = [] := by kernel_rfl
def sh58_1_r2000006_l1 : Sh := ⟨[.lf (.yld 7), .lf (.ptr 6 0), .lf (.int .i64)], [some ⟨none, [.full 1, .full 2, .int .i64, .bool, .int .i64]⟩, some ⟨none, [.seq .str 0]⟩, some ⟨none, [.seq (.pair (.int .i64) .str) 0]⟩, some ⟨some false, [.int .i64]⟩, some ⟨some false, [.str]⟩, some ⟨some false, [.int .i64]⟩, some ⟨some false, [.full 2]⟩, some ⟨some false, []⟩, none, none, some ⟨some false, []⟩]⟩
noncomputable def GI58_1_2000006_1 (F : Nat) (d : sh58_1_l2000006.den) (k : Nat) : LoopS := mkG sh58_1_r2000006_l1 [0, 1, 3] (outT [(.exit 0, []), (.ret, [])]) (fun e K => f58_1_r2000006_l1 F e.2.1.2.2.2.1 e.2.1.2.2.2.2.1 e.2.1.2.2.2.2.2.1 e.2.2.1.2.1 e.2.2.2.1.2.1 e.2.2.2.2.1.2.1 e.2.2.2.2.2.1.2.1 e.2.2.2.2.2.2.1.2.1 (fun (y6 : ByteArray) (y8 : Int) (y9 : ByteArray) => K .ret [] [some ⟨e.2.1.1, [.full 1, .full 2, .int .i64 e.2.1.2.2.2.1, .bool e.2.1.2.2.2.2.1, .int .i64 e.2.1.2.2.2.2.2.1]⟩, some ⟨e.2.2.1.1, [.seq .str 0 e.2.2.1.2.1]⟩, some ⟨e.2.2.2.1.1, [.seq (.pair (.int .i64) .str) 0 e.2.2.2.1.2.1]⟩, some ⟨false, [.int .i64 e.2.2.2.2.1.2.1]⟩, some ⟨false, [.str y6]⟩, some ⟨false, [.int .i64 0]⟩, some ⟨false, [.full 2]⟩, none, none, some ⟨false, []⟩, some ⟨false, []⟩, some ⟨false, [.int .i64 y8, .str y9]⟩]) (K (.exit 0) [] [some ⟨e.2.1.1, [.full 1, .full 2, .int .i64 e.2.1.2.2.2.1, .bool e.2.1.2.2.2.2.1, .int .i64 e.2.1.2.2.2.2.2.1]⟩, some ⟨e.2.2.1.1, [.seq .str 0 e.2.2.1.2.1]⟩, some ⟨e.2.2.2.1.1, [.seq (.pair (.int .i64) .str) 0 e.2.2.2.1.2.1]⟩, some ⟨false, [.int .i64 e.2.2.2.2.1.2.1]⟩, some ⟨false, [.str e.2.2.2.2.2.1.2.1]⟩, some ⟨false, [.int .i64 e.2.2.2.2.2.2.1.2.1]⟩, some ⟨false, [.full 2]⟩, some ⟨false, []⟩, none, none, some ⟨false, []⟩]) k e.1.2.2.1) []
noncomputable def it58_1_2000006 (F : Nat) (d : sh58_1_l2000006.den) : Nat → Option LoopS := ltab [(1, GI58_1_2000006_1 F d F)]
theorem L58_1_r2000006_l1g (F k : Nat) (d : sh58_1_l2000006.den) (c55_1 : Int → Int → Bool → Int → List ByteArray → List (Int × ByteArray) → (ByteArray → Int → Option Res) → Option Res) (c109_1 : List (Int × ByteArray) → (Option Res) → Option Res)  (l1 : Int → Bool → Int → List ByteArray → List (Int × ByteArray) → Int → ByteArray → Int → (ByteArray → Int → ByteArray → Option Res) → (Option Res) → Nat → Int → Option Res) (X1 : LoopS) (e : sh58_1_r2000006_l1.den) (K : KL) : (fun (v10 : Int) (v11 : Bool) (v12 : Int) (v13 : List ByteArray) (v14 : List (Int × ByteArray)) (v15 : Int) (v16 : ByteArray) (v17 : Int) (K0 : (ByteArray → Int → ByteArray → Option Res)) (K1 : (Option Res)) (k : Nat) (v9 : Int) => cond (decide (v9 ≥ 0)) (cond (decide ((0 : Int) ≤ v9 ∧ v9 < ((v14.length : Nat) : Int))) (cond (decide (0 + v9.toNat < v14.length)) (cond (((v14.getD (0 + v9.toNat) (0, ByteArray.empty)).1) == v15) (K0 ((v14.getD (0 + v9.toNat) (0, ByteArray.empty)).2) ((v14.getD (0 + v9.toNat) (0, ByteArray.empty)).1) ((v14.getD (0 + v9.toNat) (0, ByteArray.empty)).2)) (l1 v10 v11 v12 v13 v14 v15 v16 v17 K0 K1 k (IntKind.i64.wrap (v9 - 1)))) none) none) (K1)) e.2.1.2.2.2.1 e.2.1.2.2.2.2.1 e.2.1.2.2.2.2.2.1 e.2.2.1.2.1 e.2.2.2.1.2.1 e.2.2.2.2.1.2.1 e.2.2.2.2.2.1.2.1 e.2.2.2.2.2.2.1.2.1 (fun (y6 : ByteArray) (y8 : Int) (y9 : ByteArray) => K .ret [] [some ⟨e.2.1.1, [.full 1, .full 2, .int .i64 e.2.1.2.2.2.1, .bool e.2.1.2.2.2.2.1, .int .i64 e.2.1.2.2.2.2.2.1]⟩, some ⟨e.2.2.1.1, [.seq .str 0 e.2.2.1.2.1]⟩, some ⟨e.2.2.2.1.1, [.seq (.pair (.int .i64) .str) 0 e.2.2.2.1.2.1]⟩, some ⟨false, [.int .i64 e.2.2.2.2.1.2.1]⟩, some ⟨false, [.str y6]⟩, some ⟨false, [.int .i64 0]⟩, some ⟨false, [.full 2]⟩, none, none, some ⟨false, []⟩, some ⟨false, []⟩, some ⟨false, [.int .i64 y8, .str y9]⟩]) (K (.exit 0) [] [some ⟨e.2.1.1, [.full 1, .full 2, .int .i64 e.2.1.2.2.2.1, .bool e.2.1.2.2.2.2.1, .int .i64 e.2.1.2.2.2.2.2.1]⟩, some ⟨e.2.2.1.1, [.seq .str 0 e.2.2.1.2.1]⟩, some ⟨e.2.2.2.1.1, [.seq (.pair (.int .i64) .str) 0 e.2.2.2.1.2.1]⟩, some ⟨false, [.int .i64 e.2.2.2.2.1.2.1]⟩, some ⟨false, [.str e.2.2.2.2.2.1.2.1]⟩, some ⟨false, [.int .i64 e.2.2.2.2.2.2.1.2.1]⟩, some ⟨false, [.full 2]⟩, some ⟨false, []⟩, none, none, some ⟨false, []⟩]) k e.1.2.2.1 = roundOf Try.prog (tab [(55, (mkS sh55_1 (fun d K => c55_1 d.1.2.1 d.2.1.2.2.2.1 d.2.1.2.2.2.2.1 d.2.1.2.2.2.2.2.1 d.2.2.1.2.1 d.2.2.2.1.2.1 (fun (y0 : ByteArray) (y1 : Int) => K [.lf (.str y0), .lf (.int .i64 y1)] [some ⟨d.2.1.1, [.full 1, .full 2, .int .i64 d.2.1.2.2.2.1, .bool d.2.1.2.2.2.2.1, .int .i64 d.2.1.2.2.2.2.2.1]⟩, some ⟨d.2.2.1.1, [.seq .str 0 d.2.2.1.2.1]⟩, some ⟨d.2.2.2.1.1, [.seq (.pair (.int .i64) .str) 0 d.2.2.2.1.2.1]⟩])) noS)), (109, (mkS sh109_1 (fun d K => c109_1 d.2.1.2.1 (K [.lf (.clo 130 [1])] [some ⟨d.2.1.1, [.seq (.pair (.int .i64) .str) 0 d.2.1.2.1]⟩, some ⟨false, [.full 0]⟩])) noS))]) ⟨[], false, some (yieldOf Try.prog (tab [(55, (mkS sh55_1 (fun d K => c55_1 d.1.2.1 d.2.1.2.2.2.1 d.2.1.2.2.2.2.1 d.2.1.2.2.2.2.2.1 d.2.2.1.2.1 d.2.2.2.1.2.1 (fun (y0 : ByteArray) (y1 : Int) => K [.lf (.str y0), .lf (.int .i64 y1)] [some ⟨d.2.1.1, [.full 1, .full 2, .int .i64 d.2.1.2.2.2.1, .bool d.2.1.2.2.2.2.1, .int .i64 d.2.1.2.2.2.2.2.1]⟩, some ⟨d.2.2.1.1, [.seq .str 0 d.2.2.1.2.1]⟩, some ⟨d.2.2.2.1.1, [.seq (.pair (.int .i64) .str) 0 d.2.2.2.1.2.1]⟩])) noS)), (109, (mkS sh109_1 (fun d K => c109_1 d.2.1.2.1 (K [.lf (.clo 130 [1])] [some ⟨d.2.1.1, [.seq (.pair (.int .i64) .str) 0 d.2.1.2.1]⟩, some ⟨false, [.full 0]⟩])) noS))]) [] 34 noLT (mkEnv 34 [0, 3, 4, 5, 20] (avsOf (encT sh58_1_l2000006.vs d.1))) (rgP rg58_0).toList (rgX rg58_0) (rgY rg58_0) .ret 7)⟩ 19 11 (ltab [(1, X1)]) (mkG sh58_1_r2000006_l1 [0, 1, 3] (outT [(.exit 0, []), (.ret, [])]) (fun e K => l1 e.2.1.2.2.2.1 e.2.1.2.2.2.2.1 e.2.1.2.2.2.2.2.1 e.2.2.1.2.1 e.2.2.2.1.2.1 e.2.2.2.2.1.2.1 e.2.2.2.2.2.1.2.1 e.2.2.2.2.2.2.1.2.1 (fun (y6 : ByteArray) (y8 : Int) (y9 : ByteArray) => K .ret [] [some ⟨e.2.1.1, [.full 1, .full 2, .int .i64 e.2.1.2.2.2.1, .bool e.2.1.2.2.2.2.1, .int .i64 e.2.1.2.2.2.2.2.1]⟩, some ⟨e.2.2.1.1, [.seq .str 0 e.2.2.1.2.1]⟩, some ⟨e.2.2.2.1.1, [.seq (.pair (.int .i64) .str) 0 e.2.2.2.1.2.1]⟩, some ⟨false, [.int .i64 e.2.2.2.2.1.2.1]⟩, some ⟨false, [.str y6]⟩, some ⟨false, [.int .i64 0]⟩, some ⟨false, [.full 2]⟩, none, none, some ⟨false, []⟩, some ⟨false, []⟩, some ⟨false, [.int .i64 y8, .str y9]⟩]) (K (.exit 0) [] [some ⟨e.2.1.1, [.full 1, .full 2, .int .i64 e.2.1.2.2.2.1, .bool e.2.1.2.2.2.2.1, .int .i64 e.2.1.2.2.2.2.2.1]⟩, some ⟨e.2.2.1.1, [.seq .str 0 e.2.2.1.2.1]⟩, some ⟨e.2.2.2.1.1, [.seq (.pair (.int .i64) .str) 0 e.2.2.2.1.2.1]⟩, some ⟨false, [.int .i64 e.2.2.2.2.1.2.1]⟩, some ⟨false, [.str e.2.2.2.2.2.1.2.1]⟩, some ⟨false, [.int .i64 e.2.2.2.2.2.2.1.2.1]⟩, some ⟨false, [.full 2]⟩, some ⟨false, []⟩, none, none, some ⟨false, []⟩]) k e.1.2.2.1) []) ic58_1_2000006_b0 (encT sh58_1_r2000006_l1.vs e.1) (encH sh58_1_r2000006_l1.h e.2) K := by kernel_rfl
theorem LI58_1_2000006_1 (F : Nat) (d : sh58_1_l2000006.den) : LoopOK Try.prog (T58_1 F) ⟨[], false, some (yieldOf Try.prog (T58_1 F) [] 34 noLT (mkEnv 34 [0, 3, 4, 5, 20] (avsOf (encT sh58_1_l2000006.vs d.1))) (rgP rg58_0).toList (rgX rg58_0) (rgY rg58_0) .ret 7)⟩ 19 11 (it58_1_2000006 F d) (GI58_1_2000006_1 F d F) ic58_1_2000006_b0 :=
  loopOK_of (s := sh58_1_r2000006_l1) (live := [0, 1, 3]) (out := (outT [(.exit 0, []), (.ret, [])])) (mv := []) (fun k e K => f58_1_r2000006_l1 F e.2.1.2.2.2.1 e.2.1.2.2.2.2.1 e.2.1.2.2.2.2.2.1 e.2.2.1.2.1 e.2.2.2.1.2.1 e.2.2.2.2.1.2.1 e.2.2.2.2.2.1.2.1 e.2.2.2.2.2.2.1.2.1 (fun (y6 : ByteArray) (y8 : Int) (y9 : ByteArray) => K .ret [] [some ⟨e.2.1.1, [.full 1, .full 2, .int .i64 e.2.1.2.2.2.1, .bool e.2.1.2.2.2.2.1, .int .i64 e.2.1.2.2.2.2.2.1]⟩, some ⟨e.2.2.1.1, [.seq .str 0 e.2.2.1.2.1]⟩, some ⟨e.2.2.2.1.1, [.seq (.pair (.int .i64) .str) 0 e.2.2.2.1.2.1]⟩, some ⟨false, [.int .i64 e.2.2.2.2.1.2.1]⟩, some ⟨false, [.str y6]⟩, some ⟨false, [.int .i64 0]⟩, some ⟨false, [.full 2]⟩, none, none, some ⟨false, []⟩, some ⟨false, []⟩, some ⟨false, [.int .i64 y8, .str y9]⟩]) (K (.exit 0) [] [some ⟨e.2.1.1, [.full 1, .full 2, .int .i64 e.2.1.2.2.2.1, .bool e.2.1.2.2.2.2.1, .int .i64 e.2.1.2.2.2.2.2.1]⟩, some ⟨e.2.2.1.1, [.seq .str 0 e.2.2.1.2.1]⟩, some ⟨e.2.2.2.1.1, [.seq (.pair (.int .i64) .str) 0 e.2.2.2.1.2.1]⟩, some ⟨false, [.int .i64 e.2.2.2.2.1.2.1]⟩, some ⟨false, [.str e.2.2.2.2.2.1.2.1]⟩, some ⟨false, [.int .i64 e.2.2.2.2.2.2.1.2.1]⟩, some ⟨false, [.full 2]⟩, some ⟨false, []⟩, none, none, some ⟨false, []⟩]) k e.1.2.2.1) F (fun e K => by kernel_rfl) (fun k e K => Eq.mp (by kernel_rfl) (L58_1_r2000006_l1g F k d (f55_1 F) (f109_1 F)  (f58_1_r2000006_l1 F) (GI58_1_2000006_1 F d F) e K))
theorem R58_1_2000006g (F : Nat) (c55_1 : Int → Int → Bool → Int → List ByteArray → List (Int × ByteArray) → (ByteArray → Int → Option Res) → Option Res) (c109_1 : List (Int × ByteArray) → (Option Res) → Option Res) (l1 : Int → Bool → Int → List ByteArray → List (Int × ByteArray) → Int → ByteArray → Int → (ByteArray → Int → ByteArray → Option Res) → (Option Res) → Nat → Int → Option Res)  (d : sh58_1_l2000006.den) (K : KL) : (fun (v1 : Int) (v2 : Bool) (v3 : Int) (v4 : List ByteArray) (v5 : List (Int × ByteArray)) (v6 : Int) (v7 : ByteArray) (v8 : Int) (K0 : (ByteArray → Int → ByteArray → Option Res)) (K1 : (Option Res)) => l1 v1 v2 v3 v4 v5 v6 v7 v8 (fun x18 x19 x20 => K0 x18 x19 x20) (K1) F (IntKind.i64.wrap (((v5.length : Nat) : Int) - 1))) d.2.1.2.2.2.1 d.2.1.2.2.2.2.1 d.2.1.2.2.2.2.2.1 d.2.2.1.2.1 d.2.2.2.1.2.1 d.2.2.2.2.1.2.1 d.2.2.2.2.2.1.2.1 d.2.2.2.2.2.2.1.2.1 (fun (y6 : ByteArray) (y8 : Int) (y9 : ByteArray) => K .ret [.tv (.lf (.ptr 4 0)), .tv (.lf (.ptr 5 0))] [some ⟨d.2.1.1, [.full 1, .full 2, .int .i64 d.2.1.2.2.2.1, .bool d.2.1.2.2.2.2.1, .int .i64 d.2.1.2.2.2.2.2.1]⟩, some ⟨d.2.2.1.1, [.seq .str 0 d.2.2.1.2.1]⟩, some ⟨d.2.2.2.1.1, [.seq (.pair (.int .i64) .str) 0 d.2.2.2.1.2.1]⟩, some ⟨false, [.int .i64 d.2.2.2.2.1.2.1]⟩, some ⟨false, [.str y6]⟩, some ⟨false, [.int .i64 0]⟩, some ⟨false, [.full 2]⟩, none, none, none, none, some ⟨false, [.int .i64 y8, .str y9]⟩]) (K .normal [.tv (.lf (.ptr 0 0)), .tv (.lf (.ptr 3 0)), .tv (.lf (.ptr 4 0)), .tv (.lf (.ptr 5 0))] [some ⟨d.2.1.1, [.full 1, .full 2, .int .i64 d.2.1.2.2.2.1, .bool d.2.1.2.2.2.2.1, .int .i64 d.2.1.2.2.2.2.2.1]⟩, some ⟨d.2.2.1.1, [.seq .str 0 d.2.2.1.2.1]⟩, some ⟨d.2.2.2.1.1, [.seq (.pair (.int .i64) .str) 0 d.2.2.2.1.2.1]⟩, some ⟨false, [.int .i64 d.2.2.2.2.1.2.1]⟩, some ⟨false, [.str d.2.2.2.2.2.1.2.1]⟩, some ⟨false, [.int .i64 d.2.2.2.2.2.2.1.2.1]⟩, some ⟨false, [.full 2]⟩, none, none, none, none]) = rangeOf Try.prog (tab [(55, (mkS sh55_1 (fun d K => c55_1 d.1.2.1 d.2.1.2.2.2.1 d.2.1.2.2.2.2.1 d.2.1.2.2.2.2.2.1 d.2.2.1.2.1 d.2.2.2.1.2.1 (fun (y0 : ByteArray) (y1 : Int) => K [.lf (.str y0), .lf (.int .i64 y1)] [some ⟨d.2.1.1, [.full 1, .full 2, .int .i64 d.2.1.2.2.2.1, .bool d.2.1.2.2.2.2.1, .int .i64 d.2.1.2.2.2.2.2.1]⟩, some ⟨d.2.2.1.1, [.seq .str 0 d.2.2.1.2.1]⟩, some ⟨d.2.2.2.1.1, [.seq (.pair (.int .i64) .str) 0 d.2.2.2.1.2.1]⟩])) noS)), (109, (mkS sh109_1 (fun d K => c109_1 d.2.1.2.1 (K [.lf (.clo 130 [1])] [some ⟨d.2.1.1, [.seq (.pair (.int .i64) .str) 0 d.2.1.2.1]⟩, some ⟨false, [.full 0]⟩])) noS))]) (xw []) 34 (mkG sh58_1_l2000006 [0, 3, 4, 5, 20] (outT [(.normal, [0, 3, 4, 5]), (.ret, [4, 5])]) (fun d K => none)) (rgG rg58_0) (rgP rg58_0).toList (rgX rg58_0) (rgY rg58_0) ⟨130, ic58_1_2000006, 19, (ltab [(1, mkG sh58_1_r2000006_l1 [0, 1, 3] (outT [(.exit 0, []), (.ret, [])]) (fun e K => l1 e.2.1.2.2.2.1 e.2.1.2.2.2.2.1 e.2.1.2.2.2.2.2.1 e.2.2.1.2.1 e.2.2.2.1.2.1 e.2.2.2.2.1.2.1 e.2.2.2.2.2.1.2.1 e.2.2.2.2.2.2.1.2.1 (fun (y6 : ByteArray) (y8 : Int) (y9 : ByteArray) => K .ret [] [some ⟨e.2.1.1, [.full 1, .full 2, .int .i64 e.2.1.2.2.2.1, .bool e.2.1.2.2.2.2.1, .int .i64 e.2.1.2.2.2.2.2.1]⟩, some ⟨e.2.2.1.1, [.seq .str 0 e.2.2.1.2.1]⟩, some ⟨e.2.2.2.1.1, [.seq (.pair (.int .i64) .str) 0 e.2.2.2.1.2.1]⟩, some ⟨false, [.int .i64 e.2.2.2.2.1.2.1]⟩, some ⟨false, [.str y6]⟩, some ⟨false, [.int .i64 0]⟩, some ⟨false, [.full 2]⟩, none, none, some ⟨false, []⟩, some ⟨false, []⟩, some ⟨false, [.int .i64 y8, .str y9]⟩]) (K (.exit 0) [] [some ⟨e.2.1.1, [.full 1, .full 2, .int .i64 e.2.1.2.2.2.1, .bool e.2.1.2.2.2.2.1, .int .i64 e.2.1.2.2.2.2.2.1]⟩, some ⟨e.2.2.1.1, [.seq .str 0 e.2.2.1.2.1]⟩, some ⟨e.2.2.2.1.1, [.seq (.pair (.int .i64) .str) 0 e.2.2.2.1.2.1]⟩, some ⟨false, [.int .i64 e.2.2.2.2.1.2.1]⟩, some ⟨false, [.str e.2.2.2.2.2.1.2.1]⟩, some ⟨false, [.int .i64 e.2.2.2.2.2.2.1.2.1]⟩, some ⟨false, [.full 2]⟩, some ⟨false, []⟩, none, none, some ⟨false, []⟩]) F e.1.2.2.1) [])]), []⟩ noLT .ret (encT sh58_1_l2000006.vs d.1) (encH sh58_1_l2000006.h d.2) K := by kernel_rfl
theorem R58_1_2000006 (F : Nat) : RangeOK Try.prog (xw []) 34 3 (G58_1_2000006 F F) (.rangeFunc (rgG rg58_0) (rgP rg58_0) (rgX rg58_0) (rgY rg58_0)) :=
  rangeOK_of (X := (xw [])) (jump := .ret) (fun h => by cases h) rfl rfl (by kernel_rfl) (tab_cons (S55_1_ok F _ (noS_sound enter55)) (tab_cons (S109_1_ok F _ (noS_sound enter109)) tab_nil)) (s := sh58_1_l2000006) (live := [0, 3, 4, 5, 20]) (out := (outT [(.normal, [0, 3, 4, 5]), (.ret, [4, 5])])) (fun d K => f58_1_r2000006 F d.2.1.2.2.2.1 d.2.1.2.2.2.2.1 d.2.1.2.2.2.2.2.1 d.2.2.1.2.1 d.2.2.2.1.2.1 d.2.2.2.2.1.2.1 d.2.2.2.2.2.1.2.1 d.2.2.2.2.2.2.1.2.1 (fun (y6 : ByteArray) (y8 : Int) (y9 : ByteArray) => K .ret [.tv (.lf (.ptr 4 0)), .tv (.lf (.ptr 5 0))] [some ⟨d.2.1.1, [.full 1, .full 2, .int .i64 d.2.1.2.2.2.1, .bool d.2.1.2.2.2.2.1, .int .i64 d.2.1.2.2.2.2.2.1]⟩, some ⟨d.2.2.1.1, [.seq .str 0 d.2.2.1.2.1]⟩, some ⟨d.2.2.2.1.1, [.seq (.pair (.int .i64) .str) 0 d.2.2.2.1.2.1]⟩, some ⟨false, [.int .i64 d.2.2.2.2.1.2.1]⟩, some ⟨false, [.str y6]⟩, some ⟨false, [.int .i64 0]⟩, some ⟨false, [.full 2]⟩, none, none, none, none, some ⟨false, [.int .i64 y8, .str y9]⟩]) (K .normal [.tv (.lf (.ptr 0 0)), .tv (.lf (.ptr 3 0)), .tv (.lf (.ptr 4 0)), .tv (.lf (.ptr 5 0))] [some ⟨d.2.1.1, [.full 1, .full 2, .int .i64 d.2.1.2.2.2.1, .bool d.2.1.2.2.2.2.1, .int .i64 d.2.1.2.2.2.2.2.1]⟩, some ⟨d.2.2.1.1, [.seq .str 0 d.2.2.1.2.1]⟩, some ⟨d.2.2.2.1.1, [.seq (.pair (.int .i64) .str) 0 d.2.2.2.1.2.1]⟩, some ⟨false, [.int .i64 d.2.2.2.2.1.2.1]⟩, some ⟨false, [.str d.2.2.2.2.2.1.2.1]⟩, some ⟨false, [.int .i64 d.2.2.2.2.2.2.1.2.1]⟩, some ⟨false, [.full 2]⟩, none, none, none, none])) (it58_1_2000006 F) (f := 130) (fn := Try.f130) (c := ic58_1_2000006) (wrI := []) (enter_of (fn := Try.f130) (by kernel_rfl) (by kernel_rfl) (by kernel_rfl)) (by kernel_rfl) (by kernel_rfl) (by kernel_rfl) (fun d K => Eq.mp (by kernel_rfl) (R58_1_2000006g F (f55_1 F) (f109_1 F) (f58_1_r2000006_l1 F)  d K)) (fun d => by rw [ic58_1_2000006_loops]; exact (loopsOK_cons (by kernel_rfl) (LI58_1_2000006_1 F d) loopsOK_nil)) (fun d => by rw [ic58_1_2000006_scopes]; exact scopesOK_nil) (by kernel_rfl)
theorem E58_1g (F : Nat) (c55_1 : Int → Int → Bool → Int → List ByteArray → List (Int × ByteArray) → (ByteArray → Int → Option Res) → Option Res) (c109_1 : List (Int × ByteArray) → (Option Res) → Option Res) (l2000006 : Int → Bool → Int → List ByteArray → List (Int × ByteArray) → Int → ByteArray → Int → (ByteArray → Int → ByteArray → Option Res) → (Option Res) → Option Res)  (d : sh58_1.den) (K : KF) : evBody Try.prog (tab [(55, (mkS sh55_1 (fun d K => c55_1 d.1.2.1 d.2.1.2.2.2.1 d.2.1.2.2.2.2.1 d.2.1.2.2.2.2.2.1 d.2.2.1.2.1 d.2.2.2.1.2.1 (fun (y0 : ByteArray) (y1 : Int) => K [.lf (.str y0), .lf (.int .i64 y1)] [some ⟨d.2.1.1, [.full 1, .full 2, .int .i64 d.2.1.2.2.2.1, .bool d.2.1.2.2.2.2.1, .int .i64 d.2.1.2.2.2.2.2.1]⟩, some ⟨d.2.2.1.1, [.seq .str 0 d.2.2.1.2.1]⟩, some ⟨d.2.2.2.1.1, [.seq (.pair (.int .i64) .str) 0 d.2.2.2.1.2.1]⟩])) noS)), (109, (mkS sh109_1 (fun d K => c109_1 d.2.1.2.1 (K [.lf (.clo 130 [1])] [some ⟨d.2.1.1, [.seq (.pair (.int .i64) .str) 0 d.2.1.2.1]⟩, some ⟨false, [.full 0]⟩])) noS))]) (xw []) 34 3 (ltab [(2000006, mkG sh58_1_l2000006 [0, 3, 4, 5, 20] (outT [(.normal, [0, 3, 4, 5]), (.ret, [4, 5])]) (fun d K => l2000006 d.2.1.2.2.2.1 d.2.1.2.2.2.2.1 d.2.1.2.2.2.2.2.1 d.2.2.1.2.1 d.2.2.2.1.2.1 d.2.2.2.2.1.2.1 d.2.2.2.2.2.1.2.1 d.2.2.2.2.2.2.1.2.1 (fun (y6 : ByteArray) (y8 : Int) (y9 : ByteArray) => K .ret [.tv (.lf (.ptr 4 0)), .tv (.lf (.ptr 5 0))] [some ⟨d.2.1.1, [.full 1, .full 2, .int .i64 d.2.1.2.2.2.1, .bool d.2.1.2.2.2.2.1, .int .i64 d.2.1.2.2.2.2.2.1]⟩, some ⟨d.2.2.1.1, [.seq .str 0 d.2.2.1.2.1]⟩, some ⟨d.2.2.2.1.1, [.seq (.pair (.int .i64) .str) 0 d.2.2.2.1.2.1]⟩, some ⟨false, [.int .i64 d.2.2.2.2.1.2.1]⟩, some ⟨false, [.str y6]⟩, some ⟨false, [.int .i64 0]⟩, some ⟨false, [.full 2]⟩, none, none, none, none, some ⟨false, [.int .i64 y8, .str y9]⟩]) (K .normal [.tv (.lf (.ptr 0 0)), .tv (.lf (.ptr 3 0)), .tv (.lf (.ptr 4 0)), .tv (.lf (.ptr 5 0))] [some ⟨d.2.1.1, [.full 1, .full 2, .int .i64 d.2.1.2.2.2.1, .bool d.2.1.2.2.2.2.1, .int .i64 d.2.1.2.2.2.2.2.1]⟩, some ⟨d.2.2.1.1, [.seq .str 0 d.2.2.1.2.1]⟩, some ⟨d.2.2.2.1.1, [.seq (.pair (.int .i64) .str) 0 d.2.2.2.1.2.1]⟩, some ⟨false, [.int .i64 d.2.2.2.2.1.2.1]⟩, some ⟨false, [.str d.2.2.2.2.2.1.2.1]⟩, some ⟨false, [.int .i64 d.2.2.2.2.2.2.1.2.1]⟩, some ⟨false, [.full 2]⟩, none, none, none, none])) [])]) code58 Try.f58.results.toList (encT sh58_1.vs d.1) (encH sh58_1.h d.2) K = (fun (a1 : Int) (a2 : Int) (a3 : Bool) (a4 : Int) (a5 : List ByteArray) (a6 : List (Int × ByteArray)) (K0 : (ByteArray → Int → Option Res)) => cond a3 (K0 ByteArray.empty 5) (c109_1 a6 (l2000006 a2 a3 a4 a5 a6 a1 ByteArray.empty 0 (fun x21 x22 x23 => K0 x21 0) (c55_1 a1 a2 a3 a4 a5 a6 (fun x24 x25 => K0 x24 x25) ) ) )) d.1.2.1 d.2.1.2.2.2.1 d.2.1.2.2.2.2.1 d.2.1.2.2.2.2.2.1 d.2.2.1.2.1 d.2.2.2.1.2.1 (fun (y0 : ByteArray) (y1 : Int) => K [.lf (.str y0), .lf (.int .i64 y1)] [some ⟨d.2.1.1, [.full 1, .full 2, .int .i64 d.2.1.2.2.2.1, .bool d.2.1.2.2.2.2.1, .int .i64 d.2.1.2.2.2.2.2.1]⟩, some ⟨d.2.2.1.1, [.seq .str 0 d.2.2.1.2.1]⟩, some ⟨d.2.2.2.1.1, [.seq (.pair (.int .i64) .str) 0 d.2.2.2.1.2.1]⟩]) := by kernel_rfl
theorem E58_1 (F : Nat) (d : sh58_1.den) (K : KF) : evBody Try.prog (T58_1 F) (xw []) 34 3 (LT58_1 F) code58 Try.f58.results.toList (encT sh58_1.vs d.1) (encH sh58_1.h d.2) K = f58_1 F d.1.2.1 d.2.1.2.2.2.1 d.2.1.2.2.2.2.1 d.2.1.2.2.2.2.2.1 d.2.2.1.2.1 d.2.2.2.1.2.1 (fun (y0 : ByteArray) (y1 : Int) => K [.lf (.str y0), .lf (.int .i64 y1)] [some ⟨d.2.1.1, [.full 1, .full 2, .int .i64 d.2.1.2.2.2.1, .bool d.2.1.2.2.2.2.1, .int .i64 d.2.1.2.2.2.2.2.1]⟩, some ⟨d.2.2.1.1, [.seq .str 0 d.2.2.1.2.1]⟩, some ⟨d.2.2.2.1.1, [.seq (.pair (.int .i64) .str) 0 d.2.2.2.1.2.1]⟩]) := Eq.mp (by kernel_rfl) (E58_1g F (f55_1 F) (f109_1 F) (f58_1_r2000006 F)  d K)
theorem S58_1_ok (F : Nat) (o : Summ) (ho : SoundFn Try.prog 58 o) : SoundFn Try.prog 58 (S58_1 F o) :=
  soundFn_of (fn := Try.f58) (c := code58) rfl rfl (by kernel_rfl) (tab_cons (S55_1_ok F _ (noS_sound enter55)) (tab_cons (S109_1_ok F _ (noS_sound enter109)) tab_nil)) (by kernel_rfl) (by kernel_rfl) ho (by rw [loops58]; exact loopsOK_nil) (by rw [scopes58]; exact scopesOK_nil) (by rw [ranges58]; exact (rangesOK_cons (by kernel_rfl) (R58_1_2000006 F) rangesOK_nil)) (E58_1 F)
end Go.Proofs.Ytjlolgpbidfmeaa.X
end

section
namespace Go.Proofs.Ytjlolgpbidfmeaa.X
open Go Go.Proofs.Ytjlolgpbidfmeaa.Ev Go.Proofs
set_option linter.unusedVariables false
set_option linter.unusedSectionVars false
/-! disk.Disk).burn -/
noncomputable def f111_1 {β : Type} (F : Nat) (a1 : Int) (a2 : Bool) (a3 : Int) (a4 : List ByteArray) (a5 : List (Int × ByteArray)) (K0 : Bool → Int → Bool → Int → Option β) : Option β := cond (a1 == 0) (K0 false (-1) true a3) (cond (a1 == (-1)) (K0 true a1 a2 (IntKind.i64.wrap (a3 + 1))) (K0 true (IntKind.i64.wrap (a1 - 1)) a2 (IntKind.i64.wrap (a3 + 1))))
variable [FZ]
def sh111_1 : Sh := ⟨[.lf (.ptr 0 0)], [some ⟨some false, [.full 1, .full 2, .int .i64, .bool, .int .i64]⟩, some ⟨none, [.seq .str 0]⟩, some ⟨none, [.seq (.pair (.int .i64) .str) 0]⟩]⟩
noncomputable def S111_1 (F : Nat) (o : Summ) : Summ := mkS sh111_1 (fun d K => f111_1 F d.2.1.2.2.2.1 d.2.1.2.2.2.2.1 d.2.1.2.2.2.2.2.1 d.2.2.1.2.1 d.2.2.2.1.2.1 (fun (y0 : Bool) (y1 : Int) (y2 : Bool) (y3 : Int) => K [.lf (.bool y0)] [some ⟨false, [.full 1, .full 2, .int .i64 y1, .bool y2, .int .i64 y3]⟩, some ⟨d.2.2.1.1, [.seq .str 0 d.2.2.1.2.1]⟩, some ⟨d.2.2.2.1.1, [.seq (.pair (.int .i64) .str) 0 d.2.2.2.1.2.1]⟩])) o
noncomputable def code111 : Code := bodyOf Try.f111
theorem scopes111 : scopesOf code111 = [] := by kernel_rfl
theorem ranges111 : rangesOf code111 = [] := by kernel_rfl
theorem loops111 : loopsOf code111 = [] := by kernel_rfl
theorem enter111 : ∀ args w, (callFunc 111 args).run Try.prog w = .ok (.enter 111 args) w := enter_of (fn := Try.f111) (by kernel_rfl) (by kernel_rfl) (by kernel_rfl)
noncomputable def T111_1 (F : Nat) : FuncId → Option Summ := tab []
noncomputable def LT111_1 (F : Nat) : Nat → Option LoopS := ltab []
theorem E111_1g (F : Nat)    (d : sh111_1.den) (K : KF) : evBody Try.prog (tab []) (xw []) 31 3 (ltab []) code111 Try.f111.results.toList (encT sh111_1.vs d.1) (encH sh111_1.h d.2) K = (fun (a1 : Int) (a2 : Bool) (a3 : Int) (a4 : List ByteArray) (a5 : List (Int × ByteArray)) (K0 : (Bool → Int → Bool → Int → Option Res)) => cond (a1 == 0) (K0 false (-1) true a3) (cond (a1 == (-1)) (K0 true a1 a2 (IntKind.i64.wrap (a3 + 1))) (K0 true (IntKind.i64.wrap (a1 - 1)) a2 (IntKind.i64.wrap (a3 + 1))))) d.2.1.2.2.2.1 d.2.1.2.2.2.2.1 d.2.1.2.2.2.2.2.1 d.2.2.1.2.1 d.2.2.2.1.2.1 (fun (y0 : Bool) (y1 : Int) (y2 : Bool) (y3 : Int) => K [.lf (.bool y0)] [some ⟨false, [.full 1, .full 2, .int .i64 y1, .bool y2, .int .i64 y3]⟩, some ⟨d.2.2.1.1, [.seq .str 0 d.2.2.1.2.1]⟩, some ⟨d.2.2.2.1.1, [.seq (.pair (.int .i64) .str) 0 d.2.2.2.1.2.1]⟩]) := by kernel_rfl
theorem E111_1 (F : Nat) (d : sh111_1.den) (K : KF) : evBody Try.prog (T111_1 F) (xw []) 31 3 (LT111_1 F) code111 Try.f111.results.toList (encT sh111_1.vs d.1) (encH sh111_1.h d.2) K = f111_1 F d.2.1.2.2.2.1 d.2.1.2.2.2.2.1 d.2.1.2.2.2.2.2.1 d.2.2.1.2.1 d.2.2.2.1.2.1 (fun (y0 : Bool) (y1 : Int) (y2 : Bool) (y3 : Int) => K [.lf (.bool y0)] [some ⟨false, [.full 1, .full 2, .int .i64 y1, .bool y2, .int .i64 y3]⟩, some ⟨d.2.2.1.1, [.seq .str 0 d.2.2.1.2.1]⟩, some ⟨d.2.2.2.1.1, [.seq (.pair (.int .i64) .str) 0 d.2.2.2.1.2.1]⟩]) := Eq.mp (by kernel_rfl) (E111_1g F    d K)
theorem S111_1_ok (F : Nat) (o : Summ) (ho : SoundFn Try.prog 111 o) : SoundFn Try.prog 111 (S111_1 F o) :=
  soundFn_of (fn := Try.f111) (c := code111) rfl rfl (by kernel_rfl) tab_nil (by kernel_rfl) (by kernel_rfl) ho (by rw [loops111]; exact loopsOK_nil) (by rw [scopes111]; exact scopesOK_nil) (by rw [ranges111]; exact rangesOK_nil) (E111_1 F)
end Go.Proofs.Ytjlolgpbidfmeaa.X
end

section
namespace Go.Proofs.Ytjlolgpbidfmeaa.X
open Go Go.Proofs.Ytjlolgpbidfmeaa.Ev Go.Proofs
set_option linter.unusedVariables false
set_option linter.unusedSectionVars false
/-! sector.Right -/
noncomputable def f80_1 {β : Type} (F : Nat) (a1 : ByteArray) (K0 : Bool → Option β) : Option β := K0 ((a1.size : Int) == 64)
variable [FZ]
def sh80_1 : Sh := ⟨[.lf (.str)], []⟩
noncomputable def S80_1 (F : Nat) (o : Summ) : Summ := mkS sh80_1 (fun d K => f80_1 F d.1.1 (fun (y0 : Bool) => K [.lf (.bool y0)] [])) o
noncomputable def code80 : Code := bodyOf Try.f80
theorem scopes80 : scopesOf code80 = [] := by kernel_rfl
theorem ranges80 : rangesOf code80 = [] := by kernel_rfl
theorem loops80 : loopsOf code80 = [] := by kernel_rfl
theorem enter80 : ∀ args w, (callFunc 80 args).run Try.prog w = .ok (.enter 80 args) w := enter_of (fn := Try.f80) (by kernel_rfl) (by kernel_rfl) (by kernel_rfl)
noncomputable def T80_1 (F : Nat) : FuncId → Option Summ := tab []
noncomputable def LT80_1 (F : Nat) : Nat → Option LoopS := ltab []
theorem E80_1g (F : Nat)    (d : sh80_1.den) (K : KF) : evBody Try.prog (tab []) (xw []) 6 0 (ltab []) code80 Try.f80.results.toList (encT sh80_1.vs d.1) (encH sh80_1.h d.2) K = (fun (a1 : ByteArray) (K0 : (Bool → Option Res)) => K0 ((a1.size : Int) == 64)) d.1.1 (fun (y0 : Bool) => K [.lf (.bool y0)] []) := by kernel_rfl
theorem E80_1 (F : Nat) (d : sh80_1.den) (K : KF) : evBody Try.prog (T80_1 F) (xw []) 6 0 (LT80_1 F) code80 Try.f80.results.toList (encT sh80_1.vs d.1) (encH sh80_1.h d.2) K = f80_1 F d.1.1 (fun (y0 : Bool) => K [.lf (.bool y0)] []) := Eq.mp (by kernel_rfl) (E80_1g F    d K)
theorem S80_1_ok (F : Nat) (o : Summ) (ho : SoundFn Try.prog 80 o) : SoundFn Try.prog 80 (S80_1 F o) :=
  soundFn_of (fn := Try.f80) (c := code80) rfl rfl (by kernel_rfl) tab_nil (by kernel_rfl) (by kernel_rfl) ho (by rw [loops80]; exact loopsOK_nil) (by rw [scopes80]; exact scopesOK_nil) (by rw [ranges80]; exact rangesOK_nil) (E80_1 F)
end Go.Proofs.Ytjlolgpbidfmeaa.X
end

section
namespace Go.Proofs.Ytjlolgpbidfmeaa.X
open Go Go.Proofs.Ytjlolgpbidfmeaa.Ev Go.Proofs
set_option linter.unusedVariables false
set_option linter.unusedSectionVars false
/-! disk.Disk).Write -/
noncomputable def f64_1 {β : Type} (F : Nat) (a1 : Int) (a2 : ByteArray) (a3 : Int) (a4 : Bool) (a5 : Int) (a6 : List ByteArray) (a7 : List (Int × ByteArray)) (K0 : Int → Int → Bool → Int → Option β) (K1 : Int → Bool → Int → List (Int × ByteArray) → Option β) : Option β := cond a4 (K0 5 a3 a4 a5) (f108_1 F a1 a3 a4 a5 a6 a7 (fun x1 => cond (!x1) (K0 3 a3 a4 a5) (f80_1 F a2 (fun x2 => cond (!x2) (K0 4 a3 a4 a5) (f111_1 F a3 a4 a5 a6 a7 (fun x3 x4 x5 x6 => cond (!x3) (K0 5 x4 x5 x6) (cond (decide ((a7.length + 1) * 24 ≤ 70368744177664)) (K1 x4 x5 x6 (a7 ++ [(a1, a2)])) none)) )) )) )
variable [FZ]
def sh64_1 : Sh := ⟨[.lf (.ptr 0 0), .lf (.int .i64), .lf (.str)], [some ⟨some false, [.full 1, .full 2, .int .i64, .bool, .int .i64]⟩, some ⟨none, [.seq .str 0]⟩, some ⟨some false, [.seq (.pair (.int .i64) .str) 0]⟩]⟩
noncomputable def S64_1 (F : Nat) (o : Summ) : Summ := mkS sh64_1 (fun d K => f64_1 F d.1.2.1 d.1.2.2.1 d.2.1.2.2.2.1 d.2.1.2.2.2.2.1 d.2.1.2.2.2.2.2.1 d.2.2.1.2.1 d.2.2.2.1.2.1 (fun (y0 : Int) (y1 : Int) (y2 : Bool) (y3 : Int) => K [.lf (.int .i64 y0)] [some ⟨false, [.full 1, .full 2, .int .i64 y1, .bool y2, .int .i64 y3]⟩, some ⟨d.2.2.1.1, [.seq .str 0 d.2.2.1.2.1]⟩, some ⟨false, [.seq (.pair (.int .i64) .str) 0 d.2.2.2.1.2.1]⟩]) (fun (y1 : Int) (y2 : Bool) (y3 : Int) (y5 : List (Int × ByteArray)) => K [.lf (.int .i64 0)] [some ⟨false, [.full 1, .full 3, .int .i64 y1, .bool y2, .int .i64 y3]⟩, some ⟨d.2.2.1.1, [.seq .str 0 d.2.2.1.2.1]⟩, none, some ⟨false, [.seq (.pair (.int .i64) .str) 0 y5]⟩])) o
noncomputable def code64 : Code := bodyOf Try.f64
theorem scopes64 : scopesOf code64 = [] := by kernel_rfl
theorem ranges64 : rangesOf code64 = [] := by kernel_rfl
theorem loops64 : loopsOf code64 = [] := by kernel_rfl
theorem enter64 : ∀ args w, (callFunc 64 args).run Try.prog w = .ok (.enter 64 args) w := enter_of (fn := Try.f64) (by kernel_rfl) (by kernel_rfl) (by kernel_rfl)
noncomputable def T64_1 (F : Nat) : FuncId → Option Summ := tab [(80, (S80_1 F noS)), (108, (S108_1 F noS)), (111, (S111_1 F noS))]
noncomputable def LT64_1 (F : Nat) : Nat → Option LoopS := ltab []
theorem E64_1g (F : Nat) (c80_1 : ByteArray → (Bool → Option Res) → Option Res) (c108_1 : Int → Int → Bool → Int → List ByteArray → List (Int × ByteArray) → (Bool → Option Res) → Option Res) (c111_1 : Int → Bool → Int → List ByteArray → List (Int × ByteArray) → (Bool → Int → Bool → Int → Option Res) → Option Res)   (d : sh64_1.den) (K : KF) : evBody Try.prog (tab [(80, (mkS sh80_1 (fun d K => c80_1 d.1.1 (fun (y0 : Bool) => K [.lf (.bool y0)] [])) noS)), (108, (mkS sh108_1 (fun d K => c108_1 d.1.2.1 d.2.1.2.2.2.1 d.2.1.2.2.2.2.1 d.2.1.2.2.2.2.2.1 d.2.2.1.2.1 d.2.2.2.1.2.1 (fun (y0 : Bool) => K [.lf (.bool y0)] [some ⟨d.2.1.1, [.full 1, .full 2, .int .i64 d.2.1.2.2.2.1, .bool d.2.1.2.2.2.2.1, .int .i64 d.2.1.2.2.2.2.2.1]⟩, some ⟨d.2.2.1.1, [.seq .str 0 d.2.2.1.2.1]⟩, some ⟨d.2.2.2.1.1, [.seq (.pair (.int .i64) .str) 0 d.2.2.2.1.2.1]⟩])) noS)), (111, (mkS sh111_1 (fun d K => c111_1 d.2.1.2.2.2.1 d.2.1.2.2.2.2.1 d.2.1.2.2.2.2.2.1 d.2.2.1.2.1 d.2.2.2.1.2.1 (fun (y0 : Bool) (y1 : Int) (y2 : Bool) (y3 : Int) => K [.lf (.bool y0)] [some ⟨false, [.full 1, .full 2, .int .i64 y1, .bool y2, .int .i64 y3]⟩, some ⟨d.2.2.1.1, [.seq .str 0 d.2.2.1.2.1]⟩, some ⟨d.2.2.2.1.1, [.seq (.pair (.int .i64) .str) 0 d.2.2.2.1.2.1]⟩])) noS))]) (xw []) 40 3 (ltab []) code64 Try.f64.results.toList (encT sh64_1.vs d.1) (encH sh64_1.h d.2) K = (fun (a1 : Int) (a2 : ByteArray) (a3 : Int) (a4 : Bool) (a5 : Int) (a6 : List ByteArray) (a7 : List (Int × ByteArray)) (K0 : (Int → Int → Bool → Int → Option Res)) (K1 : (Int → Bool → Int → List (Int × ByteArray) → Option Res)) => cond a4 (K0 5 a3 a4 a5) (c108_1 a1 a3 a4 a5 a6 a7 (fun x1 => cond (!x1) (K0 3 a3 a4 a5) (c80_1 a2 (fun x2 => cond (!x2) (K0 4 a3 a4 a5) (c111_1 a3 a4 a5 a6 a7 (fun x3 x4 x5 x6 => cond (!x3) (K0 5 x4 x5 x6) (cond (decide ((a7.length + 1) * 24 ≤ 70368744177664)) (K1 x4 x5 x6 (a7 ++ [(a1, a2)])) none)) )) )) )) d.1.2.1 d.1.2.2.1 d.2.1.2.2.2.1 d.2.1.2.2.2.2.1 d.2.1.2.2.2.2.2.1 d.2.2.1.2.1 d.2.2.2.1.2.1 (fun (y0 : Int) (y1 : Int) (y2 : Bool) (y3 : Int) => K [.lf (.int .i64 y0)] [some ⟨false, [.full 1, .full 2, .int .i64 y1, .bool y2, .int .i64 y3]⟩, some ⟨d.2.2.1.1, [.seq .str 0 d.2.2.1.2.1]⟩, some ⟨false, [.seq (.pair (.int .i64) .str) 0 d.2.2.2.1.2.1]⟩]) (fun (y1 : Int) (y2 : Bool) (y3 : Int) (y5 : List (Int × ByteArray)) => K [.lf (.int .i64 0)] [some ⟨false, [.full 1, .full 3, .int .i64 y1, .bool y2, .int .i64 y3]⟩, some ⟨d.2.2.1.1, [.seq .str 0 d.2.2.1.2.1]⟩, none, some ⟨false, [.seq (.pair (.int .i64) .str) 0 y5]⟩]) := by kernel_rfl
theorem E64_1 (F : Nat) (d : sh64_1.den) (K : KF) : evBody Try.prog (T64_1 F) (xw []) 40 3 (LT64_1 F) code64 Try.f64.results.toList (encT sh64_1.vs d.1) (encH sh64_1.h d.2) K = f64_1 F d.1.2.1 d.1.2.2.1 d.2.1.2.2.2.1 d.2.1.2.2.2.2.1 d.2.1.2.2.2.2.2.1 d.2.2.1.2.1 d.2.2.2.1.2.1 (fun (y0 : Int) (y1 : Int) (y2 : Bool) (y3 : Int) => K [.lf (.int .i64 y0)] [some ⟨false, [.full 1, .full 2, .int .i64 y1, .bool y2, .int .i64 y3]⟩, some ⟨d.2.2.1.1, [.seq .str 0 d.2.2.1.2.1]⟩, some ⟨false, [.seq (.pair (.int .i64) .str) 0 d.2.2.2.1.2.1]⟩]) (fun (y1 : Int) (y2 : Bool) (y3 : Int) (y5 : List (Int × ByteArray)) => K [.lf (.int .i64 0)] [some ⟨false, [.full 1, .full 3, .int .i64 y1, .bool y2, .int .i64 y3]⟩, some ⟨d.2.2.1.1, [.seq .str 0 d.2.2.1.2.1]⟩, none, some ⟨false, [.seq (.pair (.int .i64) .str) 0 y5]⟩]) := Eq.mp (by kernel_rfl) (E64_1g F (f80_1 F) (f108_1 F) (f111_1 F)   d K)
theorem S64_1_ok (F : Nat) (o : Summ) (ho : SoundFn Try.prog 64 o) : SoundFn Try.prog 64 (S64_1 F o) :=
  soundFn_of (fn := Try.f64) (c := code64) rfl rfl (by kernel_rfl) (tab_cons (S80_1_ok F _ (noS_sound enter80)) (tab_cons (S108_1_ok F _ (noS_sound enter108)) (tab_cons (S111_1_ok F _ (noS_sound enter111)) tab_nil))) (by kernel_rfl) (by kernel_rfl) ho (by rw [loops64]; exact loopsOK_nil) (by rw [scopes64]; exact scopesOK_nil) (by rw [ranges64]; exact rangesOK_nil) (E64_1 F)
end Go.Proofs.Ytjlolgpbidfmeaa.X
end

section
namespace Go.Proofs.Ytjlolgpbidfmeaa.X
open Go Go.Proofs.Ytjlolgpbidfmeaa.Ev Go.Proofs
set_option linter.unusedVariables false
set_option linter.unusedSectionVars false
/-! disk.Disk).Done -/
noncomputable def f67_1 {β : Type} (F : Nat) (a1 : Int) (a2 : Bool) (a3 : Int) (a4 : List ByteArray) (a5 : List (Int × ByteArray)) (K0 : Option β) : Option β := K0
variable [FZ]
def sh67_1 : Sh := ⟨[.lf (.ptr 0 0)], [some ⟨none, [.full 1, .full 2, .int .i64, .bool, .int .i64]⟩, some ⟨none, [.seq .str 0]⟩, some ⟨none, [.seq (.pair (.int .i64) .str) 0]⟩]⟩
noncomputable def S67_1 (F : Nat) (o : Summ) : Summ := mkS sh67_1 (fun d K => f67_1 F d.2.1.2.2.2.1 d.2.1.2.2.2.2.1 d.2.1.2.2.2.2.2.1 d.2.2.1.2.1 d.2.2.2.1.2.1 (K [.lf (.int .i64 d.2.1.2.2.2.2.2.1)] [some ⟨d.2.1.1, [.full 1, .full 2, .int .i64 d.2.1.2.2.2.1, .bool d.2.1.2.2.2.2.1, .int .i64 d.2.1.2.2.2.2.2.1]⟩, some ⟨d.2.2.1.1, [.seq .str 0 d.2.2.1.2.1]⟩, some ⟨d.2.2.2.1.1, [.seq (.pair (.int .i64) .str) 0 d.2.2.2.1.2.1]⟩])) o
noncomputable def code67 : Code := bodyOf Try.f67
theorem scopes67 : scopesOf code67 = [] := by kernel_rfl
theorem ranges67 : rangesOf code67 = [] := by kernel_rfl
theorem loops67 : loopsOf code67 = [] := by kernel_rfl
theorem enter67 : ∀ args w, (callFunc 67 args).run Try.prog w = .ok (.enter 67 args) w := enter_of (fn := Try.f67) (by kernel_rfl) (by kernel_rfl) (by kernel_rfl)
noncomputable def T67_1 (F : Nat) : FuncId → Option Summ := tab []
noncomputable def LT67_1 (F : Nat) : Nat → Option LoopS := ltab []
theorem E67_1g (F : Nat)    (d : sh67_1.den) (K : KF) : evBody Try.prog (tab []) (xw []) 9 3 (ltab []) code67 Try.f67.results.toList (encT sh67_1.vs d.1) (encH sh67_1.h d.2) K = (fun (a1 : Int) (a2 : Bool) (a3 : Int) (a4 : List ByteArray) (a5 : List (Int × ByteArray)) (K0 : (Option Res)) => K0) d.2.1.2.2.2.1 d.2.1.2.2.2.2.1 d.2.1.2.2.2.2.2.1 d.2.2.1.2.1 d.2.2.2.1.2.1 (K [.lf (.int .i64 d.2.1.2.2.2.2.2.1)] [some ⟨d.2.1.1, [.full 1, .full 2, .int .i64 d.2.1.2.2.2.1, .bool d.2.1.2.2.2.2.1, .int .i64 d.2.1.2.2.2.2.2.1]⟩, some ⟨d.2.2.1.1, [.seq .str 0 d.2.2.1.2.1]⟩, some ⟨d.2.2.2.1.1, [.seq (.pair (.int .i64) .str) 0 d.2.2.2.1.2.1]⟩]) := by kernel_rfl
theorem E67_1 (F : Nat) (d : sh67_1.den) (K : KF) : evBody Try.prog (T67_1 F) (xw []) 9 3 (LT67_1 F) code67 Try.f67.results.toList (encT sh67_1.vs d.1) (encH sh67_1.h d.2) K = f67_1 F d.2.1.2.2.2.1 d.2.1.2.2.2.2.1 d.2.1.2.2.2.2.2.1 d.2.2.1.2.1 d.2.2.2.1.2.1 (K [.lf (.int .i64 d.2.1.2.2.2.2.2.1)] [some ⟨d.2.1.1, [.full 1, .full 2, .int .i64 d.2.1.2.2.2.1, .bool d.2.1.2.2.2.2.1, .int .i64 d.2.1.2.2.2.2.2.1]⟩, some ⟨d.2.2.1.1, [.seq .str 0 d.2.2.1.2.1]⟩, some ⟨d.2.2.2.1.1, [.seq (.pair (.int .i64) .str) 0 d.2.2.2.1.2.1]⟩]) := Eq.mp (by kernel_rfl) (E67_1g F    d K)
theorem S67_1_ok (F : Nat) (o : Summ) (ho : SoundFn Try.prog 67 o) : SoundFn Try.prog 67 (S67_1 F o) :=
  soundFn_of (fn := Try.f67) (c := code67) rfl rfl (by kernel_rfl) tab_nil (by kernel_rfl) (by kernel_rfl) ho (by rw [loops67]; exact loopsOK_nil) (by rw [scopes67]; exact scopesOK_nil) (by rw [ranges67]; exact rangesOK_nil) (E67_1 F)
end Go.Proofs.Ytjlolgpbidfmeaa.X
end

section
namespace Go.Proofs.Ytjlolgpbidfmeaa.X
open Go Go.Proofs.Ytjlolgpbidfmeaa.Ev Go.Proofs
set_option linter.unusedVariables false
set_option linter.unusedSectionVars false
/-! pentimentoref05.Fill -/
noncomputable def f76_1_l3 {β : Type} (F : Nat) (v1 : Int) (K0 : List Int → Option β) : Nat → Int → List Int → Option β
  | 0, _, _ => none
  | k + 1, v2, v3 => cond (decide (v2 < 64)) (cond (decide ((v3.length + 1) * 1 ≤ 70368744177664)) (f76_1_l3 F v1 K0 k (IntKind.i64.wrap (v2 + 1)) (v3 ++ [v1])) none) (K0 v3)
noncomputable def f76_1 {β : Type} (F : Nat) (a1 : Int) (K0 : ByteArray → Option β) : Option β := f76_1_l3 F a1 (fun x4 => K0 (ofInts x4)) F 0 []
variable [FZ]
def sh76_1 : Sh := ⟨[.lf (.int .u8)], []⟩
noncomputable def S76_1 (F : Nat) (o : Summ) : Summ := mkS sh76_1 (fun d K => f76_1 F d.1.1 (fun (y0 : ByteArray) => K [.lf (.str y0)] [])) o
noncomputable def code76 : Code := bodyOf Try.f76
noncomputable def b76_0 : Code := cB (cB (cR (cL (cR (cR (code76))))))
theorem scopes76 : scopesOf code76 = [] := by kernel_rfl
theorem ranges76 : rangesOf code76 = [] := by kernel_rfl
theorem loops76 : loopsOf code76 = [b76_0] := by kernel_rfl
theorem enter76 : ∀ args w, (callFunc 76 args).run Try.prog w = .ok (.enter 76 args) w := enter_of (fn := Try.f76) (by kernel_rfl) (by kernel_rfl) (by kernel_rfl)
noncomputable def T76_1 (F : Nat) : FuncId → Option Summ := tab []
def sh76_1_l3 : Sh := ⟨[.lf (.int .u8), .lf (.full 0), .lf (.int .i64)], [some ⟨some false, [.seq (.int .u8) 0]⟩]⟩
noncomputable def G76_1_3 (F k : Nat) : LoopS := mkG sh76_1_l3 [0, 3, 4] (outT [(.exit 0, [3])]) (fun d K => f76_1_l3 F d.1.1 (fun (y0 : List Int) => K (.exit 0) [.tv (.lf (.full 0))] [some ⟨false, [.seq (.int .u8) 0 y0]⟩]) k d.1.2.2.1 d.2.1.2.1) []
noncomputable def LT76_1 (F : Nat) : Nat → Option LoopS := ltab [(3, G76_1_3 F F)]
theorem L76_1_l3g (F k : Nat)   (l3 : Int → (List Int → Option Res) → Nat → Int → List Int → Option Res) (X3 : LoopS) (d : sh76_1_l3.den) (K : KL) : (fun (v1 : Int) (K0 : (List Int → Option Res)) (k : Nat) (v2 : Int) (v3 : List Int) => cond (decide (v2 < 64)) (cond (decide ((v3.length + 1) * 1 ≤ 70368744177664)) (l3 v1 K0 k (IntKind.i64.wrap (v2 + 1)) (v3 ++ [v1])) none) (K0 v3)) d.1.1 (fun (y0 : List Int) => K (.exit 0) [.tv (.lf (.full 0))] [some ⟨false, [.seq (.int .u8) 0 y0]⟩]) k d.1.2.2.1 d.2.1.2.1 = roundOf Try.prog (tab []) (xw []) 15 0 (ltab [(3, X3)]) (mkG sh76_1_l3 [0, 3, 4] (outT [(.exit 0, [3])]) (fun d K => l3 d.1.1 (fun (y0 : List Int) => K (.exit 0) [.tv (.lf (.full 0))] [some ⟨false, [.seq (.int .u8) 0 y0]⟩]) k d.1.2.2.1 d.2.1.2.1) []) b76_0 (encT sh76_1_l3.vs d.1) (encH sh76_1_l3.h d.2) K := by kernel_rfl
theorem L76_1_3 (F : Nat) : LoopOK Try.prog (T76_1 F) (xw []) 15 0 (LT76_1 F) (G76_1_3 F F) b76_0 :=
  loopOK_of (s := sh76_1_l3) (live := [0, 3, 4]) (out := (outT [(.exit 0, [3])])) (mv := []) (fun k d K => f76_1_l3 F d.1.1 (fun (y0 : List Int) => K (.exit 0) [.tv (.lf (.full 0))] [some ⟨false, [.seq (.int .u8) 0 y0]⟩]) k d.1.2.2.1 d.2.1.2.1) F (fun d K => by kernel_rfl)  (fun k d K => Eq.mp (by kernel_rfl) (L76_1_l3g F k   (f76_1_l3 F) (G76_1_3 F F) d K))
theorem E76_1g (F : Nat)  (l3 : Int → (List Int → Option Res) → Nat → Int → List Int → Option Res)  (d : sh76_1.den) (K : KF) : evBody Try.prog (tab []) (xw []) 15 0 (ltab [(3, mkG sh76_1_l3 [0, 3, 4] (outT [(.exit 0, [3])]) (fun d K => l3 d.1.1 (fun (y0 : List Int) => K (.exit 0) [.tv (.lf (.full 0))] [some ⟨false, [.seq (.int .u8) 0 y0]⟩]) F d.1.2.2.1 d.2.1.2.1) [])]) code76 Try.f76.results.toList (encT sh76_1.vs d.1) (encH sh76_1.h d.2) K = (fun (a1 : Int) (K0 : (ByteArray → Option Res)) => l3 a1 (fun x4 => K0 (ofInts x4)) F 0 []) d.1.1 (fun (y0 : ByteArray) => K [.lf (.str y0)] []) := by kernel_rfl
theorem E76_1 (F : Nat) (d : sh76_1.den) (K : KF) : evBody Try.prog (T76_1 F) (xw []) 15 0 (LT76_1 F) code76 Try.f76.results.toList (encT sh76_1.vs d.1) (encH sh76_1.h d.2) K = f76_1 F d.1.1 (fun (y0 : ByteArray) => K [.lf (.str y0)] []) := Eq.mp (by kernel_rfl) (E76_1g F  (f76_1_l3 F)  d K)
theorem S76_1_ok (F : Nat) (o : Summ) (ho : SoundFn Try.prog 76 o) : SoundFn Try.prog 76 (S76_1 F o) :=
  soundFn_of (fn := Try.f76) (c := code76) rfl rfl (by kernel_rfl) tab_nil (by kernel_rfl) (by kernel_rfl) ho (by rw [loops76]; exact (loopsOK_cons (by kernel_rfl) (L76_1_3 F) loopsOK_nil)) (by rw [scopes76]; exact scopesOK_nil) (by rw [ranges76]; exact rangesOK_nil) (E76_1 F)
end Go.Proofs.Ytjlolgpbidfmeaa.X
end

section
namespace Go.Proofs.Ytjlolgpbidfmeaa.X
open Go Go.Proofs.Ytjlolgpbidfmeaa.Ev Go.Proofs
set_option linter.unusedVariables false
set_option linter.unusedSectionVars false
/-! pentimentolaw06.known -/
noncomputable def f50_1 {β : Type} (F : Nat)  (K0 : Bool → Option β) : Option β := f51_1 F 2 (K0 false) (fun x1 x2 => f76_1 F 7 (fun x3 => f64_1 F 1 x3 (-1) false 0 x1 x2 (fun x4 x5 x6 x7 => f56_1 F x5 x6 x7 x1 x2 [true] (fun x8 x9 => f57_1 F (-1) true x7 x8 x9 (f58_1 F 1 (-1) true x7 x8 x9 (fun x10 x11 => f64_1 F 0 (⟨#[120]⟩ : ByteArray) (-1) true x7 x8 x9 (fun x12 x13 x14 x15 => cond (x4 == 0) (K0 false) (K0 false)) (fun x16 x17 x18 x19 => cond (x4 == 0) (K0 false) (K0 false)) ) ) (fun x20 => f58_1 F 1 (-1) false x7 x8 x20 (fun x21 x22 => f64_1 F 0 (⟨#[120]⟩ : ByteArray) (-1) false x7 x8 x20 (fun x23 x24 x25 x26 => cond (x4 == 0) (f76_1 F 7 (fun x27 => cond (x21.toList == x27.toList) (cond (x22 == 0) (cond (x23 == 4) (f67_1 F x24 x25 x26 x8 x20 (K0 (x26 == 1)) ) (K0 false)) (K0 false)) (K0 false)) ) (K0 false)) (fun x28 x29 x30 x31 => cond (x4 == 0) (f76_1 F 7 (fun x32 => cond (x21.toList == x32.toList) (cond (x22 == 0) (K0 false) (K0 false)) (K0 false)) ) (K0 false)) ) ) ) ) (fun x33 x34 x35 x36 => f56_1 F x33 x34 x35 x1 x36 [true] (fun x37 x38 => f57_1 F (-1) true x35 x37 x38 (f58_1 F 1 (-1) true x35 x37 x38 (fun x39 x40 => f64_1 F 0 (⟨#[120]⟩ : ByteArray) (-1) true x35 x37 x38 (fun x41 x42 x43 x44 => K0 false) (fun x45 x46 x47 x48 => K0 false) ) ) (fun x49 => f58_1 F 1 (-1) false x35 x37 x49 (fun x50 x51 => f64_1 F 0 (⟨#[120]⟩ : ByteArray) (-1) false x35 x37 x49 (fun x52 x53 x54 x55 => f76_1 F 7 (fun x56 => cond (x50.toList == x56.toList) (cond (x51 == 0) (cond (x52 == 4) (f67_1 F x53 x54 x55 x37 x49 (K0 (x55 == 1)) ) (K0 false)) (K0 false)) (K0 false)) ) (fun x57 x58 x59 x60 => f76_1 F 7 (fun x61 => cond (x50.toList == x61.toList) (cond (x51 == 0) (K0 false) (K0 false)) (K0 false)) ) ) ) ) ) ) ) 
variable [FZ]
def sh50_1 : Sh := ⟨[], []⟩
noncomputable def S50_1 (F : Nat) (o : Summ) : Summ := mkS sh50_1 (fun d K => f50_1 F (fun (y0 : Bool) => K [.lf (.bool y0)] [])) o
noncomputable def code50 : Code := bodyOf Try.f50
theorem scopes50 : scopesOf code50 = [] := by kernel_rfl
theorem ranges50 : rangesOf code50 = [] := by kernel_rfl
theorem loops50 : loopsOf code50 = [] := by kernel_rfl
theorem enter50 : ∀ args w, (callFunc 50 args).run Try.prog w = .ok (.enter 50 args) w := enter_of (fn := Try.f50) (by kernel_rfl) (by kernel_rfl) (by kernel_rfl)
noncomputable def T50_1 (F : Nat) : FuncId → Option Summ := tab [(51, (S51_1 F noS)), (56, (S56_1 F noS)), (57, (S57_1 F noS)), (58, (S58_1 F noS)), (64, (S64_1 F noS)), (67, (S67_1 F noS)), (76, (S76_1 F noS))]
noncomputable def LT50_1 (F : Nat) : Nat → Option LoopS := ltab []
theorem E50_1g (F : Nat) (c51_1 : Int → (Option Res) → (List ByteArray → List (Int × ByteArray) → Option Res) → Option Res) (c56_1 : Int → Bool → Int → List ByteArray → List (Int × ByteArray) → List Bool → (List ByteArray → List (Int × ByteArray) → Option Res) → Option Res) (c57_1 : Int → Bool → Int → List ByteArray → List (Int × ByteArray) → (Option Res) → (List (Int × ByteArray) → Option Res) → Option Res) (c58_1 : Int → Int → Bool → Int → List ByteArray → List (Int × ByteArray) → (ByteArray → Int → Option Res) → Option Res) (c64_1 : Int → ByteArray → Int → Bool → Int → List ByteArray → List (Int × ByteArray) → (Int → Int → Bool → Int → Option Res) → (Int → Bool → Int → List (Int × ByteArray) → Option Res) → Option Res) (c67_1 : Int → Bool → Int → List ByteArray → List (Int × ByteArray) → (Option Res) → Option Res) (c76_1 : Int → (ByteArray → Option Res) → Option Res)   (d : sh50_1.den) (K : KF) : evBody Try.prog (tab [(51, (mkS sh51_1 (fun d K => c51_1 d.1.1 (K [.lf (.nilp), .lf (.int .i64 2)] []) (fun (y4 : List ByteArray) (y5 : List (Int × ByteArray)) => K [.lf (.ptr 0 0), .lf (.int .i64 0)] [some ⟨false, [.full 1, .full 2, .int .i64 (-1), .bool false, .int .i64 0]⟩, some ⟨false, [.seq .str 0 y4]⟩, some ⟨false, [.seq (.pair (.int .i64) .str) 0 y5]⟩])) noS)), (56, (mkS sh56_1 (fun d K => c56_1 d.2.1.2.2.2.1 d.2.1.2.2.2.2.1 d.2.1.2.2.2.2.2.1 d.2.2.1.2.1 d.2.2.2.1.2.1 d.2.2.2.2.1.2.1 (fun (y3 : List ByteArray) (y6 : List (Int × ByteArray)) => K [] [some ⟨false, [.full 1, .full 4, .int .i64 (-1), .bool true, .int .i64 d.2.1.2.2.2.2.2.1]⟩, some ⟨false, [.seq .str 0 y3]⟩, some ⟨d.2.2.2.1.1, [.seq (.pair (.int .i64) .str) 0 d.2.2.2.1.2.1]⟩, some ⟨d.2.2.2.2.1.1, [.seq .bool 0 d.2.2.2.2.1.2.1]⟩, some ⟨false, [.seq (.pair (.int .i64) .str) 0 y6]⟩])) noS)), (57, (mkS sh57_1 (fun d K => c57_1 d.2.1.2.2.2.1 d.2.1.2.2.2.2.1 d.2.1.2.2.2.2.2.1 d.2.2.1.2.1 d.2.2.2.1.2.1 (K [.lf (.int .i64 21)] [some ⟨false, [.full 1, .full 2, .int .i64 d.2.1.2.2.2.1, .bool d.2.1.2.2.2.2.1, .int .i64 d.2.1.2.2.2.2.2.1]⟩, some ⟨d.2.2.1.1, [.seq .str 0 d.2.2.1.2.1]⟩, some ⟨d.2.2.2.1.1, [.seq (.pair (.int .i64) .str) 0 d.2.2.2.1.2.1]⟩]) (fun (y6 : List (Int × ByteArray)) => K [.lf (.int .i64 0)] [some ⟨false, [.full 1, .full 3, .int .i64 (-1), .bool false, .int .i64 d.2.1.2.2.2.2.2.1]⟩, some ⟨d.2.2.1.1, [.seq .str 0 d.2.2.1.2.1]⟩, some ⟨d.2.2.2.1.1, [.seq (.pair (.int .i64) .str) 0 d.2.2.2.1.2.1]⟩, some ⟨false, [.seq (.pair (.int .i64) .str) 0 y6]⟩])) noS)), (58, (mkS sh58_1 (fun d K => c58_1 d.1.2.1 d.2.1.2.2.2.1 d.2.1.2.2.2.2.1 d.2.1.2.2.2.2.2.1 d.2.2.1.2.1 d.2.2.2.1.2.1 (fun (y0 : ByteArray) (y1 : Int) => K [.lf (.str y0), .lf (.int .i64 y1)] [some ⟨d.2.1.1, [.full 1, .full 2, .int .i64 d.2.1.2.2.2.1, .bool d.2.1.2.2.2.2.1, .int .i64 d.2.1.2.2.2.2.2.1]⟩, some ⟨d.2.2.1.1, [.seq .str 0 d.2.2.1.2.1]⟩, some ⟨d.2.2.2.1.1, [.seq (.pair (.int .i64) .str) 0 d.2.2.2.1.2.1]⟩])) noS)), (64, (mkS sh64_1 (fun d K => c64_1 d.1.2.1 d.1.2.2.1 d.2.1.2.2.2.1 d.2.1.2.2.2.2.1 d.2.1.2.2.2.2.2.1 d.2.2.1.2.1 d.2.2.2.1.2.1 (fun (y0 : Int) (y1 : Int) (y2 : Bool) (y3 : Int) => K [.lf (.int .i64 y0)] [some ⟨false, [.full 1, .full 2, .int .i64 y1, .bool y2, .int .i64 y3]⟩, some ⟨d.2.2.1.1, [.seq .str 0 d.2.2.1.2.1]⟩, some ⟨false, [.seq (.pair (.int .i64) .str) 0 d.2.2.2.1.2.1]⟩]) (fun (y1 : Int) (y2 : Bool) (y3 : Int) (y5 : List (Int × ByteArray)) => K [.lf (.int .i64 0)] [some ⟨false, [.full 1, .full 3, .int .i64 y1, .bool y2, .int .i64 y3]⟩, some ⟨d.2.2.1.1, [.seq .str 0 d.2.2.1.2.1]⟩, none, some ⟨false, [.seq (.pair (.int .i64) .str) 0 y5]⟩])) noS)), (67, (mkS sh67_1 (fun d K => c67_1 d.2.1.2.2.2.1 d.2.1.2.2.2.2.1 d.2.1.2.2.2.2.2.1 d.2.2.1.2.1 d.2.2.2.1.2.1 (K [.lf (.int .i64 d.2.1.2.2.2.2.2.1)] [some ⟨d.2.1.1, [.full 1, .full 2, .int .i64 d.2.1.2.2.2.1, .bool d.2.1.2.2.2.2.1, .int .i64 d.2.1.2.2.2.2.2.1]⟩, some ⟨d.2.2.1.1, [.seq .str 0 d.2.2.1.2.1]⟩, some ⟨d.2.2.2.1.1, [.seq (.pair (.int .i64) .str) 0 d.2.2.2.1.2.1]⟩])) noS)), (76, (mkS sh76_1 (fun d K => c76_1 d.1.1 (fun (y0 : ByteArray) => K [.lf (.str y0)] [])) noS))]) (xw []) 57 0 (ltab []) code50 Try.f50.results.toList (encT sh50_1.vs d.1) (encH sh50_1.h d.2) K = (fun (K0 : (Bool → Option Res)) => c51_1 2 (K0 false) (fun x1 x2 => c76_1 7 (fun x3 => c64_1 1 x3 (-1) false 0 x1 x2 (fun x4 x5 x6 x7 => c56_1 x5 x6 x7 x1 x2 [true] (fun x8 x9 => c57_1 (-1) true x7 x8 x9 (c58_1 1 (-1) true x7 x8 x9 (fun x10 x11 => c64_1 0 (⟨#[120]⟩ : ByteArray) (-1) true x7 x8 x9 (fun x12 x13 x14 x15 => cond (x4 == 0) (K0 false) (K0 false)) (fun x16 x17 x18 x19 => cond (x4 == 0) (K0 false) (K0 false)) ) ) (fun x20 => c58_1 1 (-1) false x7 x8 x20 (fun x21 x22 => c64_1 0 (⟨#[120]⟩ : ByteArray) (-1) false x7 x8 x20 (fun x23 x24 x25 x26 => cond (x4 == 0) (c76_1 7 (fun x27 => cond (x21.toList == x27.toList) (cond (x22 == 0) (cond (x23 == 4) (c67_1 x24 x25 x26 x8 x20 (K0 (x26 == 1)) ) (K0 false)) (K0 false)) (K0 false)) ) (K0 false)) (fun x28 x29 x30 x31 => cond (x4 == 0) (c76_1 7 (fun x32 => cond (x21.toList == x32.toList) (cond (x22 == 0) (K0 false) (K0 false)) (K0 false)) ) (K0 false)) ) ) ) ) (fun x33 x34 x35 x36 => c56_1 x33 x34 x35 x1 x36 [true] (fun x37 x38 => c57_1 (-1) true x35 x37 x38 (c58_1 1 (-1) true x35 x37 x38 (fun x39 x40 => c64_1 0 (⟨#[120]⟩ : ByteArray) (-1) true x35 x37 x38 (fun x41 x42 x43 x44 => K0 false) (fun x45 x46 x47 x48 => K0 false) ) ) (fun x49 => c58_1 1 (-1) false x35 x37 x49 (fun x50 x51 => c64_1 0 (⟨#[120]⟩ : ByteArray) (-1) false x35 x37 x49 (fun x52 x53 x54 x55 => c76_1 7 (fun x56 => cond (x50.toList == x56.toList) (cond (x51 == 0) (cond (x52 == 4) (c67_1 x53 x54 x55 x37 x49 (K0 (x55 == 1)) ) (K0 false)) (K0 false)) (K0 false)) ) (fun x57 x58 x59 x60 => c76_1 7 (fun x61 => cond (x50.toList == x61.toList) (cond (x51 == 0) (K0 false) (K0 false)) (K0 false)) ) ) ) ) ) ) ) ) (fun (y0 : Bool) => K [.lf (.bool y0)] []) := by kernel_rfl
theorem E50_1 (F : Nat) (d : sh50_1.den) (K : KF) : evBody Try.prog (T50_1 F) (xw []) 57 0 (LT50_1 F) code50 Try.f50.results.toList (encT sh50_1.vs d.1) (encH sh50_1.h d.2) K = f50_1 F (fun (y0 : Bool) => K [.lf (.bool y0)] []) := Eq.mp (by kernel_rfl) (E50_1g F (f51_1 F) (f56_1 F) (f57_1 F) (f58_1 F) (f64_1 F) (f67_1 F) (f76_1 F)   d K)
theorem S50_1_ok (F : Nat) (o : Summ) (ho : SoundFn Try.prog 50 o) : SoundFn Try.prog 50 (S50_1 F o) :=
  soundFn_of (fn := Try.f50) (c := code50) rfl rfl (by kernel_rfl) (tab_cons (S51_1_ok F _ (noS_sound enter51)) (tab_cons (S56_1_ok F _ (noS_sound enter56)) (tab_cons (S57_1_ok F _ (noS_sound enter57)) (tab_cons (S58_1_ok F _ (noS_sound enter58)) (tab_cons (S64_1_ok F _ (noS_sound enter64)) (tab_cons (S67_1_ok F _ (noS_sound enter67)) (tab_cons (S76_1_ok F _ (noS_sound enter76)) tab_nil))))))) (by kernel_rfl) (by kernel_rfl) ho (by rw [loops50]; exact loopsOK_nil) (by rw [scopes50]; exact scopesOK_nil) (by rw [ranges50]; exact rangesOK_nil) (E50_1 F)
end Go.Proofs.Ytjlolgpbidfmeaa.X
end

section
namespace Go.Proofs.Ytjlolgpbidfmeaa.X
open Go Go.Proofs.Ytjlolgpbidfmeaa.Ev Go.Proofs
set_option linter.unusedVariables false
set_option linter.unusedSectionVars false
/-! api.Put] -/
noncomputable def f107_1 {β : Type} (F : Nat) (a1 : List (Int × ByteArray)) (K0 : List (Int × ByteArray) → Option β) : Option β := cond (decide (0 < a1.length)) (cond (decide ((0 + a1.length) * 24 ≤ 70368744177664)) (K0 ([] ++ a1)) none) (amb (K0 []) (cond (decide ((0 + a1.length) * 24 ≤ 70368744177664)) (K0 ([] ++ a1)) none))
variable [FZ]
def sh107_1 : Sh := ⟨[.lf (.full 0)], [some ⟨none, [.seq (.pair (.int .i64) .str) 0]⟩]⟩
noncomputable def S107_1 (F : Nat) (o : Summ) : Summ := mkS sh107_1 (fun d K => f107_1 F d.2.1.2.1 (fun (y1 : List (Int × ByteArray)) => K [.lf (.full 1)] [some ⟨d.2.1.1, [.seq (.pair (.int .i64) .str) 0 d.2.1.2.1]⟩, some ⟨false, [.seq (.pair (.int .i64) .str) 0 y1]⟩])) o
noncomputable def code107 : Code := bodyOf Try.f107
theorem scopes107 : scopesOf code107 = [] := by kernel_rfl
theorem ranges107 : rangesOf code107 = [] := by kernel_rfl
theorem loops107 : loopsOf code107 = [] := by kernel_rfl
theorem enter107 : ∀ args w, (callFunc 107 args).run Try.prog w = .ok (.enter 107 args) w := enter_of (fn := Try.f107) (by kernel_rfl) (by kernel_rfl) (by kernel_rfl)
noncomputable def T107_1 (F : Nat) : FuncId → Option Summ := tab []
noncomputable def LT107_1 (F : Nat) : Nat → Option LoopS := ltab []
theorem E107_1g (F : Nat)    (d : sh107_1.den) (K : KF) : evBody Try.prog (tab []) (xw []) 8 1 (ltab []) code107 Try.f107.results.toList (encT sh107_1.vs d.1) (encH sh107_1.h d.2) K = (fun (a1 : List (Int × ByteArray)) (K0 : (List (Int × ByteArray) → Option Res)) => cond (decide (0 < a1.length)) (cond (decide ((0 + a1.length) * 24 ≤ 70368744177664)) (K0 ([] ++ a1)) none) (amb (K0 []) (cond (decide ((0 + a1.length) * 24 ≤ 70368744177664)) (K0 ([] ++ a1)) none))) d.2.1.2.1 (fun (y1 : List (Int × ByteArray)) => K [.lf (.full 1)] [some ⟨d.2.1.1, [.seq (.pair (.int .i64) .str) 0 d.2.1.2.1]⟩, some ⟨false, [.seq (.pair (.int .i64) .str) 0 y1]⟩]) := by kernel_rfl
theorem E107_1 (F : Nat) (d : sh107_1.den) (K : KF) : evBody Try.prog (T107_1 F) (xw []) 8 1 (LT107_1 F) code107 Try.f107.results.toList (encT sh107_1.vs d.1) (encH sh107_1.h d.2) K = f107_1 F d.2.1.2.1 (fun (y1 : List (Int × ByteArray)) => K [.lf (.full 1)] [some ⟨d.2.1.1, [.seq (.pair (.int .i64) .str) 0 d.2.1.2.1]⟩, some ⟨false, [.seq (.pair (.int .i64) .str) 0 y1]⟩]) := Eq.mp (by kernel_rfl) (E107_1g F    d K)
theorem S107_1_ok (F : Nat) (o : Summ) (ho : SoundFn Try.prog 107 o) : SoundFn Try.prog 107 (S107_1 F o) :=
  soundFn_of (fn := Try.f107) (c := code107) rfl rfl (by kernel_rfl) tab_nil (by kernel_rfl) (by kernel_rfl) ho (by rw [loops107]; exact loopsOK_nil) (by rw [scopes107]; exact scopesOK_nil) (by rw [ranges107]; exact rangesOK_nil) (E107_1 F)
end Go.Proofs.Ytjlolgpbidfmeaa.X
end

section
namespace Go.Proofs.Ytjlolgpbidfmeaa.X
open Go Go.Proofs.Ytjlolgpbidfmeaa.Ev Go.Proofs
set_option linter.unusedVariables false
set_option linter.unusedSectionVars false
/-! disk.Disk).Waits -/
noncomputable def f54_1 {β : Type} (F : Nat) (a1 : Int) (a2 : Bool) (a3 : Int) (a4 : List ByteArray) (a5 : List (Int × ByteArray)) (K0 : List (Int × ByteArray) → Option β) : Option β := f107_1 F a5 (fun x1 => K0 x1) 
variable [FZ]
def sh54_1 : Sh := ⟨[.lf (.ptr 0 0)], [some ⟨none, [.full 1, .full 2, .int .i64, .bool, .int .i64]⟩, some ⟨none, [.seq .str 0]⟩, some ⟨none, [.seq (.pair (.int .i64) .str) 0]⟩]⟩
noncomputable def S54_1 (F : Nat) (o : Summ) : Summ := mkS sh54_1 (fun d K => f54_1 F d.2.1.2.2.2.1 d.2.1.2.2.2.2.1 d.2.1.2.2.2.2.2.1 d.2.2.1.2.1 d.2.2.2.1.2.1 (fun (y5 : List (Int × ByteArray)) => K [.lf (.full 3)] [some ⟨d.2.1.1, [.full 1, .full 2, .int .i64 d.2.1.2.2.2.1, .bool d.2.1.2.2.2.2.1, .int .i64 d.2.1.2.2.2.2.2.1]⟩, some ⟨d.2.2.1.1, [.seq .str 0 d.2.2.1.2.1]⟩, some ⟨d.2.2.2.1.1, [.seq (.pair (.int .i64) .str) 0 d.2.2.2.1.2.1]⟩, some ⟨false, [.seq (.pair (.int .i64) .str) 0 y5]⟩])) o
noncomputable def code54 : Code := bodyOf Try.f54
theorem scopes54 : scopesOf code54 = [] := by kernel_rfl
theorem ranges54 : rangesOf code54 = [] := by kernel_rfl
theorem loops54 : loopsOf code54 = [] := by kernel_rfl
theorem enter54 : ∀ args w, (callFunc 54 args).run Try.prog w = .ok (.enter 54 args) w := enter_of (fn := Try.f54) (by kernel_rfl) (by kernel_rfl) (by kernel_rfl)
noncomputable def T54_1 (F : Nat) : FuncId → Option Summ := tab [(107, (S107_1 F noS))]
noncomputable def LT54_1 (F : Nat) : Nat → Option LoopS := ltab []
theorem E54_1g (F : Nat) (c107_1 : List (Int × ByteArray) → (List (Int × ByteArray) → Option Res) → Option Res)   (d : sh54_1.den) (K : KF) : evBody Try.prog (tab [(107, (mkS sh107_1 (fun d K => c107_1 d.2.1.2.1 (fun (y1 : List (Int × ByteArray)) => K [.lf (.full 1)] [some ⟨d.2.1.1, [.seq (.pair (.int .i64) .str) 0 d.2.1.2.1]⟩, some ⟨false, [.seq (.pair (.int .i64) .str) 0 y1]⟩])) noS))]) (xw []) 10 3 (ltab []) code54 Try.f54.results.toList (encT sh54_1.vs d.1) (encH sh54_1.h d.2) K = (fun (a1 : Int) (a2 : Bool) (a3 : Int) (a4 : List ByteArray) (a5 : List (Int × ByteArray)) (K0 : (List (Int × ByteArray) → Option Res)) => c107_1 a5 (fun x1 => K0 x1) ) d.2.1.2.2.2.1 d.2.1.2.2.2.2.1 d.2.1.2.2.2.2.2.1 d.2.2.1.2.1 d.2.2.2.1.2.1 (fun (y5 : List (Int × ByteArray)) => K [.lf (.full 3)] [some ⟨d.2.1.1, [.full 1, .full 2, .int .i64 d.2.1.2.2.2.1, .bool d.2.1.2.2.2.2.1, .int .i64 d.2.1.2.2.2.2.2.1]⟩, some ⟨d.2.2.1.1, [.seq .str 0 d.2.2.1.2.1]⟩, some ⟨d.2.2.2.1.1, [.seq (.pair (.int .i64) .str) 0 d.2.2.2.1.2.1]⟩, some ⟨false, [.seq (.pair (.int .i64) .str) 0 y5]⟩]) := by kernel_rfl
theorem E54_1 (F : Nat) (d : sh54_1.den) (K : KF) : evBody Try.prog (T54_1 F) (xw []) 10 3 (LT54_1 F) code54 Try.f54.results.toList (encT sh54_1.vs d.1) (encH sh54_1.h d.2) K = f54_1 F d.2.1.2.2.2.1 d.2.1.2.2.2.2.1 d.2.1.2.2.2.2.2.1 d.2.2.1.2.1 d.2.2.2.1.2.1 (fun (y5 : List (Int × ByteArray)) => K [.lf (.full 3)] [some ⟨d.2.1.1, [.full 1, .full 2, .int .i64 d.2.1.2.2.2.1, .bool d.2.1.2.2.2.2.1, .int .i64 d.2.1.2.2.2.2.2.1]⟩, some ⟨d.2.2.1.1, [.seq .str 0 d.2.2.1.2.1]⟩, some ⟨d.2.2.2.1.1, [.seq (.pair (.int .i64) .str) 0 d.2.2.2.1.2.1]⟩, some ⟨false, [.seq (.pair (.int .i64) .str) 0 y5]⟩]) := Eq.mp (by kernel_rfl) (E54_1g F (f107_1 F)   d K)
theorem S54_1_ok (F : Nat) (o : Summ) (ho : SoundFn Try.prog 54 o) : SoundFn Try.prog 54 (S54_1 F o) :=
  soundFn_of (fn := Try.f54) (c := code54) rfl rfl (by kernel_rfl) (tab_cons (S107_1_ok F _ (noS_sound enter107)) tab_nil) (by kernel_rfl) (by kernel_rfl) ho (by rw [loops54]; exact loopsOK_nil) (by rw [scopes54]; exact scopesOK_nil) (by rw [ranges54]; exact rangesOK_nil) (E54_1 F)
end Go.Proofs.Ytjlolgpbidfmeaa.X
end

section
namespace Go.Proofs.Ytjlolgpbidfmeaa.X
open Go Go.Proofs.Ytjlolgpbidfmeaa.Ev Go.Proofs
set_option linter.unusedVariables false
set_option linter.unusedSectionVars false
/-! disk.Disk).Waits -/
noncomputable def f54_568 {β : Type} (F : Nat)  (K0 : List (Int × ByteArray) → Option β) : Option β := K0 []
variable [FZ]
def sh54_568 : Sh := ⟨[.lf (.nilp)], []⟩
noncomputable def S54_568 (F : Nat) (o : Summ) : Summ := mkS sh54_568 (fun d K => f54_568 F (fun (y0 : List (Int × ByteArray)) => K [.lf (.full 0)] [some ⟨false, [.seq (.pair (.int .i64) .str) 0 y0]⟩])) o
noncomputable def T54_568 (F : Nat) : FuncId → Option Summ := tab []
noncomputable def LT54_568 (F : Nat) : Nat → Option LoopS := ltab []
theorem E54_568g (F : Nat)    (d : sh54_568.den) (K : KF) : evBody Try.prog (tab []) (xw []) 10 0 (ltab []) code54 Try.f54.results.toList (encT sh54_568.vs d.1) (encH sh54_568.h d.2) K = (fun (K0 : (List (Int × ByteArray) → Option Res)) => K0 []) (fun (y0 : List (Int × ByteArray)) => K [.lf (.full 0)] [some ⟨false, [.seq (.pair (.int .i64) .str) 0 y0]⟩]) := by kernel_rfl
theorem E54_568 (F : Nat) (d : sh54_568.den) (K : KF) : evBody Try.prog (T54_568 F) (xw []) 10 0 (LT54_568 F) code54 Try.f54.results.toList (encT sh54_568.vs d.1) (encH sh54_568.h d.2) K = f54_568 F (fun (y0 : List (Int × ByteArray)) => K [.lf (.full 0)] [some ⟨false, [.seq (.pair (.int .i64) .str) 0 y0]⟩]) := Eq.mp (by kernel_rfl) (E54_568g F    d K)
theorem S54_568_ok (F : Nat) (o : Summ) (ho : SoundFn Try.prog 54 o) : SoundFn Try.prog 54 (S54_568 F o) :=
  soundFn_of (fn := Try.f54) (c := code54) rfl rfl (by kernel_rfl) tab_nil (by kernel_rfl) (by kernel_rfl) ho (by rw [loops54]; exact loopsOK_nil) (by rw [scopes54]; exact scopesOK_nil) (by rw [ranges54]; exact rangesOK_nil) (E54_568 F)
end Go.Proofs.Ytjlolgpbidfmeaa.X
end

section
namespace Go.Proofs.Ytjlolgpbidfmeaa.X
open Go Go.Proofs.Ytjlolgpbidfmeaa.Ev Go.Proofs
set_option linter.unusedVariables false
set_option linter.unusedSectionVars false
/-! disk.Disk).Kept -/
noncomputable def f55_6206 {β : Type} (F : Nat) (a1 : Int) (K0 : Option β) : Option β := K0
variable [FZ]
def sh55_6206 : Sh := ⟨[.lf (.nilp), .lf (.int .i64)], []⟩
noncomputable def S55_6206 (F : Nat) (o : Summ) : Summ := mkS sh55_6206 (fun d K => f55_6206 F d.1.2.1 (K [.lf (.str ByteArray.empty), .lf (.int .i64 1)] [])) o
noncomputable def T55_6206 (F : Nat) : FuncId → Option Summ := tab []
noncomputable def LT55_6206 (F : Nat) : Nat → Option LoopS := ltab []
theorem E55_6206g (F : Nat)    (d : sh55_6206.den) (K : KF) : evBody Try.prog (tab []) (xw []) 21 0 (ltab []) code55 Try.f55.results.toList (encT sh55_6206.vs d.1) (encH sh55_6206.h d.2) K = (fun (a1 : Int) (K0 : (Option Res)) => K0) d.1.2.1 (K [.lf (.str ByteArray.empty), .lf (.int .i64 1)] []) := by kernel_rfl
theorem E55_6206 (F : Nat) (d : sh55_6206.den) (K : KF) : evBody Try.prog (T55_6206 F) (xw []) 21 0 (LT55_6206 F) code55 Try.f55.results.toList (encT sh55_6206.vs d.1) (encH sh55_6206.h d.2) K = f55_6206 F d.1.2.1 (K [.lf (.str ByteArray.empty), .lf (.int .i64 1)] []) := Eq.mp (by kernel_rfl) (E55_6206g F    d K)
theorem S55_6206_ok (F : Nat) (o : Summ) (ho : SoundFn Try.prog 55 o) : SoundFn Try.prog 55 (S55_6206 F o) :=
  soundFn_of (fn := Try.f55) (c := code55) rfl rfl (by kernel_rfl) tab_nil (by kernel_rfl) (by kernel_rfl) ho (by rw [loops55]; exact loopsOK_nil) (by rw [scopes55]; exact scopesOK_nil) (by rw [ranges55]; exact rangesOK_nil) (E55_6206 F)
end Go.Proofs.Ytjlolgpbidfmeaa.X
end

section
namespace Go.Proofs.Ytjlolgpbidfmeaa.X
open Go Go.Proofs.Ytjlolgpbidfmeaa.Ev Go.Proofs
set_option linter.unusedVariables false
set_option linter.unusedSectionVars false
/-! disk.Disk).Crash -/
noncomputable def f56_7155 {β : Type} (F : Nat) (a1 : List Bool) (K0 : Option β) : Option β := K0
variable [FZ]
def sh56_7155 : Sh := ⟨[.lf (.nilp), .lf (.full 0)], [some ⟨none, [.seq .bool 0]⟩]⟩
noncomputable def S56_7155 (F : Nat) (o : Summ) : Summ := mkS sh56_7155 (fun d K => f56_7155 F d.2.1.2.1 (K [] [some ⟨d.2.1.1, [.seq .bool 0 d.2.1.2.1]⟩])) o
noncomputable def T56_7155 (F : Nat) : FuncId → Option Summ := tab []
noncomputable def LT56_7155 (F : Nat) : Nat → Option LoopS := ltab []
theorem E56_7155g (F : Nat)    (d : sh56_7155.den) (K : KF) : evBody Try.prog (tab []) (xw []) 47 1 (ltab []) code56 Try.f56.results.toList (encT sh56_7155.vs d.1) (encH sh56_7155.h d.2) K = (fun (a1 : List Bool) (K0 : (Option Res)) => K0) d.2.1.2.1 (K [] [some ⟨d.2.1.1, [.seq .bool 0 d.2.1.2.1]⟩]) := by kernel_rfl
theorem E56_7155 (F : Nat) (d : sh56_7155.den) (K : KF) : evBody Try.prog (T56_7155 F) (xw []) 47 1 (LT56_7155 F) code56 Try.f56.results.toList (encT sh56_7155.vs d.1) (encH sh56_7155.h d.2) K = f56_7155 F d.2.1.2.1 (K [] [some ⟨d.2.1.1, [.seq .bool 0 d.2.1.2.1]⟩]) := Eq.mp (by kernel_rfl) (E56_7155g F    d K)
theorem S56_7155_ok (F : Nat) (o : Summ) (ho : SoundFn Try.prog 56 o) : SoundFn Try.prog 56 (S56_7155 F o) :=
  soundFn_of (fn := Try.f56) (c := code56) rfl rfl (by kernel_rfl) tab_nil (by kernel_rfl) (by kernel_rfl) ho (by rw [loops56]; exact (loopsOK_skip (by kernel_rfl) loopsOK_nil)) (by rw [scopes56]; exact scopesOK_nil) (by rw [ranges56]; exact rangesOK_nil) (E56_7155 F)
end Go.Proofs.Ytjlolgpbidfmeaa.X
end

section
namespace Go.Proofs.Ytjlolgpbidfmeaa.X
open Go Go.Proofs.Ytjlolgpbidfmeaa.Ev Go.Proofs
set_option linter.unusedVariables false
set_option linter.unusedSectionVars false
/-! disk.Disk).Up -/
noncomputable def f57_568 {β : Type} (F : Nat)  (K0 : Option β) : Option β := K0
variable [FZ]
def sh57_568 : Sh := ⟨[.lf (.nilp)], []⟩
noncomputable def S57_568 (F : Nat) (o : Summ) : Summ := mkS sh57_568 (fun d K => f57_568 F (K [.lf (.int .i64 1)] [])) o
noncomputable def T57_568 (F : Nat) : FuncId → Option Summ := tab []
noncomputable def LT57_568 (F : Nat) : Nat → Option LoopS := ltab []
theorem E57_568g (F : Nat)    (d : sh57_568.den) (K : KF) : evBody Try.prog (tab []) (xw []) 21 0 (ltab []) code57 Try.f57.results.toList (encT sh57_568.vs d.1) (encH sh57_568.h d.2) K = (fun (K0 : (Option Res)) => K0) (K [.lf (.int .i64 1)] []) := by kernel_rfl
theorem E57_568 (F : Nat) (d : sh57_568.den) (K : KF) : evBody Try.prog (T57_568 F) (xw []) 21 0 (LT57_568 F) code57 Try.f57.results.toList (encT sh57_568.vs d.1) (encH sh57_568.h d.2) K = f57_568 F (K [.lf (.int .i64 1)] []) := Eq.mp (by kernel_rfl) (E57_568g F    d K)
theorem S57_568_ok (F : Nat) (o : Summ) (ho : SoundFn Try.prog 57 o) : SoundFn Try.prog 57 (S57_568 F o) :=
  soundFn_of (fn := Try.f57) (c := code57) rfl rfl (by kernel_rfl) tab_nil (by kernel_rfl) (by kernel_rfl) ho (by rw [loops57]; exact loopsOK_nil) (by rw [scopes57]; exact scopesOK_nil) (by rw [ranges57]; exact rangesOK_nil) (E57_568 F)
end Go.Proofs.Ytjlolgpbidfmeaa.X
end

section
namespace Go.Proofs.Ytjlolgpbidfmeaa.X
open Go Go.Proofs.Ytjlolgpbidfmeaa.Ev Go.Proofs
set_option linter.unusedVariables false
set_option linter.unusedSectionVars false
/-! disk.Disk).Read -/
noncomputable def f58_6206 {β : Type} (F : Nat) (a1 : Int) (K0 : Option β) : Option β := K0
variable [FZ]
def sh58_6206 : Sh := ⟨[.lf (.nilp), .lf (.int .i64)], []⟩
noncomputable def S58_6206 (F : Nat) (o : Summ) : Summ := mkS sh58_6206 (fun d K => f58_6206 F d.1.2.1 (K [.lf (.str ByteArray.empty), .lf (.int .i64 1)] [])) o
noncomputable def T58_6206 (F : Nat) : FuncId → Option Summ := tab []
noncomputable def LT58_6206 (F : Nat) : Nat → Option LoopS := ltab []
theorem E58_6206g (F : Nat)    (d : sh58_6206.den) (K : KF) : evBody Try.prog (tab []) (xw []) 34 0 (ltab []) code58 Try.f58.results.toList (encT sh58_6206.vs d.1) (encH sh58_6206.h d.2) K = (fun (a1 : Int) (K0 : (Option Res)) => K0) d.1.2.1 (K [.lf (.str ByteArray.empty), .lf (.int .i64 1)] []) := by kernel_rfl
theorem E58_6206 (F : Nat) (d : sh58_6206.den) (K : KF) : evBody Try.prog (T58_6206 F) (xw []) 34 0 (LT58_6206 F) code58 Try.f58.results.toList (encT sh58_6206.vs d.1) (encH sh58_6206.h d.2) K = f58_6206 F d.1.2.1 (K [.lf (.str ByteArray.empty), .lf (.int .i64 1)] []) := Eq.mp (by kernel_rfl) (E58_6206g F    d K)
theorem S58_6206_ok (F : Nat) (o : Summ) (ho : SoundFn Try.prog 58 o) : SoundFn Try.prog 58 (S58_6206 F o) :=
  soundFn_of (fn := Try.f58) (c := code58) rfl rfl (by kernel_rfl) tab_nil (by kernel_rfl) (by kernel_rfl) ho (by rw [loops58]; exact loopsOK_nil) (by rw [scopes58]; exact scopesOK_nil) (by rw [ranges58]; exact (rangesOK_skip (by kernel_rfl) rangesOK_nil)) (E58_6206 F)
end Go.Proofs.Ytjlolgpbidfmeaa.X
end

section
namespace Go.Proofs.Ytjlolgpbidfmeaa.X
open Go Go.Proofs.Ytjlolgpbidfmeaa.Ev Go.Proofs
set_option linter.unusedVariables false
set_option linter.unusedSectionVars false
/-! slices.Clone[[]string,string] -/
noncomputable def f88_1 {β : Type} (F : Nat) (a1 : List ByteArray) (K0 : List ByteArray → Option β) : Option β := cond (decide (0 < a1.length)) (cond (decide ((0 + a1.length) * 16 ≤ 70368744177664)) (K0 ([] ++ a1)) none) (amb (K0 []) (cond (decide ((0 + a1.length) * 16 ≤ 70368744177664)) (K0 ([] ++ a1)) none))
variable [FZ]
def sh88_1 : Sh := ⟨[.lf (.full 0)], [some ⟨none, [.seq .str 0]⟩]⟩
noncomputable def S88_1 (F : Nat) (o : Summ) : Summ := mkS sh88_1 (fun d K => f88_1 F d.2.1.2.1 (fun (y1 : List ByteArray) => K [.lf (.full 1)] [some ⟨d.2.1.1, [.seq .str 0 d.2.1.2.1]⟩, some ⟨false, [.seq .str 0 y1]⟩])) o
noncomputable def code88 : Code := bodyOf Try.f88
theorem scopes88 : scopesOf code88 = [] := by kernel_rfl
theorem ranges88 : rangesOf code88 = [] := by kernel_rfl
theorem loops88 : loopsOf code88 = [] := by kernel_rfl
theorem enter88 : ∀ args w, (callFunc 88 args).run Try.prog w = .ok (.enter 88 args) w := enter_of (fn := Try.f88) (by kernel_rfl) (by kernel_rfl) (by kernel_rfl)
noncomputable def T88_1 (F : Nat) : FuncId → Option Summ := tab []
noncomputable def LT88_1 (F : Nat) : Nat → Option LoopS := ltab []
theorem E88_1g (F : Nat)    (d : sh88_1.den) (K : KF) : evBody Try.prog (tab []) (xw []) 8 1 (ltab []) code88 Try.f88.results.toList (encT sh88_1.vs d.1) (encH sh88_1.h d.2) K = (fun (a1 : List ByteArray) (K0 : (List ByteArray → Option Res)) => cond (decide (0 < a1.length)) (cond (decide ((0 + a1.length) * 16 ≤ 70368744177664)) (K0 ([] ++ a1)) none) (amb (K0 []) (cond (decide ((0 + a1.length) * 16 ≤ 70368744177664)) (K0 ([] ++ a1)) none))) d.2.1.2.1 (fun (y1 : List ByteArray) => K [.lf (.full 1)] [some ⟨d.2.1.1, [.seq .str 0 d.2.1.2.1]⟩, some ⟨false, [.seq .str 0 y1]⟩]) := by kernel_rfl
theorem E88_1 (F : Nat) (d : sh88_1.den) (K : KF) : evBody Try.prog (T88_1 F) (xw []) 8 1 (LT88_1 F) code88 Try.f88.results.toList (encT sh88_1.vs d.1) (encH sh88_1.h d.2) K = f88_1 F d.2.1.2.1 (fun (y1 : List ByteArray) => K [.lf (.full 1)] [some ⟨d.2.1.1, [.seq .str 0 d.2.1.2.1]⟩, some ⟨false, [.seq .str 0 y1]⟩]) := Eq.mp (by kernel_rfl) (E88_1g F    d K)
theorem S88_1_ok (F : Nat) (o : Summ) (ho : SoundFn Try.prog 88 o) : SoundFn Try.prog 88 (S88_1 F o) :=
  soundFn_of (fn := Try.f88) (c := code88) rfl rfl (by kernel_rfl) tab_nil (by kernel_rfl) (by kernel_rfl) ho (by rw [loops88]; exact loopsOK_nil) (by rw [scopes88]; exact scopesOK_nil) (by rw [ranges88]; exact rangesOK_nil) (E88_1 F)
end Go.Proofs.Ytjlolgpbidfmeaa.X
end

section
namespace Go.Proofs.Ytjlolgpbidfmeaa.X
open Go Go.Proofs.Ytjlolgpbidfmeaa.Ev Go.Proofs
set_option linter.unusedVariables false
set_option linter.unusedSectionVars false
/-! disk.Disk).Copy -/
noncomputable def f60_1 {β : Type} (F : Nat) (a1 : Int) (a2 : Bool) (a3 : Int) (a4 : List ByteArray) (a5 : List (Int × ByteArray)) (K0 : List ByteArray → List (Int × ByteArray) → Option β) : Option β := f88_1 F a4 (fun x1 => f107_1 F a5 (fun x2 => K0 x1 x2) ) 
variable [FZ]
def sh60_1 : Sh := ⟨[.lf (.ptr 0 0)], [some ⟨none, [.full 1, .full 2, .int .i64, .bool, .int .i64]⟩, some ⟨none, [.seq .str 0]⟩, some ⟨none, [.seq (.pair (.int .i64) .str) 0]⟩]⟩
noncomputable def S60_1 (F : Nat) (o : Summ) : Summ := mkS sh60_1 (fun d K => f60_1 F d.2.1.2.2.2.1 d.2.1.2.2.2.2.1 d.2.1.2.2.2.2.2.1 d.2.2.1.2.1 d.2.2.2.1.2.1 (fun (y8 : List ByteArray) (y9 : List (Int × ByteArray)) => K [.lf (.ptr 3 0)] [some ⟨d.2.1.1, [.full 1, .full 2, .int .i64 d.2.1.2.2.2.1, .bool d.2.1.2.2.2.2.1, .int .i64 d.2.1.2.2.2.2.2.1]⟩, some ⟨d.2.2.1.1, [.seq .str 0 d.2.2.1.2.1]⟩, some ⟨d.2.2.2.1.1, [.seq (.pair (.int .i64) .str) 0 d.2.2.2.1.2.1]⟩, some ⟨false, [.full 4, .full 5, .int .i64 d.2.1.2.2.2.1, .bool d.2.1.2.2.2.2.1, .int .i64 d.2.1.2.2.2.2.2.1]⟩, some ⟨false, [.seq .str 0 y8]⟩, some ⟨false, [.seq (.pair (.int .i64) .str) 0 y9]⟩])) o
noncomputable def code60 : Code := bodyOf Try.f60
theorem scopes60 : scopesOf code60 = [] := by kernel_rfl
theorem ranges60 : rangesOf code60 = [] := by kernel_rfl
theorem loops60 : loopsOf code60 = [] := by kernel_rfl
theorem enter60 : ∀ args w, (callFunc 60 args).run Try.prog w = .ok (.enter 60 args) w := enter_of (fn := Try.f60) (by kernel_rfl) (by kernel_rfl) (by kernel_rfl)
noncomputable def T60_1 (F : Nat) : FuncId → Option Summ := tab [(88, (S88_1 F noS)), (107, (S107_1 F noS))]
noncomputable def LT60_1 (F : Nat) : Nat → Option LoopS := ltab []
theorem E60_1g (F : Nat) (c88_1 : List ByteArray → (List ByteArray → Option Res) → Option Res) (c107_1 : List (Int × ByteArray) → (List (Int × ByteArray) → Option Res) → Option Res)   (d : sh60_1.den) (K : KF) : evBody Try.prog (tab [(88, (mkS sh88_1 (fun d K => c88_1 d.2.1.2.1 (fun (y1 : List ByteArray) => K [.lf (.full 1)] [some ⟨d.2.1.1, [.seq .str 0 d.2.1.2.1]⟩, some ⟨false, [.seq .str 0 y1]⟩])) noS)), (107, (mkS sh107_1 (fun d K => c107_1 d.2.1.2.1 (fun (y1 : List (Int × ByteArray)) => K [.lf (.full 1)] [some ⟨d.2.1.1, [.seq (.pair (.int .i64) .str) 0 d.2.1.2.1]⟩, some ⟨false, [.seq (.pair (.int .i64) .str) 0 y1]⟩])) noS))]) (xw []) 21 3 (ltab []) code60 Try.f60.results.toList (encT sh60_1.vs d.1) (encH sh60_1.h d.2) K = (fun (a1 : Int) (a2 : Bool) (a3 : Int) (a4 : List ByteArray) (a5 : List (Int × ByteArray)) (K0 : (List ByteArray → List (Int × ByteArray) → Option Res)) => c88_1 a4 (fun x1 => c107_1 a5 (fun x2 => K0 x1 x2) ) ) d.2.1.2.2.2.1 d.2.1.2.2.2.2.1 d.2.1.2.2.2.2.2.1 d.2.2.1.2.1 d.2.2.2.1.2.1 (fun (y8 : List ByteArray) (y9 : List (Int × ByteArray)) => K [.lf (.ptr 3 0)] [some ⟨d.2.1.1, [.full 1, .full 2, .int .i64 d.2.1.2.2.2.1, .bool d.2.1.2.2.2.2.1, .int .i64 d.2.1.2.2.2.2.2.1]⟩, some ⟨d.2.2.1.1, [.seq .str 0 d.2.2.1.2.1]⟩, some ⟨d.2.2.2.1.1, [.seq (.pair (.int .i64) .str) 0 d.2.2.2.1.2.1]⟩, some ⟨false, [.full 4, .full 5, .int .i64 d.2.1.2.2.2.1, .bool d.2.1.2.2.2.2.1, .int .i64 d.2.1.2.2.2.2.2.1]⟩, some ⟨false, [.seq .str 0 y8]⟩, some ⟨false, [.seq (.pair (.int .i64) .str) 0 y9]⟩]) := by kernel_rfl
theorem E60_1 (F : Nat) (d : sh60_1.den) (K : KF) : evBody Try.prog (T60_1 F) (xw []) 21 3 (LT60_1 F) code60 Try.f60.results.toList (encT sh60_1.vs d.1) (encH sh60_1.h d.2) K = f60_1 F d.2.1.2.2.2.1 d.2.1.2.2.2.2.1 d.2.1.2.2.2.2.2.1 d.2.2.1.2.1 d.2.2.2.1.2.1 (fun (y8 : List ByteArray) (y9 : List (Int × ByteArray)) => K [.lf (.ptr 3 0)] [some ⟨d.2.1.1, [.full 1, .full 2, .int .i64 d.2.1.2.2.2.1, .bool d.2.1.2.2.2.2.1, .int .i64 d.2.1.2.2.2.2.2.1]⟩, some ⟨d.2.2.1.1, [.seq .str 0 d.2.2.1.2.1]⟩, some ⟨d.2.2.2.1.1, [.seq (.pair (.int .i64) .str) 0 d.2.2.2.1.2.1]⟩, some ⟨false, [.full 4, .full 5, .int .i64 d.2.1.2.2.2.1, .bool d.2.1.2.2.2.2.1, .int .i64 d.2.1.2.2.2.2.2.1]⟩, some ⟨false, [.seq .str 0 y8]⟩, some ⟨false, [.seq (.pair (.int .i64) .str) 0 y9]⟩]) := Eq.mp (by kernel_rfl) (E60_1g F (f88_1 F) (f107_1 F)   d K)
theorem S60_1_ok (F : Nat) (o : Summ) (ho : SoundFn Try.prog 60 o) : SoundFn Try.prog 60 (S60_1 F o) :=
  soundFn_of (fn := Try.f60) (c := code60) rfl rfl (by kernel_rfl) (tab_cons (S88_1_ok F _ (noS_sound enter88)) (tab_cons (S107_1_ok F _ (noS_sound enter107)) tab_nil)) (by kernel_rfl) (by kernel_rfl) ho (by rw [loops60]; exact loopsOK_nil) (by rw [scopes60]; exact scopesOK_nil) (by rw [ranges60]; exact rangesOK_nil) (E60_1 F)
end Go.Proofs.Ytjlolgpbidfmeaa.X
end

section
namespace Go.Proofs.Ytjlolgpbidfmeaa.X
open Go Go.Proofs.Ytjlolgpbidfmeaa.Ev Go.Proofs
set_option linter.unusedVariables false
set_option linter.unusedSectionVars false
/-! disk.Disk).Copy -/
noncomputable def f60_568 {β : Type} (F : Nat)  (K0 : Option β) : Option β := K0
variable [FZ]
def sh60_568 : Sh := ⟨[.lf (.nilp)], []⟩
noncomputable def S60_568 (F : Nat) (o : Summ) : Summ := mkS sh60_568 (fun d K => f60_568 F (K [.lf (.nilp)] [])) o
noncomputable def T60_568 (F : Nat) : FuncId → Option Summ := tab []
noncomputable def LT60_568 (F : Nat) : Nat → Option LoopS := ltab []
theorem E60_568g (F : Nat)    (d : sh60_568.den) (K : KF) : evBody Try.prog (tab []) (xw []) 21 0 (ltab []) code60 Try.f60.results.toList (encT sh60_568.vs d.1) (encH sh60_568.h d.2) K = (fun (K0 : (Option Res)) => K0) (K [.lf (.nilp)] []) := by kernel_rfl
theorem E60_568 (F : Nat) (d : sh60_568.den) (K : KF) : evBody Try.prog (T60_568 F) (xw []) 21 0 (LT60_568 F) code60 Try.f60.results.toList (encT sh60_568.vs d.1) (encH sh60_568.h d.2) K = f60_568 F (K [.lf (.nilp)] []) := Eq.mp (by kernel_rfl) (E60_568g F    d K)
theorem S60_568_ok (F : Nat) (o : Summ) (ho : SoundFn Try.prog 60 o) : SoundFn Try.prog 60 (S60_568 F o) :=
  soundFn_of (fn := Try.f60) (c := code60) rfl rfl (by kernel_rfl) tab_nil (by kernel_rfl) (by kernel_rfl) ho (by rw [loops60]; exact loopsOK_nil) (by rw [scopes60]; exact scopesOK_nil) (by rw [ranges60]; exact rangesOK_nil) (E60_568 F)
end Go.Proofs.Ytjlolgpbidfmeaa.X
end

section
namespace Go.Proofs.Ytjlolgpbidfmeaa.X
open Go Go.Proofs.Ytjlolgpbidfmeaa.Ev Go.Proofs
set_option linter.unusedVariables false
set_option linter.unusedSectionVars false
/-! disk.Disk).Fuse -/
noncomputable def f62_1 {β : Type} (F : Nat) (a1 : Int) (a2 : Int) (a3 : Bool) (a4 : Int) (a5 : List ByteArray) (a6 : List (Int × ByteArray)) (K0 : Int → Option β) : Option β := K0 (if (-1) > a1 then (-1) else a1)
variable [FZ]
def sh62_1 : Sh := ⟨[.lf (.ptr 0 0), .lf (.int .i64)], [some ⟨some false, [.full 1, .full 2, .int .i64, .bool, .int .i64]⟩, some ⟨none, [.seq .str 0]⟩, some ⟨none, [.seq (.pair (.int .i64) .str) 0]⟩]⟩
noncomputable def S62_1 (F : Nat) (o : Summ) : Summ := mkS sh62_1 (fun d K => f62_1 F d.1.2.1 d.2.1.2.2.2.1 d.2.1.2.2.2.2.1 d.2.1.2.2.2.2.2.1 d.2.2.1.2.1 d.2.2.2.1.2.1 (fun (y0 : Int) => K [] [some ⟨false, [.full 1, .full 2, .int .i64 y0, .bool d.2.1.2.2.2.2.1, .int .i64 d.2.1.2.2.2.2.2.1]⟩, some ⟨d.2.2.1.1, [.seq .str 0 d.2.2.1.2.1]⟩, some ⟨d.2.2.2.1.1, [.seq (.pair (.int .i64) .str) 0 d.2.2.2.1.2.1]⟩])) o
noncomputable def code62 : Code := bodyOf Try.f62
theorem scopes62 : scopesOf code62 = [] := by kernel_rfl
theorem ranges62 : rangesOf code62 = [] := by kernel_rfl
theorem loops62 : loopsOf code62 = [] := by kernel_rfl
theorem enter62 : ∀ args w, (callFunc 62 args).run Try.prog w = .ok (.enter 62 args) w := enter_of (fn := Try.f62) (by kernel_rfl) (by kernel_rfl) (by kernel_rfl)
noncomputable def T62_1 (F : Nat) : FuncId → Option Summ := tab []
noncomputable def LT62_1 (F : Nat) : Nat → Option LoopS := ltab []
theorem E62_1g (F : Nat)    (d : sh62_1.den) (K : KF) : evBody Try.prog (tab []) (xw []) 11 3 (ltab []) code62 Try.f62.results.toList (encT sh62_1.vs d.1) (encH sh62_1.h d.2) K = (fun (a1 : Int) (a2 : Int) (a3 : Bool) (a4 : Int) (a5 : List ByteArray) (a6 : List (Int × ByteArray)) (K0 : (Int → Option Res)) => K0 (if (-1) > a1 then (-1) else a1)) d.1.2.1 d.2.1.2.2.2.1 d.2.1.2.2.2.2.1 d.2.1.2.2.2.2.2.1 d.2.2.1.2.1 d.2.2.2.1.2.1 (fun (y0 : Int) => K [] [some ⟨false, [.full 1, .full 2, .int .i64 y0, .bool d.2.1.2.2.2.2.1, .int .i64 d.2.1.2.2.2.2.2.1]⟩, some ⟨d.2.2.1.1, [.seq .str 0 d.2.2.1.2.1]⟩, some ⟨d.2.2.2.1.1, [.seq (.pair (.int .i64) .str) 0 d.2.2.2.1.2.1]⟩]) := by kernel_rfl
theorem E62_1 (F : Nat) (d : sh62_1.den) (K : KF) : evBody Try.prog (T62_1 F) (xw []) 11 3 (LT62_1 F) code62 Try.f62.results.toList (encT sh62_1.vs d.1) (encH sh62_1.h d.2) K = f62_1 F d.1.2.1 d.2.1.2.2.2.1 d.2.1.2.2.2.2.1 d.2.1.2.2.2.2.2.1 d.2.2.1.2.1 d.2.2.2.1.2.1 (fun (y0 : Int) => K [] [some ⟨false, [.full 1, .full 2, .int .i64 y0, .bool d.2.1.2.2.2.2.1, .int .i64 d.2.1.2.2.2.2.2.1]⟩, some ⟨d.2.2.1.1, [.seq .str 0 d.2.2.1.2.1]⟩, some ⟨d.2.2.2.1.1, [.seq (.pair (.int .i64) .str) 0 d.2.2.2.1.2.1]⟩]) := Eq.mp (by kernel_rfl) (E62_1g F    d K)
theorem S62_1_ok (F : Nat) (o : Summ) (ho : SoundFn Try.prog 62 o) : SoundFn Try.prog 62 (S62_1 F o) :=
  soundFn_of (fn := Try.f62) (c := code62) rfl rfl (by kernel_rfl) tab_nil (by kernel_rfl) (by kernel_rfl) ho (by rw [loops62]; exact loopsOK_nil) (by rw [scopes62]; exact scopesOK_nil) (by rw [ranges62]; exact rangesOK_nil) (E62_1 F)
end Go.Proofs.Ytjlolgpbidfmeaa.X
end

section
namespace Go.Proofs.Ytjlolgpbidfmeaa.X
open Go Go.Proofs.Ytjlolgpbidfmeaa.Ev Go.Proofs
set_option linter.unusedVariables false
set_option linter.unusedSectionVars false
/-! disk.Disk).Fuse -/
noncomputable def f62_6206 {β : Type} (F : Nat) (a1 : Int) (K0 : Option β) : Option β := K0
variable [FZ]
def sh62_6206 : Sh := ⟨[.lf (.nilp), .lf (.int .i64)], []⟩
noncomputable def S62_6206 (F : Nat) (o : Summ) : Summ := mkS sh62_6206 (fun d K => f62_6206 F d.1.2.1 (K [] [])) o
noncomputable def T62_6206 (F : Nat) : FuncId → Option Summ := tab []
noncomputable def LT62_6206 (F : Nat) : Nat → Option LoopS := ltab []
theorem E62_6206g (F : Nat)    (d : sh62_6206.den) (K : KF) : evBody Try.prog (tab []) (xw []) 11 0 (ltab []) code62 Try.f62.results.toList (encT sh62_6206.vs d.1) (encH sh62_6206.h d.2) K = (fun (a1 : Int) (K0 : (Option Res)) => K0) d.1.2.1 (K [] []) := by kernel_rfl
theorem E62_6206 (F : Nat) (d : sh62_6206.den) (K : KF) : evBody Try.prog (T62_6206 F) (xw []) 11 0 (LT62_6206 F) code62 Try.f62.results.toList (encT sh62_6206.vs d.1) (encH sh62_6206.h d.2) K = f62_6206 F d.1.2.1 (K [] []) := Eq.mp (by kernel_rfl) (E62_6206g F    d K)
theorem S62_6206_ok (F : Nat) (o : Summ) (ho : SoundFn Try.prog 62 o) : SoundFn Try.prog 62 (S62_6206 F o) :=
  soundFn_of (fn := Try.f62) (c := code62) rfl rfl (by kernel_rfl) tab_nil (by kernel_rfl) (by kernel_rfl) ho (by rw [loops62]; exact loopsOK_nil) (by rw [scopes62]; exact scopesOK_nil) (by rw [ranges62]; exact rangesOK_nil) (E62_6206 F)
end Go.Proofs.Ytjlolgpbidfmeaa.X
end

section
namespace Go.Proofs.Ytjlolgpbidfmeaa.X
open Go Go.Proofs.Ytjlolgpbidfmeaa.Ev Go.Proofs
set_option linter.unusedVariables false
set_option linter.unusedSectionVars false
/-! disk.Disk).Len -/
noncomputable def f63_1 {β : Type} (F : Nat) (a1 : Int) (a2 : Bool) (a3 : Int) (a4 : List ByteArray) (a5 : List (Int × ByteArray)) (K0 : Int → Option β) : Option β := K0 ((a4.length : Nat) : Int)
variable [FZ]
def sh63_1 : Sh := ⟨[.lf (.ptr 0 0)], [some ⟨none, [.full 1, .full 2, .int .i64, .bool, .int .i64]⟩, some ⟨none, [.seq .str 0]⟩, some ⟨none, [.seq (.pair (.int .i64) .str) 0]⟩]⟩
noncomputable def S63_1 (F : Nat) (o : Summ) : Summ := mkS sh63_1 (fun d K => f63_1 F d.2.1.2.2.2.1 d.2.1.2.2.2.2.1 d.2.1.2.2.2.2.2.1 d.2.2.1.2.1 d.2.2.2.1.2.1 (fun (y0 : Int) => K [.lf (.int .i64 y0)] [some ⟨d.2.1.1, [.full 1, .full 2, .int .i64 d.2.1.2.2.2.1, .bool d.2.1.2.2.2.2.1, .int .i64 d.2.1.2.2.2.2.2.1]⟩, some ⟨d.2.2.1.1, [.seq .str 0 d.2.2.1.2.1]⟩, some ⟨d.2.2.2.1.1, [.seq (.pair (.int .i64) .str) 0 d.2.2.2.1.2.1]⟩])) o
noncomputable def code63 : Code := bodyOf Try.f63
theorem scopes63 : scopesOf code63 = [] := by kernel_rfl
theorem ranges63 : rangesOf code63 = [] := by kernel_rfl
theorem loops63 : loopsOf code63 = [] := by kernel_rfl
theorem enter63 : ∀ args w, (callFunc 63 args).run Try.prog w = .ok (.enter 63 args) w := enter_of (fn := Try.f63) (by kernel_rfl) (by kernel_rfl) (by kernel_rfl)
noncomputable def T63_1 (F : Nat) : FuncId → Option Summ := tab []
noncomputable def LT63_1 (F : Nat) : Nat → Option LoopS := ltab []
theorem E63_1g (F : Nat)    (d : sh63_1.den) (K : KF) : evBody Try.prog (tab []) (xw []) 10 3 (ltab []) code63 Try.f63.results.toList (encT sh63_1.vs d.1) (encH sh63_1.h d.2) K = (fun (a1 : Int) (a2 : Bool) (a3 : Int) (a4 : List ByteArray) (a5 : List (Int × ByteArray)) (K0 : (Int → Option Res)) => K0 ((a4.length : Nat) : Int)) d.2.1.2.2.2.1 d.2.1.2.2.2.2.1 d.2.1.2.2.2.2.2.1 d.2.2.1.2.1 d.2.2.2.1.2.1 (fun (y0 : Int) => K [.lf (.int .i64 y0)] [some ⟨d.2.1.1, [.full 1, .full 2, .int .i64 d.2.1.2.2.2.1, .bool d.2.1.2.2.2.2.1, .int .i64 d.2.1.2.2.2.2.2.1]⟩, some ⟨d.2.2.1.1, [.seq .str 0 d.2.2.1.2.1]⟩, some ⟨d.2.2.2.1.1, [.seq (.pair (.int .i64) .str) 0 d.2.2.2.1.2.1]⟩]) := by kernel_rfl
theorem E63_1 (F : Nat) (d : sh63_1.den) (K : KF) : evBody Try.prog (T63_1 F) (xw []) 10 3 (LT63_1 F) code63 Try.f63.results.toList (encT sh63_1.vs d.1) (encH sh63_1.h d.2) K = f63_1 F d.2.1.2.2.2.1 d.2.1.2.2.2.2.1 d.2.1.2.2.2.2.2.1 d.2.2.1.2.1 d.2.2.2.1.2.1 (fun (y0 : Int) => K [.lf (.int .i64 y0)] [some ⟨d.2.1.1, [.full 1, .full 2, .int .i64 d.2.1.2.2.2.1, .bool d.2.1.2.2.2.2.1, .int .i64 d.2.1.2.2.2.2.2.1]⟩, some ⟨d.2.2.1.1, [.seq .str 0 d.2.2.1.2.1]⟩, some ⟨d.2.2.2.1.1, [.seq (.pair (.int .i64) .str) 0 d.2.2.2.1.2.1]⟩]) := Eq.mp (by kernel_rfl) (E63_1g F    d K)
theorem S63_1_ok (F : Nat) (o : Summ) (ho : SoundFn Try.prog 63 o) : SoundFn Try.prog 63 (S63_1 F o) :=
  soundFn_of (fn := Try.f63) (c := code63) rfl rfl (by kernel_rfl) tab_nil (by kernel_rfl) (by kernel_rfl) ho (by rw [loops63]; exact loopsOK_nil) (by rw [scopes63]; exact scopesOK_nil) (by rw [ranges63]; exact rangesOK_nil) (E63_1 F)
end Go.Proofs.Ytjlolgpbidfmeaa.X
end

section
namespace Go.Proofs.Ytjlolgpbidfmeaa.X
open Go Go.Proofs.Ytjlolgpbidfmeaa.Ev Go.Proofs
set_option linter.unusedVariables false
set_option linter.unusedSectionVars false
/-! disk.Disk).Len -/
noncomputable def f63_568 {β : Type} (F : Nat)  (K0 : Option β) : Option β := K0
variable [FZ]
def sh63_568 : Sh := ⟨[.lf (.nilp)], []⟩
noncomputable def S63_568 (F : Nat) (o : Summ) : Summ := mkS sh63_568 (fun d K => f63_568 F (K [.lf (.int .i64 0)] [])) o
noncomputable def T63_568 (F : Nat) : FuncId → Option Summ := tab []
noncomputable def LT63_568 (F : Nat) : Nat → Option LoopS := ltab []
theorem E63_568g (F : Nat)    (d : sh63_568.den) (K : KF) : evBody Try.prog (tab []) (xw []) 10 0 (ltab []) code63 Try.f63.results.toList (encT sh63_568.vs d.1) (encH sh63_568.h d.2) K = (fun (K0 : (Option Res)) => K0) (K [.lf (.int .i64 0)] []) := by kernel_rfl
theorem E63_568 (F : Nat) (d : sh63_568.den) (K : KF) : evBody Try.prog (T63_568 F) (xw []) 10 0 (LT63_568 F) code63 Try.f63.results.toList (encT sh63_568.vs d.1) (encH sh63_568.h d.2) K = f63_568 F (K [.lf (.int .i64 0)] []) := Eq.mp (by kernel_rfl) (E63_568g F    d K)
theorem S63_568_ok (F : Nat) (o : Summ) (ho : SoundFn Try.prog 63 o) : SoundFn Try.prog 63 (S63_568 F o) :=
  soundFn_of (fn := Try.f63) (c := code63) rfl rfl (by kernel_rfl) tab_nil (by kernel_rfl) (by kernel_rfl) ho (by rw [loops63]; exact loopsOK_nil) (by rw [scopes63]; exact scopesOK_nil) (by rw [ranges63]; exact rangesOK_nil) (E63_568 F)
end Go.Proofs.Ytjlolgpbidfmeaa.X
end

section
namespace Go.Proofs.Ytjlolgpbidfmeaa.X
open Go Go.Proofs.Ytjlolgpbidfmeaa.Ev Go.Proofs
set_option linter.unusedVariables false
set_option linter.unusedSectionVars false
/-! disk.Disk).Write -/
noncomputable def f64_1385 {β : Type} (F : Nat) (a1 : Int) (a2 : ByteArray) (K0 : Option β) : Option β := K0
variable [FZ]
def sh64_1385 : Sh := ⟨[.lf (.nilp), .lf (.int .i64), .lf (.str)], []⟩
noncomputable def S64_1385 (F : Nat) (o : Summ) : Summ := mkS sh64_1385 (fun d K => f64_1385 F d.1.2.1 d.1.2.2.1 (K [.lf (.int .i64 1)] [])) o
noncomputable def T64_1385 (F : Nat) : FuncId → Option Summ := tab []
noncomputable def LT64_1385 (F : Nat) : Nat → Option LoopS := ltab []
theorem E64_1385g (F : Nat)    (d : sh64_1385.den) (K : KF) : evBody Try.prog (tab []) (xw []) 40 0 (ltab []) code64 Try.f64.results.toList (encT sh64_1385.vs d.1) (encH sh64_1385.h d.2) K = (fun (a1 : Int) (a2 : ByteArray) (K0 : (Option Res)) => K0) d.1.2.1 d.1.2.2.1 (K [.lf (.int .i64 1)] []) := by kernel_rfl
theorem E64_1385 (F : Nat) (d : sh64_1385.den) (K : KF) : evBody Try.prog (T64_1385 F) (xw []) 40 0 (LT64_1385 F) code64 Try.f64.results.toList (encT sh64_1385.vs d.1) (encH sh64_1385.h d.2) K = f64_1385 F d.1.2.1 d.1.2.2.1 (K [.lf (.int .i64 1)] []) := Eq.mp (by kernel_rfl) (E64_1385g F    d K)
theorem S64_1385_ok (F : Nat) (o : Summ) (ho : SoundFn Try.prog 64 o) : SoundFn Try.prog 64 (S64_1385 F o) :=
  soundFn_of (fn := Try.f64) (c := code64) rfl rfl (by kernel_rfl) tab_nil (by kernel_rfl) (by kernel_rfl) ho (by rw [loops64]; exact loopsOK_nil) (by rw [scopes64]; exact scopesOK_nil) (by rw [ranges64]; exact rangesOK_nil) (E64_1385 F)
end Go.Proofs.Ytjlolgpbidfmeaa.X
end

section
namespace Go.Proofs.Ytjlolgpbidfmeaa.X
open Go Go.Proofs.Ytjlolgpbidfmeaa.Ev Go.Proofs
set_option linter.unusedVariables false
set_option linter.unusedSectionVars false
/-! disk.Disk).Flush -/
noncomputable def f65_1_l6 {β : Type} (F : Nat) (v5 : Int) (v7 : Int) (v8 : Bool) (v9 : Int) (v11 : List (Int × ByteArray)) (K0 : List ByteArray → Option β) : Nat → Int → List ByteArray → Option β
  | 0, _, _ => none
  | k + 1, v6, v10 => cond (decide (v6 < v5)) (cond (decide ((0 : Int) ≤ v6 ∧ v6 < ((v11.length : Nat) : Int))) (cond (decide (0 + v6.toNat < v11.length)) (cond (decide ((0 : Int) ≤ (v11.getD (0 + v6.toNat) (0, ByteArray.empty)).1 ∧ (v11.getD (0 + v6.toNat) (0, ByteArray.empty)).1 < ((v10.length : Nat) : Int))) (cond (decide (0 + (((v11.getD (0 + v6.toNat) (0, ByteArray.empty)).1).toNat) < v10.length)) (f65_1_l6 F v5 v7 v8 v9 v11 K0 k (IntKind.i64.wrap (v6 + 1)) (v10.set (0 + (((v11.getD (0 + v6.toNat) (0, ByteArray.empty)).1).toNat)) ((v11.getD (0 + v6.toNat) (0, ByteArray.empty)).2))) none) none) none) none) (K0 v10)
noncomputable def f65_1 {β : Type} (F : Nat) (a1 : Int) (a2 : Bool) (a3 : Int) (a4 : List ByteArray) (a5 : List (Int × ByteArray)) (K0 : Int → Bool → Int → Option β) (K1 : Int → Bool → Int → List ByteArray → List (Int × ByteArray) → Option β) : Option β := cond a2 (K0 a1 a2 a3) (f111_1 F a1 a2 a3 a4 a5 (fun x1 x2 x3 x4 => cond (!x1) (K0 x2 x3 x4) (f65_1_l6 F ((a5.length : Nat) : Int) x2 x3 x4 a5 (fun x12 => K1 x2 x3 x4 x12 []) F 0 a4)) )
variable [FZ]
def sh65_1 : Sh := ⟨[.lf (.ptr 0 0)], [some ⟨some false, [.full 1, .full 2, .int .i64, .bool, .int .i64]⟩, some ⟨some false, [.seq .str 0]⟩, some ⟨none, [.seq (.pair (.int .i64) .str) 0]⟩]⟩
noncomputable def S65_1 (F : Nat) (o : Summ) : Summ := mkS sh65_1 (fun d K => f65_1 F d.2.1.2.2.2.1 d.2.1.2.2.2.2.1 d.2.1.2.2.2.2.2.1 d.2.2.1.2.1 d.2.2.2.1.2.1 (fun (y1 : Int) (y2 : Bool) (y3 : Int) => K [.lf (.int .i64 5)] [some ⟨false, [.full 1, .full 2, .int .i64 y1, .bool y2, .int .i64 y3]⟩, some ⟨false, [.seq .str 0 d.2.2.1.2.1]⟩, some ⟨d.2.2.2.1.1, [.seq (.pair (.int .i64) .str) 0 d.2.2.2.1.2.1]⟩]) (fun (y1 : Int) (y2 : Bool) (y3 : Int) (y4 : List ByteArray) (y6 : List (Int × ByteArray)) => K [.lf (.int .i64 0)] [some ⟨false, [.full 1, .full 3, .int .i64 y1, .bool y2, .int .i64 y3]⟩, some ⟨false, [.seq .str 0 y4]⟩, some ⟨d.2.2.2.1.1, [.seq (.pair (.int .i64) .str) 0 d.2.2.2.1.2.1]⟩, some ⟨false, [.seq (.pair (.int .i64) .str) 0 y6]⟩])) o
noncomputable def code65 : Code := bodyOf Try.f65
noncomputable def b65_0 : Code := cB (cB (cR (cL (cR (cR (code65))))))
theorem scopes65 : scopesOf code65 = [] := by kernel_rfl
theorem ranges65 : rangesOf code65 = [] := by kernel_rfl
theorem loops65 : loopsOf code65 = [b65_0] := by kernel_rfl
theorem enter65 : ∀ args w, (callFunc 65 args).run Try.prog w = .ok (.enter 65 args) w := enter_of (fn := Try.f65) (by kernel_rfl) (by kernel_rfl) (by kernel_rfl)
noncomputable def T65_1 (F : Nat) : FuncId → Option Summ := tab [(111, (S111_1 F noS))]
def sh65_1_l6 : Sh := ⟨[.lf (.ptr 0 0), .lf (.full 2), .lf (.int .i64), .lf (.int .i64)], [some ⟨some false, [.full 1, .full 2, .int .i64, .bool, .int .i64]⟩, some ⟨some false, [.seq .str 0]⟩, some ⟨none, [.seq (.pair (.int .i64) .str) 0]⟩]⟩
noncomputable def G65_1_6 (F k : Nat) : LoopS := mkG sh65_1_l6 [0, 21, 22, 23] (outT [(.exit 1, [0])]) (fun d K => f65_1_l6 F d.1.2.2.1 d.2.1.2.2.2.1 d.2.1.2.2.2.2.1 d.2.1.2.2.2.2.2.1 d.2.2.2.1.2.1 (fun (y3 : List ByteArray) => K (.exit 1) [.tv (.lf (.ptr 0 0))] [some ⟨false, [.full 1, .full 2, .int .i64 d.2.1.2.2.2.1, .bool d.2.1.2.2.2.2.1, .int .i64 d.2.1.2.2.2.2.2.1]⟩, some ⟨false, [.seq .str 0 y3]⟩, some ⟨d.2.2.2.1.1, [.seq (.pair (.int .i64) .str) 0 d.2.2.2.1.2.1]⟩]) k d.1.2.2.2.1 d.2.2.1.2.1) []
noncomputable def LT65_1 (F : Nat) : Nat → Option LoopS := ltab [(6, G65_1_6 F F)]
theorem L65_1_l6g (F k : Nat) (c111_1 : Int → Bool → Int → List ByteArray → List (Int × ByteArray) → (Bool → Int → Bool → Int → Option Res) → Option Res)  (l6 : Int → Int → Bool → Int → List (Int × ByteArray) → (List ByteArray → Option Res) → Nat → Int → List ByteArray → Option Res) (X6 : LoopS) (d : sh65_1_l6.den) (K : KL) : (fun (v5 : Int) (v7 : Int) (v8 : Bool) (v9 : Int) (v11 : List (Int × ByteArray)) (K0 : (List ByteArray → Option Res)) (k : Nat) (v6 : Int) (v10 : List ByteArray) => cond (decide (v6 < v5)) (cond (decide ((0 : Int) ≤ v6 ∧ v6 < ((v11.length : Nat) : Int))) (cond (decide (0 + v6.toNat < v11.length)) (cond (decide ((0 : Int) ≤ (v11.getD (0 + v6.toNat) (0, ByteArray.empty)).1 ∧ (v11.getD (0 + v6.toNat) (0, ByteArray.empty)).1 < ((v10.length : Nat) : Int))) (cond (decide (0 + (((v11.getD (0 + v6.toNat) (0, ByteArray.empty)).1).toNat) < v10.length)) (l6 v5 v7 v8 v9 v11 K0 k (IntKind.i64.wrap (v6 + 1)) (v10.set (0 + (((v11.getD (0 + v6.toNat) (0, ByteArray.empty)).1).toNat)) ((v11.getD (0 + v6.toNat) (0, ByteArray.empty)).2))) none) none) none) none) (K0 v10)) d.1.2.2.1 d.2.1.2.2.2.1 d.2.1.2.2.2.2.1 d.2.1.2.2.2.2.2.1 d.2.2.2.1.2.1 (fun (y3 : List ByteArray) => K (.exit 1) [.tv (.lf (.ptr 0 0))] [some ⟨false, [.full 1, .full 2, .int .i64 d.2.1.2.2.2.1, .bool d.2.1.2.2.2.2.1, .int .i64 d.2.1.2.2.2.2.2.1]⟩, some ⟨false, [.seq .str 0 y3]⟩, some ⟨d.2.2.2.1.1, [.seq (.pair (.int .i64) .str) 0 d.2.2.2.1.2.1]⟩]) k d.1.2.2.2.1 d.2.2.1.2.1 = roundOf Try.prog (tab [(111, (mkS sh111_1 (fun d K => c111_1 d.2.1.2.2.2.1 d.2.1.2.2.2.2.1 d.2.1.2.2.2.2.2.1 d.2.2.1.2.1 d.2.2.2.1.2.1 (fun (y0 : Bool) (y1 : Int) (y2 : Bool) (y3 : Int) => K [.lf (.bool y0)] [some ⟨false, [.full 1, .full 2, .int .i64 y1, .bool y2, .int .i64 y3]⟩, some ⟨d.2.2.1.1, [.seq .str 0 d.2.2.1.2.1]⟩, some ⟨d.2.2.2.1.1, [.seq (.pair (.int .i64) .str) 0 d.2.2.2.1.2.1]⟩])) noS))]) (xw []) 40 3 (ltab [(6, X6)]) (mkG sh65_1_l6 [0, 21, 22, 23] (outT [(.exit 1, [0])]) (fun d K => l6 d.1.2.2.1 d.2.1.2.2.2.1 d.2.1.2.2.2.2.1 d.2.1.2.2.2.2.2.1 d.2.2.2.1.2.1 (fun (y3 : List ByteArray) => K (.exit 1) [.tv (.lf (.ptr 0 0))] [some ⟨false, [.full 1, .full 2, .int .i64 d.2.1.2.2.2.1, .bool d.2.1.2.2.2.2.1, .int .i64 d.2.1.2.2.2.2.2.1]⟩, some ⟨false, [.seq .str 0 y3]⟩, some ⟨d.2.2.2.1.1, [.seq (.pair (.int .i64) .str) 0 d.2.2.2.1.2.1]⟩]) k d.1.2.2.2.1 d.2.2.1.2.1) []) b65_0 (encT sh65_1_l6.vs d.1) (encH sh65_1_l6.h d.2) K := by kernel_rfl
theorem L65_1_6 (F : Nat) : LoopOK Try.prog (T65_1 F) (xw []) 40 3 (LT65_1 F) (G65_1_6 F F) b65_0 :=
  loopOK_of (s := sh65_1_l6) (live := [0, 21, 22, 23]) (out := (outT [(.exit 1, [0])])) (mv := []) (fun k d K => f65_1_l6 F d.1.2.2.1 d.2.1.2.2.2.1 d.2.1.2.2.2.2.1 d.2.1.2.2.2.2.2.1 d.2.2.2.1.2.1 (fun (y3 : List ByteArray) => K (.exit 1) [.tv (.lf (.ptr 0 0))] [some ⟨false, [.full 1, .full 2, .int .i64 d.2.1.2.2.2.1, .bool d.2.1.2.2.2.2.1, .int .i64 d.2.1.2.2.2.2.2.1]⟩, some ⟨false, [.seq .str 0 y3]⟩, some ⟨d.2.2.2.1.1, [.seq (.pair (.int .i64) .str) 0 d.2.2.2.1.2.1]⟩]) k d.1.2.2.2.1 d.2.2.1.2.1) F (fun d K => by kernel_rfl)  (fun k d K => Eq.mp (by kernel_rfl) (L65_1_l6g F k (f111_1 F)  (f65_1_l6 F) (G65_1_6 F F) d K))
theorem E65_1g (F : Nat) (c111_1 : Int → Bool → Int → List ByteArray → List (Int × ByteArray) → (Bool → Int → Bool → Int → Option Res) → Option Res) (l6 : Int → Int → Bool → Int → List (Int × ByteArray) → (List ByteArray → Option Res) → Nat → Int → List ByteArray → Option Res)  (d : sh65_1.den) (K : KF) : evBody Try.prog (tab [(111, (mkS sh111_1 (fun d K => c111_1 d.2.1.2.2.2.1 d.2.1.2.2.2.2.1 d.2.1.2.2.2.2.2.1 d.2.2.1.2.1 d.2.2.2.1.2.1 (fun (y0 : Bool) (y1 : Int) (y2 : Bool) (y3 : Int) => K [.lf (.bool y0)] [some ⟨false, [.full 1, .full 2, .int .i64 y1, .bool y2, .int .i64 y3]⟩, some ⟨d.2.2.1.1, [.seq .str 0 d.2.2.1.2.1]⟩, some ⟨d.2.2.2.1.1, [.seq (.pair (.int .i64) .str) 0 d.2.2.2.1.2.1]⟩])) noS))]) (xw []) 40 3 (ltab [(6, mkG sh65_1_l6 [0, 21, 22, 23] (outT [(.exit 1, [0])]) (fun d K => l6 d.1.2.2.1 d.2.1.2.2.2.1 d.2.1.2.2.2.2.1 d.2.1.2.2.2.2.2.1 d.2.2.2.1.2.1 (fun (y3 : List ByteArray) => K (.exit 1) [.tv (.lf (.ptr 0 0))] [some ⟨false, [.full 1, .full 2, .int .i64 d.2.1.2.2.2.1, .bool d.2.1.2.2.2.2.1, .int .i64 d.2.1.2.2.2.2.2.1]⟩, some ⟨false, [.seq .str 0 y3]⟩, some ⟨d.2.2.2.1.1, [.seq (.pair (.int .i64) .str) 0 d.2.2.2.1.2.1]⟩]) F d.1.2.2.2.1 d.2.2.1.2.1) [])]) code65 Try.f65.results.toList (encT sh65_1.vs d.1) (encH sh65_1.h d.2) K = (fun (a1 : Int) (a2 : Bool) (a3 : Int) (a4 : List ByteArray) (a5 : List (Int × ByteArray)) (K0 : (Int → Bool → Int → Option Res)) (K1 : (Int → Bool → Int → List ByteArray → List (Int × ByteArray) → Option Res)) => cond a2 (K0 a1 a2 a3) (c111_1 a1 a2 a3 a4 a5 (fun x1 x2 x3 x4 => cond (!x1) (K0 x2 x3 x4) (l6 ((a5.length : Nat) : Int) x2 x3 x4 a5 (fun x12 => K1 x2 x3 x4 x12 []) F 0 a4)) )) d.2.1.2.2.2.1 d.2.1.2.2.2.2.1 d.2.1.2.2.2.2.2.1 d.2.2.1.2.1 d.2.2.2.1.2.1 (fun (y1 : Int) (y2 : Bool) (y3 : Int) => K [.lf (.int .i64 5)] [some ⟨false, [.full 1, .full 2, .int .i64 y1, .bool y2, .int .i64 y3]⟩, some ⟨false, [.seq .str 0 d.2.2.1.2.1]⟩, some ⟨d.2.2.2.1.1, [.seq (.pair (.int .i64) .str) 0 d.2.2.2.1.2.1]⟩]) (fun (y1 : Int) (y2 : Bool) (y3 : Int) (y4 : List ByteArray) (y6 : List (Int × ByteArray)) => K [.lf (.int .i64 0)] [some ⟨false, [.full 1, .full 3, .int .i64 y1, .bool y2, .int .i64 y3]⟩, some ⟨false, [.seq .str 0 y4]⟩, some ⟨d.2.2.2.1.1, [.seq (.pair (.int .i64) .str) 0 d.2.2.2.1.2.1]⟩, some ⟨false, [.seq (.pair (.int .i64) .str) 0 y6]⟩]) := by kernel_rfl
theorem E65_1 (F : Nat) (d : sh65_1.den) (K : KF) : evBody Try.prog (T65_1 F) (xw []) 40 3 (LT65_1 F) code65 Try.f65.results.toList (encT sh65_1.vs d.1) (encH sh65_1.h d.2) K = f65_1 F d.2.1.2.2.2.1 d.2.1.2.2.2.2.1 d.2.1.2.2.2.2.2.1 d.2.2.1.2.1 d.2.2.2.1.2.1 (fun (y1 : Int) (y2 : Bool) (y3 : Int) => K [.lf (.int .i64 5)] [some ⟨false, [.full 1, .full 2, .int .i64 y1, .bool y2, .int .i64 y3]⟩, some ⟨false, [.seq .str 0 d.2.2.1.2.1]⟩, some ⟨d.2.2.2.1.1, [.seq (.pair (.int .i64) .str) 0 d.2.2.2.1.2.1]⟩]) (fun (y1 : Int) (y2 : Bool) (y3 : Int) (y4 : List ByteArray) (y6 : List (Int × ByteArray)) => K [.lf (.int .i64 0)] [some ⟨false, [.full 1, .full 3, .int .i64 y1, .bool y2, .int .i64 y3]⟩, some ⟨false, [.seq .str 0 y4]⟩, some ⟨d.2.2.2.1.1, [.seq (.pair (.int .i64) .str) 0 d.2.2.2.1.2.1]⟩, some ⟨false, [.seq (.pair (.int .i64) .str) 0 y6]⟩]) := Eq.mp (by kernel_rfl) (E65_1g F (f111_1 F) (f65_1_l6 F)  d K)
theorem S65_1_ok (F : Nat) (o : Summ) (ho : SoundFn Try.prog 65 o) : SoundFn Try.prog 65 (S65_1 F o) :=
  soundFn_of (fn := Try.f65) (c := code65) rfl rfl (by kernel_rfl) (tab_cons (S111_1_ok F _ (noS_sound enter111)) tab_nil) (by kernel_rfl) (by kernel_rfl) ho (by rw [loops65]; exact (loopsOK_cons (by kernel_rfl) (L65_1_6 F) loopsOK_nil)) (by rw [scopes65]; exact scopesOK_nil) (by rw [ranges65]; exact rangesOK_nil) (E65_1 F)
end Go.Proofs.Ytjlolgpbidfmeaa.X
end

section
namespace Go.Proofs.Ytjlolgpbidfmeaa.X
open Go Go.Proofs.Ytjlolgpbidfmeaa.Ev Go.Proofs
set_option linter.unusedVariables false
set_option linter.unusedSectionVars false
/-! disk.Disk).Flush -/
noncomputable def f65_568 {β : Type} (F : Nat)  (K0 : Option β) : Option β := K0
variable [FZ]
def sh65_568 : Sh := ⟨[.lf (.nilp)], []⟩
noncomputable def S65_568 (F : Nat) (o : Summ) : Summ := mkS sh65_568 (fun d K => f65_568 F (K [.lf (.int .i64 1)] [])) o
noncomputable def T65_568 (F : Nat) : FuncId → Option Summ := tab []
noncomputable def LT65_568 (F : Nat) : Nat → Option LoopS := ltab []
theorem E65_568g (F : Nat)    (d : sh65_568.den) (K : KF) : evBody Try.prog (tab []) (xw []) 40 0 (ltab []) code65 Try.f65.results.toList (encT sh65_568.vs d.1) (encH sh65_568.h d.2) K = (fun (K0 : (Option Res)) => K0) (K [.lf (.int .i64 1)] []) := by kernel_rfl
theorem E65_568 (F : Nat) (d : sh65_568.den) (K : KF) : evBody Try.prog (T65_568 F) (xw []) 40 0 (LT65_568 F) code65 Try.f65.results.toList (encT sh65_568.vs d.1) (encH sh65_568.h d.2) K = f65_568 F (K [.lf (.int .i64 1)] []) := Eq.mp (by kernel_rfl) (E65_568g F    d K)
theorem S65_568_ok (F : Nat) (o : Summ) (ho : SoundFn Try.prog 65 o) : SoundFn Try.prog 65 (S65_568 F o) :=
  soundFn_of (fn := Try.f65) (c := code65) rfl rfl (by kernel_rfl) tab_nil (by kernel_rfl) (by kernel_rfl) ho (by rw [loops65]; exact (loopsOK_skip (by kernel_rfl) loopsOK_nil)) (by rw [scopes65]; exact scopesOK_nil) (by rw [ranges65]; exact rangesOK_nil) (E65_568 F)
end Go.Proofs.Ytjlolgpbidfmeaa.X
end

section
namespace Go.Proofs.Ytjlolgpbidfmeaa.X
open Go Go.Proofs.Ytjlolgpbidfmeaa.Ev Go.Proofs
set_option linter.unusedVariables false
set_option linter.unusedSectionVars false
/-! disk.Disk).Down -/
noncomputable def f66_1 {β : Type} (F : Nat) (a1 : Int) (a2 : Bool) (a3 : Int) (a4 : List ByteArray) (a5 : List (Int × ByteArray)) (K0 : Option β) : Option β := K0
variable [FZ]
def sh66_1 : Sh := ⟨[.lf (.ptr 0 0)], [some ⟨none, [.full 1, .full 2, .int .i64, .bool, .int .i64]⟩, some ⟨none, [.seq .str 0]⟩, some ⟨none, [.seq (.pair (.int .i64) .str) 0]⟩]⟩
noncomputable def S66_1 (F : Nat) (o : Summ) : Summ := mkS sh66_1 (fun d K => f66_1 F d.2.1.2.2.2.1 d.2.1.2.2.2.2.1 d.2.1.2.2.2.2.2.1 d.2.2.1.2.1 d.2.2.2.1.2.1 (K [.lf (.bool d.2.1.2.2.2.2.1)] [some ⟨d.2.1.1, [.full 1, .full 2, .int .i64 d.2.1.2.2.2.1, .bool d.2.1.2.2.2.2.1, .int .i64 d.2.1.2.2.2.2.2.1]⟩, some ⟨d.2.2.1.1, [.seq .str 0 d.2.2.1.2.1]⟩, some ⟨d.2.2.2.1.1, [.seq (.pair (.int .i64) .str) 0 d.2.2.2.1.2.1]⟩])) o
noncomputable def code66 : Code := bodyOf Try.f66
theorem scopes66 : scopesOf code66 = [] := by kernel_rfl
theorem ranges66 : rangesOf code66 = [] := by kernel_rfl
theorem loops66 : loopsOf code66 = [] := by kernel_rfl
theorem enter66 : ∀ args w, (callFunc 66 args).run Try.prog w = .ok (.enter 66 args) w := enter_of (fn := Try.f66) (by kernel_rfl) (by kernel_rfl) (by kernel_rfl)
noncomputable def T66_1 (F : Nat) : FuncId → Option Summ := tab []
noncomputable def LT66_1 (F : Nat) : Nat → Option LoopS := ltab []
theorem E66_1g (F : Nat)    (d : sh66_1.den) (K : KF) : evBody Try.prog (tab []) (xw []) 11 3 (ltab []) code66 Try.f66.results.toList (encT sh66_1.vs d.1) (encH sh66_1.h d.2) K = (fun (a1 : Int) (a2 : Bool) (a3 : Int) (a4 : List ByteArray) (a5 : List (Int × ByteArray)) (K0 : (Option Res)) => K0) d.2.1.2.2.2.1 d.2.1.2.2.2.2.1 d.2.1.2.2.2.2.2.1 d.2.2.1.2.1 d.2.2.2.1.2.1 (K [.lf (.bool d.2.1.2.2.2.2.1)] [some ⟨d.2.1.1, [.full 1, .full 2, .int .i64 d.2.1.2.2.2.1, .bool d.2.1.2.2.2.2.1, .int .i64 d.2.1.2.2.2.2.2.1]⟩, some ⟨d.2.2.1.1, [.seq .str 0 d.2.2.1.2.1]⟩, some ⟨d.2.2.2.1.1, [.seq (.pair (.int .i64) .str) 0 d.2.2.2.1.2.1]⟩]) := by kernel_rfl
theorem E66_1 (F : Nat) (d : sh66_1.den) (K : KF) : evBody Try.prog (T66_1 F) (xw []) 11 3 (LT66_1 F) code66 Try.f66.results.toList (encT sh66_1.vs d.1) (encH sh66_1.h d.2) K = f66_1 F d.2.1.2.2.2.1 d.2.1.2.2.2.2.1 d.2.1.2.2.2.2.2.1 d.2.2.1.2.1 d.2.2.2.1.2.1 (K [.lf (.bool d.2.1.2.2.2.2.1)] [some ⟨d.2.1.1, [.full 1, .full 2, .int .i64 d.2.1.2.2.2.1, .bool d.2.1.2.2.2.2.1, .int .i64 d.2.1.2.2.2.2.2.1]⟩, some ⟨d.2.2.1.1, [.seq .str 0 d.2.2.1.2.1]⟩, some ⟨d.2.2.2.1.1, [.seq (.pair (.int .i64) .str) 0 d.2.2.2.1.2.1]⟩]) := Eq.mp (by kernel_rfl) (E66_1g F    d K)
theorem S66_1_ok (F : Nat) (o : Summ) (ho : SoundFn Try.prog 66 o) : SoundFn Try.prog 66 (S66_1 F o) :=
  soundFn_of (fn := Try.f66) (c := code66) rfl rfl (by kernel_rfl) tab_nil (by kernel_rfl) (by kernel_rfl) ho (by rw [loops66]; exact loopsOK_nil) (by rw [scopes66]; exact scopesOK_nil) (by rw [ranges66]; exact rangesOK_nil) (E66_1 F)
end Go.Proofs.Ytjlolgpbidfmeaa.X
end

section
namespace Go.Proofs.Ytjlolgpbidfmeaa.X
open Go Go.Proofs.Ytjlolgpbidfmeaa.Ev Go.Proofs
set_option linter.unusedVariables false
set_option linter.unusedSectionVars false
/-! disk.Disk).Down -/
noncomputable def f66_568 {β : Type} (F : Nat)  (K0 : Option β) : Option β := K0
variable [FZ]
def sh66_568 : Sh := ⟨[.lf (.nilp)], []⟩
noncomputable def S66_568 (F : Nat) (o : Summ) : Summ := mkS sh66_568 (fun d K => f66_568 F (K [.lf (.bool true)] [])) o
noncomputable def T66_568 (F : Nat) : FuncId → Option Summ := tab []
noncomputable def LT66_568 (F : Nat) : Nat → Option LoopS := ltab []
theorem E66_568g (F : Nat)    (d : sh66_568.den) (K : KF) : evBody Try.prog (tab []) (xw []) 11 0 (ltab []) code66 Try.f66.results.toList (encT sh66_568.vs d.1) (encH sh66_568.h d.2) K = (fun (K0 : (Option Res)) => K0) (K [.lf (.bool true)] []) := by kernel_rfl
theorem E66_568 (F : Nat) (d : sh66_568.den) (K : KF) : evBody Try.prog (T66_568 F) (xw []) 11 0 (LT66_568 F) code66 Try.f66.results.toList (encT sh66_568.vs d.1) (encH sh66_568.h d.2) K = f66_568 F (K [.lf (.bool true)] []) := Eq.mp (by kernel_rfl) (E66_568g F    d K)
theorem S66_568_ok (F : Nat) (o : Summ) (ho : SoundFn Try.prog 66 o) : SoundFn Try.prog 66 (S66_568 F o) :=
  soundFn_of (fn := Try.f66) (c := code66) rfl rfl (by kernel_rfl) tab_nil (by kernel_rfl) (by kernel_rfl) ho (by rw [loops66]; exact loopsOK_nil) (by rw [scopes66]; exact scopesOK_nil) (by rw [ranges66]; exact rangesOK_nil) (E66_568 F)
end Go.Proofs.Ytjlolgpbidfmeaa.X
end

section
namespace Go.Proofs.Ytjlolgpbidfmeaa.X
open Go Go.Proofs.Ytjlolgpbidfmeaa.Ev Go.Proofs
set_option linter.unusedVariables false
set_option linter.unusedSectionVars false
/-! disk.Disk).Done -/
noncomputable def f67_568 {β : Type} (F : Nat)  (K0 : Option β) : Option β := K0
variable [FZ]
def sh67_568 : Sh := ⟨[.lf (.nilp)], []⟩
noncomputable def S67_568 (F : Nat) (o : Summ) : Summ := mkS sh67_568 (fun d K => f67_568 F (K [.lf (.int .i64 0)] [])) o
noncomputable def T67_568 (F : Nat) : FuncId → Option Summ := tab []
noncomputable def LT67_568 (F : Nat) : Nat → Option LoopS := ltab []
theorem E67_568g (F : Nat)    (d : sh67_568.den) (K : KF) : evBody Try.prog (tab []) (xw []) 9 0 (ltab []) code67 Try.f67.results.toList (encT sh67_568.vs d.1) (encH sh67_568.h d.2) K = (fun (K0 : (Option Res)) => K0) (K [.lf (.int .i64 0)] []) := by kernel_rfl
theorem E67_568 (F : Nat) (d : sh67_568.den) (K : KF) : evBody Try.prog (T67_568 F) (xw []) 9 0 (LT67_568 F) code67 Try.f67.results.toList (encT sh67_568.vs d.1) (encH sh67_568.h d.2) K = f67_568 F (K [.lf (.int .i64 0)] []) := Eq.mp (by kernel_rfl) (E67_568g F    d K)
theorem S67_568_ok (F : Nat) (o : Summ) (ho : SoundFn Try.prog 67 o) : SoundFn Try.prog 67 (S67_568 F o) :=
  soundFn_of (fn := Try.f67) (c := code67) rfl rfl (by kernel_rfl) tab_nil (by kernel_rfl) (by kernel_rfl) ho (by rw [loops67]; exact loopsOK_nil) (by rw [scopes67]; exact scopesOK_nil) (by rw [ranges67]; exact rangesOK_nil) (E67_568 F)
end Go.Proofs.Ytjlolgpbidfmeaa.X
end

section
namespace Go.Proofs.Ytjlolgpbidfmeaa.X
open Go Go.Proofs.Ytjlolgpbidfmeaa.Ev Go.Proofs
set_option linter.unusedVariables false
set_option linter.unusedSectionVars false
/-! pentimentolaw06.DiskNil -/
noncomputable def f14_1 {β : Type} (F : Nat) (a1 : Int) (a2 : ByteArray) (K0 : Bool → Option β) : Option β := f62_6206 F a1 (f56_7155 F [] (f58_6206 F a1 (f55_6206 F a1 (f63_568 F  (f64_1385 F a1 a2 (f65_568 F  (f57_568 F  (f66_568 F  (f54_568 F  (fun x1 => cond (((x1.length : Nat) : Int) == 0) (f67_568 F  (f60_568 F  (f50_1 F  (fun x2 => K0 x2) ) ) ) (K0 false)) ) ) ) ) ) ) ) ) ) 
variable [FZ]
def sh14_1 : Sh := ⟨[.lf (.int .i64), .lf (.str)], []⟩
noncomputable def S14_1 (F : Nat) (o : Summ) : Summ := mkS sh14_1 (fun d K => f14_1 F d.1.1 d.1.2.1 (fun (y0 : Bool) => K [.lf (.bool y0)] [])) o
noncomputable def code14 : Code := bodyOf Try.f14
theorem scopes14 : scopesOf code14 = [] := by kernel_rfl
theorem ranges14 : rangesOf code14 = [] := by kernel_rfl
theorem loops14 : loopsOf code14 = [] := by kernel_rfl
theorem enter14 : ∀ args w, (callFunc 14 args).run Try.prog w = .ok (.enter 14 args) w := enter_of (fn := Try.f14) (by kernel_rfl) (by kernel_rfl) (by kernel_rfl)
noncomputable def T14_1 (F : Nat) : FuncId → Option Summ := tab [(50, (S50_1 F noS)), (54, (S54_568 F noS)), (55, (S55_6206 F noS)), (56, (S56_7155 F noS)), (57, (S57_568 F noS)), (58, (S58_6206 F noS)), (60, (S60_568 F noS)), (62, (S62_6206 F noS)), (63, (S63_568 F noS)), (64, (S64_1385 F noS)), (65, (S65_568 F noS)), (66, (S66_568 F noS)), (67, (S67_568 F noS))]
noncomputable def LT14_1 (F : Nat) : Nat → Option LoopS := ltab []
theorem E14_1g (F : Nat) (c50_1 : (Bool → Option Res) → Option Res) (c54_568 : (List (Int × ByteArray) → Option Res) → Option Res) (c55_6206 : Int → (Option Res) → Option Res) (c56_7155 : List Bool → (Option Res) → Option Res) (c57_568 : (Option Res) → Option Res) (c58_6206 : Int → (Option Res) → Option Res) (c60_568 : (Option Res) → Option Res) (c62_6206 : Int → (Option Res) → Option Res) (c63_568 : (Option Res) → Option Res) (c64_1385 : Int → ByteArray → (Option Res) → Option Res) (c65_568 : (Option Res) → Option Res) (c66_568 : (Option Res) → Option Res) (c67_568 : (Option Res) → Option Res)   (d : sh14_1.den) (K : KF) : evBody Try.prog (tab [(50, (mkS sh50_1 (fun d K => c50_1 (fun (y0 : Bool) => K [.lf (.bool y0)] [])) noS)), (54, (mkS sh54_568 (fun d K => c54_568 (fun (y0 : List (Int × ByteArray)) => K [.lf (.full 0)] [some ⟨false, [.seq (.pair (.int .i64) .str) 0 y0]⟩])) noS)), (55, (mkS sh55_6206 (fun d K => c55_6206 d.1.2.1 (K [.lf (.str ByteArray.empty), .lf (.int .i64 1)] [])) noS)), (56, (mkS sh56_7155 (fun d K => c56_7155 d.2.1.2.1 (K [] [some ⟨d.2.1.1, [.seq .bool 0 d.2.1.2.1]⟩])) noS)), (57, (mkS sh57_568 (fun d K => c57_568 (K [.lf (.int .i64 1)] [])) noS)), (58, (mkS sh58_6206 (fun d K => c58_6206 d.1.2.1 (K [.lf (.str ByteArray.empty), .lf (.int .i64 1)] [])) noS)), (60, (mkS sh60_568 (fun d K => c60_568 (K [.lf (.nilp)] [])) noS)), (62, (mkS sh62_6206 (fun d K => c62_6206 d.1.2.1 (K [] [])) noS)), (63, (mkS sh63_568 (fun d K => c63_568 (K [.lf (.int .i64 0)] [])) noS)), (64, (mkS sh64_1385 (fun d K => c64_1385 d.1.2.1 d.1.2.2.1 (K [.lf (.int .i64 1)] [])) noS)), (65, (mkS sh65_568 (fun d K => c65_568 (K [.lf (.int .i64 1)] [])) noS)), (66, (mkS sh66_568 (fun d K => c66_568 (K [.lf (.bool true)] [])) noS)), (67, (mkS sh67_568 (fun d K => c67_568 (K [.lf (.int .i64 0)] [])) noS))]) (xw []) 86 0 (ltab []) code14 Try.f14.results.toList (encT sh14_1.vs d.1) (encH sh14_1.h d.2) K = (fun (a1 : Int) (a2 : ByteArray) (K0 : (Bool → Option Res)) => c62_6206 a1 (c56_7155 [] (c58_6206 a1 (c55_6206 a1 (c63_568  (c64_1385 a1 a2 (c65_568  (c57_568  (c66_568  (c54_568  (fun x1 => cond (((x1.length : Nat) : Int) == 0) (c67_568  (c60_568  (c50_1  (fun x2 => K0 x2) ) ) ) (K0 false)) ) ) ) ) ) ) ) ) ) ) d.1.1 d.1.2.1 (fun (y0 : Bool) => K [.lf (.bool y0)] []) := by kernel_rfl
theorem E14_1 (F : Nat) (d : sh14_1.den) (K : KF) : evBody Try.prog (T14_1 F) (xw []) 86 0 (LT14_1 F) code14 Try.f14.results.toList (encT sh14_1.vs d.1) (encH sh14_1.h d.2) K = f14_1 F d.1.1 d.1.2.1 (fun (y0 : Bool) => K [.lf (.bool y0)] []) := Eq.mp (by kernel_rfl) (E14_1g F (f50_1 F) (f54_568 F) (f55_6206 F) (f56_7155 F) (f57_568 F) (f58_6206 F) (f60_568 F) (f62_6206 F) (f63_568 F) (f64_1385 F) (f65_568 F) (f66_568 F) (f67_568 F)   d K)
theorem S14_1_ok (F : Nat) (o : Summ) (ho : SoundFn Try.prog 14 o) : SoundFn Try.prog 14 (S14_1 F o) :=
  soundFn_of (fn := Try.f14) (c := code14) rfl rfl (by kernel_rfl) (tab_cons (S50_1_ok F _ (noS_sound enter50)) (tab_cons (S54_568_ok F _ (noS_sound enter54)) (tab_cons (S55_6206_ok F _ (noS_sound enter55)) (tab_cons (S56_7155_ok F _ (noS_sound enter56)) (tab_cons (S57_568_ok F _ (noS_sound enter57)) (tab_cons (S58_6206_ok F _ (noS_sound enter58)) (tab_cons (S60_568_ok F _ (noS_sound enter60)) (tab_cons (S62_6206_ok F _ (noS_sound enter62)) (tab_cons (S63_568_ok F _ (noS_sound enter63)) (tab_cons (S64_1385_ok F _ (noS_sound enter64)) (tab_cons (S65_568_ok F _ (noS_sound enter65)) (tab_cons (S66_568_ok F _ (noS_sound enter66)) (tab_cons (S67_568_ok F _ (noS_sound enter67)) tab_nil))))))))))))) (by kernel_rfl) (by kernel_rfl) ho (by rw [loops14]; exact loopsOK_nil) (by rw [scopes14]; exact scopesOK_nil) (by rw [ranges14]; exact rangesOK_nil) (E14_1 F)
end Go.Proofs.Ytjlolgpbidfmeaa.X
end

section
namespace Go.Proofs.Ytjlolgpbidfmeaa.X
open Go Go.Proofs.Ytjlolgpbidfmeaa.Ev Go.Proofs
set_option linter.unusedVariables false
set_option linter.unusedSectionVars false
/-! pentimentolaw06.short -/
noncomputable def f49_1_l4 [FZ] {β : Type} (F : Nat) (v2 : List (Int × (Int × (ByteArray × (Sl .bool))))) (K0 : Option β) (K1 : Option β) : Nat → Int → Option β
  | 0, _ => none
  | k + 1, v1 => cond (decide (v1 < ((v2.length : Nat) : Int))) (cond (decide ((0 : Int) ≤ v1 ∧ v1 < ((v2.length : Nat) : Int))) (cond (decide (0 + v1.toNat < v2.length)) (cond (decide ((((((v2.getD (0 + v1.toNat) (0, (0, (ByteArray.empty, (Sl.nil .bool))))).2).2).1).size : Int) > 200)) (K0) (f49_1_l4 F v2 K0 K1 k (IntKind.i64.wrap (v1 + 1)))) none) none) (K1)
noncomputable def f49_1 [FZ] {β : Type} (F : Nat) (a1 : List (Int × (Int × (ByteArray × (Sl .bool))))) (K0 : Bool → Option β) : Option β := cond (decide (((a1.length : Nat) : Int) > 100)) (K0 false) (f49_1_l4 F a1 (K0 false) (K0 true) F 0)
variable [FZ]
def sh49_1 : Sh := ⟨[.lf (.full 0)], [some ⟨none, [.seq (.pair (.int .i64) (.pair (.int .i64) (.pair .str (.sl .bool)))) 0]⟩]⟩
noncomputable def S49_1 (F : Nat) (o : Summ) : Summ := mkS sh49_1 (fun d K => f49_1 F d.2.1.2.1 (fun (y0 : Bool) => K [.lf (.bool y0)] [some ⟨d.2.1.1, [.seq (.pair (.int .i64) (.pair (.int .i64) (.pair .str (.sl .bool)))) 0 d.2.1.2.1]⟩])) o
noncomputable def code49 : Code := bodyOf Try.f49
noncomputable def b49_0 : Code := cB (cB (cR (cL (cR (cR (code49))))))
theorem scopes49 : scopesOf code49 = [] := by kernel_rfl
theorem ranges49 : rangesOf code49 = [] := by kernel_rfl
theorem loops49 : loopsOf code49 = [b49_0] := by kernel_rfl
theorem enter49 : ∀ args w, (callFunc 49 args).run Try.prog w = .ok (.enter 49 args) w := enter_of (fn := Try.f49) (by kernel_rfl) (by kernel_rfl) (by kernel_rfl)
noncomputable def T49_1 (F : Nat) : FuncId → Option Summ := tab []
def sh49_1_l4 : Sh := ⟨[.lf (.full 0), .lf (.int .i64)], [some ⟨none, [.seq (.pair (.int .i64) (.pair (.int .i64) (.pair .str (.sl .bool)))) 0]⟩]⟩
noncomputable def G49_1_4 (F k : Nat) : LoopS := mkG sh49_1_l4 [0, 3] (outT [(.exit 0, []), (.ret, [2])]) (fun d K => f49_1_l4 F d.2.1.2.1 (K .ret [.tv (.lf (.bool false))] [some ⟨d.2.1.1, [.seq (.pair (.int .i64) (.pair (.int .i64) (.pair .str (.sl .bool)))) 0 d.2.1.2.1]⟩]) (K (.exit 0) [] [some ⟨d.2.1.1, [.seq (.pair (.int .i64) (.pair (.int .i64) (.pair .str (.sl .bool)))) 0 d.2.1.2.1]⟩]) k d.1.2.1) []
noncomputable def LT49_1 (F : Nat) : Nat → Option LoopS := ltab [(4, G49_1_4 F F)]
theorem L49_1_l4g (F k : Nat)   (l4 : List (Int × (Int × (ByteArray × (Sl .bool)))) → (Option Res) → (Option Res) → Nat → Int → Option Res) (X4 : LoopS) (d : sh49_1_l4.den) (K : KL) : (fun (v2 : List (Int × (Int × (ByteArray × (Sl .bool))))) (K0 : (Option Res)) (K1 : (Option Res)) (k : Nat) (v1 : Int) => cond (decide (v1 < ((v2.length : Nat) : Int))) (cond (decide ((0 : Int) ≤ v1 ∧ v1 < ((v2.length : Nat) : Int))) (cond (decide (0 + v1.toNat < v2.length)) (cond (decide ((((((v2.getD (0 + v1.toNat) (0, (0, (ByteArray.empty, (Sl.nil .bool))))).2).2).1).size : Int) > 200)) (K0) (l4 v2 K0 K1 k (IntKind.i64.wrap (v1 + 1)))) none) none) (K1)) d.2.1.2.1 (K .ret [.tv (.lf (.bool false))] [some ⟨d.2.1.1, [.seq (.pair (.int .i64) (.pair (.int .i64) (.pair .str (.sl .bool)))) 0 d.2.1.2.1]⟩]) (K (.exit 0) [] [some ⟨d.2.1.1, [.seq (.pair (.int .i64) (.pair (.int .i64) (.pair .str (.sl .bool)))) 0 d.2.1.2.1]⟩]) k d.1.2.1 = roundOf Try.prog (tab []) (xw []) 20 1 (ltab [(4, X4)]) (mkG sh49_1_l4 [0, 3] (outT [(.exit 0, []), (.ret, [2])]) (fun d K => l4 d.2.1.2.1 (K .ret [.tv (.lf (.bool false))] [some ⟨d.2.1.1, [.seq (.pair (.int .i64) (.pair (.int .i64) (.pair .str (.sl .bool)))) 0 d.2.1.2.1]⟩]) (K (.exit 0) [] [some ⟨d.2.1.1, [.seq (.pair (.int .i64) (.pair (.int .i64) (.pair .str (.sl .bool)))) 0 d.2.1.2.1]⟩]) k d.1.2.1) []) b49_0 (encT sh49_1_l4.vs d.1) (encH sh49_1_l4.h d.2) K := by kernel_rfl
theorem L49_1_4 (F : Nat) : LoopOK Try.prog (T49_1 F) (xw []) 20 1 (LT49_1 F) (G49_1_4 F F) b49_0 :=
  loopOK_of (s := sh49_1_l4) (live := [0, 3]) (out := (outT [(.exit 0, []), (.ret, [2])])) (mv := []) (fun k d K => f49_1_l4 F d.2.1.2.1 (K .ret [.tv (.lf (.bool false))] [some ⟨d.2.1.1, [.seq (.pair (.int .i64) (.pair (.int .i64) (.pair .str (.sl .bool)))) 0 d.2.1.2.1]⟩]) (K (.exit 0) [] [some ⟨d.2.1.1, [.seq (.pair (.int .i64) (.pair (.int .i64) (.pair .str (.sl .bool)))) 0 d.2.1.2.1]⟩]) k d.1.2.1) F (fun d K => by kernel_rfl)  (fun k d K => Eq.mp (by kernel_rfl) (L49_1_l4g F k   (f49_1_l4 F) (G49_1_4 F F) d K))
theorem E49_1g (F : Nat)  (l4 : List (Int × (Int × (ByteArray × (Sl .bool)))) → (Option Res) → (Option Res) → Nat → Int → Option Res)  (d : sh49_1.den) (K : KF) : evBody Try.prog (tab []) (xw []) 20 1 (ltab [(4, mkG sh49_1_l4 [0, 3] (outT [(.exit 0, []), (.ret, [2])]) (fun d K => l4 d.2.1.2.1 (K .ret [.tv (.lf (.bool false))] [some ⟨d.2.1.1, [.seq (.pair (.int .i64) (.pair (.int .i64) (.pair .str (.sl .bool)))) 0 d.2.1.2.1]⟩]) (K (.exit 0) [] [some ⟨d.2.1.1, [.seq (.pair (.int .i64) (.pair (.int .i64) (.pair .str (.sl .bool)))) 0 d.2.1.2.1]⟩]) F d.1.2.1) [])]) code49 Try.f49.results.toList (encT sh49_1.vs d.1) (encH sh49_1.h d.2) K = (fun (a1 : List (Int × (Int × (ByteArray × (Sl .bool))))) (K0 : (Bool → Option Res)) => cond (decide (((a1.length : Nat) : Int) > 100)) (K0 false) (l4 a1 (K0 false) (K0 true) F 0)) d.2.1.2.1 (fun (y0 : Bool) => K [.lf (.bool y0)] [some ⟨d.2.1.1, [.seq (.pair (.int .i64) (.pair (.int .i64) (.pair .str (.sl .bool)))) 0 d.2.1.2.1]⟩]) := by kernel_rfl
theorem E49_1 (F : Nat) (d : sh49_1.den) (K : KF) : evBody Try.prog (T49_1 F) (xw []) 20 1 (LT49_1 F) code49 Try.f49.results.toList (encT sh49_1.vs d.1) (encH sh49_1.h d.2) K = f49_1 F d.2.1.2.1 (fun (y0 : Bool) => K [.lf (.bool y0)] [some ⟨d.2.1.1, [.seq (.pair (.int .i64) (.pair (.int .i64) (.pair .str (.sl .bool)))) 0 d.2.1.2.1]⟩]) := Eq.mp (by kernel_rfl) (E49_1g F  (f49_1_l4 F)  d K)
theorem S49_1_ok (F : Nat) (o : Summ) (ho : SoundFn Try.prog 49 o) : SoundFn Try.prog 49 (S49_1 F o) :=
  soundFn_of (fn := Try.f49) (c := code49) rfl rfl (by kernel_rfl) tab_nil (by kernel_rfl) (by kernel_rfl) ho (by rw [loops49]; exact (loopsOK_cons (by kernel_rfl) (L49_1_4 F) loopsOK_nil)) (by rw [scopes49]; exact scopesOK_nil) (by rw [ranges49]; exact rangesOK_nil) (E49_1 F)
end Go.Proofs.Ytjlolgpbidfmeaa.X
end

section
namespace Go.Proofs.Ytjlolgpbidfmeaa.X
open Go Go.Proofs.Ytjlolgpbidfmeaa.Ev Go.Proofs
set_option linter.unusedVariables false
set_option linter.unusedSectionVars false
/-! pentimentoref05.Zero -/
noncomputable def f75_1 {β : Type} (F : Nat)  (K0 : ByteArray → Option β) : Option β := f76_1 F 0 (fun x1 => K0 x1) 
variable [FZ]
def sh75_1 : Sh := ⟨[], []⟩
noncomputable def S75_1 (F : Nat) (o : Summ) : Summ := mkS sh75_1 (fun d K => f75_1 F (fun (y0 : ByteArray) => K [.lf (.str y0)] [])) o
noncomputable def code75 : Code := bodyOf Try.f75
theorem scopes75 : scopesOf code75 = [] := by kernel_rfl
theorem ranges75 : rangesOf code75 = [] := by kernel_rfl
theorem loops75 : loopsOf code75 = [] := by kernel_rfl
theorem enter75 : ∀ args w, (callFunc 75 args).run Try.prog w = .ok (.enter 75 args) w := enter_of (fn := Try.f75) (by kernel_rfl) (by kernel_rfl) (by kernel_rfl)
noncomputable def T75_1 (F : Nat) : FuncId → Option Summ := tab [(76, (S76_1 F noS))]
noncomputable def LT75_1 (F : Nat) : Nat → Option LoopS := ltab []
theorem E75_1g (F : Nat) (c76_1 : Int → (ByteArray → Option Res) → Option Res)   (d : sh75_1.den) (K : KF) : evBody Try.prog (tab [(76, (mkS sh76_1 (fun d K => c76_1 d.1.1 (fun (y0 : ByteArray) => K [.lf (.str y0)] [])) noS))]) (xw []) 2 0 (ltab []) code75 Try.f75.results.toList (encT sh75_1.vs d.1) (encH sh75_1.h d.2) K = (fun (K0 : (ByteArray → Option Res)) => c76_1 0 (fun x1 => K0 x1) ) (fun (y0 : ByteArray) => K [.lf (.str y0)] []) := by kernel_rfl
theorem E75_1 (F : Nat) (d : sh75_1.den) (K : KF) : evBody Try.prog (T75_1 F) (xw []) 2 0 (LT75_1 F) code75 Try.f75.results.toList (encT sh75_1.vs d.1) (encH sh75_1.h d.2) K = f75_1 F (fun (y0 : ByteArray) => K [.lf (.str y0)] []) := Eq.mp (by kernel_rfl) (E75_1g F (f76_1 F)   d K)
theorem S75_1_ok (F : Nat) (o : Summ) (ho : SoundFn Try.prog 75 o) : SoundFn Try.prog 75 (S75_1 F o) :=
  soundFn_of (fn := Try.f75) (c := code75) rfl rfl (by kernel_rfl) (tab_cons (S76_1_ok F _ (noS_sound enter76)) tab_nil) (by kernel_rfl) (by kernel_rfl) ho (by rw [loops75]; exact loopsOK_nil) (by rw [scopes75]; exact scopesOK_nil) (by rw [ranges75]; exact rangesOK_nil) (E75_1 F)
end Go.Proofs.Ytjlolgpbidfmeaa.X
end

section
namespace Go.Proofs.Ytjlolgpbidfmeaa.X
open Go Go.Proofs.Ytjlolgpbidfmeaa.Ev Go.Proofs
set_option linter.unusedVariables false
set_option linter.unusedSectionVars false
/-! pentimentoref06.New -/
noncomputable def f52_1_l5 {β : Type} (F : Nat) (v1 : Int) (v3 : Int) (v4 : Bool) (v5 : Int) (v7 : List (Int × ByteArray)) (K0 : List ByteArray → Option β) : Nat → Int → List ByteArray → Option β
  | 0, _, _ => none
  | k + 1, v2, v6 => cond (decide (v2 < v1)) (f75_1 F  (fun x8 => cond (decide ((v6.length + 1) * 16 ≤ 70368744177664)) (f52_1_l5 F v1 v3 v4 v5 v7 K0 k (IntKind.i64.wrap (v2 + 1)) (v6 ++ [x8])) none) ) (K0 v6)
noncomputable def f52_1 {β : Type} (F : Nat) (a1 : Int) (K0 : Option β) (K1 : List ByteArray → List (Int × ByteArray) → Option β) : Option β := cond (decide (a1 < 1)) (K0) (cond (decide (a1 > 1200)) (K0) (f52_1_l5 F a1 (-1) false 0 [] (fun x9 => K1 x9 []) F 0 []))
variable [FZ]
def sh52_1 : Sh := ⟨[.lf (.int .i64)], []⟩
noncomputable def S52_1 (F : Nat) (o : Summ) : Summ := mkS sh52_1 (fun d K => f52_1 F d.1.1 (K [.lf (.nilp), .lf (.int .i64 2)] []) (fun (y4 : List ByteArray) (y5 : List (Int × ByteArray)) => K [.lf (.ptr 0 0), .lf (.int .i64 0)] [some ⟨false, [.full 1, .full 2, .int .i64 (-1), .bool false, .int .i64 0]⟩, some ⟨false, [.seq .str 0 y4]⟩, some ⟨false, [.seq (.pair (.int .i64) .str) 0 y5]⟩])) o
noncomputable def code52 : Code := bodyOf Try.f52
noncomputable def b52_0 : Code := cB (cB (cR (cL (cR (cR (cR (code52)))))))
theorem scopes52 : scopesOf code52 = [] := by kernel_rfl
theorem ranges52 : rangesOf code52 = [] := by kernel_rfl
theorem loops52 : loopsOf code52 = [b52_0] := by kernel_rfl
theorem enter52 : ∀ args w, (callFunc 52 args).run Try.prog w = .ok (.enter 52 args) w := enter_of (fn := Try.f52) (by kernel_rfl) (by kernel_rfl) (by kernel_rfl)
noncomputable def T52_1 (F : Nat) : FuncId → Option Summ := tab [(75, (S75_1 F noS))]
def sh52_1_l5 : Sh := ⟨[.lf (.int .i64), .lf (.ptr 0 0), .lf (.int .i64)], [some ⟨some false, [.full 1, .full 2, .int .i64, .bool, .int .i64]⟩, some ⟨some false, [.seq .str 0]⟩, some ⟨some false, [.seq (.pair (.int .i64) .str) 0]⟩]⟩
noncomputable def G52_1_5 (F k : Nat) : LoopS := mkG sh52_1_l5 [0, 4, 5] (outT [(.exit 0, [4])]) (fun d K => f52_1_l5 F d.1.1 d.2.1.2.2.2.1 d.2.1.2.2.2.2.1 d.2.1.2.2.2.2.2.1 d.2.2.2.1.2.1 (fun (y3 : List ByteArray) => K (.exit 0) [.tv (.lf (.ptr 0 0))] [some ⟨false, [.full 1, .full 2, .int .i64 d.2.1.2.2.2.1, .bool d.2.1.2.2.2.2.1, .int .i64 d.2.1.2.2.2.2.2.1]⟩, some ⟨false, [.seq .str 0 y3]⟩, some ⟨false, [.seq (.pair (.int .i64) .str) 0 d.2.2.2.1.2.1]⟩]) k d.1.2.2.1 d.2.2.1.2.1) []
noncomputable def LT52_1 (F : Nat) : Nat → Option LoopS := ltab [(5, G52_1_5 F F)]
theorem L52_1_l5g (F k : Nat) (c75_1 : (ByteArray → Option Res) → Option Res)  (l5 : Int → Int → Bool → Int → List (Int × ByteArray) → (List ByteArray → Option Res) → Nat → Int → List ByteArray → Option Res) (X5 : LoopS) (d : sh52_1_l5.den) (K : KL) : (fun (v1 : Int) (v3 : Int) (v4 : Bool) (v5 : Int) (v7 : List (Int × ByteArray)) (K0 : (List ByteArray → Option Res)) (k : Nat) (v2 : Int) (v6 : List ByteArray) => cond (decide (v2 < v1)) (c75_1  (fun x8 => cond (decide ((v6.length + 1) * 16 ≤ 70368744177664)) (l5 v1 v3 v4 v5 v7 K0 k (IntKind.i64.wrap (v2 + 1)) (v6 ++ [x8])) none) ) (K0 v6)) d.1.1 d.2.1.2.2.2.1 d.2.1.2.2.2.2.1 d.2.1.2.2.2.2.2.1 d.2.2.2.1.2.1 (fun (y3 : List ByteArray) => K (.exit 0) [.tv (.lf (.ptr 0 0))] [some ⟨false, [.full 1, .full 2, .int .i64 d.2.1.2.2.2.1, .bool d.2.1.2.2.2.2.1, .int .i64 d.2.1.2.2.2.2.2.1]⟩, some ⟨false, [.seq .str 0 y3]⟩, some ⟨false, [.seq (.pair (.int .i64) .str) 0 d.2.2.2.1.2.1]⟩]) k d.1.2.2.1 d.2.2.1.2.1 = roundOf Try.prog (tab [(75, (mkS sh75_1 (fun d K => c75_1 (fun (y0 : ByteArray) => K [.lf (.str y0)] [])) noS))]) (xw []) 30 0 (ltab [(5, X5)]) (mkG sh52_1_l5 [0, 4, 5] (outT [(.exit 0, [4])]) (fun d K => l5 d.1.1 d.2.1.2.2.2.1 d.2.1.2.2.2.2.1 d.2.1.2.2.2.2.2.1 d.2.2.2.1.2.1 (fun (y3 : List ByteArray) => K (.exit 0) [.tv (.lf (.ptr 0 0))] [some ⟨false, [.full 1, .full 2, .int .i64 d.2.1.2.2.2.1, .bool d.2.1.2.2.2.2.1, .int .i64 d.2.1.2.2.2.2.2.1]⟩, some ⟨false, [.seq .str 0 y3]⟩, some ⟨false, [.seq (.pair (.int .i64) .str) 0 d.2.2.2.1.2.1]⟩]) k d.1.2.2.1 d.2.2.1.2.1) []) b52_0 (encT sh52_1_l5.vs d.1) (encH sh52_1_l5.h d.2) K := by kernel_rfl
theorem L52_1_5 (F : Nat) : LoopOK Try.prog (T52_1 F) (xw []) 30 0 (LT52_1 F) (G52_1_5 F F) b52_0 :=
  loopOK_of (s := sh52_1_l5) (live := [0, 4, 5]) (out := (outT [(.exit 0, [4])])) (mv := []) (fun k d K => f52_1_l5 F d.1.1 d.2.1.2.2.2.1 d.2.1.2.2.2.2.1 d.2.1.2.2.2.2.2.1 d.2.2.2.1.2.1 (fun (y3 : List ByteArray) => K (.exit 0) [.tv (.lf (.ptr 0 0))] [some ⟨false, [.full 1, .full 2, .int .i64 d.2.1.2.2.2.1, .bool d.2.1.2.2.2.2.1, .int .i64 d.2.1.2.2.2.2.2.1]⟩, some ⟨false, [.seq .str 0 y3]⟩, some ⟨false, [.seq (.pair (.int .i64) .str) 0 d.2.2.2.1.2.1]⟩]) k d.1.2.2.1 d.2.2.1.2.1) F (fun d K => by kernel_rfl)  (fun k d K => Eq.mp (by kernel_rfl) (L52_1_l5g F k (f75_1 F)  (f52_1_l5 F) (G52_1_5 F F) d K))
theorem E52_1g (F : Nat) (c75_1 : (ByteArray → Option Res) → Option Res) (l5 : Int → Int → Bool → Int → List (Int × ByteArray) → (List ByteArray → Option Res) → Nat → Int → List ByteArray → Option Res)  (d : sh52_1.den) (K : KF) : evBody Try.prog (tab [(75, (mkS sh75_1 (fun d K => c75_1 (fun (y0 : ByteArray) => K [.lf (.str y0)] [])) noS))]) (xw []) 30 0 (ltab [(5, mkG sh52_1_l5 [0, 4, 5] (outT [(.exit 0, [4])]) (fun d K => l5 d.1.1 d.2.1.2.2.2.1 d.2.1.2.2.2.2.1 d.2.1.2.2.2.2.2.1 d.2.2.2.1.2.1 (fun (y3 : List ByteArray) => K (.exit 0) [.tv (.lf (.ptr 0 0))] [some ⟨false, [.full 1, .full 2, .int .i64 d.2.1.2.2.2.1, .bool d.2.1.2.2.2.2.1, .int .i64 d.2.1.2.2.2.2.2.1]⟩, some ⟨false, [.seq .str 0 y3]⟩, some ⟨false, [.seq (.pair (.int .i64) .str) 0 d.2.2.2.1.2.1]⟩]) F d.1.2.2.1 d.2.2.1.2.1) [])]) code52 Try.f52.results.toList (encT sh52_1.vs d.1) (encH sh52_1.h d.2) K = (fun (a1 : Int) (K0 : (Option Res)) (K1 : (List ByteArray → List (Int × ByteArray) → Option Res)) => cond (decide (a1 < 1)) (K0) (cond (decide (a1 > 1200)) (K0) (l5 a1 (-1) false 0 [] (fun x9 => K1 x9 []) F 0 []))) d.1.1 (K [.lf (.nilp), .lf (.int .i64 2)] []) (fun (y4 : List ByteArray) (y5 : List (Int × ByteArray)) => K [.lf (.ptr 0 0), .lf (.int .i64 0)] [some ⟨false, [.full 1, .full 2, .int .i64 (-1), .bool false, .int .i64 0]⟩, some ⟨false, [.seq .str 0 y4]⟩, some ⟨false, [.seq (.pair (.int .i64) .str) 0 y5]⟩]) := by kernel_rfl
theorem E52_1 (F : Nat) (d : sh52_1.den) (K : KF) : evBody Try.prog (T52_1 F) (xw []) 30 0 (LT52_1 F) code52 Try.f52.results.toList (encT sh52_1.vs d.1) (encH sh52_1.h d.2) K = f52_1 F d.1.1 (K [.lf (.nilp), .lf (.int .i64 2)] []) (fun (y4 : List ByteArray) (y5 : List (Int × ByteArray)) => K [.lf (.ptr 0 0), .lf (.int .i64 0)] [some ⟨false, [.full 1, .full 2, .int .i64 (-1), .bool false, .int .i64 0]⟩, some ⟨false, [.seq .str 0 y4]⟩, some ⟨false, [.seq (.pair (.int .i64) .str) 0 y5]⟩]) := Eq.mp (by kernel_rfl) (E52_1g F (f75_1 F) (f52_1_l5 F)  d K)
theorem S52_1_ok (F : Nat) (o : Summ) (ho : SoundFn Try.prog 52 o) : SoundFn Try.prog 52 (S52_1 F o) :=
  soundFn_of (fn := Try.f52) (c := code52) rfl rfl (by kernel_rfl) (tab_cons (S75_1_ok F _ (noS_sound enter75)) tab_nil) (by kernel_rfl) (by kernel_rfl) ho (by rw [loops52]; exact (loopsOK_cons (by kernel_rfl) (L52_1_5 F) loopsOK_nil)) (by rw [scopes52]; exact scopesOK_nil) (by rw [ranges52]; exact rangesOK_nil) (E52_1 F)
end Go.Proofs.Ytjlolgpbidfmeaa.X
end

section
namespace Go.Proofs.Ytjlolgpbidfmeaa.X
open Go Go.Proofs.Ytjlolgpbidfmeaa.Ev Go.Proofs
set_option linter.unusedVariables false
set_option linter.unusedSectionVars false
/-! pentimentoref06.Disk).Kept -/
noncomputable def f106_1 {β : Type} (F : Nat) (a1 : Int) (a2 : Int) (a3 : Bool) (a4 : Int) (a5 : List ByteArray) (a6 : List (Int × ByteArray)) (K0 : ByteArray → Int → Option β) : Option β := cond (decide (a1 < 0)) (K0 ByteArray.empty 3) (cond (decide (a1 ≥ ((a5.length : Nat) : Int))) (K0 ByteArray.empty 3) (cond (decide ((0 : Int) ≤ a1 ∧ a1 < ((a5.length : Nat) : Int))) (cond (decide (0 + a1.toNat < a5.length)) (K0 (a5.getD (0 + a1.toNat) ByteArray.empty) 0) none) none))
variable [FZ]
def sh106_1 : Sh := ⟨[.lf (.ptr 0 0), .lf (.int .i64)], [some ⟨none, [.full 1, .full 2, .int .i64, .bool, .int .i64]⟩, some ⟨none, [.seq .str 0]⟩, some ⟨none, [.seq (.pair (.int .i64) .str) 0]⟩]⟩
noncomputable def S106_1 (F : Nat) (o : Summ) : Summ := mkS sh106_1 (fun d K => f106_1 F d.1.2.1 d.2.1.2.2.2.1 d.2.1.2.2.2.2.1 d.2.1.2.2.2.2.2.1 d.2.2.1.2.1 d.2.2.2.1.2.1 (fun (y0 : ByteArray) (y1 : Int) => K [.lf (.str y0), .lf (.int .i64 y1)] [some ⟨d.2.1.1, [.full 1, .full 2, .int .i64 d.2.1.2.2.2.1, .bool d.2.1.2.2.2.2.1, .int .i64 d.2.1.2.2.2.2.2.1]⟩, some ⟨d.2.2.1.1, [.seq .str 0 d.2.2.1.2.1]⟩, some ⟨d.2.2.2.1.1, [.seq (.pair (.int .i64) .str) 0 d.2.2.2.1.2.1]⟩])) o
noncomputable def code106 : Code := bodyOf Try.f106
theorem scopes106 : scopesOf code106 = [] := by kernel_rfl
theorem ranges106 : rangesOf code106 = [] := by kernel_rfl
theorem loops106 : loopsOf code106 = [] := by kernel_rfl
theorem enter106 : ∀ args w, (callFunc 106 args).run Try.prog w = .ok (.enter 106 args) w := enter_of (fn := Try.f106) (by kernel_rfl) (by kernel_rfl) (by kernel_rfl)
noncomputable def T106_1 (F : Nat) : FuncId → Option Summ := tab []
noncomputable def LT106_1 (F : Nat) : Nat → Option LoopS := ltab []
theorem E106_1g (F : Nat)    (d : sh106_1.den) (K : KF) : evBody Try.prog (tab []) (xw []) 24 3 (ltab []) code106 Try.f106.results.toList (encT sh106_1.vs d.1) (encH sh106_1.h d.2) K = (fun (a1 : Int) (a2 : Int) (a3 : Bool) (a4 : Int) (a5 : List ByteArray) (a6 : List (Int × ByteArray)) (K0 : (ByteArray → Int → Option Res)) => cond (decide (a1 < 0)) (K0 ByteArray.empty 3) (cond (decide (a1 ≥ ((a5.length : Nat) : Int))) (K0 ByteArray.empty 3) (cond (decide ((0 : Int) ≤ a1 ∧ a1 < ((a5.length : Nat) : Int))) (cond (decide (0 + a1.toNat < a5.length)) (K0 (a5.getD (0 + a1.toNat) ByteArray.empty) 0) none) none))) d.1.2.1 d.2.1.2.2.2.1 d.2.1.2.2.2.2.1 d.2.1.2.2.2.2.2.1 d.2.2.1.2.1 d.2.2.2.1.2.1 (fun (y0 : ByteArray) (y1 : Int) => K [.lf (.str y0), .lf (.int .i64 y1)] [some ⟨d.2.1.1, [.full 1, .full 2, .int .i64 d.2.1.2.2.2.1, .bool d.2.1.2.2.2.2.1, .int .i64 d.2.1.2.2.2.2.2.1]⟩, some ⟨d.2.2.1.1, [.seq .str 0 d.2.2.1.2.1]⟩, some ⟨d.2.2.2.1.1, [.seq (.pair (.int .i64) .str) 0 d.2.2.2.1.2.1]⟩]) := by kernel_rfl
theorem E106_1 (F : Nat) (d : sh106_1.den) (K : KF) : evBody Try.prog (T106_1 F) (xw []) 24 3 (LT106_1 F) code106 Try.f106.results.toList (encT sh106_1.vs d.1) (encH sh106_1.h d.2) K = f106_1 F d.1.2.1 d.2.1.2.2.2.1 d.2.1.2.2.2.2.1 d.2.1.2.2.2.2.2.1 d.2.2.1.2.1 d.2.2.2.1.2.1 (fun (y0 : ByteArray) (y1 : Int) => K [.lf (.str y0), .lf (.int .i64 y1)] [some ⟨d.2.1.1, [.full 1, .full 2, .int .i64 d.2.1.2.2.2.1, .bool d.2.1.2.2.2.2.1, .int .i64 d.2.1.2.2.2.2.2.1]⟩, some ⟨d.2.2.1.1, [.seq .str 0 d.2.2.1.2.1]⟩, some ⟨d.2.2.2.1.1, [.seq (.pair (.int .i64) .str) 0 d.2.2.2.1.2.1]⟩]) := Eq.mp (by kernel_rfl) (E106_1g F    d K)
theorem S106_1_ok (F : Nat) (o : Summ) (ho : SoundFn Try.prog 106 o) : SoundFn Try.prog 106 (S106_1 F o) :=
  soundFn_of (fn := Try.f106) (c := code106) rfl rfl (by kernel_rfl) tab_nil (by kernel_rfl) (by kernel_rfl) ho (by rw [loops106]; exact loopsOK_nil) (by rw [scopes106]; exact scopesOK_nil) (by rw [ranges106]; exact rangesOK_nil) (E106_1 F)
end Go.Proofs.Ytjlolgpbidfmeaa.X
end

section
namespace Go.Proofs.Ytjlolgpbidfmeaa.X
open Go Go.Proofs.Ytjlolgpbidfmeaa.Ev Go.Proofs
set_option linter.unusedVariables false
set_option linter.unusedSectionVars false
/-! pentimentoref06.Disk).Read -/
noncomputable def f100_1_l5 {β : Type} (F : Nat) (v3 : Int) (v5 : Int) (v7 : Int) (v8 : Bool) (v9 : Int) (v10 : List ByteArray) (v11 : List (Int × ByteArray)) (K0 : ByteArray → Option β) : Nat → ByteArray → Int → Option β
  | 0, _, _ => none
  | k + 1, v4, v6 => cond (decide (v6 < ((v11.length : Nat) : Int))) (cond (v5 == 0) (cond (decide ((0 : Int) ≤ v6 ∧ v6 < ((v11.length : Nat) : Int))) (cond (decide (0 + v6.toNat < v11.length)) (cond (((v11.getD (0 + v6.toNat) (0, ByteArray.empty)).1) == v3) (cond (decide ((0 : Int) ≤ v6 ∧ v6 < ((v11.length : Nat) : Int))) (cond (decide (0 + v6.toNat < v11.length)) (f100_1_l5 F v3 v5 v7 v8 v9 v10 v11 K0 k ((v11.getD (0 + v6.toNat) (0, ByteArray.empty)).2) (IntKind.i64.wrap (v6 + 1))) none) none) (f100_1_l5 F v3 v5 v7 v8 v9 v10 v11 K0 k v4 (IntKind.i64.wrap (v6 + 1)))) none) none) (K0 v4)) (K0 v4)
noncomputable def f100_1 {β : Type} (F : Nat) (a1 : Int) (a2 : Int) (a3 : Bool) (a4 : Int) (a5 : List ByteArray) (a6 : List (Int × ByteArray)) (K0 : ByteArray → Int → Option β) : Option β := cond a3 (K0 ByteArray.empty 5) (f106_1 F a1 a2 a3 a4 a5 a6 (fun x1 x2 => f100_1_l5 F a1 x2 a2 a3 a4 a5 a6 (fun x12 => K0 x12 x2) F x1 0) )
variable [FZ]
def sh100_1 : Sh := ⟨[.lf (.ptr 0 0), .lf (.int .i64)], [some ⟨none, [.full 1, .full 2, .int .i64, .bool, .int .i64]⟩, some ⟨none, [.seq .str 0]⟩, some ⟨none, [.seq (.pair (.int .i64) .str) 0]⟩]⟩
noncomputable def S100_1 (F : Nat) (o : Summ) : Summ := mkS sh100_1 (fun d K => f100_1 F d.1.2.1 d.2.1.2.2.2.1 d.2.1.2.2.2.2.1 d.2.1.2.2.2.2.2.1 d.2.2.1.2.1 d.2.2.2.1.2.1 (fun (y0 : ByteArray) (y1 : Int) => K [.lf (.str y0), .lf (.int .i64 y1)] [some ⟨d.2.1.1, [.full 1, .full 2, .int .i64 d.2.1.2.2.2.1, .bool d.2.1.2.2.2.2.1, .int .i64 d.2.1.2.2.2.2.2.1]⟩, some ⟨d.2.2.1.1, [.seq .str 0 d.2.2.1.2.1]⟩, some ⟨d.2.2.2.1.1, [.seq (.pair (.int .i64) .str) 0 d.2.2.2.1.2.1]⟩])) o
noncomputable def code100 : Code := bodyOf Try.f100
noncomputable def b100_0 : Code := cB (cB (cR (cL (cR (cR (cR (code100)))))))
theorem scopes100 : scopesOf code100 = [] := by kernel_rfl
theorem ranges100 : rangesOf code100 = [] := by kernel_rfl
theorem loops100 : loopsOf code100 = [b100_0] := by kernel_rfl
theorem enter100 : ∀ args w, (callFunc 100 args).run Try.prog w = .ok (.enter 100 args) w := enter_of (fn := Try.f100) (by kernel_rfl) (by kernel_rfl) (by kernel_rfl)
noncomputable def T100_1 (F : Nat) : FuncId → Option Summ := tab [(106, (S106_1 F noS))]
def sh100_1_l5 : Sh := ⟨[.lf (.ptr 0 0), .lf (.int .i64), .lf (.str), .lf (.int .i64), .lf (.int .i64)], [some ⟨none, [.full 1, .full 2, .int .i64, .bool, .int .i64]⟩, some ⟨none, [.seq .str 0]⟩, some ⟨none, [.seq (.pair (.int .i64) .str) 0]⟩]⟩
noncomputable def G100_1_5 (F k : Nat) : LoopS := mkG sh100_1_l5 [0, 1, 6, 7, 8] (outT [(.exit 0, [6, 7])]) (fun d K => f100_1_l5 F d.1.2.1 d.1.2.2.2.1 d.2.1.2.2.2.1 d.2.1.2.2.2.2.1 d.2.1.2.2.2.2.2.1 d.2.2.1.2.1 d.2.2.2.1.2.1 (fun (y0 : ByteArray) => K (.exit 0) [.tv (.lf (.str y0)), .tv (.lf (.int .i64 d.1.2.2.2.1))] [some ⟨d.2.1.1, [.full 1, .full 2, .int .i64 d.2.1.2.2.2.1, .bool d.2.1.2.2.2.2.1, .int .i64 d.2.1.2.2.2.2.2.1]⟩, some ⟨d.2.2.1.1, [.seq .str 0 d.2.2.1.2.1]⟩, some ⟨d.2.2.2.1.1, [.seq (.pair (.int .i64) .str) 0 d.2.2.2.1.2.1]⟩]) k d.1.2.2.1 d.1.2.2.2.2.1) []
noncomputable def LT100_1 (F : Nat) : Nat → Option LoopS := ltab [(5, G100_1_5 F F)]
theorem L100_1_l5g (F k : Nat) (c106_1 : Int → Int → Bool → Int → List ByteArray → List (Int × ByteArray) → (ByteArray → Int → Option Res) → Option Res)  (l5 : Int → Int → Int → Bool → Int → List ByteArray → List (Int × ByteArray) → (ByteArray → Option Res) → Nat → ByteArray → Int → Option Res) (X5 : LoopS) (d : sh100_1_l5.den) (K : KL) : (fun (v3 : Int) (v5 : Int) (v7 : Int) (v8 : Bool) (v9 : Int) (v10 : List ByteArray) (v11 : List (Int × ByteArray)) (K0 : (ByteArray → Option Res)) (k : Nat) (v4 : ByteArray) (v6 : Int) => cond (decide (v6 < ((v11.length : Nat) : Int))) (cond (v5 == 0) (cond (decide ((0 : Int) ≤ v6 ∧ v6 < ((v11.length : Nat) : Int))) (cond (decide (0 + v6.toNat < v11.length)) (cond (((v11.getD (0 + v6.toNat) (0, ByteArray.empty)).1) == v3) (cond (decide ((0 : Int) ≤ v6 ∧ v6 < ((v11.length : Nat) : Int))) (cond (decide (0 + v6.toNat < v11.length)) (l5 v3 v5 v7 v8 v9 v10 v11 K0 k ((v11.getD (0 + v6.toNat) (0, ByteArray.empty)).2) (IntKind.i64.wrap (v6 + 1))) none) none) (l5 v3 v5 v7 v8 v9 v10 v11 K0 k v4 (IntKind.i64.wrap (v6 + 1)))) none) none) (K0 v4)) (K0 v4)) d.1.2.1 d.1.2.2.2.1 d.2.1.2.2.2.1 d.2.1.2.2.2.2.1 d.2.1.2.2.2.2.2.1 d.2.2.1.2.1 d.2.2.2.1.2.1 (fun (y0 : ByteArray) => K (.exit 0) [.tv (.lf (.str y0)), .tv (.lf (.int .i64 d.1.2.2.2.1))] [some ⟨d.2.1.1, [.full 1, .full 2, .int .i64 d.2.1.2.2.2.1, .bool d.2.1.2.2.2.2.1, .int .i64 d.2.1.2.2.2.2.2.1]⟩, some ⟨d.2.2.1.1, [.seq .str 0 d.2.2.1.2.1]⟩, some ⟨d.2.2.2.1.1, [.seq (.pair (.int .i64) .str) 0 d.2.2.2.1.2.1]⟩]) k d.1.2.2.1 d.1.2.2.2.2.1 = roundOf Try.prog (tab [(106, (mkS sh106_1 (fun d K => c106_1 d.1.2.1 d.2.1.2.2.2.1 d.2.1.2.2.2.2.1 d.2.1.2.2.2.2.2.1 d.2.2.1.2.1 d.2.2.2.1.2.1 (fun (y0 : ByteArray) (y1 : Int) => K [.lf (.str y0), .lf (.int .i64 y1)] [some ⟨d.2.1.1, [.full 1, .full 2, .int .i64 d.2.1.2.2.2.1, .bool d.2.1.2.2.2.2.1, .int .i64 d.2.1.2.2.2.2.2.1]⟩, some ⟨d.2.2.1.1, [.seq .str 0 d.2.2.1.2.1]⟩, some ⟨d.2.2.2.1.1, [.seq (.pair (.int .i64) .str) 0 d.2.2.2.1.2.1]⟩])) noS))]) (xw []) 52 3 (ltab [(5, X5)]) (mkG sh100_1_l5 [0, 1, 6, 7, 8] (outT [(.exit 0, [6, 7])]) (fun d K => l5 d.1.2.1 d.1.2.2.2.1 d.2.1.2.2.2.1 d.2.1.2.2.2.2.1 d.2.1.2.2.2.2.2.1 d.2.2.1.2.1 d.2.2.2.1.2.1 (fun (y0 : ByteArray) => K (.exit 0) [.tv (.lf (.str y0)), .tv (.lf (.int .i64 d.1.2.2.2.1))] [some ⟨d.2.1.1, [.full 1, .full 2, .int .i64 d.2.1.2.2.2.1, .bool d.2.1.2.2.2.2.1, .int .i64 d.2.1.2.2.2.2.2.1]⟩, some ⟨d.2.2.1.1, [.seq .str 0 d.2.2.1.2.1]⟩, some ⟨d.2.2.2.1.1, [.seq (.pair (.int .i64) .str) 0 d.2.2.2.1.2.1]⟩]) k d.1.2.2.1 d.1.2.2.2.2.1) []) b100_0 (encT sh100_1_l5.vs d.1) (encH sh100_1_l5.h d.2) K := by kernel_rfl
theorem L100_1_5 (F : Nat) : LoopOK Try.prog (T100_1 F) (xw []) 52 3 (LT100_1 F) (G100_1_5 F F) b100_0 :=
  loopOK_of (s := sh100_1_l5) (live := [0, 1, 6, 7, 8]) (out := (outT [(.exit 0, [6, 7])])) (mv := []) (fun k d K => f100_1_l5 F d.1.2.1 d.1.2.2.2.1 d.2.1.2.2.2.1 d.2.1.2.2.2.2.1 d.2.1.2.2.2.2.2.1 d.2.2.1.2.1 d.2.2.2.1.2.1 (fun (y0 : ByteArray) => K (.exit 0) [.tv (.lf (.str y0)), .tv (.lf (.int .i64 d.1.2.2.2.1))] [some ⟨d.2.1.1, [.full 1, .full 2, .int .i64 d.2.1.2.2.2.1, .bool d.2.1.2.2.2.2.1, .int .i64 d.2.1.2.2.2.2.2.1]⟩, some ⟨d.2.2.1.1, [.seq .str 0 d.2.2.1.2.1]⟩, some ⟨d.2.2.2.1.1, [.seq (.pair (.int .i64) .str) 0 d.2.2.2.1.2.1]⟩]) k d.1.2.2.1 d.1.2.2.2.2.1) F (fun d K => by kernel_rfl)  (fun k d K => Eq.mp (by kernel_rfl) (L100_1_l5g F k (f106_1 F)  (f100_1_l5 F) (G100_1_5 F F) d K))
theorem E100_1g (F : Nat) (c106_1 : Int → Int → Bool → Int → List ByteArray → List (Int × ByteArray) → (ByteArray → Int → Option Res) → Option Res) (l5 : Int → Int → Int → Bool → Int → List ByteArray → List (Int × ByteArray) → (ByteArray → Option Res) → Nat → ByteArray → Int → Option Res)  (d : sh100_1.den) (K : KF) : evBody Try.prog (tab [(106, (mkS sh106_1 (fun d K => c106_1 d.1.2.1 d.2.1.2.2.2.1 d.2.1.2.2.2.2.1 d.2.1.2.2.2.2.2.1 d.2.2.1.2.1 d.2.2.2.1.2.1 (fun (y0 : ByteArray) (y1 : Int) => K [.lf (.str y0), .lf (.int .i64 y1)] [some ⟨d.2.1.1, [.full 1, .full 2, .int .i64 d.2.1.2.2.2.1, .bool d.2.1.2.2.2.2.1, .int .i64 d.2.1.2.2.2.2.2.1]⟩, some ⟨d.2.2.1.1, [.seq .str 0 d.2.2.1.2.1]⟩, some ⟨d.2.2.2.1.1, [.seq (.pair (.int .i64) .str) 0 d.2.2.2.1.2.1]⟩])) noS))]) (xw []) 52 3 (ltab [(5, mkG sh100_1_l5 [0, 1, 6, 7, 8] (outT [(.exit 0, [6, 7])]) (fun d K => l5 d.1.2.1 d.1.2.2.2.1 d.2.1.2.2.2.1 d.2.1.2.2.2.2.1 d.2.1.2.2.2.2.2.1 d.2.2.1.2.1 d.2.2.2.1.2.1 (fun (y0 : ByteArray) => K (.exit 0) [.tv (.lf (.str y0)), .tv (.lf (.int .i64 d.1.2.2.2.1))] [some ⟨d.2.1.1, [.full 1, .full 2, .int .i64 d.2.1.2.2.2.1, .bool d.2.1.2.2.2.2.1, .int .i64 d.2.1.2.2.2.2.2.1]⟩, some ⟨d.2.2.1.1, [.seq .str 0 d.2.2.1.2.1]⟩, some ⟨d.2.2.2.1.1, [.seq (.pair (.int .i64) .str) 0 d.2.2.2.1.2.1]⟩]) F d.1.2.2.1 d.1.2.2.2.2.1) [])]) code100 Try.f100.results.toList (encT sh100_1.vs d.1) (encH sh100_1.h d.2) K = (fun (a1 : Int) (a2 : Int) (a3 : Bool) (a4 : Int) (a5 : List ByteArray) (a6 : List (Int × ByteArray)) (K0 : (ByteArray → Int → Option Res)) => cond a3 (K0 ByteArray.empty 5) (c106_1 a1 a2 a3 a4 a5 a6 (fun x1 x2 => l5 a1 x2 a2 a3 a4 a5 a6 (fun x12 => K0 x12 x2) F x1 0) )) d.1.2.1 d.2.1.2.2.2.1 d.2.1.2.2.2.2.1 d.2.1.2.2.2.2.2.1 d.2.2.1.2.1 d.2.2.2.1.2.1 (fun (y0 : ByteArray) (y1 : Int) => K [.lf (.str y0), .lf (.int .i64 y1)] [some ⟨d.2.1.1, [.full 1, .full 2, .int .i64 d.2.1.2.2.2.1, .bool d.2.1.2.2.2.2.1, .int .i64 d.2.1.2.2.2.2.2.1]⟩, some ⟨d.2.2.1.1, [.seq .str 0 d.2.2.1.2.1]⟩, some ⟨d.2.2.2.1.1, [.seq (.pair (.int .i64) .str) 0 d.2.2.2.1.2.1]⟩]) := by kernel_rfl
theorem E100_1 (F : Nat) (d : sh100_1.den) (K : KF) : evBody Try.prog (T100_1 F) (xw []) 52 3 (LT100_1 F) code100 Try.f100.results.toList (encT sh100_1.vs d.1) (encH sh100_1.h d.2) K = f100_1 F d.1.2.1 d.2.1.2.2.2.1 d.2.1.2.2.2.2.1 d.2.1.2.2.2.2.2.1 d.2.2.1.2.1 d.2.2.2.1.2.1 (fun (y0 : ByteArray) (y1 : Int) => K [.lf (.str y0), .lf (.int .i64 y1)] [some ⟨d.2.1.1, [.full 1, .full 2, .int .i64 d.2.1.2.2.2.1, .bool d.2.1.2.2.2.2.1, .int .i64 d.2.1.2.2.2.2.2.1]⟩, some ⟨d.2.2.1.1, [.seq .str 0 d.2.2.1.2.1]⟩, some ⟨d.2.2.2.1.1, [.seq (.pair (.int .i64) .str) 0 d.2.2.2.1.2.1]⟩]) := Eq.mp (by kernel_rfl) (E100_1g F (f106_1 F) (f100_1_l5 F)  d K)
theorem S100_1_ok (F : Nat) (o : Summ) (ho : SoundFn Try.prog 100 o) : SoundFn Try.prog 100 (S100_1 F o) :=
  soundFn_of (fn := Try.f100) (c := code100) rfl rfl (by kernel_rfl) (tab_cons (S106_1_ok F _ (noS_sound enter106)) tab_nil) (by kernel_rfl) (by kernel_rfl) ho (by rw [loops100]; exact (loopsOK_cons (by kernel_rfl) (L100_1_5 F) loopsOK_nil)) (by rw [scopes100]; exact scopesOK_nil) (by rw [ranges100]; exact rangesOK_nil) (E100_1 F)
end Go.Proofs.Ytjlolgpbidfmeaa.X
end

section
namespace Go.Proofs.Ytjlolgpbidfmeaa.X
open Go Go.Proofs.Ytjlolgpbidfmeaa.Ev Go.Proofs
set_option linter.unusedVariables false
set_option linter.unusedSectionVars false
/-! pentimentoref06.Disk).burn -/
noncomputable def f129_1 {β : Type} (F : Nat) (a1 : Int) (a2 : Bool) (a3 : Int) (a4 : List ByteArray) (a5 : List (Int × ByteArray)) (K0 : Bool → Int → Bool → Int → Option β) : Option β := cond (a1 == 0) (K0 false (-1) true a3) (cond (decide (a1 > 0)) (K0 true (IntKind.i64.wrap (a1 - 1)) a2 (IntKind.i64.wrap (a3 + 1))) (K0 true a1 a2 (IntKind.i64.wrap (a3 + 1))))
variable [FZ]
def sh129_1 : Sh := ⟨[.lf (.ptr 0 0)], [some ⟨some false, [.full 1, .full 2, .int .i64, .bool, .int .i64]⟩, some ⟨none, [.seq .str 0]⟩, some ⟨none, [.seq (.pair (.int .i64) .str) 0]⟩]⟩
noncomputable def S129_1 (F : Nat) (o : Summ) : Summ := mkS sh129_1 (fun d K => f129_1 F d.2.1.2.2.2.1 d.2.1.2.2.2.2.1 d.2.1.2.2.2.2.2.1 d.2.2.1.2.1 d.2.2.2.1.2.1 (fun (y0 : Bool) (y1 : Int) (y2 : Bool) (y3 : Int) => K [.lf (.bool y0)] [some ⟨false, [.full 1, .full 2, .int .i64 y1, .bool y2, .int .i64 y3]⟩, some ⟨d.2.2.1.1, [.seq .str 0 d.2.2.1.2.1]⟩, some ⟨d.2.2.2.1.1, [.seq (.pair (.int .i64) .str) 0 d.2.2.2.1.2.1]⟩])) o
noncomputable def code129 : Code := bodyOf Try.f129
theorem scopes129 : scopesOf code129 = [] := by kernel_rfl
theorem ranges129 : rangesOf code129 = [] := by kernel_rfl
theorem loops129 : loopsOf code129 = [] := by kernel_rfl
theorem enter129 : ∀ args w, (callFunc 129 args).run Try.prog w = .ok (.enter 129 args) w := enter_of (fn := Try.f129) (by kernel_rfl) (by kernel_rfl) (by kernel_rfl)
noncomputable def T129_1 (F : Nat) : FuncId → Option Summ := tab []
noncomputable def LT129_1 (F : Nat) : Nat → Option LoopS := ltab []
theorem E129_1g (F : Nat)    (d : sh129_1.den) (K : KF) : evBody Try.prog (tab []) (xw []) 35 3 (ltab []) code129 Try.f129.results.toList (encT sh129_1.vs d.1) (encH sh129_1.h d.2) K = (fun (a1 : Int) (a2 : Bool) (a3 : Int) (a4 : List ByteArray) (a5 : List (Int × ByteArray)) (K0 : (Bool → Int → Bool → Int → Option Res)) => cond (a1 == 0) (K0 false (-1) true a3) (cond (decide (a1 > 0)) (K0 true (IntKind.i64.wrap (a1 - 1)) a2 (IntKind.i64.wrap (a3 + 1))) (K0 true a1 a2 (IntKind.i64.wrap (a3 + 1))))) d.2.1.2.2.2.1 d.2.1.2.2.2.2.1 d.2.1.2.2.2.2.2.1 d.2.2.1.2.1 d.2.2.2.1.2.1 (fun (y0 : Bool) (y1 : Int) (y2 : Bool) (y3 : Int) => K [.lf (.bool y0)] [some ⟨false, [.full 1, .full 2, .int .i64 y1, .bool y2, .int .i64 y3]⟩, some ⟨d.2.2.1.1, [.seq .str 0 d.2.2.1.2.1]⟩, some ⟨d.2.2.2.1.1, [.seq (.pair (.int .i64) .str) 0 d.2.2.2.1.2.1]⟩]) := by kernel_rfl
theorem E129_1 (F : Nat) (d : sh129_1.den) (K : KF) : evBody Try.prog (T129_1 F) (xw []) 35 3 (LT129_1 F) code129 Try.f129.results.toList (encT sh129_1.vs d.1) (encH sh129_1.h d.2) K = f129_1 F d.2.1.2.2.2.1 d.2.1.2.2.2.2.1 d.2.1.2.2.2.2.2.1 d.2.2.1.2.1 d.2.2.2.1.2.1 (fun (y0 : Bool) (y1 : Int) (y2 : Bool) (y3 : Int) => K [.lf (.bool y0)] [some ⟨false, [.full 1, .full 2, .int .i64 y1, .bool y2, .int .i64 y3]⟩, some ⟨d.2.2.1.1, [.seq .str 0 d.2.2.1.2.1]⟩, some ⟨d.2.2.2.1.1, [.seq (.pair (.int .i64) .str) 0 d.2.2.2.1.2.1]⟩]) := Eq.mp (by kernel_rfl) (E129_1g F    d K)
theorem S129_1_ok (F : Nat) (o : Summ) (ho : SoundFn Try.prog 129 o) : SoundFn Try.prog 129 (S129_1 F o) :=
  soundFn_of (fn := Try.f129) (c := code129) rfl rfl (by kernel_rfl) tab_nil (by kernel_rfl) (by kernel_rfl) ho (by rw [loops129]; exact loopsOK_nil) (by rw [scopes129]; exact scopesOK_nil) (by rw [ranges129]; exact rangesOK_nil) (E129_1 F)
end Go.Proofs.Ytjlolgpbidfmeaa.X
end

section
namespace Go.Proofs.Ytjlolgpbidfmeaa.X
open Go Go.Proofs.Ytjlolgpbidfmeaa.Ev Go.Proofs
set_option linter.unusedVariables false
set_option linter.unusedSectionVars false
/-! pentimentoref05.Right -/
noncomputable def f91_1 {β : Type} (F : Nat) (a1 : ByteArray) (K0 : Bool → Option β) : Option β := K0 ((a1.size : Int) == 64)
variable [FZ]
def sh91_1 : Sh := ⟨[.lf (.str)], []⟩
noncomputable def S91_1 (F : Nat) (o : Summ) : Summ := mkS sh91_1 (fun d K => f91_1 F d.1.1 (fun (y0 : Bool) => K [.lf (.bool y0)] [])) o
noncomputable def code91 : Code := bodyOf Try.f91
theorem scopes91 : scopesOf code91 = [] := by kernel_rfl
theorem ranges91 : rangesOf code91 = [] := by kernel_rfl
theorem loops91 : loopsOf code91 = [] := by kernel_rfl
theorem enter91 : ∀ args w, (callFunc 91 args).run Try.prog w = .ok (.enter 91 args) w := enter_of (fn := Try.f91) (by kernel_rfl) (by kernel_rfl) (by kernel_rfl)
noncomputable def T91_1 (F : Nat) : FuncId → Option Summ := tab []
noncomputable def LT91_1 (F : Nat) : Nat → Option LoopS := ltab []
theorem E91_1g (F : Nat)    (d : sh91_1.den) (K : KF) : evBody Try.prog (tab []) (xw []) 6 0 (ltab []) code91 Try.f91.results.toList (encT sh91_1.vs d.1) (encH sh91_1.h d.2) K = (fun (a1 : ByteArray) (K0 : (Bool → Option Res)) => K0 ((a1.size : Int) == 64)) d.1.1 (fun (y0 : Bool) => K [.lf (.bool y0)] []) := by kernel_rfl
theorem E91_1 (F : Nat) (d : sh91_1.den) (K : KF) : evBody Try.prog (T91_1 F) (xw []) 6 0 (LT91_1 F) code91 Try.f91.results.toList (encT sh91_1.vs d.1) (encH sh91_1.h d.2) K = f91_1 F d.1.1 (fun (y0 : Bool) => K [.lf (.bool y0)] []) := Eq.mp (by kernel_rfl) (E91_1g F    d K)
theorem S91_1_ok (F : Nat) (o : Summ) (ho : SoundFn Try.prog 91 o) : SoundFn Try.prog 91 (S91_1 F o) :=
  soundFn_of (fn := Try.f91) (c := code91) rfl rfl (by kernel_rfl) tab_nil (by kernel_rfl) (by kernel_rfl) ho (by rw [loops91]; exact loopsOK_nil) (by rw [scopes91]; exact scopesOK_nil) (by rw [ranges91]; exact rangesOK_nil) (E91_1 F)
end Go.Proofs.Ytjlolgpbidfmeaa.X
end

section
namespace Go.Proofs.Ytjlolgpbidfmeaa.X
open Go Go.Proofs.Ytjlolgpbidfmeaa.Ev Go.Proofs
set_option linter.unusedVariables false
set_option linter.unusedSectionVars false
/-! pentimentoref06.Disk).Write -/
noncomputable def f101_1 {β : Type} (F : Nat) (a1 : Int) (a2 : ByteArray) (a3 : Int) (a4 : Bool) (a5 : Int) (a6 : List ByteArray) (a7 : List (Int × ByteArray)) (K0 : Int → Int → Bool → Int → Option β) (K1 : Int → Bool → Int → List (Int × ByteArray) → Option β) : Option β := cond a4 (K0 5 a3 a4 a5) (cond (decide (a1 < 0)) (K0 3 a3 a4 a5) (cond (decide (a1 ≥ ((a6.length : Nat) : Int))) (K0 3 a3 a4 a5) (f91_1 F a2 (fun x1 => cond (!x1) (K0 4 a3 a4 a5) (f129_1 F a3 a4 a5 a6 a7 (fun x2 x3 x4 x5 => cond (!x2) (K0 5 x3 x4 x5) (cond (decide ((a7.length + 1) * 24 ≤ 70368744177664)) (K1 x3 x4 x5 (a7 ++ [(a1, a2)])) none)) )) )))
variable [FZ]
def sh101_1 : Sh := ⟨[.lf (.ptr 0 0), .lf (.int .i64), .lf (.str)], [some ⟨some false, [.full 1, .full 2, .int .i64, .bool, .int .i64]⟩, some ⟨none, [.seq .str 0]⟩, some ⟨some false, [.seq (.pair (.int .i64) .str) 0]⟩]⟩
noncomputable def S101_1 (F : Nat) (o : Summ) : Summ := mkS sh101_1 (fun d K => f101_1 F d.1.2.1 d.1.2.2.1 d.2.1.2.2.2.1 d.2.1.2.2.2.2.1 d.2.1.2.2.2.2.2.1 d.2.2.1.2.1 d.2.2.2.1.2.1 (fun (y0 : Int) (y1 : Int) (y2 : Bool) (y3 : Int) => K [.lf (.int .i64 y0)] [some ⟨false, [.full 1, .full 2, .int .i64 y1, .bool y2, .int .i64 y3]⟩, some ⟨d.2.2.1.1, [.seq .str 0 d.2.2.1.2.1]⟩, some ⟨false, [.seq (.pair (.int .i64) .str) 0 d.2.2.2.1.2.1]⟩]) (fun (y1 : Int) (y2 : Bool) (y3 : Int) (y5 : List (Int × ByteArray)) => K [.lf (.int .i64 0)] [some ⟨false, [.full 1, .full 3, .int .i64 y1, .bool y2, .int .i64 y3]⟩, some ⟨d.2.2.1.1, [.seq .str 0 d.2.2.1.2.1]⟩, none, some ⟨false, [.seq (.pair (.int .i64) .str) 0 y5]⟩])) o
noncomputable def code101 : Code := bodyOf Try.f101
theorem scopes101 : scopesOf code101 = [] := by kernel_rfl
theorem ranges101 : rangesOf code101 = [] := by kernel_rfl
theorem loops101 : loopsOf code101 = [] := by kernel_rfl
theorem enter101 : ∀ args w, (callFunc 101 args).run Try.prog w = .ok (.enter 101 args) w := enter_of (fn := Try.f101) (by kernel_rfl) (by kernel_rfl) (by kernel_rfl)
noncomputable def T101_1 (F : Nat) : FuncId → Option Summ := tab [(91, (S91_1 F noS)), (129, (S129_1 F noS))]
noncomputable def LT101_1 (F : Nat) : Nat → Option LoopS := ltab []
theorem E101_1g (F : Nat) (c91_1 : ByteArray → (Bool → Option Res) → Option Res) (c129_1 : Int → Bool → Int → List ByteArray → List (Int × ByteArray) → (Bool → Int → Bool → Int → Option Res) → Option Res)   (d : sh101_1.den) (K : KF) : evBody Try.prog (tab [(91, (mkS sh91_1 (fun d K => c91_1 d.1.1 (fun (y0 : Bool) => K [.lf (.bool y0)] [])) noS)), (129, (mkS sh129_1 (fun d K => c129_1 d.2.1.2.2.2.1 d.2.1.2.2.2.2.1 d.2.1.2.2.2.2.2.1 d.2.2.1.2.1 d.2.2.2.1.2.1 (fun (y0 : Bool) (y1 : Int) (y2 : Bool) (y3 : Int) => K [.lf (.bool y0)] [some ⟨false, [.full 1, .full 2, .int .i64 y1, .bool y2, .int .i64 y3]⟩, some ⟨d.2.2.1.1, [.seq .str 0 d.2.2.1.2.1]⟩, some ⟨d.2.2.2.1.1, [.seq (.pair (.int .i64) .str) 0 d.2.2.2.1.2.1]⟩])) noS))]) (xw []) 40 3 (ltab []) code101 Try.f101.results.toList (encT sh101_1.vs d.1) (encH sh101_1.h d.2) K = (fun (a1 : Int) (a2 : ByteArray) (a3 : Int) (a4 : Bool) (a5 : Int) (a6 : List ByteArray) (a7 : List (Int × ByteArray)) (K0 : (Int → Int → Bool → Int → Option Res)) (K1 : (Int → Bool → Int → List (Int × ByteArray) → Option Res)) => cond a4 (K0 5 a3 a4 a5) (cond (decide (a1 < 0)) (K0 3 a3 a4 a5) (cond (decide (a1 ≥ ((a6.length : Nat) : Int))) (K0 3 a3 a4 a5) (c91_1 a2 (fun x1 => cond (!x1) (K0 4 a3 a4 a5) (c129_1 a3 a4 a5 a6 a7 (fun x2 x3 x4 x5 => cond (!x2) (K0 5 x3 x4 x5) (cond (decide ((a7.length + 1) * 24 ≤ 70368744177664)) (K1 x3 x4 x5 (a7 ++ [(a1, a2)])) none)) )) )))) d.1.2.1 d.1.2.2.1 d.2.1.2.2.2.1 d.2.1.2.2.2.2.1 d.2.1.2.2.2.2.2.1 d.2.2.1.2.1 d.2.2.2.1.2.1 (fun (y0 : Int) (y1 : Int) (y2 : Bool) (y3 : Int) => K [.lf (.int .i64 y0)] [some ⟨false, [.full 1, .full 2, .int .i64 y1, .bool y2, .int .i64 y3]⟩, some ⟨d.2.2.1.1, [.seq .str 0 d.2.2.1.2.1]⟩, some ⟨false, [.seq (.pair (.int .i64) .str) 0 d.2.2.2.1.2.1]⟩]) (fun (y1 : Int) (y2 : Bool) (y3 : Int) (y5 : List (Int × ByteArray)) => K [.lf (.int .i64 0)] [some ⟨false, [.full 1, .full 3, .int .i64 y1, .bool y2, .int .i64 y3]⟩, some ⟨d.2.2.1.1, [.seq .str 0 d.2.2.1.2.1]⟩, none, some ⟨false, [.seq (.pair (.int .i64) .str) 0 y5]⟩]) := by kernel_rfl
theorem E101_1 (F : Nat) (d : sh101_1.den) (K : KF) : evBody Try.prog (T101_1 F) (xw []) 40 3 (LT101_1 F) code101 Try.f101.results.toList (encT sh101_1.vs d.1) (encH sh101_1.h d.2) K = f101_1 F d.1.2.1 d.1.2.2.1 d.2.1.2.2.2.1 d.2.1.2.2.2.2.1 d.2.1.2.2.2.2.2.1 d.2.2.1.2.1 d.2.2.2.1.2.1 (fun (y0 : Int) (y1 : Int) (y2 : Bool) (y3 : Int) => K [.lf (.int .i64 y0)] [some ⟨false, [.full 1, .full 2, .int .i64 y1, .bool y2, .int .i64 y3]⟩, some ⟨d.2.2.1.1, [.seq .str 0 d.2.2.1.2.1]⟩, some ⟨false, [.seq (.pair (.int .i64) .str) 0 d.2.2.2.1.2.1]⟩]) (fun (y1 : Int) (y2 : Bool) (y3 : Int) (y5 : List (Int × ByteArray)) => K [.lf (.int .i64 0)] [some ⟨false, [.full 1, .full 3, .int .i64 y1, .bool y2, .int .i64 y3]⟩, some ⟨d.2.2.1.1, [.seq .str 0 d.2.2.1.2.1]⟩, none, some ⟨false, [.seq (.pair (.int .i64) .str) 0 y5]⟩]) := Eq.mp (by kernel_rfl) (E101_1g F (f91_1 F) (f129_1 F)   d K)
theorem S101_1_ok (F : Nat) (o : Summ) (ho : SoundFn Try.prog 101 o) : SoundFn Try.prog 101 (S101_1 F o) :=
  soundFn_of (fn := Try.f101) (c := code101) rfl rfl (by kernel_rfl) (tab_cons (S91_1_ok F _ (noS_sound enter91)) (tab_cons (S129_1_ok F _ (noS_sound enter129)) tab_nil)) (by kernel_rfl) (by kernel_rfl) ho (by rw [loops101]; exact loopsOK_nil) (by rw [scopes101]; exact scopesOK_nil) (by rw [ranges101]; exact rangesOK_nil) (E101_1 F)
end Go.Proofs.Ytjlolgpbidfmeaa.X
end

section
namespace Go.Proofs.Ytjlolgpbidfmeaa.X
open Go Go.Proofs.Ytjlolgpbidfmeaa.Ev Go.Proofs
set_option linter.unusedVariables false
set_option linter.unusedSectionVars false
/-! pentimentoref06.Disk).Flush -/
noncomputable def f102_1_l4 {β : Type} (F : Nat) (v6 : Int) (v7 : Bool) (v8 : Int) (v10 : List (Int × ByteArray)) (K0 : List ByteArray → Option β) : Nat → Int → List ByteArray → Option β
  | 0, _, _ => none
  | k + 1, v5, v9 => cond (decide (v5 < ((v10.length : Nat) : Int))) (cond (decide ((0 : Int) ≤ v5 ∧ v5 < ((v10.length : Nat) : Int))) (cond (decide (0 + v5.toNat < v10.length)) (cond (decide ((0 : Int) ≤ (v10.getD (0 + v5.toNat) (0, ByteArray.empty)).1 ∧ (v10.getD (0 + v5.toNat) (0, ByteArray.empty)).1 < ((v9.length : Nat) : Int))) (cond (decide (0 + (((v10.getD (0 + v5.toNat) (0, ByteArray.empty)).1).toNat) < v9.length)) (f102_1_l4 F v6 v7 v8 v10 K0 k (IntKind.i64.wrap (v5 + 1)) (v9.set (0 + (((v10.getD (0 + v5.toNat) (0, ByteArray.empty)).1).toNat)) ((v10.getD (0 + v5.toNat) (0, ByteArray.empty)).2))) none) none) none) none) (K0 v9)
noncomputable def f102_1 {β : Type} (F : Nat) (a1 : Int) (a2 : Bool) (a3 : Int) (a4 : List ByteArray) (a5 : List (Int × ByteArray)) (K0 : Int → Bool → Int → Option β) (K1 : Int → Bool → Int → List ByteArray → List (Int × ByteArray) → Option β) : Option β := cond a2 (K0 a1 a2 a3) (f129_1 F a1 a2 a3 a4 a5 (fun x1 x2 x3 x4 => cond (!x1) (K0 x2 x3 x4) (f102_1_l4 F x2 x3 x4 a5 (fun x11 => K1 x2 x3 x4 x11 []) F 0 a4)) )
variable [FZ]
def sh102_1 : Sh := ⟨[.lf (.ptr 0 0)], [some ⟨some false, [.full 1, .full 2, .int .i64, .bool, .int .i64]⟩, some ⟨some false, [.seq .str 0]⟩, some ⟨none, [.seq (.pair (.int .i64) .str) 0]⟩]⟩
noncomputable def S102_1 (F : Nat) (o : Summ) : Summ := mkS sh102_1 (fun d K => f102_1 F d.2.1.2.2.2.1 d.2.1.2.2.2.2.1 d.2.1.2.2.2.2.2.1 d.2.2.1.2.1 d.2.2.2.1.2.1 (fun (y1 : Int) (y2 : Bool) (y3 : Int) => K [.lf (.int .i64 5)] [some ⟨false, [.full 1, .full 2, .int .i64 y1, .bool y2, .int .i64 y3]⟩, some ⟨false, [.seq .str 0 d.2.2.1.2.1]⟩, some ⟨d.2.2.2.1.1, [.seq (.pair (.int .i64) .str) 0 d.2.2.2.1.2.1]⟩]) (fun (y1 : Int) (y2 : Bool) (y3 : Int) (y4 : List ByteArray) (y6 : List (Int × ByteArray)) => K [.lf (.int .i64 0)] [some ⟨false, [.full 1, .full 3, .int .i64 y1, .bool y2, .int .i64 y3]⟩, some ⟨false, [.seq .str 0 y4]⟩, some ⟨d.2.2.2.1.1, [.seq (.pair (.int .i64) .str) 0 d.2.2.2.1.2.1]⟩, some ⟨false, [.seq (.pair (.int .i64) .str) 0 y6]⟩])) o
noncomputable def code102 : Code := bodyOf Try.f102
noncomputable def b102_0 : Code := cB (cB (cR (cL (cR (cR (code102))))))
theorem scopes102 : scopesOf code102 = [] := by kernel_rfl
theorem ranges102 : rangesOf code102 = [] := by kernel_rfl
theorem loops102 : loopsOf code102 = [b102_0] := by kernel_rfl
theorem enter102 : ∀ args w, (callFunc 102 args).run Try.prog w = .ok (.enter 102 args) w := enter_of (fn := Try.f102) (by kernel_rfl) (by kernel_rfl) (by kernel_rfl)
noncomputable def T102_1 (F : Nat) : FuncId → Option Summ := tab [(129, (S129_1 F noS))]
def sh102_1_l4 : Sh := ⟨[.lf (.ptr 0 0), .lf (.int .i64)], [some ⟨some false, [.full 1, .full 2, .int .i64, .bool, .int .i64]⟩, some ⟨some false, [.seq .str 0]⟩, some ⟨none, [.seq (.pair (.int .i64) .str) 0]⟩]⟩
noncomputable def G102_1_4 (F k : Nat) : LoopS := mkG sh102_1_l4 [0, 3] (outT [(.exit 0, [0])]) (fun d K => f102_1_l4 F d.2.1.2.2.2.1 d.2.1.2.2.2.2.1 d.2.1.2.2.2.2.2.1 d.2.2.2.1.2.1 (fun (y3 : List ByteArray) => K (.exit 0) [.tv (.lf (.ptr 0 0))] [some ⟨false, [.full 1, .full 2, .int .i64 d.2.1.2.2.2.1, .bool d.2.1.2.2.2.2.1, .int .i64 d.2.1.2.2.2.2.2.1]⟩, some ⟨false, [.seq .str 0 y3]⟩, some ⟨d.2.2.2.1.1, [.seq (.pair (.int .i64) .str) 0 d.2.2.2.1.2.1]⟩]) k d.1.2.1 d.2.2.1.2.1) []
noncomputable def LT102_1 (F : Nat) : Nat → Option LoopS := ltab [(4, G102_1_4 F F)]
theorem L102_1_l4g (F k : Nat) (c129_1 : Int → Bool → Int → List ByteArray → List (Int × ByteArray) → (Bool → Int → Bool → Int → Option Res) → Option Res)  (l4 : Int → Bool → Int → List (Int × ByteArray) → (List ByteArray → Option Res) → Nat → Int → List ByteArray → Option Res) (X4 : LoopS) (d : sh102_1_l4.den) (K : KL) : (fun (v6 : Int) (v7 : Bool) (v8 : Int) (v10 : List (Int × ByteArray)) (K0 : (List ByteArray → Option Res)) (k : Nat) (v5 : Int) (v9 : List ByteArray) => cond (decide (v5 < ((v10.length : Nat) : Int))) (cond (decide ((0 : Int) ≤ v5 ∧ v5 < ((v10.length : Nat) : Int))) (cond (decide (0 + v5.toNat < v10.length)) (cond (decide ((0 : Int) ≤ (v10.getD (0 + v5.toNat) (0, ByteArray.empty)).1 ∧ (v10.getD (0 + v5.toNat) (0, ByteArray.empty)).1 < ((v9.length : Nat) : Int))) (cond (decide (0 + (((v10.getD (0 + v5.toNat) (0, ByteArray.empty)).1).toNat) < v9.length)) (l4 v6 v7 v8 v10 K0 k (IntKind.i64.wrap (v5 + 1)) (v9.set (0 + (((v10.getD (0 + v5.toNat) (0, ByteArray.empty)).1).toNat)) ((v10.getD (0 + v5.toNat) (0, ByteArray.empty)).2))) none) none) none) none) (K0 v9)) d.2.1.2.2.2.1 d.2.1.2.2.2.2.1 d.2.1.2.2.2.2.2.1 d.2.2.2.1.2.1 (fun (y3 : List ByteArray) => K (.exit 0) [.tv (.lf (.ptr 0 0))] [some ⟨false, [.full 1, .full 2, .int .i64 d.2.1.2.2.2.1, .bool d.2.1.2.2.2.2.1, .int .i64 d.2.1.2.2.2.2.2.1]⟩, some ⟨false, [.seq .str 0 y3]⟩, some ⟨d.2.2.2.1.1, [.seq (.pair (.int .i64) .str) 0 d.2.2.2.1.2.1]⟩]) k d.1.2.1 d.2.2.1.2.1 = roundOf Try.prog (tab [(129, (mkS sh129_1 (fun d K => c129_1 d.2.1.2.2.2.1 d.2.1.2.2.2.2.1 d.2.1.2.2.2.2.2.1 d.2.2.1.2.1 d.2.2.2.1.2.1 (fun (y0 : Bool) (y1 : Int) (y2 : Bool) (y3 : Int) => K [.lf (.bool y0)] [some ⟨false, [.full 1, .full 2, .int .i64 y1, .bool y2, .int .i64 y3]⟩, some ⟨d.2.2.1.1, [.seq .str 0 d.2.2.1.2.1]⟩, some ⟨d.2.2.2.1.1, [.seq (.pair (.int .i64) .str) 0 d.2.2.2.1.2.1]⟩])) noS))]) (xw []) 42 3 (ltab [(4, X4)]) (mkG sh102_1_l4 [0, 3] (outT [(.exit 0, [0])]) (fun d K => l4 d.2.1.2.2.2.1 d.2.1.2.2.2.2.1 d.2.1.2.2.2.2.2.1 d.2.2.2.1.2.1 (fun (y3 : List ByteArray) => K (.exit 0) [.tv (.lf (.ptr 0 0))] [some ⟨false, [.full 1, .full 2, .int .i64 d.2.1.2.2.2.1, .bool d.2.1.2.2.2.2.1, .int .i64 d.2.1.2.2.2.2.2.1]⟩, some ⟨false, [.seq .str 0 y3]⟩, some ⟨d.2.2.2.1.1, [.seq (.pair (.int .i64) .str) 0 d.2.2.2.1.2.1]⟩]) k d.1.2.1 d.2.2.1.2.1) []) b102_0 (encT sh102_1_l4.vs d.1) (encH sh102_1_l4.h d.2) K := by kernel_rfl
theorem L102_1_4 (F : Nat) : LoopOK Try.prog (T102_1 F) (xw []) 42 3 (LT102_1 F) (G102_1_4 F F) b102_0 :=
  loopOK_of (s := sh102_1_l4) (live := [0, 3]) (out := (outT [(.exit 0, [0])])) (mv := []) (fun k d K => f102_1_l4 F d.2.1.2.2.2.1 d.2.1.2.2.2.2.1 d.2.1.2.2.2.2.2.1 d.2.2.2.1.2.1 (fun (y3 : List ByteArray) => K (.exit 0) [.tv (.lf (.ptr 0 0))] [some ⟨false, [.full 1, .full 2, .int .i64 d.2.1.2.2.2.1, .bool d.2.1.2.2.2.2.1, .int .i64 d.2.1.2.2.2.2.2.1]⟩, some ⟨false, [.seq .str 0 y3]⟩, some ⟨d.2.2.2.1.1, [.seq (.pair (.int .i64) .str) 0 d.2.2.2.1.2.1]⟩]) k d.1.2.1 d.2.2.1.2.1) F (fun d K => by kernel_rfl)  (fun k d K => Eq.mp (by kernel_rfl) (L102_1_l4g F k (f129_1 F)  (f102_1_l4 F) (G102_1_4 F F) d K))
theorem E102_1g (F : Nat) (c129_1 : Int → Bool → Int → List ByteArray → List (Int × ByteArray) → (Bool → Int → Bool → Int → Option Res) → Option Res) (l4 : Int → Bool → Int → List (Int × ByteArray) → (List ByteArray → Option Res) → Nat → Int → List ByteArray → Option Res)  (d : sh102_1.den) (K : KF) : evBody Try.prog (tab [(129, (mkS sh129_1 (fun d K => c129_1 d.2.1.2.2.2.1 d.2.1.2.2.2.2.1 d.2.1.2.2.2.2.2.1 d.2.2.1.2.1 d.2.2.2.1.2.1 (fun (y0 : Bool) (y1 : Int) (y2 : Bool) (y3 : Int) => K [.lf (.bool y0)] [some ⟨false, [.full 1, .full 2, .int .i64 y1, .bool y2, .int .i64 y3]⟩, some ⟨d.2.2.1.1, [.seq .str 0 d.2.2.1.2.1]⟩, some ⟨d.2.2.2.1.1, [.seq (.pair (.int .i64) .str) 0 d.2.2.2.1.2.1]⟩])) noS))]) (xw []) 42 3 (ltab [(4, mkG sh102_1_l4 [0, 3] (outT [(.exit 0, [0])]) (fun d K => l4 d.2.1.2.2.2.1 d.2.1.2.2.2.2.1 d.2.1.2.2.2.2.2.1 d.2.2.2.1.2.1 (fun (y3 : List ByteArray) => K (.exit 0) [.tv (.lf (.ptr 0 0))] [some ⟨false, [.full 1, .full 2, .int .i64 d.2.1.2.2.2.1, .bool d.2.1.2.2.2.2.1, .int .i64 d.2.1.2.2.2.2.2.1]⟩, some ⟨false, [.seq .str 0 y3]⟩, some ⟨d.2.2.2.1.1, [.seq (.pair (.int .i64) .str) 0 d.2.2.2.1.2.1]⟩]) F d.1.2.1 d.2.2.1.2.1) [])]) code102 Try.f102.results.toList (encT sh102_1.vs d.1) (encH sh102_1.h d.2) K = (fun (a1 : Int) (a2 : Bool) (a3 : Int) (a4 : List ByteArray) (a5 : List (Int × ByteArray)) (K0 : (Int → Bool → Int → Option Res)) (K1 : (Int → Bool → Int → List ByteArray → List (Int × ByteArray) → Option Res)) => cond a2 (K0 a1 a2 a3) (c129_1 a1 a2 a3 a4 a5 (fun x1 x2 x3 x4 => cond (!x1) (K0 x2 x3 x4) (l4 x2 x3 x4 a5 (fun x11 => K1 x2 x3 x4 x11 []) F 0 a4)) )) d.2.1.2.2.2.1 d.2.1.2.2.2.2.1 d.2.1.2.2.2.2.2.1 d.2.2.1.2.1 d.2.2.2.1.2.1 (fun (y1 : Int) (y2 : Bool) (y3 : Int) => K [.lf (.int .i64 5)] [some ⟨false, [.full 1, .full 2, .int .i64 y1, .bool y2, .int .i64 y3]⟩, some ⟨false, [.seq .str 0 d.2.2.1.2.1]⟩, some ⟨d.2.2.2.1.1, [.seq (.pair (.int .i64) .str) 0 d.2.2.2.1.2.1]⟩]) (fun (y1 : Int) (y2 : Bool) (y3 : Int) (y4 : List ByteArray) (y6 : List (Int × ByteArray)) => K [.lf (.int .i64 0)] [some ⟨false, [.full 1, .full 3, .int .i64 y1, .bool y2, .int .i64 y3]⟩, some ⟨false, [.seq .str 0 y4]⟩, some ⟨d.2.2.2.1.1, [.seq (.pair (.int .i64) .str) 0 d.2.2.2.1.2.1]⟩, some ⟨false, [.seq (.pair (.int .i64) .str) 0 y6]⟩]) := by kernel_rfl
theorem E102_1 (F : Nat) (d : sh102_1.den) (K : KF) : evBody Try.prog (T102_1 F) (xw []) 42 3 (LT102_1 F) code102 Try.f102.results.toList (encT sh102_1.vs d.1) (encH sh102_1.h d.2) K = f102_1 F d.2.1.2.2.2.1 d.2.1.2.2.2.2.1 d.2.1.2.2.2.2.2.1 d.2.2.1.2.1 d.2.2.2.1.2.1 (fun (y1 : Int) (y2 : Bool) (y3 : Int) => K [.lf (.int .i64 5)] [some ⟨false, [.full 1, .full 2, .int .i64 y1, .bool y2, .int .i64 y3]⟩, some ⟨false, [.seq .str 0 d.2.2.1.2.1]⟩, some ⟨d.2.2.2.1.1, [.seq (.pair (.int .i64) .str) 0 d.2.2.2.1.2.1]⟩]) (fun (y1 : Int) (y2 : Bool) (y3 : Int) (y4 : List ByteArray) (y6 : List (Int × ByteArray)) => K [.lf (.int .i64 0)] [some ⟨false, [.full 1, .full 3, .int .i64 y1, .bool y2, .int .i64 y3]⟩, some ⟨false, [.seq .str 0 y4]⟩, some ⟨d.2.2.2.1.1, [.seq (.pair (.int .i64) .str) 0 d.2.2.2.1.2.1]⟩, some ⟨false, [.seq (.pair (.int .i64) .str) 0 y6]⟩]) := Eq.mp (by kernel_rfl) (E102_1g F (f129_1 F) (f102_1_l4 F)  d K)
theorem S102_1_ok (F : Nat) (o : Summ) (ho : SoundFn Try.prog 102 o) : SoundFn Try.prog 102 (S102_1 F o) :=
  soundFn_of (fn := Try.f102) (c := code102) rfl rfl (by kernel_rfl) (tab_cons (S129_1_ok F _ (noS_sound enter129)) tab_nil) (by kernel_rfl) (by kernel_rfl) ho (by rw [loops102]; exact (loopsOK_cons (by kernel_rfl) (L102_1_4 F) loopsOK_nil)) (by rw [scopes102]; exact scopesOK_nil) (by rw [ranges102]; exact rangesOK_nil) (E102_1 F)
end Go.Proofs.Ytjlolgpbidfmeaa.X
end

section
namespace Go.Proofs.Ytjlolgpbidfmeaa.X
open Go Go.Proofs.Ytjlolgpbidfmeaa.Ev Go.Proofs
set_option linter.unusedVariables false
set_option linter.unusedSectionVars false
/-! pentimentoref06.Disk).Fuse -/
noncomputable def f103_1 {β : Type} (F : Nat) (a1 : Int) (a2 : Int) (a3 : Bool) (a4 : Int) (a5 : List ByteArray) (a6 : List (Int × ByteArray)) (K0 : Int → Option β) : Option β := K0 (if (-1) > a1 then (-1) else a1)
variable [FZ]
def sh103_1 : Sh := ⟨[.lf (.ptr 0 0), .lf (.int .i64)], [some ⟨some false, [.full 1, .full 2, .int .i64, .bool, .int .i64]⟩, some ⟨none, [.seq .str 0]⟩, some ⟨none, [.seq (.pair (.int .i64) .str) 0]⟩]⟩
noncomputable def S103_1 (F : Nat) (o : Summ) : Summ := mkS sh103_1 (fun d K => f103_1 F d.1.2.1 d.2.1.2.2.2.1 d.2.1.2.2.2.2.1 d.2.1.2.2.2.2.2.1 d.2.2.1.2.1 d.2.2.2.1.2.1 (fun (y0 : Int) => K [] [some ⟨false, [.full 1, .full 2, .int .i64 y0, .bool d.2.1.2.2.2.2.1, .int .i64 d.2.1.2.2.2.2.2.1]⟩, some ⟨d.2.2.1.1, [.seq .str 0 d.2.2.1.2.1]⟩, some ⟨d.2.2.2.1.1, [.seq (.pair (.int .i64) .str) 0 d.2.2.2.1.2.1]⟩])) o
noncomputable def code103 : Code := bodyOf Try.f103
theorem scopes103 : scopesOf code103 = [] := by kernel_rfl
theorem ranges103 : rangesOf code103 = [] := by kernel_rfl
theorem loops103 : loopsOf code103 = [] := by kernel_rfl
theorem enter103 : ∀ args w, (callFunc 103 args).run Try.prog w = .ok (.enter 103 args) w := enter_of (fn := Try.f103) (by kernel_rfl) (by kernel_rfl) (by kernel_rfl)
noncomputable def T103_1 (F : Nat) : FuncId → Option Summ := tab []
noncomputable def LT103_1 (F : Nat) : Nat → Option LoopS := ltab []
theorem E103_1g (F : Nat)    (d : sh103_1.den) (K : KF) : evBody Try.prog (tab []) (xw []) 9 3 (ltab []) code103 Try.f103.results.toList (encT sh103_1.vs d.1) (encH sh103_1.h d.2) K = (fun (a1 : Int) (a2 : Int) (a3 : Bool) (a4 : Int) (a5 : List ByteArray) (a6 : List (Int × ByteArray)) (K0 : (Int → Option Res)) => K0 (if (-1) > a1 then (-1) else a1)) d.1.2.1 d.2.1.2.2.2.1 d.2.1.2.2.2.2.1 d.2.1.2.2.2.2.2.1 d.2.2.1.2.1 d.2.2.2.1.2.1 (fun (y0 : Int) => K [] [some ⟨false, [.full 1, .full 2, .int .i64 y0, .bool d.2.1.2.2.2.2.1, .int .i64 d.2.1.2.2.2.2.2.1]⟩, some ⟨d.2.2.1.1, [.seq .str 0 d.2.2.1.2.1]⟩, some ⟨d.2.2.2.1.1, [.seq (.pair (.int .i64) .str) 0 d.2.2.2.1.2.1]⟩]) := by kernel_rfl
theorem E103_1 (F : Nat) (d : sh103_1.den) (K : KF) : evBody Try.prog (T103_1 F) (xw []) 9 3 (LT103_1 F) code103 Try.f103.results.toList (encT sh103_1.vs d.1) (encH sh103_1.h d.2) K = f103_1 F d.1.2.1 d.2.1.2.2.2.1 d.2.1.2.2.2.2.1 d.2.1.2.2.2.2.2.1 d.2.2.1.2.1 d.2.2.2.1.2.1 (fun (y0 : Int) => K [] [some ⟨false, [.full 1, .full 2, .int .i64 y0, .bool d.2.1.2.2.2.2.1, .int .i64 d.2.1.2.2.2.2.2.1]⟩, some ⟨d.2.2.1.1, [.seq .str 0 d.2.2.1.2.1]⟩, some ⟨d.2.2.2.1.1, [.seq (.pair (.int .i64) .str) 0 d.2.2.2.1.2.1]⟩]) := Eq.mp (by kernel_rfl) (E103_1g F    d K)
theorem S103_1_ok (F : Nat) (o : Summ) (ho : SoundFn Try.prog 103 o) : SoundFn Try.prog 103 (S103_1 F o) :=
  soundFn_of (fn := Try.f103) (c := code103) rfl rfl (by kernel_rfl) tab_nil (by kernel_rfl) (by kernel_rfl) ho (by rw [loops103]; exact loopsOK_nil) (by rw [scopes103]; exact scopesOK_nil) (by rw [ranges103]; exact rangesOK_nil) (E103_1 F)
end Go.Proofs.Ytjlolgpbidfmeaa.X
end

section
namespace Go.Proofs.Ytjlolgpbidfmeaa.X
open Go Go.Proofs.Ytjlolgpbidfmeaa.Ev Go.Proofs
set_option linter.unusedVariables false
set_option linter.unusedSectionVars false
/-! pentimentoref06.Disk).Crash -/
noncomputable def f104_1_l1 {β : Type} (F : Nat) (v2 : Int) (v3 : Bool) (v4 : Int) (v6 : List (Int × ByteArray)) (v7 : List Bool) (K0 : List ByteArray → Option β) : Nat → Int → List ByteArray → Option β
  | 0, _, _ => none
  | k + 1, v1, v5 => cond (decide (v1 < ((v6.length : Nat) : Int))) (cond (decide (v1 < ((v7.length : Nat) : Int))) (cond (decide ((0 : Int) ≤ v1 ∧ v1 < ((v6.length : Nat) : Int))) (cond (decide (0 + v1.toNat < v6.length)) (cond (decide ((0 : Int) ≤ v1 ∧ v1 < ((v7.length : Nat) : Int))) (cond (decide (0 + v1.toNat < v7.length)) (cond (v7.getD (0 + v1.toNat) false) (cond (decide ((0 : Int) ≤ (v6.getD (0 + v1.toNat) (0, ByteArray.empty)).1 ∧ (v6.getD (0 + v1.toNat) (0, ByteArray.empty)).1 < ((v5.length : Nat) : Int))) (cond (decide (0 + (((v6.getD (0 + v1.toNat) (0, ByteArray.empty)).1).toNat) < v5.length)) (f104_1_l1 F v2 v3 v4 v6 v7 K0 k (IntKind.i64.wrap (v1 + 1)) (v5.set (0 + (((v6.getD (0 + v1.toNat) (0, ByteArray.empty)).1).toNat)) ((v6.getD (0 + v1.toNat) (0, ByteArray.empty)).2))) none) none) (f104_1_l1 F v2 v3 v4 v6 v7 K0 k (IntKind.i64.wrap (v1 + 1)) v5)) none) none) none) none) (K0 v5)) (K0 v5)
noncomputable def f104_1 {β : Type} (F : Nat) (a1 : Int) (a2 : Bool) (a3 : Int) (a4 : List ByteArray) (a5 : List (Int × ByteArray)) (a6 : List Bool) (K0 : List ByteArray → List (Int × ByteArray) → Option β) : Option β := f104_1_l1 F a1 a2 a3 a5 a6 (fun x8 => K0 x8 []) F 0 a4
variable [FZ]
def sh104_1 : Sh := ⟨[.lf (.ptr 0 0), .lf (.full 3)], [some ⟨some false, [.full 1, .full 2, .int .i64, .bool, .int .i64]⟩, some ⟨some false, [.seq .str 0]⟩, some ⟨none, [.seq (.pair (.int .i64) .str) 0]⟩, some ⟨none, [.seq .bool 0]⟩]⟩
noncomputable def S104_1 (F : Nat) (o : Summ) : Summ := mkS sh104_1 (fun d K => f104_1 F d.2.1.2.2.2.1 d.2.1.2.2.2.2.1 d.2.1.2.2.2.2.2.1 d.2.2.1.2.1 d.2.2.2.1.2.1 d.2.2.2.2.1.2.1 (fun (y3 : List ByteArray) (y6 : List (Int × ByteArray)) => K [] [some ⟨false, [.full 1, .full 4, .int .i64 (-1), .bool true, .int .i64 d.2.1.2.2.2.2.2.1]⟩, some ⟨false, [.seq .str 0 y3]⟩, some ⟨d.2.2.2.1.1, [.seq (.pair (.int .i64) .str) 0 d.2.2.2.1.2.1]⟩, some ⟨d.2.2.2.2.1.1, [.seq .bool 0 d.2.2.2.2.1.2.1]⟩, some ⟨false, [.seq (.pair (.int .i64) .str) 0 y6]⟩])) o
noncomputable def code104 : Code := bodyOf Try.f104
noncomputable def b104_0 : Code := cB (cB (cR (cL (code104))))
theorem scopes104 : scopesOf code104 = [] := by kernel_rfl
theorem ranges104 : rangesOf code104 = [] := by kernel_rfl
theorem loops104 : loopsOf code104 = [b104_0] := by kernel_rfl
theorem enter104 : ∀ args w, (callFunc 104 args).run Try.prog w = .ok (.enter 104 args) w := enter_of (fn := Try.f104) (by kernel_rfl) (by kernel_rfl) (by kernel_rfl)
noncomputable def T104_1 (F : Nat) : FuncId → Option Summ := tab []
def sh104_1_l1 : Sh := ⟨[.lf (.ptr 0 0), .lf (.full 3), .lf (.int .i64)], [some ⟨some false, [.full 1, .full 2, .int .i64, .bool, .int .i64]⟩, some ⟨some false, [.seq .str 0]⟩, some ⟨none, [.seq (.pair (.int .i64) .str) 0]⟩, some ⟨none, [.seq .bool 0]⟩]⟩
noncomputable def G104_1_1 (F k : Nat) : LoopS := mkG sh104_1_l1 [0, 1, 4] (outT [(.exit 0, [0])]) (fun d K => f104_1_l1 F d.2.1.2.2.2.1 d.2.1.2.2.2.2.1 d.2.1.2.2.2.2.2.1 d.2.2.2.1.2.1 d.2.2.2.2.1.2.1 (fun (y3 : List ByteArray) => K (.exit 0) [.tv (.lf (.ptr 0 0))] [some ⟨false, [.full 1, .full 2, .int .i64 d.2.1.2.2.2.1, .bool d.2.1.2.2.2.2.1, .int .i64 d.2.1.2.2.2.2.2.1]⟩, some ⟨false, [.seq .str 0 y3]⟩, some ⟨d.2.2.2.1.1, [.seq (.pair (.int .i64) .str) 0 d.2.2.2.1.2.1]⟩, some ⟨d.2.2.2.2.1.1, [.seq .bool 0 d.2.2.2.2.1.2.1]⟩]) k d.1.2.2.1 d.2.2.1.2.1) []
noncomputable def LT104_1 (F : Nat) : Nat → Option LoopS := ltab [(1, G104_1_1 F F)]
theorem L104_1_l1g (F k : Nat)   (l1 : Int → Bool → Int → List (Int × ByteArray) → List Bool → (List ByteArray → Option Res) → Nat → Int → List ByteArray → Option Res) (X1 : LoopS) (d : sh104_1_l1.den) (K : KL) : (fun (v2 : Int) (v3 : Bool) (v4 : Int) (v6 : List (Int × ByteArray)) (v7 : List Bool) (K0 : (List ByteArray → Option Res)) (k : Nat) (v1 : Int) (v5 : List ByteArray) => cond (decide (v1 < ((v6.length : Nat) : Int))) (cond (decide (v1 < ((v7.length : Nat) : Int))) (cond (decide ((0 : Int) ≤ v1 ∧ v1 < ((v6.length : Nat) : Int))) (cond (decide (0 + v1.toNat < v6.length)) (cond (decide ((0 : Int) ≤ v1 ∧ v1 < ((v7.length : Nat) : Int))) (cond (decide (0 + v1.toNat < v7.length)) (cond (v7.getD (0 + v1.toNat) false) (cond (decide ((0 : Int) ≤ (v6.getD (0 + v1.toNat) (0, ByteArray.empty)).1 ∧ (v6.getD (0 + v1.toNat) (0, ByteArray.empty)).1 < ((v5.length : Nat) : Int))) (cond (decide (0 + (((v6.getD (0 + v1.toNat) (0, ByteArray.empty)).1).toNat) < v5.length)) (l1 v2 v3 v4 v6 v7 K0 k (IntKind.i64.wrap (v1 + 1)) (v5.set (0 + (((v6.getD (0 + v1.toNat) (0, ByteArray.empty)).1).toNat)) ((v6.getD (0 + v1.toNat) (0, ByteArray.empty)).2))) none) none) (l1 v2 v3 v4 v6 v7 K0 k (IntKind.i64.wrap (v1 + 1)) v5)) none) none) none) none) (K0 v5)) (K0 v5)) d.2.1.2.2.2.1 d.2.1.2.2.2.2.1 d.2.1.2.2.2.2.2.1 d.2.2.2.1.2.1 d.2.2.2.2.1.2.1 (fun (y3 : List ByteArray) => K (.exit 0) [.tv (.lf (.ptr 0 0))] [some ⟨false, [.full 1, .full 2, .int .i64 d.2.1.2.2.2.1, .bool d.2.1.2.2.2.2.1, .int .i64 d.2.1.2.2.2.2.2.1]⟩, some ⟨false, [.seq .str 0 y3]⟩, some ⟨d.2.2.2.1.1, [.seq (.pair (.int .i64) .str) 0 d.2.2.2.1.2.1]⟩, some ⟨d.2.2.2.2.1.1, [.seq .bool 0 d.2.2.2.2.1.2.1]⟩]) k d.1.2.2.1 d.2.2.1.2.1 = roundOf Try.prog (tab []) (xw []) 50 4 (ltab [(1, X1)]) (mkG sh104_1_l1 [0, 1, 4] (outT [(.exit 0, [0])]) (fun d K => l1 d.2.1.2.2.2.1 d.2.1.2.2.2.2.1 d.2.1.2.2.2.2.2.1 d.2.2.2.1.2.1 d.2.2.2.2.1.2.1 (fun (y3 : List ByteArray) => K (.exit 0) [.tv (.lf (.ptr 0 0))] [some ⟨false, [.full 1, .full 2, .int .i64 d.2.1.2.2.2.1, .bool d.2.1.2.2.2.2.1, .int .i64 d.2.1.2.2.2.2.2.1]⟩, some ⟨false, [.seq .str 0 y3]⟩, some ⟨d.2.2.2.1.1, [.seq (.pair (.int .i64) .str) 0 d.2.2.2.1.2.1]⟩, some ⟨d.2.2.2.2.1.1, [.seq .bool 0 d.2.2.2.2.1.2.1]⟩]) k d.1.2.2.1 d.2.2.1.2.1) []) b104_0 (encT sh104_1_l1.vs d.1) (encH sh104_1_l1.h d.2) K := by kernel_rfl
theorem L104_1_1 (F : Nat) : LoopOK Try.prog (T104_1 F) (xw []) 50 4 (LT104_1 F) (G104_1_1 F F) b104_0 :=
  loopOK_of (s := sh104_1_l1) (live := [0, 1, 4]) (out := (outT [(.exit 0, [0])])) (mv := []) (fun k d K => f104_1_l1 F d.2.1.2.2.2.1 d.2.1.2.2.2.2.1 d.2.1.2.2.2.2.2.1 d.2.2.2.1.2.1 d.2.2.2.2.1.2.1 (fun (y3 : List ByteArray) => K (.exit 0) [.tv (.lf (.ptr 0 0))] [some ⟨false, [.full 1, .full 2, .int .i64 d.2.1.2.2.2.1, .bool d.2.1.2.2.2.2.1, .int .i64 d.2.1.2.2.2.2.2.1]⟩, some ⟨false, [.seq .str 0 y3]⟩, some ⟨d.2.2.2.1.1, [.seq (.pair (.int .i64) .str) 0 d.2.2.2.1.2.1]⟩, some ⟨d.2.2.2.2.1.1, [.seq .bool 0 d.2.2.2.2.1.2.1]⟩]) k d.1.2.2.1 d.2.2.1.2.1) F (fun d K => by kernel_rfl)  (fun k d K => Eq.mp (by kernel_rfl) (L104_1_l1g F k   (f104_1_l1 F) (G104_1_1 F F) d K))
theorem E104_1g (F : Nat)  (l1 : Int → Bool → Int → List (Int × ByteArray) → List Bool → (List ByteArray → Option Res) → Nat → Int → List ByteArray → Option Res)  (d : sh104_1.den) (K : KF) : evBody Try.prog (tab []) (xw []) 50 4 (ltab [(1, mkG sh104_1_l1 [0, 1, 4] (outT [(.exit 0, [0])]) (fun d K => l1 d.2.1.2.2.2.1 d.2.1.2.2.2.2.1 d.2.1.2.2.2.2.2.1 d.2.2.2.1.2.1 d.2.2.2.2.1.2.1 (fun (y3 : List ByteArray) => K (.exit 0) [.tv (.lf (.ptr 0 0))] [some ⟨false, [.full 1, .full 2, .int .i64 d.2.1.2.2.2.1, .bool d.2.1.2.2.2.2.1, .int .i64 d.2.1.2.2.2.2.2.1]⟩, some ⟨false, [.seq .str 0 y3]⟩, some ⟨d.2.2.2.1.1, [.seq (.pair (.int .i64) .str) 0 d.2.2.2.1.2.1]⟩, some ⟨d.2.2.2.2.1.1, [.seq .bool 0 d.2.2.2.2.1.2.1]⟩]) F d.1.2.2.1 d.2.2.1.2.1) [])]) code104 Try.f104.results.toList (encT sh104_1.vs d.1) (encH sh104_1.h d.2) K = (fun (a1 : Int) (a2 : Bool) (a3 : Int) (a4 : List ByteArray) (a5 : List (Int × ByteArray)) (a6 : List Bool) (K0 : (List ByteArray → List (Int × ByteArray) → Option Res)) => l1 a1 a2 a3 a5 a6 (fun x8 => K0 x8 []) F 0 a4) d.2.1.2.2.2.1 d.2.1.2.2.2.2.1 d.2.1.2.2.2.2.2.1 d.2.2.1.2.1 d.2.2.2.1.2.1 d.2.2.2.2.1.2.1 (fun (y3 : List ByteArray) (y6 : List (Int × ByteArray)) => K [] [some ⟨false, [.full 1, .full 4, .int .i64 (-1), .bool true, .int .i64 d.2.1.2.2.2.2.2.1]⟩, some ⟨false, [.seq .str 0 y3]⟩, some ⟨d.2.2.2.1.1, [.seq (.pair (.int .i64) .str) 0 d.2.2.2.1.2.1]⟩, some ⟨d.2.2.2.2.1.1, [.seq .bool 0 d.2.2.2.2.1.2.1]⟩, some ⟨false, [.seq (.pair (.int .i64) .str) 0 y6]⟩]) := by kernel_rfl
theorem E104_1 (F : Nat) (d : sh104_1.den) (K : KF) : evBody Try.prog (T104_1 F) (xw []) 50 4 (LT104_1 F) code104 Try.f104.results.toList (encT sh104_1.vs d.1) (encH sh104_1.h d.2) K = f104_1 F d.2.1.2.2.2.1 d.2.1.2.2.2.2.1 d.2.1.2.2.2.2.2.1 d.2.2.1.2.1 d.2.2.2.1.2.1 d.2.2.2.2.1.2.1 (fun (y3 : List ByteArray) (y6 : List (Int × ByteArray)) => K [] [some ⟨false, [.full 1, .full 4, .int .i64 (-1), .bool true, .int .i64 d.2.1.2.2.2.2.2.1]⟩, some ⟨false, [.seq .str 0 y3]⟩, some ⟨d.2.2.2.1.1, [.seq (.pair (.int .i64) .str) 0 d.2.2.2.1.2.1]⟩, some ⟨d.2.2.2.2.1.1, [.seq .bool 0 d.2.2.2.2.1.2.1]⟩, some ⟨false, [.seq (.pair (.int .i64) .str) 0 y6]⟩]) := Eq.mp (by kernel_rfl) (E104_1g F  (f104_1_l1 F)  d K)
theorem S104_1_ok (F : Nat) (o : Summ) (ho : SoundFn Try.prog 104 o) : SoundFn Try.prog 104 (S104_1 F o) :=
  soundFn_of (fn := Try.f104) (c := code104) rfl rfl (by kernel_rfl) tab_nil (by kernel_rfl) (by kernel_rfl) ho (by rw [loops104]; exact (loopsOK_cons (by kernel_rfl) (L104_1_1 F) loopsOK_nil)) (by rw [scopes104]; exact scopesOK_nil) (by rw [ranges104]; exact rangesOK_nil) (E104_1 F)
end Go.Proofs.Ytjlolgpbidfmeaa.X
end

section
namespace Go.Proofs.Ytjlolgpbidfmeaa.X
open Go Go.Proofs.Ytjlolgpbidfmeaa.Ev Go.Proofs
set_option linter.unusedVariables false
set_option linter.unusedSectionVars false
/-! pentimentoref06.Disk).Up -/
noncomputable def f105_1 {β : Type} (F : Nat) (a1 : Int) (a2 : Bool) (a3 : Int) (a4 : List ByteArray) (a5 : List (Int × ByteArray)) (K0 : Option β) (K1 : List (Int × ByteArray) → Option β) : Option β := cond (!a2) (K0) (K1 [])
variable [FZ]
def sh105_1 : Sh := ⟨[.lf (.ptr 0 0)], [some ⟨some false, [.full 1, .full 2, .int .i64, .bool, .int .i64]⟩, some ⟨none, [.seq .str 0]⟩, some ⟨none, [.seq (.pair (.int .i64) .str) 0]⟩]⟩
noncomputable def S105_1 (F : Nat) (o : Summ) : Summ := mkS sh105_1 (fun d K => f105_1 F d.2.1.2.2.2.1 d.2.1.2.2.2.2.1 d.2.1.2.2.2.2.2.1 d.2.2.1.2.1 d.2.2.2.1.2.1 (K [.lf (.int .i64 21)] [some ⟨false, [.full 1, .full 2, .int .i64 d.2.1.2.2.2.1, .bool d.2.1.2.2.2.2.1, .int .i64 d.2.1.2.2.2.2.2.1]⟩, some ⟨d.2.2.1.1, [.seq .str 0 d.2.2.1.2.1]⟩, some ⟨d.2.2.2.1.1, [.seq (.pair (.int .i64) .str) 0 d.2.2.2.1.2.1]⟩]) (fun (y6 : List (Int × ByteArray)) => K [.lf (.int .i64 0)] [some ⟨false, [.full 1, .full 3, .int .i64 (-1), .bool false, .int .i64 d.2.1.2.2.2.2.2.1]⟩, some ⟨d.2.2.1.1, [.seq .str 0 d.2.2.1.2.1]⟩, some ⟨d.2.2.2.1.1, [.seq (.pair (.int .i64) .str) 0 d.2.2.2.1.2.1]⟩, some ⟨false, [.seq (.pair (.int .i64) .str) 0 y6]⟩])) o
noncomputable def code105 : Code := bodyOf Try.f105
theorem scopes105 : scopesOf code105 = [] := by kernel_rfl
theorem ranges105 : rangesOf code105 = [] := by kernel_rfl
theorem loops105 : loopsOf code105 = [] := by kernel_rfl
theorem enter105 : ∀ args w, (callFunc 105 args).run Try.prog w = .ok (.enter 105 args) w := enter_of (fn := Try.f105) (by kernel_rfl) (by kernel_rfl) (by kernel_rfl)
noncomputable def T105_1 (F : Nat) : FuncId → Option Summ := tab []
noncomputable def LT105_1 (F : Nat) : Nat → Option LoopS := ltab []
theorem E105_1g (F : Nat)    (d : sh105_1.den) (K : KF) : evBody Try.prog (tab []) (xw []) 17 3 (ltab []) code105 Try.f105.results.toList (encT sh105_1.vs d.1) (encH sh105_1.h d.2) K = (fun (a1 : Int) (a2 : Bool) (a3 : Int) (a4 : List ByteArray) (a5 : List (Int × ByteArray)) (K0 : (Option Res)) (K1 : (List (Int × ByteArray) → Option Res)) => cond (!a2) (K0) (K1 [])) d.2.1.2.2.2.1 d.2.1.2.2.2.2.1 d.2.1.2.2.2.2.2.1 d.2.2.1.2.1 d.2.2.2.1.2.1 (K [.lf (.int .i64 21)] [some ⟨false, [.full 1, .full 2, .int .i64 d.2.1.2.2.2.1, .bool d.2.1.2.2.2.2.1, .int .i64 d.2.1.2.2.2.2.2.1]⟩, some ⟨d.2.2.1.1, [.seq .str 0 d.2.2.1.2.1]⟩, some ⟨d.2.2.2.1.1, [.seq (.pair (.int .i64) .str) 0 d.2.2.2.1.2.1]⟩]) (fun (y6 : List (Int × ByteArray)) => K [.lf (.int .i64 0)] [some ⟨false, [.full 1, .full 3, .int .i64 (-1), .bool false, .int .i64 d.2.1.2.2.2.2.2.1]⟩, some ⟨d.2.2.1.1, [.seq .str 0 d.2.2.1.2.1]⟩, some ⟨d.2.2.2.1.1, [.seq (.pair (.int .i64) .str) 0 d.2.2.2.1.2.1]⟩, some ⟨false, [.seq (.pair (.int .i64) .str) 0 y6]⟩]) := by kernel_rfl
theorem E105_1 (F : Nat) (d : sh105_1.den) (K : KF) : evBody Try.prog (T105_1 F) (xw []) 17 3 (LT105_1 F) code105 Try.f105.results.toList (encT sh105_1.vs d.1) (encH sh105_1.h d.2) K = f105_1 F d.2.1.2.2.2.1 d.2.1.2.2.2.2.1 d.2.1.2.2.2.2.2.1 d.2.2.1.2.1 d.2.2.2.1.2.1 (K [.lf (.int .i64 21)] [some ⟨false, [.full 1, .full 2, .int .i64 d.2.1.2.2.2.1, .bool d.2.1.2.2.2.2.1, .int .i64 d.2.1.2.2.2.2.2.1]⟩, some ⟨d.2.2.1.1, [.seq .str 0 d.2.2.1.2.1]⟩, some ⟨d.2.2.2.1.1, [.seq (.pair (.int .i64) .str) 0 d.2.2.2.1.2.1]⟩]) (fun (y6 : List (Int × ByteArray)) => K [.lf (.int .i64 0)] [some ⟨false, [.full 1, .full 3, .int .i64 (-1), .bool false, .int .i64 d.2.1.2.2.2.2.2.1]⟩, some ⟨d.2.2.1.1, [.seq .str 0 d.2.2.1.2.1]⟩, some ⟨d.2.2.2.1.1, [.seq (.pair (.int .i64) .str) 0 d.2.2.2.1.2.1]⟩, some ⟨false, [.seq (.pair (.int .i64) .str) 0 y6]⟩]) := Eq.mp (by kernel_rfl) (E105_1g F    d K)
theorem S105_1_ok (F : Nat) (o : Summ) (ho : SoundFn Try.prog 105 o) : SoundFn Try.prog 105 (S105_1 F o) :=
  soundFn_of (fn := Try.f105) (c := code105) rfl rfl (by kernel_rfl) tab_nil (by kernel_rfl) (by kernel_rfl) ho (by rw [loops105]; exact loopsOK_nil) (by rw [scopes105]; exact scopesOK_nil) (by rw [ranges105]; exact rangesOK_nil) (E105_1 F)
end Go.Proofs.Ytjlolgpbidfmeaa.X
end
