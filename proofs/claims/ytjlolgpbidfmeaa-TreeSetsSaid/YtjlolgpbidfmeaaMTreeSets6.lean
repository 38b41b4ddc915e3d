/- Merged: EvF92, EvF38, EvF21, EvF35, TreeB, EvF37, GeoI, EvF44, EvF45, EvF93, EvF94, EvF95, EvF39, TreeC, EvF36, TreeD, TreeE, TreeF, EvF126, EvF97. -/
import Derived.Test.YtjlolgpbidfmeaaMTreeSets2
import Derived.Test.YtjlolgpbidfmeaaProg
import Derived.KernelRfl
import Derived.Test.YtjlolgpbidfmeaaMTreeSets3
import Derived.Test.YtjlolgpbidfmeaaMTreeSets5
import Derived.Test.YtjlolgpbidfmeaaMTreeSets4
section
namespace Go.Proofs.Ytjlolgpbidfmeaa.X
open Go Go.Proofs.Ytjlolgpbidfmeaa.Ev Go.Proofs
set_option linter.unusedVariables false
/-! pentimentoref12.Above -/
noncomputable def f92_1_l4 {β : Type} (F : Nat) (v3 : List ByteArray) (v5 : List Int) (K0 : List ByteArray → Option β) : Nat → Int → List ByteArray → Option β
  | 0, _, _ => none
  | k + 1, v2, v4 => cond (decide (v2 < ((v5.length : Nat) : Int))) (cond (decide ((0 : Int) ≤ v2 ∧ v2 < ((v5.length : Nat) : Int))) (cond (decide (0 + v2.toNat < v5.length)) (cond (decide ((0 : Int) ≤ v5.getD (0 + v2.toNat) 0 ∧ v5.getD (0 + v2.toNat) 0 < ((v3.length : Nat) : Int))) (cond (decide (0 + ((v5.getD (0 + v2.toNat) 0).toNat) < v3.length)) (cond (decide ((v4.length + 1) * 16 ≤ 70368744177664)) (f92_1_l4 F v3 v5 K0 k (IntKind.i64.wrap (v2 + 1)) (v4 ++ [v3.getD (0 + ((v5.getD (0 + v2.toNat) 0).toNat)) ByteArray.empty])) none) none) none) none) none) (K0 v4)
noncomputable def f92_1 {β : Type} (F : Nat) (a1 : Int) (a2 : Int) (a3 : Int) (a4 : Int) (a5 : Int) (a6 : List ByteArray) (K0 : ByteArray → Option β) : Option β := f85_1 F a1 a2 a3 a4 a5 (fun x1 => f92_1_l4 F a6 x1 (fun x6 => f19_1 F x6 (fun x7 => K0 x7) ) F 0 []) 
def sh92_1 : Sh := ⟨[.agg [.int .i64, .int .i64, .int .i64, .int .i64], .lf (.full 0), .lf (.int .i64)], [some ⟨none, [.seq .str 0]⟩]⟩
noncomputable def S92_1 (F : Nat) (o : Summ) : Summ := mkS sh92_1 (fun d K => f92_1 F d.1.1.1 d.1.1.2.1 d.1.1.2.2.1 d.1.1.2.2.2.1 d.1.2.2.1 d.2.1.2.1 (fun (y0 : ByteArray) => K [.lf (.str y0)] [some ⟨d.2.1.1, [.seq .str 0 d.2.1.2.1]⟩])) o
noncomputable def code92 : Code := bodyOf Try.f92
noncomputable def b92_0 : Code := cB (cB (cR (cL (cR (cR (cR (code92)))))))
theorem scopes92 : scopesOf code92 = [] := by kernel_rfl
theorem loops92 : loopsOf code92 = [b92_0] := by kernel_rfl
theorem enter92 : ∀ args w, (callFunc 92 args).run Try.prog w = .ok (.enter 92 args) w := enter_of (fn := Try.f92) (by kernel_rfl) (by kernel_rfl) (by kernel_rfl)
noncomputable def T92_1 (F : Nat) : FuncId → Option Summ := tab [(19, (S19_1 F noS)), (85, (S85_1 F noS))]
def sh92_1_l4 : Sh := ⟨[.lf (.full 0), .lf (.full 1), .lf (.full 2), .lf (.int .i64)], [some ⟨none, [.seq .str 0]⟩, some ⟨some false, [.seq .str 0]⟩, some ⟨some false, [.seq (.int .i64) 0]⟩]⟩
noncomputable def G92_1_4 (F k : Nat) : LoopS := mkG sh92_1_l4 [1, 7, 8, 9] (outT [(.exit 0, [7])]) (fun d K => f92_1_l4 F d.2.1.2.1 d.2.2.2.1.2.1 (fun (y1 : List ByteArray) => K (.exit 0) [.tv (.lf (.full 1))] [some ⟨d.2.1.1, [.seq .str 0 d.2.1.2.1]⟩, some ⟨false, [.seq .str 0 y1]⟩, some ⟨false, [.seq (.int .i64) 0 d.2.2.2.1.2.1]⟩]) k d.1.2.2.2.1 d.2.2.1.2.1)
noncomputable def LT92_1 (F : Nat) : Nat → Option LoopS := ltab [(4, G92_1_4 F F)]
theorem L92_1_4g (F k : Nat) (c19_1 : List ByteArray → (ByteArray → Option Res) → Option Res) (c85_1 : Int → Int → Int → Int → Int → (List Int → Option Res) → Option Res)  (l4 : List ByteArray → List Int → (List ByteArray → Option Res) → Nat → Int → List ByteArray → Option Res) (X4 : LoopS) (d : sh92_1_l4.den) (K : KL) : (fun (v3 : List ByteArray) (v5 : List Int) (K0 : (List ByteArray → Option Res)) (k : Nat) (v2 : Int) (v4 : List ByteArray) => cond (decide (v2 < ((v5.length : Nat) : Int))) (cond (decide ((0 : Int) ≤ v2 ∧ v2 < ((v5.length : Nat) : Int))) (cond (decide (0 + v2.toNat < v5.length)) (cond (decide ((0 : Int) ≤ v5.getD (0 + v2.toNat) 0 ∧ v5.getD (0 + v2.toNat) 0 < ((v3.length : Nat) : Int))) (cond (decide (0 + ((v5.getD (0 + v2.toNat) 0).toNat) < v3.length)) (cond (decide ((v4.length + 1) * 16 ≤ 70368744177664)) (l4 v3 v5 K0 k (IntKind.i64.wrap (v2 + 1)) (v4 ++ [v3.getD (0 + ((v5.getD (0 + v2.toNat) 0).toNat)) ByteArray.empty])) none) none) none) none) none) (K0 v4)) d.2.1.2.1 d.2.2.2.1.2.1 (fun (y1 : List ByteArray) => K (.exit 0) [.tv (.lf (.full 1))] [some ⟨d.2.1.1, [.seq .str 0 d.2.1.2.1]⟩, some ⟨false, [.seq .str 0 y1]⟩, some ⟨false, [.seq (.int .i64) 0 d.2.2.2.1.2.1]⟩]) k d.1.2.2.2.1 d.2.2.1.2.1 = roundOf Try.prog (tab [(19, (mkS sh19_1 (fun d K => c19_1 d.2.1.2.1 (fun (y0 : ByteArray) => K [.lf (.str y0)] [some ⟨d.2.1.1, [.seq .str 0 d.2.1.2.1]⟩])) noS)), (85, (mkS sh85_1 (fun d K => c85_1 d.1.1.1 d.1.1.2.1 d.1.1.2.2.1 d.1.1.2.2.2.1 d.1.2.1 (fun (y0 : List Int) => K [.lf (.full 0)] [some ⟨false, [.seq (.int .i64) 0 y0]⟩])) noS))]) 31 1 (ltab [(4, X4)]) (mkG sh92_1_l4 [1, 7, 8, 9] (outT [(.exit 0, [7])]) (fun d K => l4 d.2.1.2.1 d.2.2.2.1.2.1 (fun (y1 : List ByteArray) => K (.exit 0) [.tv (.lf (.full 1))] [some ⟨d.2.1.1, [.seq .str 0 d.2.1.2.1]⟩, some ⟨false, [.seq .str 0 y1]⟩, some ⟨false, [.seq (.int .i64) 0 d.2.2.2.1.2.1]⟩]) k d.1.2.2.2.1 d.2.2.1.2.1)) b92_0 (encT sh92_1_l4.vs d.1) (encH sh92_1_l4.h d.2) K := by kernel_rfl
theorem L92_1_4 (F : Nat) : LoopOK Try.prog (T92_1 F) 31 1 (LT92_1 F) (G92_1_4 F F) b92_0 :=
  loopOK_of (s := sh92_1_l4) (live := [1, 7, 8, 9]) (out := (outT [(.exit 0, [7])])) (fun k d K => f92_1_l4 F d.2.1.2.1 d.2.2.2.1.2.1 (fun (y1 : List ByteArray) => K (.exit 0) [.tv (.lf (.full 1))] [some ⟨d.2.1.1, [.seq .str 0 d.2.1.2.1]⟩, some ⟨false, [.seq .str 0 y1]⟩, some ⟨false, [.seq (.int .i64) 0 d.2.2.2.1.2.1]⟩]) k d.1.2.2.2.1 d.2.2.1.2.1) F (fun d K => by kernel_rfl)  (fun k d K => Eq.mp (by kernel_rfl) (L92_1_4g F k (f19_1 F) (f85_1 F)  (f92_1_l4 F) (G92_1_4 F F) d K))
theorem E92_1g (F : Nat) (c19_1 : List ByteArray → (ByteArray → Option Res) → Option Res) (c85_1 : Int → Int → Int → Int → Int → (List Int → Option Res) → Option Res) (l4 : List ByteArray → List Int → (List ByteArray → Option Res) → Nat → Int → List ByteArray → Option Res)  (d : sh92_1.den) (K : KF) : evBody Try.prog (tab [(19, (mkS sh19_1 (fun d K => c19_1 d.2.1.2.1 (fun (y0 : ByteArray) => K [.lf (.str y0)] [some ⟨d.2.1.1, [.seq .str 0 d.2.1.2.1]⟩])) noS)), (85, (mkS sh85_1 (fun d K => c85_1 d.1.1.1 d.1.1.2.1 d.1.1.2.2.1 d.1.1.2.2.2.1 d.1.2.1 (fun (y0 : List Int) => K [.lf (.full 0)] [some ⟨false, [.seq (.int .i64) 0 y0]⟩])) noS))]) 31 1 (ltab [(4, mkG sh92_1_l4 [1, 7, 8, 9] (outT [(.exit 0, [7])]) (fun d K => l4 d.2.1.2.1 d.2.2.2.1.2.1 (fun (y1 : List ByteArray) => K (.exit 0) [.tv (.lf (.full 1))] [some ⟨d.2.1.1, [.seq .str 0 d.2.1.2.1]⟩, some ⟨false, [.seq .str 0 y1]⟩, some ⟨false, [.seq (.int .i64) 0 d.2.2.2.1.2.1]⟩]) F d.1.2.2.2.1 d.2.2.1.2.1))]) code92 Try.f92.results.toList (encT sh92_1.vs d.1) (encH sh92_1.h d.2) K = (fun (a1 : Int) (a2 : Int) (a3 : Int) (a4 : Int) (a5 : Int) (a6 : List ByteArray) (K0 : (ByteArray → Option Res)) => c85_1 a1 a2 a3 a4 a5 (fun x1 => l4 a6 x1 (fun x6 => c19_1 x6 (fun x7 => K0 x7) ) F 0 []) ) d.1.1.1 d.1.1.2.1 d.1.1.2.2.1 d.1.1.2.2.2.1 d.1.2.2.1 d.2.1.2.1 (fun (y0 : ByteArray) => K [.lf (.str y0)] [some ⟨d.2.1.1, [.seq .str 0 d.2.1.2.1]⟩]) := by kernel_rfl
theorem E92_1 (F : Nat) (d : sh92_1.den) (K : KF) : evBody Try.prog (T92_1 F) 31 1 (LT92_1 F) code92 Try.f92.results.toList (encT sh92_1.vs d.1) (encH sh92_1.h d.2) K = f92_1 F d.1.1.1 d.1.1.2.1 d.1.1.2.2.1 d.1.1.2.2.2.1 d.1.2.2.1 d.2.1.2.1 (fun (y0 : ByteArray) => K [.lf (.str y0)] [some ⟨d.2.1.1, [.seq .str 0 d.2.1.2.1]⟩]) := Eq.mp (by kernel_rfl) (E92_1g F (f19_1 F) (f85_1 F) (f92_1_l4 F)  d K)
theorem S92_1_ok (F : Nat) (o : Summ) (ho : SoundFn Try.prog 92 o) : SoundFn Try.prog 92 (S92_1 F o) :=
  soundFn_of (fn := Try.f92) (c := code92) (by kernel_rfl) (tab_cons (S19_1_ok F _ (noS_sound enter19)) (tab_cons (S85_1_ok F _ (noS_sound enter85)) tab_nil)) (by kernel_rfl) (by kernel_rfl) ho (by rw [loops92]; exact (loopsOK_cons (by kernel_rfl) (L92_1_4 F) loopsOK_nil)) (by rw [scopes92]; exact scopesOK_nil) (E92_1 F)
end Go.Proofs.Ytjlolgpbidfmeaa.X
end

section
namespace Go.Proofs.Ytjlolgpbidfmeaa.X
open Go Go.Proofs.Ytjlolgpbidfmeaa.Ev Go.Proofs
set_option linter.unusedVariables false
/-! pentimentoref12.New -/
noncomputable def f38_1_l7 {β : Type} (F : Nat) (v3 : List ByteArray) (v4 : Int) (v5 : Int) (v6 : Int) (v7 : Int) (v8 : Int) (v9 : Int) (v10 : Int) (v11 : Int) (K0 : List ByteArray → Option β) (K1 : List ByteArray → Option β) : Nat → Int → List ByteArray → Option β
  | 0, _, _ => none
  | k + 1, v2, v12 => cond (decide (v2 < ((v3.length : Nat) : Int))) (cond (decide ((0 : Int) ≤ v2 ∧ v2 < ((v3.length : Nat) : Int))) (cond (decide (0 + v2.toNat < v3.length)) (f91_1 F (v3.getD (0 + v2.toNat) ByteArray.empty) (fun x13 => cond (!x13) (K0 v12) (cond (decide ((0 : Int) ≤ v2 ∧ v2 < ((v3.length : Nat) : Int))) (cond (decide (0 + v2.toNat < v3.length)) (f17_1 F (v3.getD (0 + v2.toNat) ByteArray.empty) (fun x14 => cond (decide ((v12.length + 1) * 16 ≤ 70368744177664)) (f38_1_l7 F v3 v4 v5 v6 v7 v8 v9 v10 v11 K0 K1 k (IntKind.i64.wrap (v2 + 1)) (v12 ++ [x14])) none) ) none) none)) ) none) none) (K1 v12)
noncomputable def f38_1_l14 {β : Type} (F : Nat) (v18 : Int) (v20 : List ByteArray) (v21 : Int) (v22 : Int) (v23 : Int) (v24 : Int) (v25 : Int) (v26 : Int) (v27 : Int) (v28 : Int) (K0 : List ByteArray → Option β) : Nat → Int → List ByteArray → Option β
  | 0, _, _ => none
  | k + 1, v19, v29 => cond (decide (v19 < v18)) (f92_1 F v21 v22 v23 v24 v19 v29 (fun x30 => cond (decide ((v29.length + 1) * 16 ≤ 70368744177664)) (f38_1_l14 F v18 v20 v21 v22 v23 v24 v25 v26 v27 v28 K0 k (IntKind.i64.wrap (v19 + 1)) (v29 ++ [x30])) none) ) (K0 v29)
noncomputable def f38_1 {β : Type} (F : Nat) (a1 : Int) (a2 : Int) (a3 : Int) (a4 : Int) (a5 : List ByteArray) (K0 : Int → Option β) (K1 : List ByteArray → Option β) : Option β := f27_1 F a1 a2 a3 a4 (fun x1 => cond (!x1) (K0 12) (cond (((a5.length : Nat) : Int) != a1) (K0 8) (f38_1_l7 F a5 a1 a2 a3 a4 a1 a2 a3 a4 (fun x15 => K0 4) (fun x16 => f89_1 F a1 a2 a3 a4 (fun x17 => f38_1_l14 F x17 a5 a1 a2 a3 a4 a1 a2 a3 a4 (fun x31 => K1 x31) F a1 x16) ) F 0 []))) 
def sh38_1 : Sh := ⟨[.agg [.int .i64, .int .i64, .int .i64, .int .i64], .lf (.full 0)], [some ⟨none, [.seq .str 0]⟩]⟩
noncomputable def S38_1 (F : Nat) (o : Summ) : Summ := mkS sh38_1 (fun d K => f38_1 F d.1.1.1 d.1.1.2.1 d.1.1.2.2.1 d.1.1.2.2.2.1 d.2.1.2.1 (fun (y0 : Int) => K [.lf (.nilp), .lf (.int .i64 y0)] [some ⟨d.2.1.1, [.seq .str 0 d.2.1.2.1]⟩]) (fun (y6 : List ByteArray) => K [.lf (.ptr 1 0), .lf (.int .i64 0)] [some ⟨d.2.1.1, [.seq .str 0 d.2.1.2.1]⟩, some ⟨false, [.int .i64 d.1.1.1, .int .i64 d.1.1.2.1, .int .i64 d.1.1.2.2.1, .int .i64 d.1.1.2.2.2.1, .full 2]⟩, some ⟨false, [.seq .str 0 y6]⟩])) o
noncomputable def code38 : Code := bodyOf Try.f38
noncomputable def b38_0 : Code := cB (cB (cR (cL (cR (cR (cR (cR (code38))))))))
noncomputable def b38_1 : Code := cB (cB (cR (cL (cR (cR (cR (cR (cR (cR (code38))))))))))
theorem scopes38 : scopesOf code38 = [] := by kernel_rfl
theorem loops38 : loopsOf code38 = [b38_0, b38_1] := by kernel_rfl
theorem enter38 : ∀ args w, (callFunc 38 args).run Try.prog w = .ok (.enter 38 args) w := enter_of (fn := Try.f38) (by kernel_rfl) (by kernel_rfl) (by kernel_rfl)
noncomputable def T38_1 (F : Nat) : FuncId → Option Summ := tab [(17, (S17_1 F noS)), (27, (S27_1 F noS)), (89, (S89_1 F noS)), (91, (S91_1 F noS)), (92, (S92_1 F noS))]
def sh38_1_l7 : Sh := ⟨[.lf (.full 0), .lf (.ptr 1 0), .lf (.ptr 2 0), .lf (.int .i64)], [some ⟨none, [.seq .str 0]⟩, some ⟨some false, [.int .i64, .int .i64, .int .i64, .int .i64]⟩, some ⟨some false, [.int .i64, .int .i64, .int .i64, .int .i64, .full 3]⟩, some ⟨some false, [.seq .str 0]⟩]⟩
noncomputable def G38_1_7 (F k : Nat) : LoopS := mkG sh38_1_l7 [1, 2, 6, 7] (outT [(.exit 0, [2, 6]), (.ret, [4, 5])]) (fun d K => f38_1_l7 F d.2.1.2.1 d.2.2.1.2.1 d.2.2.1.2.2.1 d.2.2.1.2.2.2.1 d.2.2.1.2.2.2.2.1 d.2.2.2.1.2.1 d.2.2.2.1.2.2.1 d.2.2.2.1.2.2.2.1 d.2.2.2.1.2.2.2.2.1 (fun (y10 : List ByteArray) => K .ret [.tv (.lf (.nilp)), .tv (.lf (.int .i64 4))] [some ⟨d.2.1.1, [.seq .str 0 d.2.1.2.1]⟩, some ⟨false, [.int .i64 d.2.2.1.2.1, .int .i64 d.2.2.1.2.2.1, .int .i64 d.2.2.1.2.2.2.1, .int .i64 d.2.2.1.2.2.2.2.1]⟩, some ⟨false, [.int .i64 d.2.2.2.1.2.1, .int .i64 d.2.2.2.1.2.2.1, .int .i64 d.2.2.2.1.2.2.2.1, .int .i64 d.2.2.2.1.2.2.2.2.1, .full 3]⟩, some ⟨false, [.seq .str 0 y10]⟩]) (fun (y9 : List ByteArray) => K (.exit 0) [.tv (.lf (.ptr 1 0)), .tv (.lf (.ptr 2 0))] [some ⟨d.2.1.1, [.seq .str 0 d.2.1.2.1]⟩, some ⟨false, [.int .i64 d.2.2.1.2.1, .int .i64 d.2.2.1.2.2.1, .int .i64 d.2.2.1.2.2.2.1, .int .i64 d.2.2.1.2.2.2.2.1]⟩, some ⟨false, [.int .i64 d.2.2.2.1.2.1, .int .i64 d.2.2.2.1.2.2.1, .int .i64 d.2.2.2.1.2.2.2.1, .int .i64 d.2.2.2.1.2.2.2.2.1, .full 3]⟩, some ⟨false, [.seq .str 0 y9]⟩]) k d.1.2.2.2.1 d.2.2.2.2.1.2.1)
def sh38_1_l14 : Sh := ⟨[.lf (.ptr 1 0), .lf (.ptr 2 0), .lf (.int .i64), .lf (.int .i64)], [some ⟨none, [.seq .str 0]⟩, some ⟨some false, [.int .i64, .int .i64, .int .i64, .int .i64]⟩, some ⟨some false, [.int .i64, .int .i64, .int .i64, .int .i64, .full 3]⟩, some ⟨some false, [.seq .str 0]⟩]⟩
noncomputable def G38_1_14 (F k : Nat) : LoopS := mkG sh38_1_l14 [2, 6, 8, 9] (outT [(.exit 2, [6])]) (fun d K => f38_1_l14 F d.1.2.2.1 d.2.1.2.1 d.2.2.1.2.1 d.2.2.1.2.2.1 d.2.2.1.2.2.2.1 d.2.2.1.2.2.2.2.1 d.2.2.2.1.2.1 d.2.2.2.1.2.2.1 d.2.2.2.1.2.2.2.1 d.2.2.2.1.2.2.2.2.1 (fun (y9 : List ByteArray) => K (.exit 2) [.tv (.lf (.ptr 2 0))] [some ⟨d.2.1.1, [.seq .str 0 d.2.1.2.1]⟩, some ⟨false, [.int .i64 d.2.2.1.2.1, .int .i64 d.2.2.1.2.2.1, .int .i64 d.2.2.1.2.2.2.1, .int .i64 d.2.2.1.2.2.2.2.1]⟩, some ⟨false, [.int .i64 d.2.2.2.1.2.1, .int .i64 d.2.2.2.1.2.2.1, .int .i64 d.2.2.2.1.2.2.2.1, .int .i64 d.2.2.2.1.2.2.2.2.1, .full 3]⟩, some ⟨false, [.seq .str 0 y9]⟩]) k d.1.2.2.2.1 d.2.2.2.2.1.2.1)
noncomputable def LT38_1 (F : Nat) : Nat → Option LoopS := ltab [(7, G38_1_7 F F), (14, G38_1_14 F F)]
theorem L38_1_7g (F k : Nat) (c17_1 : ByteArray → (ByteArray → Option Res) → Option Res) (c27_1 : Int → Int → Int → Int → (Bool → Option Res) → Option Res) (c89_1 : Int → Int → Int → Int → (Int → Option Res) → Option Res) (c91_1 : ByteArray → (Bool → Option Res) → Option Res) (c92_1 : Int → Int → Int → Int → Int → List ByteArray → (ByteArray → Option Res) → Option Res)  (l7 : List ByteArray → Int → Int → Int → Int → Int → Int → Int → Int → (List ByteArray → Option Res) → (List ByteArray → Option Res) → Nat → Int → List ByteArray → Option Res) (X7 : LoopS) (X14 : LoopS) (d : sh38_1_l7.den) (K : KL) : (fun (v3 : List ByteArray) (v4 : Int) (v5 : Int) (v6 : Int) (v7 : Int) (v8 : Int) (v9 : Int) (v10 : Int) (v11 : Int) (K0 : (List ByteArray → Option Res)) (K1 : (List ByteArray → Option Res)) (k : Nat) (v2 : Int) (v12 : List ByteArray) => cond (decide (v2 < ((v3.length : Nat) : Int))) (cond (decide ((0 : Int) ≤ v2 ∧ v2 < ((v3.length : Nat) : Int))) (cond (decide (0 + v2.toNat < v3.length)) (c91_1 (v3.getD (0 + v2.toNat) ByteArray.empty) (fun x13 => cond (!x13) (K0 v12) (cond (decide ((0 : Int) ≤ v2 ∧ v2 < ((v3.length : Nat) : Int))) (cond (decide (0 + v2.toNat < v3.length)) (c17_1 (v3.getD (0 + v2.toNat) ByteArray.empty) (fun x14 => cond (decide ((v12.length + 1) * 16 ≤ 70368744177664)) (l7 v3 v4 v5 v6 v7 v8 v9 v10 v11 K0 K1 k (IntKind.i64.wrap (v2 + 1)) (v12 ++ [x14])) none) ) none) none)) ) none) none) (K1 v12)) d.2.1.2.1 d.2.2.1.2.1 d.2.2.1.2.2.1 d.2.2.1.2.2.2.1 d.2.2.1.2.2.2.2.1 d.2.2.2.1.2.1 d.2.2.2.1.2.2.1 d.2.2.2.1.2.2.2.1 d.2.2.2.1.2.2.2.2.1 (fun (y10 : List ByteArray) => K .ret [.tv (.lf (.nilp)), .tv (.lf (.int .i64 4))] [some ⟨d.2.1.1, [.seq .str 0 d.2.1.2.1]⟩, some ⟨false, [.int .i64 d.2.2.1.2.1, .int .i64 d.2.2.1.2.2.1, .int .i64 d.2.2.1.2.2.2.1, .int .i64 d.2.2.1.2.2.2.2.1]⟩, some ⟨false, [.int .i64 d.2.2.2.1.2.1, .int .i64 d.2.2.2.1.2.2.1, .int .i64 d.2.2.2.1.2.2.2.1, .int .i64 d.2.2.2.1.2.2.2.2.1, .full 3]⟩, some ⟨false, [.seq .str 0 y10]⟩]) (fun (y9 : List ByteArray) => K (.exit 0) [.tv (.lf (.ptr 1 0)), .tv (.lf (.ptr 2 0))] [some ⟨d.2.1.1, [.seq .str 0 d.2.1.2.1]⟩, some ⟨false, [.int .i64 d.2.2.1.2.1, .int .i64 d.2.2.1.2.2.1, .int .i64 d.2.2.1.2.2.2.1, .int .i64 d.2.2.1.2.2.2.2.1]⟩, some ⟨false, [.int .i64 d.2.2.2.1.2.1, .int .i64 d.2.2.2.1.2.2.1, .int .i64 d.2.2.2.1.2.2.2.1, .int .i64 d.2.2.2.1.2.2.2.2.1, .full 3]⟩, some ⟨false, [.seq .str 0 y9]⟩]) k d.1.2.2.2.1 d.2.2.2.2.1.2.1 = roundOf Try.prog (tab [(17, (mkS sh17_1 (fun d K => c17_1 d.1.1 (fun (y0 : ByteArray) => K [.lf (.str y0)] [])) noS)), (27, (mkS sh27_1 (fun d K => c27_1 d.1.1.1 d.1.1.2.1 d.1.1.2.2.1 d.1.1.2.2.2.1 (fun (y0 : Bool) => K [.lf (.bool y0)] [])) noS)), (89, (mkS sh89_1 (fun d K => c89_1 d.1.1.1 d.1.1.2.1 d.1.1.2.2.1 d.1.1.2.2.2.1 (fun (y0 : Int) => K [.lf (.int .i64 y0)] [])) noS)), (91, (mkS sh91_1 (fun d K => c91_1 d.1.1 (fun (y0 : Bool) => K [.lf (.bool y0)] [])) noS)), (92, (mkS sh92_1 (fun d K => c92_1 d.1.1.1 d.1.1.2.1 d.1.1.2.2.1 d.1.1.2.2.2.1 d.1.2.2.1 d.2.1.2.1 (fun (y0 : ByteArray) => K [.lf (.str y0)] [some ⟨d.2.1.1, [.seq .str 0 d.2.1.2.1]⟩])) noS))]) 73 1 (ltab [(7, X7), (14, X14)]) (mkG sh38_1_l7 [1, 2, 6, 7] (outT [(.exit 0, [2, 6]), (.ret, [4, 5])]) (fun d K => l7 d.2.1.2.1 d.2.2.1.2.1 d.2.2.1.2.2.1 d.2.2.1.2.2.2.1 d.2.2.1.2.2.2.2.1 d.2.2.2.1.2.1 d.2.2.2.1.2.2.1 d.2.2.2.1.2.2.2.1 d.2.2.2.1.2.2.2.2.1 (fun (y10 : List ByteArray) => K .ret [.tv (.lf (.nilp)), .tv (.lf (.int .i64 4))] [some ⟨d.2.1.1, [.seq .str 0 d.2.1.2.1]⟩, some ⟨false, [.int .i64 d.2.2.1.2.1, .int .i64 d.2.2.1.2.2.1, .int .i64 d.2.2.1.2.2.2.1, .int .i64 d.2.2.1.2.2.2.2.1]⟩, some ⟨false, [.int .i64 d.2.2.2.1.2.1, .int .i64 d.2.2.2.1.2.2.1, .int .i64 d.2.2.2.1.2.2.2.1, .int .i64 d.2.2.2.1.2.2.2.2.1, .full 3]⟩, some ⟨false, [.seq .str 0 y10]⟩]) (fun (y9 : List ByteArray) => K (.exit 0) [.tv (.lf (.ptr 1 0)), .tv (.lf (.ptr 2 0))] [some ⟨d.2.1.1, [.seq .str 0 d.2.1.2.1]⟩, some ⟨false, [.int .i64 d.2.2.1.2.1, .int .i64 d.2.2.1.2.2.1, .int .i64 d.2.2.1.2.2.2.1, .int .i64 d.2.2.1.2.2.2.2.1]⟩, some ⟨false, [.int .i64 d.2.2.2.1.2.1, .int .i64 d.2.2.2.1.2.2.1, .int .i64 d.2.2.2.1.2.2.2.1, .int .i64 d.2.2.2.1.2.2.2.2.1, .full 3]⟩, some ⟨false, [.seq .str 0 y9]⟩]) k d.1.2.2.2.1 d.2.2.2.2.1.2.1)) b38_0 (encT sh38_1_l7.vs d.1) (encH sh38_1_l7.h d.2) K := by kernel_rfl
theorem L38_1_7 (F : Nat) : LoopOK Try.prog (T38_1 F) 73 1 (LT38_1 F) (G38_1_7 F F) b38_0 :=
  loopOK_of (s := sh38_1_l7) (live := [1, 2, 6, 7]) (out := (outT [(.exit 0, [2, 6]), (.ret, [4, 5])])) (fun k d K => f38_1_l7 F d.2.1.2.1 d.2.2.1.2.1 d.2.2.1.2.2.1 d.2.2.1.2.2.2.1 d.2.2.1.2.2.2.2.1 d.2.2.2.1.2.1 d.2.2.2.1.2.2.1 d.2.2.2.1.2.2.2.1 d.2.2.2.1.2.2.2.2.1 (fun (y10 : List ByteArray) => K .ret [.tv (.lf (.nilp)), .tv (.lf (.int .i64 4))] [some ⟨d.2.1.1, [.seq .str 0 d.2.1.2.1]⟩, some ⟨false, [.int .i64 d.2.2.1.2.1, .int .i64 d.2.2.1.2.2.1, .int .i64 d.2.2.1.2.2.2.1, .int .i64 d.2.2.1.2.2.2.2.1]⟩, some ⟨false, [.int .i64 d.2.2.2.1.2.1, .int .i64 d.2.2.2.1.2.2.1, .int .i64 d.2.2.2.1.2.2.2.1, .int .i64 d.2.2.2.1.2.2.2.2.1, .full 3]⟩, some ⟨false, [.seq .str 0 y10]⟩]) (fun (y9 : List ByteArray) => K (.exit 0) [.tv (.lf (.ptr 1 0)), .tv (.lf (.ptr 2 0))] [some ⟨d.2.1.1, [.seq .str 0 d.2.1.2.1]⟩, some ⟨false, [.int .i64 d.2.2.1.2.1, .int .i64 d.2.2.1.2.2.1, .int .i64 d.2.2.1.2.2.2.1, .int .i64 d.2.2.1.2.2.2.2.1]⟩, some ⟨false, [.int .i64 d.2.2.2.1.2.1, .int .i64 d.2.2.2.1.2.2.1, .int .i64 d.2.2.2.1.2.2.2.1, .int .i64 d.2.2.2.1.2.2.2.2.1, .full 3]⟩, some ⟨false, [.seq .str 0 y9]⟩]) k d.1.2.2.2.1 d.2.2.2.2.1.2.1) F (fun d K => by kernel_rfl)  (fun k d K => Eq.mp (by kernel_rfl) (L38_1_7g F k (f17_1 F) (f27_1 F) (f89_1 F) (f91_1 F) (f92_1 F)  (f38_1_l7 F) (G38_1_7 F F) (G38_1_14 F F) d K))
theorem L38_1_14g (F k : Nat) (c17_1 : ByteArray → (ByteArray → Option Res) → Option Res) (c27_1 : Int → Int → Int → Int → (Bool → Option Res) → Option Res) (c89_1 : Int → Int → Int → Int → (Int → Option Res) → Option Res) (c91_1 : ByteArray → (Bool → Option Res) → Option Res) (c92_1 : Int → Int → Int → Int → Int → List ByteArray → (ByteArray → Option Res) → Option Res)  (l14 : Int → List ByteArray → Int → Int → Int → Int → Int → Int → Int → Int → (List ByteArray → Option Res) → Nat → Int → List ByteArray → Option Res) (X7 : LoopS) (X14 : LoopS) (d : sh38_1_l14.den) (K : KL) : (fun (v18 : Int) (v20 : List ByteArray) (v21 : Int) (v22 : Int) (v23 : Int) (v24 : Int) (v25 : Int) (v26 : Int) (v27 : Int) (v28 : Int) (K0 : (List ByteArray → Option Res)) (k : Nat) (v19 : Int) (v29 : List ByteArray) => cond (decide (v19 < v18)) (c92_1 v21 v22 v23 v24 v19 v29 (fun x30 => cond (decide ((v29.length + 1) * 16 ≤ 70368744177664)) (l14 v18 v20 v21 v22 v23 v24 v25 v26 v27 v28 K0 k (IntKind.i64.wrap (v19 + 1)) (v29 ++ [x30])) none) ) (K0 v29)) d.1.2.2.1 d.2.1.2.1 d.2.2.1.2.1 d.2.2.1.2.2.1 d.2.2.1.2.2.2.1 d.2.2.1.2.2.2.2.1 d.2.2.2.1.2.1 d.2.2.2.1.2.2.1 d.2.2.2.1.2.2.2.1 d.2.2.2.1.2.2.2.2.1 (fun (y9 : List ByteArray) => K (.exit 2) [.tv (.lf (.ptr 2 0))] [some ⟨d.2.1.1, [.seq .str 0 d.2.1.2.1]⟩, some ⟨false, [.int .i64 d.2.2.1.2.1, .int .i64 d.2.2.1.2.2.1, .int .i64 d.2.2.1.2.2.2.1, .int .i64 d.2.2.1.2.2.2.2.1]⟩, some ⟨false, [.int .i64 d.2.2.2.1.2.1, .int .i64 d.2.2.2.1.2.2.1, .int .i64 d.2.2.2.1.2.2.2.1, .int .i64 d.2.2.2.1.2.2.2.2.1, .full 3]⟩, some ⟨false, [.seq .str 0 y9]⟩]) k d.1.2.2.2.1 d.2.2.2.2.1.2.1 = roundOf Try.prog (tab [(17, (mkS sh17_1 (fun d K => c17_1 d.1.1 (fun (y0 : ByteArray) => K [.lf (.str y0)] [])) noS)), (27, (mkS sh27_1 (fun d K => c27_1 d.1.1.1 d.1.1.2.1 d.1.1.2.2.1 d.1.1.2.2.2.1 (fun (y0 : Bool) => K [.lf (.bool y0)] [])) noS)), (89, (mkS sh89_1 (fun d K => c89_1 d.1.1.1 d.1.1.2.1 d.1.1.2.2.1 d.1.1.2.2.2.1 (fun (y0 : Int) => K [.lf (.int .i64 y0)] [])) noS)), (91, (mkS sh91_1 (fun d K => c91_1 d.1.1 (fun (y0 : Bool) => K [.lf (.bool y0)] [])) noS)), (92, (mkS sh92_1 (fun d K => c92_1 d.1.1.1 d.1.1.2.1 d.1.1.2.2.1 d.1.1.2.2.2.1 d.1.2.2.1 d.2.1.2.1 (fun (y0 : ByteArray) => K [.lf (.str y0)] [some ⟨d.2.1.1, [.seq .str 0 d.2.1.2.1]⟩])) noS))]) 73 1 (ltab [(7, X7), (14, X14)]) (mkG sh38_1_l14 [2, 6, 8, 9] (outT [(.exit 2, [6])]) (fun d K => l14 d.1.2.2.1 d.2.1.2.1 d.2.2.1.2.1 d.2.2.1.2.2.1 d.2.2.1.2.2.2.1 d.2.2.1.2.2.2.2.1 d.2.2.2.1.2.1 d.2.2.2.1.2.2.1 d.2.2.2.1.2.2.2.1 d.2.2.2.1.2.2.2.2.1 (fun (y9 : List ByteArray) => K (.exit 2) [.tv (.lf (.ptr 2 0))] [some ⟨d.2.1.1, [.seq .str 0 d.2.1.2.1]⟩, some ⟨false, [.int .i64 d.2.2.1.2.1, .int .i64 d.2.2.1.2.2.1, .int .i64 d.2.2.1.2.2.2.1, .int .i64 d.2.2.1.2.2.2.2.1]⟩, some ⟨false, [.int .i64 d.2.2.2.1.2.1, .int .i64 d.2.2.2.1.2.2.1, .int .i64 d.2.2.2.1.2.2.2.1, .int .i64 d.2.2.2.1.2.2.2.2.1, .full 3]⟩, some ⟨false, [.seq .str 0 y9]⟩]) k d.1.2.2.2.1 d.2.2.2.2.1.2.1)) b38_1 (encT sh38_1_l14.vs d.1) (encH sh38_1_l14.h d.2) K := by kernel_rfl
theorem L38_1_14 (F : Nat) : LoopOK Try.prog (T38_1 F) 73 1 (LT38_1 F) (G38_1_14 F F) b38_1 :=
  loopOK_of (s := sh38_1_l14) (live := [2, 6, 8, 9]) (out := (outT [(.exit 2, [6])])) (fun k d K => f38_1_l14 F d.1.2.2.1 d.2.1.2.1 d.2.2.1.2.1 d.2.2.1.2.2.1 d.2.2.1.2.2.2.1 d.2.2.1.2.2.2.2.1 d.2.2.2.1.2.1 d.2.2.2.1.2.2.1 d.2.2.2.1.2.2.2.1 d.2.2.2.1.2.2.2.2.1 (fun (y9 : List ByteArray) => K (.exit 2) [.tv (.lf (.ptr 2 0))] [some ⟨d.2.1.1, [.seq .str 0 d.2.1.2.1]⟩, some ⟨false, [.int .i64 d.2.2.1.2.1, .int .i64 d.2.2.1.2.2.1, .int .i64 d.2.2.1.2.2.2.1, .int .i64 d.2.2.1.2.2.2.2.1]⟩, some ⟨false, [.int .i64 d.2.2.2.1.2.1, .int .i64 d.2.2.2.1.2.2.1, .int .i64 d.2.2.2.1.2.2.2.1, .int .i64 d.2.2.2.1.2.2.2.2.1, .full 3]⟩, some ⟨false, [.seq .str 0 y9]⟩]) k d.1.2.2.2.1 d.2.2.2.2.1.2.1) F (fun d K => by kernel_rfl)  (fun k d K => Eq.mp (by kernel_rfl) (L38_1_14g F k (f17_1 F) (f27_1 F) (f89_1 F) (f91_1 F) (f92_1 F)  (f38_1_l14 F) (G38_1_7 F F) (G38_1_14 F F) d K))
theorem E38_1g (F : Nat) (c17_1 : ByteArray → (ByteArray → Option Res) → Option Res) (c27_1 : Int → Int → Int → Int → (Bool → Option Res) → Option Res) (c89_1 : Int → Int → Int → Int → (Int → Option Res) → Option Res) (c91_1 : ByteArray → (Bool → Option Res) → Option Res) (c92_1 : Int → Int → Int → Int → Int → List ByteArray → (ByteArray → Option Res) → Option Res) (l7 : List ByteArray → Int → Int → Int → Int → Int → Int → Int → Int → (List ByteArray → Option Res) → (List ByteArray → Option Res) → Nat → Int → List ByteArray → Option Res) (l14 : Int → List ByteArray → Int → Int → Int → Int → Int → Int → Int → Int → (List ByteArray → Option Res) → Nat → Int → List ByteArray → Option Res)  (d : sh38_1.den) (K : KF) : evBody Try.prog (tab [(17, (mkS sh17_1 (fun d K => c17_1 d.1.1 (fun (y0 : ByteArray) => K [.lf (.str y0)] [])) noS)), (27, (mkS sh27_1 (fun d K => c27_1 d.1.1.1 d.1.1.2.1 d.1.1.2.2.1 d.1.1.2.2.2.1 (fun (y0 : Bool) => K [.lf (.bool y0)] [])) noS)), (89, (mkS sh89_1 (fun d K => c89_1 d.1.1.1 d.1.1.2.1 d.1.1.2.2.1 d.1.1.2.2.2.1 (fun (y0 : Int) => K [.lf (.int .i64 y0)] [])) noS)), (91, (mkS sh91_1 (fun d K => c91_1 d.1.1 (fun (y0 : Bool) => K [.lf (.bool y0)] [])) noS)), (92, (mkS sh92_1 (fun d K => c92_1 d.1.1.1 d.1.1.2.1 d.1.1.2.2.1 d.1.1.2.2.2.1 d.1.2.2.1 d.2.1.2.1 (fun (y0 : ByteArray) => K [.lf (.str y0)] [some ⟨d.2.1.1, [.seq .str 0 d.2.1.2.1]⟩])) noS))]) 73 1 (ltab [(7, mkG sh38_1_l7 [1, 2, 6, 7] (outT [(.exit 0, [2, 6]), (.ret, [4, 5])]) (fun d K => l7 d.2.1.2.1 d.2.2.1.2.1 d.2.2.1.2.2.1 d.2.2.1.2.2.2.1 d.2.2.1.2.2.2.2.1 d.2.2.2.1.2.1 d.2.2.2.1.2.2.1 d.2.2.2.1.2.2.2.1 d.2.2.2.1.2.2.2.2.1 (fun (y10 : List ByteArray) => K .ret [.tv (.lf (.nilp)), .tv (.lf (.int .i64 4))] [some ⟨d.2.1.1, [.seq .str 0 d.2.1.2.1]⟩, some ⟨false, [.int .i64 d.2.2.1.2.1, .int .i64 d.2.2.1.2.2.1, .int .i64 d.2.2.1.2.2.2.1, .int .i64 d.2.2.1.2.2.2.2.1]⟩, some ⟨false, [.int .i64 d.2.2.2.1.2.1, .int .i64 d.2.2.2.1.2.2.1, .int .i64 d.2.2.2.1.2.2.2.1, .int .i64 d.2.2.2.1.2.2.2.2.1, .full 3]⟩, some ⟨false, [.seq .str 0 y10]⟩]) (fun (y9 : List ByteArray) => K (.exit 0) [.tv (.lf (.ptr 1 0)), .tv (.lf (.ptr 2 0))] [some ⟨d.2.1.1, [.seq .str 0 d.2.1.2.1]⟩, some ⟨false, [.int .i64 d.2.2.1.2.1, .int .i64 d.2.2.1.2.2.1, .int .i64 d.2.2.1.2.2.2.1, .int .i64 d.2.2.1.2.2.2.2.1]⟩, some ⟨false, [.int .i64 d.2.2.2.1.2.1, .int .i64 d.2.2.2.1.2.2.1, .int .i64 d.2.2.2.1.2.2.2.1, .int .i64 d.2.2.2.1.2.2.2.2.1, .full 3]⟩, some ⟨false, [.seq .str 0 y9]⟩]) F d.1.2.2.2.1 d.2.2.2.2.1.2.1)), (14, mkG sh38_1_l14 [2, 6, 8, 9] (outT [(.exit 2, [6])]) (fun d K => l14 d.1.2.2.1 d.2.1.2.1 d.2.2.1.2.1 d.2.2.1.2.2.1 d.2.2.1.2.2.2.1 d.2.2.1.2.2.2.2.1 d.2.2.2.1.2.1 d.2.2.2.1.2.2.1 d.2.2.2.1.2.2.2.1 d.2.2.2.1.2.2.2.2.1 (fun (y9 : List ByteArray) => K (.exit 2) [.tv (.lf (.ptr 2 0))] [some ⟨d.2.1.1, [.seq .str 0 d.2.1.2.1]⟩, some ⟨false, [.int .i64 d.2.2.1.2.1, .int .i64 d.2.2.1.2.2.1, .int .i64 d.2.2.1.2.2.2.1, .int .i64 d.2.2.1.2.2.2.2.1]⟩, some ⟨false, [.int .i64 d.2.2.2.1.2.1, .int .i64 d.2.2.2.1.2.2.1, .int .i64 d.2.2.2.1.2.2.2.1, .int .i64 d.2.2.2.1.2.2.2.2.1, .full 3]⟩, some ⟨false, [.seq .str 0 y9]⟩]) F d.1.2.2.2.1 d.2.2.2.2.1.2.1))]) code38 Try.f38.results.toList (encT sh38_1.vs d.1) (encH sh38_1.h d.2) K = (fun (a1 : Int) (a2 : Int) (a3 : Int) (a4 : Int) (a5 : List ByteArray) (K0 : (Int → Option Res)) (K1 : (List ByteArray → Option Res)) => c27_1 a1 a2 a3 a4 (fun x1 => cond (!x1) (K0 12) (cond (((a5.length : Nat) : Int) != a1) (K0 8) (l7 a5 a1 a2 a3 a4 a1 a2 a3 a4 (fun x15 => K0 4) (fun x16 => c89_1 a1 a2 a3 a4 (fun x17 => l14 x17 a5 a1 a2 a3 a4 a1 a2 a3 a4 (fun x31 => K1 x31) F a1 x16) ) F 0 []))) ) d.1.1.1 d.1.1.2.1 d.1.1.2.2.1 d.1.1.2.2.2.1 d.2.1.2.1 (fun (y0 : Int) => K [.lf (.nilp), .lf (.int .i64 y0)] [some ⟨d.2.1.1, [.seq .str 0 d.2.1.2.1]⟩]) (fun (y6 : List ByteArray) => K [.lf (.ptr 1 0), .lf (.int .i64 0)] [some ⟨d.2.1.1, [.seq .str 0 d.2.1.2.1]⟩, some ⟨false, [.int .i64 d.1.1.1, .int .i64 d.1.1.2.1, .int .i64 d.1.1.2.2.1, .int .i64 d.1.1.2.2.2.1, .full 2]⟩, some ⟨false, [.seq .str 0 y6]⟩]) := by kernel_rfl
theorem E38_1 (F : Nat) (d : sh38_1.den) (K : KF) : evBody Try.prog (T38_1 F) 73 1 (LT38_1 F) code38 Try.f38.results.toList (encT sh38_1.vs d.1) (encH sh38_1.h d.2) K = f38_1 F d.1.1.1 d.1.1.2.1 d.1.1.2.2.1 d.1.1.2.2.2.1 d.2.1.2.1 (fun (y0 : Int) => K [.lf (.nilp), .lf (.int .i64 y0)] [some ⟨d.2.1.1, [.seq .str 0 d.2.1.2.1]⟩]) (fun (y6 : List ByteArray) => K [.lf (.ptr 1 0), .lf (.int .i64 0)] [some ⟨d.2.1.1, [.seq .str 0 d.2.1.2.1]⟩, some ⟨false, [.int .i64 d.1.1.1, .int .i64 d.1.1.2.1, .int .i64 d.1.1.2.2.1, .int .i64 d.1.1.2.2.2.1, .full 2]⟩, some ⟨false, [.seq .str 0 y6]⟩]) := Eq.mp (by kernel_rfl) (E38_1g F (f17_1 F) (f27_1 F) (f89_1 F) (f91_1 F) (f92_1 F) (f38_1_l7 F) (f38_1_l14 F)  d K)
theorem S38_1_ok (F : Nat) (o : Summ) (ho : SoundFn Try.prog 38 o) : SoundFn Try.prog 38 (S38_1 F o) :=
  soundFn_of (fn := Try.f38) (c := code38) (by kernel_rfl) (tab_cons (S17_1_ok F _ (noS_sound enter17)) (tab_cons (S27_1_ok F _ (noS_sound enter27)) (tab_cons (S89_1_ok F _ (noS_sound enter89)) (tab_cons (S91_1_ok F _ (noS_sound enter91)) (tab_cons (S92_1_ok F _ (noS_sound enter92)) tab_nil))))) (by kernel_rfl) (by kernel_rfl) ho (by rw [loops38]; exact (loopsOK_cons (by kernel_rfl) (L38_1_7 F) (loopsOK_cons (by kernel_rfl) (L38_1_14 F) loopsOK_nil))) (by rw [scopes38]; exact scopesOK_nil) (E38_1 F)
end Go.Proofs.Ytjlolgpbidfmeaa.X
end

section
namespace Go.Proofs.Ytjlolgpbidfmeaa.X
open Go Go.Proofs.Ytjlolgpbidfmeaa.Ev Go.Proofs
set_option linter.unusedVariables false
/-! pentimentoref04.Right -/
noncomputable def f21_1 {β : Type} (F : Nat) (a1 : ByteArray) (K0 : Bool → Option β) : Option β := K0 ((a1.size : Int) == 32)
def sh21_1 : Sh := ⟨[.lf (.str)], []⟩
noncomputable def S21_1 (F : Nat) (o : Summ) : Summ := mkS sh21_1 (fun d K => f21_1 F d.1.1 (fun (y0 : Bool) => K [.lf (.bool y0)] [])) o
noncomputable def code21 : Code := bodyOf Try.f21
theorem scopes21 : scopesOf code21 = [] := by kernel_rfl
theorem loops21 : loopsOf code21 = [] := by kernel_rfl
theorem enter21 : ∀ args w, (callFunc 21 args).run Try.prog w = .ok (.enter 21 args) w := enter_of (fn := Try.f21) (by kernel_rfl) (by kernel_rfl) (by kernel_rfl)
noncomputable def T21_1 (F : Nat) : FuncId → Option Summ := tab []
noncomputable def LT21_1 (F : Nat) : Nat → Option LoopS := ltab []
theorem E21_1g (F : Nat)    (d : sh21_1.den) (K : KF) : evBody Try.prog (tab []) 6 0 (ltab []) code21 Try.f21.results.toList (encT sh21_1.vs d.1) (encH sh21_1.h d.2) K = (fun (a1 : ByteArray) (K0 : (Bool → Option Res)) => K0 ((a1.size : Int) == 32)) d.1.1 (fun (y0 : Bool) => K [.lf (.bool y0)] []) := by kernel_rfl
theorem E21_1 (F : Nat) (d : sh21_1.den) (K : KF) : evBody Try.prog (T21_1 F) 6 0 (LT21_1 F) code21 Try.f21.results.toList (encT sh21_1.vs d.1) (encH sh21_1.h d.2) K = f21_1 F d.1.1 (fun (y0 : Bool) => K [.lf (.bool y0)] []) := Eq.mp (by kernel_rfl) (E21_1g F    d K)
theorem S21_1_ok (F : Nat) (o : Summ) (ho : SoundFn Try.prog 21 o) : SoundFn Try.prog 21 (S21_1 F o) :=
  soundFn_of (fn := Try.f21) (c := code21) (by kernel_rfl) tab_nil (by kernel_rfl) (by kernel_rfl) ho (by rw [loops21]; exact loopsOK_nil) (by rw [scopes21]; exact scopesOK_nil) (E21_1 F)
end Go.Proofs.Ytjlolgpbidfmeaa.X
end

section
namespace Go.Proofs.Ytjlolgpbidfmeaa.X
open Go Go.Proofs.Ytjlolgpbidfmeaa.Ev Go.Proofs
set_option linter.unusedVariables false
/-! pentimentoref12.From -/
noncomputable def f35_1_l7 {β : Type} (F : Nat) (v4 : List ByteArray) (v5 : Int) (v6 : Int) (v7 : Int) (v8 : Int) (K0 : List ByteArray → Option β) (K1 : List ByteArray → Option β) : Nat → Int → List ByteArray → Option β
  | 0, _, _ => none
  | k + 1, v3, v9 => cond (decide (v3 < ((v4.length : Nat) : Int))) (cond (decide ((0 : Int) ≤ v3 ∧ v3 < ((v4.length : Nat) : Int))) (cond (decide (0 + v3.toNat < v4.length)) (f21_1 F (v4.getD (0 + v3.toNat) ByteArray.empty) (fun x10 => cond (!x10) (K0 v9) (cond (decide ((0 : Int) ≤ v3 ∧ v3 < ((v4.length : Nat) : Int))) (cond (decide (0 + v3.toNat < v4.length)) (cond (decide ((v9.length + 1) * 16 ≤ 70368744177664)) (f35_1_l7 F v4 v5 v6 v7 v8 K0 K1 k (IntKind.i64.wrap (v3 + 1)) (v9 ++ [v4.getD (0 + v3.toNat) ByteArray.empty])) none) none) none)) ) none) none) (K1 v9)
noncomputable def f35_1 {β : Type} (F : Nat) (a1 : Int) (a2 : Int) (a3 : Int) (a4 : Int) (a5 : List ByteArray) (K0 : Int → Option β) (K1 : List ByteArray → Option β) : Option β := f27_1 F a1 a2 a3 a4 (fun x1 => cond (!x1) (K0 12) (f89_1 F a1 a2 a3 a4 (fun x2 => cond (((a5.length : Nat) : Int) != x2) (K0 8) (f35_1_l7 F a5 a1 a2 a3 a4 (fun x11 => K0 4) (fun x12 => K1 x12) F 0 [])) )) 
def sh35_1 : Sh := ⟨[.agg [.int .i64, .int .i64, .int .i64, .int .i64], .lf (.full 0)], [some ⟨none, [.seq .str 0]⟩]⟩
noncomputable def S35_1 (F : Nat) (o : Summ) : Summ := mkS sh35_1 (fun d K => f35_1 F d.1.1.1 d.1.1.2.1 d.1.1.2.2.1 d.1.1.2.2.2.1 d.2.1.2.1 (fun (y0 : Int) => K [.lf (.nilp), .lf (.int .i64 y0)] [some ⟨d.2.1.1, [.seq .str 0 d.2.1.2.1]⟩]) (fun (y6 : List ByteArray) => K [.lf (.ptr 1 0), .lf (.int .i64 0)] [some ⟨d.2.1.1, [.seq .str 0 d.2.1.2.1]⟩, some ⟨false, [.int .i64 d.1.1.1, .int .i64 d.1.1.2.1, .int .i64 d.1.1.2.2.1, .int .i64 d.1.1.2.2.2.1, .full 2]⟩, some ⟨false, [.seq .str 0 y6]⟩])) o
noncomputable def code35 : Code := bodyOf Try.f35
noncomputable def b35_0 : Code := cB (cB (cR (cL (cR (cR (cR (cR (code35))))))))
theorem scopes35 : scopesOf code35 = [] := by kernel_rfl
theorem loops35 : loopsOf code35 = [b35_0] := by kernel_rfl
theorem enter35 : ∀ args w, (callFunc 35 args).run Try.prog w = .ok (.enter 35 args) w := enter_of (fn := Try.f35) (by kernel_rfl) (by kernel_rfl) (by kernel_rfl)
noncomputable def T35_1 (F : Nat) : FuncId → Option Summ := tab [(21, (S21_1 F noS)), (27, (S27_1 F noS)), (89, (S89_1 F noS))]
def sh35_1_l7 : Sh := ⟨[.lf (.full 0), .lf (.ptr 1 0), .lf (.int .i64)], [some ⟨none, [.seq .str 0]⟩, some ⟨some false, [.int .i64, .int .i64, .int .i64, .int .i64, .full 2]⟩, some ⟨some false, [.seq .str 0]⟩]⟩
noncomputable def G35_1_7 (F k : Nat) : LoopS := mkG sh35_1_l7 [1, 6, 7] (outT [(.exit 0, [6]), (.ret, [4, 5])]) (fun d K => f35_1_l7 F d.2.1.2.1 d.2.2.1.2.1 d.2.2.1.2.2.1 d.2.2.1.2.2.2.1 d.2.2.1.2.2.2.2.1 (fun (y6 : List ByteArray) => K .ret [.tv (.lf (.nilp)), .tv (.lf (.int .i64 4))] [some ⟨d.2.1.1, [.seq .str 0 d.2.1.2.1]⟩, some ⟨false, [.int .i64 d.2.2.1.2.1, .int .i64 d.2.2.1.2.2.1, .int .i64 d.2.2.1.2.2.2.1, .int .i64 d.2.2.1.2.2.2.2.1, .full 2]⟩, some ⟨false, [.seq .str 0 y6]⟩]) (fun (y5 : List ByteArray) => K (.exit 0) [.tv (.lf (.ptr 1 0))] [some ⟨d.2.1.1, [.seq .str 0 d.2.1.2.1]⟩, some ⟨false, [.int .i64 d.2.2.1.2.1, .int .i64 d.2.2.1.2.2.1, .int .i64 d.2.2.1.2.2.2.1, .int .i64 d.2.2.1.2.2.2.2.1, .full 2]⟩, some ⟨false, [.seq .str 0 y5]⟩]) k d.1.2.2.1 d.2.2.2.1.2.1)
noncomputable def LT35_1 (F : Nat) : Nat → Option LoopS := ltab [(7, G35_1_7 F F)]
theorem L35_1_7g (F k : Nat) (c21_1 : ByteArray → (Bool → Option Res) → Option Res) (c27_1 : Int → Int → Int → Int → (Bool → Option Res) → Option Res) (c89_1 : Int → Int → Int → Int → (Int → Option Res) → Option Res)  (l7 : List ByteArray → Int → Int → Int → Int → (List ByteArray → Option Res) → (List ByteArray → Option Res) → Nat → Int → List ByteArray → Option Res) (X7 : LoopS) (d : sh35_1_l7.den) (K : KL) : (fun (v4 : List ByteArray) (v5 : Int) (v6 : Int) (v7 : Int) (v8 : Int) (K0 : (List ByteArray → Option Res)) (K1 : (List ByteArray → Option Res)) (k : Nat) (v3 : Int) (v9 : List ByteArray) => cond (decide (v3 < ((v4.length : Nat) : Int))) (cond (decide ((0 : Int) ≤ v3 ∧ v3 < ((v4.length : Nat) : Int))) (cond (decide (0 + v3.toNat < v4.length)) (c21_1 (v4.getD (0 + v3.toNat) ByteArray.empty) (fun x10 => cond (!x10) (K0 v9) (cond (decide ((0 : Int) ≤ v3 ∧ v3 < ((v4.length : Nat) : Int))) (cond (decide (0 + v3.toNat < v4.length)) (cond (decide ((v9.length + 1) * 16 ≤ 70368744177664)) (l7 v4 v5 v6 v7 v8 K0 K1 k (IntKind.i64.wrap (v3 + 1)) (v9 ++ [v4.getD (0 + v3.toNat) ByteArray.empty])) none) none) none)) ) none) none) (K1 v9)) d.2.1.2.1 d.2.2.1.2.1 d.2.2.1.2.2.1 d.2.2.1.2.2.2.1 d.2.2.1.2.2.2.2.1 (fun (y6 : List ByteArray) => K .ret [.tv (.lf (.nilp)), .tv (.lf (.int .i64 4))] [some ⟨d.2.1.1, [.seq .str 0 d.2.1.2.1]⟩, some ⟨false, [.int .i64 d.2.2.1.2.1, .int .i64 d.2.2.1.2.2.1, .int .i64 d.2.2.1.2.2.2.1, .int .i64 d.2.2.1.2.2.2.2.1, .full 2]⟩, some ⟨false, [.seq .str 0 y6]⟩]) (fun (y5 : List ByteArray) => K (.exit 0) [.tv (.lf (.ptr 1 0))] [some ⟨d.2.1.1, [.seq .str 0 d.2.1.2.1]⟩, some ⟨false, [.int .i64 d.2.2.1.2.1, .int .i64 d.2.2.1.2.2.1, .int .i64 d.2.2.1.2.2.2.1, .int .i64 d.2.2.1.2.2.2.2.1, .full 2]⟩, some ⟨false, [.seq .str 0 y5]⟩]) k d.1.2.2.1 d.2.2.2.1.2.1 = roundOf Try.prog (tab [(21, (mkS sh21_1 (fun d K => c21_1 d.1.1 (fun (y0 : Bool) => K [.lf (.bool y0)] [])) noS)), (27, (mkS sh27_1 (fun d K => c27_1 d.1.1.1 d.1.1.2.1 d.1.1.2.2.1 d.1.1.2.2.2.1 (fun (y0 : Bool) => K [.lf (.bool y0)] [])) noS)), (89, (mkS sh89_1 (fun d K => c89_1 d.1.1.1 d.1.1.2.1 d.1.1.2.2.1 d.1.1.2.2.2.1 (fun (y0 : Int) => K [.lf (.int .i64 y0)] [])) noS))]) 45 1 (ltab [(7, X7)]) (mkG sh35_1_l7 [1, 6, 7] (outT [(.exit 0, [6]), (.ret, [4, 5])]) (fun d K => l7 d.2.1.2.1 d.2.2.1.2.1 d.2.2.1.2.2.1 d.2.2.1.2.2.2.1 d.2.2.1.2.2.2.2.1 (fun (y6 : List ByteArray) => K .ret [.tv (.lf (.nilp)), .tv (.lf (.int .i64 4))] [some ⟨d.2.1.1, [.seq .str 0 d.2.1.2.1]⟩, some ⟨false, [.int .i64 d.2.2.1.2.1, .int .i64 d.2.2.1.2.2.1, .int .i64 d.2.2.1.2.2.2.1, .int .i64 d.2.2.1.2.2.2.2.1, .full 2]⟩, some ⟨false, [.seq .str 0 y6]⟩]) (fun (y5 : List ByteArray) => K (.exit 0) [.tv (.lf (.ptr 1 0))] [some ⟨d.2.1.1, [.seq .str 0 d.2.1.2.1]⟩, some ⟨false, [.int .i64 d.2.2.1.2.1, .int .i64 d.2.2.1.2.2.1, .int .i64 d.2.2.1.2.2.2.1, .int .i64 d.2.2.1.2.2.2.2.1, .full 2]⟩, some ⟨false, [.seq .str 0 y5]⟩]) k d.1.2.2.1 d.2.2.2.1.2.1)) b35_0 (encT sh35_1_l7.vs d.1) (encH sh35_1_l7.h d.2) K := by kernel_rfl
theorem L35_1_7 (F : Nat) : LoopOK Try.prog (T35_1 F) 45 1 (LT35_1 F) (G35_1_7 F F) b35_0 :=
  loopOK_of (s := sh35_1_l7) (live := [1, 6, 7]) (out := (outT [(.exit 0, [6]), (.ret, [4, 5])])) (fun k d K => f35_1_l7 F d.2.1.2.1 d.2.2.1.2.1 d.2.2.1.2.2.1 d.2.2.1.2.2.2.1 d.2.2.1.2.2.2.2.1 (fun (y6 : List ByteArray) => K .ret [.tv (.lf (.nilp)), .tv (.lf (.int .i64 4))] [some ⟨d.2.1.1, [.seq .str 0 d.2.1.2.1]⟩, some ⟨false, [.int .i64 d.2.2.1.2.1, .int .i64 d.2.2.1.2.2.1, .int .i64 d.2.2.1.2.2.2.1, .int .i64 d.2.2.1.2.2.2.2.1, .full 2]⟩, some ⟨false, [.seq .str 0 y6]⟩]) (fun (y5 : List ByteArray) => K (.exit 0) [.tv (.lf (.ptr 1 0))] [some ⟨d.2.1.1, [.seq .str 0 d.2.1.2.1]⟩, some ⟨false, [.int .i64 d.2.2.1.2.1, .int .i64 d.2.2.1.2.2.1, .int .i64 d.2.2.1.2.2.2.1, .int .i64 d.2.2.1.2.2.2.2.1, .full 2]⟩, some ⟨false, [.seq .str 0 y5]⟩]) k d.1.2.2.1 d.2.2.2.1.2.1) F (fun d K => by kernel_rfl)  (fun k d K => Eq.mp (by kernel_rfl) (L35_1_7g F k (f21_1 F) (f27_1 F) (f89_1 F)  (f35_1_l7 F) (G35_1_7 F F) d K))
theorem E35_1g (F : Nat) (c21_1 : ByteArray → (Bool → Option Res) → Option Res) (c27_1 : Int → Int → Int → Int → (Bool → Option Res) → Option Res) (c89_1 : Int → Int → Int → Int → (Int → Option Res) → Option Res) (l7 : List ByteArray → Int → Int → Int → Int → (List ByteArray → Option Res) → (List ByteArray → Option Res) → Nat → Int → List ByteArray → Option Res)  (d : sh35_1.den) (K : KF) : evBody Try.prog (tab [(21, (mkS sh21_1 (fun d K => c21_1 d.1.1 (fun (y0 : Bool) => K [.lf (.bool y0)] [])) noS)), (27, (mkS sh27_1 (fun d K => c27_1 d.1.1.1 d.1.1.2.1 d.1.1.2.2.1 d.1.1.2.2.2.1 (fun (y0 : Bool) => K [.lf (.bool y0)] [])) noS)), (89, (mkS sh89_1 (fun d K => c89_1 d.1.1.1 d.1.1.2.1 d.1.1.2.2.1 d.1.1.2.2.2.1 (fun (y0 : Int) => K [.lf (.int .i64 y0)] [])) noS))]) 45 1 (ltab [(7, mkG sh35_1_l7 [1, 6, 7] (outT [(.exit 0, [6]), (.ret, [4, 5])]) (fun d K => l7 d.2.1.2.1 d.2.2.1.2.1 d.2.2.1.2.2.1 d.2.2.1.2.2.2.1 d.2.2.1.2.2.2.2.1 (fun (y6 : List ByteArray) => K .ret [.tv (.lf (.nilp)), .tv (.lf (.int .i64 4))] [some ⟨d.2.1.1, [.seq .str 0 d.2.1.2.1]⟩, some ⟨false, [.int .i64 d.2.2.1.2.1, .int .i64 d.2.2.1.2.2.1, .int .i64 d.2.2.1.2.2.2.1, .int .i64 d.2.2.1.2.2.2.2.1, .full 2]⟩, some ⟨false, [.seq .str 0 y6]⟩]) (fun (y5 : List ByteArray) => K (.exit 0) [.tv (.lf (.ptr 1 0))] [some ⟨d.2.1.1, [.seq .str 0 d.2.1.2.1]⟩, some ⟨false, [.int .i64 d.2.2.1.2.1, .int .i64 d.2.2.1.2.2.1, .int .i64 d.2.2.1.2.2.2.1, .int .i64 d.2.2.1.2.2.2.2.1, .full 2]⟩, some ⟨false, [.seq .str 0 y5]⟩]) F d.1.2.2.1 d.2.2.2.1.2.1))]) code35 Try.f35.results.toList (encT sh35_1.vs d.1) (encH sh35_1.h d.2) K = (fun (a1 : Int) (a2 : Int) (a3 : Int) (a4 : Int) (a5 : List ByteArray) (K0 : (Int → Option Res)) (K1 : (List ByteArray → Option Res)) => c27_1 a1 a2 a3 a4 (fun x1 => cond (!x1) (K0 12) (c89_1 a1 a2 a3 a4 (fun x2 => cond (((a5.length : Nat) : Int) != x2) (K0 8) (l7 a5 a1 a2 a3 a4 (fun x11 => K0 4) (fun x12 => K1 x12) F 0 [])) )) ) d.1.1.1 d.1.1.2.1 d.1.1.2.2.1 d.1.1.2.2.2.1 d.2.1.2.1 (fun (y0 : Int) => K [.lf (.nilp), .lf (.int .i64 y0)] [some ⟨d.2.1.1, [.seq .str 0 d.2.1.2.1]⟩]) (fun (y6 : List ByteArray) => K [.lf (.ptr 1 0), .lf (.int .i64 0)] [some ⟨d.2.1.1, [.seq .str 0 d.2.1.2.1]⟩, some ⟨false, [.int .i64 d.1.1.1, .int .i64 d.1.1.2.1, .int .i64 d.1.1.2.2.1, .int .i64 d.1.1.2.2.2.1, .full 2]⟩, some ⟨false, [.seq .str 0 y6]⟩]) := by kernel_rfl
theorem E35_1 (F : Nat) (d : sh35_1.den) (K : KF) : evBody Try.prog (T35_1 F) 45 1 (LT35_1 F) code35 Try.f35.results.toList (encT sh35_1.vs d.1) (encH sh35_1.h d.2) K = f35_1 F d.1.1.1 d.1.1.2.1 d.1.1.2.2.1 d.1.1.2.2.2.1 d.2.1.2.1 (fun (y0 : Int) => K [.lf (.nilp), .lf (.int .i64 y0)] [some ⟨d.2.1.1, [.seq .str 0 d.2.1.2.1]⟩]) (fun (y6 : List ByteArray) => K [.lf (.ptr 1 0), .lf (.int .i64 0)] [some ⟨d.2.1.1, [.seq .str 0 d.2.1.2.1]⟩, some ⟨false, [.int .i64 d.1.1.1, .int .i64 d.1.1.2.1, .int .i64 d.1.1.2.2.1, .int .i64 d.1.1.2.2.2.1, .full 2]⟩, some ⟨false, [.seq .str 0 y6]⟩]) := Eq.mp (by kernel_rfl) (E35_1g F (f21_1 F) (f27_1 F) (f89_1 F) (f35_1_l7 F)  d K)
theorem S35_1_ok (F : Nat) (o : Summ) (ho : SoundFn Try.prog 35 o) : SoundFn Try.prog 35 (S35_1 F o) :=
  soundFn_of (fn := Try.f35) (c := code35) (by kernel_rfl) (tab_cons (S21_1_ok F _ (noS_sound enter21)) (tab_cons (S27_1_ok F _ (noS_sound enter27)) (tab_cons (S89_1_ok F _ (noS_sound enter89)) tab_nil))) (by kernel_rfl) (by kernel_rfl) ho (by rw [loops35]; exact (loopsOK_cons (by kernel_rfl) (L35_1_7 F) loopsOK_nil)) (by rw [scopes35]; exact scopesOK_nil) (E35_1 F)
end Go.Proofs.Ytjlolgpbidfmeaa.X
end

section
/- Trees: the code's and the document's nodes, New and From are one. -/
namespace Go.Proofs.Ytjlolgpbidfmeaa.X
open Go Go.Proofs.Ytjlolgpbidfmeaa.Ev
set_option linter.unusedVariables false

def D32 (L : List ByteArray) : Prop := ∀ d ∈ L, d.size = 32

theorem getB_mem {l : List ByteArray} {j : Nat} (h : j < l.length) : l.getD j ByteArray.empty ∈ l := by
  rw [List.getD_eq_getElem?_getD, List.getElem?_eq_getElem h]; simp

theorem atI {l r : List Int} {x : Int} {i : Nat} (hd : l.drop i = x :: r) : i < l.length ∧ l.getD (0 + (i : Int).toNat) 0 = x ∧ l.drop (i + 1) = r := at_drop hd
theorem nilI {l : List Int} {i : Nat} (hd : l.drop i = []) (hi : i ≤ l.length) : i = l.length := by
  have := congrArg List.length hd
  simp at this; omega

def gets (L : List ByteArray) (cs : List Int) : List ByteArray := cs.map fun c => L.getD c.toNat ByteArray.empty
/-- A node's digest, by its children's. -/
def abv (n f c u : Int) (L : List ByteArray) (k : Int) : ByteArray := nodeD (gets L (chs f k (levels n f c u)))

theorem above82 {β : Type} {F : Nat} {n f c u : Int} {L : List ByteArray} {cs : List Int} {K : List ByteArray → Option β} (hL : ∀ x ∈ cs, 0 ≤ x ∧ x < L.length) (hl : cs.length ≤ 100) : ∀ (r : List Int) (i k : Nat) (acc : List ByteArray), cs.drop i = r → i ≤ cs.length → r.length < k → acc.length = i →
    f82_1_l3 F ((cs.length : Nat) : Int) n f c u L cs K k (i : Int) acc = K (acc ++ gets L r)
  | [], i, k, acc, hd, hi, hk, ha => by
    obtain ⟨k, rfl⟩ : ∃ j, k = j + 1 := ⟨k - 1, by omega⟩
    have := nilI hd hi
    simp only [f82_1_l3]
    rw [cf (by omega)]; simp [gets]
  | x :: r, i, k, acc, hd, hi, hk, ha => by
    obtain ⟨k, rfl⟩ : ∃ j, k = j + 1 := ⟨k - 1, by omega⟩
    obtain ⟨d1, d2, d3⟩ := atI hd
    have hx := hL x (by
      have : x ∈ cs.drop i := by rw [hd]; simp
      exact List.mem_of_mem_drop this)
    simp only [f82_1_l3]
    rw [ct (by omega), ct (by omega), ct (by omega), d2, ct (by omega), ct (by omega), ct (by omega), w64 (by omega) (by omega), show ((i : Int) + 1) = ((i + 1 : Nat) : Int) by omega,
      above82 hL hl r (i + 1) k _ d3 (by omega) (by simpa using hk) (by simp; omega)]
    simp [gets]

theorem above92 {β : Type} {F : Nat} {L : List ByteArray} {cs : List Int} {K : List ByteArray → Option β} (hL : ∀ x ∈ cs, 0 ≤ x ∧ x < L.length) (hl : cs.length ≤ 100) : ∀ (r : List Int) (i k : Nat) (acc : List ByteArray), cs.drop i = r → i ≤ cs.length → r.length < k → acc.length = i →
    f92_1_l4 F L cs K k (i : Int) acc = K (acc ++ gets L r)
  | [], i, k, acc, hd, hi, hk, ha => by
    obtain ⟨k, rfl⟩ : ∃ j, k = j + 1 := ⟨k - 1, by omega⟩
    have := nilI hd hi
    simp only [f92_1_l4]
    rw [cf (by omega)]; simp [gets]
  | x :: r, i, k, acc, hd, hi, hk, ha => by
    obtain ⟨k, rfl⟩ : ∃ j, k = j + 1 := ⟨k - 1, by omega⟩
    obtain ⟨d1, d2, d3⟩ := atI hd
    have hx := hL x (by
      have : x ∈ cs.drop i := by rw [hd]; simp
      exact List.mem_of_mem_drop this)
    simp only [f92_1_l4]
    rw [ct (by omega), ct (by omega), ct (by omega), d2, ct (by omega), ct (by omega), ct (by omega), w64 (by omega) (by omega), show ((i : Int) + 1) = ((i + 1 : Nat) : Int) by omega,
      above92 hL hl r (i + 1) k _ d3 (by omega) (by simpa using hk) (by simp; omega)]
    simp [gets]

theorem chs_lt {n f c u k : Int} (h : rt n f c u) (hk : 0 ≤ k) : ∀ x ∈ chs f k (levels n f c u), 0 ≤ x ∧ x < k := by
  intro x hx
  have h1 := (chs_mem h hk).1 hx
  have h2 := prn_bd (x := x) h
  omega

theorem gets_size {L : List ByteArray} {cs : List Int} (hd : D32 L) (hL : ∀ x ∈ cs, 0 ≤ x ∧ x < L.length) : ∀ y ∈ gets L cs, y.size ≤ 100 := by
  intro y hy
  obtain ⟨x, hx, rfl⟩ := List.mem_map.1 hy
  have := hL x hx
  rw [hd _ (getB_mem (by omega))]; omega

theorem aboveP {β : Type} {n f c u k : Int} {L : List ByteArray} {K : ByteArray → Option β} (h : rt n f c u) (hk : 0 ≤ k) (hkl : k ≤ L.length) (hd : D32 L) : f82_1 20000 k n f c u L K = K (abv n f c u L k) := by
  have hl := chs_len f k (levels n f c u)
  have hf := h.2.1
  have hc : ∀ x ∈ chs f k (levels n f c u), 0 ≤ x ∧ x < L.length := fun x hx => by have := chs_lt h hk x hx; omega
  have hn : (gets L (chs f k (levels n f c u))).length ≤ 900 := by simp [gets]; omega
  simp only [f82_1, chs58]
  have := above82 (F := 20000) (n := n) (f := f) (c := c) (u := u) (K := fun x11 => f18_1 20000 x11 fun x12 => K x12) hc (by omega) _ 0 20000 [] rfl (by omega) (by simp; omega) rfl
  rw [show ((0 : Nat) : Int) = 0 from rfl] at this
  rw [this, List.nil_append, List.drop_zero, nodeP (by omega) hn (gets_size hd hc)]
  rfl

theorem aboveR {β : Type} {n f c u k : Int} {L : List ByteArray} {K : ByteArray → Option β} (h : rt n f c u) (hk : 0 ≤ k) (hkl : k ≤ L.length) (hd : D32 L) : f92_1 20000 n f c u k L K = K (abv n f c u L k) := by
  have hl := chs_len f k (levels n f c u)
  have hf := h.2.1
  have hc : ∀ x ∈ chs f k (levels n f c u), 0 ≤ x ∧ x < L.length := fun x hx => by have := chs_lt h hk x hx; omega
  have hn : (gets L (chs f k (levels n f c u))).length ≤ 900 := by simp [gets]; omega
  simp only [f92_1, chs59]
  have := above92 (F := 20000) (L := L) (K := fun x11 => f19_1 20000 x11 fun x12 => K x12) hc (by omega) _ 0 20000 [] rfl (by omega) (by simp; omega) rfl
  rw [show ((0 : Nat) : Int) = 0 from rfl] at this
  rw [this, List.nil_append, List.drop_zero, nodeR (by omega) hn (gets_size hd hc)]
  rfl

/-- Nodes above the leaves, one after another. -/
def bld (n f c u : Int) : Nat → List ByteArray → List ByteArray
  | 0, L => L
  | m + 1, L => bld n f c u m (L ++ [abv n f c u L (L.length : Int)])

theorem D32_app {L : List ByteArray} {x : ByteArray} (h : D32 L) (hx : x.size = 32) : D32 (L ++ [x]) := by
  intro y hy
  rcases List.mem_append.1 hy with hy | hy
  · exact h y hy
  · simp at hy; rw [hy]; exact hx

theorem bld_ok (n f c u : Int) : ∀ (m : Nat) (L : List ByteArray), D32 L → D32 (bld n f c u m L) ∧ (bld n f c u m L).length = L.length + m
  | 0, L, h => ⟨h, rfl⟩
  | m + 1, L, h => by
    obtain ⟨q1, q2⟩ := bld_ok n f c u m (L ++ [abv n f c u L (L.length : Int)]) (D32_app h (dig_size _))
    exact ⟨q1, by rw [bld, q2]; simp; omega⟩

theorem newNodes {β : Type} {n f c u : Int} {l : List ByteArray} {K : List ByteArray → Option β} (h : rt n f c u) : ∀ (m k : Nat) (L : List ByteArray), (L.length : Int) + m = nodes n f c u → m < k → D32 L →
    f30_1_l14 20000 l n f c u n f c u K k (L.length : Int) L = K (bld n f c u m L)
  | 0, k, L, hm, hk, hd => by
    obtain ⟨k, rfl⟩ : ∃ j, k = j + 1 := ⟨k - 1, by omega⟩
    simp only [f30_1_l14, root54, root, if_pos h]
    rw [cf (by omega)]; rfl
  | m + 1, k, L, hm, hk, hd => by
    obtain ⟨k, rfl⟩ : ∃ j, k = j + 1 := ⟨k - 1, by omega⟩
    have hn := nodes_ok n f c u
    simp only [f30_1_l14, root54, root, if_pos h]
    rw [ct (by omega), aboveP h (by omega) (by omega) hd, ct (by omega), w64 (by omega) (by omega), show ((L.length : Int) + 1) = ((L ++ [abv n f c u L (L.length : Int)]).length : Int) by simp]
    exact newNodes h m k _ (by simp; omega) (by omega) (D32_app hd (dig_size _))

theorem newNodesR {β : Type} {n f c u : Int} {l : List ByteArray} {K : List ByteArray → Option β} (h : rt n f c u) : ∀ (m k : Nat) (L : List ByteArray), (L.length : Int) + m = nodes n f c u → m < k → D32 L →
    f38_1_l14 20000 (nodes n f c u) l n f c u n f c u K k (L.length : Int) L = K (bld n f c u m L)
  | 0, k, L, hm, hk, hd => by
    obtain ⟨k, rfl⟩ : ∃ j, k = j + 1 := ⟨k - 1, by omega⟩
    simp only [f38_1_l14]
    rw [cf (by omega)]; rfl
  | m + 1, k, L, hm, hk, hd => by
    obtain ⟨k, rfl⟩ : ∃ j, k = j + 1 := ⟨k - 1, by omega⟩
    have hn := nodes_ok n f c u
    simp only [f38_1_l14]
    rw [ct (by omega), aboveR h (by omega) (by omega) hd, ct (by omega), w64 (by omega) (by omega), show ((L.length : Int) + 1) = ((L ++ [abv n f c u L (L.length : Int)]).length : Int) by simp]
    exact newNodesR h m k _ (by simp; omega) (by omega) (D32_app hd (dig_size _))

def bad64 (s : ByteArray) : Bool := !((s.size : Int) == 64)
def bad32 (s : ByteArray) : Bool := !((s.size : Int) == 32)

theorem any64 {β : Type} {F : Nat} {l : List ByteArray} {K0 : Int → Option β} {K1 : Option β} {K : Bool → Option β} (hl : l.length ≤ 10000) (h0 : ∀ i : Nat, K0 (i : Int) = K true) (h1 : K1 = K false) : ∀ (r : List ByteArray) (i k : Nat), l.drop i = r → i ≤ l.length → r.length < k →
    f122_2911_l2 F ((l.length : Nat) : Int) l K0 K1 k (i : Int) = K (r.any bad64)
  | [], i, k, hd, hi, hk => by
    obtain ⟨k, rfl⟩ : ∃ j, k = j + 1 := ⟨k - 1, by omega⟩
    have := nilB hd hi
    simp only [f122_2911_l2]
    rw [cf (by omega), h1]; rfl
  | x :: r, i, k, hd, hi, hk => by
    obtain ⟨k, rfl⟩ : ∃ j, k = j + 1 := ⟨k - 1, by omega⟩
    obtain ⟨d1, d2, d3⟩ := atB hd
    simp only [f122_2911_l2, f79_1, f80_1]
    rw [ct (by omega), ct (by omega), ct (by omega), d2, w64 (by omega) (by omega), show ((i : Int) + 1) = ((i + 1 : Nat) : Int) by omega, any64 hl h0 h1 r (i + 1) k d3 (by omega) (by simpa using hk), h0]
    simp only [List.any_cons, bad64]
    cases (x.size : Int) == 64 <;> rfl

theorem any32 {β : Type} {F : Nat} {l : List ByteArray} {K0 : Int → Option β} {K1 : Option β} {K : Bool → Option β} (hl : l.length ≤ 10000) (h0 : ∀ i : Nat, K0 (i : Int) = K true) (h1 : K1 = K false) : ∀ (r : List ByteArray) (i k : Nat), l.drop i = r → i ≤ l.length → r.length < k →
    f122_1421_l2 F ((l.length : Nat) : Int) l K0 K1 k (i : Int) = K (r.any bad32)
  | [], i, k, hd, hi, hk => by
    obtain ⟨k, rfl⟩ : ∃ j, k = j + 1 := ⟨k - 1, by omega⟩
    have := nilB hd hi
    simp only [f122_1421_l2]
    rw [cf (by omega), h1]; rfl
  | x :: r, i, k, hd, hi, hk => by
    obtain ⟨k, rfl⟩ : ∃ j, k = j + 1 := ⟨k - 1, by omega⟩
    obtain ⟨d1, d2, d3⟩ := atB hd
    simp only [f122_1421_l2, f87_1, f20_1]
    rw [ct (by omega), ct (by omega), ct (by omega), d2, w64 (by omega) (by omega), show ((i : Int) + 1) = ((i + 1 : Nat) : Int) by omega, any32 hl h0 h1 r (i + 1) k d3 (by omega) (by simpa using hk), h0]
    simp only [List.any_cons, bad32]
    cases (x.size : Int) == 32 <;> rfl

theorem contains64 {β : Type} {F : Nat} {l : List ByteArray} {K : Bool → Option β} (hl : l.length ≤ 10000) (hF : 10000 < F) : f78_2911 F l K = K (l.any bad64) := by
  simp only [f78_2911, f122_2911]
  exact any64 (F := F) (K0 := fun x5 => K (decide (x5 ≥ 0))) (K1 := K (decide ((-1 : Int) ≥ 0))) (K := K) hl (fun i => by simp) rfl l 0 F rfl (by omega) (by omega)

theorem contains32 {β : Type} {F : Nat} {l : List ByteArray} {K : Bool → Option β} (hl : l.length ≤ 10000) (hF : 10000 < F) : f78_1421 F l K = K (l.any bad32) := by
  simp only [f78_1421, f122_1421]
  exact any32 (F := F) (K0 := fun x5 => K (decide (x5 ≥ 0))) (K1 := K (decide ((-1 : Int) ≥ 0))) (K := K) hl (fun i => by simp) rfl l 0 F rfl (by omega) (by omega)

theorem leavesP {β : Type} {F : Nat} {n f c u : Int} {l : List ByteArray} {K : List ByteArray → Option β} (hF : 2000 ≤ F) (hl : l.length ≤ 10000) (h64 : ∀ x ∈ l, x.size = 64) : ∀ (r : List ByteArray) (i k : Nat) (acc : List ByteArray), l.drop i = r → i ≤ l.length → r.length < k → acc.length = i →
    f30_1_l9 F ((l.length : Nat) : Int) l n f c u n f c u K k (i : Int) acc = K (acc ++ r.map leafD)
  | [], i, k, acc, hd, hi, hk, ha => by
    obtain ⟨k, rfl⟩ : ∃ j, k = j + 1 := ⟨k - 1, by omega⟩
    have := nilB hd hi
    simp only [f30_1_l9]
    rw [cf (by omega)]; simp
  | x :: r, i, k, acc, hd, hi, hk, ha => by
    obtain ⟨k, rfl⟩ : ∃ j, k = j + 1 := ⟨k - 1, by omega⟩
    obtain ⟨d1, d2, d3⟩ := atB hd
    have hx := h64 x (by
      have : x ∈ l.drop i := by rw [hd]; simp
      exact List.mem_of_mem_drop this)
    simp only [f30_1_l9]
    rw [ct (by omega), ct (by omega), ct (by omega), d2, leafP hF (by omega), ct (by omega), w64 (by omega) (by omega), show ((i : Int) + 1) = ((i + 1 : Nat) : Int) by omega,
      leavesP hF hl h64 r (i + 1) k _ d3 (by omega) (by simpa using hk) (by simp; omega)]
    simp

theorem leavesR {β : Type} {F : Nat} {n f c u : Int} {l : List ByteArray} {K0 K1 : List ByteArray → Option β} {z : Option β} (h0 : ∀ x, K0 x = z) (hF : 2000 ≤ F) (hl : l.length ≤ 10000) : ∀ (r : List ByteArray) (i k : Nat) (acc : List ByteArray), l.drop i = r → i ≤ l.length → r.length < k → acc.length = i →
    f38_1_l7 F l n f c u n f c u K0 K1 k (i : Int) acc = cond (r.any bad64) z (K1 (acc ++ r.map leafD))
  | [], i, k, acc, hd, hi, hk, ha => by
    obtain ⟨k, rfl⟩ : ∃ j, k = j + 1 := ⟨k - 1, by omega⟩
    have := nilB hd hi
    simp only [f38_1_l7]
    rw [cf (by omega)]; simp
  | x :: r, i, k, acc, hd, hi, hk, ha => by
    obtain ⟨k, rfl⟩ : ∃ j, k = j + 1 := ⟨k - 1, by omega⟩
    obtain ⟨d1, d2, d3⟩ := atB hd
    simp only [f38_1_l7, f91_1]
    rw [ct (by omega), ct (by omega), ct (by omega), d2]
    by_cases hx : x.size = 64
    · have e : ((x.size : Int) == 64) = true := by simp; omega
      simp only [e, Bool.not_true, cond_false, List.any_cons, bad64, Bool.false_or]
      rw [ct (by omega), ct (by omega), leafR hF (by omega), ct (by omega), w64 (by omega) (by omega), show ((i : Int) + 1) = ((i + 1 : Nat) : Int) by omega,
        leavesR h0 hF hl r (i + 1) k _ d3 (by omega) (by simpa using hk) (by simp; omega)]
      simp [bad64]
    · have e : ((x.size : Int) == 64) = false := by simp; omega
      simp only [e, Bool.not_false, cond_true, List.any_cons, bad64, Bool.true_or, h0]

/-- A tree of sectors, or why there is none. -/
def newT (n f c u : Int) (l : List ByteArray) : Sum Int (List ByteArray) :=
  if rt n f c u then
    if (l.length : Int) = n then
      if l.any bad64 then .inl 4 else .inr (bld n f c u (nodes n f c u - n).toNat (l.map leafD))
    else .inl 8
  else .inl 12

def fromT (n f c u : Int) (l : List ByteArray) : Sum Int (List ByteArray) :=
  if rt n f c u then
    if (l.length : Int) = nodes n f c u then
      if l.any bad32 then .inl 4 else .inr l
    else .inl 8
  else .inl 12

def sel {β : Type} (K0 : Int → Option β) (K1 : List ByteArray → Option β) : Sum Int (List ByteArray) → Option β
  | .inl e => K0 e
  | .inr L => K1 L

theorem ok64 {l : List ByteArray} (h : l.any bad64 = false) : ∀ x ∈ l, x.size = 64 := by
  intro x hx
  have := List.any_eq_false.1 h x hx
  simp [bad64] at this
  omega

theorem D32_leaves (l : List ByteArray) : D32 (l.map leafD) := by
  intro y hy
  obtain ⟨x, hx, rfl⟩ := List.mem_map.1 hy
  exact dig_size _

theorem bne_f {a b : Int} (h : a = b) : (a != b) = false := by simp [h]
theorem bne_t {a b : Int} (h : a ≠ b) : (a != b) = true := by simp [h]

theorem newP {β : Type} {n f c u : Int} {l : List ByteArray} {K0 : Int → Option β} {K1 : List ByteArray → Option β} : f30_1 20000 n f c u l K0 K1 = sel K0 K1 (newT n f c u l) := by
  simp only [f30_1, right46, newT]
  by_cases h : rt n f c u
  · simp only [h, decide_true, Bool.not_true, cond_false, if_true]
    have h1 := h.1
    by_cases hl : (l.length : Int) = n
    · rw [bne_f hl, if_pos hl, cond_false, contains64 (by omega) (by omega)]
      cases ha : l.any bad64 with
      | true => rfl
      | false =>
        have hn := nodes_ok n f c u
        have hn2 := n_le h
        simp only [cond_false, Bool.false_eq_true, if_false, sel]
        have := leavesP (F := 20000) (n := n) (f := f) (c := c) (u := u) (K := fun x16 => f30_1_l14 20000 l n f c u n f c u (fun x30 => K1 x30) 20000 n x16) (by omega) (by omega) (ok64 ha) l 0 20000 [] rfl (by omega) (by omega) rfl
        rw [show ((0 : Nat) : Int) = 0 from rfl] at this
        rw [this, List.nil_append]
        have h2 := newNodes (l := l) (K := fun x30 => K1 x30) h (nodes n f c u - n).toNat 20000 (l.map leafD) (by simp; omega) (by omega) (D32_leaves l)
        rw [show (((l.map leafD).length : Nat) : Int) = n by simp; omega] at h2
        exact h2
    · rw [bne_t hl, if_neg hl]; rfl
  · simp only [h, decide_false, Bool.not_false, cond_true, if_false, sel]

theorem cond_ff {α : Sort _} {a b : α} : cond (!true) a b = b := rfl
theorem cond_tt {α : Sort _} {a b : α} : cond (!false) a b = a := rfl
theorem cond_t {α : Sort _} {a b : α} : cond true a b = a := rfl

theorem newR {β : Type} {n f c u : Int} {l : List ByteArray} {K0 : Int → Option β} {K1 : List ByteArray → Option β} : f38_1 20000 n f c u l K0 K1 = sel K0 K1 (newT n f c u l) := by
  rw [f38_1, right47, newT]
  by_cases h : rt n f c u
  · rw [decide_eq_true h, if_pos h, cond_ff]
    have h1 := h.1
    by_cases hl : (l.length : Int) = n
    · have hn := nodes_ok n f c u
      have hn2 := n_le h
      rw [bne_f hl, if_pos hl, cond_false]
      have := leavesR (F := 20000) (n := n) (f := f) (c := c) (u := u) (K0 := fun x15 => K0 4) (z := K0 4) (K1 := fun x16 => f89_1 20000 n f c u (fun x17 => f38_1_l14 20000 x17 l n f c u n f c u (fun x31 => K1 x31) 20000 n x16)) (fun _ => rfl) (by omega) (by omega) l 0 20000 [] rfl (by omega) (by omega) rfl
      rw [show ((0 : Nat) : Int) = 0 from rfl] at this
      rw [this, List.nil_append]
      cases ha : l.any bad64 with
      | true => rw [cond_t, if_pos rfl, sel]
      | false =>
        rw [cond_false, nodes51]
        have h2 := newNodesR (l := l) (K := fun x30 => K1 x30) h (nodes n f c u - n).toNat 20000 (l.map leafD) (by simp; omega) (by omega) (D32_leaves l)
        rw [show (((l.map leafD).length : Nat) : Int) = n by simp; omega] at h2
        rw [h2, if_neg (by simp), sel]
    · rw [bne_t hl, if_neg hl, cond_t, sel]
  · rw [decide_eq_false h, if_neg h, cond_tt, sel]

theorem cloneP {β : Type} {F : Nat} {l : List ByteArray} {K : List ByteArray → Option β} (hl : l.length ≤ 100000) : f88_1 F l K = K l := by
  simp only [f88_1, List.nil_append]
  by_cases h : 0 < l.length
  · rw [ct h, ct (by omega)]
  · have : l = [] := List.length_eq_zero_iff.1 (by omega)
    subst this
    rw [cf h, ct (by simp), amb_self]

theorem fromL {β : Type} {F : Nat} {n f c u : Int} {l : List ByteArray} {K0 K1 : List ByteArray → Option β} {z : Option β} (h0 : ∀ x, K0 x = z) (hl : l.length ≤ 20000) : ∀ (r : List ByteArray) (i k : Nat) (acc : List ByteArray), l.drop i = r → i ≤ l.length → r.length < k → acc.length = i →
    f35_1_l7 F l n f c u K0 K1 k (i : Int) acc = cond (r.any bad32) z (K1 (acc ++ r))
  | [], i, k, acc, hd, hi, hk, ha => by
    obtain ⟨k, rfl⟩ : ∃ j, k = j + 1 := ⟨k - 1, by omega⟩
    have := nilB hd hi
    simp only [f35_1_l7]
    rw [cf (by omega)]; simp
  | x :: r, i, k, acc, hd, hi, hk, ha => by
    obtain ⟨k, rfl⟩ : ∃ j, k = j + 1 := ⟨k - 1, by omega⟩
    obtain ⟨d1, d2, d3⟩ := atB hd
    simp only [f35_1_l7, f21_1]
    rw [ct (by omega), ct (by omega), ct (by omega), d2]
    by_cases hx : x.size = 32
    · have e : ((x.size : Int) == 32) = true := by simp; omega
      simp only [e, Bool.not_true, cond_false, List.any_cons, bad32, Bool.false_or]
      rw [ct (by omega), ct (by omega), ct (by omega), w64 (by omega) (by omega), show ((i : Int) + 1) = ((i + 1 : Nat) : Int) by omega,
        fromL h0 hl r (i + 1) k _ d3 (by omega) (by simpa using hk) (by simp; omega)]
      simp [bad32]
    · have e : ((x.size : Int) == 32) = false := by simp; omega
      simp only [e, Bool.not_false, cond_true, List.any_cons, bad32, Bool.true_or, h0]

theorem fromP {β : Type} {n f c u : Int} {l : List ByteArray} {K0 : Int → Option β} {K1 : List ByteArray → Option β} : f34_1 20000 n f c u l K0 K1 = sel K0 K1 (fromT n f c u l) := by
  simp only [f34_1, right46, nodes50, fromT]
  by_cases h : rt n f c u
  · have hn := nodes_up h
    simp only [h, decide_true, Bool.not_true, cond_false, if_true]
    by_cases hl : (l.length : Int) = nodes n f c u
    · rw [bne_f hl, if_pos hl, cond_false, contains32 (by omega) (by omega), cloneP (by omega)]
      cases ha : l.any bad32 <;> rfl
    · rw [bne_t hl, if_neg hl]; rfl
  · simp only [h, decide_false, Bool.not_false, cond_true, if_false, sel]

theorem fromR {β : Type} {n f c u : Int} {l : List ByteArray} {K0 : Int → Option β} {K1 : List ByteArray → Option β} : f35_1 20000 n f c u l K0 K1 = sel K0 K1 (fromT n f c u l) := by
  simp only [f35_1, right47, nodes51, fromT]
  by_cases h : rt n f c u
  · have hn := nodes_up h
    simp only [h, decide_true, Bool.not_true, cond_false, if_true]
    by_cases hl : (l.length : Int) = nodes n f c u
    · rw [bne_f hl, if_pos hl, cond_false]
      have := fromL (F := 20000) (n := n) (f := f) (c := c) (u := u) (K0 := fun _ => K0 4) (z := K0 4) (K1 := fun x12 => K1 x12) (fun _ => rfl) (by omega) l 0 20000 [] rfl (by omega) (by omega) rfl
      rw [show ((0 : Nat) : Int) = 0 from rfl] at this
      rw [this, List.nil_append]
      cases ha : l.any bad32 <;> rfl
    · rw [bne_t hl, if_neg hl]; rfl
  · simp only [h, decide_false, Bool.not_false, cond_true, if_false, sel]

theorem newT_ok {n f c u : Int} {l L : List ByteArray} (h : newT n f c u l = .inr L) : rt n f c u ∧ D32 L ∧ (L.length : Int) = nodes n f c u := by
  unfold newT at h
  split at h
  · rename_i hr
    split at h
    · rename_i hl
      split at h
      · cases h
      · have hn := n_le hr
        simp only [Sum.inr.injEq] at h
        subst h
        obtain ⟨q1, q2⟩ := bld_ok n f c u (nodes n f c u - n).toNat (l.map leafD) (D32_leaves l)
        exact ⟨hr, q1, by rw [q2]; simp; omega⟩
    · cases h
  · cases h

theorem ok32 {l : List ByteArray} (h : ¬ l.any bad32 = true) : D32 l := by
  intro x hx
  have := List.any_eq_false.1 (by simpa using h) x hx
  simp [bad32] at this
  omega

theorem fromT_ok {n f c u : Int} {l L : List ByteArray} (h : fromT n f c u l = .inr L) : rt n f c u ∧ D32 L ∧ (L.length : Int) = nodes n f c u := by
  unfold fromT at h
  split at h
  · rename_i hr
    split at h
    · rename_i hl
      split at h
      · cases h
      · rename_i hb
        simp only [Sum.inr.injEq] at h
        subst h
        exact ⟨hr, ok32 hb, hl⟩
    · cases h
  · cases h

end Go.Proofs.Ytjlolgpbidfmeaa.X
end

section
namespace Go.Proofs.Ytjlolgpbidfmeaa.X
open Go Go.Proofs.Ytjlolgpbidfmeaa.Ev Go.Proofs
set_option linter.unusedVariables false
/-! pentimentoref07.Ints -/
noncomputable def f37_1_l4 {β : Type} (F : Nat) (v2 : List Int) (v3 : List Int) (K0 : Option β) (K1 : Option β) : Nat → Int → Option β
  | 0, _ => none
  | k + 1, v1 => cond (decide (v1 < ((v2.length : Nat) : Int))) (cond (decide ((0 : Int) ≤ v1 ∧ v1 < ((v2.length : Nat) : Int))) (cond (decide (0 + v1.toNat < v2.length)) (cond (decide ((0 : Int) ≤ v1 ∧ v1 < ((v3.length : Nat) : Int))) (cond (decide (0 + v1.toNat < v3.length)) (cond ((v2.getD (0 + v1.toNat) 0) != (v3.getD (0 + v1.toNat) 0)) (K0) (f37_1_l4 F v2 v3 K0 K1 k (IntKind.i64.wrap (v1 + 1)))) none) none) none) none) (K1)
noncomputable def f37_1 {β : Type} (F : Nat) (a1 : List Int) (a2 : List Int) (K0 : Bool → Option β) : Option β := cond (((a1.length : Nat) : Int) != ((a2.length : Nat) : Int)) (K0 false) (f37_1_l4 F a1 a2 (K0 false) (K0 true) F 0)
def sh37_1 : Sh := ⟨[.lf (.full 0), .lf (.full 1)], [some ⟨none, [.seq (.int .i64) 0]⟩, some ⟨none, [.seq (.int .i64) 0]⟩]⟩
noncomputable def S37_1 (F : Nat) (o : Summ) : Summ := mkS sh37_1 (fun d K => f37_1 F d.2.1.2.1 d.2.2.1.2.1 (fun (y0 : Bool) => K [.lf (.bool y0)] [some ⟨d.2.1.1, [.seq (.int .i64) 0 d.2.1.2.1]⟩, some ⟨d.2.2.1.1, [.seq (.int .i64) 0 d.2.2.1.2.1]⟩])) o
noncomputable def code37 : Code := bodyOf Try.f37
noncomputable def b37_0 : Code := cB (cB (cR (cL (cR (cR (code37))))))
theorem scopes37 : scopesOf code37 = [] := by kernel_rfl
theorem loops37 : loopsOf code37 = [b37_0] := by kernel_rfl
theorem enter37 : ∀ args w, (callFunc 37 args).run Try.prog w = .ok (.enter 37 args) w := enter_of (fn := Try.f37) (by kernel_rfl) (by kernel_rfl) (by kernel_rfl)
noncomputable def T37_1 (F : Nat) : FuncId → Option Summ := tab []
def sh37_1_l4 : Sh := ⟨[.lf (.full 0), .lf (.full 1), .lf (.int .i64)], [some ⟨none, [.seq (.int .i64) 0]⟩, some ⟨none, [.seq (.int .i64) 0]⟩]⟩
noncomputable def G37_1_4 (F k : Nat) : LoopS := mkG sh37_1_l4 [0, 1, 5] (outT [(.exit 0, []), (.ret, [4])]) (fun d K => f37_1_l4 F d.2.1.2.1 d.2.2.1.2.1 (K .ret [.tv (.lf (.bool false))] [some ⟨d.2.1.1, [.seq (.int .i64) 0 d.2.1.2.1]⟩, some ⟨d.2.2.1.1, [.seq (.int .i64) 0 d.2.2.1.2.1]⟩]) (K (.exit 0) [] [some ⟨d.2.1.1, [.seq (.int .i64) 0 d.2.1.2.1]⟩, some ⟨d.2.2.1.1, [.seq (.int .i64) 0 d.2.2.1.2.1]⟩]) k d.1.2.2.1)
noncomputable def LT37_1 (F : Nat) : Nat → Option LoopS := ltab [(4, G37_1_4 F F)]
theorem L37_1_4g (F k : Nat)   (l4 : List Int → List Int → (Option Res) → (Option Res) → Nat → Int → Option Res) (X4 : LoopS) (d : sh37_1_l4.den) (K : KL) : (fun (v2 : List Int) (v3 : List Int) (K0 : (Option Res)) (K1 : (Option Res)) (k : Nat) (v1 : Int) => cond (decide (v1 < ((v2.length : Nat) : Int))) (cond (decide ((0 : Int) ≤ v1 ∧ v1 < ((v2.length : Nat) : Int))) (cond (decide (0 + v1.toNat < v2.length)) (cond (decide ((0 : Int) ≤ v1 ∧ v1 < ((v3.length : Nat) : Int))) (cond (decide (0 + v1.toNat < v3.length)) (cond ((v2.getD (0 + v1.toNat) 0) != (v3.getD (0 + v1.toNat) 0)) (K0) (l4 v2 v3 K0 K1 k (IntKind.i64.wrap (v1 + 1)))) none) none) none) none) (K1)) d.2.1.2.1 d.2.2.1.2.1 (K .ret [.tv (.lf (.bool false))] [some ⟨d.2.1.1, [.seq (.int .i64) 0 d.2.1.2.1]⟩, some ⟨d.2.2.1.1, [.seq (.int .i64) 0 d.2.2.1.2.1]⟩]) (K (.exit 0) [] [some ⟨d.2.1.1, [.seq (.int .i64) 0 d.2.1.2.1]⟩, some ⟨d.2.2.1.1, [.seq (.int .i64) 0 d.2.2.1.2.1]⟩]) k d.1.2.2.1 = roundOf Try.prog (tab []) 26 2 (ltab [(4, X4)]) (mkG sh37_1_l4 [0, 1, 5] (outT [(.exit 0, []), (.ret, [4])]) (fun d K => l4 d.2.1.2.1 d.2.2.1.2.1 (K .ret [.tv (.lf (.bool false))] [some ⟨d.2.1.1, [.seq (.int .i64) 0 d.2.1.2.1]⟩, some ⟨d.2.2.1.1, [.seq (.int .i64) 0 d.2.2.1.2.1]⟩]) (K (.exit 0) [] [some ⟨d.2.1.1, [.seq (.int .i64) 0 d.2.1.2.1]⟩, some ⟨d.2.2.1.1, [.seq (.int .i64) 0 d.2.2.1.2.1]⟩]) k d.1.2.2.1)) b37_0 (encT sh37_1_l4.vs d.1) (encH sh37_1_l4.h d.2) K := by kernel_rfl
theorem L37_1_4 (F : Nat) : LoopOK Try.prog (T37_1 F) 26 2 (LT37_1 F) (G37_1_4 F F) b37_0 :=
  loopOK_of (s := sh37_1_l4) (live := [0, 1, 5]) (out := (outT [(.exit 0, []), (.ret, [4])])) (fun k d K => f37_1_l4 F d.2.1.2.1 d.2.2.1.2.1 (K .ret [.tv (.lf (.bool false))] [some ⟨d.2.1.1, [.seq (.int .i64) 0 d.2.1.2.1]⟩, some ⟨d.2.2.1.1, [.seq (.int .i64) 0 d.2.2.1.2.1]⟩]) (K (.exit 0) [] [some ⟨d.2.1.1, [.seq (.int .i64) 0 d.2.1.2.1]⟩, some ⟨d.2.2.1.1, [.seq (.int .i64) 0 d.2.2.1.2.1]⟩]) k d.1.2.2.1) F (fun d K => by kernel_rfl)  (fun k d K => Eq.mp (by kernel_rfl) (L37_1_4g F k   (f37_1_l4 F) (G37_1_4 F F) d K))
theorem E37_1g (F : Nat)  (l4 : List Int → List Int → (Option Res) → (Option Res) → Nat → Int → Option Res)  (d : sh37_1.den) (K : KF) : evBody Try.prog (tab []) 26 2 (ltab [(4, mkG sh37_1_l4 [0, 1, 5] (outT [(.exit 0, []), (.ret, [4])]) (fun d K => l4 d.2.1.2.1 d.2.2.1.2.1 (K .ret [.tv (.lf (.bool false))] [some ⟨d.2.1.1, [.seq (.int .i64) 0 d.2.1.2.1]⟩, some ⟨d.2.2.1.1, [.seq (.int .i64) 0 d.2.2.1.2.1]⟩]) (K (.exit 0) [] [some ⟨d.2.1.1, [.seq (.int .i64) 0 d.2.1.2.1]⟩, some ⟨d.2.2.1.1, [.seq (.int .i64) 0 d.2.2.1.2.1]⟩]) F d.1.2.2.1))]) code37 Try.f37.results.toList (encT sh37_1.vs d.1) (encH sh37_1.h d.2) K = (fun (a1 : List Int) (a2 : List Int) (K0 : (Bool → Option Res)) => cond (((a1.length : Nat) : Int) != ((a2.length : Nat) : Int)) (K0 false) (l4 a1 a2 (K0 false) (K0 true) F 0)) d.2.1.2.1 d.2.2.1.2.1 (fun (y0 : Bool) => K [.lf (.bool y0)] [some ⟨d.2.1.1, [.seq (.int .i64) 0 d.2.1.2.1]⟩, some ⟨d.2.2.1.1, [.seq (.int .i64) 0 d.2.2.1.2.1]⟩]) := by kernel_rfl
theorem E37_1 (F : Nat) (d : sh37_1.den) (K : KF) : evBody Try.prog (T37_1 F) 26 2 (LT37_1 F) code37 Try.f37.results.toList (encT sh37_1.vs d.1) (encH sh37_1.h d.2) K = f37_1 F d.2.1.2.1 d.2.2.1.2.1 (fun (y0 : Bool) => K [.lf (.bool y0)] [some ⟨d.2.1.1, [.seq (.int .i64) 0 d.2.1.2.1]⟩, some ⟨d.2.2.1.1, [.seq (.int .i64) 0 d.2.2.1.2.1]⟩]) := Eq.mp (by kernel_rfl) (E37_1g F  (f37_1_l4 F)  d K)
theorem S37_1_ok (F : Nat) (o : Summ) (ho : SoundFn Try.prog 37 o) : SoundFn Try.prog 37 (S37_1 F o) :=
  soundFn_of (fn := Try.f37) (c := code37) (by kernel_rfl) tab_nil (by kernel_rfl) (by kernel_rfl) ho (by rw [loops37]; exact (loopsOK_cons (by kernel_rfl) (L37_1_4 F) loopsOK_nil)) (by rw [scopes37]; exact scopesOK_nil) (E37_1 F)
end Go.Proofs.Ytjlolgpbidfmeaa.X
end

section
/- Lists of numbers are compared; any seat. -/
namespace Go.Proofs.Ytjlolgpbidfmeaa.X
open Go Go.Proofs.Ytjlolgpbidfmeaa.Ev
set_option linter.unusedVariables false
theorem ints21l {β : Type} {F : Nat} {K0 K1 : Option β} {l : List Int} (hl : l.length ≤ 20000) : ∀ (r : List Int) (i k : Nat), l.drop i = r → i ≤ l.length → r.length < k → f37_1_l4 F l l K0 K1 k (i : Int) = K1
  | [], i, k, hd, hi, hk => by
    cases k with
    | zero => omega
    | succ k =>
      have : i = l.length := by
        have := congrArg List.length hd
        simp at this; omega
      subst this
      simp only [f37_1_l4]
      rw [cf (by omega)]
  | y :: r, i, k, hd, hi, hk => by
    cases k with
    | zero => omega
    | succ k =>
      obtain ⟨d1, d2, d3⟩ := at_drop hd
      have e : (y != y) = false := by simp
      simp only [f37_1_l4]
      rw [ct (by omega), ct (by omega), ct (by omega), ct (by omega), ct (by omega), d2, e, cond_false, w64 (by omega) (by omega), show ((i : Int) + 1) = ((i + 1 : Nat) : Int) by omega, ints21l hl r (i + 1) k d3 (by omega) (by simpa using hk)]

theorem ints21 {β : Type} {l : List Int} {K : Bool → Option β} (hl : l.length < 20000) : f37_1 20000 l l K = K true := by
  have := ints21l (F := 20000) (K0 := K false) (K1 := K true) (l := l) (by omega) l 0 20000 rfl (by omega) (by omega)
  simp only [f37_1, bne_self_eq_false, cond_false]
  exact this

end Go.Proofs.Ytjlolgpbidfmeaa.X
end

section
namespace Go.Proofs.Ytjlolgpbidfmeaa.X
open Go Go.Proofs.Ytjlolgpbidfmeaa.Ev Go.Proofs
set_option linter.unusedVariables false
/-! tree.Tree).Digest -/
noncomputable def f44_1 {β : Type} (F : Nat) (a1 : Int) (a2 : Int) (a3 : Int) (a4 : Int) (a5 : Int) (a6 : List ByteArray) (K0 : ByteArray → Int → Option β) : Option β := cond (decide (a1 < 0)) (K0 ByteArray.empty 3) (cond (decide (a1 ≥ ((a6.length : Nat) : Int))) (K0 ByteArray.empty 3) (cond (decide ((0 : Int) ≤ a1 ∧ a1 < ((a6.length : Nat) : Int))) (cond (decide (0 + a1.toNat < a6.length)) (K0 (a6.getD (0 + a1.toNat) ByteArray.empty) 0) none) none))
def sh44_1 : Sh := ⟨[.lf (.ptr 0 0), .lf (.int .i64)], [some ⟨none, [.int .i64, .int .i64, .int .i64, .int .i64, .full 1]⟩, some ⟨none, [.seq .str 0]⟩]⟩
noncomputable def S44_1 (F : Nat) (o : Summ) : Summ := mkS sh44_1 (fun d K => f44_1 F d.1.2.1 d.2.1.2.1 d.2.1.2.2.1 d.2.1.2.2.2.1 d.2.1.2.2.2.2.1 d.2.2.1.2.1 (fun (y0 : ByteArray) (y1 : Int) => K [.lf (.str y0), .lf (.int .i64 y1)] [some ⟨d.2.1.1, [.int .i64 d.2.1.2.1, .int .i64 d.2.1.2.2.1, .int .i64 d.2.1.2.2.2.1, .int .i64 d.2.1.2.2.2.2.1, .full 1]⟩, some ⟨d.2.2.1.1, [.seq .str 0 d.2.2.1.2.1]⟩])) o
noncomputable def code44 : Code := bodyOf Try.f44
theorem scopes44 : scopesOf code44 = [] := by kernel_rfl
theorem loops44 : loopsOf code44 = [] := by kernel_rfl
theorem enter44 : ∀ args w, (callFunc 44 args).run Try.prog w = .ok (.enter 44 args) w := enter_of (fn := Try.f44) (by kernel_rfl) (by kernel_rfl) (by kernel_rfl)
noncomputable def T44_1 (F : Nat) : FuncId → Option Summ := tab []
noncomputable def LT44_1 (F : Nat) : Nat → Option LoopS := ltab []
theorem E44_1g (F : Nat)    (d : sh44_1.den) (K : KF) : evBody Try.prog (tab []) 28 2 (ltab []) code44 Try.f44.results.toList (encT sh44_1.vs d.1) (encH sh44_1.h d.2) K = (fun (a1 : Int) (a2 : Int) (a3 : Int) (a4 : Int) (a5 : Int) (a6 : List ByteArray) (K0 : (ByteArray → Int → Option Res)) => cond (decide (a1 < 0)) (K0 ByteArray.empty 3) (cond (decide (a1 ≥ ((a6.length : Nat) : Int))) (K0 ByteArray.empty 3) (cond (decide ((0 : Int) ≤ a1 ∧ a1 < ((a6.length : Nat) : Int))) (cond (decide (0 + a1.toNat < a6.length)) (K0 (a6.getD (0 + a1.toNat) ByteArray.empty) 0) none) none))) d.1.2.1 d.2.1.2.1 d.2.1.2.2.1 d.2.1.2.2.2.1 d.2.1.2.2.2.2.1 d.2.2.1.2.1 (fun (y0 : ByteArray) (y1 : Int) => K [.lf (.str y0), .lf (.int .i64 y1)] [some ⟨d.2.1.1, [.int .i64 d.2.1.2.1, .int .i64 d.2.1.2.2.1, .int .i64 d.2.1.2.2.2.1, .int .i64 d.2.1.2.2.2.2.1, .full 1]⟩, some ⟨d.2.2.1.1, [.seq .str 0 d.2.2.1.2.1]⟩]) := by kernel_rfl
theorem E44_1 (F : Nat) (d : sh44_1.den) (K : KF) : evBody Try.prog (T44_1 F) 28 2 (LT44_1 F) code44 Try.f44.results.toList (encT sh44_1.vs d.1) (encH sh44_1.h d.2) K = f44_1 F d.1.2.1 d.2.1.2.1 d.2.1.2.2.1 d.2.1.2.2.2.1 d.2.1.2.2.2.2.1 d.2.2.1.2.1 (fun (y0 : ByteArray) (y1 : Int) => K [.lf (.str y0), .lf (.int .i64 y1)] [some ⟨d.2.1.1, [.int .i64 d.2.1.2.1, .int .i64 d.2.1.2.2.1, .int .i64 d.2.1.2.2.2.1, .int .i64 d.2.1.2.2.2.2.1, .full 1]⟩, some ⟨d.2.2.1.1, [.seq .str 0 d.2.2.1.2.1]⟩]) := Eq.mp (by kernel_rfl) (E44_1g F    d K)
theorem S44_1_ok (F : Nat) (o : Summ) (ho : SoundFn Try.prog 44 o) : SoundFn Try.prog 44 (S44_1 F o) :=
  soundFn_of (fn := Try.f44) (c := code44) (by kernel_rfl) tab_nil (by kernel_rfl) (by kernel_rfl) ho (by rw [loops44]; exact loopsOK_nil) (by rw [scopes44]; exact scopesOK_nil) (E44_1 F)
end Go.Proofs.Ytjlolgpbidfmeaa.X
end

section
namespace Go.Proofs.Ytjlolgpbidfmeaa.X
open Go Go.Proofs.Ytjlolgpbidfmeaa.Ev Go.Proofs
set_option linter.unusedVariables false
/-! tree.Tree).Geom -/
noncomputable def f45_1 {β : Type} (F : Nat) (a1 : Int) (a2 : Int) (a3 : Int) (a4 : Int) (a5 : List ByteArray) (K0 : Option β) : Option β := K0
def sh45_1 : Sh := ⟨[.lf (.ptr 0 0)], [some ⟨none, [.int .i64, .int .i64, .int .i64, .int .i64, .full 1]⟩, some ⟨none, [.seq .str 0]⟩]⟩
noncomputable def S45_1 (F : Nat) (o : Summ) : Summ := mkS sh45_1 (fun d K => f45_1 F d.2.1.2.1 d.2.1.2.2.1 d.2.1.2.2.2.1 d.2.1.2.2.2.2.1 d.2.2.1.2.1 (K [.agg [.int .i64 d.2.1.2.1, .int .i64 d.2.1.2.2.1, .int .i64 d.2.1.2.2.2.1, .int .i64 d.2.1.2.2.2.2.1]] [some ⟨d.2.1.1, [.int .i64 d.2.1.2.1, .int .i64 d.2.1.2.2.1, .int .i64 d.2.1.2.2.2.1, .int .i64 d.2.1.2.2.2.2.1, .full 1]⟩, some ⟨d.2.2.1.1, [.seq .str 0 d.2.2.1.2.1]⟩])) o
noncomputable def code45 : Code := bodyOf Try.f45
theorem scopes45 : scopesOf code45 = [] := by kernel_rfl
theorem loops45 : loopsOf code45 = [] := by kernel_rfl
theorem enter45 : ∀ args w, (callFunc 45 args).run Try.prog w = .ok (.enter 45 args) w := enter_of (fn := Try.f45) (by kernel_rfl) (by kernel_rfl) (by kernel_rfl)
noncomputable def T45_1 (F : Nat) : FuncId → Option Summ := tab []
noncomputable def LT45_1 (F : Nat) : Nat → Option LoopS := ltab []
theorem E45_1g (F : Nat)    (d : sh45_1.den) (K : KF) : evBody Try.prog (tab []) 10 2 (ltab []) code45 Try.f45.results.toList (encT sh45_1.vs d.1) (encH sh45_1.h d.2) K = (fun (a1 : Int) (a2 : Int) (a3 : Int) (a4 : Int) (a5 : List ByteArray) (K0 : (Option Res)) => K0) d.2.1.2.1 d.2.1.2.2.1 d.2.1.2.2.2.1 d.2.1.2.2.2.2.1 d.2.2.1.2.1 (K [.agg [.int .i64 d.2.1.2.1, .int .i64 d.2.1.2.2.1, .int .i64 d.2.1.2.2.2.1, .int .i64 d.2.1.2.2.2.2.1]] [some ⟨d.2.1.1, [.int .i64 d.2.1.2.1, .int .i64 d.2.1.2.2.1, .int .i64 d.2.1.2.2.2.1, .int .i64 d.2.1.2.2.2.2.1, .full 1]⟩, some ⟨d.2.2.1.1, [.seq .str 0 d.2.2.1.2.1]⟩]) := by kernel_rfl
theorem E45_1 (F : Nat) (d : sh45_1.den) (K : KF) : evBody Try.prog (T45_1 F) 10 2 (LT45_1 F) code45 Try.f45.results.toList (encT sh45_1.vs d.1) (encH sh45_1.h d.2) K = f45_1 F d.2.1.2.1 d.2.1.2.2.1 d.2.1.2.2.2.1 d.2.1.2.2.2.2.1 d.2.2.1.2.1 (K [.agg [.int .i64 d.2.1.2.1, .int .i64 d.2.1.2.2.1, .int .i64 d.2.1.2.2.2.1, .int .i64 d.2.1.2.2.2.2.1]] [some ⟨d.2.1.1, [.int .i64 d.2.1.2.1, .int .i64 d.2.1.2.2.1, .int .i64 d.2.1.2.2.2.1, .int .i64 d.2.1.2.2.2.2.1, .full 1]⟩, some ⟨d.2.2.1.1, [.seq .str 0 d.2.2.1.2.1]⟩]) := Eq.mp (by kernel_rfl) (E45_1g F    d K)
theorem S45_1_ok (F : Nat) (o : Summ) (ho : SoundFn Try.prog 45 o) : SoundFn Try.prog 45 (S45_1 F o) :=
  soundFn_of (fn := Try.f45) (c := code45) (by kernel_rfl) tab_nil (by kernel_rfl) (by kernel_rfl) ho (by rw [loops45]; exact loopsOK_nil) (by rw [scopes45]; exact scopesOK_nil) (E45_1 F)
end Go.Proofs.Ytjlolgpbidfmeaa.X
end

section
namespace Go.Proofs.Ytjlolgpbidfmeaa.X
open Go Go.Proofs.Ytjlolgpbidfmeaa.Ev Go.Proofs
set_option linter.unusedVariables false
/-! pentimentoref12.Tree).Digest -/
noncomputable def f93_1 {β : Type} (F : Nat) (a1 : Int) (a2 : Int) (a3 : Int) (a4 : Int) (a5 : Int) (a6 : List ByteArray) (K0 : ByteArray → Int → Option β) : Option β := cond (decide (a1 < 0)) (K0 ByteArray.empty 3) (cond (decide (a1 ≥ ((a6.length : Nat) : Int))) (K0 ByteArray.empty 3) (cond (decide ((0 : Int) ≤ a1 ∧ a1 < ((a6.length : Nat) : Int))) (cond (decide (0 + a1.toNat < a6.length)) (K0 (a6.getD (0 + a1.toNat) ByteArray.empty) 0) none) none))
def sh93_1 : Sh := ⟨[.lf (.ptr 0 0), .lf (.int .i64)], [some ⟨none, [.int .i64, .int .i64, .int .i64, .int .i64, .full 1]⟩, some ⟨none, [.seq .str 0]⟩]⟩
noncomputable def S93_1 (F : Nat) (o : Summ) : Summ := mkS sh93_1 (fun d K => f93_1 F d.1.2.1 d.2.1.2.1 d.2.1.2.2.1 d.2.1.2.2.2.1 d.2.1.2.2.2.2.1 d.2.2.1.2.1 (fun (y0 : ByteArray) (y1 : Int) => K [.lf (.str y0), .lf (.int .i64 y1)] [some ⟨d.2.1.1, [.int .i64 d.2.1.2.1, .int .i64 d.2.1.2.2.1, .int .i64 d.2.1.2.2.2.1, .int .i64 d.2.1.2.2.2.2.1, .full 1]⟩, some ⟨d.2.2.1.1, [.seq .str 0 d.2.2.1.2.1]⟩])) o
noncomputable def code93 : Code := bodyOf Try.f93
theorem scopes93 : scopesOf code93 = [] := by kernel_rfl
theorem loops93 : loopsOf code93 = [] := by kernel_rfl
theorem enter93 : ∀ args w, (callFunc 93 args).run Try.prog w = .ok (.enter 93 args) w := enter_of (fn := Try.f93) (by kernel_rfl) (by kernel_rfl) (by kernel_rfl)
noncomputable def T93_1 (F : Nat) : FuncId → Option Summ := tab []
noncomputable def LT93_1 (F : Nat) : Nat → Option LoopS := ltab []
theorem E93_1g (F : Nat)    (d : sh93_1.den) (K : KF) : evBody Try.prog (tab []) 24 2 (ltab []) code93 Try.f93.results.toList (encT sh93_1.vs d.1) (encH sh93_1.h d.2) K = (fun (a1 : Int) (a2 : Int) (a3 : Int) (a4 : Int) (a5 : Int) (a6 : List ByteArray) (K0 : (ByteArray → Int → Option Res)) => cond (decide (a1 < 0)) (K0 ByteArray.empty 3) (cond (decide (a1 ≥ ((a6.length : Nat) : Int))) (K0 ByteArray.empty 3) (cond (decide ((0 : Int) ≤ a1 ∧ a1 < ((a6.length : Nat) : Int))) (cond (decide (0 + a1.toNat < a6.length)) (K0 (a6.getD (0 + a1.toNat) ByteArray.empty) 0) none) none))) d.1.2.1 d.2.1.2.1 d.2.1.2.2.1 d.2.1.2.2.2.1 d.2.1.2.2.2.2.1 d.2.2.1.2.1 (fun (y0 : ByteArray) (y1 : Int) => K [.lf (.str y0), .lf (.int .i64 y1)] [some ⟨d.2.1.1, [.int .i64 d.2.1.2.1, .int .i64 d.2.1.2.2.1, .int .i64 d.2.1.2.2.2.1, .int .i64 d.2.1.2.2.2.2.1, .full 1]⟩, some ⟨d.2.2.1.1, [.seq .str 0 d.2.2.1.2.1]⟩]) := by kernel_rfl
theorem E93_1 (F : Nat) (d : sh93_1.den) (K : KF) : evBody Try.prog (T93_1 F) 24 2 (LT93_1 F) code93 Try.f93.results.toList (encT sh93_1.vs d.1) (encH sh93_1.h d.2) K = f93_1 F d.1.2.1 d.2.1.2.1 d.2.1.2.2.1 d.2.1.2.2.2.1 d.2.1.2.2.2.2.1 d.2.2.1.2.1 (fun (y0 : ByteArray) (y1 : Int) => K [.lf (.str y0), .lf (.int .i64 y1)] [some ⟨d.2.1.1, [.int .i64 d.2.1.2.1, .int .i64 d.2.1.2.2.1, .int .i64 d.2.1.2.2.2.1, .int .i64 d.2.1.2.2.2.2.1, .full 1]⟩, some ⟨d.2.2.1.1, [.seq .str 0 d.2.2.1.2.1]⟩]) := Eq.mp (by kernel_rfl) (E93_1g F    d K)
theorem S93_1_ok (F : Nat) (o : Summ) (ho : SoundFn Try.prog 93 o) : SoundFn Try.prog 93 (S93_1 F o) :=
  soundFn_of (fn := Try.f93) (c := code93) (by kernel_rfl) tab_nil (by kernel_rfl) (by kernel_rfl) ho (by rw [loops93]; exact loopsOK_nil) (by rw [scopes93]; exact scopesOK_nil) (E93_1 F)
end Go.Proofs.Ytjlolgpbidfmeaa.X
end

section
namespace Go.Proofs.Ytjlolgpbidfmeaa.X
open Go Go.Proofs.Ytjlolgpbidfmeaa.Ev Go.Proofs
set_option linter.unusedVariables false
/-! pentimentoref12.Tree).Root -/
noncomputable def f94_1 {β : Type} (F : Nat) (a1 : Int) (a2 : Int) (a3 : Int) (a4 : Int) (a5 : List ByteArray) (K0 : ByteArray → Option β) : Option β := cond (decide ((0 : Int) ≤ IntKind.i64.wrap (((a5.length : Nat) : Int) - 1) ∧ IntKind.i64.wrap (((a5.length : Nat) : Int) - 1) < ((a5.length : Nat) : Int))) (cond (decide (0 + ((IntKind.i64.wrap (((a5.length : Nat) : Int) - 1)).toNat) < a5.length)) (K0 (a5.getD (0 + ((IntKind.i64.wrap (((a5.length : Nat) : Int) - 1)).toNat)) ByteArray.empty)) none) none
def sh94_1 : Sh := ⟨[.lf (.ptr 0 0)], [some ⟨none, [.int .i64, .int .i64, .int .i64, .int .i64, .full 1]⟩, some ⟨none, [.seq .str 0]⟩]⟩
noncomputable def S94_1 (F : Nat) (o : Summ) : Summ := mkS sh94_1 (fun d K => f94_1 F d.2.1.2.1 d.2.1.2.2.1 d.2.1.2.2.2.1 d.2.1.2.2.2.2.1 d.2.2.1.2.1 (fun (y0 : ByteArray) => K [.lf (.str y0)] [some ⟨d.2.1.1, [.int .i64 d.2.1.2.1, .int .i64 d.2.1.2.2.1, .int .i64 d.2.1.2.2.2.1, .int .i64 d.2.1.2.2.2.2.1, .full 1]⟩, some ⟨d.2.2.1.1, [.seq .str 0 d.2.2.1.2.1]⟩])) o
noncomputable def code94 : Code := bodyOf Try.f94
theorem scopes94 : scopesOf code94 = [] := by kernel_rfl
theorem loops94 : loopsOf code94 = [] := by kernel_rfl
theorem enter94 : ∀ args w, (callFunc 94 args).run Try.prog w = .ok (.enter 94 args) w := enter_of (fn := Try.f94) (by kernel_rfl) (by kernel_rfl) (by kernel_rfl)
noncomputable def T94_1 (F : Nat) : FuncId → Option Summ := tab []
noncomputable def LT94_1 (F : Nat) : Nat → Option LoopS := ltab []
theorem E94_1g (F : Nat)    (d : sh94_1.den) (K : KF) : evBody Try.prog (tab []) 15 2 (ltab []) code94 Try.f94.results.toList (encT sh94_1.vs d.1) (encH sh94_1.h d.2) K = (fun (a1 : Int) (a2 : Int) (a3 : Int) (a4 : Int) (a5 : List ByteArray) (K0 : (ByteArray → Option Res)) => cond (decide ((0 : Int) ≤ IntKind.i64.wrap (((a5.length : Nat) : Int) - 1) ∧ IntKind.i64.wrap (((a5.length : Nat) : Int) - 1) < ((a5.length : Nat) : Int))) (cond (decide (0 + ((IntKind.i64.wrap (((a5.length : Nat) : Int) - 1)).toNat) < a5.length)) (K0 (a5.getD (0 + ((IntKind.i64.wrap (((a5.length : Nat) : Int) - 1)).toNat)) ByteArray.empty)) none) none) d.2.1.2.1 d.2.1.2.2.1 d.2.1.2.2.2.1 d.2.1.2.2.2.2.1 d.2.2.1.2.1 (fun (y0 : ByteArray) => K [.lf (.str y0)] [some ⟨d.2.1.1, [.int .i64 d.2.1.2.1, .int .i64 d.2.1.2.2.1, .int .i64 d.2.1.2.2.2.1, .int .i64 d.2.1.2.2.2.2.1, .full 1]⟩, some ⟨d.2.2.1.1, [.seq .str 0 d.2.2.1.2.1]⟩]) := by kernel_rfl
theorem E94_1 (F : Nat) (d : sh94_1.den) (K : KF) : evBody Try.prog (T94_1 F) 15 2 (LT94_1 F) code94 Try.f94.results.toList (encT sh94_1.vs d.1) (encH sh94_1.h d.2) K = f94_1 F d.2.1.2.1 d.2.1.2.2.1 d.2.1.2.2.2.1 d.2.1.2.2.2.2.1 d.2.2.1.2.1 (fun (y0 : ByteArray) => K [.lf (.str y0)] [some ⟨d.2.1.1, [.int .i64 d.2.1.2.1, .int .i64 d.2.1.2.2.1, .int .i64 d.2.1.2.2.2.1, .int .i64 d.2.1.2.2.2.2.1, .full 1]⟩, some ⟨d.2.2.1.1, [.seq .str 0 d.2.2.1.2.1]⟩]) := Eq.mp (by kernel_rfl) (E94_1g F    d K)
theorem S94_1_ok (F : Nat) (o : Summ) (ho : SoundFn Try.prog 94 o) : SoundFn Try.prog 94 (S94_1 F o) :=
  soundFn_of (fn := Try.f94) (c := code94) (by kernel_rfl) tab_nil (by kernel_rfl) (by kernel_rfl) ho (by rw [loops94]; exact loopsOK_nil) (by rw [scopes94]; exact scopesOK_nil) (E94_1 F)
end Go.Proofs.Ytjlolgpbidfmeaa.X
end

section
namespace Go.Proofs.Ytjlolgpbidfmeaa.X
open Go Go.Proofs.Ytjlolgpbidfmeaa.Ev Go.Proofs
set_option linter.unusedVariables false
/-! pentimentoref12.Tree).Bad -/
noncomputable def f95_1_l3 {β : Type} (F : Nat) (v2 : Int) (v3 : Int) (v4 : Int) (v5 : Int) (v6 : List ByteArray) (K0 : List Int → Option β) : Nat → Int → List Int → Option β
  | 0, _, _ => none
  | k + 1, v1, v7 => cond (decide (v1 < ((v6.length : Nat) : Int))) (cond (decide ((0 : Int) ≤ v1 ∧ v1 < ((v6.length : Nat) : Int))) (cond (decide (0 + v1.toNat < v6.length)) (f92_1 F v2 v3 v4 v5 v1 v6 (fun x8 => cond (!((v6.getD (0 + v1.toNat) ByteArray.empty).toList == x8.toList)) (cond (decide ((v7.length + 1) * 8 ≤ 70368744177664)) (f95_1_l3 F v2 v3 v4 v5 v6 K0 k (IntKind.i64.wrap (v1 + 1)) (v7 ++ [v1])) none) (f95_1_l3 F v2 v3 v4 v5 v6 K0 k (IntKind.i64.wrap (v1 + 1)) v7)) ) none) none) (K0 v7)
noncomputable def f95_1 {β : Type} (F : Nat) (a1 : Int) (a2 : Int) (a3 : Int) (a4 : Int) (a5 : List ByteArray) (K0 : List Int → Option β) : Option β := f95_1_l3 F a1 a2 a3 a4 a5 (fun x9 => K0 x9) F a1 []
def sh95_1 : Sh := ⟨[.lf (.ptr 0 0)], [some ⟨none, [.int .i64, .int .i64, .int .i64, .int .i64, .full 1]⟩, some ⟨none, [.seq .str 0]⟩]⟩
noncomputable def S95_1 (F : Nat) (o : Summ) : Summ := mkS sh95_1 (fun d K => f95_1 F d.2.1.2.1 d.2.1.2.2.1 d.2.1.2.2.2.1 d.2.1.2.2.2.2.1 d.2.2.1.2.1 (fun (y5 : List Int) => K [.lf (.full 2)] [some ⟨d.2.1.1, [.int .i64 d.2.1.2.1, .int .i64 d.2.1.2.2.1, .int .i64 d.2.1.2.2.2.1, .int .i64 d.2.1.2.2.2.2.1, .full 1]⟩, some ⟨d.2.2.1.1, [.seq .str 0 d.2.2.1.2.1]⟩, some ⟨false, [.seq (.int .i64) 0 y5]⟩])) o
noncomputable def code95 : Code := bodyOf Try.f95
noncomputable def b95_0 : Code := cB (cB (cR (cL (cR (cR (code95))))))
theorem scopes95 : scopesOf code95 = [] := by kernel_rfl
theorem loops95 : loopsOf code95 = [b95_0] := by kernel_rfl
theorem enter95 : ∀ args w, (callFunc 95 args).run Try.prog w = .ok (.enter 95 args) w := enter_of (fn := Try.f95) (by kernel_rfl) (by kernel_rfl) (by kernel_rfl)
noncomputable def T95_1 (F : Nat) : FuncId → Option Summ := tab [(92, (S92_1 F noS))]
def sh95_1_l3 : Sh := ⟨[.lf (.ptr 0 0), .lf (.full 2), .lf (.int .i64)], [some ⟨none, [.int .i64, .int .i64, .int .i64, .int .i64, .full 1]⟩, some ⟨none, [.seq .str 0]⟩, some ⟨some false, [.seq (.int .i64) 0]⟩]⟩
noncomputable def G95_1_3 (F k : Nat) : LoopS := mkG sh95_1_l3 [0, 3, 4] (outT [(.exit 0, [3])]) (fun d K => f95_1_l3 F d.2.1.2.1 d.2.1.2.2.1 d.2.1.2.2.2.1 d.2.1.2.2.2.2.1 d.2.2.1.2.1 (fun (y5 : List Int) => K (.exit 0) [.tv (.lf (.full 2))] [some ⟨d.2.1.1, [.int .i64 d.2.1.2.1, .int .i64 d.2.1.2.2.1, .int .i64 d.2.1.2.2.2.1, .int .i64 d.2.1.2.2.2.2.1, .full 1]⟩, some ⟨d.2.2.1.1, [.seq .str 0 d.2.2.1.2.1]⟩, some ⟨false, [.seq (.int .i64) 0 y5]⟩]) k d.1.2.2.1 d.2.2.2.1.2.1)
noncomputable def LT95_1 (F : Nat) : Nat → Option LoopS := ltab [(3, G95_1_3 F F)]
theorem L95_1_3g (F k : Nat) (c92_1 : Int → Int → Int → Int → Int → List ByteArray → (ByteArray → Option Res) → Option Res)  (l3 : Int → Int → Int → Int → List ByteArray → (List Int → Option Res) → Nat → Int → List Int → Option Res) (X3 : LoopS) (d : sh95_1_l3.den) (K : KL) : (fun (v2 : Int) (v3 : Int) (v4 : Int) (v5 : Int) (v6 : List ByteArray) (K0 : (List Int → Option Res)) (k : Nat) (v1 : Int) (v7 : List Int) => cond (decide (v1 < ((v6.length : Nat) : Int))) (cond (decide ((0 : Int) ≤ v1 ∧ v1 < ((v6.length : Nat) : Int))) (cond (decide (0 + v1.toNat < v6.length)) (c92_1 v2 v3 v4 v5 v1 v6 (fun x8 => cond (!((v6.getD (0 + v1.toNat) ByteArray.empty).toList == x8.toList)) (cond (decide ((v7.length + 1) * 8 ≤ 70368744177664)) (l3 v2 v3 v4 v5 v6 K0 k (IntKind.i64.wrap (v1 + 1)) (v7 ++ [v1])) none) (l3 v2 v3 v4 v5 v6 K0 k (IntKind.i64.wrap (v1 + 1)) v7)) ) none) none) (K0 v7)) d.2.1.2.1 d.2.1.2.2.1 d.2.1.2.2.2.1 d.2.1.2.2.2.2.1 d.2.2.1.2.1 (fun (y5 : List Int) => K (.exit 0) [.tv (.lf (.full 2))] [some ⟨d.2.1.1, [.int .i64 d.2.1.2.1, .int .i64 d.2.1.2.2.1, .int .i64 d.2.1.2.2.2.1, .int .i64 d.2.1.2.2.2.2.1, .full 1]⟩, some ⟨d.2.2.1.1, [.seq .str 0 d.2.2.1.2.1]⟩, some ⟨false, [.seq (.int .i64) 0 y5]⟩]) k d.1.2.2.1 d.2.2.2.1.2.1 = roundOf Try.prog (tab [(92, (mkS sh92_1 (fun d K => c92_1 d.1.1.1 d.1.1.2.1 d.1.1.2.2.1 d.1.1.2.2.2.1 d.1.2.2.1 d.2.1.2.1 (fun (y0 : ByteArray) => K [.lf (.str y0)] [some ⟨d.2.1.1, [.seq .str 0 d.2.1.2.1]⟩])) noS))]) 42 2 (ltab [(3, X3)]) (mkG sh95_1_l3 [0, 3, 4] (outT [(.exit 0, [3])]) (fun d K => l3 d.2.1.2.1 d.2.1.2.2.1 d.2.1.2.2.2.1 d.2.1.2.2.2.2.1 d.2.2.1.2.1 (fun (y5 : List Int) => K (.exit 0) [.tv (.lf (.full 2))] [some ⟨d.2.1.1, [.int .i64 d.2.1.2.1, .int .i64 d.2.1.2.2.1, .int .i64 d.2.1.2.2.2.1, .int .i64 d.2.1.2.2.2.2.1, .full 1]⟩, some ⟨d.2.2.1.1, [.seq .str 0 d.2.2.1.2.1]⟩, some ⟨false, [.seq (.int .i64) 0 y5]⟩]) k d.1.2.2.1 d.2.2.2.1.2.1)) b95_0 (encT sh95_1_l3.vs d.1) (encH sh95_1_l3.h d.2) K := by kernel_rfl
theorem L95_1_3 (F : Nat) : LoopOK Try.prog (T95_1 F) 42 2 (LT95_1 F) (G95_1_3 F F) b95_0 :=
  loopOK_of (s := sh95_1_l3) (live := [0, 3, 4]) (out := (outT [(.exit 0, [3])])) (fun k d K => f95_1_l3 F d.2.1.2.1 d.2.1.2.2.1 d.2.1.2.2.2.1 d.2.1.2.2.2.2.1 d.2.2.1.2.1 (fun (y5 : List Int) => K (.exit 0) [.tv (.lf (.full 2))] [some ⟨d.2.1.1, [.int .i64 d.2.1.2.1, .int .i64 d.2.1.2.2.1, .int .i64 d.2.1.2.2.2.1, .int .i64 d.2.1.2.2.2.2.1, .full 1]⟩, some ⟨d.2.2.1.1, [.seq .str 0 d.2.2.1.2.1]⟩, some ⟨false, [.seq (.int .i64) 0 y5]⟩]) k d.1.2.2.1 d.2.2.2.1.2.1) F (fun d K => by kernel_rfl)  (fun k d K => Eq.mp (by kernel_rfl) (L95_1_3g F k (f92_1 F)  (f95_1_l3 F) (G95_1_3 F F) d K))
theorem E95_1g (F : Nat) (c92_1 : Int → Int → Int → Int → Int → List ByteArray → (ByteArray → Option Res) → Option Res) (l3 : Int → Int → Int → Int → List ByteArray → (List Int → Option Res) → Nat → Int → List Int → Option Res)  (d : sh95_1.den) (K : KF) : evBody Try.prog (tab [(92, (mkS sh92_1 (fun d K => c92_1 d.1.1.1 d.1.1.2.1 d.1.1.2.2.1 d.1.1.2.2.2.1 d.1.2.2.1 d.2.1.2.1 (fun (y0 : ByteArray) => K [.lf (.str y0)] [some ⟨d.2.1.1, [.seq .str 0 d.2.1.2.1]⟩])) noS))]) 42 2 (ltab [(3, mkG sh95_1_l3 [0, 3, 4] (outT [(.exit 0, [3])]) (fun d K => l3 d.2.1.2.1 d.2.1.2.2.1 d.2.1.2.2.2.1 d.2.1.2.2.2.2.1 d.2.2.1.2.1 (fun (y5 : List Int) => K (.exit 0) [.tv (.lf (.full 2))] [some ⟨d.2.1.1, [.int .i64 d.2.1.2.1, .int .i64 d.2.1.2.2.1, .int .i64 d.2.1.2.2.2.1, .int .i64 d.2.1.2.2.2.2.1, .full 1]⟩, some ⟨d.2.2.1.1, [.seq .str 0 d.2.2.1.2.1]⟩, some ⟨false, [.seq (.int .i64) 0 y5]⟩]) F d.1.2.2.1 d.2.2.2.1.2.1))]) code95 Try.f95.results.toList (encT sh95_1.vs d.1) (encH sh95_1.h d.2) K = (fun (a1 : Int) (a2 : Int) (a3 : Int) (a4 : Int) (a5 : List ByteArray) (K0 : (List Int → Option Res)) => l3 a1 a2 a3 a4 a5 (fun x9 => K0 x9) F a1 []) d.2.1.2.1 d.2.1.2.2.1 d.2.1.2.2.2.1 d.2.1.2.2.2.2.1 d.2.2.1.2.1 (fun (y5 : List Int) => K [.lf (.full 2)] [some ⟨d.2.1.1, [.int .i64 d.2.1.2.1, .int .i64 d.2.1.2.2.1, .int .i64 d.2.1.2.2.2.1, .int .i64 d.2.1.2.2.2.2.1, .full 1]⟩, some ⟨d.2.2.1.1, [.seq .str 0 d.2.2.1.2.1]⟩, some ⟨false, [.seq (.int .i64) 0 y5]⟩]) := by kernel_rfl
theorem E95_1 (F : Nat) (d : sh95_1.den) (K : KF) : evBody Try.prog (T95_1 F) 42 2 (LT95_1 F) code95 Try.f95.results.toList (encT sh95_1.vs d.1) (encH sh95_1.h d.2) K = f95_1 F d.2.1.2.1 d.2.1.2.2.1 d.2.1.2.2.2.1 d.2.1.2.2.2.2.1 d.2.2.1.2.1 (fun (y5 : List Int) => K [.lf (.full 2)] [some ⟨d.2.1.1, [.int .i64 d.2.1.2.1, .int .i64 d.2.1.2.2.1, .int .i64 d.2.1.2.2.2.1, .int .i64 d.2.1.2.2.2.2.1, .full 1]⟩, some ⟨d.2.2.1.1, [.seq .str 0 d.2.2.1.2.1]⟩, some ⟨false, [.seq (.int .i64) 0 y5]⟩]) := Eq.mp (by kernel_rfl) (E95_1g F (f92_1 F) (f95_1_l3 F)  d K)
theorem S95_1_ok (F : Nat) (o : Summ) (ho : SoundFn Try.prog 95 o) : SoundFn Try.prog 95 (S95_1 F o) :=
  soundFn_of (fn := Try.f95) (c := code95) (by kernel_rfl) (tab_cons (S92_1_ok F _ (noS_sound enter92)) tab_nil) (by kernel_rfl) (by kernel_rfl) ho (by rw [loops95]; exact (loopsOK_cons (by kernel_rfl) (L95_1_3 F) loopsOK_nil)) (by rw [scopes95]; exact scopesOK_nil) (E95_1 F)
end Go.Proofs.Ytjlolgpbidfmeaa.X
end

section
namespace Go.Proofs.Ytjlolgpbidfmeaa.X
open Go Go.Proofs.Ytjlolgpbidfmeaa.Ev Go.Proofs
set_option linter.unusedVariables false
/-! pentimentolaw12.same -/
noncomputable def f39_1 {β : Type} (F : Nat) (a1 : Int) (a2 : Int) (a3 : Int) (a4 : Int) (a5 : Int) (a6 : List ByteArray) (a7 : Int) (a8 : Int) (a9 : Int) (a10 : Int) (a11 : List ByteArray) (K0 : Bool → Option β) : Option β := f44_1 F a1 a2 a3 a4 a5 a6 (fun x1 x2 => f93_1 F a1 a7 a8 a9 a10 a11 (fun x3 x4 => f45_1 F a2 a3 a4 a5 a6 (cond ((a2 == a7) && ((a3 == a8) && ((a4 == a9) && (a5 == a10)))) (f46_1 F a2 a3 a4 a5 a6 (fun x5 => f94_1 F a7 a8 a9 a10 a11 (fun x6 => cond (x5.toList == x6.toList) (f42_1 F a2 a3 a4 a5 a6 (fun x7 => f41_1 F x7 a11 (fun x8 => cond x8 (cond (x1.toList == x3.toList) (cond (x2 == x4) (f43_1 F a2 a3 a4 a5 a6 (fun x9 => f95_1 F a7 a8 a9 a10 a11 (fun x10 => f37_1 F x9 x10 (fun x11 => K0 x11) ) ) ) (K0 false)) (K0 false)) (K0 false)) ) ) (K0 false)) ) ) (K0 false)) ) ) 
def sh39_1 : Sh := ⟨[.lf (.ptr 0 0), .lf (.ptr 2 0), .lf (.int .i64)], [some ⟨none, [.int .i64, .int .i64, .int .i64, .int .i64, .full 1]⟩, some ⟨none, [.seq .str 0]⟩, some ⟨none, [.int .i64, .int .i64, .int .i64, .int .i64, .full 3]⟩, some ⟨none, [.seq .str 0]⟩]⟩
noncomputable def S39_1 (F : Nat) (o : Summ) : Summ := mkS sh39_1 (fun d K => f39_1 F d.1.2.2.1 d.2.1.2.1 d.2.1.2.2.1 d.2.1.2.2.2.1 d.2.1.2.2.2.2.1 d.2.2.1.2.1 d.2.2.2.1.2.1 d.2.2.2.1.2.2.1 d.2.2.2.1.2.2.2.1 d.2.2.2.1.2.2.2.2.1 d.2.2.2.2.1.2.1 (fun (y0 : Bool) => K [.lf (.bool y0)] [some ⟨d.2.1.1, [.int .i64 d.2.1.2.1, .int .i64 d.2.1.2.2.1, .int .i64 d.2.1.2.2.2.1, .int .i64 d.2.1.2.2.2.2.1, .full 1]⟩, some ⟨d.2.2.1.1, [.seq .str 0 d.2.2.1.2.1]⟩, some ⟨d.2.2.2.1.1, [.int .i64 d.2.2.2.1.2.1, .int .i64 d.2.2.2.1.2.2.1, .int .i64 d.2.2.2.1.2.2.2.1, .int .i64 d.2.2.2.1.2.2.2.2.1, .full 3]⟩, some ⟨d.2.2.2.2.1.1, [.seq .str 0 d.2.2.2.2.1.2.1]⟩])) o
noncomputable def code39 : Code := bodyOf Try.f39
theorem scopes39 : scopesOf code39 = [] := by kernel_rfl
theorem loops39 : loopsOf code39 = [] := by kernel_rfl
theorem enter39 : ∀ args w, (callFunc 39 args).run Try.prog w = .ok (.enter 39 args) w := enter_of (fn := Try.f39) (by kernel_rfl) (by kernel_rfl) (by kernel_rfl)
noncomputable def T39_1 (F : Nat) : FuncId → Option Summ := tab [(37, (S37_1 F noS)), (41, (S41_1 F noS)), (42, (S42_1 F noS)), (43, (S43_1 F noS)), (44, (S44_1 F noS)), (45, (S45_1 F noS)), (46, (S46_1 F noS)), (93, (S93_1 F noS)), (94, (S94_1 F noS)), (95, (S95_1 F noS))]
noncomputable def LT39_1 (F : Nat) : Nat → Option LoopS := ltab []
theorem E39_1g (F : Nat) (c37_1 : List Int → List Int → (Bool → Option Res) → Option Res) (c41_1 : List ByteArray → List ByteArray → (Bool → Option Res) → Option Res) (c42_1 : Int → Int → Int → Int → List ByteArray → (List ByteArray → Option Res) → Option Res) (c43_1 : Int → Int → Int → Int → List ByteArray → (List Int → Option Res) → Option Res) (c44_1 : Int → Int → Int → Int → Int → List ByteArray → (ByteArray → Int → Option Res) → Option Res) (c45_1 : Int → Int → Int → Int → List ByteArray → (Option Res) → Option Res) (c46_1 : Int → Int → Int → Int → List ByteArray → (ByteArray → Option Res) → Option Res) (c93_1 : Int → Int → Int → Int → Int → List ByteArray → (ByteArray → Int → Option Res) → Option Res) (c94_1 : Int → Int → Int → Int → List ByteArray → (ByteArray → Option Res) → Option Res) (c95_1 : Int → Int → Int → Int → List ByteArray → (List Int → Option Res) → Option Res)   (d : sh39_1.den) (K : KF) : evBody Try.prog (tab [(37, (mkS sh37_1 (fun d K => c37_1 d.2.1.2.1 d.2.2.1.2.1 (fun (y0 : Bool) => K [.lf (.bool y0)] [some ⟨d.2.1.1, [.seq (.int .i64) 0 d.2.1.2.1]⟩, some ⟨d.2.2.1.1, [.seq (.int .i64) 0 d.2.2.1.2.1]⟩])) noS)), (41, (mkS sh41_1 (fun d K => c41_1 d.2.1.2.1 d.2.2.1.2.1 (fun (y0 : Bool) => K [.lf (.bool y0)] [some ⟨d.2.1.1, [.seq .str 0 d.2.1.2.1]⟩, some ⟨d.2.2.1.1, [.seq .str 0 d.2.2.1.2.1]⟩])) noS)), (42, (mkS sh42_1 (fun d K => c42_1 d.2.1.2.1 d.2.1.2.2.1 d.2.1.2.2.2.1 d.2.1.2.2.2.2.1 d.2.2.1.2.1 (fun (y5 : List ByteArray) => K [.lf (.full 2)] [some ⟨d.2.1.1, [.int .i64 d.2.1.2.1, .int .i64 d.2.1.2.2.1, .int .i64 d.2.1.2.2.2.1, .int .i64 d.2.1.2.2.2.2.1, .full 1]⟩, some ⟨d.2.2.1.1, [.seq .str 0 d.2.2.1.2.1]⟩, some ⟨false, [.seq .str 0 y5]⟩])) noS)), (43, (mkS sh43_1 (fun d K => c43_1 d.2.1.2.1 d.2.1.2.2.1 d.2.1.2.2.2.1 d.2.1.2.2.2.2.1 d.2.2.1.2.1 (fun (y5 : List Int) => K [.lf (.full 2)] [some ⟨d.2.1.1, [.int .i64 d.2.1.2.1, .int .i64 d.2.1.2.2.1, .int .i64 d.2.1.2.2.2.1, .int .i64 d.2.1.2.2.2.2.1, .full 1]⟩, some ⟨d.2.2.1.1, [.seq .str 0 d.2.2.1.2.1]⟩, some ⟨false, [.seq (.int .i64) 0 y5]⟩])) noS)), (44, (mkS sh44_1 (fun d K => c44_1 d.1.2.1 d.2.1.2.1 d.2.1.2.2.1 d.2.1.2.2.2.1 d.2.1.2.2.2.2.1 d.2.2.1.2.1 (fun (y0 : ByteArray) (y1 : Int) => K [.lf (.str y0), .lf (.int .i64 y1)] [some ⟨d.2.1.1, [.int .i64 d.2.1.2.1, .int .i64 d.2.1.2.2.1, .int .i64 d.2.1.2.2.2.1, .int .i64 d.2.1.2.2.2.2.1, .full 1]⟩, some ⟨d.2.2.1.1, [.seq .str 0 d.2.2.1.2.1]⟩])) noS)), (45, (mkS sh45_1 (fun d K => c45_1 d.2.1.2.1 d.2.1.2.2.1 d.2.1.2.2.2.1 d.2.1.2.2.2.2.1 d.2.2.1.2.1 (K [.agg [.int .i64 d.2.1.2.1, .int .i64 d.2.1.2.2.1, .int .i64 d.2.1.2.2.2.1, .int .i64 d.2.1.2.2.2.2.1]] [some ⟨d.2.1.1, [.int .i64 d.2.1.2.1, .int .i64 d.2.1.2.2.1, .int .i64 d.2.1.2.2.2.1, .int .i64 d.2.1.2.2.2.2.1, .full 1]⟩, some ⟨d.2.2.1.1, [.seq .str 0 d.2.2.1.2.1]⟩])) noS)), (46, (mkS sh46_1 (fun d K => c46_1 d.2.1.2.1 d.2.1.2.2.1 d.2.1.2.2.2.1 d.2.1.2.2.2.2.1 d.2.2.1.2.1 (fun (y0 : ByteArray) => K [.lf (.str y0)] [some ⟨d.2.1.1, [.int .i64 d.2.1.2.1, .int .i64 d.2.1.2.2.1, .int .i64 d.2.1.2.2.2.1, .int .i64 d.2.1.2.2.2.2.1, .full 1]⟩, some ⟨d.2.2.1.1, [.seq .str 0 d.2.2.1.2.1]⟩])) noS)), (93, (mkS sh93_1 (fun d K => c93_1 d.1.2.1 d.2.1.2.1 d.2.1.2.2.1 d.2.1.2.2.2.1 d.2.1.2.2.2.2.1 d.2.2.1.2.1 (fun (y0 : ByteArray) (y1 : Int) => K [.lf (.str y0), .lf (.int .i64 y1)] [some ⟨d.2.1.1, [.int .i64 d.2.1.2.1, .int .i64 d.2.1.2.2.1, .int .i64 d.2.1.2.2.2.1, .int .i64 d.2.1.2.2.2.2.1, .full 1]⟩, some ⟨d.2.2.1.1, [.seq .str 0 d.2.2.1.2.1]⟩])) noS)), (94, (mkS sh94_1 (fun d K => c94_1 d.2.1.2.1 d.2.1.2.2.1 d.2.1.2.2.2.1 d.2.1.2.2.2.2.1 d.2.2.1.2.1 (fun (y0 : ByteArray) => K [.lf (.str y0)] [some ⟨d.2.1.1, [.int .i64 d.2.1.2.1, .int .i64 d.2.1.2.2.1, .int .i64 d.2.1.2.2.2.1, .int .i64 d.2.1.2.2.2.2.1, .full 1]⟩, some ⟨d.2.2.1.1, [.seq .str 0 d.2.2.1.2.1]⟩])) noS)), (95, (mkS sh95_1 (fun d K => c95_1 d.2.1.2.1 d.2.1.2.2.1 d.2.1.2.2.2.1 d.2.1.2.2.2.2.1 d.2.2.1.2.1 (fun (y5 : List Int) => K [.lf (.full 2)] [some ⟨d.2.1.1, [.int .i64 d.2.1.2.1, .int .i64 d.2.1.2.2.1, .int .i64 d.2.1.2.2.2.1, .int .i64 d.2.1.2.2.2.2.1, .full 1]⟩, some ⟨d.2.2.1.1, [.seq .str 0 d.2.2.1.2.1]⟩, some ⟨false, [.seq (.int .i64) 0 y5]⟩])) noS))]) 63 4 (ltab []) code39 Try.f39.results.toList (encT sh39_1.vs d.1) (encH sh39_1.h d.2) K = (fun (a1 : Int) (a2 : Int) (a3 : Int) (a4 : Int) (a5 : Int) (a6 : List ByteArray) (a7 : Int) (a8 : Int) (a9 : Int) (a10 : Int) (a11 : List ByteArray) (K0 : (Bool → Option Res)) => c44_1 a1 a2 a3 a4 a5 a6 (fun x1 x2 => c93_1 a1 a7 a8 a9 a10 a11 (fun x3 x4 => c45_1 a2 a3 a4 a5 a6 (cond ((a2 == a7) && ((a3 == a8) && ((a4 == a9) && (a5 == a10)))) (c46_1 a2 a3 a4 a5 a6 (fun x5 => c94_1 a7 a8 a9 a10 a11 (fun x6 => cond (x5.toList == x6.toList) (c42_1 a2 a3 a4 a5 a6 (fun x7 => c41_1 x7 a11 (fun x8 => cond x8 (cond (x1.toList == x3.toList) (cond (x2 == x4) (c43_1 a2 a3 a4 a5 a6 (fun x9 => c95_1 a7 a8 a9 a10 a11 (fun x10 => c37_1 x9 x10 (fun x11 => K0 x11) ) ) ) (K0 false)) (K0 false)) (K0 false)) ) ) (K0 false)) ) ) (K0 false)) ) ) ) d.1.2.2.1 d.2.1.2.1 d.2.1.2.2.1 d.2.1.2.2.2.1 d.2.1.2.2.2.2.1 d.2.2.1.2.1 d.2.2.2.1.2.1 d.2.2.2.1.2.2.1 d.2.2.2.1.2.2.2.1 d.2.2.2.1.2.2.2.2.1 d.2.2.2.2.1.2.1 (fun (y0 : Bool) => K [.lf (.bool y0)] [some ⟨d.2.1.1, [.int .i64 d.2.1.2.1, .int .i64 d.2.1.2.2.1, .int .i64 d.2.1.2.2.2.1, .int .i64 d.2.1.2.2.2.2.1, .full 1]⟩, some ⟨d.2.2.1.1, [.seq .str 0 d.2.2.1.2.1]⟩, some ⟨d.2.2.2.1.1, [.int .i64 d.2.2.2.1.2.1, .int .i64 d.2.2.2.1.2.2.1, .int .i64 d.2.2.2.1.2.2.2.1, .int .i64 d.2.2.2.1.2.2.2.2.1, .full 3]⟩, some ⟨d.2.2.2.2.1.1, [.seq .str 0 d.2.2.2.2.1.2.1]⟩]) := by kernel_rfl
theorem E39_1 (F : Nat) (d : sh39_1.den) (K : KF) : evBody Try.prog (T39_1 F) 63 4 (LT39_1 F) code39 Try.f39.results.toList (encT sh39_1.vs d.1) (encH sh39_1.h d.2) K = f39_1 F d.1.2.2.1 d.2.1.2.1 d.2.1.2.2.1 d.2.1.2.2.2.1 d.2.1.2.2.2.2.1 d.2.2.1.2.1 d.2.2.2.1.2.1 d.2.2.2.1.2.2.1 d.2.2.2.1.2.2.2.1 d.2.2.2.1.2.2.2.2.1 d.2.2.2.2.1.2.1 (fun (y0 : Bool) => K [.lf (.bool y0)] [some ⟨d.2.1.1, [.int .i64 d.2.1.2.1, .int .i64 d.2.1.2.2.1, .int .i64 d.2.1.2.2.2.1, .int .i64 d.2.1.2.2.2.2.1, .full 1]⟩, some ⟨d.2.2.1.1, [.seq .str 0 d.2.2.1.2.1]⟩, some ⟨d.2.2.2.1.1, [.int .i64 d.2.2.2.1.2.1, .int .i64 d.2.2.2.1.2.2.1, .int .i64 d.2.2.2.1.2.2.2.1, .int .i64 d.2.2.2.1.2.2.2.2.1, .full 3]⟩, some ⟨d.2.2.2.2.1.1, [.seq .str 0 d.2.2.2.2.1.2.1]⟩]) := Eq.mp (by kernel_rfl) (E39_1g F (f37_1 F) (f41_1 F) (f42_1 F) (f43_1 F) (f44_1 F) (f45_1 F) (f46_1 F) (f93_1 F) (f94_1 F) (f95_1 F)   d K)
theorem S39_1_ok (F : Nat) (o : Summ) (ho : SoundFn Try.prog 39 o) : SoundFn Try.prog 39 (S39_1 F o) :=
  soundFn_of (fn := Try.f39) (c := code39) (by kernel_rfl) (tab_cons (S37_1_ok F _ (noS_sound enter37)) (tab_cons (S41_1_ok F _ (noS_sound enter41)) (tab_cons (S42_1_ok F _ (noS_sound enter42)) (tab_cons (S43_1_ok F _ (noS_sound enter43)) (tab_cons (S44_1_ok F _ (noS_sound enter44)) (tab_cons (S45_1_ok F _ (noS_sound enter45)) (tab_cons (S46_1_ok F _ (noS_sound enter46)) (tab_cons (S93_1_ok F _ (noS_sound enter93)) (tab_cons (S94_1_ok F _ (noS_sound enter94)) (tab_cons (S95_1_ok F _ (noS_sound enter95)) tab_nil)))))))))) (by kernel_rfl) (by kernel_rfl) ho (by rw [loops39]; exact loopsOK_nil) (by rw [scopes39]; exact scopesOK_nil) (E39_1 F)
end Go.Proofs.Ytjlolgpbidfmeaa.X
end

section
/- Trees: that one of the code is one of the document; what must come of fixed calls. -/
namespace Go.Proofs.Ytjlolgpbidfmeaa.X
open Go Go.Proofs.Ytjlolgpbidfmeaa.Ev
set_option linter.unusedVariables false

theorem textsL {β : Type} {F : Nat} {l : List ByteArray} {K0 K1 : Option β} (hl : l.length ≤ 10000) : ∀ (r : List ByteArray) (i k : Nat), l.drop i = r → i ≤ l.length → r.length < k →
    f41_1_l4 F l l K0 K1 k (i : Int) = K1
  | [], i, k, hd, hi, hk => by
    obtain ⟨k, rfl⟩ : ∃ j, k = j + 1 := ⟨k - 1, by omega⟩
    have := nilB hd hi
    rw [f41_1_l4, cf (by omega)]
  | x :: r, i, k, hd, hi, hk => by
    obtain ⟨k, rfl⟩ : ∃ j, k = j + 1 := ⟨k - 1, by omega⟩
    obtain ⟨d1, d2, d3⟩ := atB hd
    rw [f41_1_l4, ct (by omega), ct (by omega), ct (by omega), ct (by omega), ct (by omega), d2, beq_self_eq_true, cond_ff, w64 (by omega) (by omega), show ((i : Int) + 1) = ((i + 1 : Nat) : Int) by omega]
    exact textsL hl r (i + 1) k d3 (by omega) (by simpa using hk)

theorem texts {β : Type} {F : Nat} {l : List ByteArray} {K : Bool → Option β} (hl : l.length ≤ 10000) (hF : 10000 < F) : f41_1 F l l K = K true := by
  rw [f41_1, bne_f rfl, cond_false]
  exact textsL hl l 0 F rfl (by omega) (by omega)

def badN (n f c u : Int) (L : List ByteArray) : Nat → Nat → List Int → List Int
  | 0, _, acc => acc
  | m + 1, k, acc => badN n f c u L m (k + 1) (if !((L.getD k ByteArray.empty).toList == (abv n f c u L (k : Int)).toList) then acc ++ [(k : Int)] else acc)

theorem badN_len (n f c u : Int) (L : List ByteArray) : ∀ (m k : Nat) (acc : List Int), (badN n f c u L m k acc).length ≤ acc.length + m
  | 0, k, acc => by simp [badN]
  | m + 1, k, acc => by
    have := badN_len n f c u L m (k + 1) (if !((L.getD k ByteArray.empty).toList == (abv n f c u L (k : Int)).toList) then acc ++ [(k : Int)] else acc)
    simp only [badN]
    split at this <;> split <;> simp_all <;> omega

theorem badP {β : Type} {n f c u : Int} {L : List ByteArray} {K : List Int → Option β} (h : rt n f c u) (hd : D32 L) (hl : L.length ≤ 1000) : ∀ (m i k : Nat) (acc : List Int), i + m = L.length → m < k → acc.length ≤ i →
    f43_1_l5 20000 n f c u L K k (i : Int) acc = K (badN n f c u L m i acc)
  | 0, i, k, acc, hi, hk, ha => by
    obtain ⟨k, rfl⟩ : ∃ j, k = j + 1 := ⟨k - 1, by omega⟩
    rw [f43_1_l5, cf (by omega)]; rfl
  | m + 1, i, k, acc, hi, hk, ha => by
    obtain ⟨k, rfl⟩ : ∃ j, k = j + 1 := ⟨k - 1, by omega⟩
    rw [f43_1_l5, ct (by omega), ct (by omega), ct (by omega), aboveP h (by omega) (by omega) hd, show 0 + (i : Int).toNat = i by omega, w64 (by omega) (by omega), show ((i : Int) + 1) = ((i + 1 : Nat) : Int) by omega, ct (by omega), badN]
    cases hq : ((L.getD i ByteArray.empty).toList == (abv n f c u L (i : Int)).toList) with
    | true => exact badP h hd hl m (i + 1) k _ (by omega) (by omega) (by omega)
    | false => exact badP h hd hl m (i + 1) k _ (by omega) (by omega) (by simp; omega)

theorem badR {β : Type} {n f c u : Int} {L : List ByteArray} {K : List Int → Option β} (h : rt n f c u) (hd : D32 L) (hl : L.length ≤ 1000) : ∀ (m i k : Nat) (acc : List Int), i + m = L.length → m < k → acc.length ≤ i →
    f95_1_l3 20000 n f c u L K k (i : Int) acc = K (badN n f c u L m i acc)
  | 0, i, k, acc, hi, hk, ha => by
    obtain ⟨k, rfl⟩ : ∃ j, k = j + 1 := ⟨k - 1, by omega⟩
    rw [f95_1_l3, cf (by omega)]; rfl
  | m + 1, i, k, acc, hi, hk, ha => by
    obtain ⟨k, rfl⟩ : ∃ j, k = j + 1 := ⟨k - 1, by omega⟩
    rw [f95_1_l3, ct (by omega), ct (by omega), ct (by omega), aboveR h (by omega) (by omega) hd, show 0 + (i : Int).toNat = i by omega, w64 (by omega) (by omega), show ((i : Int) + 1) = ((i + 1 : Nat) : Int) by omega, ct (by omega), badN]
    cases hq : ((L.getD i ByteArray.empty).toList == (abv n f c u L (i : Int)).toList) with
    | true => exact badR h hd hl m (i + 1) k _ (by omega) (by omega) (by omega)
    | false => exact badR h hd hl m (i + 1) k _ (by omega) (by omega) (by simp; omega)

/-- A node's digest, or why there is none: the code's and the document's. -/
theorem digestPR {β : Type} (F : Nat) (node n f c u : Int) (L : List ByteArray) : ∃ (x : ByteArray) (e : Int), ∀ K : ByteArray → Int → Option β, f44_1 F node n f c u L K = K x e ∧ f93_1 F node n f c u L K = K x e := by
  by_cases h1 : node < 0
  · exact ⟨_, _, fun K => ⟨by rw [f44_1, ct h1], by rw [f93_1, ct h1]⟩⟩
  · by_cases h2 : node ≥ ((L.length : Nat) : Int)
    · exact ⟨_, _, fun K => ⟨by rw [f44_1, cf h1, ct h2], by rw [f93_1, cf h1, ct h2]⟩⟩
    · exact ⟨_, _, fun K => ⟨by rw [f44_1, cf h1, cf h2, ct (by omega), ct (by omega)], by rw [f93_1, cf h1, cf h2, ct (by omega), ct (by omega)]⟩⟩

theorem rootP {β : Type} {F : Nat} {n f c u : Int} {L : List ByteArray} {K : ByteArray → Option β} (h0 : 0 < L.length) (h1 : L.length ≤ 1000) : f46_1 F n f c u L K = K (L.getD (L.length - 1) ByteArray.empty) := by
  rw [f46_1, w64 (by omega) (by omega), ct (by omega), ct (by omega), show 0 + ((L.length : Int) - 1).toNat = L.length - 1 by omega]
theorem rootR {β : Type} {F : Nat} {n f c u : Int} {L : List ByteArray} {K : ByteArray → Option β} (h0 : 0 < L.length) (h1 : L.length ≤ 1000) : f94_1 F n f c u L K = K (L.getD (L.length - 1) ByteArray.empty) := by
  rw [f94_1, w64 (by omega) (by omega), ct (by omega), ct (by omega), show 0 + ((L.length : Int) - 1).toNat = L.length - 1 by omega]

theorem same39 {β : Type} {node n f c u : Int} {L : List ByteArray} {K : Bool → Option β} (h : rt n f c u) (hd : D32 L) (hl : (L.length : Int) = nodes n f c u) : f39_1 20000 node n f c u L n f c u L K = K true := by
  have hn := nodes_up h
  have hn1 := nodes_ok n f c u
  have hn2 := n_le h
  have h1 := h.1
  obtain ⟨x, e, hx⟩ := digestPR (β := β) 20000 node n f c u L
  have hb := badN_len n f c u L (L.length - n.toNat) n.toNat []
  have eP := fun (K : List Int → Option β) => badP (K := K) h hd (by omega) (L.length - n.toNat) n.toNat 20000 [] (by omega) (by omega) (by simp)
  have eR := fun (K : List Int → Option β) => badR (K := K) h hd (by omega) (L.length - n.toNat) n.toNat 20000 [] (by omega) (by omega) (by simp)
  rw [show ((n.toNat : Nat) : Int) = n by omega] at eP eR
  rw [f39_1, (hx _).1, (hx _).2, f45_1]
  simp only [beq_self_eq_true, Bool.and_self]
  rw [cond_t, rootP (by omega) (by omega), rootR (by omega) (by omega), beq_self_eq_true, cond_t, f42_1, cloneP (by omega), texts (by omega) (by omega), cond_t, cond_t, cond_t, f43_1, eP, f95_1, eR, ints21 (by simp at hb; omega)]

def fill (v : Int) : ByteArray := ofInts (List.replicate 64 v)

theorem fillL {β : Type} {F : Nat} {v : Int} {K : List Int → Option β} : ∀ (m i k : Nat), i + m = 64 → m < k → f76_1_l3 F v K k (i : Int) (List.replicate i v) = K (List.replicate 64 v)
  | 0, i, k, hi, hk => by
    obtain ⟨k, rfl⟩ : ∃ j, k = j + 1 := ⟨k - 1, by omega⟩
    rw [f76_1_l3, cf (by omega), show i = 64 by omega]
  | m + 1, i, k, hi, hk => by
    obtain ⟨k, rfl⟩ : ∃ j, k = j + 1 := ⟨k - 1, by omega⟩
    rw [f76_1_l3, ct (by omega), ct (by simp; omega), w64 (by omega) (by omega), show ((i : Int) + 1) = ((i + 1 : Nat) : Int) by omega, ← List.replicate_succ']
    exact fillL m (i + 1) k (by omega) (by omega)

theorem fill76 {β : Type} {F : Nat} {v : Int} {K : ByteArray → Option β} (hF : 1000 ≤ F) : f76_1 F v K = K (fill v) := by
  rw [f76_1]
  exact fillL (K := fun x => K (ofInts x)) 64 0 F (by omega) (by omega)

theorem fill_size (v : Int) : (fill v).size = 64 := by simp [fill, ofInts_size]

theorem zero75 {β : Type} {F : Nat} {K : ByteArray → Option β} (hF : 1000 ≤ F) : f75_1 F K = K (fill 0) := by
  rw [f75_1, fill76 hF]

theorem levels22 : levels 2 2 0 1 = [2, 1] := by kernel_rfl
theorem nodes22 : nodes 2 2 0 1 = 3 := by rw [nodes, levels22]; rfl
theorem rt22 : rt 2 2 0 1 := by unfold rt; omega

theorem new22 : newT 2 2 0 1 [fill 0, fill 1] = .inr [leafD (fill 0), leafD (fill 1), nodeD [leafD (fill 0), leafD (fill 1)]] := by
  have h1 : [fill 0, fill 1].any bad64 = false := by simp [bad64, fill_size]
  unfold newT
  rw [if_pos rt22, if_pos (by rfl), nodes22, h1]
  simp only [Bool.false_eq_true, if_false]
  show Sum.inr (bld 2 2 0 1 1 [leafD (fill 0), leafD (fill 1)]) = _
  unfold bld bld abv
  rw [levels22]
  rfl

theorem known28 {β : Type} {K : Bool → Option β} : f28_1 20000 K = K true := by
  have hs0 := fill_size 0
  have hs1 := fill_size 1
  rw [f28_1, zero75 (by omega), leafR (by omega) (by omega), fill76 (by omega), leafR (by omega) (by omega), zero75 (by omega), fill76 (by omega), newP, new22, sel,
    f47_1, cloneP (by simp), f31_1, bne_f rfl, cond_false, cond_false, root54, root, if_pos rt22, nodes22]
  rw [ct (by simp), ct (by simp), ct (by simp), ct (by simp), beq_self_eq_true, cond_ff]
  generalize hL : [leafD (fill 0), leafD (fill 1), nodeD [leafD (fill 0), leafD (fill 1)]] = L
  have hlen : L.length = 3 := by rw [← hL]; rfl
  obtain ⟨F, hF⟩ : ∃ F, (20000 : Nat) = F + 1 := ⟨19999, rfl⟩
  have step : ∀ (K0 : Int → List Int → List Int → Option β), f31_1_l1000000 20000 2 2 0 1 L 2 2 0 1 L K0 20000 1 [] [3 - 1] = K0 1 [] [3 - 1] := by
    intro K0
    rw [hF, f31_1_l1000000]
    rfl
  rw [step, rootP (by omega) (by omega), hlen, nodeR (by omega) (by simp) (by simp [leafD, dig_size]), f42_1, cloneP (by omega), hlen]
  rw [show L.getD (3 - 1) ByteArray.empty = nodeD [leafD (fill 0), leafD (fill 1)] by rw [← hL]; rfl, beq_self_eq_true]
  rfl

end Go.Proofs.Ytjlolgpbidfmeaa.X
end

section
namespace Go.Proofs.Ytjlolgpbidfmeaa.X
open Go Go.Proofs.Ytjlolgpbidfmeaa.Ev Go.Proofs
set_option linter.unusedVariables false
/-! pentimentoref12.Tree).Diff -/
noncomputable def f36_1_l11 {β : Type} (F : Nat) (v17 : Int) (v18 : Int) (v19 : Int) (v20 : Int) (v21 : List ByteArray) (v22 : Int) (v23 : Int) (v24 : Int) (v25 : Int) (v26 : List ByteArray) (v28 : List Int) (K0 : Int → List Int → List Int → Option β) : Nat → Int → Int → List Int → List Int → Option β
  | 0, _, _, _, _ => none
  | k + 1, v15, v16, v27, v29 => cond (decide (v16 < ((v28.length : Nat) : Int))) (cond (decide ((0 : Int) ≤ v16 ∧ v16 < ((v28.length : Nat) : Int))) (cond (decide (0 + v16.toNat < v28.length)) (cond (decide ((0 : Int) ≤ v28.getD (0 + v16.toNat) 0 ∧ v28.getD (0 + v16.toNat) 0 < ((v21.length : Nat) : Int))) (cond (decide (0 + ((v28.getD (0 + v16.toNat) 0).toNat) < v21.length)) (cond (decide ((0 : Int) ≤ v28.getD (0 + v16.toNat) 0 ∧ v28.getD (0 + v16.toNat) 0 < ((v26.length : Nat) : Int))) (cond (decide (0 + ((v28.getD (0 + v16.toNat) 0).toNat) < v26.length)) (cond ((v21.getD (0 + ((v28.getD (0 + v16.toNat) 0).toNat)) ByteArray.empty).toList == (v26.getD (0 + ((v28.getD (0 + v16.toNat) 0).toNat)) ByteArray.empty).toList) (f36_1_l11 F v17 v18 v19 v20 v21 v22 v23 v24 v25 v26 v28 K0 k (IntKind.i64.wrap (v15 + 1)) (IntKind.i64.wrap (v16 + 1)) v27 v29) (cond (decide (v28.getD (0 + v16.toNat) 0 < v17)) (cond (decide ((v27.length + 1) * 8 ≤ 70368744177664)) (f85_1 F v17 v18 v19 v20 (v28.getD (0 + v16.toNat) 0) (fun x30 => cond (decide ((v29.length + x30.length) * 8 ≤ 70368744177664)) (f36_1_l11 F v17 v18 v19 v20 v21 v22 v23 v24 v25 v26 v28 K0 k (IntKind.i64.wrap (v15 + 1)) (IntKind.i64.wrap (v16 + 1)) (v27 ++ [v28.getD (0 + v16.toNat) 0]) (v29 ++ x30)) none) ) none) (f85_1 F v17 v18 v19 v20 (v28.getD (0 + v16.toNat) 0) (fun x31 => cond (decide ((v29.length + x31.length) * 8 ≤ 70368744177664)) (f36_1_l11 F v17 v18 v19 v20 v21 v22 v23 v24 v25 v26 v28 K0 k (IntKind.i64.wrap (v15 + 1)) (IntKind.i64.wrap (v16 + 1)) v27 (v29 ++ x31)) none) ))) none) none) none) none) none) none) (K0 v15 v27 v29)
noncomputable def f36_1_l8 {β : Type} (F : Nat) (v3 : Int) (v4 : Int) (v5 : Int) (v6 : Int) (v7 : List ByteArray) (v8 : Int) (v9 : Int) (v10 : Int) (v11 : Int) (v12 : List ByteArray) (K0 : Int → List Int → List Int → Option β) : Nat → Int → List Int → List Int → Option β
  | 0, _, _, _ => none
  | k + 1, v2, v13, v14 => cond (decide (((v14.length : Nat) : Int) > 0)) (f36_1_l11 F v3 v4 v5 v6 v7 v8 v9 v10 v11 v12 v14 (fun x32 x33 x34 => f36_1_l8 F v3 v4 v5 v6 v7 v8 v9 v10 v11 v12 K0 k x32 x33 x34) F v2 0 v13 []) (K0 v2 v13 v14)
noncomputable def f36_1 {β : Type} (F : Nat) (a1 : Int) (a2 : Int) (a3 : Int) (a4 : Int) (a5 : List ByteArray) (a6 : Int) (a7 : Int) (a8 : Int) (a9 : Int) (a10 : List ByteArray) (K0 : Int → Int → List Int → Option β) : Option β := cond (a1 != a6) (K0 0 12 []) (cond (a2 != a7) (K0 0 12 []) (f90_1 F a1 a2 a3 a4 (fun x1 => f36_1_l8 F a1 a2 a3 a4 a5 a6 a7 a8 a9 a10 (fun x35 x36 x37 => K0 x35 0 x36) F 0 [] [x1]) ))
def sh36_1 : Sh := ⟨[.lf (.ptr 0 0), .lf (.ptr 2 0)], [some ⟨none, [.int .i64, .int .i64, .int .i64, .int .i64, .full 1]⟩, some ⟨none, [.seq .str 0]⟩, some ⟨none, [.int .i64, .int .i64, .int .i64, .int .i64, .full 3]⟩, some ⟨none, [.seq .str 0]⟩]⟩
noncomputable def S36_1 (F : Nat) (o : Summ) : Summ := mkS sh36_1 (fun d K => f36_1 F d.2.1.2.1 d.2.1.2.2.1 d.2.1.2.2.2.1 d.2.1.2.2.2.2.1 d.2.2.1.2.1 d.2.2.2.1.2.1 d.2.2.2.1.2.2.1 d.2.2.2.1.2.2.2.1 d.2.2.2.1.2.2.2.2.1 d.2.2.2.2.1.2.1 (fun (y0 : Int) (y1 : Int) (y12 : List Int) => K [.lf (.full 4), .lf (.int .i64 y0), .lf (.int .i64 y1)] [some ⟨d.2.1.1, [.int .i64 d.2.1.2.1, .int .i64 d.2.1.2.2.1, .int .i64 d.2.1.2.2.2.1, .int .i64 d.2.1.2.2.2.2.1, .full 1]⟩, some ⟨d.2.2.1.1, [.seq .str 0 d.2.2.1.2.1]⟩, some ⟨d.2.2.2.1.1, [.int .i64 d.2.2.2.1.2.1, .int .i64 d.2.2.2.1.2.2.1, .int .i64 d.2.2.2.1.2.2.2.1, .int .i64 d.2.2.2.1.2.2.2.2.1, .full 3]⟩, some ⟨d.2.2.2.2.1.1, [.seq .str 0 d.2.2.2.2.1.2.1]⟩, some ⟨false, [.seq (.int .i64) 0 y12]⟩])) o
noncomputable def code36 : Code := bodyOf Try.f36
noncomputable def b36_0 : Code := cB (cB (cL (cR (cR (cR (cR (cR (cR (code36)))))))))
noncomputable def b36_1 : Code := cB (cB (cR (cL (cR (cB (cR (cB (cB (cL (cR (cR (cR (cR (cR (cR (code36))))))))))))))))
theorem scopes36 : scopesOf code36 = [] := by kernel_rfl
theorem loops36 : loopsOf code36 = [b36_0, b36_1] := by kernel_rfl
theorem enter36 : ∀ args w, (callFunc 36 args).run Try.prog w = .ok (.enter 36 args) w := enter_of (fn := Try.f36) (by kernel_rfl) (by kernel_rfl) (by kernel_rfl)
noncomputable def T36_1 (F : Nat) : FuncId → Option Summ := tab [(85, (S85_1 F noS)), (90, (S90_1 F noS))]
def sh36_1_l11 : Sh := ⟨[.lf (.ptr 0 0), .lf (.ptr 2 0), .lf (.full 4), .lf (.int .i64), .lf (.full 5), .lf (.full 6), .lf (.int .i64)], [some ⟨none, [.int .i64, .int .i64, .int .i64, .int .i64, .full 1]⟩, some ⟨none, [.seq .str 0]⟩, some ⟨none, [.int .i64, .int .i64, .int .i64, .int .i64, .full 3]⟩, some ⟨none, [.seq .str 0]⟩, some ⟨some false, [.seq (.int .i64) 0]⟩, some ⟨some false, [.seq (.int .i64) 0]⟩, some ⟨some false, [.seq (.int .i64) 0]⟩]⟩
noncomputable def G36_1_11 (F k : Nat) : LoopS := mkG sh36_1_l11 [0, 1, 7, 8, 9, 10, 11] (outT [(.exit 2, [0, 1, 7, 8, 10])]) (fun d K => f36_1_l11 F d.2.1.2.1 d.2.1.2.2.1 d.2.1.2.2.2.1 d.2.1.2.2.2.2.1 d.2.2.1.2.1 d.2.2.2.1.2.1 d.2.2.2.1.2.2.1 d.2.2.2.1.2.2.2.1 d.2.2.2.1.2.2.2.2.1 d.2.2.2.2.1.2.1 d.2.2.2.2.2.2.1.2.1 (fun (y0 : Int) (y11 : List Int) (y13 : List Int) => K (.exit 2) [.tv (.lf (.ptr 0 0)), .tv (.lf (.ptr 2 0)), .tv (.lf (.full 4)), .tv (.lf (.int .i64 y0)), .tv (.lf (.full 6))] [some ⟨d.2.1.1, [.int .i64 d.2.1.2.1, .int .i64 d.2.1.2.2.1, .int .i64 d.2.1.2.2.2.1, .int .i64 d.2.1.2.2.2.2.1, .full 1]⟩, some ⟨d.2.2.1.1, [.seq .str 0 d.2.2.1.2.1]⟩, some ⟨d.2.2.2.1.1, [.int .i64 d.2.2.2.1.2.1, .int .i64 d.2.2.2.1.2.2.1, .int .i64 d.2.2.2.1.2.2.2.1, .int .i64 d.2.2.2.1.2.2.2.2.1, .full 3]⟩, some ⟨d.2.2.2.2.1.1, [.seq .str 0 d.2.2.2.2.1.2.1]⟩, some ⟨false, [.seq (.int .i64) 0 y11]⟩, some ⟨false, [.seq (.int .i64) 0 d.2.2.2.2.2.2.1.2.1]⟩, some ⟨false, [.seq (.int .i64) 0 y13]⟩]) k d.1.2.2.2.1 d.1.2.2.2.2.2.2.1 d.2.2.2.2.2.1.2.1 d.2.2.2.2.2.2.2.1.2.1)
def sh36_1_l8 : Sh := ⟨[.lf (.ptr 0 0), .lf (.ptr 2 0), .lf (.full 4), .lf (.int .i64), .lf (.full 5)], [some ⟨none, [.int .i64, .int .i64, .int .i64, .int .i64, .full 1]⟩, some ⟨none, [.seq .str 0]⟩, some ⟨none, [.int .i64, .int .i64, .int .i64, .int .i64, .full 3]⟩, some ⟨none, [.seq .str 0]⟩, some ⟨some false, [.seq (.int .i64) 0]⟩, some ⟨some false, [.seq (.int .i64) 0]⟩]⟩
noncomputable def G36_1_8 (F k : Nat) : LoopS := mkG sh36_1_l8 [0, 1, 7, 8, 9] (outT [(.exit 0, [7, 8])]) (fun d K => f36_1_l8 F d.2.1.2.1 d.2.1.2.2.1 d.2.1.2.2.2.1 d.2.1.2.2.2.2.1 d.2.2.1.2.1 d.2.2.2.1.2.1 d.2.2.2.1.2.2.1 d.2.2.2.1.2.2.2.1 d.2.2.2.1.2.2.2.2.1 d.2.2.2.2.1.2.1 (fun (y0 : Int) (y11 : List Int) (y12 : List Int) => K (.exit 0) [.tv (.lf (.full 4)), .tv (.lf (.int .i64 y0))] [some ⟨d.2.1.1, [.int .i64 d.2.1.2.1, .int .i64 d.2.1.2.2.1, .int .i64 d.2.1.2.2.2.1, .int .i64 d.2.1.2.2.2.2.1, .full 1]⟩, some ⟨d.2.2.1.1, [.seq .str 0 d.2.2.1.2.1]⟩, some ⟨d.2.2.2.1.1, [.int .i64 d.2.2.2.1.2.1, .int .i64 d.2.2.2.1.2.2.1, .int .i64 d.2.2.2.1.2.2.2.1, .int .i64 d.2.2.2.1.2.2.2.2.1, .full 3]⟩, some ⟨d.2.2.2.2.1.1, [.seq .str 0 d.2.2.2.2.1.2.1]⟩, some ⟨false, [.seq (.int .i64) 0 y11]⟩, some ⟨false, [.seq (.int .i64) 0 y12]⟩]) k d.1.2.2.2.1 d.2.2.2.2.2.1.2.1 d.2.2.2.2.2.2.1.2.1)
noncomputable def LT36_1 (F : Nat) : Nat → Option LoopS := ltab [(11, G36_1_11 F F), (8, G36_1_8 F F)]
theorem L36_1_11g (F k : Nat) (c85_1 : Int → Int → Int → Int → Int → (List Int → Option Res) → Option Res) (c90_1 : Int → Int → Int → Int → (Int → Option Res) → Option Res)  (l11 : Int → Int → Int → Int → List ByteArray → Int → Int → Int → Int → List ByteArray → List Int → (Int → List Int → List Int → Option Res) → Nat → Int → Int → List Int → List Int → Option Res) (X11 : LoopS) (X8 : LoopS) (d : sh36_1_l11.den) (K : KL) : (fun (v17 : Int) (v18 : Int) (v19 : Int) (v20 : Int) (v21 : List ByteArray) (v22 : Int) (v23 : Int) (v24 : Int) (v25 : Int) (v26 : List ByteArray) (v28 : List Int) (K0 : (Int → List Int → List Int → Option Res)) (k : Nat) (v15 : Int) (v16 : Int) (v27 : List Int) (v29 : List Int) => cond (decide (v16 < ((v28.length : Nat) : Int))) (cond (decide ((0 : Int) ≤ v16 ∧ v16 < ((v28.length : Nat) : Int))) (cond (decide (0 + v16.toNat < v28.length)) (cond (decide ((0 : Int) ≤ v28.getD (0 + v16.toNat) 0 ∧ v28.getD (0 + v16.toNat) 0 < ((v21.length : Nat) : Int))) (cond (decide (0 + ((v28.getD (0 + v16.toNat) 0).toNat) < v21.length)) (cond (decide ((0 : Int) ≤ v28.getD (0 + v16.toNat) 0 ∧ v28.getD (0 + v16.toNat) 0 < ((v26.length : Nat) : Int))) (cond (decide (0 + ((v28.getD (0 + v16.toNat) 0).toNat) < v26.length)) (cond ((v21.getD (0 + ((v28.getD (0 + v16.toNat) 0).toNat)) ByteArray.empty).toList == (v26.getD (0 + ((v28.getD (0 + v16.toNat) 0).toNat)) ByteArray.empty).toList) (l11 v17 v18 v19 v20 v21 v22 v23 v24 v25 v26 v28 K0 k (IntKind.i64.wrap (v15 + 1)) (IntKind.i64.wrap (v16 + 1)) v27 v29) (cond (decide (v28.getD (0 + v16.toNat) 0 < v17)) (cond (decide ((v27.length + 1) * 8 ≤ 70368744177664)) (c85_1 v17 v18 v19 v20 (v28.getD (0 + v16.toNat) 0) (fun x30 => cond (decide ((v29.length + x30.length) * 8 ≤ 70368744177664)) (l11 v17 v18 v19 v20 v21 v22 v23 v24 v25 v26 v28 K0 k (IntKind.i64.wrap (v15 + 1)) (IntKind.i64.wrap (v16 + 1)) (v27 ++ [v28.getD (0 + v16.toNat) 0]) (v29 ++ x30)) none) ) none) (c85_1 v17 v18 v19 v20 (v28.getD (0 + v16.toNat) 0) (fun x31 => cond (decide ((v29.length + x31.length) * 8 ≤ 70368744177664)) (l11 v17 v18 v19 v20 v21 v22 v23 v24 v25 v26 v28 K0 k (IntKind.i64.wrap (v15 + 1)) (IntKind.i64.wrap (v16 + 1)) v27 (v29 ++ x31)) none) ))) none) none) none) none) none) none) (K0 v15 v27 v29)) d.2.1.2.1 d.2.1.2.2.1 d.2.1.2.2.2.1 d.2.1.2.2.2.2.1 d.2.2.1.2.1 d.2.2.2.1.2.1 d.2.2.2.1.2.2.1 d.2.2.2.1.2.2.2.1 d.2.2.2.1.2.2.2.2.1 d.2.2.2.2.1.2.1 d.2.2.2.2.2.2.1.2.1 (fun (y0 : Int) (y11 : List Int) (y13 : List Int) => K (.exit 2) [.tv (.lf (.ptr 0 0)), .tv (.lf (.ptr 2 0)), .tv (.lf (.full 4)), .tv (.lf (.int .i64 y0)), .tv (.lf (.full 6))] [some ⟨d.2.1.1, [.int .i64 d.2.1.2.1, .int .i64 d.2.1.2.2.1, .int .i64 d.2.1.2.2.2.1, .int .i64 d.2.1.2.2.2.2.1, .full 1]⟩, some ⟨d.2.2.1.1, [.seq .str 0 d.2.2.1.2.1]⟩, some ⟨d.2.2.2.1.1, [.int .i64 d.2.2.2.1.2.1, .int .i64 d.2.2.2.1.2.2.1, .int .i64 d.2.2.2.1.2.2.2.1, .int .i64 d.2.2.2.1.2.2.2.2.1, .full 3]⟩, some ⟨d.2.2.2.2.1.1, [.seq .str 0 d.2.2.2.2.1.2.1]⟩, some ⟨false, [.seq (.int .i64) 0 y11]⟩, some ⟨false, [.seq (.int .i64) 0 d.2.2.2.2.2.2.1.2.1]⟩, some ⟨false, [.seq (.int .i64) 0 y13]⟩]) k d.1.2.2.2.1 d.1.2.2.2.2.2.2.1 d.2.2.2.2.2.1.2.1 d.2.2.2.2.2.2.2.1.2.1 = roundOf Try.prog (tab [(85, (mkS sh85_1 (fun d K => c85_1 d.1.1.1 d.1.1.2.1 d.1.1.2.2.1 d.1.1.2.2.2.1 d.1.2.1 (fun (y0 : List Int) => K [.lf (.full 0)] [some ⟨false, [.seq (.int .i64) 0 y0]⟩])) noS)), (90, (mkS sh90_1 (fun d K => c90_1 d.1.1.1 d.1.1.2.1 d.1.1.2.2.1 d.1.1.2.2.2.1 (fun (y0 : Int) => K [.lf (.int .i64 y0)] [])) noS))]) 97 4 (ltab [(11, X11), (8, X8)]) (mkG sh36_1_l11 [0, 1, 7, 8, 9, 10, 11] (outT [(.exit 2, [0, 1, 7, 8, 10])]) (fun d K => l11 d.2.1.2.1 d.2.1.2.2.1 d.2.1.2.2.2.1 d.2.1.2.2.2.2.1 d.2.2.1.2.1 d.2.2.2.1.2.1 d.2.2.2.1.2.2.1 d.2.2.2.1.2.2.2.1 d.2.2.2.1.2.2.2.2.1 d.2.2.2.2.1.2.1 d.2.2.2.2.2.2.1.2.1 (fun (y0 : Int) (y11 : List Int) (y13 : List Int) => K (.exit 2) [.tv (.lf (.ptr 0 0)), .tv (.lf (.ptr 2 0)), .tv (.lf (.full 4)), .tv (.lf (.int .i64 y0)), .tv (.lf (.full 6))] [some ⟨d.2.1.1, [.int .i64 d.2.1.2.1, .int .i64 d.2.1.2.2.1, .int .i64 d.2.1.2.2.2.1, .int .i64 d.2.1.2.2.2.2.1, .full 1]⟩, some ⟨d.2.2.1.1, [.seq .str 0 d.2.2.1.2.1]⟩, some ⟨d.2.2.2.1.1, [.int .i64 d.2.2.2.1.2.1, .int .i64 d.2.2.2.1.2.2.1, .int .i64 d.2.2.2.1.2.2.2.1, .int .i64 d.2.2.2.1.2.2.2.2.1, .full 3]⟩, some ⟨d.2.2.2.2.1.1, [.seq .str 0 d.2.2.2.2.1.2.1]⟩, some ⟨false, [.seq (.int .i64) 0 y11]⟩, some ⟨false, [.seq (.int .i64) 0 d.2.2.2.2.2.2.1.2.1]⟩, some ⟨false, [.seq (.int .i64) 0 y13]⟩]) k d.1.2.2.2.1 d.1.2.2.2.2.2.2.1 d.2.2.2.2.2.1.2.1 d.2.2.2.2.2.2.2.1.2.1)) b36_1 (encT sh36_1_l11.vs d.1) (encH sh36_1_l11.h d.2) K := by kernel_rfl
theorem L36_1_11 (F : Nat) : LoopOK Try.prog (T36_1 F) 97 4 (LT36_1 F) (G36_1_11 F F) b36_1 :=
  loopOK_of (s := sh36_1_l11) (live := [0, 1, 7, 8, 9, 10, 11]) (out := (outT [(.exit 2, [0, 1, 7, 8, 10])])) (fun k d K => f36_1_l11 F d.2.1.2.1 d.2.1.2.2.1 d.2.1.2.2.2.1 d.2.1.2.2.2.2.1 d.2.2.1.2.1 d.2.2.2.1.2.1 d.2.2.2.1.2.2.1 d.2.2.2.1.2.2.2.1 d.2.2.2.1.2.2.2.2.1 d.2.2.2.2.1.2.1 d.2.2.2.2.2.2.1.2.1 (fun (y0 : Int) (y11 : List Int) (y13 : List Int) => K (.exit 2) [.tv (.lf (.ptr 0 0)), .tv (.lf (.ptr 2 0)), .tv (.lf (.full 4)), .tv (.lf (.int .i64 y0)), .tv (.lf (.full 6))] [some ⟨d.2.1.1, [.int .i64 d.2.1.2.1, .int .i64 d.2.1.2.2.1, .int .i64 d.2.1.2.2.2.1, .int .i64 d.2.1.2.2.2.2.1, .full 1]⟩, some ⟨d.2.2.1.1, [.seq .str 0 d.2.2.1.2.1]⟩, some ⟨d.2.2.2.1.1, [.int .i64 d.2.2.2.1.2.1, .int .i64 d.2.2.2.1.2.2.1, .int .i64 d.2.2.2.1.2.2.2.1, .int .i64 d.2.2.2.1.2.2.2.2.1, .full 3]⟩, some ⟨d.2.2.2.2.1.1, [.seq .str 0 d.2.2.2.2.1.2.1]⟩, some ⟨false, [.seq (.int .i64) 0 y11]⟩, some ⟨false, [.seq (.int .i64) 0 d.2.2.2.2.2.2.1.2.1]⟩, some ⟨false, [.seq (.int .i64) 0 y13]⟩]) k d.1.2.2.2.1 d.1.2.2.2.2.2.2.1 d.2.2.2.2.2.1.2.1 d.2.2.2.2.2.2.2.1.2.1) F (fun d K => by kernel_rfl)  (fun k d K => Eq.mp (by kernel_rfl) (L36_1_11g F k (f85_1 F) (f90_1 F)  (f36_1_l11 F) (G36_1_11 F F) (G36_1_8 F F) d K))
theorem L36_1_8g (F k : Nat) (c85_1 : Int → Int → Int → Int → Int → (List Int → Option Res) → Option Res) (c90_1 : Int → Int → Int → Int → (Int → Option Res) → Option Res) (l11 : Int → Int → Int → Int → List ByteArray → Int → Int → Int → Int → List ByteArray → List Int → (Int → List Int → List Int → Option Res) → Nat → Int → Int → List Int → List Int → Option Res) (l8 : Int → Int → Int → Int → List ByteArray → Int → Int → Int → Int → List ByteArray → (Int → List Int → List Int → Option Res) → Nat → Int → List Int → List Int → Option Res) (X8 : LoopS) (d : sh36_1_l8.den) (K : KL) : (fun (v3 : Int) (v4 : Int) (v5 : Int) (v6 : Int) (v7 : List ByteArray) (v8 : Int) (v9 : Int) (v10 : Int) (v11 : Int) (v12 : List ByteArray) (K0 : (Int → List Int → List Int → Option Res)) (k : Nat) (v2 : Int) (v13 : List Int) (v14 : List Int) => cond (decide (((v14.length : Nat) : Int) > 0)) (l11 v3 v4 v5 v6 v7 v8 v9 v10 v11 v12 v14 (fun x32 x33 x34 => l8 v3 v4 v5 v6 v7 v8 v9 v10 v11 v12 K0 k x32 x33 x34) F v2 0 v13 []) (K0 v2 v13 v14)) d.2.1.2.1 d.2.1.2.2.1 d.2.1.2.2.2.1 d.2.1.2.2.2.2.1 d.2.2.1.2.1 d.2.2.2.1.2.1 d.2.2.2.1.2.2.1 d.2.2.2.1.2.2.2.1 d.2.2.2.1.2.2.2.2.1 d.2.2.2.2.1.2.1 (fun (y0 : Int) (y11 : List Int) (y12 : List Int) => K (.exit 0) [.tv (.lf (.full 4)), .tv (.lf (.int .i64 y0))] [some ⟨d.2.1.1, [.int .i64 d.2.1.2.1, .int .i64 d.2.1.2.2.1, .int .i64 d.2.1.2.2.2.1, .int .i64 d.2.1.2.2.2.2.1, .full 1]⟩, some ⟨d.2.2.1.1, [.seq .str 0 d.2.2.1.2.1]⟩, some ⟨d.2.2.2.1.1, [.int .i64 d.2.2.2.1.2.1, .int .i64 d.2.2.2.1.2.2.1, .int .i64 d.2.2.2.1.2.2.2.1, .int .i64 d.2.2.2.1.2.2.2.2.1, .full 3]⟩, some ⟨d.2.2.2.2.1.1, [.seq .str 0 d.2.2.2.2.1.2.1]⟩, some ⟨false, [.seq (.int .i64) 0 y11]⟩, some ⟨false, [.seq (.int .i64) 0 y12]⟩]) k d.1.2.2.2.1 d.2.2.2.2.2.1.2.1 d.2.2.2.2.2.2.1.2.1 = roundOf Try.prog (tab [(85, (mkS sh85_1 (fun d K => c85_1 d.1.1.1 d.1.1.2.1 d.1.1.2.2.1 d.1.1.2.2.2.1 d.1.2.1 (fun (y0 : List Int) => K [.lf (.full 0)] [some ⟨false, [.seq (.int .i64) 0 y0]⟩])) noS)), (90, (mkS sh90_1 (fun d K => c90_1 d.1.1.1 d.1.1.2.1 d.1.1.2.2.1 d.1.1.2.2.2.1 (fun (y0 : Int) => K [.lf (.int .i64 y0)] [])) noS))]) 97 4 (ltab [(11, mkG sh36_1_l11 [0, 1, 7, 8, 9, 10, 11] (outT [(.exit 2, [0, 1, 7, 8, 10])]) (fun d K => l11 d.2.1.2.1 d.2.1.2.2.1 d.2.1.2.2.2.1 d.2.1.2.2.2.2.1 d.2.2.1.2.1 d.2.2.2.1.2.1 d.2.2.2.1.2.2.1 d.2.2.2.1.2.2.2.1 d.2.2.2.1.2.2.2.2.1 d.2.2.2.2.1.2.1 d.2.2.2.2.2.2.1.2.1 (fun (y0 : Int) (y11 : List Int) (y13 : List Int) => K (.exit 2) [.tv (.lf (.ptr 0 0)), .tv (.lf (.ptr 2 0)), .tv (.lf (.full 4)), .tv (.lf (.int .i64 y0)), .tv (.lf (.full 6))] [some ⟨d.2.1.1, [.int .i64 d.2.1.2.1, .int .i64 d.2.1.2.2.1, .int .i64 d.2.1.2.2.2.1, .int .i64 d.2.1.2.2.2.2.1, .full 1]⟩, some ⟨d.2.2.1.1, [.seq .str 0 d.2.2.1.2.1]⟩, some ⟨d.2.2.2.1.1, [.int .i64 d.2.2.2.1.2.1, .int .i64 d.2.2.2.1.2.2.1, .int .i64 d.2.2.2.1.2.2.2.1, .int .i64 d.2.2.2.1.2.2.2.2.1, .full 3]⟩, some ⟨d.2.2.2.2.1.1, [.seq .str 0 d.2.2.2.2.1.2.1]⟩, some ⟨false, [.seq (.int .i64) 0 y11]⟩, some ⟨false, [.seq (.int .i64) 0 d.2.2.2.2.2.2.1.2.1]⟩, some ⟨false, [.seq (.int .i64) 0 y13]⟩]) F d.1.2.2.2.1 d.1.2.2.2.2.2.2.1 d.2.2.2.2.2.1.2.1 d.2.2.2.2.2.2.2.1.2.1)), (8, X8)]) (mkG sh36_1_l8 [0, 1, 7, 8, 9] (outT [(.exit 0, [7, 8])]) (fun d K => l8 d.2.1.2.1 d.2.1.2.2.1 d.2.1.2.2.2.1 d.2.1.2.2.2.2.1 d.2.2.1.2.1 d.2.2.2.1.2.1 d.2.2.2.1.2.2.1 d.2.2.2.1.2.2.2.1 d.2.2.2.1.2.2.2.2.1 d.2.2.2.2.1.2.1 (fun (y0 : Int) (y11 : List Int) (y12 : List Int) => K (.exit 0) [.tv (.lf (.full 4)), .tv (.lf (.int .i64 y0))] [some ⟨d.2.1.1, [.int .i64 d.2.1.2.1, .int .i64 d.2.1.2.2.1, .int .i64 d.2.1.2.2.2.1, .int .i64 d.2.1.2.2.2.2.1, .full 1]⟩, some ⟨d.2.2.1.1, [.seq .str 0 d.2.2.1.2.1]⟩, some ⟨d.2.2.2.1.1, [.int .i64 d.2.2.2.1.2.1, .int .i64 d.2.2.2.1.2.2.1, .int .i64 d.2.2.2.1.2.2.2.1, .int .i64 d.2.2.2.1.2.2.2.2.1, .full 3]⟩, some ⟨d.2.2.2.2.1.1, [.seq .str 0 d.2.2.2.2.1.2.1]⟩, some ⟨false, [.seq (.int .i64) 0 y11]⟩, some ⟨false, [.seq (.int .i64) 0 y12]⟩]) k d.1.2.2.2.1 d.2.2.2.2.2.1.2.1 d.2.2.2.2.2.2.1.2.1)) b36_0 (encT sh36_1_l8.vs d.1) (encH sh36_1_l8.h d.2) K := by kernel_rfl
theorem L36_1_8 (F : Nat) : LoopOK Try.prog (T36_1 F) 97 4 (LT36_1 F) (G36_1_8 F F) b36_0 :=
  loopOK_of (s := sh36_1_l8) (live := [0, 1, 7, 8, 9]) (out := (outT [(.exit 0, [7, 8])])) (fun k d K => f36_1_l8 F d.2.1.2.1 d.2.1.2.2.1 d.2.1.2.2.2.1 d.2.1.2.2.2.2.1 d.2.2.1.2.1 d.2.2.2.1.2.1 d.2.2.2.1.2.2.1 d.2.2.2.1.2.2.2.1 d.2.2.2.1.2.2.2.2.1 d.2.2.2.2.1.2.1 (fun (y0 : Int) (y11 : List Int) (y12 : List Int) => K (.exit 0) [.tv (.lf (.full 4)), .tv (.lf (.int .i64 y0))] [some ⟨d.2.1.1, [.int .i64 d.2.1.2.1, .int .i64 d.2.1.2.2.1, .int .i64 d.2.1.2.2.2.1, .int .i64 d.2.1.2.2.2.2.1, .full 1]⟩, some ⟨d.2.2.1.1, [.seq .str 0 d.2.2.1.2.1]⟩, some ⟨d.2.2.2.1.1, [.int .i64 d.2.2.2.1.2.1, .int .i64 d.2.2.2.1.2.2.1, .int .i64 d.2.2.2.1.2.2.2.1, .int .i64 d.2.2.2.1.2.2.2.2.1, .full 3]⟩, some ⟨d.2.2.2.2.1.1, [.seq .str 0 d.2.2.2.2.1.2.1]⟩, some ⟨false, [.seq (.int .i64) 0 y11]⟩, some ⟨false, [.seq (.int .i64) 0 y12]⟩]) k d.1.2.2.2.1 d.2.2.2.2.2.1.2.1 d.2.2.2.2.2.2.1.2.1) F (fun d K => by kernel_rfl)  (fun k d K => Eq.mp (by kernel_rfl) (L36_1_8g F k (f85_1 F) (f90_1 F) (f36_1_l11 F) (f36_1_l8 F) (G36_1_8 F F) d K))
theorem E36_1g (F : Nat) (c85_1 : Int → Int → Int → Int → Int → (List Int → Option Res) → Option Res) (c90_1 : Int → Int → Int → Int → (Int → Option Res) → Option Res) (l8 : Int → Int → Int → Int → List ByteArray → Int → Int → Int → Int → List ByteArray → (Int → List Int → List Int → Option Res) → Nat → Int → List Int → List Int → Option Res) (X11 : LoopS) (d : sh36_1.den) (K : KF) : evBody Try.prog (tab [(85, (mkS sh85_1 (fun d K => c85_1 d.1.1.1 d.1.1.2.1 d.1.1.2.2.1 d.1.1.2.2.2.1 d.1.2.1 (fun (y0 : List Int) => K [.lf (.full 0)] [some ⟨false, [.seq (.int .i64) 0 y0]⟩])) noS)), (90, (mkS sh90_1 (fun d K => c90_1 d.1.1.1 d.1.1.2.1 d.1.1.2.2.1 d.1.1.2.2.2.1 (fun (y0 : Int) => K [.lf (.int .i64 y0)] [])) noS))]) 97 4 (ltab [(11, X11), (8, mkG sh36_1_l8 [0, 1, 7, 8, 9] (outT [(.exit 0, [7, 8])]) (fun d K => l8 d.2.1.2.1 d.2.1.2.2.1 d.2.1.2.2.2.1 d.2.1.2.2.2.2.1 d.2.2.1.2.1 d.2.2.2.1.2.1 d.2.2.2.1.2.2.1 d.2.2.2.1.2.2.2.1 d.2.2.2.1.2.2.2.2.1 d.2.2.2.2.1.2.1 (fun (y0 : Int) (y11 : List Int) (y12 : List Int) => K (.exit 0) [.tv (.lf (.full 4)), .tv (.lf (.int .i64 y0))] [some ⟨d.2.1.1, [.int .i64 d.2.1.2.1, .int .i64 d.2.1.2.2.1, .int .i64 d.2.1.2.2.2.1, .int .i64 d.2.1.2.2.2.2.1, .full 1]⟩, some ⟨d.2.2.1.1, [.seq .str 0 d.2.2.1.2.1]⟩, some ⟨d.2.2.2.1.1, [.int .i64 d.2.2.2.1.2.1, .int .i64 d.2.2.2.1.2.2.1, .int .i64 d.2.2.2.1.2.2.2.1, .int .i64 d.2.2.2.1.2.2.2.2.1, .full 3]⟩, some ⟨d.2.2.2.2.1.1, [.seq .str 0 d.2.2.2.2.1.2.1]⟩, some ⟨false, [.seq (.int .i64) 0 y11]⟩, some ⟨false, [.seq (.int .i64) 0 y12]⟩]) F d.1.2.2.2.1 d.2.2.2.2.2.1.2.1 d.2.2.2.2.2.2.1.2.1))]) code36 Try.f36.results.toList (encT sh36_1.vs d.1) (encH sh36_1.h d.2) K = (fun (a1 : Int) (a2 : Int) (a3 : Int) (a4 : Int) (a5 : List ByteArray) (a6 : Int) (a7 : Int) (a8 : Int) (a9 : Int) (a10 : List ByteArray) (K0 : (Int → Int → List Int → Option Res)) => cond (a1 != a6) (K0 0 12 []) (cond (a2 != a7) (K0 0 12 []) (c90_1 a1 a2 a3 a4 (fun x1 => l8 a1 a2 a3 a4 a5 a6 a7 a8 a9 a10 (fun x35 x36 x37 => K0 x35 0 x36) F 0 [] [x1]) ))) d.2.1.2.1 d.2.1.2.2.1 d.2.1.2.2.2.1 d.2.1.2.2.2.2.1 d.2.2.1.2.1 d.2.2.2.1.2.1 d.2.2.2.1.2.2.1 d.2.2.2.1.2.2.2.1 d.2.2.2.1.2.2.2.2.1 d.2.2.2.2.1.2.1 (fun (y0 : Int) (y1 : Int) (y12 : List Int) => K [.lf (.full 4), .lf (.int .i64 y0), .lf (.int .i64 y1)] [some ⟨d.2.1.1, [.int .i64 d.2.1.2.1, .int .i64 d.2.1.2.2.1, .int .i64 d.2.1.2.2.2.1, .int .i64 d.2.1.2.2.2.2.1, .full 1]⟩, some ⟨d.2.2.1.1, [.seq .str 0 d.2.2.1.2.1]⟩, some ⟨d.2.2.2.1.1, [.int .i64 d.2.2.2.1.2.1, .int .i64 d.2.2.2.1.2.2.1, .int .i64 d.2.2.2.1.2.2.2.1, .int .i64 d.2.2.2.1.2.2.2.2.1, .full 3]⟩, some ⟨d.2.2.2.2.1.1, [.seq .str 0 d.2.2.2.2.1.2.1]⟩, some ⟨false, [.seq (.int .i64) 0 y12]⟩]) := by kernel_rfl
theorem E36_1 (F : Nat) (d : sh36_1.den) (K : KF) : evBody Try.prog (T36_1 F) 97 4 (LT36_1 F) code36 Try.f36.results.toList (encT sh36_1.vs d.1) (encH sh36_1.h d.2) K = f36_1 F d.2.1.2.1 d.2.1.2.2.1 d.2.1.2.2.2.1 d.2.1.2.2.2.2.1 d.2.2.1.2.1 d.2.2.2.1.2.1 d.2.2.2.1.2.2.1 d.2.2.2.1.2.2.2.1 d.2.2.2.1.2.2.2.2.1 d.2.2.2.2.1.2.1 (fun (y0 : Int) (y1 : Int) (y12 : List Int) => K [.lf (.full 4), .lf (.int .i64 y0), .lf (.int .i64 y1)] [some ⟨d.2.1.1, [.int .i64 d.2.1.2.1, .int .i64 d.2.1.2.2.1, .int .i64 d.2.1.2.2.2.1, .int .i64 d.2.1.2.2.2.2.1, .full 1]⟩, some ⟨d.2.2.1.1, [.seq .str 0 d.2.2.1.2.1]⟩, some ⟨d.2.2.2.1.1, [.int .i64 d.2.2.2.1.2.1, .int .i64 d.2.2.2.1.2.2.1, .int .i64 d.2.2.2.1.2.2.2.1, .int .i64 d.2.2.2.1.2.2.2.2.1, .full 3]⟩, some ⟨d.2.2.2.2.1.1, [.seq .str 0 d.2.2.2.2.1.2.1]⟩, some ⟨false, [.seq (.int .i64) 0 y12]⟩]) := Eq.mp (by kernel_rfl) (E36_1g F (f85_1 F) (f90_1 F) (f36_1_l8 F) (G36_1_11 F F) d K)
theorem S36_1_ok (F : Nat) (o : Summ) (ho : SoundFn Try.prog 36 o) : SoundFn Try.prog 36 (S36_1 F o) :=
  soundFn_of (fn := Try.f36) (c := code36) (by kernel_rfl) (tab_cons (S85_1_ok F _ (noS_sound enter85)) (tab_cons (S90_1_ok F _ (noS_sound enter90)) tab_nil)) (by kernel_rfl) (by kernel_rfl) ho (by rw [loops36]; exact (loopsOK_cons (by kernel_rfl) (L36_1_8 F) (loopsOK_cons (by kernel_rfl) (L36_1_11 F) loopsOK_nil))) (by rw [scopes36]; exact scopesOK_nil) (E36_1 F)
end Go.Proofs.Ytjlolgpbidfmeaa.X
end

section
/- Trees: what differs between two: the code's queue and the document's levels come to one. -/
namespace Go.Proofs.Ytjlolgpbidfmeaa.X
open Go Go.Proofs.Ytjlolgpbidfmeaa.Ev
set_option linter.unusedVariables false

/-- The weight of a node of a level: at least the number of nodes below it, with itself. -/
def wN (f : Nat) : Nat → Nat
  | 0 => 1
  | j + 1 => 1 + f * wN f j

def nlev (L : List Int) (x : Int) : Nat := match lvl x 0 0 L with
  | some (j, _) => j
  | none => 0

theorem chl_lev {f k x : Int} (hf : 2 ≤ f ∧ f ≤ 4) : ∀ (r : List Int) (a s : Int) (i : Nat), pos (a :: r) → x ∈ chl f k s (a :: r) →
    ∃ (j : Nat) (t t' : Int), lvl x s i (a :: r) = some (j, t) ∧ lvl k s i (a :: r) = some (j + 1, t') ∧ s ≤ x
  | [], a, s, i, h, hx => by simp [chl] at hx
  | b :: r, a, s, i, h, hx => by
    have ha := (pos_tl h).1
    simp only [chl] at hx
    by_cases hq : s + a ≤ k ∧ k < s + a + b
    · rw [if_pos hq, kids_mem hf (by omega)] at hx
      refine ⟨i, s, s + a, ?_, ?_, by omega⟩
      · rw [lvl, if_pos (by omega)]
      · rw [lvl, if_neg (by omega), lvl, if_pos (by omega)]
    · rw [if_neg hq] at hx
      obtain ⟨j, t, t', h1, h2, h3⟩ := chl_lev hf r b (s + a) (i + 1) (pos_tl h).2 hx
      obtain ⟨p, a', q, e1, e2, e3, e4, e5⟩ := lvl_spec _ _ _ _ _ h2
      have hp := sum_nn (L := p) (fun y hy => (pos_tl h).2 y (by rw [e1]; simp [hy]))
      refine ⟨j, t, t', ?_, ?_, by omega⟩
      · rw [lvl, if_neg (by omega), h1]
      · rw [lvl, if_neg (by omega), h2]

theorem chs_lev {n f c u k x : Int} (h : rt n f c u) (hx : x ∈ chs f k (levels n f c u)) : nlev (levels n f c u) k = nlev (levels n f c u) x + 1 := by
  obtain ⟨r, hr⟩ := levels_cons h
  have hp := lev_pos n f c u
  rw [chs_chl _ hp] at hx
  rw [hr] at hp hx ⊢
  obtain ⟨j, t, t', h1, h2, h3⟩ := chl_lev h.2.1 r n 0 0 hp hx
  unfold nlev
  rw [h1, h2]

def W (n f c u x : Int) : Nat := wN f.toNat (nlev (levels n f c u) x)
def qw (n f c u : Int) : List Int → Nat
  | [] => 0
  | x :: r => W n f c u x + qw n f c u r

theorem W_pos (n f c u x : Int) : 1 ≤ W n f c u x := by
  unfold W
  cases nlev (levels n f c u) x <;> simp [wN]

theorem qw_app (n f c u : Int) : ∀ l r : List Int, qw n f c u (l ++ r) = qw n f c u l + qw n f c u r
  | [], r => by simp [qw]
  | x :: l, r => by simp [qw, qw_app n f c u l r]; omega

theorem qw_len (n f c u : Int) : ∀ l : List Int, l.length ≤ qw n f c u l
  | [] => by simp [qw]
  | x :: l => by
    have := qw_len n f c u l
    have := W_pos n f c u x
    simp only [qw, List.length_cons]; omega

theorem qw_le {n f c u : Int} {w : Nat} : ∀ l : List Int, (∀ x ∈ l, W n f c u x = w) → qw n f c u l = l.length * w
  | [], _ => by simp [qw]
  | x :: l, h => by
    rw [qw, h x (by simp), qw_le l fun y hy => h y (by simp [hy]), List.length_cons, Nat.add_mul]; omega

theorem chs_w {n f c u k : Int} (h : rt n f c u) : qw n f c u (chs f k (levels n f c u)) + 1 ≤ W n f c u k := by
  have hl := chs_len f k (levels n f c u)
  cases hc : chs f k (levels n f c u) with
  | nil => have := W_pos n f c u k; simp [qw]; omega
  | cons x r =>
    have hx := chs_lev (k := k) (x := x) h (by rw [hc]; simp)
    have hw : ∀ y ∈ x :: r, W n f c u y = W n f c u x := by
      intro y hy
      have := chs_lev (k := k) (x := y) h (by rw [hc]; exact hy)
      unfold W
      rw [show nlev (levels n f c u) y = nlev (levels n f c u) x by omega]
    rw [qw_le _ hw]
    rw [hc] at hl
    have hk : W n f c u k = 1 + f.toNat * W n f c u x := by
      unfold W
      rw [hx]; rfl
    rw [hk]
    have := Nat.mul_le_mul_right (W n f c u x) hl
    omega

/-- The two trees' walk: nodes wait in a queue. -/
def bfs (n f c u : Int) (L M : List ByteArray) : Nat → List Int → List Int → Nat → List Int × Nat
  | 0, _, out, cnt => (out, cnt)
  | k + 1, [], out, cnt => (out, cnt)
  | k + 1, x :: q, out, cnt =>
    if (L.getD x.toNat ByteArray.empty).toList == (M.getD x.toNat ByteArray.empty).toList then bfs n f c u L M k q out (cnt + 1)
    else bfs n f c u L M k (q ++ chs f x (levels n f c u)) (if x < n then out ++ [x] else out) (cnt + 1)

def inR (N : Nat) (q : List Int) : Prop := ∀ x ∈ q, 0 ≤ x ∧ x < N

theorem inR_chs {n f c u x : Int} {N : Nat} (h : rt n f c u) (hx : 0 ≤ x ∧ x < N) : inR N (chs f x (levels n f c u)) := by
  intro y hy
  have := chs_lt h hx.1 y hy
  omega

theorem inR_app {N : Nat} {q r : List Int} (hq : inR N q) (hr : inR N r) : inR N (q ++ r) := by
  intro x hx
  rcases List.mem_append.1 hx with hx | hx
  · exact hq x hx
  · exact hr x hx

theorem diffP {β : Type} {n f c u n' f' c' u' : Int} {L M : List ByteArray} {K : Int → List Int → List Int → Option β} {z : Int → List Int → Option β} (hz : ∀ a b w, K a b w = z a b) (h : rt n f c u) (hML : M.length = L.length) (hLl : L.length ≤ 1000) :
    ∀ (m : Nat) (wait out : List Int) (i k : Nat), qw n f c u (wait.drop i) ≤ m → i ≤ wait.length → m < k → inR L.length (wait.drop i) → out.length ≤ i → i + m ≤ 10000 →
      f31_1_l1000000 20000 n f c u L n' f' c' u' M K k (i : Int) out wait = z ((bfs n f c u L M (m + 1) (wait.drop i) out i).2 : Int) (bfs n f c u L M (m + 1) (wait.drop i) out i).1
  | m, wait, out, i, k, hw, hi, hk, hr, ho, hm => by
    obtain ⟨k, rfl⟩ : ∃ j, k = j + 1 := ⟨k - 1, by omega⟩
    rw [f31_1_l1000000]
    cases hd : wait.drop i with
    | nil =>
      have := nilI hd hi
      have e : ((i : Int) == ((wait.length : Nat) : Int)) = true := by simp; omega
      rw [e, cond_t, hz]
      rfl
    | cons x q =>
      obtain ⟨d1, d2, d3⟩ := atI hd
      rw [hd] at hw hr
      have hwx := W_pos n f c u x
      have hx := hr x (by simp)
      have hql := qw_len n f c u q
      simp only [qw] at hw
      have hlen : wait.length = i + 1 + q.length := by
        have := congrArg List.length d3
        simp at this; omega
      cases m with
      | zero => omega
      | succ m =>
        have e : ((i : Int) == ((wait.length : Nat) : Int)) = false := by simp; omega
        rw [e, cond_false, ct (by omega), ct (by omega), d2, ct (by omega), ct (by omega), ct (by omega), ct (by omega), show 0 + x.toNat = x.toNat by omega, w64 (x := (i : Int) + 1) (by omega) (by omega), show ((i : Int) + 1) = ((i + 1 : Nat) : Int) by omega]
        rw [bfs]
        have hq : inR L.length q := fun y hy => hr y (by simp [hy])
        cases he : ((L.getD x.toNat ByteArray.empty).toList == (M.getD x.toNat ByteArray.empty).toList) with
        | true =>
          rw [cond_ff, if_pos rfl]
          have := diffP (n' := n') (f' := f') (c' := c') (u' := u') hz h hML hLl m wait out (i + 1) k (by rw [d3]; omega) (by omega) (by omega) (by rw [d3]; exact hq) (by omega) (by omega)
          rw [d3] at this
          exact this
        | false =>
          have hcw := chs_w (k := x) h
          have hcl := chs_len f x (levels n f c u)
          have hf := h.2.1
          rw [cond_tt, if_neg (by simp)]
          have hdrop : (wait ++ chs f x (levels n f c u)).drop (i + 1) = q ++ chs f x (levels n f c u) := by rw [List.drop_append_of_le_length (by omega), d3]
          by_cases hxn : x < n
          · have := diffP (n' := n') (f' := f') (c' := c') (u' := u') hz h hML hLl m (wait ++ chs f x (levels n f c u)) (out ++ [x]) (i + 1) k (by rw [hdrop, qw_app]; omega) (by simp; omega) (by omega) (by rw [hdrop]; exact inR_app hq (inR_chs h hx)) (by simp; omega) (by omega)
            rw [hdrop] at this
            rw [ct hxn, ct (by omega), chs58, ct (by omega), if_pos hxn]
            exact this
          · have := diffP (n' := n') (f' := f') (c' := c') (u' := u') hz h hML hLl m (wait ++ chs f x (levels n f c u)) out (i + 1) k (by rw [hdrop, qw_app]; omega) (by simp; omega) (by omega) (by rw [hdrop]; exact inR_app hq (inR_chs h hx)) (by omega) (by omega)
            rw [hdrop] at this
            rw [cf hxn, chs58, ct (by omega), if_neg hxn]
            exact this
termination_by m => m

end Go.Proofs.Ytjlolgpbidfmeaa.X
end

section
/- Trees: what differs between two: the document's levels, and the code's answer. -/
namespace Go.Proofs.Ytjlolgpbidfmeaa.X
open Go Go.Proofs.Ytjlolgpbidfmeaa.Ev
set_option linter.unusedVariables false

theorem bfs_fuel {n f c u : Int} {L M : List ByteArray} (h : rt n f c u) : ∀ (m m' : Nat) (q out : List Int) (cnt : Nat), qw n f c u q ≤ m → qw n f c u q ≤ m' → bfs n f c u L M (m + 1) q out cnt = bfs n f c u L M (m' + 1) q out cnt
  | m, m', [], out, cnt, h1, h2 => by simp [bfs]
  | 0, m', x :: q, out, cnt, h1, h2 => by have := W_pos n f c u x; simp only [qw] at h1; omega
  | m + 1, 0, x :: q, out, cnt, h1, h2 => by have := W_pos n f c u x; simp only [qw] at h2; omega
  | m + 1, m' + 1, x :: q, out, cnt, h1, h2 => by
    have hw := W_pos n f c u x
    have hcw := chs_w (k := x) h
    simp only [qw] at h1 h2
    rw [bfs, bfs]
    split
    · exact bfs_fuel h m m' q out (cnt + 1) (by omega) (by omega)
    · exact bfs_fuel h m m' _ _ (cnt + 1) (by rw [qw_app]; omega) (by rw [qw_app]; omega)

/-- One level of the document's walk. -/
def lev1 (n f c u : Int) (L M : List ByteArray) : List Int → List Int → Nat → List Int → List Int × Nat × List Int
  | [], out, cnt, below => (out, cnt, below)
  | x :: r, out, cnt, below =>
    if (L.getD x.toNat ByteArray.empty).toList == (M.getD x.toNat ByteArray.empty).toList then lev1 n f c u L M r out (cnt + 1) below
    else lev1 n f c u L M r (if x < n then out ++ [x] else out) (cnt + 1) (below ++ chs f x (levels n f c u))

theorem lev1_ok {n f c u : Int} {L M : List ByteArray} (h : rt n f c u) {N : Nat} : ∀ (r out : List Int) (cnt : Nat) (below : List Int), inR N r → inR N below → out.length ≤ cnt →
    qw n f c u (lev1 n f c u L M r out cnt below).2.2 + r.length ≤ qw n f c u (r ++ below) ∧ inR N (lev1 n f c u L M r out cnt below).2.2 ∧ (lev1 n f c u L M r out cnt below).2.1 = cnt + r.length ∧ (lev1 n f c u L M r out cnt below).1.length ≤ cnt + r.length
  | [], out, cnt, below, hr, hb, ho => by simp [lev1]; exact ⟨hb, ho⟩
  | x :: r, out, cnt, below, hr, hb, ho => by
    have hw := W_pos n f c u x
    have hcw := chs_w (k := x) h
    have hr2 : inR N r := fun y hy => hr y (by simp [hy])
    simp only [lev1, List.cons_append, qw, List.length_cons]
    split
    · obtain ⟨q1, q2, q3, q4⟩ := lev1_ok (L := L) (M := M) h r out (cnt + 1) below hr2 hb (by omega)
      exact ⟨by omega, q2, by omega, by omega⟩
    · obtain ⟨q1, q2, q3, q4⟩ := lev1_ok (L := L) (M := M) h r (if x < n then out ++ [x] else out) (cnt + 1) (below ++ chs f x (levels n f c u)) hr2 (inR_app hb (inR_chs h (hr x (by simp)))) (by split <;> (try simp only [List.length_append, List.length_cons, List.length_nil]) <;> omega)
      rw [qw_app, qw_app] at q1
      rw [qw_app]
      exact ⟨by omega, q2, by omega, by omega⟩

theorem bfs_lev {n f c u : Int} {L M : List ByteArray} (h : rt n f c u) : ∀ (r out : List Int) (cnt : Nat) (below : List Int) (m : Nat), qw n f c u (r ++ below) ≤ m →
    bfs n f c u L M (m + 1) (r ++ below) out cnt = bfs n f c u L M (m + 1) (lev1 n f c u L M r out cnt below).2.2 (lev1 n f c u L M r out cnt below).1 (lev1 n f c u L M r out cnt below).2.1
  | [], out, cnt, below, m, hm => by simp [lev1]
  | x :: r, out, cnt, below, m, hm => by
    have hw := W_pos n f c u x
    have hcw := chs_w (k := x) h
    simp only [List.cons_append, qw] at hm
    cases m with
    | zero => omega
    | succ m =>
      simp only [List.cons_append]
      rw [bfs, lev1]
      split
      · have h1 := bfs_lev (L := L) (M := M) h r out (cnt + 1) below m (by omega)
        have h2 : qw n f c u (lev1 n f c u L M r out (cnt + 1) below).2.2 ≤ m := by
          have := lev1_w (L := L) (M := M) h r out (cnt + 1) below
          omega
        rw [h1]
        exact bfs_fuel h m (m + 1) _ _ _ h2 (by omega)
      · rw [qw_app] at hm
        have h1 := bfs_lev (L := L) (M := M) h r (if x < n then out ++ [x] else out) (cnt + 1) (below ++ chs f x (levels n f c u)) m (by rw [qw_app, qw_app]; omega)
        have h2 : qw n f c u (lev1 n f c u L M r (if x < n then out ++ [x] else out) (cnt + 1) (below ++ chs f x (levels n f c u))).2.2 ≤ m := by
          have := lev1_w (L := L) (M := M) h r (if x < n then out ++ [x] else out) (cnt + 1) (below ++ chs f x (levels n f c u))
          rw [qw_app, qw_app] at this
          omega
        rw [List.append_assoc, h1]
        exact bfs_fuel h m (m + 1) _ _ _ h2 (by omega)
where
  lev1_w {n f c u : Int} {L M : List ByteArray} (h : rt n f c u) : ∀ (r out : List Int) (cnt : Nat) (below : List Int), qw n f c u (lev1 n f c u L M r out cnt below).2.2 ≤ qw n f c u (r ++ below)
    | [], out, cnt, below => by simp [lev1]
    | x :: r, out, cnt, below => by
      have hw := W_pos n f c u x
      have hcw := chs_w (k := x) h
      simp only [lev1, List.cons_append, qw]
      split
      · have := lev1_w (L := L) (M := M) h r out (cnt + 1) below
        omega
      · have := lev1_w (L := L) (M := M) h r (if x < n then out ++ [x] else out) (cnt + 1) (below ++ chs f x (levels n f c u))
        rw [qw_app, qw_app] at this
        rw [qw_app]
        omega

theorem lev11 {β : Type} {n f c u n' f' c' u' : Int} {L M : List ByteArray} {level : List Int} {K : Int → List Int → List Int → Option β} (h : rt n f c u) (hML : M.length = L.length) (hLl : L.length ≤ 1000) (hlv : level.length ≤ 10000) :
    ∀ (r : List Int) (i k cnt : Nat) (out below : List Int), level.drop i = r → i ≤ level.length → r.length < k → inR L.length r → out.length ≤ cnt → cnt + r.length ≤ 20000 → below.length + 4 * r.length ≤ 100000 →
      f36_1_l11 20000 n f c u L n' f' c' u' M level K k (cnt : Int) (i : Int) out below = K ((lev1 n f c u L M r out cnt below).2.1 : Int) (lev1 n f c u L M r out cnt below).1 (lev1 n f c u L M r out cnt below).2.2
  | [], i, k, cnt, out, below, hd, hi, hk, hr, ho, hc, hb => by
    obtain ⟨k, rfl⟩ : ∃ j, k = j + 1 := ⟨k - 1, by omega⟩
    have := nilI hd hi
    rw [f36_1_l11, cf (by omega)]
    rfl
  | x :: r, i, k, cnt, out, below, hd, hi, hk, hr, ho, hc, hb => by
    obtain ⟨k, rfl⟩ : ∃ j, k = j + 1 := ⟨k - 1, by omega⟩
    obtain ⟨d1, d2, d3⟩ := atI hd
    have hx := hr x (by simp)
    have hr2 : inR L.length r := fun y hy => hr y (by simp [hy])
    simp only [List.length_cons] at hc hb hk
    rw [f36_1_l11, ct (by omega), ct (by omega), ct (by omega), d2, ct (by omega), ct (by omega), ct (by omega), ct (by omega), show 0 + x.toNat = x.toNat by omega, w64 (x := (i : Int) + 1) (by omega) (by omega),
      w64 (x := (cnt : Int) + 1) (by omega) (by omega), show ((i : Int) + 1) = ((i + 1 : Nat) : Int) by omega, show ((cnt : Int) + 1) = ((cnt + 1 : Nat) : Int) by omega, lev1]
    cases he : ((L.getD x.toNat ByteArray.empty).toList == (M.getD x.toNat ByteArray.empty).toList) with
    | true =>
      rw [cond_t, if_pos rfl]
      exact lev11 h hML hLl hlv r (i + 1) k (cnt + 1) out below d3 (by omega) (by omega) hr2 (by omega) (by omega) (by omega)
    | false =>
      have hcl := chs_len f x (levels n f c u)
      have hf := h.2.1
      rw [cond_false, if_neg (by simp)]
      by_cases hxn : x < n
      · rw [ct hxn, ct (by omega), chs59, ct (by omega), if_pos hxn]
        exact lev11 h hML hLl hlv r (i + 1) k (cnt + 1) (out ++ [x]) (below ++ chs f x (levels n f c u)) d3 (by omega) (by omega) hr2 (by simp; omega) (by omega) (by simp; omega)
      · rw [cf hxn, chs59, ct (by omega), if_neg hxn]
        exact lev11 h hML hLl hlv r (i + 1) k (cnt + 1) out (below ++ chs f x (levels n f c u)) d3 (by omega) (by omega) hr2 (by omega) (by omega) (by simp; omega)

theorem diffR {β : Type} {n f c u n' f' c' u' : Int} {L M : List ByteArray} {K : Int → List Int → List Int → Option β} {z : Int → List Int → Option β} (hz : ∀ a b w, K a b w = z a b) (h : rt n f c u) (hML : M.length = L.length) (hLl : L.length ≤ 1000) :
    ∀ (m k cnt : Nat) (out level : List Int), qw n f c u level ≤ m → m < k → inR L.length level → out.length ≤ cnt → cnt + qw n f c u level ≤ 10000 →
      f36_1_l8 20000 n f c u L n' f' c' u' M K k (cnt : Int) out level = z ((bfs n f c u L M (m + 1) level out cnt).2 : Int) (bfs n f c u L M (m + 1) level out cnt).1
  | m, k, cnt, out, [], hw, hk, hr, ho, hc => by
    obtain ⟨k, rfl⟩ : ∃ j, k = j + 1 := ⟨k - 1, by omega⟩
    rw [f36_1_l8, cf (by simp), hz]
    rfl
  | 0, k, cnt, out, x :: q, hw, hk, hr, ho, hc => by have := W_pos n f c u x; simp only [qw] at hw; omega
  | m + 1, k, cnt, out, x :: q, hw, hk, hr, ho, hc => by
    obtain ⟨k, rfl⟩ : ∃ j, k = j + 1 := ⟨k - 1, by omega⟩
    have hlen := qw_len n f c u (x :: q)
    obtain ⟨q1, q2, q3, q4⟩ := lev1_ok (L := L) (M := M) (N := L.length) h (x :: q) out cnt [] hr (fun y hy => by simp at hy) ho
    have hlv := bfs_lev (L := L) (M := M) h (x :: q) out cnt [] (m + 1) (by simpa using hw)
    rw [List.append_nil] at q1 hlv
    have hl1 : 1 ≤ (x :: q).length := by simp
    have st := lev11 (β := β) (n' := n') (f' := f') (c' := c') (u' := u') (level := x :: q) (K := fun x32 x33 x34 => f36_1_l8 20000 n f c u L n' f' c' u' M K k x32 x33 x34) h hML hLl (by omega) (x :: q) 0 20000 cnt out [] rfl (by omega) (by omega) hr ho (by omega) (by simp at hlen ⊢; omega)
    rw [show ((0 : Nat) : Int) = 0 from rfl] at st
    have hgt : (((x :: q).length : Nat) : Int) > 0 := by omega
    rw [f36_1_l8, ct hgt, st, hlv]
    have := diffR (n' := n') (f' := f') (c' := c') (u' := u') hz h hML hLl m k (lev1 n f c u L M (x :: q) out cnt []).2.1 (lev1 n f c u L M (x :: q) out cnt []).1 (lev1 n f c u L M (x :: q) out cnt []).2.2 (by omega) (by omega) q2 (by rw [q3]; exact q4) (by rw [q3]; omega)
    rw [this, bfs_fuel h m (m + 1) _ _ _ (by omega) (by omega)]

end Go.Proofs.Ytjlolgpbidfmeaa.X
end

section
/- Trees: what differs between two: the code's answer is the document's. -/
namespace Go.Proofs.Ytjlolgpbidfmeaa.X
open Go Go.Proofs.Ytjlolgpbidfmeaa.Ev
set_option linter.unusedVariables false

theorem wN_lt {g : Nat} (hg : 2 ≤ g) : ∀ j, wN g j + 1 ≤ g ^ (j + 1)
  | 0 => by simp [wN]; omega
  | j + 1 => by
    have ih := wN_lt hg j
    have h1 : g * (wN g j + 1) ≤ g * g ^ (j + 1) := Nat.mul_le_mul_left g ih
    have h2 : g ^ (j + 1 + 1) = g * g ^ (j + 1) := by rw [Nat.pow_succ, Nat.mul_comm]
    rw [h2]
    simp only [wN]
    rw [Nat.mul_add, Nat.mul_one] at h1
    omega

theorem chain_pow {f : Int} (hf : 2 ≤ f ∧ f ≤ 4) : ∀ (r : List Int) (a b : Int), pos (a :: b :: r) → chain f (a :: b :: r) → ((f.toNat ^ r.length : Nat) : Int) ≤ a - 1
  | [], a, b, h, hc => by
    have := hc.1
    simp; omega
  | d :: r, a, b, h, hc => by
    obtain ⟨h1, h2, h3⟩ := hc
    have ih := chain_pow hf r b d (pos_tl h).2 h3
    rw [List.length_cons, Nat.pow_succ]
    generalize f.toNat ^ r.length = e at ih ⊢
    have : f = 2 ∨ f = 3 ∨ f = 4 := by omega
    rcases this with rfl | rfl | rfl <;> simp only [Int.reduceToNat] <;> omega

theorem W_le {n f c u x : Int} (h : rt n f c u) : W n f c u x ≤ 2100 := by
  obtain ⟨r, hr⟩ := levels_cons h
  have hc := lev_chain h
  have hp := lev_pos n f c u
  have hf := h.2.1
  have hj : nlev (levels n f c u) x ≤ r.length := by
    unfold nlev
    rw [hr]
    cases e : lvl x 0 0 (n :: r) with
    | none => simp
    | some v =>
      obtain ⟨j, t⟩ := v
      obtain ⟨p, a', q, e1, e2, e3, e4, e5⟩ := lvl_spec _ _ _ _ _ e
      have := congrArg List.length e1
      simp at this
      simp only; omega
  rw [hr] at hc hp
  have hw := wN_lt (g := f.toNat) (by omega) (nlev (levels n f c u) x)
  have hm : f.toNat ^ (nlev (levels n f c u) x + 1) ≤ f.toNat ^ (r.length + 1) := Nat.pow_le_pow_right (by omega) (by omega)
  unfold W
  cases r with
  | nil =>
    simp at hm
    simp at hj
    rw [hj] at hw ⊢
    simp at hw
    omega
  | cons b r =>
    have := chain_pow hf r n b hp hc
    have hn := h.1
    have hp2 : f.toNat ^ ((b :: r).length + 1) = f.toNat ^ r.length * f.toNat * f.toNat := by rw [List.length_cons, Nat.pow_succ, Nat.pow_succ]
    rw [hp2] at hm
    generalize f.toNat ^ r.length = e at this hm
    have h4 : e * f.toNat * f.toNat ≤ e * 4 * 4 := Nat.mul_le_mul (Nat.mul_le_mul_left e (by omega)) (by omega)
    omega

theorem bfs_len {n f c u : Int} {L M : List ByteArray} : ∀ (k : Nat) (q out : List Int) (cnt : Nat), (bfs n f c u L M k q out cnt).1.length ≤ out.length + k
  | 0, q, out, cnt => by simp [bfs]
  | k + 1, [], out, cnt => by simp [bfs]
  | k + 1, x :: q, out, cnt => by
    rw [bfs]
    split
    · have := bfs_len (n := n) (f := f) (c := c) (u := u) (L := L) (M := M) k q out (cnt + 1)
      omega
    · have := bfs_len (n := n) (f := f) (c := c) (u := u) (L := L) (M := M) k (q ++ chs f x (levels n f c u)) (if x < n then out ++ [x] else out) (cnt + 1)
      split at this <;> (try simp only [List.length_append, List.length_cons, List.length_nil] at this) <;> split <;> omega

theorem levels_same {n f c u c' u' : Int} (h : rt n f c u) (h' : rt n f c' u') : levels n f c u = levels n f c' u' := by simp [levels, h, h']

theorem diffs {β : Type} {n f c u n' f' c' u' : Int} {L M : List ByteArray} (h : rt n f c u) (h' : rt n' f' c' u') (hL : (L.length : Int) = nodes n f c u) (hM : (M.length : Int) = nodes n' f' c' u') :
    ∃ (a e : Int) (l : List Int), l.length < 20000 ∧ ∀ K : Int → Int → List Int → Option β, f31_1 20000 n f c u L n' f' c' u' M K = K a e l ∧ f36_1 20000 n f c u L n' f' c' u' M K = K a e l := by
  by_cases hn : n = n'
  · by_cases hff : f = f'
    · subst hn hff
      have hup := nodes_up h
      have hno := (nodes_ok n f c u).2.2.1 h
      have hML : M.length = L.length := by
        have : nodes n f c' u' = nodes n f c u := by unfold nodes; rw [levels_same h' h]
        omega
      have hr : root n f c u = nodes n f c u - 1 := by unfold root; rw [if_pos h]
      have hrR : inR L.length [root n f c u] := by intro y hy; simp at hy; omega
      have hw : qw n f c u [root n f c u] ≤ 2100 := by simpa [qw] using W_le (x := root n f c u) h
      refine ⟨((bfs n f c u L M 2101 [root n f c u] [] 0).2 : Int), 0, (bfs n f c u L M 2101 [root n f c u] [] 0).1, ?_, fun K => ⟨?_, ?_⟩⟩
      · have := bfs_len (n := n) (f := f) (c := c) (u := u) (L := L) (M := M) 2101 [root n f c u] [] 0
        simp at this; omega
      · rw [f31_1, bne_f rfl, cond_false, bne_f rfl, cond_false, root54, ct (by omega), ct (by omega), ct (by omega), ct (by omega), show 0 + (root n f c u).toNat = (root n f c u).toNat by omega, bfs]
        cases he : ((L.getD (root n f c u).toNat ByteArray.empty).toList == (M.getD (root n f c u).toNat ByteArray.empty).toList) with
        | true =>
          rw [cond_ff, if_pos rfl]
          exact diffP (n' := n) (f' := f) (c' := c') (u' := u') (K := fun x25 x26 x27 => K x25 0 x26) (z := fun a b => K a 0 b) (fun _ _ _ => rfl) h hML (by omega) 2099 [root n f c u] [] 1 20000 (by simp [qw]) (by simp) (by omega) (by intro y hy; simp at hy) (by simp) (by omega)
        | false =>
          have hcw := chs_w (k := root n f c u) h
          have hcl := chs_len f (root n f c u) (levels n f c u)
          have hf := h.2.1
          have hWl := W_le (x := root n f c u) h
          rw [cond_tt, if_neg (by simp)]
          have key := fun out (ho : out.length ≤ 1) => diffP (β := β) (n' := n) (f' := f) (c' := c') (u' := u') (L := L) (M := M) (K := fun x25 x26 x27 => K x25 0 x26) (z := fun a b => K a 0 b) (fun _ _ _ => rfl) h hML (by omega) 2099 ([root n f c u] ++ chs f (root n f c u) (levels n f c u)) out 1 20000
            (by show qw n f c u (chs f (root n f c u) (levels n f c u)) ≤ 2099; omega) (by simp) (by omega) (inR_chs h (hrR _ (by simp))) ho (by omega)
          by_cases hx : root n f c u < n
          · rw [ct hx, chs58, ct (by omega), if_pos hx]
            exact key [root n f c u] (by simp)
          · rw [cf hx, chs58, ct (by omega), if_neg hx]
            exact key [] (by simp)
      · rw [f36_1, bne_f rfl, cond_false, bne_f rfl, cond_false, root55]
        exact diffR (n' := n) (f' := f) (c' := c') (u' := u') (K := fun x35 x36 x37 => K x35 0 x36) (z := fun a b => K a 0 b) (fun _ _ _ => rfl) h hML (by omega) 2100 20000 0 [] [root n f c u] hw (by omega) hrR (by simp) (by omega)
    · refine ⟨0, 12, [], by simp, fun K => ⟨?_, ?_⟩⟩
      · rw [f31_1, bne_f hn, cond_false, bne_t hff, cond_t]
      · rw [f36_1, bne_f hn, cond_false, bne_t hff, cond_t]
  · refine ⟨0, 12, [], by simp, fun K => ⟨?_, ?_⟩⟩
    · rw [f31_1, bne_t hn, cond_t]
    · rw [f36_1, bne_t hn, cond_t]

theorem fromT_err {n f c u : Int} {l : List ByteArray} {e : Int} (h : fromT n f c u l = .inl e) : (e != 0) = true := by
  unfold fromT at h
  split at h
  · split at h
    · split at h
      · cases h; decide
      · cases h
    · cases h; decide
  · cases h; decide

end Go.Proofs.Ytjlolgpbidfmeaa.X
end

section
namespace Go.Proofs.Ytjlolgpbidfmeaa.X
open Go Go.Proofs.Ytjlolgpbidfmeaa.Ev Go.Proofs
set_option linter.unusedVariables false
/-! pentimentoref07.Parent -/
noncomputable def f126_1_l7 {β : Type} (F : Nat) (v10 : Int) (v11 : Int) (v12 : Int) (v14 : Int) (v15 : Int) (v16 : Int) (v17 : Int) (v18 : List Int) (K0 : Option β) (K1 : Option β) : Nat → Int → Option β
  | 0, _ => none
  | k + 1, v13 => cond (decide (v13 < ((v18.length : Nat) : Int))) (cond (decide ((0 : Int) ≤ v13 ∧ v13 < ((v18.length : Nat) : Int))) (cond (decide (0 + v13.toNat < v18.length)) (cond ((v18.getD (0 + v13.toNat) 0) == v10) (K0) (f126_1_l7 F v10 v11 v12 v14 v15 v16 v17 v18 K0 K1 k (IntKind.i64.wrap (v13 + 1)))) none) none) (K1)
noncomputable def f126_1_l3 {β : Type} (F : Nat) (v2 : Int) (v3 : Int) (v5 : Int) (v6 : Int) (v7 : Int) (v8 : Int) (K0 : Int → List Int → Option β) (K1 : Option β) : Nat → Int → Option β
  | 0, _ => none
  | k + 1, v4 => cond (decide (v4 < v3)) (f85_1 F v5 v6 v7 v8 v4 (fun x9 => f126_1_l7 F v2 v3 v4 v5 v6 v7 v8 x9 (K0 v4 x9) (f126_1_l3 F v2 v3 v5 v6 v7 v8 K0 K1 k (IntKind.i64.wrap (v4 + 1))) F 0) ) (K1)
noncomputable def f126_1 {β : Type} (F : Nat) (a1 : Int) (a2 : Int) (a3 : Int) (a4 : Int) (a5 : Int) (K0 : Int → Option β) : Option β := f89_1 F a1 a2 a3 a4 (fun x1 => f126_1_l3 F a5 x1 a1 a2 a3 a4 (fun x19 x20 => K0 x19) (K0 (-1)) F 0) 
def sh126_1 : Sh := ⟨[.agg [.int .i64, .int .i64, .int .i64, .int .i64], .lf (.int .i64)], []⟩
noncomputable def S126_1 (F : Nat) (o : Summ) : Summ := mkS sh126_1 (fun d K => f126_1 F d.1.1.1 d.1.1.2.1 d.1.1.2.2.1 d.1.1.2.2.2.1 d.1.2.1 (fun (y0 : Int) => K [.lf (.int .i64 y0)] [])) o
noncomputable def code126 : Code := bodyOf Try.f126
noncomputable def b126_0 : Code := cB (cB (cR (cL (cR (cR (code126))))))
noncomputable def b126_1 : Code := cB (cB (cR (cR (cB (cL (cR (cB (cB (cR (cL (cR (cR (code126)))))))))))))
theorem scopes126 : scopesOf code126 = [] := by kernel_rfl
theorem loops126 : loopsOf code126 = [b126_0, b126_1] := by kernel_rfl
theorem enter126 : ∀ args w, (callFunc 126 args).run Try.prog w = .ok (.enter 126 args) w := enter_of (fn := Try.f126) (by kernel_rfl) (by kernel_rfl) (by kernel_rfl)
noncomputable def T126_1 (F : Nat) : FuncId → Option Summ := tab [(85, (S85_1 F noS)), (89, (S89_1 F noS))]
def sh126_1_l7 : Sh := ⟨[.lf (.int .i64), .lf (.ptr 0 0), .lf (.int .i64), .lf (.int .i64), .lf (.full 1), .lf (.int .i64)], [some ⟨some false, [.int .i64, .int .i64, .int .i64, .int .i64]⟩, some ⟨some false, [.seq (.int .i64) 0]⟩]⟩
noncomputable def G126_1_7 (F k : Nat) : LoopS := mkG sh126_1_l7 [1, 2, 5, 6, 7, 8] (outT [(.exit 2, [1, 2, 5, 6]), (.ret, [4])]) (fun d K => f126_1_l7 F d.1.1 d.1.2.2.1 d.1.2.2.2.1 d.2.1.2.1 d.2.1.2.2.1 d.2.1.2.2.2.1 d.2.1.2.2.2.2.1 d.2.2.1.2.1 (K .ret [.tv (.lf (.int .i64 d.1.2.2.2.1))] [some ⟨false, [.int .i64 d.2.1.2.1, .int .i64 d.2.1.2.2.1, .int .i64 d.2.1.2.2.2.1, .int .i64 d.2.1.2.2.2.2.1]⟩, some ⟨false, [.seq (.int .i64) 0 d.2.2.1.2.1]⟩]) (K (.exit 2) [.tv (.lf (.int .i64 d.1.1)), .tv (.lf (.ptr 0 0)), .tv (.lf (.int .i64 d.1.2.2.1)), .tv (.lf (.int .i64 d.1.2.2.2.1))] [some ⟨false, [.int .i64 d.2.1.2.1, .int .i64 d.2.1.2.2.1, .int .i64 d.2.1.2.2.2.1, .int .i64 d.2.1.2.2.2.2.1]⟩, some ⟨false, [.seq (.int .i64) 0 d.2.2.1.2.1]⟩]) k d.1.2.2.2.2.2.1)
def sh126_1_l3 : Sh := ⟨[.lf (.int .i64), .lf (.ptr 0 0), .lf (.int .i64), .lf (.int .i64)], [some ⟨some false, [.int .i64, .int .i64, .int .i64, .int .i64]⟩]⟩
noncomputable def G126_1_3 (F k : Nat) : LoopS := mkG sh126_1_l3 [1, 2, 5, 6] (outT [(.exit 0, []), (.ret, [4])]) (fun d K => f126_1_l3 F d.1.1 d.1.2.2.1 d.2.1.2.1 d.2.1.2.2.1 d.2.1.2.2.2.1 d.2.1.2.2.2.2.1 (fun (y0 : Int) (y5 : List Int) => K .ret [.tv (.lf (.int .i64 y0))] [some ⟨false, [.int .i64 d.2.1.2.1, .int .i64 d.2.1.2.2.1, .int .i64 d.2.1.2.2.2.1, .int .i64 d.2.1.2.2.2.2.1]⟩, some ⟨false, [.seq (.int .i64) 0 y5]⟩]) (K (.exit 0) [] [some ⟨false, [.int .i64 d.2.1.2.1, .int .i64 d.2.1.2.2.1, .int .i64 d.2.1.2.2.2.1, .int .i64 d.2.1.2.2.2.2.1]⟩]) k d.1.2.2.2.1)
noncomputable def LT126_1 (F : Nat) : Nat → Option LoopS := ltab [(7, G126_1_7 F F), (3, G126_1_3 F F)]
theorem L126_1_7g (F k : Nat) (c85_1 : Int → Int → Int → Int → Int → (List Int → Option Res) → Option Res) (c89_1 : Int → Int → Int → Int → (Int → Option Res) → Option Res)  (l7 : Int → Int → Int → Int → Int → Int → Int → List Int → (Option Res) → (Option Res) → Nat → Int → Option Res) (X7 : LoopS) (X3 : LoopS) (d : sh126_1_l7.den) (K : KL) : (fun (v10 : Int) (v11 : Int) (v12 : Int) (v14 : Int) (v15 : Int) (v16 : Int) (v17 : Int) (v18 : List Int) (K0 : (Option Res)) (K1 : (Option Res)) (k : Nat) (v13 : Int) => cond (decide (v13 < ((v18.length : Nat) : Int))) (cond (decide ((0 : Int) ≤ v13 ∧ v13 < ((v18.length : Nat) : Int))) (cond (decide (0 + v13.toNat < v18.length)) (cond ((v18.getD (0 + v13.toNat) 0) == v10) (K0) (l7 v10 v11 v12 v14 v15 v16 v17 v18 K0 K1 k (IntKind.i64.wrap (v13 + 1)))) none) none) (K1)) d.1.1 d.1.2.2.1 d.1.2.2.2.1 d.2.1.2.1 d.2.1.2.2.1 d.2.1.2.2.2.1 d.2.1.2.2.2.2.1 d.2.2.1.2.1 (K .ret [.tv (.lf (.int .i64 d.1.2.2.2.1))] [some ⟨false, [.int .i64 d.2.1.2.1, .int .i64 d.2.1.2.2.1, .int .i64 d.2.1.2.2.2.1, .int .i64 d.2.1.2.2.2.2.1]⟩, some ⟨false, [.seq (.int .i64) 0 d.2.2.1.2.1]⟩]) (K (.exit 2) [.tv (.lf (.int .i64 d.1.1)), .tv (.lf (.ptr 0 0)), .tv (.lf (.int .i64 d.1.2.2.1)), .tv (.lf (.int .i64 d.1.2.2.2.1))] [some ⟨false, [.int .i64 d.2.1.2.1, .int .i64 d.2.1.2.2.1, .int .i64 d.2.1.2.2.2.1, .int .i64 d.2.1.2.2.2.2.1]⟩, some ⟨false, [.seq (.int .i64) 0 d.2.2.1.2.1]⟩]) k d.1.2.2.2.2.2.1 = roundOf Try.prog (tab [(85, (mkS sh85_1 (fun d K => c85_1 d.1.1.1 d.1.1.2.1 d.1.1.2.2.1 d.1.1.2.2.2.1 d.1.2.1 (fun (y0 : List Int) => K [.lf (.full 0)] [some ⟨false, [.seq (.int .i64) 0 y0]⟩])) noS)), (89, (mkS sh89_1 (fun d K => c89_1 d.1.1.1 d.1.1.2.1 d.1.1.2.2.1 d.1.1.2.2.2.1 (fun (y0 : Int) => K [.lf (.int .i64 y0)] [])) noS))]) 32 0 (ltab [(7, X7), (3, X3)]) (mkG sh126_1_l7 [1, 2, 5, 6, 7, 8] (outT [(.exit 2, [1, 2, 5, 6]), (.ret, [4])]) (fun d K => l7 d.1.1 d.1.2.2.1 d.1.2.2.2.1 d.2.1.2.1 d.2.1.2.2.1 d.2.1.2.2.2.1 d.2.1.2.2.2.2.1 d.2.2.1.2.1 (K .ret [.tv (.lf (.int .i64 d.1.2.2.2.1))] [some ⟨false, [.int .i64 d.2.1.2.1, .int .i64 d.2.1.2.2.1, .int .i64 d.2.1.2.2.2.1, .int .i64 d.2.1.2.2.2.2.1]⟩, some ⟨false, [.seq (.int .i64) 0 d.2.2.1.2.1]⟩]) (K (.exit 2) [.tv (.lf (.int .i64 d.1.1)), .tv (.lf (.ptr 0 0)), .tv (.lf (.int .i64 d.1.2.2.1)), .tv (.lf (.int .i64 d.1.2.2.2.1))] [some ⟨false, [.int .i64 d.2.1.2.1, .int .i64 d.2.1.2.2.1, .int .i64 d.2.1.2.2.2.1, .int .i64 d.2.1.2.2.2.2.1]⟩, some ⟨false, [.seq (.int .i64) 0 d.2.2.1.2.1]⟩]) k d.1.2.2.2.2.2.1)) b126_1 (encT sh126_1_l7.vs d.1) (encH sh126_1_l7.h d.2) K := by kernel_rfl
theorem L126_1_7 (F : Nat) : LoopOK Try.prog (T126_1 F) 32 0 (LT126_1 F) (G126_1_7 F F) b126_1 :=
  loopOK_of (s := sh126_1_l7) (live := [1, 2, 5, 6, 7, 8]) (out := (outT [(.exit 2, [1, 2, 5, 6]), (.ret, [4])])) (fun k d K => f126_1_l7 F d.1.1 d.1.2.2.1 d.1.2.2.2.1 d.2.1.2.1 d.2.1.2.2.1 d.2.1.2.2.2.1 d.2.1.2.2.2.2.1 d.2.2.1.2.1 (K .ret [.tv (.lf (.int .i64 d.1.2.2.2.1))] [some ⟨false, [.int .i64 d.2.1.2.1, .int .i64 d.2.1.2.2.1, .int .i64 d.2.1.2.2.2.1, .int .i64 d.2.1.2.2.2.2.1]⟩, some ⟨false, [.seq (.int .i64) 0 d.2.2.1.2.1]⟩]) (K (.exit 2) [.tv (.lf (.int .i64 d.1.1)), .tv (.lf (.ptr 0 0)), .tv (.lf (.int .i64 d.1.2.2.1)), .tv (.lf (.int .i64 d.1.2.2.2.1))] [some ⟨false, [.int .i64 d.2.1.2.1, .int .i64 d.2.1.2.2.1, .int .i64 d.2.1.2.2.2.1, .int .i64 d.2.1.2.2.2.2.1]⟩, some ⟨false, [.seq (.int .i64) 0 d.2.2.1.2.1]⟩]) k d.1.2.2.2.2.2.1) F (fun d K => by kernel_rfl)  (fun k d K => Eq.mp (by kernel_rfl) (L126_1_7g F k (f85_1 F) (f89_1 F)  (f126_1_l7 F) (G126_1_7 F F) (G126_1_3 F F) d K))
theorem L126_1_3g (F k : Nat) (c85_1 : Int → Int → Int → Int → Int → (List Int → Option Res) → Option Res) (c89_1 : Int → Int → Int → Int → (Int → Option Res) → Option Res) (l7 : Int → Int → Int → Int → Int → Int → Int → List Int → (Option Res) → (Option Res) → Nat → Int → Option Res) (l3 : Int → Int → Int → Int → Int → Int → (Int → List Int → Option Res) → (Option Res) → Nat → Int → Option Res) (X3 : LoopS) (d : sh126_1_l3.den) (K : KL) : (fun (v2 : Int) (v3 : Int) (v5 : Int) (v6 : Int) (v7 : Int) (v8 : Int) (K0 : (Int → List Int → Option Res)) (K1 : (Option Res)) (k : Nat) (v4 : Int) => cond (decide (v4 < v3)) (c85_1 v5 v6 v7 v8 v4 (fun x9 => l7 v2 v3 v4 v5 v6 v7 v8 x9 (K0 v4 x9) (l3 v2 v3 v5 v6 v7 v8 K0 K1 k (IntKind.i64.wrap (v4 + 1))) F 0) ) (K1)) d.1.1 d.1.2.2.1 d.2.1.2.1 d.2.1.2.2.1 d.2.1.2.2.2.1 d.2.1.2.2.2.2.1 (fun (y0 : Int) (y5 : List Int) => K .ret [.tv (.lf (.int .i64 y0))] [some ⟨false, [.int .i64 d.2.1.2.1, .int .i64 d.2.1.2.2.1, .int .i64 d.2.1.2.2.2.1, .int .i64 d.2.1.2.2.2.2.1]⟩, some ⟨false, [.seq (.int .i64) 0 y5]⟩]) (K (.exit 0) [] [some ⟨false, [.int .i64 d.2.1.2.1, .int .i64 d.2.1.2.2.1, .int .i64 d.2.1.2.2.2.1, .int .i64 d.2.1.2.2.2.2.1]⟩]) k d.1.2.2.2.1 = roundOf Try.prog (tab [(85, (mkS sh85_1 (fun d K => c85_1 d.1.1.1 d.1.1.2.1 d.1.1.2.2.1 d.1.1.2.2.2.1 d.1.2.1 (fun (y0 : List Int) => K [.lf (.full 0)] [some ⟨false, [.seq (.int .i64) 0 y0]⟩])) noS)), (89, (mkS sh89_1 (fun d K => c89_1 d.1.1.1 d.1.1.2.1 d.1.1.2.2.1 d.1.1.2.2.2.1 (fun (y0 : Int) => K [.lf (.int .i64 y0)] [])) noS))]) 32 0 (ltab [(7, mkG sh126_1_l7 [1, 2, 5, 6, 7, 8] (outT [(.exit 2, [1, 2, 5, 6]), (.ret, [4])]) (fun d K => l7 d.1.1 d.1.2.2.1 d.1.2.2.2.1 d.2.1.2.1 d.2.1.2.2.1 d.2.1.2.2.2.1 d.2.1.2.2.2.2.1 d.2.2.1.2.1 (K .ret [.tv (.lf (.int .i64 d.1.2.2.2.1))] [some ⟨false, [.int .i64 d.2.1.2.1, .int .i64 d.2.1.2.2.1, .int .i64 d.2.1.2.2.2.1, .int .i64 d.2.1.2.2.2.2.1]⟩, some ⟨false, [.seq (.int .i64) 0 d.2.2.1.2.1]⟩]) (K (.exit 2) [.tv (.lf (.int .i64 d.1.1)), .tv (.lf (.ptr 0 0)), .tv (.lf (.int .i64 d.1.2.2.1)), .tv (.lf (.int .i64 d.1.2.2.2.1))] [some ⟨false, [.int .i64 d.2.1.2.1, .int .i64 d.2.1.2.2.1, .int .i64 d.2.1.2.2.2.1, .int .i64 d.2.1.2.2.2.2.1]⟩, some ⟨false, [.seq (.int .i64) 0 d.2.2.1.2.1]⟩]) F d.1.2.2.2.2.2.1)), (3, X3)]) (mkG sh126_1_l3 [1, 2, 5, 6] (outT [(.exit 0, []), (.ret, [4])]) (fun d K => l3 d.1.1 d.1.2.2.1 d.2.1.2.1 d.2.1.2.2.1 d.2.1.2.2.2.1 d.2.1.2.2.2.2.1 (fun (y0 : Int) (y5 : List Int) => K .ret [.tv (.lf (.int .i64 y0))] [some ⟨false, [.int .i64 d.2.1.2.1, .int .i64 d.2.1.2.2.1, .int .i64 d.2.1.2.2.2.1, .int .i64 d.2.1.2.2.2.2.1]⟩, some ⟨false, [.seq (.int .i64) 0 y5]⟩]) (K (.exit 0) [] [some ⟨false, [.int .i64 d.2.1.2.1, .int .i64 d.2.1.2.2.1, .int .i64 d.2.1.2.2.2.1, .int .i64 d.2.1.2.2.2.2.1]⟩]) k d.1.2.2.2.1)) b126_0 (encT sh126_1_l3.vs d.1) (encH sh126_1_l3.h d.2) K := by kernel_rfl
theorem L126_1_3 (F : Nat) : LoopOK Try.prog (T126_1 F) 32 0 (LT126_1 F) (G126_1_3 F F) b126_0 :=
  loopOK_of (s := sh126_1_l3) (live := [1, 2, 5, 6]) (out := (outT [(.exit 0, []), (.ret, [4])])) (fun k d K => f126_1_l3 F d.1.1 d.1.2.2.1 d.2.1.2.1 d.2.1.2.2.1 d.2.1.2.2.2.1 d.2.1.2.2.2.2.1 (fun (y0 : Int) (y5 : List Int) => K .ret [.tv (.lf (.int .i64 y0))] [some ⟨false, [.int .i64 d.2.1.2.1, .int .i64 d.2.1.2.2.1, .int .i64 d.2.1.2.2.2.1, .int .i64 d.2.1.2.2.2.2.1]⟩, some ⟨false, [.seq (.int .i64) 0 y5]⟩]) (K (.exit 0) [] [some ⟨false, [.int .i64 d.2.1.2.1, .int .i64 d.2.1.2.2.1, .int .i64 d.2.1.2.2.2.1, .int .i64 d.2.1.2.2.2.2.1]⟩]) k d.1.2.2.2.1) F (fun d K => by kernel_rfl)  (fun k d K => Eq.mp (by kernel_rfl) (L126_1_3g F k (f85_1 F) (f89_1 F) (f126_1_l7 F) (f126_1_l3 F) (G126_1_3 F F) d K))
theorem E126_1g (F : Nat) (c85_1 : Int → Int → Int → Int → Int → (List Int → Option Res) → Option Res) (c89_1 : Int → Int → Int → Int → (Int → Option Res) → Option Res) (l3 : Int → Int → Int → Int → Int → Int → (Int → List Int → Option Res) → (Option Res) → Nat → Int → Option Res) (X7 : LoopS) (d : sh126_1.den) (K : KF) : evBody Try.prog (tab [(85, (mkS sh85_1 (fun d K => c85_1 d.1.1.1 d.1.1.2.1 d.1.1.2.2.1 d.1.1.2.2.2.1 d.1.2.1 (fun (y0 : List Int) => K [.lf (.full 0)] [some ⟨false, [.seq (.int .i64) 0 y0]⟩])) noS)), (89, (mkS sh89_1 (fun d K => c89_1 d.1.1.1 d.1.1.2.1 d.1.1.2.2.1 d.1.1.2.2.2.1 (fun (y0 : Int) => K [.lf (.int .i64 y0)] [])) noS))]) 32 0 (ltab [(7, X7), (3, mkG sh126_1_l3 [1, 2, 5, 6] (outT [(.exit 0, []), (.ret, [4])]) (fun d K => l3 d.1.1 d.1.2.2.1 d.2.1.2.1 d.2.1.2.2.1 d.2.1.2.2.2.1 d.2.1.2.2.2.2.1 (fun (y0 : Int) (y5 : List Int) => K .ret [.tv (.lf (.int .i64 y0))] [some ⟨false, [.int .i64 d.2.1.2.1, .int .i64 d.2.1.2.2.1, .int .i64 d.2.1.2.2.2.1, .int .i64 d.2.1.2.2.2.2.1]⟩, some ⟨false, [.seq (.int .i64) 0 y5]⟩]) (K (.exit 0) [] [some ⟨false, [.int .i64 d.2.1.2.1, .int .i64 d.2.1.2.2.1, .int .i64 d.2.1.2.2.2.1, .int .i64 d.2.1.2.2.2.2.1]⟩]) F d.1.2.2.2.1))]) code126 Try.f126.results.toList (encT sh126_1.vs d.1) (encH sh126_1.h d.2) K = (fun (a1 : Int) (a2 : Int) (a3 : Int) (a4 : Int) (a5 : Int) (K0 : (Int → Option Res)) => c89_1 a1 a2 a3 a4 (fun x1 => l3 a5 x1 a1 a2 a3 a4 (fun x19 x20 => K0 x19) (K0 (-1)) F 0) ) d.1.1.1 d.1.1.2.1 d.1.1.2.2.1 d.1.1.2.2.2.1 d.1.2.1 (fun (y0 : Int) => K [.lf (.int .i64 y0)] []) := by kernel_rfl
theorem E126_1 (F : Nat) (d : sh126_1.den) (K : KF) : evBody Try.prog (T126_1 F) 32 0 (LT126_1 F) code126 Try.f126.results.toList (encT sh126_1.vs d.1) (encH sh126_1.h d.2) K = f126_1 F d.1.1.1 d.1.1.2.1 d.1.1.2.2.1 d.1.1.2.2.2.1 d.1.2.1 (fun (y0 : Int) => K [.lf (.int .i64 y0)] []) := Eq.mp (by kernel_rfl) (E126_1g F (f85_1 F) (f89_1 F) (f126_1_l3 F) (G126_1_7 F F) d K)
theorem S126_1_ok (F : Nat) (o : Summ) (ho : SoundFn Try.prog 126 o) : SoundFn Try.prog 126 (S126_1 F o) :=
  soundFn_of (fn := Try.f126) (c := code126) (by kernel_rfl) (tab_cons (S85_1_ok F _ (noS_sound enter85)) (tab_cons (S89_1_ok F _ (noS_sound enter89)) tab_nil)) (by kernel_rfl) (by kernel_rfl) ho (by rw [loops126]; exact (loopsOK_cons (by kernel_rfl) (L126_1_3 F) (loopsOK_cons (by kernel_rfl) (L126_1_7 F) loopsOK_nil))) (by rw [scopes126]; exact scopesOK_nil) (E126_1 F)
end Go.Proofs.Ytjlolgpbidfmeaa.X
end

section
namespace Go.Proofs.Ytjlolgpbidfmeaa.X
open Go Go.Proofs.Ytjlolgpbidfmeaa.Ev Go.Proofs
set_option linter.unusedVariables false
/-! pentimentoref07.Path -/
noncomputable def f97_1_l5 {β : Type} (F : Nat) (v3 : Int) (v4 : Int) (v5 : Int) (v6 : Int) (K0 : List Int → Option β) : Nat → Int → List Int → Option β
  | 0, _, _ => none
  | k + 1, v2, v7 => cond (decide (v2 ≥ 0)) (cond (decide ((v7.length + 1) * 8 ≤ 70368744177664)) (f126_1 F v3 v4 v5 v6 v2 (fun x8 => f97_1_l5 F v3 v4 v5 v6 K0 k x8 (v7 ++ [v2])) ) none) (K0 v7)
noncomputable def f97_1 {β : Type} (F : Nat) (a1 : Int) (a2 : Int) (a3 : Int) (a4 : Int) (a5 : Int) (K0 : List Int → Option β) : Option β := f27_1 F a1 a2 a3 a4 (fun x1 => cond (!x1) (K0 []) (cond (decide (a5 < 0)) (K0 []) (cond (decide (a5 ≥ a1)) (K0 []) (f97_1_l5 F a1 a2 a3 a4 (fun x9 => K0 x9) F a5 [])))) 
def sh97_1 : Sh := ⟨[.agg [.int .i64, .int .i64, .int .i64, .int .i64], .lf (.int .i64)], []⟩
noncomputable def S97_1 (F : Nat) (o : Summ) : Summ := mkS sh97_1 (fun d K => f97_1 F d.1.1.1 d.1.1.2.1 d.1.1.2.2.1 d.1.1.2.2.2.1 d.1.2.1 (fun (y0 : List Int) => K [.lf (.full 0)] [some ⟨false, [.seq (.int .i64) 0 y0]⟩])) o
noncomputable def code97 : Code := bodyOf Try.f97
noncomputable def b97_0 : Code := cB (cB (cR (cL (cR (cR (cR (code97)))))))
theorem scopes97 : scopesOf code97 = [] := by kernel_rfl
theorem loops97 : loopsOf code97 = [b97_0] := by kernel_rfl
theorem enter97 : ∀ args w, (callFunc 97 args).run Try.prog w = .ok (.enter 97 args) w := enter_of (fn := Try.f97) (by kernel_rfl) (by kernel_rfl) (by kernel_rfl)
noncomputable def T97_1 (F : Nat) : FuncId → Option Summ := tab [(27, (S27_1 F noS)), (126, (S126_1 F noS))]
def sh97_1_l5 : Sh := ⟨[.lf (.ptr 0 0), .lf (.full 1), .lf (.int .i64)], [some ⟨some false, [.int .i64, .int .i64, .int .i64, .int .i64]⟩, some ⟨some false, [.seq (.int .i64) 0]⟩]⟩
noncomputable def G97_1_5 (F k : Nat) : LoopS := mkG sh97_1_l5 [2, 5, 6] (outT [(.exit 0, [5])]) (fun d K => f97_1_l5 F d.2.1.2.1 d.2.1.2.2.1 d.2.1.2.2.2.1 d.2.1.2.2.2.2.1 (fun (y4 : List Int) => K (.exit 0) [.tv (.lf (.full 1))] [some ⟨false, [.int .i64 d.2.1.2.1, .int .i64 d.2.1.2.2.1, .int .i64 d.2.1.2.2.2.1, .int .i64 d.2.1.2.2.2.2.1]⟩, some ⟨false, [.seq (.int .i64) 0 y4]⟩]) k d.1.2.2.1 d.2.2.1.2.1)
noncomputable def LT97_1 (F : Nat) : Nat → Option LoopS := ltab [(5, G97_1_5 F F)]
theorem L97_1_5g (F k : Nat) (c27_1 : Int → Int → Int → Int → (Bool → Option Res) → Option Res) (c126_1 : Int → Int → Int → Int → Int → (Int → Option Res) → Option Res)  (l5 : Int → Int → Int → Int → (List Int → Option Res) → Nat → Int → List Int → Option Res) (X5 : LoopS) (d : sh97_1_l5.den) (K : KL) : (fun (v3 : Int) (v4 : Int) (v5 : Int) (v6 : Int) (K0 : (List Int → Option Res)) (k : Nat) (v2 : Int) (v7 : List Int) => cond (decide (v2 ≥ 0)) (cond (decide ((v7.length + 1) * 8 ≤ 70368744177664)) (c126_1 v3 v4 v5 v6 v2 (fun x8 => l5 v3 v4 v5 v6 K0 k x8 (v7 ++ [v2])) ) none) (K0 v7)) d.2.1.2.1 d.2.1.2.2.1 d.2.1.2.2.2.1 d.2.1.2.2.2.2.1 (fun (y4 : List Int) => K (.exit 0) [.tv (.lf (.full 1))] [some ⟨false, [.int .i64 d.2.1.2.1, .int .i64 d.2.1.2.2.1, .int .i64 d.2.1.2.2.2.1, .int .i64 d.2.1.2.2.2.2.1]⟩, some ⟨false, [.seq (.int .i64) 0 y4]⟩]) k d.1.2.2.1 d.2.2.1.2.1 = roundOf Try.prog (tab [(27, (mkS sh27_1 (fun d K => c27_1 d.1.1.1 d.1.1.2.1 d.1.1.2.2.1 d.1.1.2.2.2.1 (fun (y0 : Bool) => K [.lf (.bool y0)] [])) noS)), (126, (mkS sh126_1 (fun d K => c126_1 d.1.1.1 d.1.1.2.1 d.1.1.2.2.1 d.1.1.2.2.2.1 d.1.2.1 (fun (y0 : Int) => K [.lf (.int .i64 y0)] [])) noS))]) 31 0 (ltab [(5, X5)]) (mkG sh97_1_l5 [2, 5, 6] (outT [(.exit 0, [5])]) (fun d K => l5 d.2.1.2.1 d.2.1.2.2.1 d.2.1.2.2.2.1 d.2.1.2.2.2.2.1 (fun (y4 : List Int) => K (.exit 0) [.tv (.lf (.full 1))] [some ⟨false, [.int .i64 d.2.1.2.1, .int .i64 d.2.1.2.2.1, .int .i64 d.2.1.2.2.2.1, .int .i64 d.2.1.2.2.2.2.1]⟩, some ⟨false, [.seq (.int .i64) 0 y4]⟩]) k d.1.2.2.1 d.2.2.1.2.1)) b97_0 (encT sh97_1_l5.vs d.1) (encH sh97_1_l5.h d.2) K := by kernel_rfl
theorem L97_1_5 (F : Nat) : LoopOK Try.prog (T97_1 F) 31 0 (LT97_1 F) (G97_1_5 F F) b97_0 :=
  loopOK_of (s := sh97_1_l5) (live := [2, 5, 6]) (out := (outT [(.exit 0, [5])])) (fun k d K => f97_1_l5 F d.2.1.2.1 d.2.1.2.2.1 d.2.1.2.2.2.1 d.2.1.2.2.2.2.1 (fun (y4 : List Int) => K (.exit 0) [.tv (.lf (.full 1))] [some ⟨false, [.int .i64 d.2.1.2.1, .int .i64 d.2.1.2.2.1, .int .i64 d.2.1.2.2.2.1, .int .i64 d.2.1.2.2.2.2.1]⟩, some ⟨false, [.seq (.int .i64) 0 y4]⟩]) k d.1.2.2.1 d.2.2.1.2.1) F (fun d K => by kernel_rfl)  (fun k d K => Eq.mp (by kernel_rfl) (L97_1_5g F k (f27_1 F) (f126_1 F)  (f97_1_l5 F) (G97_1_5 F F) d K))
theorem E97_1g (F : Nat) (c27_1 : Int → Int → Int → Int → (Bool → Option Res) → Option Res) (c126_1 : Int → Int → Int → Int → Int → (Int → Option Res) → Option Res) (l5 : Int → Int → Int → Int → (List Int → Option Res) → Nat → Int → List Int → Option Res)  (d : sh97_1.den) (K : KF) : evBody Try.prog (tab [(27, (mkS sh27_1 (fun d K => c27_1 d.1.1.1 d.1.1.2.1 d.1.1.2.2.1 d.1.1.2.2.2.1 (fun (y0 : Bool) => K [.lf (.bool y0)] [])) noS)), (126, (mkS sh126_1 (fun d K => c126_1 d.1.1.1 d.1.1.2.1 d.1.1.2.2.1 d.1.1.2.2.2.1 d.1.2.1 (fun (y0 : Int) => K [.lf (.int .i64 y0)] [])) noS))]) 31 0 (ltab [(5, mkG sh97_1_l5 [2, 5, 6] (outT [(.exit 0, [5])]) (fun d K => l5 d.2.1.2.1 d.2.1.2.2.1 d.2.1.2.2.2.1 d.2.1.2.2.2.2.1 (fun (y4 : List Int) => K (.exit 0) [.tv (.lf (.full 1))] [some ⟨false, [.int .i64 d.2.1.2.1, .int .i64 d.2.1.2.2.1, .int .i64 d.2.1.2.2.2.1, .int .i64 d.2.1.2.2.2.2.1]⟩, some ⟨false, [.seq (.int .i64) 0 y4]⟩]) F d.1.2.2.1 d.2.2.1.2.1))]) code97 Try.f97.results.toList (encT sh97_1.vs d.1) (encH sh97_1.h d.2) K = (fun (a1 : Int) (a2 : Int) (a3 : Int) (a4 : Int) (a5 : Int) (K0 : (List Int → Option Res)) => c27_1 a1 a2 a3 a4 (fun x1 => cond (!x1) (K0 []) (cond (decide (a5 < 0)) (K0 []) (cond (decide (a5 ≥ a1)) (K0 []) (l5 a1 a2 a3 a4 (fun x9 => K0 x9) F a5 [])))) ) d.1.1.1 d.1.1.2.1 d.1.1.2.2.1 d.1.1.2.2.2.1 d.1.2.1 (fun (y0 : List Int) => K [.lf (.full 0)] [some ⟨false, [.seq (.int .i64) 0 y0]⟩]) := by kernel_rfl
theorem E97_1 (F : Nat) (d : sh97_1.den) (K : KF) : evBody Try.prog (T97_1 F) 31 0 (LT97_1 F) code97 Try.f97.results.toList (encT sh97_1.vs d.1) (encH sh97_1.h d.2) K = f97_1 F d.1.1.1 d.1.1.2.1 d.1.1.2.2.1 d.1.1.2.2.2.1 d.1.2.1 (fun (y0 : List Int) => K [.lf (.full 0)] [some ⟨false, [.seq (.int .i64) 0 y0]⟩]) := Eq.mp (by kernel_rfl) (E97_1g F (f27_1 F) (f126_1 F) (f97_1_l5 F)  d K)
theorem S97_1_ok (F : Nat) (o : Summ) (ho : SoundFn Try.prog 97 o) : SoundFn Try.prog 97 (S97_1 F o) :=
  soundFn_of (fn := Try.f97) (c := code97) (by kernel_rfl) (tab_cons (S27_1_ok F _ (noS_sound enter27)) (tab_cons (S126_1_ok F _ (noS_sound enter126)) tab_nil)) (by kernel_rfl) (by kernel_rfl) ho (by rw [loops97]; exact (loopsOK_cons (by kernel_rfl) (L97_1_5 F) loopsOK_nil)) (by rw [scopes97]; exact scopesOK_nil) (E97_1 F)
end Go.Proofs.Ytjlolgpbidfmeaa.X
end
