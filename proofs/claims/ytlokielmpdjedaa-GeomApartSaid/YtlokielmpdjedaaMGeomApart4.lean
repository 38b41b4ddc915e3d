/- Merged: EvF60, EvF61, EvF8, PureGeomA, PureGeomB, PureGeomC, EvF9, PureGeomD, PureGeomApart0, PureGeomApart. -/
import Derived.Test.YtlokielmpdjedaaMGeomApart2
import Derived.Test.YtlokielmpdjedaaProg
import Derived.KernelRfl
import Derived.Test.YtlokielmpdjedaaMGeomApart3
section
namespace Go.Proofs.Ytlokielmpdjedaa.X
open Go Go.Proofs.Ytlokielmpdjedaa.Ev Go.Proofs
set_option linter.unusedVariables false
/-! geom.Path -/
noncomputable def f60_1_l5 {β : Type} (F : Nat) (v4 : Int) (v5 : Int) (v6 : Int) (v7 : Int) (K0 : List Int → Option β) : Nat → Int → List Int → Option β
  | 0, _, _ => none
  | k + 1, v3, v8 => cond (v3 != (-1)) (cond (decide ((v8.length + 1) * 8 ≤ 70368744177664)) (f56_1 F v4 v5 v6 v7 v3 (fun x9 => f60_1_l5 F v4 v5 v6 v7 K0 k x9 (v8 ++ [v3])) ) none) (K0 v8)
noncomputable def f60_1 {β : Type} (F : Nat) (a1 : Int) (a2 : Int) (a3 : Int) (a4 : Int) (a5 : Int) (K0 : List Int → Option β) : Option β := f46_1 F a1 a2 a3 a4 (fun x1 => cond (!x1) (K0 []) (f87_1 F a5 0 (IntKind.i64.wrap (a1 - 1)) (fun x2 => cond (!x2) (K0 []) (f60_1_l5 F a1 a2 a3 a4 (fun x10 => K0 x10) F a5 [])) )) 
def sh60_1 : Sh := ⟨[.agg [.int .i64, .int .i64, .int .i64, .int .i64], .lf (.int .i64)], []⟩
noncomputable def S60_1 (F : Nat) (o : Summ) : Summ := mkS sh60_1 (fun d K => f60_1 F d.1.1.1 d.1.1.2.1 d.1.1.2.2.1 d.1.1.2.2.2.1 d.1.2.1 (fun (y0 : List Int) => K [.lf (.full 0)] [some ⟨false, [.seq (.int .i64) 0 y0]⟩])) o
noncomputable def code60 : Code := bodyOf Try.f60
noncomputable def b60_0 : Code := cB (cB (cR (cL (cR (cR (cR (code60)))))))
theorem scopes60 : scopesOf code60 = [] := by kernel_rfl
theorem loops60 : loopsOf code60 = [b60_0] := by kernel_rfl
theorem enter60 : ∀ args w, (callFunc 60 args).run Try.prog w = .ok (.enter 60 args) w := enter_of (fn := Try.f60) (by kernel_rfl) (by kernel_rfl) (by kernel_rfl)
noncomputable def T60_1 (F : Nat) : FuncId → Option Summ := tab [(46, (S46_1 F noS)), (56, (S56_1 F noS)), (87, (S87_1 F noS))]
def sh60_1_l5 : Sh := ⟨[.lf (.ptr 0 0), .lf (.full 1), .lf (.int .i64)], [some ⟨some false, [.int .i64, .int .i64, .int .i64, .int .i64]⟩, some ⟨some false, [.seq (.int .i64) 0]⟩]⟩
noncomputable def G60_1_5 (F k : Nat) : LoopS := mkG sh60_1_l5 [2, 5, 6] (outT [(.exit 0, [5])]) (fun d K => f60_1_l5 F d.2.1.2.1 d.2.1.2.2.1 d.2.1.2.2.2.1 d.2.1.2.2.2.2.1 (fun (y4 : List Int) => K (.exit 0) [.tv (.lf (.full 1))] [some ⟨false, [.int .i64 d.2.1.2.1, .int .i64 d.2.1.2.2.1, .int .i64 d.2.1.2.2.2.1, .int .i64 d.2.1.2.2.2.2.1]⟩, some ⟨false, [.seq (.int .i64) 0 y4]⟩]) k d.1.2.2.1 d.2.2.1.2.1)
noncomputable def LT60_1 (F : Nat) : Nat → Option LoopS := ltab [(5, G60_1_5 F F)]
theorem L60_1_5g (F k : Nat) (c46_1 : Int → Int → Int → Int → (Bool → Option Res) → Option Res) (c56_1 : Int → Int → Int → Int → Int → (Int → Option Res) → Option Res) (c87_1 : Int → Int → Int → (Bool → Option Res) → Option Res)  (l5 : Int → Int → Int → Int → (List Int → Option Res) → Nat → Int → List Int → Option Res) (X5 : LoopS) (d : sh60_1_l5.den) (K : KL) : (fun (v4 : Int) (v5 : Int) (v6 : Int) (v7 : Int) (K0 : (List Int → Option Res)) (k : Nat) (v3 : Int) (v8 : List Int) => cond (v3 != (-1)) (cond (decide ((v8.length + 1) * 8 ≤ 70368744177664)) (c56_1 v4 v5 v6 v7 v3 (fun x9 => l5 v4 v5 v6 v7 K0 k x9 (v8 ++ [v3])) ) none) (K0 v8)) d.2.1.2.1 d.2.1.2.2.1 d.2.1.2.2.2.1 d.2.1.2.2.2.2.1 (fun (y4 : List Int) => K (.exit 0) [.tv (.lf (.full 1))] [some ⟨false, [.int .i64 d.2.1.2.1, .int .i64 d.2.1.2.2.1, .int .i64 d.2.1.2.2.2.1, .int .i64 d.2.1.2.2.2.2.1]⟩, some ⟨false, [.seq (.int .i64) 0 y4]⟩]) k d.1.2.2.1 d.2.2.1.2.1 = roundOf Try.prog (tab [(46, (mkS sh46_1 (fun d K => c46_1 d.1.1.1 d.1.1.2.1 d.1.1.2.2.1 d.1.1.2.2.2.1 (fun (y0 : Bool) => K [.lf (.bool y0)] [])) noS)), (56, (mkS sh56_1 (fun d K => c56_1 d.1.1.1 d.1.1.2.1 d.1.1.2.2.1 d.1.1.2.2.2.1 d.1.2.1 (fun (y0 : Int) => K [.lf (.int .i64 y0)] [])) noS)), (87, (mkS sh87_1 (fun d K => c87_1 d.1.1 d.1.2.1 d.1.2.2.1 (fun (y0 : Bool) => K [.lf (.bool y0)] [])) noS))]) 29 0 (ltab [(5, X5)]) (mkG sh60_1_l5 [2, 5, 6] (outT [(.exit 0, [5])]) (fun d K => l5 d.2.1.2.1 d.2.1.2.2.1 d.2.1.2.2.2.1 d.2.1.2.2.2.2.1 (fun (y4 : List Int) => K (.exit 0) [.tv (.lf (.full 1))] [some ⟨false, [.int .i64 d.2.1.2.1, .int .i64 d.2.1.2.2.1, .int .i64 d.2.1.2.2.2.1, .int .i64 d.2.1.2.2.2.2.1]⟩, some ⟨false, [.seq (.int .i64) 0 y4]⟩]) k d.1.2.2.1 d.2.2.1.2.1)) b60_0 (encT sh60_1_l5.vs d.1) (encH sh60_1_l5.h d.2) K := by kernel_rfl
theorem L60_1_5 (F : Nat) : LoopOK Try.prog (T60_1 F) 29 0 (LT60_1 F) (G60_1_5 F F) b60_0 :=
  loopOK_of (s := sh60_1_l5) (live := [2, 5, 6]) (out := (outT [(.exit 0, [5])])) (fun k d K => f60_1_l5 F d.2.1.2.1 d.2.1.2.2.1 d.2.1.2.2.2.1 d.2.1.2.2.2.2.1 (fun (y4 : List Int) => K (.exit 0) [.tv (.lf (.full 1))] [some ⟨false, [.int .i64 d.2.1.2.1, .int .i64 d.2.1.2.2.1, .int .i64 d.2.1.2.2.2.1, .int .i64 d.2.1.2.2.2.2.1]⟩, some ⟨false, [.seq (.int .i64) 0 y4]⟩]) k d.1.2.2.1 d.2.2.1.2.1) F (fun d K => by kernel_rfl)  (fun k d K => Eq.mp (by kernel_rfl) (L60_1_5g F k (f46_1 F) (f56_1 F) (f87_1 F)  (f60_1_l5 F) (G60_1_5 F F) d K))
theorem E60_1g (F : Nat) (c46_1 : Int → Int → Int → Int → (Bool → Option Res) → Option Res) (c56_1 : Int → Int → Int → Int → Int → (Int → Option Res) → Option Res) (c87_1 : Int → Int → Int → (Bool → Option Res) → Option Res) (l5 : Int → Int → Int → Int → (List Int → Option Res) → Nat → Int → List Int → Option Res)  (d : sh60_1.den) (K : KF) : evBody Try.prog (tab [(46, (mkS sh46_1 (fun d K => c46_1 d.1.1.1 d.1.1.2.1 d.1.1.2.2.1 d.1.1.2.2.2.1 (fun (y0 : Bool) => K [.lf (.bool y0)] [])) noS)), (56, (mkS sh56_1 (fun d K => c56_1 d.1.1.1 d.1.1.2.1 d.1.1.2.2.1 d.1.1.2.2.2.1 d.1.2.1 (fun (y0 : Int) => K [.lf (.int .i64 y0)] [])) noS)), (87, (mkS sh87_1 (fun d K => c87_1 d.1.1 d.1.2.1 d.1.2.2.1 (fun (y0 : Bool) => K [.lf (.bool y0)] [])) noS))]) 29 0 (ltab [(5, mkG sh60_1_l5 [2, 5, 6] (outT [(.exit 0, [5])]) (fun d K => l5 d.2.1.2.1 d.2.1.2.2.1 d.2.1.2.2.2.1 d.2.1.2.2.2.2.1 (fun (y4 : List Int) => K (.exit 0) [.tv (.lf (.full 1))] [some ⟨false, [.int .i64 d.2.1.2.1, .int .i64 d.2.1.2.2.1, .int .i64 d.2.1.2.2.2.1, .int .i64 d.2.1.2.2.2.2.1]⟩, some ⟨false, [.seq (.int .i64) 0 y4]⟩]) F d.1.2.2.1 d.2.2.1.2.1))]) code60 Try.f60.results.toList (encT sh60_1.vs d.1) (encH sh60_1.h d.2) K = (fun (a1 : Int) (a2 : Int) (a3 : Int) (a4 : Int) (a5 : Int) (K0 : (List Int → Option Res)) => c46_1 a1 a2 a3 a4 (fun x1 => cond (!x1) (K0 []) (c87_1 a5 0 (IntKind.i64.wrap (a1 - 1)) (fun x2 => cond (!x2) (K0 []) (l5 a1 a2 a3 a4 (fun x10 => K0 x10) F a5 [])) )) ) d.1.1.1 d.1.1.2.1 d.1.1.2.2.1 d.1.1.2.2.2.1 d.1.2.1 (fun (y0 : List Int) => K [.lf (.full 0)] [some ⟨false, [.seq (.int .i64) 0 y0]⟩]) := by kernel_rfl
theorem E60_1 (F : Nat) (d : sh60_1.den) (K : KF) : evBody Try.prog (T60_1 F) 29 0 (LT60_1 F) code60 Try.f60.results.toList (encT sh60_1.vs d.1) (encH sh60_1.h d.2) K = f60_1 F d.1.1.1 d.1.1.2.1 d.1.1.2.2.1 d.1.1.2.2.2.1 d.1.2.1 (fun (y0 : List Int) => K [.lf (.full 0)] [some ⟨false, [.seq (.int .i64) 0 y0]⟩]) := Eq.mp (by kernel_rfl) (E60_1g F (f46_1 F) (f56_1 F) (f87_1 F) (f60_1_l5 F)  d K)
theorem S60_1_ok (F : Nat) (o : Summ) (ho : SoundFn Try.prog 60 o) : SoundFn Try.prog 60 (S60_1 F o) :=
  soundFn_of (fn := Try.f60) (c := code60) (by kernel_rfl) (tab_cons (S46_1_ok F _ (noS_sound enter46)) (tab_cons (S56_1_ok F _ (noS_sound enter56)) (tab_cons (S87_1_ok F _ (noS_sound enter87)) tab_nil))) (by kernel_rfl) (by kernel_rfl) ho (by rw [loops60]; exact (loopsOK_cons (by kernel_rfl) (L60_1_5 F) loopsOK_nil)) (by rw [scopes60]; exact scopesOK_nil) (E60_1 F)
end Go.Proofs.Ytlokielmpdjedaa.X
end

section
namespace Go.Proofs.Ytlokielmpdjedaa.X
open Go Go.Proofs.Ytlokielmpdjedaa.Ev Go.Proofs
set_option linter.unusedVariables false
/-! pentimentoref07.Path -/
noncomputable def f61_1_l5 {β : Type} (F : Nat) (v3 : Int) (v4 : Int) (v5 : Int) (v6 : Int) (K0 : List Int → Option β) : Nat → Int → List Int → Option β
  | 0, _, _ => none
  | k + 1, v2, v7 => cond (decide (v2 ≥ 0)) (cond (decide ((v7.length + 1) * 8 ≤ 70368744177664)) (f57_1 F v3 v4 v5 v6 v2 (fun x8 => f61_1_l5 F v3 v4 v5 v6 K0 k x8 (v7 ++ [v2])) ) none) (K0 v7)
noncomputable def f61_1 {β : Type} (F : Nat) (a1 : Int) (a2 : Int) (a3 : Int) (a4 : Int) (a5 : Int) (K0 : List Int → Option β) : Option β := f47_1 F a1 a2 a3 a4 (fun x1 => cond (!x1) (K0 []) (cond (decide (a5 < 0)) (K0 []) (cond (decide (a5 ≥ a1)) (K0 []) (f61_1_l5 F a1 a2 a3 a4 (fun x9 => K0 x9) F a5 [])))) 
def sh61_1 : Sh := ⟨[.agg [.int .i64, .int .i64, .int .i64, .int .i64], .lf (.int .i64)], []⟩
noncomputable def S61_1 (F : Nat) (o : Summ) : Summ := mkS sh61_1 (fun d K => f61_1 F d.1.1.1 d.1.1.2.1 d.1.1.2.2.1 d.1.1.2.2.2.1 d.1.2.1 (fun (y0 : List Int) => K [.lf (.full 0)] [some ⟨false, [.seq (.int .i64) 0 y0]⟩])) o
noncomputable def code61 : Code := bodyOf Try.f61
noncomputable def b61_0 : Code := cB (cB (cR (cL (cR (cR (cR (code61)))))))
theorem scopes61 : scopesOf code61 = [] := by kernel_rfl
theorem loops61 : loopsOf code61 = [b61_0] := by kernel_rfl
theorem enter61 : ∀ args w, (callFunc 61 args).run Try.prog w = .ok (.enter 61 args) w := enter_of (fn := Try.f61) (by kernel_rfl) (by kernel_rfl) (by kernel_rfl)
noncomputable def T61_1 (F : Nat) : FuncId → Option Summ := tab [(47, (S47_1 F noS)), (57, (S57_1 F noS))]
def sh61_1_l5 : Sh := ⟨[.lf (.ptr 0 0), .lf (.full 1), .lf (.int .i64)], [some ⟨some false, [.int .i64, .int .i64, .int .i64, .int .i64]⟩, some ⟨some false, [.seq (.int .i64) 0]⟩]⟩
noncomputable def G61_1_5 (F k : Nat) : LoopS := mkG sh61_1_l5 [2, 5, 6] (outT [(.exit 0, [5])]) (fun d K => f61_1_l5 F d.2.1.2.1 d.2.1.2.2.1 d.2.1.2.2.2.1 d.2.1.2.2.2.2.1 (fun (y4 : List Int) => K (.exit 0) [.tv (.lf (.full 1))] [some ⟨false, [.int .i64 d.2.1.2.1, .int .i64 d.2.1.2.2.1, .int .i64 d.2.1.2.2.2.1, .int .i64 d.2.1.2.2.2.2.1]⟩, some ⟨false, [.seq (.int .i64) 0 y4]⟩]) k d.1.2.2.1 d.2.2.1.2.1)
noncomputable def LT61_1 (F : Nat) : Nat → Option LoopS := ltab [(5, G61_1_5 F F)]
theorem L61_1_5g (F k : Nat) (c47_1 : Int → Int → Int → Int → (Bool → Option Res) → Option Res) (c57_1 : Int → Int → Int → Int → Int → (Int → Option Res) → Option Res)  (l5 : Int → Int → Int → Int → (List Int → Option Res) → Nat → Int → List Int → Option Res) (X5 : LoopS) (d : sh61_1_l5.den) (K : KL) : (fun (v3 : Int) (v4 : Int) (v5 : Int) (v6 : Int) (K0 : (List Int → Option Res)) (k : Nat) (v2 : Int) (v7 : List Int) => cond (decide (v2 ≥ 0)) (cond (decide ((v7.length + 1) * 8 ≤ 70368744177664)) (c57_1 v3 v4 v5 v6 v2 (fun x8 => l5 v3 v4 v5 v6 K0 k x8 (v7 ++ [v2])) ) none) (K0 v7)) d.2.1.2.1 d.2.1.2.2.1 d.2.1.2.2.2.1 d.2.1.2.2.2.2.1 (fun (y4 : List Int) => K (.exit 0) [.tv (.lf (.full 1))] [some ⟨false, [.int .i64 d.2.1.2.1, .int .i64 d.2.1.2.2.1, .int .i64 d.2.1.2.2.2.1, .int .i64 d.2.1.2.2.2.2.1]⟩, some ⟨false, [.seq (.int .i64) 0 y4]⟩]) k d.1.2.2.1 d.2.2.1.2.1 = roundOf Try.prog (tab [(47, (mkS sh47_1 (fun d K => c47_1 d.1.1.1 d.1.1.2.1 d.1.1.2.2.1 d.1.1.2.2.2.1 (fun (y0 : Bool) => K [.lf (.bool y0)] [])) noS)), (57, (mkS sh57_1 (fun d K => c57_1 d.1.1.1 d.1.1.2.1 d.1.1.2.2.1 d.1.1.2.2.2.1 d.1.2.1 (fun (y0 : Int) => K [.lf (.int .i64 y0)] [])) noS))]) 31 0 (ltab [(5, X5)]) (mkG sh61_1_l5 [2, 5, 6] (outT [(.exit 0, [5])]) (fun d K => l5 d.2.1.2.1 d.2.1.2.2.1 d.2.1.2.2.2.1 d.2.1.2.2.2.2.1 (fun (y4 : List Int) => K (.exit 0) [.tv (.lf (.full 1))] [some ⟨false, [.int .i64 d.2.1.2.1, .int .i64 d.2.1.2.2.1, .int .i64 d.2.1.2.2.2.1, .int .i64 d.2.1.2.2.2.2.1]⟩, some ⟨false, [.seq (.int .i64) 0 y4]⟩]) k d.1.2.2.1 d.2.2.1.2.1)) b61_0 (encT sh61_1_l5.vs d.1) (encH sh61_1_l5.h d.2) K := by kernel_rfl
theorem L61_1_5 (F : Nat) : LoopOK Try.prog (T61_1 F) 31 0 (LT61_1 F) (G61_1_5 F F) b61_0 :=
  loopOK_of (s := sh61_1_l5) (live := [2, 5, 6]) (out := (outT [(.exit 0, [5])])) (fun k d K => f61_1_l5 F d.2.1.2.1 d.2.1.2.2.1 d.2.1.2.2.2.1 d.2.1.2.2.2.2.1 (fun (y4 : List Int) => K (.exit 0) [.tv (.lf (.full 1))] [some ⟨false, [.int .i64 d.2.1.2.1, .int .i64 d.2.1.2.2.1, .int .i64 d.2.1.2.2.2.1, .int .i64 d.2.1.2.2.2.2.1]⟩, some ⟨false, [.seq (.int .i64) 0 y4]⟩]) k d.1.2.2.1 d.2.2.1.2.1) F (fun d K => by kernel_rfl)  (fun k d K => Eq.mp (by kernel_rfl) (L61_1_5g F k (f47_1 F) (f57_1 F)  (f61_1_l5 F) (G61_1_5 F F) d K))
theorem E61_1g (F : Nat) (c47_1 : Int → Int → Int → Int → (Bool → Option Res) → Option Res) (c57_1 : Int → Int → Int → Int → Int → (Int → Option Res) → Option Res) (l5 : Int → Int → Int → Int → (List Int → Option Res) → Nat → Int → List Int → Option Res)  (d : sh61_1.den) (K : KF) : evBody Try.prog (tab [(47, (mkS sh47_1 (fun d K => c47_1 d.1.1.1 d.1.1.2.1 d.1.1.2.2.1 d.1.1.2.2.2.1 (fun (y0 : Bool) => K [.lf (.bool y0)] [])) noS)), (57, (mkS sh57_1 (fun d K => c57_1 d.1.1.1 d.1.1.2.1 d.1.1.2.2.1 d.1.1.2.2.2.1 d.1.2.1 (fun (y0 : Int) => K [.lf (.int .i64 y0)] [])) noS))]) 31 0 (ltab [(5, mkG sh61_1_l5 [2, 5, 6] (outT [(.exit 0, [5])]) (fun d K => l5 d.2.1.2.1 d.2.1.2.2.1 d.2.1.2.2.2.1 d.2.1.2.2.2.2.1 (fun (y4 : List Int) => K (.exit 0) [.tv (.lf (.full 1))] [some ⟨false, [.int .i64 d.2.1.2.1, .int .i64 d.2.1.2.2.1, .int .i64 d.2.1.2.2.2.1, .int .i64 d.2.1.2.2.2.2.1]⟩, some ⟨false, [.seq (.int .i64) 0 y4]⟩]) F d.1.2.2.1 d.2.2.1.2.1))]) code61 Try.f61.results.toList (encT sh61_1.vs d.1) (encH sh61_1.h d.2) K = (fun (a1 : Int) (a2 : Int) (a3 : Int) (a4 : Int) (a5 : Int) (K0 : (List Int → Option Res)) => c47_1 a1 a2 a3 a4 (fun x1 => cond (!x1) (K0 []) (cond (decide (a5 < 0)) (K0 []) (cond (decide (a5 ≥ a1)) (K0 []) (l5 a1 a2 a3 a4 (fun x9 => K0 x9) F a5 [])))) ) d.1.1.1 d.1.1.2.1 d.1.1.2.2.1 d.1.1.2.2.2.1 d.1.2.1 (fun (y0 : List Int) => K [.lf (.full 0)] [some ⟨false, [.seq (.int .i64) 0 y0]⟩]) := by kernel_rfl
theorem E61_1 (F : Nat) (d : sh61_1.den) (K : KF) : evBody Try.prog (T61_1 F) 31 0 (LT61_1 F) code61 Try.f61.results.toList (encT sh61_1.vs d.1) (encH sh61_1.h d.2) K = f61_1 F d.1.1.1 d.1.1.2.1 d.1.1.2.2.1 d.1.1.2.2.2.1 d.1.2.1 (fun (y0 : List Int) => K [.lf (.full 0)] [some ⟨false, [.seq (.int .i64) 0 y0]⟩]) := Eq.mp (by kernel_rfl) (E61_1g F (f47_1 F) (f57_1 F) (f61_1_l5 F)  d K)
theorem S61_1_ok (F : Nat) (o : Summ) (ho : SoundFn Try.prog 61 o) : SoundFn Try.prog 61 (S61_1 F o) :=
  soundFn_of (fn := Try.f61) (c := code61) (by kernel_rfl) (tab_cons (S47_1_ok F _ (noS_sound enter47)) (tab_cons (S57_1_ok F _ (noS_sound enter57)) tab_nil)) (by kernel_rfl) (by kernel_rfl) ho (by rw [loops61]; exact (loopsOK_cons (by kernel_rfl) (L61_1_5 F) loopsOK_nil)) (by rw [scopes61]; exact scopesOK_nil) (E61_1 F)
end Go.Proofs.Ytlokielmpdjedaa.X
end

section
namespace Go.Proofs.Ytlokielmpdjedaa.X
open Go Go.Proofs.Ytlokielmpdjedaa.Ev Go.Proofs
set_option linter.unusedVariables false
/-! pentimentolaw07.GeomTells -/
noncomputable def f8_1 {β : Type} (F : Nat) (a1 : Int) (a2 : Int) (a3 : Int) (a4 : Int) (a5 : Int) (K0 : Bool → Option β) : Option β := f46_1 F a1 a2 a3 a4 (fun x1 => f47_1 F a1 a2 a3 a4 (fun x2 => cond (x1 == x2) (f48_1 F a1 a2 a3 a4 (fun x3 => f49_1 F a1 a2 a3 a4 (fun x4 => f21_1 F x3 x4 (fun x5 => cond x5 (f50_1 F a1 a2 a3 a4 (fun x6 => f51_1 F a1 a2 a3 a4 (fun x7 => cond (x6 == x7) (f52_1 F a1 a2 a3 a4 (fun x8 => f53_1 F a1 a2 a3 a4 (fun x9 => cond (x8 == x9) (f54_1 F a1 a2 a3 a4 (fun x10 => f55_1 F a1 a2 a3 a4 (fun x11 => cond (x10 == x11) (f56_1 F a1 a2 a3 a4 a5 (fun x12 => f57_1 F a1 a2 a3 a4 a5 (fun x13 => cond (x12 == x13) (f58_1 F a1 a2 a3 a4 a5 (fun x14 => f59_1 F a1 a2 a3 a4 a5 (fun x15 => f21_1 F x14 x15 (fun x16 => cond x16 (f60_1 F a1 a2 a3 a4 a5 (fun x17 => f61_1 F a1 a2 a3 a4 a5 (fun x18 => f21_1 F x17 x18 (fun x19 => cond x19 (f62_1 F  (fun x20 => K0 x20) ) (K0 false)) ) ) ) (K0 false)) ) ) ) (K0 false)) ) ) (K0 false)) ) ) (K0 false)) ) ) (K0 false)) ) ) (K0 false)) ) ) ) (K0 false)) ) 
def sh8_1 : Sh := ⟨[.agg [.int .i64, .int .i64, .int .i64, .int .i64], .lf (.int .i64)], []⟩
noncomputable def S8_1 (F : Nat) (o : Summ) : Summ := mkS sh8_1 (fun d K => f8_1 F d.1.1.1 d.1.1.2.1 d.1.1.2.2.1 d.1.1.2.2.2.1 d.1.2.1 (fun (y0 : Bool) => K [.lf (.bool y0)] [])) o
noncomputable def code8 : Code := bodyOf Try.f8
theorem scopes8 : scopesOf code8 = [] := by kernel_rfl
theorem loops8 : loopsOf code8 = [] := by kernel_rfl
theorem enter8 : ∀ args w, (callFunc 8 args).run Try.prog w = .ok (.enter 8 args) w := enter_of (fn := Try.f8) (by kernel_rfl) (by kernel_rfl) (by kernel_rfl)
noncomputable def T8_1 (F : Nat) : FuncId → Option Summ := tab [(21, (S21_1 F noS)), (46, (S46_1 F noS)), (47, (S47_1 F noS)), (48, (S48_1 F noS)), (49, (S49_1 F noS)), (50, (S50_1 F noS)), (51, (S51_1 F noS)), (52, (S52_1 F noS)), (53, (S53_1 F noS)), (54, (S54_1 F noS)), (55, (S55_1 F noS)), (56, (S56_1 F noS)), (57, (S57_1 F noS)), (58, (S58_1 F noS)), (59, (S59_1 F noS)), (60, (S60_1 F noS)), (61, (S61_1 F noS)), (62, (S62_1 F noS))]
noncomputable def LT8_1 (F : Nat) : Nat → Option LoopS := ltab []
theorem E8_1g (F : Nat) (c21_1 : List Int → List Int → (Bool → Option Res) → Option Res) (c46_1 : Int → Int → Int → Int → (Bool → Option Res) → Option Res) (c47_1 : Int → Int → Int → Int → (Bool → Option Res) → Option Res) (c48_1 : Int → Int → Int → Int → (List Int → Option Res) → Option Res) (c49_1 : Int → Int → Int → Int → (List Int → Option Res) → Option Res) (c50_1 : Int → Int → Int → Int → (Int → Option Res) → Option Res) (c51_1 : Int → Int → Int → Int → (Int → Option Res) → Option Res) (c52_1 : Int → Int → Int → Int → (Int → Option Res) → Option Res) (c53_1 : Int → Int → Int → Int → (Int → Option Res) → Option Res) (c54_1 : Int → Int → Int → Int → (Int → Option Res) → Option Res) (c55_1 : Int → Int → Int → Int → (Int → Option Res) → Option Res) (c56_1 : Int → Int → Int → Int → Int → (Int → Option Res) → Option Res) (c57_1 : Int → Int → Int → Int → Int → (Int → Option Res) → Option Res) (c58_1 : Int → Int → Int → Int → Int → (List Int → Option Res) → Option Res) (c59_1 : Int → Int → Int → Int → Int → (List Int → Option Res) → Option Res) (c60_1 : Int → Int → Int → Int → Int → (List Int → Option Res) → Option Res) (c61_1 : Int → Int → Int → Int → Int → (List Int → Option Res) → Option Res) (c62_1 : (Bool → Option Res) → Option Res)   (d : sh8_1.den) (K : KF) : evBody Try.prog (tab [(21, (mkS sh21_1 (fun d K => c21_1 d.2.1.2.1 d.2.2.1.2.1 (fun (y0 : Bool) => K [.lf (.bool y0)] [some ⟨d.2.1.1, [.seq (.int .i64) 0 d.2.1.2.1]⟩, some ⟨d.2.2.1.1, [.seq (.int .i64) 0 d.2.2.1.2.1]⟩])) noS)), (46, (mkS sh46_1 (fun d K => c46_1 d.1.1.1 d.1.1.2.1 d.1.1.2.2.1 d.1.1.2.2.2.1 (fun (y0 : Bool) => K [.lf (.bool y0)] [])) noS)), (47, (mkS sh47_1 (fun d K => c47_1 d.1.1.1 d.1.1.2.1 d.1.1.2.2.1 d.1.1.2.2.2.1 (fun (y0 : Bool) => K [.lf (.bool y0)] [])) noS)), (48, (mkS sh48_1 (fun d K => c48_1 d.1.1.1 d.1.1.2.1 d.1.1.2.2.1 d.1.1.2.2.2.1 (fun (y0 : List Int) => K [.lf (.full 0)] [some ⟨false, [.seq (.int .i64) 0 y0]⟩])) noS)), (49, (mkS sh49_1 (fun d K => c49_1 d.1.1.1 d.1.1.2.1 d.1.1.2.2.1 d.1.1.2.2.2.1 (fun (y0 : List Int) => K [.lf (.full 0)] [some ⟨false, [.seq (.int .i64) 0 y0]⟩])) noS)), (50, (mkS sh50_1 (fun d K => c50_1 d.1.1.1 d.1.1.2.1 d.1.1.2.2.1 d.1.1.2.2.2.1 (fun (y0 : Int) => K [.lf (.int .i64 y0)] [])) noS)), (51, (mkS sh51_1 (fun d K => c51_1 d.1.1.1 d.1.1.2.1 d.1.1.2.2.1 d.1.1.2.2.2.1 (fun (y0 : Int) => K [.lf (.int .i64 y0)] [])) noS)), (52, (mkS sh52_1 (fun d K => c52_1 d.1.1.1 d.1.1.2.1 d.1.1.2.2.1 d.1.1.2.2.2.1 (fun (y0 : Int) => K [.lf (.int .i64 y0)] [])) noS)), (53, (mkS sh53_1 (fun d K => c53_1 d.1.1.1 d.1.1.2.1 d.1.1.2.2.1 d.1.1.2.2.2.1 (fun (y0 : Int) => K [.lf (.int .i64 y0)] [])) noS)), (54, (mkS sh54_1 (fun d K => c54_1 d.1.1.1 d.1.1.2.1 d.1.1.2.2.1 d.1.1.2.2.2.1 (fun (y0 : Int) => K [.lf (.int .i64 y0)] [])) noS)), (55, (mkS sh55_1 (fun d K => c55_1 d.1.1.1 d.1.1.2.1 d.1.1.2.2.1 d.1.1.2.2.2.1 (fun (y0 : Int) => K [.lf (.int .i64 y0)] [])) noS)), (56, (mkS sh56_1 (fun d K => c56_1 d.1.1.1 d.1.1.2.1 d.1.1.2.2.1 d.1.1.2.2.2.1 d.1.2.1 (fun (y0 : Int) => K [.lf (.int .i64 y0)] [])) noS)), (57, (mkS sh57_1 (fun d K => c57_1 d.1.1.1 d.1.1.2.1 d.1.1.2.2.1 d.1.1.2.2.2.1 d.1.2.1 (fun (y0 : Int) => K [.lf (.int .i64 y0)] [])) noS)), (58, (mkS sh58_1 (fun d K => c58_1 d.1.1.1 d.1.1.2.1 d.1.1.2.2.1 d.1.1.2.2.2.1 d.1.2.1 (fun (y0 : List Int) => K [.lf (.full 0)] [some ⟨false, [.seq (.int .i64) 0 y0]⟩])) noS)), (59, (mkS sh59_1 (fun d K => c59_1 d.1.1.1 d.1.1.2.1 d.1.1.2.2.1 d.1.1.2.2.2.1 d.1.2.1 (fun (y0 : List Int) => K [.lf (.full 0)] [some ⟨false, [.seq (.int .i64) 0 y0]⟩])) noS)), (60, (mkS sh60_1 (fun d K => c60_1 d.1.1.1 d.1.1.2.1 d.1.1.2.2.1 d.1.1.2.2.2.1 d.1.2.1 (fun (y0 : List Int) => K [.lf (.full 0)] [some ⟨false, [.seq (.int .i64) 0 y0]⟩])) noS)), (61, (mkS sh61_1 (fun d K => c61_1 d.1.1.1 d.1.1.2.1 d.1.1.2.2.1 d.1.1.2.2.2.1 d.1.2.1 (fun (y0 : List Int) => K [.lf (.full 0)] [some ⟨false, [.seq (.int .i64) 0 y0]⟩])) noS)), (62, (mkS sh62_1 (fun d K => c62_1 (fun (y0 : Bool) => K [.lf (.bool y0)] [])) noS))]) 68 0 (ltab []) code8 Try.f8.results.toList (encT sh8_1.vs d.1) (encH sh8_1.h d.2) K = (fun (a1 : Int) (a2 : Int) (a3 : Int) (a4 : Int) (a5 : Int) (K0 : (Bool → Option Res)) => c46_1 a1 a2 a3 a4 (fun x1 => c47_1 a1 a2 a3 a4 (fun x2 => cond (x1 == x2) (c48_1 a1 a2 a3 a4 (fun x3 => c49_1 a1 a2 a3 a4 (fun x4 => c21_1 x3 x4 (fun x5 => cond x5 (c50_1 a1 a2 a3 a4 (fun x6 => c51_1 a1 a2 a3 a4 (fun x7 => cond (x6 == x7) (c52_1 a1 a2 a3 a4 (fun x8 => c53_1 a1 a2 a3 a4 (fun x9 => cond (x8 == x9) (c54_1 a1 a2 a3 a4 (fun x10 => c55_1 a1 a2 a3 a4 (fun x11 => cond (x10 == x11) (c56_1 a1 a2 a3 a4 a5 (fun x12 => c57_1 a1 a2 a3 a4 a5 (fun x13 => cond (x12 == x13) (c58_1 a1 a2 a3 a4 a5 (fun x14 => c59_1 a1 a2 a3 a4 a5 (fun x15 => c21_1 x14 x15 (fun x16 => cond x16 (c60_1 a1 a2 a3 a4 a5 (fun x17 => c61_1 a1 a2 a3 a4 a5 (fun x18 => c21_1 x17 x18 (fun x19 => cond x19 (c62_1  (fun x20 => K0 x20) ) (K0 false)) ) ) ) (K0 false)) ) ) ) (K0 false)) ) ) (K0 false)) ) ) (K0 false)) ) ) (K0 false)) ) ) (K0 false)) ) ) ) (K0 false)) ) ) d.1.1.1 d.1.1.2.1 d.1.1.2.2.1 d.1.1.2.2.2.1 d.1.2.1 (fun (y0 : Bool) => K [.lf (.bool y0)] []) := by kernel_rfl
theorem E8_1 (F : Nat) (d : sh8_1.den) (K : KF) : evBody Try.prog (T8_1 F) 68 0 (LT8_1 F) code8 Try.f8.results.toList (encT sh8_1.vs d.1) (encH sh8_1.h d.2) K = f8_1 F d.1.1.1 d.1.1.2.1 d.1.1.2.2.1 d.1.1.2.2.2.1 d.1.2.1 (fun (y0 : Bool) => K [.lf (.bool y0)] []) := Eq.mp (by kernel_rfl) (E8_1g F (f21_1 F) (f46_1 F) (f47_1 F) (f48_1 F) (f49_1 F) (f50_1 F) (f51_1 F) (f52_1 F) (f53_1 F) (f54_1 F) (f55_1 F) (f56_1 F) (f57_1 F) (f58_1 F) (f59_1 F) (f60_1 F) (f61_1 F) (f62_1 F)   d K)
theorem S8_1_ok (F : Nat) (o : Summ) (ho : SoundFn Try.prog 8 o) : SoundFn Try.prog 8 (S8_1 F o) :=
  soundFn_of (fn := Try.f8) (c := code8) (by kernel_rfl) (tab_cons (S21_1_ok F _ (noS_sound enter21)) (tab_cons (S46_1_ok F _ (noS_sound enter46)) (tab_cons (S47_1_ok F _ (noS_sound enter47)) (tab_cons (S48_1_ok F _ (noS_sound enter48)) (tab_cons (S49_1_ok F _ (noS_sound enter49)) (tab_cons (S50_1_ok F _ (noS_sound enter50)) (tab_cons (S51_1_ok F _ (noS_sound enter51)) (tab_cons (S52_1_ok F _ (noS_sound enter52)) (tab_cons (S53_1_ok F _ (noS_sound enter53)) (tab_cons (S54_1_ok F _ (noS_sound enter54)) (tab_cons (S55_1_ok F _ (noS_sound enter55)) (tab_cons (S56_1_ok F _ (noS_sound enter56)) (tab_cons (S57_1_ok F _ (noS_sound enter57)) (tab_cons (S58_1_ok F _ (noS_sound enter58)) (tab_cons (S59_1_ok F _ (noS_sound enter59)) (tab_cons (S60_1_ok F _ (noS_sound enter60)) (tab_cons (S61_1_ok F _ (noS_sound enter61)) (tab_cons (S62_1_ok F _ (noS_sound enter62)) tab_nil)))))))))))))))))) (by kernel_rfl) (by kernel_rfl) ho (by rw [loops8]; exact loopsOK_nil) (by rw [scopes8]; exact scopesOK_nil) (E8_1 F)
end Go.Proofs.Ytlokielmpdjedaa.X
end

section
/- Trees' shapes: parents and children over the list of the levels. -/
namespace Go.Proofs.Ytlokielmpdjedaa.X
open Go Go.Proofs.Ytlokielmpdjedaa.Ev
set_option linter.unusedVariables false

/-- Children of a node, by the levels from a number on. -/
def kids (f : Int) (from_ a q : Int) : Nat → List Int
  | 0 => []
  | k + 1 => kids f from_ a q k ++ (if q * f + k < a then [from_ + (q * f + k)] else [])

def chl (f : Int) (node : Int) : Int → List Int → List Int
  | s, a :: b :: r => if s + a ≤ node ∧ node < s + a + b then kids f s a (node - (s + a)) f.toNat else chl f node (s + a) (b :: r)
  | _, _ => []

def par (f : Int) (node : Int) : Int → List Int → Int
  | s, a :: b :: r => if s ≤ node ∧ node < s + a then s + a + (node - s) / f else par f node (s + a) (b :: r)
  | _, _ => -1

/-- Each level is the one below it, over f, rounded up; the last one is 1. -/
def chain (f : Int) : List Int → Prop
  | a :: b :: r => 1 < a ∧ b = (a + f - 1) / f ∧ chain f (b :: r)
  | [a] => a = 1
  | [] => True

theorem chain_lv {f : Int} (hf : 2 ≤ f ∧ f ≤ 4) : ∀ (k : Nat) (n : Int), 1 ≤ n → n ≤ 128 → n < k → chain f (n :: lv k n f)
  | 0, n, h1, h2, h3 => by omega
  | k + 1, n, h1, h2, h3 => by
    simp only [lv]
    by_cases hn : n > 1
    · obtain ⟨e, g1, g2⟩ := step_eq hf hn h2
      rw [if_pos hn]
      exact ⟨hn, rfl, chain_lv hf k _ g1 (by omega) (by omega)⟩
    · rw [if_neg hn]
      show n = 1
      omega

/-- The level of a node: its number in the list and the number of the first node there. -/
def lvl (node : Int) : Int → Nat → List Int → Option (Nat × Int)
  | s, i, a :: r => if s ≤ node ∧ node < s + a then some (i, s) else lvl node (s + a) (i + 1) r
  | _, _, [] => none

/-- What is at hand in the middle of a list. -/
theorem at_drop {l r : List Int} {x : Int} {i : Nat} (hd : l.drop i = x :: r) : i < l.length ∧ l.getD (0 + (i : Int).toNat) 0 = x ∧ l.drop (i + 1) = r := by
  have hlen : l.length - i = r.length + 1 := by
    have := congrArg List.length hd
    simpa using this
  have hx : l[i]? = some x := by
    have := congrArg (·[0]?) hd
    simpa using this
  refine ⟨by omega, ?_, ?_⟩
  · rw [List.getD_eq_getElem?_getD]; simp [hx]
  · rw [← List.drop_drop, hd]; rfl

theorem level88 {β : Type} {F : Nat} {node : Int} {K0 : Int → Int → Option β} {K1 : Option β} (l : List Int) (hl : l.length ≤ 128) (hy : ∀ y ∈ l, 1 ≤ y ∧ y ≤ 128) :
    ∀ (r : List Int) (i k : Nat) (s : Int), l.drop i = r → i ≤ l.length → r.length < k → 0 ≤ s → s ≤ 128 * i →
      f88_1_l3 F node ((l.length : Nat) : Int) l K0 K1 k s (i : Int) = match lvl node s i r with | some (j, t) => K0 (j : Int) t | none => K1
  | [], i, k, s, hd, hi, hk, h0, h1 => by
    cases k with
    | zero => omega
    | succ k =>
      have : i = l.length := by
        have := congrArg List.length hd
        simp at this; omega
      subst this
      simp [f88_1_l3, lvl]
  | x :: r, i, k, s, hd, hi, hk, h0, h1 => by
    cases k with
    | zero => omega
    | succ k =>
      obtain ⟨hlt, hx, hdr⟩ := at_drop hd
      have hm := hy x (by
        have : x ∈ l.drop i := by rw [hd]; simp
        exact List.mem_of_mem_drop this)
      simp only [f88_1_l3, within87]
      have e1 : decide ((i : Int) < ((l.length : Nat) : Int)) = true := by simp; omega
      have e2 : decide ((0 : Int) ≤ (i : Int) ∧ (i : Int) < ((l.length : Nat) : Int)) = true := by simp; omega
      have e3 : decide (0 + (i : Int).toNat < l.length) = true := by simp; omega
      rw [e1, e2, e3, hx, cond_true, cond_true, cond_true, w64 (x := s + x) (by omega) (by omega), w64 (x := s + x - 1) (by omega) (by omega), w64 (x := (i : Int) + 1) (by omega) (by omega)]
      simp only [lvl]
      by_cases hn : s ≤ node ∧ node < s + x
      · have e : decide (node ≥ s ∧ node ≤ s + x - 1) = true := by simp; omega
        rw [e, cond_true, if_pos hn]
      · have e : decide (node ≥ s ∧ node ≤ s + x - 1) = false := by simp; omega
        rw [e, cond_false, if_neg hn, show ((i : Int) + 1) = ((i + 1 : Nat) : Int) by omega]
        exact level88 l hl hy r (i + 1) k (s + x) hdr (by omega) (by simpa using hk) (by omega) (by omega)

/-- What is known of a level that was found. -/
theorem lvl_spec {node : Int} : ∀ (r : List Int) (s : Int) (i j : Nat) (t : Int), lvl node s i r = some (j, t) → ∃ p a q, r = p ++ a :: q ∧ j = i + p.length ∧ t = s + sumI p ∧ t ≤ node ∧ node < t + a
  | [], s, i, j, t, h => by simp [lvl] at h
  | x :: r, s, i, j, t, h => by
    simp only [lvl] at h
    split at h
    · rename_i hn
      simp only [Option.some.injEq, Prod.mk.injEq] at h
      obtain ⟨rfl, rfl⟩ := h
      exact ⟨[], x, r, rfl, by simp, by simp [sumI], hn.1, hn.2⟩
    · obtain ⟨p, a, q, h1, h2, h3, h4, h5⟩ := lvl_spec r _ _ _ _ h
      refine ⟨x :: p, a, q, by rw [h1]; rfl, by simp; omega, by simp only [sumI]; omega, h4, h5⟩

theorem lvl_none {node : Int} : ∀ (r : List Int) (s : Int) (i : Nat), (∀ y ∈ r, 1 ≤ y) → (lvl node s i r = none ↔ ¬ (s ≤ node ∧ node < s + sumI r))
  | [], s, i, h => by
    simp only [lvl, sumI, true_iff]
    omega
  | x :: r, s, i, h => by
    have h0 := h x (by simp)
    have h1 : 0 ≤ sumI r := by
      have : ∀ (l : List Int), (∀ y ∈ l, 1 ≤ y) → 0 ≤ sumI l := by
        intro l
        induction l with
        | nil => intro _; simp [sumI]
        | cons a l ih => intro hl; have := hl a (by simp); have := ih fun y hy => hl y (by simp [hy]); simp only [sumI]; omega
      exact this r fun y hy => h y (by simp [hy])
    simp only [lvl, sumI]
    split
    · simp; omega
    · rw [lvl_none r _ _ fun y hy => h y (by simp [hy])]
      omega

theorem kids_len (f from_ a q : Int) : ∀ k, (kids f from_ a q k).length ≤ k
  | 0 => by simp [kids]
  | k + 1 => by
    have := kids_len f from_ a q k
    simp only [kids, List.length_append]
    split <;> simp <;> omega

theorem mul_small {f q : Int} (hf : 2 ≤ f ∧ f ≤ 4) (hq : 0 ≤ q ∧ q < 128) : 0 ≤ q * f ∧ q * f < 512 := by
  have : f = 2 ∨ f = 3 ∨ f = 4 := by omega
  rcases this with rfl | rfl | rfl <;> omega

/-- The inner loop of the code's Children. -/
theorem kids58 {β : Type} {F : Nat} {node t below f n c u : Int} {K : List Int → Option β} (hf : 2 ≤ f ∧ f ≤ 4) (ht : 0 ≤ t ∧ t ≤ 16384) (hb : 1 ≤ below ∧ below ≤ 128) (hn : t ≤ node ∧ node < t + 128) :
    ∀ (m i k : Nat), (i : Int) + m = f → m < k → f58_1_l7 F node t below f n f c u K k (i : Int) (kids f (t - below) below (node - t) i) = K (kids f (t - below) below (node - t) f.toNat)
  | 0, i, k, hi, hk => by
    cases k with
    | zero => omega
    | succ k =>
      have e : decide ((i : Int) < f) = false := by simp; omega
      simp only [f58_1_l7, e, cond_false]
      rw [show f.toNat = i by omega]
  | m + 1, i, k, hi, hk => by
    cases k with
    | zero => omega
    | succ k =>
      have e : decide ((i : Int) < f) = true := by simp; omega
      obtain ⟨q1, q2⟩ := mul_small hf (q := node - t) (by omega)
      have hl := kids_len f (t - below) below (node - t) i
      have e8 : decide (((kids f (t - below) below (node - t) i).length + 1) * 8 ≤ 70368744177664) = true := by simp; omega
      simp only [f58_1_l7]
      rw [e, cond_true, w64 (x := node - t) (by omega) (by omega), w64 (x := (node - t) * f) (by omega) (by omega), w64 (x := (node - t) * f + i) (by omega) (by omega), w64 (x := (i : Int) + 1) (by omega) (by omega), w64 (x := t - below) (by omega) (by omega),
        w64 (x := t - below + ((node - t) * f + i)) (by omega) (by omega), e8, cond_true]
      have hk' : kids f (t - below) below (node - t) (i + 1) = kids f (t - below) below (node - t) i ++ (if (node - t) * f + (i : Int) < below then [t - below + ((node - t) * f + (i : Int))] else []) := rfl
      have := kids58 (F := F) (n := n) (c := c) (u := u) (K := K) hf ht hb hn m (i + 1) k (by omega) (by omega)
      rw [hk'] at this
      rw [show ((i : Int) + 1) = ((i + 1 : Nat) : Int) by omega]
      by_cases h : (node - t) * f + (i : Int) < below
      · simp only [h, decide_true, cond_true]
        rw [if_pos h] at this
        exact this
      · simp only [h, decide_false, cond_false]
        rw [if_neg h, List.append_nil] at this
        exact this

/-- The inner loop of the document's Children. -/
theorem kids59 {β : Type} {F : Nat} {node s above a f n c u : Int} {l : List Int} {j : Nat} {K : List Int → Option β} (hf : 2 ≤ f ∧ f ≤ 4) (ht : 0 ≤ s ∧ s ≤ 16384) (hj : j < l.length) (hlj : l.getD (0 + (j : Int).toNat) 0 = a)
    (hb : 1 ≤ a ∧ a ≤ 128) (hab : above = s + a) (hn : above ≤ node ∧ node < above + 128) :
    ∀ (m i k : Nat), (i : Int) + m = f → m < k → f59_1_l10 F node s (j : Int) above n f c u l K k (i : Int) (kids f s a (node - above) i) = K (kids f s a (node - above) f.toNat)
  | 0, i, k, hi, hk => by
    cases k with
    | zero => omega
    | succ k =>
      have e : decide ((i : Int) < f) = false := by simp; omega
      simp only [f59_1_l10, e, cond_false]
      rw [show f.toNat = i by omega]
  | m + 1, i, k, hi, hk => by
    cases k with
    | zero => omega
    | succ k =>
      have e : decide ((i : Int) < f) = true := by simp; omega
      obtain ⟨q1, q2⟩ := mul_small hf (q := node - above) (by omega)
      have hl := kids_len f s a (node - above) i
      have e8 : decide (((kids f s a (node - above) i).length + 1) * 8 ≤ 70368744177664) = true := by simp; omega
      have e2 : decide ((0 : Int) ≤ (j : Int) ∧ (j : Int) < ((l.length : Nat) : Int)) = true := by simp; omega
      have e3 : decide (0 + (j : Int).toNat < l.length) = true := by simp; omega
      simp only [f59_1_l10]
      rw [e, cond_true, e2, cond_true, e3, cond_true, hlj, w64 (x := node - above) (by omega) (by omega), w64 (x := (node - above) * f) (by omega) (by omega), w64 (x := (node - above) * f + i) (by omega) (by omega), w64 (x := (i : Int) + 1) (by omega) (by omega),
        w64 (x := s + ((node - above) * f + i)) (by omega) (by omega), e8, cond_true]
      have hk' : kids f s a (node - above) (i + 1) = kids f s a (node - above) i ++ (if (node - above) * f + (i : Int) < a then [s + ((node - above) * f + (i : Int))] else []) := rfl
      have := kids59 (F := F) (n := n) (c := c) (u := u) (K := K) hf ht hj hlj hb hab hn m (i + 1) k (by omega) (by omega)
      rw [hk'] at this
      rw [show ((i : Int) + 1) = ((i + 1 : Nat) : Int) by omega]
      by_cases h : (node - above) * f + (i : Int) < a
      · simp only [h, decide_true, cond_true]
        rw [if_pos h] at this
        exact this
      · simp only [h, decide_false, cond_false]
        rw [if_neg h, List.append_nil] at this
        exact this

/-- A node's children, by the list of the levels. -/
def chs (f node : Int) (L : List Int) : List Int := match lvl node 0 0 L with
  | some (j + 1, t) => kids f (t - L.getD j 0) (L.getD j 0) (node - t) f.toNat
  | _ => []

theorem level88' {β : Type} {n f c u node : Int} {K0 : Int → Int → Bool → Option β} : f88_1 20000 n f c u node K0 = match lvl node 0 0 (levels n f c u) with | some (j, t) => K0 (j : Int) t true | none => K0 0 0 false := by
  obtain ⟨h1, h2⟩ := levels_ok n f c u
  simp only [f88_1, levels48]
  have := level88 (F := 20000) (node := node) (K0 := fun x8 x9 => K0 x8 x9 true) (K1 := K0 0 0 false) (levels n f c u) h1 h2 _ 0 20000 0 rfl (by omega) (by simp; omega) (by omega) (by omega)
  simp only [List.drop_zero] at this
  exact this

theorem mem_getD {l : List Int} {j : Nat} (h : j < l.length) : l.getD j 0 ∈ l := by
  rw [List.getD_eq_getElem?_getD, List.getElem?_eq_getElem h]; simp

theorem chs58 {β : Type} {n f c u node : Int} {K : List Int → Option β} : f58_1 20000 n f c u node K = K (chs f node (levels n f c u)) := by
  obtain ⟨h1, h2⟩ := levels_ok n f c u
  simp only [f58_1, level88', levels48, chs]
  cases hl : lvl node 0 0 (levels n f c u) with
  | none => rfl
  | some q =>
    obtain ⟨j, t⟩ := q
    obtain ⟨p, a, r, e1, e2, e3, e4, e5⟩ := lvl_spec _ _ _ _ _ hl
    have hrt : rt n f c u := by
      by_cases h : rt n f c u
      · exact h
      · simp [levels, h] at e1
    cases j with
    | zero => simp
    | succ j =>
      have hlen : (levels n f c u).length = p.length + 1 + r.length := by rw [e1]; simp; omega
      have ha := h2 a (by rw [e1]; simp)
      have hp := sumI_ok p fun y hy => h2 y (by rw [e1]; simp [hy])
      have hj : j < (levels n f c u).length := by omega
      have hm := h2 _ (mem_getD hj)
      have x0 : (((j + 1 : Nat) : Int) == 0) = false := by simp; omega
      have x1 : IntKind.i64.wrap (((j + 1 : Nat) : Int) - 1) = (j : Int) := by rw [w64 (by omega) (by omega)]; omega
      have x2 : decide ((0 : Int) ≤ (j : Int) ∧ (j : Int) < (((levels n f c u).length : Nat) : Int)) = true := by simp; omega
      have x3 : decide (0 + (j : Int).toNat < (levels n f c u).length) = true := by simp; omega
      have x4 : (levels n f c u).getD (0 + (j : Int).toNat) 0 = (levels n f c u).getD j 0 := by simp
      simp only [Bool.not_true, cond_false, x0, x1, x2, x3, x4, cond_true]
      have := kids58 (F := 20000) (n := n) (c := c) (u := u) (K := K) (node := node) (t := t) (below := (levels n f c u).getD j 0) hrt.2.1 (by omega) hm (by omega) f.toNat 0 20000 (by have := hrt.2.1; omega) (by have := hrt.2.1; omega)
      simpa [kids] using this

end Go.Proofs.Ytlokielmpdjedaa.X
end

section
/- Trees' shapes: code and document reckon the same parents, children and paths. -/
namespace Go.Proofs.Ytlokielmpdjedaa.X
open Go Go.Proofs.Ytlokielmpdjedaa.Ev
set_option linter.unusedVariables false

theorem kids_mem0 {f s a q x : Int} : ∀ k : Nat, x ∈ kids f s a q k ↔ ∃ i : Nat, i < k ∧ q * f + i < a ∧ x = s + (q * f + i)
  | 0 => by simp [kids]
  | k + 1 => by
    simp only [kids, List.mem_append, kids_mem0 k]
    constructor
    · rintro (⟨i, h1, h2, h3⟩ | h)
      · exact ⟨i, by omega, h2, h3⟩
      · split at h
        · simp at h
          exact ⟨k, by omega, by assumption, h⟩
        · simp at h
    · rintro ⟨i, h1, h2, h3⟩
      by_cases hi : i = k
      · subst hi
        exact Or.inr (by rw [if_pos h2]; simp [h3])
      · exact Or.inl ⟨i, by omega, h2, h3⟩

theorem kids_mem {f s a q x : Int} (hf : 2 ≤ f ∧ f ≤ 4) (hq : 0 ≤ q) : x ∈ kids f s a q f.toNat ↔ s ≤ x ∧ x < s + a ∧ (x - s) / f = q := by
  rw [kids_mem0]
  have : f = 2 ∨ f = 3 ∨ f = 4 := by omega
  constructor
  · rintro ⟨i, h1, h2, h3⟩
    rcases this with rfl | rfl | rfl <;> simp at h1 <;> omega
  · rintro ⟨h1, h2, h3⟩
    refine ⟨((x - s) - q * f).toNat, ?_⟩
    rcases this with rfl | rfl | rfl <;> (simp only [Int.reduceToNat]; omega)

theorem kids_nodup {f s a q : Int} : ∀ k : Nat, (kids f s a q k).Pairwise (· < ·)
  | 0 => by simp [kids]
  | k + 1 => by
    simp only [kids]
    rw [List.pairwise_append]
    refine ⟨kids_nodup k, by split <;> simp, fun x hx y hy => ?_⟩
    obtain ⟨i, h1, h2, h3⟩ := (kids_mem0 k).1 hx
    split at hy
    · simp at hy; omega
    · simp at hy

def pos (L : List Int) : Prop := ∀ y ∈ L, 1 ≤ y ∧ y ≤ 128

theorem pos_tl {a : Int} {r : List Int} (h : pos (a :: r)) : (1 ≤ a ∧ a ≤ 128) ∧ pos r := ⟨h a (by simp), fun y hy => h y (by simp [hy])⟩

theorem sum_nn {L : List Int} (h : pos L) : 0 ≤ sumI L := by have := (sumI_ok L h).1; omega

theorem par_lt {f x : Int} : ∀ (L : List Int) (s : Int), pos L → x < s → par f x s L = -1
  | [], s, h, hx => rfl
  | [a], s, h, hx => rfl
  | a :: b :: r, s, h, hx => by
    have ha := (pos_tl h).1
    simp only [par]
    rw [if_neg (by omega)]
    exact par_lt (b :: r) _ (pos_tl h).2 (by omega)

theorem div_up {f a b y : Int} (hf : 2 ≤ f ∧ f ≤ 4) (hb : b = (a + f - 1) / f) (hy : 0 ≤ y ∧ y < a) : 0 ≤ y / f ∧ y / f < b := by
  have : f = 2 ∨ f = 3 ∨ f = 4 := by omega
  rcases this with rfl | rfl | rfl <;> omega

theorem par_bd {f x : Int} (hf : 2 ≤ f ∧ f ≤ 4) : ∀ (r : List Int) (a s : Int), pos (a :: r) → chain f (a :: r) → par f x s (a :: r) = -1 ∨ (s ≤ x ∧ x < par f x s (a :: r) ∧ s + a ≤ par f x s (a :: r) ∧ par f x s (a :: r) < s + sumI (a :: r))
  | [], a, s, h, hc => Or.inl rfl
  | b :: r, a, s, h, hc => by
    have ha := (pos_tl h).1
    have hb := (pos_tl (pos_tl h).2).1
    have hs := sum_nn (pos_tl (pos_tl h).2).2
    obtain ⟨h1, h2, h3⟩ := hc
    simp only [par]
    split
    · rename_i hx
      have := div_up (y := x - s) hf h2 (by omega)
      simp only [sumI]
      exact Or.inr (by omega)
    · rcases par_bd (x := x) hf r b (s + a) (pos_tl h).2 h3 with h4 | h4
      · exact Or.inl h4
      · refine Or.inr ?_
        simp only [sumI] at h4 ⊢
        omega

theorem mem_chl {f x k : Int} (hf : 2 ≤ f ∧ f ≤ 4) : ∀ (r : List Int) (a s : Int), pos (a :: r) → chain f (a :: r) → 0 ≤ s → 0 ≤ k → (x ∈ chl f k s (a :: r) ↔ par f x s (a :: r) = k)
  | [], a, s, h, hc, hs, hk => by simp [chl, par]; omega
  | b :: r, a, s, h, hc, hs, hk => by
    have ha := (pos_tl h).1
    have hb := (pos_tl (pos_tl h).2).1
    obtain ⟨h1, h2, h3⟩ := hc
    have hbd := par_bd (x := x) hf r b (s + a) (pos_tl h).2 h3
    have ih := mem_chl (x := x) (k := k) hf r b (s + a) (pos_tl h).2 h3 (by omega) hk
    simp only [par, chl]
    by_cases hq : s + a ≤ k ∧ k < s + a + b
    · rw [if_pos hq, kids_mem hf (by omega)]
      by_cases hx : s ≤ x ∧ x < s + a
      · rw [if_pos hx]; omega
      · rw [if_neg hx]; omega
    · rw [if_neg hq, ih]
      by_cases hx : s ≤ x ∧ x < s + a
      · rw [if_pos hx]
        have := div_up (y := x - s) hf h2 (by omega)
        have h0 := par_lt (f := f) (x := x) (b :: r) (s + a) (pos_tl h).2 (by omega)
        rw [h0]; omega
      · rw [if_neg hx]

theorem lvl_lt {x : Int} : ∀ (L : List Int) (s : Int) (i : Nat), pos L → x < s → lvl x s i L = none
  | [], _, _, _, _ => rfl
  | a :: r, s, i, h, hx => by
    have ha := (pos_tl h).1
    simp only [lvl]
    rw [if_neg (by omega)]
    exact lvl_lt r _ _ (pos_tl h).2 (by omega)

theorem chl_lvl {f x : Int} (L : List Int) : ∀ (r : List Int) (a s : Int) (i : Nat), L.drop i = a :: r →
    chl f x s (a :: r) = match lvl x (s + a) (i + 1) r with | some (j, t) => kids f (t - L.getD (j - 1) 0) (L.getD (j - 1) 0) (x - t) f.toNat | none => []
  | [], a, s, i, h => rfl
  | b :: r, a, s, i, h => by
    obtain ⟨h1, h2, h3⟩ := at_drop h
    have h4 : L.getD i 0 = a := by simpa using h2
    simp only [chl, lvl]
    by_cases hq : s + a ≤ x ∧ x < s + a + b
    · rw [if_pos hq, if_pos hq]
      simp only [Nat.add_sub_cancel, h4]
      rw [show s + a - a = s by omega]
    · rw [if_neg hq, if_neg hq]
      exact chl_lvl L r b (s + a) (i + 1) h3

theorem chs_chl {f x : Int} : ∀ L : List Int, pos L → chs f x L = chl f x 0 L
  | [], h => rfl
  | a :: r, h => by
    rw [chl_lvl (a :: r) r a 0 0 rfl]
    unfold chs
    simp only [lvl]
    by_cases hq : (0 : Int) ≤ x ∧ x < 0 + a
    · rw [if_pos hq, lvl_lt r _ _ (pos_tl h).2 (by omega)]
    · rw [if_neg hq]
      cases e : lvl x (0 + a) (0 + 1) r with
      | none => rfl
      | some v =>
        obtain ⟨j, t⟩ := v
        obtain ⟨p, a', q, e1, e2, e3, e4, e5⟩ := lvl_spec _ _ _ _ _ e
        cases j with
        | zero => omega
        | succ j => simp

theorem chs59l {β : Type} {x n f c u : Int} {K : List Int → Option β} (hf : 2 ≤ f ∧ f ≤ 4) {L : List Int} (hL : pos L) (hl : L.length ≤ 128) : ∀ (r : List Int) (i k : Nat) (s : Int), L.drop i = r → i ≤ L.length → r.length < k → 0 ≤ s → s ≤ 128 * i →
    f59_1_l4 20000 x n f c u L K (K []) k s (i : Int) = K (chl f x s r)
  | [], i, k, s, hd, hi, hk, h0, h1 => by
    cases k with
    | zero => omega
    | succ k =>
      have : i = L.length := by
        have := congrArg List.length hd
        simp at this; omega
      subst this
      simp only [f59_1_l4]
      rw [w64 (by omega) (by omega), cf (by omega)]
      rfl
  | [a], i, k, s, hd, hi, hk, h0, h1 => by
    cases k with
    | zero => omega
    | succ k =>
      have : i + 1 = L.length := by
        have := congrArg List.length hd
        simp at this; omega
      simp only [f59_1_l4]
      rw [w64 (by omega) (by omega), cf (by omega)]
      rfl
  | a :: b :: r, i, k, s, hd, hi, hk, h0, h1 => by
    cases k with
    | zero => omega
    | succ k =>
      obtain ⟨d1, d2, d3⟩ := at_drop hd
      obtain ⟨d4, d5, d6⟩ := at_drop d3
      have ha : 1 ≤ a ∧ a ≤ 128 := hL a (by
        have : a ∈ L.drop i := by rw [hd]; simp
        exact List.mem_of_mem_drop this)
      have hb : 1 ≤ b ∧ b ≤ 128 := hL b (by
        have : b ∈ L.drop (i + 1) := by rw [d3]; simp
        exact List.mem_of_mem_drop this)
      have e1 : IntKind.i64.wrap ((i : Int) + 1) = ((i + 1 : Nat) : Int) := by rw [w64 (by omega) (by omega)]; omega
      have ih := chs59l (x := x) (n := n) (c := c) (u := u) (K := K) hf hL hl (b :: r) (i + 1) k (s + a) d3 (by omega) (by simpa using hk) (by omega) (by omega)
      simp only [f59_1_l4]
      rw [e1, ct (by omega), ct (by omega), ct (by omega), d2, w64 (x := s + a) (by omega) (by omega)]
      simp only [chl]
      by_cases hq : x ≥ s + a
      · rw [ct hq, ct (by omega), ct (by omega), d5, w64 (x := s + a + b) (by omega) (by omega)]
        by_cases hq2 : x < s + a + b
        · rw [ct hq2, if_pos (by omega)]
          have := kids59 (F := 20000) (n := n) (c := c) (u := u) (K := K) (node := x) (s := s) (above := s + a) (a := a) (l := L) (j := i) hf (by omega) d1 d2 ha rfl (by omega) f.toNat 0 20000 (by omega) (by omega)
          simpa [kids] using this
        · rw [cf hq2, if_neg (by omega)]
          exact ih
      · rw [cf hq, if_neg (by omega)]
        exact ih

theorem lev_pos (n f c u : Int) : pos (levels n f c u) := (levels_ok n f c u).2

theorem levels_not {n f c u : Int} (h : ¬ rt n f c u) : levels n f c u = [] := by simp [levels, h]
theorem levels_cons {n f c u : Int} (h : rt n f c u) : ∃ r, levels n f c u = n :: r := ⟨_, by simp [levels, h]; rfl⟩

theorem lev_chain {n f c u : Int} : rt n f c u → chain f (levels n f c u) := fun h => by
  simp only [levels, h, if_true]
  have h1 := h.1
  exact chain_lv h.2.1 20000 n h1.1 h1.2 (by omega)

theorem nil59 {β : Type} {x n f c u : Int} {K : List Int → Option β} : ∀ k : Nat, 0 < k → f59_1_l4 20000 x n f c u [] K (K []) k 0 0 = K []
  | 0, h => by omega
  | k + 1, _ => by
    simp only [f59_1_l4]
    rw [w64 (by omega) (by omega), cf (by simp)]

theorem chs59 {β : Type} {n f c u x : Int} {K : List Int → Option β} : f59_1 20000 n f c u x K = K (chs f x (levels n f c u)) := by
  rw [chs_chl _ (lev_pos n f c u)]
  simp only [f59_1, levels49]
  by_cases h : rt n f c u
  · have := chs59l (x := x) (n := n) (c := c) (u := u) (K := K) h.2.1 (lev_pos n f c u) (levels_ok n f c u).1 _ 0 20000 0 rfl (by omega) (by have := (levels_ok n f c u).1; simp; omega) (by omega) (by omega)
    simpa using this
  · rw [levels_not h]
    exact nil59 20000 (by omega)

/-- The parent, by the levels. -/
def prn (n f c u x : Int) : Int := par f x 0 (levels n f c u)

theorem par_lvl {f x : Int} (hf : 2 ≤ f ∧ f ≤ 4) : ∀ (r : List Int) (a s : Int) (i : Nat), pos (a :: r) → chain f (a :: r) →
    par f x s (a :: r) = match lvl x s i (a :: r) with | some (j, t) => if x = s + sumI (a :: r) - 1 then -1 else t + (a :: r).getD (j - i) 0 + (x - t) / f | none => -1
  | [], a, s, i, h, hc => by
    have hc : a = 1 := hc
    subst hc
    have e1 : sumI [1] = 1 := rfl
    simp only [par, lvl]
    by_cases hx : s ≤ x ∧ x < s + 1
    · rw [if_pos hx]
      simp only
      rw [if_pos (by omega)]
    · rw [if_neg hx]
  | b :: r, a, s, i, h, hc => by
    have ha := (pos_tl h).1
    have hb := (pos_tl (pos_tl h).2).1
    have hs := sum_nn (pos_tl (pos_tl h).2).2
    obtain ⟨h1, h2, h3⟩ := hc
    rw [par, lvl]
    by_cases hx : s ≤ x ∧ x < s + a
    · have e1 : sumI (a :: b :: r) = a + (b + sumI r) := rfl
      rw [if_pos hx, if_pos hx]
      simp only
      rw [if_neg (by omega)]
      simp
    · rw [if_neg hx, if_neg hx, par_lvl hf r b (s + a) (i + 1) (pos_tl h).2 h3]
      cases e : lvl x (s + a) (i + 1) (b :: r) with
      | none => rfl
      | some v =>
        obtain ⟨j, t⟩ := v
        obtain ⟨p, a', q, e1, e2, e3, e4, e5⟩ := lvl_spec _ _ _ _ _ e
        simp only
        have g1 : s + sumI (a :: b :: r) - 1 = s + a + sumI (b :: r) - 1 := by simp only [sumI]; omega
        have g2 : (a :: b :: r).getD (j - i) 0 = (b :: r).getD (j - (i + 1)) 0 := by
          rw [show j - i = (j - (i + 1)) + 1 by omega]
          simp
        rw [g1, g2]

theorem par56 {β : Type} {n f c u x : Int} {K : Int → Option β} : f56_1 20000 n f c u x K = K (prn n f c u x) := by
  obtain ⟨n0, n1, n2, n3⟩ := nodes_ok n f c u
  simp only [f56_1, f54_1, level88', levels48, nodes50, prn]
  by_cases h : rt n f c u
  · have hc := lev_chain h
    have hp := lev_pos n f c u
    have hlen := (levels_ok n f c u).1
    obtain ⟨r, hr⟩ := levels_cons h
    have hf := h.2.1
    have hnn := n2 h
    have hsum : nodes n f c u = sumI (n :: r) := by unfold nodes; rw [hr]
    rw [hr] at hc hp hlen ⊢
    rw [par_lvl hf r n 0 0 hp hc]
    cases e : lvl x 0 0 (n :: r) with
    | none => rfl
    | some v =>
      obtain ⟨j, t⟩ := v
      obtain ⟨p, a', q, e1, e2, e3, e4, e5⟩ := lvl_spec _ _ _ _ _ e
      simp only [Bool.not_true, cond_false]
      have hroot : (if IntKind.i64.wrap (nodes n f c u - 1) > 0 then IntKind.i64.wrap (nodes n f c u - 1) else 0) = nodes n f c u - 1 := by
        rw [w64 (by omega) (by omega)]; split <;> omega
      rw [hroot, hsum]
      by_cases hx : x = 0 + sumI (n :: r) - 1
      · have hx' : (x == sumI (n :: r) - 1) = true := by simp; omega
        rw [hx', cond_true, if_pos hx]
      · have hx' : (x == sumI (n :: r) - 1) = false := by simp; omega
        have ha := hp a' (by rw [e1]; simp)
        have hlen2 : (n :: r).length = p.length + 1 + q.length := by rw [e1]; simp; omega
        have hp2 := sumI_ok p fun y hy => hp y (by rw [e1]; simp [hy])
        have hg : (n :: r).getD (0 + ((j : Nat) : Int).toNat) 0 = a' := by
          have : j = p.length := by omega
          rw [this, e1]; simp
        have hg2 : (n :: r).getD (j - 0) 0 = a' := by rw [← hg]; simp
        have hd := div_up (f := f) (a := 128) (b := (128 + f - 1) / f) (y := x - t) hf rfl (by omega)
        have hd2 : (128 + f - 1) / f ≤ 128 := by
          have : f = 2 ∨ f = 3 ∨ f = 4 := by omega
          rcases this with rfl | rfl | rfl <;> omega
        rw [hx', cond_false, if_neg hx, cf (by omega), ct (by omega), ct (by omega), hg, hg2, w64 (x := t + a') (by omega) (by omega), w64 (x := x - t) (by omega) (by omega),
          Int.tdiv_eq_ediv_of_nonneg (by omega), w64 (x := (x - t) / f) (by omega) (by omega), w64 (by omega) (by omega)]
  · rw [levels_not h]
    rfl

theorem mem57 {β : Type} {x k' n f c u : Int} {K0 K1 : Option β} {l : List Int} (hl : l.length ≤ 128) {F : Nat} {N : Int} : ∀ (r : List Int) (i k : Nat), l.drop i = r → i ≤ l.length → r.length < k →
    f57_1_l7 F x N k' n f c u l K0 K1 k (i : Int) = if x ∈ r then K0 else K1
  | [], i, k, hd, hi, hk => by
    cases k with
    | zero => omega
    | succ k =>
      have : i = l.length := by
        have := congrArg List.length hd
        simp at this; omega
      subst this
      simp only [f57_1_l7]
      rw [cf (by omega)]
      simp
  | y :: r, i, k, hd, hi, hk => by
    cases k with
    | zero => omega
    | succ k =>
      obtain ⟨d1, d2, d3⟩ := at_drop hd
      simp only [f57_1_l7]
      rw [ct (by omega), ct (by omega), ct (by omega), d2]
      by_cases hxy : y = x
      · subst hxy; simp
      · have : (y == x) = false := by simpa using hxy
        rw [this, cond_false, w64 (by omega) (by omega), show ((i : Int) + 1) = ((i + 1 : Nat) : Int) by omega, mem57 hl r (i + 1) k d3 (by omega) (by simpa using hk)]
        have : x ∈ y :: r ↔ x ∈ r := by simp [Ne.symm hxy]
        simp only [this]

theorem chs_len (f x : Int) (L : List Int) : (chs f x L).length ≤ f.toNat := by
  unfold chs
  split
  · exact kids_len _ _ _ _ _
  · simp

theorem chs_mem {n f c u x k : Int} (h : rt n f c u) (hk : 0 ≤ k) : x ∈ chs f k (levels n f c u) ↔ prn n f c u x = k := by
  obtain ⟨r, hr⟩ := levels_cons h
  have hc := lev_chain h
  have hp := lev_pos n f c u
  rw [chs_chl _ hp, prn]
  rw [hr] at hc hp ⊢
  exact mem_chl h.2.1 r n 0 hp hc (by omega) hk

theorem prn_bd {n f c u x : Int} (h : rt n f c u) : prn n f c u x = -1 ∨ (0 ≤ x ∧ x < prn n f c u x ∧ n ≤ prn n f c u x ∧ prn n f c u x < nodes n f c u) := by
  obtain ⟨r, hr⟩ := levels_cons h
  have hc := lev_chain h
  have hp := lev_pos n f c u
  unfold nodes prn
  rw [hr] at hc hp ⊢
  have := par_bd (x := x) h.2.1 r n 0 hp hc
  omega

theorem prn57 {β : Type} {n f c u x : Int} {K : Int → Option β} (h : rt n f c u) : ∀ (m i k : Nat), (i : Int) + m = nodes n f c u → m < k →
    f57_1_l3 20000 x (nodes n f c u) n f c u (fun v _ => K v) (K (-1)) k (i : Int) = if (i : Int) ≤ prn n f c u x then K (prn n f c u x) else K (-1)
  | 0, i, k, hi, hk => by
    cases k with
    | zero => omega
    | succ k =>
      have := prn_bd (x := x) h
      simp only [f57_1_l3]
      rw [cf (by omega), if_neg (by omega)]
  | m + 1, i, k, hi, hk => by
    cases k with
    | zero => omega
    | succ k =>
      obtain ⟨n0, n1, n2, n3⟩ := nodes_ok n f c u
      have hl := chs_len f (i : Int) (levels n f c u)
      have hf := h.2.1
      simp only [f57_1_l3]
      rw [ct (by omega), chs59, show ((0 : Int)) = ((0 : Nat) : Int) by rfl, mem57 (by omega) _ 0 20000 rfl (by omega) (by simp; omega)]
      simp only [List.drop_zero, chs_mem h (Int.natCast_nonneg i)]
      rw [w64 (by omega) (by omega), show ((i : Int) + 1) = ((i + 1 : Nat) : Int) by omega, prn57 h m (i + 1) k (by omega) (by omega)]
      by_cases hp : prn n f c u x = (i : Int)
      · rw [if_pos hp, if_pos (by omega), hp]
      · rw [if_neg hp]
        by_cases hq : (i : Int) ≤ prn n f c u x
        · rw [if_pos (by omega), if_pos hq]
        · rw [if_neg (by omega), if_neg hq]

theorem nil57 {β : Type} {x n f c u : Int} {K : Int → Option β} : ∀ k : Nat, 0 < k → f57_1_l3 20000 x 0 n f c u (fun v _ => K v) (K (-1)) k 0 = K (-1)
  | 0, h => by omega
  | k + 1, _ => by
    simp only [f57_1_l3]
    rw [cf (by omega)]

theorem par57 {β : Type} {n f c u x : Int} {K : Int → Option β} : f57_1 20000 n f c u x K = K (prn n f c u x) := by
  obtain ⟨n0, n1, n2, n3⟩ := nodes_ok n f c u
  simp only [f57_1, nodes51]
  by_cases h : rt n f c u
  · have := prn57 (x := x) (K := K) h (nodes n f c u).toNat 0 20000 (by omega) (by omega)
    rw [show ((0 : Int)) = ((0 : Nat) : Int) by rfl, this]
    split
    · rfl
    · have := prn_bd (x := x) h
      rw [show prn n f c u x = -1 by omega]
  · rw [n3 h, prn, levels_not h]
    exact nil57 20000 (by omega)

end Go.Proofs.Ytlokielmpdjedaa.X
end

section
/- Trees' shapes: paths; lists of numbers compared; the shape that is known. -/
namespace Go.Proofs.Ytlokielmpdjedaa.X
open Go Go.Proofs.Ytlokielmpdjedaa.Ev
set_option linter.unusedVariables false

/-- The path from a node up. -/
def pth (f : Int) : Int → Int → List Int → List Int
  | x, s, a :: r => if s ≤ x ∧ x < s + a then x :: pth f (s + a + (x - s) / f) (s + a) r else pth f x (s + a) r
  | _, _, [] => []

theorem pth_lt {f x : Int} : ∀ (L : List Int) (s : Int), pos L → x < s → pth f x s L = []
  | [], s, h, hx => rfl
  | a :: r, s, h, hx => by
    have ha := (pos_tl h).1
    simp only [pth]
    rw [if_neg (by omega)]
    exact pth_lt r _ (pos_tl h).2 (by omega)

theorem pth_step {f x : Int} (hf : 2 ≤ f ∧ f ≤ 4) : ∀ (r : List Int) (a s : Int), pos (a :: r) → chain f (a :: r) → 0 ≤ s → s ≤ x → x < s + sumI (a :: r) → pth f x s (a :: r) = x :: pth f (par f x s (a :: r)) s (a :: r)
  | [], a, s, h, hc, hs, h0, h1 => by
    have hc : a = 1 := hc
    subst hc
    have e1 : sumI [1] = 1 := rfl
    rw [show par f x s [1] = -1 from rfl, pth_lt (x := -1) [1] s h (by omega), pth, if_pos (by omega)]
    rfl
  | b :: r, a, s, h, hc, hs, h0, h1 => by
    have ha := (pos_tl h).1
    have hb := (pos_tl (pos_tl h).2).1
    have hn := sum_nn (pos_tl (pos_tl h).2).2
    have e1 : sumI (a :: b :: r) = a + sumI (b :: r) := rfl
    obtain ⟨g1, g2, g3⟩ := hc
    rw [pth, par]
    by_cases hx : s ≤ x ∧ x < s + a
    · have hd := div_up (y := x - s) hf g2 (by omega)
      rw [if_pos hx, if_pos hx, pth.eq_1 f (s + a + (x - s) / f) s a (b :: r), if_neg (by omega)]
    · have hbd := par_bd (x := x) hf r b (s + a) (pos_tl h).2 g3
      rw [if_neg hx, if_neg hx, pth_step hf r b (s + a) (pos_tl h).2 g3 (by omega) (by omega) (by omega), pth.eq_1 f (par f x (s + a) (b :: r)) s a (b :: r), if_neg (by omega)]

/-- A leaf's path goes through every level, up to the root. -/
theorem pth_leaf {f : Int} (hf : 2 ≤ f ∧ f ≤ 4) : ∀ (r : List Int) (x a s : Int), pos (a :: r) → chain f (a :: r) → s ≤ x → x < s + a →
    (pth f x s (a :: r)).length = r.length + 1 ∧ (pth f x s (a :: r)).getD 0 0 = x ∧ (pth f x s (a :: r)).getD r.length 0 = s + sumI (a :: r) - 1
  | [], x, a, s, h, hc, h0, h1 => by
    have hc : a = 1 := hc
    subst hc
    have e1 : sumI [1] = 1 := rfl
    simp only [pth]
    rw [if_pos (by omega)]
    refine ⟨rfl, rfl, ?_⟩
    show x = _
    omega
  | b :: r, x, a, s, h, hc, h0, h1 => by
    obtain ⟨g1, g2, g3⟩ := hc
    have hd := div_up (y := x - s) hf g2 (by omega)
    have e1 : sumI (a :: b :: r) = a + sumI (b :: r) := rfl
    obtain ⟨q1, q2, q3⟩ := pth_leaf hf r (s + a + (x - s) / f) b (s + a) (pos_tl h).2 g3 (by omega) (by omega)
    rw [pth, if_pos ⟨h0, h1⟩]
    refine ⟨by simp [q1], rfl, ?_⟩
    simp only [List.length_cons, List.getD_cons_succ]
    rw [q3]; omega

def path (n f c u x : Int) : List Int := if 0 ≤ x ∧ x < n then pth f x 0 (levels n f c u) else []

theorem pth_prn {n f c u x : Int} (h : rt n f c u) (h0 : 0 ≤ x) (h1 : x < nodes n f c u) : pth f x 0 (levels n f c u) = x :: pth f (prn n f c u x) 0 (levels n f c u) := by
  obtain ⟨r, hr⟩ := levels_cons h
  have hc := lev_chain h
  have hp := lev_pos n f c u
  unfold nodes at h1
  unfold prn
  rw [hr] at hc hp h1 ⊢
  exact pth_step h.2.1 r n 0 hp hc (by omega) h0 (by omega)

theorem pth_m1 {n f c u : Int} : pth f (-1) 0 (levels n f c u) = [] := pth_lt _ _ (lev_pos n f c u) (by omega)

theorem path60l {β : Type} {n f c u : Int} (h : rt n f c u) {K : List Int → Option β} : ∀ (k : Nat) (x : Int) (acc : List Int), (x = -1 ∨ (0 ≤ x ∧ x < nodes n f c u)) → nodes n f c u - x < k → (acc.length : Int) + (nodes n f c u - x) ≤ 40000 →
    f60_1_l5 20000 n f c u K k x acc = K (acc ++ pth f x 0 (levels n f c u))
  | 0, x, acc, hx, hk, ha => by have := nodes_ok n f c u; omega
  | k + 1, x, acc, hx, hk, ha => by
    have hn := nodes_ok n f c u
    simp only [f60_1_l5]
    rcases hx with rfl | hx
    · rw [pth_m1]
      simp
    · have e : (x != -1) = true := by simp; omega
      have hb := prn_bd (x := x) h
      rw [e, cond_true, ct (by omega), par56, pth_prn h hx.1 hx.2]
      rcases hb with hb | hb
      · rw [hb]
        cases k with
        | zero => omega
        | succ k =>
          have e : ((-1 : Int) != -1) = false := rfl
          simp only [f60_1_l5]
          rw [e, cond_false, pth_m1]
      · rw [path60l h k _ _ (Or.inr (by omega)) (by omega) (by simp; omega)]
        simp

theorem path61l {β : Type} {n f c u : Int} (h : rt n f c u) {K : List Int → Option β} : ∀ (k : Nat) (x : Int) (acc : List Int), (x = -1 ∨ (0 ≤ x ∧ x < nodes n f c u)) → nodes n f c u - x < k → (acc.length : Int) + (nodes n f c u - x) ≤ 40000 →
    f61_1_l5 20000 n f c u K k x acc = K (acc ++ pth f x 0 (levels n f c u))
  | 0, x, acc, hx, hk, ha => by have := nodes_ok n f c u; omega
  | k + 1, x, acc, hx, hk, ha => by
    have hn := nodes_ok n f c u
    simp only [f61_1_l5]
    rcases hx with rfl | hx
    · rw [pth_m1]
      simp
    · have hb := prn_bd (x := x) h
      rw [ct (by omega), ct (by omega), par57, pth_prn h hx.1 hx.2]
      rcases hb with hb | hb
      · rw [hb]
        cases k with
        | zero => omega
        | succ k =>
          simp only [f61_1_l5]
          rw [cf (by omega), pth_m1]
      · rw [path61l h k _ _ (Or.inr (by omega)) (by omega) (by simp; omega)]
        simp

theorem n_le {n f c u : Int} (h : rt n f c u) : n ≤ nodes n f c u := by
  obtain ⟨r, hr⟩ := levels_cons h
  have hp := lev_pos n f c u
  unfold nodes
  rw [hr] at hp ⊢
  have := sum_nn (pos_tl hp).2
  simp only [sumI]; omega

theorem path60 {β : Type} {n f c u x : Int} {K : List Int → Option β} : f60_1 20000 n f c u x K = K (path n f c u x) := by
  have hn := nodes_ok n f c u
  simp only [f60_1, right46, within87, path]
  by_cases h : rt n f c u
  · have hn2 := n_le h
    have h1 := h.1
    simp only [h, decide_true, Bool.not_true, cond_false]
    rw [w64 (by omega) (by omega)]
    by_cases hx : 0 ≤ x ∧ x < n
    · have e : decide (x ≥ 0 ∧ x ≤ n - 1) = true := by simp; omega
      rw [e, if_pos hx]
      simp only [Bool.not_true, cond_false]
      rw [path60l h 20000 x [] (Or.inr (by omega)) (by omega) (by simp; omega)]
      rfl
    · have e : decide (x ≥ 0 ∧ x ≤ n - 1) = false := by simp; omega
      rw [e, if_neg hx]
      rfl
  · rw [levels_not h]
    simp only [h, decide_false, Bool.not_false, cond_true, pth]
    split <;> rfl

theorem path61 {β : Type} {n f c u x : Int} {K : List Int → Option β} : f61_1 20000 n f c u x K = K (path n f c u x) := by
  have hn := nodes_ok n f c u
  simp only [f61_1, right47, path]
  by_cases h : rt n f c u
  · have hn2 := n_le h
    have h1 := h.1
    simp only [h, decide_true, Bool.not_true, cond_false]
    by_cases hx : 0 ≤ x ∧ x < n
    · rw [if_pos hx, cf (by omega), cf (by omega), path61l h 20000 x [] (Or.inr (by omega)) (by omega) (by simp; omega)]
      rfl
    · rw [if_neg hx]
      by_cases h2 : x < 0
      · rw [ct h2]
      · rw [cf h2, ct (by omega)]
  · rw [levels_not h]
    simp only [h, decide_false, Bool.not_false, cond_true, pth]
    split <;> rfl

theorem pth_len {f : Int} : ∀ (L : List Int) (x s : Int), (pth f x s L).length ≤ L.length
  | [], x, s => by simp [pth]
  | a :: r, x, s => by
    simp only [pth]
    split
    · have := pth_len (f := f) r (s + a + (x - s) / f) (s + a)
      simp; omega
    · have := pth_len (f := f) r x (s + a)
      simp; omega

theorem path_len (n f c u x : Int) : (path n f c u x).length ≤ 128 := by
  have := (levels_ok n f c u).1
  unfold path
  split
  · have := pth_len (f := f) (levels n f c u) x 0
    omega
  · simp

theorem ints21l {β : Type} {F : Nat} {K0 K1 : Option β} {l : List Int} (hl : l.length ≤ 20000) : ∀ (r : List Int) (i k : Nat), l.drop i = r → i ≤ l.length → r.length < k → f21_1_l4 F l l K0 K1 k (i : Int) = K1
  | [], i, k, hd, hi, hk => by
    cases k with
    | zero => omega
    | succ k =>
      have : i = l.length := by
        have := congrArg List.length hd
        simp at this; omega
      subst this
      simp only [f21_1_l4]
      rw [cf (by omega)]
  | y :: r, i, k, hd, hi, hk => by
    cases k with
    | zero => omega
    | succ k =>
      obtain ⟨d1, d2, d3⟩ := at_drop hd
      have e : (y != y) = false := by simp
      simp only [f21_1_l4]
      rw [ct (by omega), ct (by omega), ct (by omega), ct (by omega), ct (by omega), d2, e, cond_false, w64 (by omega) (by omega), show ((i : Int) + 1) = ((i + 1 : Nat) : Int) by omega, ints21l hl r (i + 1) k d3 (by omega) (by simpa using hk)]

theorem ints21 {β : Type} {l : List Int} {K : Bool → Option β} (hl : l.length < 20000) : f21_1 20000 l l K = K true := by
  have := ints21l (F := 20000) (K0 := K false) (K1 := K true) (l := l) (by omega) l 0 20000 rfl (by omega) (by omega)
  simp only [f21_1, bne_self_eq_false, cond_false]
  exact this

def hgt (n f c u : Int) : Int := if rt n f c u then ((levels n f c u).length : Int) - 1 else 0

theorem hgt52 {β : Type} {n f c u : Int} {K : Int → Option β} : f52_1 20000 n f c u K = K (hgt n f c u) := by
  have hl := (levels_ok n f c u).1
  simp only [f52_1, levels48, hgt]
  rw [w64 (by omega) (by omega)]
  by_cases h : rt n f c u
  · obtain ⟨r, hr⟩ := levels_cons h
    rw [if_pos h, hr]
    simp only [List.length_cons]
    congr 1; split <;> omega
  · rw [if_neg h, levels_not h]; rfl

theorem hgt53 {β : Type} {n f c u : Int} {K : Int → Option β} : f53_1 20000 n f c u K = K (hgt n f c u) := by
  have hl := (levels_ok n f c u).1
  simp only [f53_1, levels49, hgt]
  rw [w64 (by omega) (by omega)]
  by_cases h : rt n f c u
  · obtain ⟨r, hr⟩ := levels_cons h
    rw [if_pos h, hr]
    simp only [List.length_cons]
    congr 1; split <;> omega
  · rw [if_neg h, levels_not h]; rfl

def root (n f c u : Int) : Int := if rt n f c u then nodes n f c u - 1 else 0

theorem root54 {β : Type} {n f c u : Int} {K : Int → Option β} : f54_1 20000 n f c u K = K (root n f c u) := by
  obtain ⟨n0, n1, n2, n3⟩ := nodes_ok n f c u
  simp only [f54_1, nodes50, root]
  rw [w64 (by omega) (by omega)]
  by_cases h : rt n f c u
  · have := n2 h
    rw [if_pos h]; congr 1; split <;> omega
  · rw [if_neg h, n3 h]; rfl

theorem root55 {β : Type} {n f c u : Int} {K : Int → Option β} : f55_1 20000 n f c u K = K (root n f c u) := by
  obtain ⟨n0, n1, n2, n3⟩ := nodes_ok n f c u
  simp only [f55_1, nodes51, root]
  rw [w64 (by omega) (by omega)]
  by_cases h : rt n f c u
  · have := n2 h
    rw [if_pos h]; congr 1; split <;> omega
  · rw [if_neg h, n3 h]; rfl

theorem known62 {β : Type} {K : Bool → Option β} : f62_1 20000 K = K true := by kernel_rfl

end Go.Proofs.Ytlokielmpdjedaa.X
end

section
namespace Go.Proofs.Ytlokielmpdjedaa.X
open Go Go.Proofs.Ytlokielmpdjedaa.Ev Go.Proofs
set_option linter.unusedVariables false
/-! pentimentolaw07.GeomFamily -/
noncomputable def f9_1_l12 {β : Type} (F : Nat) (v13 : Int) (v14 : Int) (v16 : Int) (v17 : Int) (v18 : Int) (v19 : Int) (v21 : List Int) (K0 : List Bool → Option β) (K1 : List Bool → Option β) : Nat → Int → List Bool → Option β
  | 0, _, _ => none
  | k + 1, v15, v20 => cond (decide (v15 < ((v21.length : Nat) : Int))) (cond (decide ((0 : Int) ≤ v15 ∧ v15 < ((v21.length : Nat) : Int))) (cond (decide (0 + v15.toNat < v21.length)) (cond (decide (v21.getD (0 + v15.toNat) 0 < 0)) (K0 v20) (cond (decide (v21.getD (0 + v15.toNat) 0 ≥ v14)) (K0 v20) (f56_1 F v16 v17 v18 v19 (v21.getD (0 + v15.toNat) 0) (fun x22 => cond (x22 != v14) (K0 v20) (cond (decide ((0 : Int) ≤ v21.getD (0 + v15.toNat) 0 ∧ v21.getD (0 + v15.toNat) 0 < ((v20.length : Nat) : Int))) (cond (decide (0 + ((v21.getD (0 + v15.toNat) 0).toNat) < v20.length)) (cond (v20.getD (0 + ((v21.getD (0 + v15.toNat) 0).toNat)) false) (K0 v20) (cond (decide ((0 : Int) ≤ v21.getD (0 + v15.toNat) 0 ∧ v21.getD (0 + v15.toNat) 0 < ((v20.length : Nat) : Int))) (cond (decide (0 + ((v21.getD (0 + v15.toNat) 0).toNat) < v20.length)) (f9_1_l12 F v13 v14 v16 v17 v18 v19 v21 K0 K1 k (IntKind.i64.wrap (v15 + 1)) (v20.set (0 + ((v21.getD (0 + v15.toNat) 0).toNat)) true)) none) none)) none) none)) ))) none) none) (K1 v20)
noncomputable def f9_1_l6 {β : Type} (F : Nat) (v5 : Int) (v7 : Int) (v8 : Int) (v9 : Int) (v10 : Int) (K0 : List Bool → List Int → Option β) (K1 : List Bool → Option β) : Nat → Int → List Bool → Option β
  | 0, _, _ => none
  | k + 1, v6, v11 => cond (decide (v6 < v5)) (f58_1 F v7 v8 v9 v10 v6 (fun x12 => cond (decide (((x12.length : Nat) : Int) > v8)) (K0 v11 x12) (cond (!((((x12.length : Nat) : Int) == 0) == (decide (v6 < v7)))) (K0 v11 x12) (f9_1_l12 F v5 v6 v7 v8 v9 v10 x12 (fun x23 => K0 x23 x12) (fun x24 => f9_1_l6 F v5 v7 v8 v9 v10 K0 K1 k (IntKind.i64.wrap (v6 + 1)) x24) F 0 v11))) ) (K1 v11)
noncomputable def f9_1_l19 {β : Type} (F : Nat) (v28 : Int) (v30 : Int) (v31 : Int) (v32 : Int) (v33 : Int) (v34 : List Bool) (K0 : Option β) (K1 : Option β) : Nat → Int → Option β
  | 0, _ => none
  | k + 1, v29 => cond (decide (IntKind.i64.wrap (v29 + 1) < v28)) (cond (decide ((0 : Int) ≤ v29 ∧ v29 < ((v34.length : Nat) : Int))) (cond (decide (0 + v29.toNat < v34.length)) (cond (!(v34.getD (0 + v29.toNat) false)) (K0) (f9_1_l19 F v28 v30 v31 v32 v33 v34 K0 K1 k (IntKind.i64.wrap (v29 + 1)))) none) none) (K1)
noncomputable def f9_1_l24 {β : Type} (F : Nat) (v36 : Int) (v37 : Int) (v38 : Int) (v39 : Int) (K0 : List Int → Option β) (K1 : Option β) : Nat → Int → Option β
  | 0, _ => none
  | k + 1, v35 => cond (decide (v35 < v36)) (f60_1 F v36 v37 v38 v39 v35 (fun x40 => f52_1 F v36 v37 v38 v39 (fun x41 => cond (((x40.length : Nat) : Int) != (IntKind.i64.wrap (x41 + 1))) (K0 x40) (cond (decide ((0 : Int) ≤ (0 : Int) ∧ (0 : Int) < ((x40.length : Nat) : Int))) (cond (decide (0 < x40.length)) (cond ((x40.getD 0 0) != v35) (K0 x40) (cond (decide ((0 : Int) ≤ IntKind.i64.wrap (((x40.length : Nat) : Int) - 1) ∧ IntKind.i64.wrap (((x40.length : Nat) : Int) - 1) < ((x40.length : Nat) : Int))) (cond (decide (0 + ((IntKind.i64.wrap (((x40.length : Nat) : Int) - 1)).toNat) < x40.length)) (f54_1 F v36 v37 v38 v39 (fun x42 => cond ((x40.getD (0 + ((IntKind.i64.wrap (((x40.length : Nat) : Int) - 1)).toNat)) 0) != x42) (K0 x40) (f9_1_l24 F v36 v37 v38 v39 K0 K1 k (IntKind.i64.wrap (v35 + 1)))) ) none) none)) none) none)) ) ) (K1)
noncomputable def f9_1 {β : Type} (F : Nat) (a1 : Int) (a2 : Int) (a3 : Int) (a4 : Int) (K0 : Bool → Option β) : Option β := f46_1 F a1 a2 a3 a4 (fun x1 => cond (!x1) (f48_1 F a1 a2 a3 a4 (fun x2 => cond (((x2.length : Nat) : Int) == 0) (f62_1 F  (fun x3 => K0 x3) ) (K0 false)) ) (f50_1 F a1 a2 a3 a4 (fun x4 => cond (decide ((0 : Int) ≤ x4 ∧ x4 ≤ x4 ∧ x4 ≤ 70368744177664 ∧ x4 * 1 ≤ 70368744177664)) (f9_1_l6 F x4 a1 a2 a3 a4 (fun x25 x26 => K0 false) (fun x27 => f9_1_l19 F x4 a1 a2 a3 a4 x27 (K0 false) (f9_1_l24 F a1 a2 a3 a4 (fun x43 => K0 false) (f54_1 F a1 a2 a3 a4 (fun x44 => f56_1 F a1 a2 a3 a4 x44 (fun x45 => cond (x45 == (-1)) (f62_1 F  (fun x46 => K0 x46) ) (K0 false)) ) ) F 0) F 0) F 0 (List.replicate x4.toNat false)) none) )) 
def sh9_1 : Sh := ⟨[.agg [.int .i64, .int .i64, .int .i64, .int .i64]], []⟩
noncomputable def S9_1 (F : Nat) (o : Summ) : Summ := mkS sh9_1 (fun d K => f9_1 F d.1.1.1 d.1.1.2.1 d.1.1.2.2.1 d.1.1.2.2.2.1 (fun (y0 : Bool) => K [.lf (.bool y0)] [])) o
noncomputable def code9 : Code := bodyOf Try.f9
noncomputable def b9_0 : Code := cB (cB (cR (cL (cR (cR (cR (cR (code9))))))))
noncomputable def b9_1 : Code := cB (cB (cR (cR (cR (cB (cL (cR (cB (cB (cR (cL (cR (cR (cR (cR (code9))))))))))))))))
noncomputable def b9_2 : Code := cB (cB (cR (cL (cR (cR (cR (cR (cR (code9)))))))))
noncomputable def b9_3 : Code := cB (cB (cR (cL (cR (cR (cR (cR (cR (cR (code9))))))))))
theorem scopes9 : scopesOf code9 = [] := by kernel_rfl
theorem loops9 : loopsOf code9 = [b9_0, b9_1, b9_2, b9_3] := by kernel_rfl
theorem enter9 : ∀ args w, (callFunc 9 args).run Try.prog w = .ok (.enter 9 args) w := enter_of (fn := Try.f9) (by kernel_rfl) (by kernel_rfl) (by kernel_rfl)
noncomputable def T9_1 (F : Nat) : FuncId → Option Summ := tab [(46, (S46_1 F noS)), (48, (S48_1 F noS)), (50, (S50_1 F noS)), (52, (S52_1 F noS)), (54, (S54_1 F noS)), (56, (S56_1 F noS)), (58, (S58_1 F noS)), (60, (S60_1 F noS)), (62, (S62_1 F noS))]
def sh9_1_l12 : Sh := ⟨[.lf (.ptr 0 0), .lf (.int .i64), .lf (.full 1), .lf (.int .i64), .lf (.full 2), .lf (.int .i64)], [some ⟨some false, [.int .i64, .int .i64, .int .i64, .int .i64]⟩, some ⟨some false, [.seq .bool 0]⟩, some ⟨some false, [.seq (.int .i64) 0]⟩]⟩
noncomputable def G9_1_12 (F k : Nat) : LoopS := mkG sh9_1_l12 [1, 3, 4, 5, 6, 7] (outT [(.exit 2, [1, 3, 4, 5]), (.ret, [2])]) (fun d K => f9_1_l12 F d.1.2.1 d.1.2.2.2.1 d.2.1.2.1 d.2.1.2.2.1 d.2.1.2.2.2.1 d.2.1.2.2.2.2.1 d.2.2.2.1.2.1 (fun (y5 : List Bool) => K .ret [.tv (.lf (.bool false))] [some ⟨false, [.int .i64 d.2.1.2.1, .int .i64 d.2.1.2.2.1, .int .i64 d.2.1.2.2.2.1, .int .i64 d.2.1.2.2.2.2.1]⟩, some ⟨false, [.seq .bool 0 y5]⟩, some ⟨false, [.seq (.int .i64) 0 d.2.2.2.1.2.1]⟩]) (fun (y6 : List Bool) => K (.exit 2) [.tv (.lf (.ptr 0 0)), .tv (.lf (.int .i64 d.1.2.1)), .tv (.lf (.full 1)), .tv (.lf (.int .i64 d.1.2.2.2.1))] [some ⟨false, [.int .i64 d.2.1.2.1, .int .i64 d.2.1.2.2.1, .int .i64 d.2.1.2.2.2.1, .int .i64 d.2.1.2.2.2.2.1]⟩, some ⟨false, [.seq .bool 0 y6]⟩, some ⟨false, [.seq (.int .i64) 0 d.2.2.2.1.2.1]⟩]) k d.1.2.2.2.2.2.1 d.2.2.1.2.1)
def sh9_1_l6 : Sh := ⟨[.lf (.ptr 0 0), .lf (.int .i64), .lf (.full 1), .lf (.int .i64)], [some ⟨some false, [.int .i64, .int .i64, .int .i64, .int .i64]⟩, some ⟨some false, [.seq .bool 0]⟩]⟩
noncomputable def G9_1_6 (F k : Nat) : LoopS := mkG sh9_1_l6 [1, 3, 4, 5] (outT [(.exit 0, [1, 3, 4]), (.ret, [2])]) (fun d K => f9_1_l6 F d.1.2.1 d.2.1.2.1 d.2.1.2.2.1 d.2.1.2.2.2.1 d.2.1.2.2.2.2.1 (fun (y5 : List Bool) (y6 : List Int) => K .ret [.tv (.lf (.bool false))] [some ⟨false, [.int .i64 d.2.1.2.1, .int .i64 d.2.1.2.2.1, .int .i64 d.2.1.2.2.2.1, .int .i64 d.2.1.2.2.2.2.1]⟩, some ⟨false, [.seq .bool 0 y5]⟩, some ⟨false, [.seq (.int .i64) 0 y6]⟩]) (fun (y5 : List Bool) => K (.exit 0) [.tv (.lf (.ptr 0 0)), .tv (.lf (.int .i64 d.1.2.1)), .tv (.lf (.full 1))] [some ⟨false, [.int .i64 d.2.1.2.1, .int .i64 d.2.1.2.2.1, .int .i64 d.2.1.2.2.2.1, .int .i64 d.2.1.2.2.2.2.1]⟩, some ⟨false, [.seq .bool 0 y5]⟩]) k d.1.2.2.2.1 d.2.2.1.2.1)
def sh9_1_l19 : Sh := ⟨[.lf (.ptr 0 0), .lf (.int .i64), .lf (.full 1), .lf (.int .i64)], [some ⟨some false, [.int .i64, .int .i64, .int .i64, .int .i64]⟩, some ⟨some false, [.seq .bool 0]⟩]⟩
noncomputable def G9_1_19 (F k : Nat) : LoopS := mkG sh9_1_l19 [1, 3, 4, 9] (outT [(.exit 4, [1]), (.ret, [2])]) (fun d K => f9_1_l19 F d.1.2.1 d.2.1.2.1 d.2.1.2.2.1 d.2.1.2.2.2.1 d.2.1.2.2.2.2.1 d.2.2.1.2.1 (K .ret [.tv (.lf (.bool false))] [some ⟨false, [.int .i64 d.2.1.2.1, .int .i64 d.2.1.2.2.1, .int .i64 d.2.1.2.2.2.1, .int .i64 d.2.1.2.2.2.2.1]⟩, some ⟨false, [.seq .bool 0 d.2.2.1.2.1]⟩]) (K (.exit 4) [.tv (.lf (.ptr 0 0))] [some ⟨false, [.int .i64 d.2.1.2.1, .int .i64 d.2.1.2.2.1, .int .i64 d.2.1.2.2.2.1, .int .i64 d.2.1.2.2.2.2.1]⟩, some ⟨false, [.seq .bool 0 d.2.2.1.2.1]⟩]) k d.1.2.2.2.1)
def sh9_1_l24 : Sh := ⟨[.lf (.ptr 0 0), .lf (.int .i64)], [some ⟨some false, [.int .i64, .int .i64, .int .i64, .int .i64]⟩]⟩
noncomputable def G9_1_24 (F k : Nat) : LoopS := mkG sh9_1_l24 [1, 10] (outT [(.exit 6, [1]), (.ret, [2])]) (fun d K => f9_1_l24 F d.2.1.2.1 d.2.1.2.2.1 d.2.1.2.2.2.1 d.2.1.2.2.2.2.1 (fun (y5 : List Int) => K .ret [.tv (.lf (.bool false))] [some ⟨false, [.int .i64 d.2.1.2.1, .int .i64 d.2.1.2.2.1, .int .i64 d.2.1.2.2.2.1, .int .i64 d.2.1.2.2.2.2.1]⟩, some ⟨false, [.seq (.int .i64) 0 y5]⟩]) (K (.exit 6) [.tv (.lf (.ptr 0 0))] [some ⟨false, [.int .i64 d.2.1.2.1, .int .i64 d.2.1.2.2.1, .int .i64 d.2.1.2.2.2.1, .int .i64 d.2.1.2.2.2.2.1]⟩]) k d.1.2.1)
noncomputable def LT9_1 (F : Nat) : Nat → Option LoopS := ltab [(12, G9_1_12 F F), (6, G9_1_6 F F), (19, G9_1_19 F F), (24, G9_1_24 F F)]
theorem L9_1_12g (F k : Nat) (c46_1 : Int → Int → Int → Int → (Bool → Option Res) → Option Res) (c48_1 : Int → Int → Int → Int → (List Int → Option Res) → Option Res) (c50_1 : Int → Int → Int → Int → (Int → Option Res) → Option Res) (c52_1 : Int → Int → Int → Int → (Int → Option Res) → Option Res) (c54_1 : Int → Int → Int → Int → (Int → Option Res) → Option Res) (c56_1 : Int → Int → Int → Int → Int → (Int → Option Res) → Option Res) (c58_1 : Int → Int → Int → Int → Int → (List Int → Option Res) → Option Res) (c60_1 : Int → Int → Int → Int → Int → (List Int → Option Res) → Option Res) (c62_1 : (Bool → Option Res) → Option Res)  (l12 : Int → Int → Int → Int → Int → Int → List Int → (List Bool → Option Res) → (List Bool → Option Res) → Nat → Int → List Bool → Option Res) (X12 : LoopS) (X6 : LoopS) (X19 : LoopS) (X24 : LoopS) (d : sh9_1_l12.den) (K : KL) : (fun (v13 : Int) (v14 : Int) (v16 : Int) (v17 : Int) (v18 : Int) (v19 : Int) (v21 : List Int) (K0 : (List Bool → Option Res)) (K1 : (List Bool → Option Res)) (k : Nat) (v15 : Int) (v20 : List Bool) => cond (decide (v15 < ((v21.length : Nat) : Int))) (cond (decide ((0 : Int) ≤ v15 ∧ v15 < ((v21.length : Nat) : Int))) (cond (decide (0 + v15.toNat < v21.length)) (cond (decide (v21.getD (0 + v15.toNat) 0 < 0)) (K0 v20) (cond (decide (v21.getD (0 + v15.toNat) 0 ≥ v14)) (K0 v20) (c56_1 v16 v17 v18 v19 (v21.getD (0 + v15.toNat) 0) (fun x22 => cond (x22 != v14) (K0 v20) (cond (decide ((0 : Int) ≤ v21.getD (0 + v15.toNat) 0 ∧ v21.getD (0 + v15.toNat) 0 < ((v20.length : Nat) : Int))) (cond (decide (0 + ((v21.getD (0 + v15.toNat) 0).toNat) < v20.length)) (cond (v20.getD (0 + ((v21.getD (0 + v15.toNat) 0).toNat)) false) (K0 v20) (cond (decide ((0 : Int) ≤ v21.getD (0 + v15.toNat) 0 ∧ v21.getD (0 + v15.toNat) 0 < ((v20.length : Nat) : Int))) (cond (decide (0 + ((v21.getD (0 + v15.toNat) 0).toNat) < v20.length)) (l12 v13 v14 v16 v17 v18 v19 v21 K0 K1 k (IntKind.i64.wrap (v15 + 1)) (v20.set (0 + ((v21.getD (0 + v15.toNat) 0).toNat)) true)) none) none)) none) none)) ))) none) none) (K1 v20)) d.1.2.1 d.1.2.2.2.1 d.2.1.2.1 d.2.1.2.2.1 d.2.1.2.2.2.1 d.2.1.2.2.2.2.1 d.2.2.2.1.2.1 (fun (y5 : List Bool) => K .ret [.tv (.lf (.bool false))] [some ⟨false, [.int .i64 d.2.1.2.1, .int .i64 d.2.1.2.2.1, .int .i64 d.2.1.2.2.2.1, .int .i64 d.2.1.2.2.2.2.1]⟩, some ⟨false, [.seq .bool 0 y5]⟩, some ⟨false, [.seq (.int .i64) 0 d.2.2.2.1.2.1]⟩]) (fun (y6 : List Bool) => K (.exit 2) [.tv (.lf (.ptr 0 0)), .tv (.lf (.int .i64 d.1.2.1)), .tv (.lf (.full 1)), .tv (.lf (.int .i64 d.1.2.2.2.1))] [some ⟨false, [.int .i64 d.2.1.2.1, .int .i64 d.2.1.2.2.1, .int .i64 d.2.1.2.2.2.1, .int .i64 d.2.1.2.2.2.2.1]⟩, some ⟨false, [.seq .bool 0 y6]⟩, some ⟨false, [.seq (.int .i64) 0 d.2.2.2.1.2.1]⟩]) k d.1.2.2.2.2.2.1 d.2.2.1.2.1 = roundOf Try.prog (tab [(46, (mkS sh46_1 (fun d K => c46_1 d.1.1.1 d.1.1.2.1 d.1.1.2.2.1 d.1.1.2.2.2.1 (fun (y0 : Bool) => K [.lf (.bool y0)] [])) noS)), (48, (mkS sh48_1 (fun d K => c48_1 d.1.1.1 d.1.1.2.1 d.1.1.2.2.1 d.1.1.2.2.2.1 (fun (y0 : List Int) => K [.lf (.full 0)] [some ⟨false, [.seq (.int .i64) 0 y0]⟩])) noS)), (50, (mkS sh50_1 (fun d K => c50_1 d.1.1.1 d.1.1.2.1 d.1.1.2.2.1 d.1.1.2.2.2.1 (fun (y0 : Int) => K [.lf (.int .i64 y0)] [])) noS)), (52, (mkS sh52_1 (fun d K => c52_1 d.1.1.1 d.1.1.2.1 d.1.1.2.2.1 d.1.1.2.2.2.1 (fun (y0 : Int) => K [.lf (.int .i64 y0)] [])) noS)), (54, (mkS sh54_1 (fun d K => c54_1 d.1.1.1 d.1.1.2.1 d.1.1.2.2.1 d.1.1.2.2.2.1 (fun (y0 : Int) => K [.lf (.int .i64 y0)] [])) noS)), (56, (mkS sh56_1 (fun d K => c56_1 d.1.1.1 d.1.1.2.1 d.1.1.2.2.1 d.1.1.2.2.2.1 d.1.2.1 (fun (y0 : Int) => K [.lf (.int .i64 y0)] [])) noS)), (58, (mkS sh58_1 (fun d K => c58_1 d.1.1.1 d.1.1.2.1 d.1.1.2.2.1 d.1.1.2.2.2.1 d.1.2.1 (fun (y0 : List Int) => K [.lf (.full 0)] [some ⟨false, [.seq (.int .i64) 0 y0]⟩])) noS)), (60, (mkS sh60_1 (fun d K => c60_1 d.1.1.1 d.1.1.2.1 d.1.1.2.2.1 d.1.1.2.2.2.1 d.1.2.1 (fun (y0 : List Int) => K [.lf (.full 0)] [some ⟨false, [.seq (.int .i64) 0 y0]⟩])) noS)), (62, (mkS sh62_1 (fun d K => c62_1 (fun (y0 : Bool) => K [.lf (.bool y0)] [])) noS))]) 134 0 (ltab [(12, X12), (6, X6), (19, X19), (24, X24)]) (mkG sh9_1_l12 [1, 3, 4, 5, 6, 7] (outT [(.exit 2, [1, 3, 4, 5]), (.ret, [2])]) (fun d K => l12 d.1.2.1 d.1.2.2.2.1 d.2.1.2.1 d.2.1.2.2.1 d.2.1.2.2.2.1 d.2.1.2.2.2.2.1 d.2.2.2.1.2.1 (fun (y5 : List Bool) => K .ret [.tv (.lf (.bool false))] [some ⟨false, [.int .i64 d.2.1.2.1, .int .i64 d.2.1.2.2.1, .int .i64 d.2.1.2.2.2.1, .int .i64 d.2.1.2.2.2.2.1]⟩, some ⟨false, [.seq .bool 0 y5]⟩, some ⟨false, [.seq (.int .i64) 0 d.2.2.2.1.2.1]⟩]) (fun (y6 : List Bool) => K (.exit 2) [.tv (.lf (.ptr 0 0)), .tv (.lf (.int .i64 d.1.2.1)), .tv (.lf (.full 1)), .tv (.lf (.int .i64 d.1.2.2.2.1))] [some ⟨false, [.int .i64 d.2.1.2.1, .int .i64 d.2.1.2.2.1, .int .i64 d.2.1.2.2.2.1, .int .i64 d.2.1.2.2.2.2.1]⟩, some ⟨false, [.seq .bool 0 y6]⟩, some ⟨false, [.seq (.int .i64) 0 d.2.2.2.1.2.1]⟩]) k d.1.2.2.2.2.2.1 d.2.2.1.2.1)) b9_1 (encT sh9_1_l12.vs d.1) (encH sh9_1_l12.h d.2) K := by kernel_rfl
theorem L9_1_12 (F : Nat) : LoopOK Try.prog (T9_1 F) 134 0 (LT9_1 F) (G9_1_12 F F) b9_1 :=
  loopOK_of (s := sh9_1_l12) (live := [1, 3, 4, 5, 6, 7]) (out := (outT [(.exit 2, [1, 3, 4, 5]), (.ret, [2])])) (fun k d K => f9_1_l12 F d.1.2.1 d.1.2.2.2.1 d.2.1.2.1 d.2.1.2.2.1 d.2.1.2.2.2.1 d.2.1.2.2.2.2.1 d.2.2.2.1.2.1 (fun (y5 : List Bool) => K .ret [.tv (.lf (.bool false))] [some ⟨false, [.int .i64 d.2.1.2.1, .int .i64 d.2.1.2.2.1, .int .i64 d.2.1.2.2.2.1, .int .i64 d.2.1.2.2.2.2.1]⟩, some ⟨false, [.seq .bool 0 y5]⟩, some ⟨false, [.seq (.int .i64) 0 d.2.2.2.1.2.1]⟩]) (fun (y6 : List Bool) => K (.exit 2) [.tv (.lf (.ptr 0 0)), .tv (.lf (.int .i64 d.1.2.1)), .tv (.lf (.full 1)), .tv (.lf (.int .i64 d.1.2.2.2.1))] [some ⟨false, [.int .i64 d.2.1.2.1, .int .i64 d.2.1.2.2.1, .int .i64 d.2.1.2.2.2.1, .int .i64 d.2.1.2.2.2.2.1]⟩, some ⟨false, [.seq .bool 0 y6]⟩, some ⟨false, [.seq (.int .i64) 0 d.2.2.2.1.2.1]⟩]) k d.1.2.2.2.2.2.1 d.2.2.1.2.1) F (fun d K => by kernel_rfl)  (fun k d K => Eq.mp (by kernel_rfl) (L9_1_12g F k (f46_1 F) (f48_1 F) (f50_1 F) (f52_1 F) (f54_1 F) (f56_1 F) (f58_1 F) (f60_1 F) (f62_1 F)  (f9_1_l12 F) (G9_1_12 F F) (G9_1_6 F F) (G9_1_19 F F) (G9_1_24 F F) d K))
theorem L9_1_6g (F k : Nat) (c46_1 : Int → Int → Int → Int → (Bool → Option Res) → Option Res) (c48_1 : Int → Int → Int → Int → (List Int → Option Res) → Option Res) (c50_1 : Int → Int → Int → Int → (Int → Option Res) → Option Res) (c52_1 : Int → Int → Int → Int → (Int → Option Res) → Option Res) (c54_1 : Int → Int → Int → Int → (Int → Option Res) → Option Res) (c56_1 : Int → Int → Int → Int → Int → (Int → Option Res) → Option Res) (c58_1 : Int → Int → Int → Int → Int → (List Int → Option Res) → Option Res) (c60_1 : Int → Int → Int → Int → Int → (List Int → Option Res) → Option Res) (c62_1 : (Bool → Option Res) → Option Res) (l12 : Int → Int → Int → Int → Int → Int → List Int → (List Bool → Option Res) → (List Bool → Option Res) → Nat → Int → List Bool → Option Res) (l6 : Int → Int → Int → Int → Int → (List Bool → List Int → Option Res) → (List Bool → Option Res) → Nat → Int → List Bool → Option Res) (X6 : LoopS) (X19 : LoopS) (X24 : LoopS) (d : sh9_1_l6.den) (K : KL) : (fun (v5 : Int) (v7 : Int) (v8 : Int) (v9 : Int) (v10 : Int) (K0 : (List Bool → List Int → Option Res)) (K1 : (List Bool → Option Res)) (k : Nat) (v6 : Int) (v11 : List Bool) => cond (decide (v6 < v5)) (c58_1 v7 v8 v9 v10 v6 (fun x12 => cond (decide (((x12.length : Nat) : Int) > v8)) (K0 v11 x12) (cond (!((((x12.length : Nat) : Int) == 0) == (decide (v6 < v7)))) (K0 v11 x12) (l12 v5 v6 v7 v8 v9 v10 x12 (fun x23 => K0 x23 x12) (fun x24 => l6 v5 v7 v8 v9 v10 K0 K1 k (IntKind.i64.wrap (v6 + 1)) x24) F 0 v11))) ) (K1 v11)) d.1.2.1 d.2.1.2.1 d.2.1.2.2.1 d.2.1.2.2.2.1 d.2.1.2.2.2.2.1 (fun (y5 : List Bool) (y6 : List Int) => K .ret [.tv (.lf (.bool false))] [some ⟨false, [.int .i64 d.2.1.2.1, .int .i64 d.2.1.2.2.1, .int .i64 d.2.1.2.2.2.1, .int .i64 d.2.1.2.2.2.2.1]⟩, some ⟨false, [.seq .bool 0 y5]⟩, some ⟨false, [.seq (.int .i64) 0 y6]⟩]) (fun (y5 : List Bool) => K (.exit 0) [.tv (.lf (.ptr 0 0)), .tv (.lf (.int .i64 d.1.2.1)), .tv (.lf (.full 1))] [some ⟨false, [.int .i64 d.2.1.2.1, .int .i64 d.2.1.2.2.1, .int .i64 d.2.1.2.2.2.1, .int .i64 d.2.1.2.2.2.2.1]⟩, some ⟨false, [.seq .bool 0 y5]⟩]) k d.1.2.2.2.1 d.2.2.1.2.1 = roundOf Try.prog (tab [(46, (mkS sh46_1 (fun d K => c46_1 d.1.1.1 d.1.1.2.1 d.1.1.2.2.1 d.1.1.2.2.2.1 (fun (y0 : Bool) => K [.lf (.bool y0)] [])) noS)), (48, (mkS sh48_1 (fun d K => c48_1 d.1.1.1 d.1.1.2.1 d.1.1.2.2.1 d.1.1.2.2.2.1 (fun (y0 : List Int) => K [.lf (.full 0)] [some ⟨false, [.seq (.int .i64) 0 y0]⟩])) noS)), (50, (mkS sh50_1 (fun d K => c50_1 d.1.1.1 d.1.1.2.1 d.1.1.2.2.1 d.1.1.2.2.2.1 (fun (y0 : Int) => K [.lf (.int .i64 y0)] [])) noS)), (52, (mkS sh52_1 (fun d K => c52_1 d.1.1.1 d.1.1.2.1 d.1.1.2.2.1 d.1.1.2.2.2.1 (fun (y0 : Int) => K [.lf (.int .i64 y0)] [])) noS)), (54, (mkS sh54_1 (fun d K => c54_1 d.1.1.1 d.1.1.2.1 d.1.1.2.2.1 d.1.1.2.2.2.1 (fun (y0 : Int) => K [.lf (.int .i64 y0)] [])) noS)), (56, (mkS sh56_1 (fun d K => c56_1 d.1.1.1 d.1.1.2.1 d.1.1.2.2.1 d.1.1.2.2.2.1 d.1.2.1 (fun (y0 : Int) => K [.lf (.int .i64 y0)] [])) noS)), (58, (mkS sh58_1 (fun d K => c58_1 d.1.1.1 d.1.1.2.1 d.1.1.2.2.1 d.1.1.2.2.2.1 d.1.2.1 (fun (y0 : List Int) => K [.lf (.full 0)] [some ⟨false, [.seq (.int .i64) 0 y0]⟩])) noS)), (60, (mkS sh60_1 (fun d K => c60_1 d.1.1.1 d.1.1.2.1 d.1.1.2.2.1 d.1.1.2.2.2.1 d.1.2.1 (fun (y0 : List Int) => K [.lf (.full 0)] [some ⟨false, [.seq (.int .i64) 0 y0]⟩])) noS)), (62, (mkS sh62_1 (fun d K => c62_1 (fun (y0 : Bool) => K [.lf (.bool y0)] [])) noS))]) 134 0 (ltab [(12, mkG sh9_1_l12 [1, 3, 4, 5, 6, 7] (outT [(.exit 2, [1, 3, 4, 5]), (.ret, [2])]) (fun d K => l12 d.1.2.1 d.1.2.2.2.1 d.2.1.2.1 d.2.1.2.2.1 d.2.1.2.2.2.1 d.2.1.2.2.2.2.1 d.2.2.2.1.2.1 (fun (y5 : List Bool) => K .ret [.tv (.lf (.bool false))] [some ⟨false, [.int .i64 d.2.1.2.1, .int .i64 d.2.1.2.2.1, .int .i64 d.2.1.2.2.2.1, .int .i64 d.2.1.2.2.2.2.1]⟩, some ⟨false, [.seq .bool 0 y5]⟩, some ⟨false, [.seq (.int .i64) 0 d.2.2.2.1.2.1]⟩]) (fun (y6 : List Bool) => K (.exit 2) [.tv (.lf (.ptr 0 0)), .tv (.lf (.int .i64 d.1.2.1)), .tv (.lf (.full 1)), .tv (.lf (.int .i64 d.1.2.2.2.1))] [some ⟨false, [.int .i64 d.2.1.2.1, .int .i64 d.2.1.2.2.1, .int .i64 d.2.1.2.2.2.1, .int .i64 d.2.1.2.2.2.2.1]⟩, some ⟨false, [.seq .bool 0 y6]⟩, some ⟨false, [.seq (.int .i64) 0 d.2.2.2.1.2.1]⟩]) F d.1.2.2.2.2.2.1 d.2.2.1.2.1)), (6, X6), (19, X19), (24, X24)]) (mkG sh9_1_l6 [1, 3, 4, 5] (outT [(.exit 0, [1, 3, 4]), (.ret, [2])]) (fun d K => l6 d.1.2.1 d.2.1.2.1 d.2.1.2.2.1 d.2.1.2.2.2.1 d.2.1.2.2.2.2.1 (fun (y5 : List Bool) (y6 : List Int) => K .ret [.tv (.lf (.bool false))] [some ⟨false, [.int .i64 d.2.1.2.1, .int .i64 d.2.1.2.2.1, .int .i64 d.2.1.2.2.2.1, .int .i64 d.2.1.2.2.2.2.1]⟩, some ⟨false, [.seq .bool 0 y5]⟩, some ⟨false, [.seq (.int .i64) 0 y6]⟩]) (fun (y5 : List Bool) => K (.exit 0) [.tv (.lf (.ptr 0 0)), .tv (.lf (.int .i64 d.1.2.1)), .tv (.lf (.full 1))] [some ⟨false, [.int .i64 d.2.1.2.1, .int .i64 d.2.1.2.2.1, .int .i64 d.2.1.2.2.2.1, .int .i64 d.2.1.2.2.2.2.1]⟩, some ⟨false, [.seq .bool 0 y5]⟩]) k d.1.2.2.2.1 d.2.2.1.2.1)) b9_0 (encT sh9_1_l6.vs d.1) (encH sh9_1_l6.h d.2) K := by kernel_rfl
theorem L9_1_6 (F : Nat) : LoopOK Try.prog (T9_1 F) 134 0 (LT9_1 F) (G9_1_6 F F) b9_0 :=
  loopOK_of (s := sh9_1_l6) (live := [1, 3, 4, 5]) (out := (outT [(.exit 0, [1, 3, 4]), (.ret, [2])])) (fun k d K => f9_1_l6 F d.1.2.1 d.2.1.2.1 d.2.1.2.2.1 d.2.1.2.2.2.1 d.2.1.2.2.2.2.1 (fun (y5 : List Bool) (y6 : List Int) => K .ret [.tv (.lf (.bool false))] [some ⟨false, [.int .i64 d.2.1.2.1, .int .i64 d.2.1.2.2.1, .int .i64 d.2.1.2.2.2.1, .int .i64 d.2.1.2.2.2.2.1]⟩, some ⟨false, [.seq .bool 0 y5]⟩, some ⟨false, [.seq (.int .i64) 0 y6]⟩]) (fun (y5 : List Bool) => K (.exit 0) [.tv (.lf (.ptr 0 0)), .tv (.lf (.int .i64 d.1.2.1)), .tv (.lf (.full 1))] [some ⟨false, [.int .i64 d.2.1.2.1, .int .i64 d.2.1.2.2.1, .int .i64 d.2.1.2.2.2.1, .int .i64 d.2.1.2.2.2.2.1]⟩, some ⟨false, [.seq .bool 0 y5]⟩]) k d.1.2.2.2.1 d.2.2.1.2.1) F (fun d K => by kernel_rfl)  (fun k d K => Eq.mp (by kernel_rfl) (L9_1_6g F k (f46_1 F) (f48_1 F) (f50_1 F) (f52_1 F) (f54_1 F) (f56_1 F) (f58_1 F) (f60_1 F) (f62_1 F) (f9_1_l12 F) (f9_1_l6 F) (G9_1_6 F F) (G9_1_19 F F) (G9_1_24 F F) d K))
theorem L9_1_19g (F k : Nat) (c46_1 : Int → Int → Int → Int → (Bool → Option Res) → Option Res) (c48_1 : Int → Int → Int → Int → (List Int → Option Res) → Option Res) (c50_1 : Int → Int → Int → Int → (Int → Option Res) → Option Res) (c52_1 : Int → Int → Int → Int → (Int → Option Res) → Option Res) (c54_1 : Int → Int → Int → Int → (Int → Option Res) → Option Res) (c56_1 : Int → Int → Int → Int → Int → (Int → Option Res) → Option Res) (c58_1 : Int → Int → Int → Int → Int → (List Int → Option Res) → Option Res) (c60_1 : Int → Int → Int → Int → Int → (List Int → Option Res) → Option Res) (c62_1 : (Bool → Option Res) → Option Res)  (l19 : Int → Int → Int → Int → Int → List Bool → (Option Res) → (Option Res) → Nat → Int → Option Res) (X12 : LoopS) (X6 : LoopS) (X19 : LoopS) (X24 : LoopS) (d : sh9_1_l19.den) (K : KL) : (fun (v28 : Int) (v30 : Int) (v31 : Int) (v32 : Int) (v33 : Int) (v34 : List Bool) (K0 : (Option Res)) (K1 : (Option Res)) (k : Nat) (v29 : Int) => cond (decide (IntKind.i64.wrap (v29 + 1) < v28)) (cond (decide ((0 : Int) ≤ v29 ∧ v29 < ((v34.length : Nat) : Int))) (cond (decide (0 + v29.toNat < v34.length)) (cond (!(v34.getD (0 + v29.toNat) false)) (K0) (l19 v28 v30 v31 v32 v33 v34 K0 K1 k (IntKind.i64.wrap (v29 + 1)))) none) none) (K1)) d.1.2.1 d.2.1.2.1 d.2.1.2.2.1 d.2.1.2.2.2.1 d.2.1.2.2.2.2.1 d.2.2.1.2.1 (K .ret [.tv (.lf (.bool false))] [some ⟨false, [.int .i64 d.2.1.2.1, .int .i64 d.2.1.2.2.1, .int .i64 d.2.1.2.2.2.1, .int .i64 d.2.1.2.2.2.2.1]⟩, some ⟨false, [.seq .bool 0 d.2.2.1.2.1]⟩]) (K (.exit 4) [.tv (.lf (.ptr 0 0))] [some ⟨false, [.int .i64 d.2.1.2.1, .int .i64 d.2.1.2.2.1, .int .i64 d.2.1.2.2.2.1, .int .i64 d.2.1.2.2.2.2.1]⟩, some ⟨false, [.seq .bool 0 d.2.2.1.2.1]⟩]) k d.1.2.2.2.1 = roundOf Try.prog (tab [(46, (mkS sh46_1 (fun d K => c46_1 d.1.1.1 d.1.1.2.1 d.1.1.2.2.1 d.1.1.2.2.2.1 (fun (y0 : Bool) => K [.lf (.bool y0)] [])) noS)), (48, (mkS sh48_1 (fun d K => c48_1 d.1.1.1 d.1.1.2.1 d.1.1.2.2.1 d.1.1.2.2.2.1 (fun (y0 : List Int) => K [.lf (.full 0)] [some ⟨false, [.seq (.int .i64) 0 y0]⟩])) noS)), (50, (mkS sh50_1 (fun d K => c50_1 d.1.1.1 d.1.1.2.1 d.1.1.2.2.1 d.1.1.2.2.2.1 (fun (y0 : Int) => K [.lf (.int .i64 y0)] [])) noS)), (52, (mkS sh52_1 (fun d K => c52_1 d.1.1.1 d.1.1.2.1 d.1.1.2.2.1 d.1.1.2.2.2.1 (fun (y0 : Int) => K [.lf (.int .i64 y0)] [])) noS)), (54, (mkS sh54_1 (fun d K => c54_1 d.1.1.1 d.1.1.2.1 d.1.1.2.2.1 d.1.1.2.2.2.1 (fun (y0 : Int) => K [.lf (.int .i64 y0)] [])) noS)), (56, (mkS sh56_1 (fun d K => c56_1 d.1.1.1 d.1.1.2.1 d.1.1.2.2.1 d.1.1.2.2.2.1 d.1.2.1 (fun (y0 : Int) => K [.lf (.int .i64 y0)] [])) noS)), (58, (mkS sh58_1 (fun d K => c58_1 d.1.1.1 d.1.1.2.1 d.1.1.2.2.1 d.1.1.2.2.2.1 d.1.2.1 (fun (y0 : List Int) => K [.lf (.full 0)] [some ⟨false, [.seq (.int .i64) 0 y0]⟩])) noS)), (60, (mkS sh60_1 (fun d K => c60_1 d.1.1.1 d.1.1.2.1 d.1.1.2.2.1 d.1.1.2.2.2.1 d.1.2.1 (fun (y0 : List Int) => K [.lf (.full 0)] [some ⟨false, [.seq (.int .i64) 0 y0]⟩])) noS)), (62, (mkS sh62_1 (fun d K => c62_1 (fun (y0 : Bool) => K [.lf (.bool y0)] [])) noS))]) 134 0 (ltab [(12, X12), (6, X6), (19, X19), (24, X24)]) (mkG sh9_1_l19 [1, 3, 4, 9] (outT [(.exit 4, [1]), (.ret, [2])]) (fun d K => l19 d.1.2.1 d.2.1.2.1 d.2.1.2.2.1 d.2.1.2.2.2.1 d.2.1.2.2.2.2.1 d.2.2.1.2.1 (K .ret [.tv (.lf (.bool false))] [some ⟨false, [.int .i64 d.2.1.2.1, .int .i64 d.2.1.2.2.1, .int .i64 d.2.1.2.2.2.1, .int .i64 d.2.1.2.2.2.2.1]⟩, some ⟨false, [.seq .bool 0 d.2.2.1.2.1]⟩]) (K (.exit 4) [.tv (.lf (.ptr 0 0))] [some ⟨false, [.int .i64 d.2.1.2.1, .int .i64 d.2.1.2.2.1, .int .i64 d.2.1.2.2.2.1, .int .i64 d.2.1.2.2.2.2.1]⟩, some ⟨false, [.seq .bool 0 d.2.2.1.2.1]⟩]) k d.1.2.2.2.1)) b9_2 (encT sh9_1_l19.vs d.1) (encH sh9_1_l19.h d.2) K := by kernel_rfl
theorem L9_1_19 (F : Nat) : LoopOK Try.prog (T9_1 F) 134 0 (LT9_1 F) (G9_1_19 F F) b9_2 :=
  loopOK_of (s := sh9_1_l19) (live := [1, 3, 4, 9]) (out := (outT [(.exit 4, [1]), (.ret, [2])])) (fun k d K => f9_1_l19 F d.1.2.1 d.2.1.2.1 d.2.1.2.2.1 d.2.1.2.2.2.1 d.2.1.2.2.2.2.1 d.2.2.1.2.1 (K .ret [.tv (.lf (.bool false))] [some ⟨false, [.int .i64 d.2.1.2.1, .int .i64 d.2.1.2.2.1, .int .i64 d.2.1.2.2.2.1, .int .i64 d.2.1.2.2.2.2.1]⟩, some ⟨false, [.seq .bool 0 d.2.2.1.2.1]⟩]) (K (.exit 4) [.tv (.lf (.ptr 0 0))] [some ⟨false, [.int .i64 d.2.1.2.1, .int .i64 d.2.1.2.2.1, .int .i64 d.2.1.2.2.2.1, .int .i64 d.2.1.2.2.2.2.1]⟩, some ⟨false, [.seq .bool 0 d.2.2.1.2.1]⟩]) k d.1.2.2.2.1) F (fun d K => by kernel_rfl)  (fun k d K => Eq.mp (by kernel_rfl) (L9_1_19g F k (f46_1 F) (f48_1 F) (f50_1 F) (f52_1 F) (f54_1 F) (f56_1 F) (f58_1 F) (f60_1 F) (f62_1 F)  (f9_1_l19 F) (G9_1_12 F F) (G9_1_6 F F) (G9_1_19 F F) (G9_1_24 F F) d K))
theorem L9_1_24g (F k : Nat) (c46_1 : Int → Int → Int → Int → (Bool → Option Res) → Option Res) (c48_1 : Int → Int → Int → Int → (List Int → Option Res) → Option Res) (c50_1 : Int → Int → Int → Int → (Int → Option Res) → Option Res) (c52_1 : Int → Int → Int → Int → (Int → Option Res) → Option Res) (c54_1 : Int → Int → Int → Int → (Int → Option Res) → Option Res) (c56_1 : Int → Int → Int → Int → Int → (Int → Option Res) → Option Res) (c58_1 : Int → Int → Int → Int → Int → (List Int → Option Res) → Option Res) (c60_1 : Int → Int → Int → Int → Int → (List Int → Option Res) → Option Res) (c62_1 : (Bool → Option Res) → Option Res)  (l24 : Int → Int → Int → Int → (List Int → Option Res) → (Option Res) → Nat → Int → Option Res) (X12 : LoopS) (X6 : LoopS) (X19 : LoopS) (X24 : LoopS) (d : sh9_1_l24.den) (K : KL) : (fun (v36 : Int) (v37 : Int) (v38 : Int) (v39 : Int) (K0 : (List Int → Option Res)) (K1 : (Option Res)) (k : Nat) (v35 : Int) => cond (decide (v35 < v36)) (c60_1 v36 v37 v38 v39 v35 (fun x40 => c52_1 v36 v37 v38 v39 (fun x41 => cond (((x40.length : Nat) : Int) != (IntKind.i64.wrap (x41 + 1))) (K0 x40) (cond (decide ((0 : Int) ≤ (0 : Int) ∧ (0 : Int) < ((x40.length : Nat) : Int))) (cond (decide (0 < x40.length)) (cond ((x40.getD 0 0) != v35) (K0 x40) (cond (decide ((0 : Int) ≤ IntKind.i64.wrap (((x40.length : Nat) : Int) - 1) ∧ IntKind.i64.wrap (((x40.length : Nat) : Int) - 1) < ((x40.length : Nat) : Int))) (cond (decide (0 + ((IntKind.i64.wrap (((x40.length : Nat) : Int) - 1)).toNat) < x40.length)) (c54_1 v36 v37 v38 v39 (fun x42 => cond ((x40.getD (0 + ((IntKind.i64.wrap (((x40.length : Nat) : Int) - 1)).toNat)) 0) != x42) (K0 x40) (l24 v36 v37 v38 v39 K0 K1 k (IntKind.i64.wrap (v35 + 1)))) ) none) none)) none) none)) ) ) (K1)) d.2.1.2.1 d.2.1.2.2.1 d.2.1.2.2.2.1 d.2.1.2.2.2.2.1 (fun (y5 : List Int) => K .ret [.tv (.lf (.bool false))] [some ⟨false, [.int .i64 d.2.1.2.1, .int .i64 d.2.1.2.2.1, .int .i64 d.2.1.2.2.2.1, .int .i64 d.2.1.2.2.2.2.1]⟩, some ⟨false, [.seq (.int .i64) 0 y5]⟩]) (K (.exit 6) [.tv (.lf (.ptr 0 0))] [some ⟨false, [.int .i64 d.2.1.2.1, .int .i64 d.2.1.2.2.1, .int .i64 d.2.1.2.2.2.1, .int .i64 d.2.1.2.2.2.2.1]⟩]) k d.1.2.1 = roundOf Try.prog (tab [(46, (mkS sh46_1 (fun d K => c46_1 d.1.1.1 d.1.1.2.1 d.1.1.2.2.1 d.1.1.2.2.2.1 (fun (y0 : Bool) => K [.lf (.bool y0)] [])) noS)), (48, (mkS sh48_1 (fun d K => c48_1 d.1.1.1 d.1.1.2.1 d.1.1.2.2.1 d.1.1.2.2.2.1 (fun (y0 : List Int) => K [.lf (.full 0)] [some ⟨false, [.seq (.int .i64) 0 y0]⟩])) noS)), (50, (mkS sh50_1 (fun d K => c50_1 d.1.1.1 d.1.1.2.1 d.1.1.2.2.1 d.1.1.2.2.2.1 (fun (y0 : Int) => K [.lf (.int .i64 y0)] [])) noS)), (52, (mkS sh52_1 (fun d K => c52_1 d.1.1.1 d.1.1.2.1 d.1.1.2.2.1 d.1.1.2.2.2.1 (fun (y0 : Int) => K [.lf (.int .i64 y0)] [])) noS)), (54, (mkS sh54_1 (fun d K => c54_1 d.1.1.1 d.1.1.2.1 d.1.1.2.2.1 d.1.1.2.2.2.1 (fun (y0 : Int) => K [.lf (.int .i64 y0)] [])) noS)), (56, (mkS sh56_1 (fun d K => c56_1 d.1.1.1 d.1.1.2.1 d.1.1.2.2.1 d.1.1.2.2.2.1 d.1.2.1 (fun (y0 : Int) => K [.lf (.int .i64 y0)] [])) noS)), (58, (mkS sh58_1 (fun d K => c58_1 d.1.1.1 d.1.1.2.1 d.1.1.2.2.1 d.1.1.2.2.2.1 d.1.2.1 (fun (y0 : List Int) => K [.lf (.full 0)] [some ⟨false, [.seq (.int .i64) 0 y0]⟩])) noS)), (60, (mkS sh60_1 (fun d K => c60_1 d.1.1.1 d.1.1.2.1 d.1.1.2.2.1 d.1.1.2.2.2.1 d.1.2.1 (fun (y0 : List Int) => K [.lf (.full 0)] [some ⟨false, [.seq (.int .i64) 0 y0]⟩])) noS)), (62, (mkS sh62_1 (fun d K => c62_1 (fun (y0 : Bool) => K [.lf (.bool y0)] [])) noS))]) 134 0 (ltab [(12, X12), (6, X6), (19, X19), (24, X24)]) (mkG sh9_1_l24 [1, 10] (outT [(.exit 6, [1]), (.ret, [2])]) (fun d K => l24 d.2.1.2.1 d.2.1.2.2.1 d.2.1.2.2.2.1 d.2.1.2.2.2.2.1 (fun (y5 : List Int) => K .ret [.tv (.lf (.bool false))] [some ⟨false, [.int .i64 d.2.1.2.1, .int .i64 d.2.1.2.2.1, .int .i64 d.2.1.2.2.2.1, .int .i64 d.2.1.2.2.2.2.1]⟩, some ⟨false, [.seq (.int .i64) 0 y5]⟩]) (K (.exit 6) [.tv (.lf (.ptr 0 0))] [some ⟨false, [.int .i64 d.2.1.2.1, .int .i64 d.2.1.2.2.1, .int .i64 d.2.1.2.2.2.1, .int .i64 d.2.1.2.2.2.2.1]⟩]) k d.1.2.1)) b9_3 (encT sh9_1_l24.vs d.1) (encH sh9_1_l24.h d.2) K := by kernel_rfl
theorem L9_1_24 (F : Nat) : LoopOK Try.prog (T9_1 F) 134 0 (LT9_1 F) (G9_1_24 F F) b9_3 :=
  loopOK_of (s := sh9_1_l24) (live := [1, 10]) (out := (outT [(.exit 6, [1]), (.ret, [2])])) (fun k d K => f9_1_l24 F d.2.1.2.1 d.2.1.2.2.1 d.2.1.2.2.2.1 d.2.1.2.2.2.2.1 (fun (y5 : List Int) => K .ret [.tv (.lf (.bool false))] [some ⟨false, [.int .i64 d.2.1.2.1, .int .i64 d.2.1.2.2.1, .int .i64 d.2.1.2.2.2.1, .int .i64 d.2.1.2.2.2.2.1]⟩, some ⟨false, [.seq (.int .i64) 0 y5]⟩]) (K (.exit 6) [.tv (.lf (.ptr 0 0))] [some ⟨false, [.int .i64 d.2.1.2.1, .int .i64 d.2.1.2.2.1, .int .i64 d.2.1.2.2.2.1, .int .i64 d.2.1.2.2.2.2.1]⟩]) k d.1.2.1) F (fun d K => by kernel_rfl)  (fun k d K => Eq.mp (by kernel_rfl) (L9_1_24g F k (f46_1 F) (f48_1 F) (f50_1 F) (f52_1 F) (f54_1 F) (f56_1 F) (f58_1 F) (f60_1 F) (f62_1 F)  (f9_1_l24 F) (G9_1_12 F F) (G9_1_6 F F) (G9_1_19 F F) (G9_1_24 F F) d K))
theorem E9_1g (F : Nat) (c46_1 : Int → Int → Int → Int → (Bool → Option Res) → Option Res) (c48_1 : Int → Int → Int → Int → (List Int → Option Res) → Option Res) (c50_1 : Int → Int → Int → Int → (Int → Option Res) → Option Res) (c52_1 : Int → Int → Int → Int → (Int → Option Res) → Option Res) (c54_1 : Int → Int → Int → Int → (Int → Option Res) → Option Res) (c56_1 : Int → Int → Int → Int → Int → (Int → Option Res) → Option Res) (c58_1 : Int → Int → Int → Int → Int → (List Int → Option Res) → Option Res) (c60_1 : Int → Int → Int → Int → Int → (List Int → Option Res) → Option Res) (c62_1 : (Bool → Option Res) → Option Res) (l6 : Int → Int → Int → Int → Int → (List Bool → List Int → Option Res) → (List Bool → Option Res) → Nat → Int → List Bool → Option Res) (l19 : Int → Int → Int → Int → Int → List Bool → (Option Res) → (Option Res) → Nat → Int → Option Res) (l24 : Int → Int → Int → Int → (List Int → Option Res) → (Option Res) → Nat → Int → Option Res) (X12 : LoopS) (d : sh9_1.den) (K : KF) : evBody Try.prog (tab [(46, (mkS sh46_1 (fun d K => c46_1 d.1.1.1 d.1.1.2.1 d.1.1.2.2.1 d.1.1.2.2.2.1 (fun (y0 : Bool) => K [.lf (.bool y0)] [])) noS)), (48, (mkS sh48_1 (fun d K => c48_1 d.1.1.1 d.1.1.2.1 d.1.1.2.2.1 d.1.1.2.2.2.1 (fun (y0 : List Int) => K [.lf (.full 0)] [some ⟨false, [.seq (.int .i64) 0 y0]⟩])) noS)), (50, (mkS sh50_1 (fun d K => c50_1 d.1.1.1 d.1.1.2.1 d.1.1.2.2.1 d.1.1.2.2.2.1 (fun (y0 : Int) => K [.lf (.int .i64 y0)] [])) noS)), (52, (mkS sh52_1 (fun d K => c52_1 d.1.1.1 d.1.1.2.1 d.1.1.2.2.1 d.1.1.2.2.2.1 (fun (y0 : Int) => K [.lf (.int .i64 y0)] [])) noS)), (54, (mkS sh54_1 (fun d K => c54_1 d.1.1.1 d.1.1.2.1 d.1.1.2.2.1 d.1.1.2.2.2.1 (fun (y0 : Int) => K [.lf (.int .i64 y0)] [])) noS)), (56, (mkS sh56_1 (fun d K => c56_1 d.1.1.1 d.1.1.2.1 d.1.1.2.2.1 d.1.1.2.2.2.1 d.1.2.1 (fun (y0 : Int) => K [.lf (.int .i64 y0)] [])) noS)), (58, (mkS sh58_1 (fun d K => c58_1 d.1.1.1 d.1.1.2.1 d.1.1.2.2.1 d.1.1.2.2.2.1 d.1.2.1 (fun (y0 : List Int) => K [.lf (.full 0)] [some ⟨false, [.seq (.int .i64) 0 y0]⟩])) noS)), (60, (mkS sh60_1 (fun d K => c60_1 d.1.1.1 d.1.1.2.1 d.1.1.2.2.1 d.1.1.2.2.2.1 d.1.2.1 (fun (y0 : List Int) => K [.lf (.full 0)] [some ⟨false, [.seq (.int .i64) 0 y0]⟩])) noS)), (62, (mkS sh62_1 (fun d K => c62_1 (fun (y0 : Bool) => K [.lf (.bool y0)] [])) noS))]) 134 0 (ltab [(12, X12), (6, mkG sh9_1_l6 [1, 3, 4, 5] (outT [(.exit 0, [1, 3, 4]), (.ret, [2])]) (fun d K => l6 d.1.2.1 d.2.1.2.1 d.2.1.2.2.1 d.2.1.2.2.2.1 d.2.1.2.2.2.2.1 (fun (y5 : List Bool) (y6 : List Int) => K .ret [.tv (.lf (.bool false))] [some ⟨false, [.int .i64 d.2.1.2.1, .int .i64 d.2.1.2.2.1, .int .i64 d.2.1.2.2.2.1, .int .i64 d.2.1.2.2.2.2.1]⟩, some ⟨false, [.seq .bool 0 y5]⟩, some ⟨false, [.seq (.int .i64) 0 y6]⟩]) (fun (y5 : List Bool) => K (.exit 0) [.tv (.lf (.ptr 0 0)), .tv (.lf (.int .i64 d.1.2.1)), .tv (.lf (.full 1))] [some ⟨false, [.int .i64 d.2.1.2.1, .int .i64 d.2.1.2.2.1, .int .i64 d.2.1.2.2.2.1, .int .i64 d.2.1.2.2.2.2.1]⟩, some ⟨false, [.seq .bool 0 y5]⟩]) F d.1.2.2.2.1 d.2.2.1.2.1)), (19, mkG sh9_1_l19 [1, 3, 4, 9] (outT [(.exit 4, [1]), (.ret, [2])]) (fun d K => l19 d.1.2.1 d.2.1.2.1 d.2.1.2.2.1 d.2.1.2.2.2.1 d.2.1.2.2.2.2.1 d.2.2.1.2.1 (K .ret [.tv (.lf (.bool false))] [some ⟨false, [.int .i64 d.2.1.2.1, .int .i64 d.2.1.2.2.1, .int .i64 d.2.1.2.2.2.1, .int .i64 d.2.1.2.2.2.2.1]⟩, some ⟨false, [.seq .bool 0 d.2.2.1.2.1]⟩]) (K (.exit 4) [.tv (.lf (.ptr 0 0))] [some ⟨false, [.int .i64 d.2.1.2.1, .int .i64 d.2.1.2.2.1, .int .i64 d.2.1.2.2.2.1, .int .i64 d.2.1.2.2.2.2.1]⟩, some ⟨false, [.seq .bool 0 d.2.2.1.2.1]⟩]) F d.1.2.2.2.1)), (24, mkG sh9_1_l24 [1, 10] (outT [(.exit 6, [1]), (.ret, [2])]) (fun d K => l24 d.2.1.2.1 d.2.1.2.2.1 d.2.1.2.2.2.1 d.2.1.2.2.2.2.1 (fun (y5 : List Int) => K .ret [.tv (.lf (.bool false))] [some ⟨false, [.int .i64 d.2.1.2.1, .int .i64 d.2.1.2.2.1, .int .i64 d.2.1.2.2.2.1, .int .i64 d.2.1.2.2.2.2.1]⟩, some ⟨false, [.seq (.int .i64) 0 y5]⟩]) (K (.exit 6) [.tv (.lf (.ptr 0 0))] [some ⟨false, [.int .i64 d.2.1.2.1, .int .i64 d.2.1.2.2.1, .int .i64 d.2.1.2.2.2.1, .int .i64 d.2.1.2.2.2.2.1]⟩]) F d.1.2.1))]) code9 Try.f9.results.toList (encT sh9_1.vs d.1) (encH sh9_1.h d.2) K = (fun (a1 : Int) (a2 : Int) (a3 : Int) (a4 : Int) (K0 : (Bool → Option Res)) => c46_1 a1 a2 a3 a4 (fun x1 => cond (!x1) (c48_1 a1 a2 a3 a4 (fun x2 => cond (((x2.length : Nat) : Int) == 0) (c62_1  (fun x3 => K0 x3) ) (K0 false)) ) (c50_1 a1 a2 a3 a4 (fun x4 => cond (decide ((0 : Int) ≤ x4 ∧ x4 ≤ x4 ∧ x4 ≤ 70368744177664 ∧ x4 * 1 ≤ 70368744177664)) (l6 x4 a1 a2 a3 a4 (fun x25 x26 => K0 false) (fun x27 => l19 x4 a1 a2 a3 a4 x27 (K0 false) (l24 a1 a2 a3 a4 (fun x43 => K0 false) (c54_1 a1 a2 a3 a4 (fun x44 => c56_1 a1 a2 a3 a4 x44 (fun x45 => cond (x45 == (-1)) (c62_1  (fun x46 => K0 x46) ) (K0 false)) ) ) F 0) F 0) F 0 (List.replicate x4.toNat false)) none) )) ) d.1.1.1 d.1.1.2.1 d.1.1.2.2.1 d.1.1.2.2.2.1 (fun (y0 : Bool) => K [.lf (.bool y0)] []) := by kernel_rfl
theorem E9_1 (F : Nat) (d : sh9_1.den) (K : KF) : evBody Try.prog (T9_1 F) 134 0 (LT9_1 F) code9 Try.f9.results.toList (encT sh9_1.vs d.1) (encH sh9_1.h d.2) K = f9_1 F d.1.1.1 d.1.1.2.1 d.1.1.2.2.1 d.1.1.2.2.2.1 (fun (y0 : Bool) => K [.lf (.bool y0)] []) := Eq.mp (by kernel_rfl) (E9_1g F (f46_1 F) (f48_1 F) (f50_1 F) (f52_1 F) (f54_1 F) (f56_1 F) (f58_1 F) (f60_1 F) (f62_1 F) (f9_1_l6 F) (f9_1_l19 F) (f9_1_l24 F) (G9_1_12 F F) d K)
theorem S9_1_ok (F : Nat) (o : Summ) (ho : SoundFn Try.prog 9 o) : SoundFn Try.prog 9 (S9_1 F o) :=
  soundFn_of (fn := Try.f9) (c := code9) (by kernel_rfl) (tab_cons (S46_1_ok F _ (noS_sound enter46)) (tab_cons (S48_1_ok F _ (noS_sound enter48)) (tab_cons (S50_1_ok F _ (noS_sound enter50)) (tab_cons (S52_1_ok F _ (noS_sound enter52)) (tab_cons (S54_1_ok F _ (noS_sound enter54)) (tab_cons (S56_1_ok F _ (noS_sound enter56)) (tab_cons (S58_1_ok F _ (noS_sound enter58)) (tab_cons (S60_1_ok F _ (noS_sound enter60)) (tab_cons (S62_1_ok F _ (noS_sound enter62)) tab_nil))))))))) (by kernel_rfl) (by kernel_rfl) ho (by rw [loops9]; exact (loopsOK_cons (by kernel_rfl) (L9_1_6 F) (loopsOK_cons (by kernel_rfl) (L9_1_12 F) (loopsOK_cons (by kernel_rfl) (L9_1_19 F) (loopsOK_cons (by kernel_rfl) (L9_1_24 F) loopsOK_nil))))) (by rw [scopes9]; exact scopesOK_nil) (E9_1 F)
end Go.Proofs.Ytlokielmpdjedaa.X
end

section
/- Trees' shapes: a family is whole; the law. -/
namespace Go.Proofs.Ytlokielmpdjedaa.X
open Go Go.Proofs.Ytlokielmpdjedaa.Ev
set_option linter.unusedVariables false

/-- A list of marks. -/
def sn (P : Nat → Bool) (N : Nat) : List Bool := (List.range N).map P

theorem sn_len (P : Nat → Bool) (N : Nat) : (sn P N).length = N := by simp [sn]
theorem sn_get (P : Nat → Bool) {N i : Nat} (h : i < N) : (sn P N).getD i false = P i := by
  simp [sn, List.getD_eq_getElem?_getD, h]
theorem sn_set (P : Nat → Bool) (N i : Nat) : (sn P N).set i true = sn (fun j => P j || decide (j = i)) N := by
  apply List.ext_getElem
  · simp [sn]
  · intro j h1 h2
    simp only [sn, List.getElem_set, List.getElem_map, List.getElem_range]
    by_cases hj : i = j
    · subst hj; simp
    · rw [if_neg hj]; simp [Ne.symm hj]
theorem sn_rep {P : Nat → Bool} {N : Nat} (h : ∀ j, j < N → P j = false) : List.replicate N false = sn P N := by
  apply List.ext_getElem
  · simp [sn]
  · intro j h1 h2
    simp [sn] at h2 ⊢
    rw [h j h2]
theorem sn_ext {P Q : Nat → Bool} {N : Nat} (h : ∀ j, j < N → P j = Q j) : sn P N = sn Q N := by
  apply List.ext_getElem
  · simp [sn]
  · intro j h1 h2
    simp [sn] at h2 ⊢
    exact h j h2

theorem chl_ne {f k : Int} (hf : 2 ≤ f ∧ f ≤ 4) : ∀ (r : List Int) (a s : Int), pos (a :: r) → chain f (a :: r) → s + a ≤ k → k < s + sumI (a :: r) → chl f k s (a :: r) ≠ []
  | [], a, s, h, hc, h0, h1 => by
    have e1 : sumI [a] = a + 0 := rfl
    omega
  | b :: r, a, s, h, hc, h0, h1 => by
    obtain ⟨g1, g2, g3⟩ := hc
    have e1 : sumI (a :: b :: r) = a + sumI (b :: r) := rfl
    simp only [chl]
    by_cases hq : s + a ≤ k ∧ k < s + a + b
    · rw [if_pos hq]
      intro hn
      have hm := (kids_mem (f := f) (s := s) (a := a) (q := k - (s + a)) (x := s + (k - (s + a)) * f) hf (by omega)).2
      rw [hn] at hm
      have : f = 2 ∨ f = 3 ∨ f = 4 := by omega
      rcases this with rfl | rfl | rfl <;> exact List.not_mem_nil (hm (by omega))
    · rw [if_neg hq]
      exact chl_ne hf r b (s + a) (pos_tl h).2 g3 (by omega) (by omega)

theorem par_root {f x : Int} (hf : 2 ≤ f ∧ f ≤ 4) : ∀ (r : List Int) (a s : Int), pos (a :: r) → chain f (a :: r) → 0 ≤ s → s ≤ x → x < s + sumI (a :: r) → (par f x s (a :: r) = -1 ↔ x = s + sumI (a :: r) - 1)
  | [], a, s, h, hc, hs, h0, h1 => by
    have hc : a = 1 := hc
    subst hc
    have e1 : sumI [1] = 1 := rfl
    simp only [par, true_iff]
    omega
  | b :: r, a, s, h, hc, hs, h0, h1 => by
    have ha := (pos_tl h).1
    have hb := (pos_tl (pos_tl h).2).1
    have hn := sum_nn (pos_tl (pos_tl h).2).2
    have e1 : sumI (a :: b :: r) = a + sumI (b :: r) := rfl
    have e2 : sumI (b :: r) = b + sumI r := rfl
    obtain ⟨g1, g2, g3⟩ := hc
    simp only [par]
    by_cases hx : s ≤ x ∧ x < s + a
    · have hd := div_up (y := x - s) hf g2 (by omega)
      rw [if_pos hx]
      omega
    · rw [if_neg hx, par_root hf r b (s + a) (pos_tl h).2 g3 (by omega) (by omega) (by omega)]
      omega

theorem chs_empty {n f c u k : Int} (h : rt n f c u) (h0 : 0 ≤ k) (h1 : k < nodes n f c u) : (((chs f k (levels n f c u)).length : Int) == 0) = decide (k < n) := by
  by_cases hk : k < n
  · have : chs f k (levels n f c u) = [] := by
      apply List.eq_nil_iff_forall_not_mem.2
      intro x hx
      have := (chs_mem h h0).1 hx
      have := prn_bd (x := x) h
      omega
    simp [this, hk]
  · have : chs f k (levels n f c u) ≠ [] := by
      obtain ⟨r, hr⟩ := levels_cons h
      have hc := lev_chain h
      have hp := lev_pos n f c u
      unfold nodes at h1
      rw [chs_chl _ hp]
      rw [hr] at hc hp h1 ⊢
      exact chl_ne h.2.1 r n 0 hp hc (by omega) (by omega)
    have : (chs f k (levels n f c u)).length ≠ 0 := fun h => this (List.length_eq_zero_iff.1 h)
    simp only [hk, decide_false]
    simpa using this

theorem prn_root {n f c u x : Int} (h : rt n f c u) (h0 : 0 ≤ x) (h1 : x < nodes n f c u) : prn n f c u x = -1 ↔ x = nodes n f c u - 1 := by
  obtain ⟨r, hr⟩ := levels_cons h
  have hc := lev_chain h
  have hp := lev_pos n f c u
  unfold nodes at h1 ⊢
  unfold prn
  rw [hr] at hc hp h1 ⊢
  have := par_root (x := x) h.2.1 r n 0 hp hc (by omega) h0 (by omega)
  omega

theorem chs_sorted {n f c u k : Int} : (chs f k (levels n f c u)).Pairwise (· < ·) := by
  unfold chs
  split
  · exact kids_nodup _
  · exact List.Pairwise.nil

def before (n f c u k : Int) (j : Nat) : Bool := decide (0 ≤ prn n f c u (j : Int) ∧ prn n f c u (j : Int) < k)

theorem fam12 {β : Type} {n f c u k : Int} (h : rt n f c u) (h0 : 0 ≤ k) (h1 : k < nodes n f c u) {K0 K1 : List Bool → Option β} : ∀ (r p : List Int) (i m : Nat), chs f k (levels n f c u) = p ++ r → i = p.length → r.length < m →
    f9_1_l12 20000 (nodes n f c u) k n f c u (chs f k (levels n f c u)) K0 K1 m (i : Int) (sn (fun j => before n f c u k j || decide ((j : Int) ∈ p)) (nodes n f c u).toNat) = K1 (sn (before n f c u (k + 1)) (nodes n f c u).toNat)
  | [], p, i, m, e, hi, hm => by
    cases m with
    | zero => omega
    | succ m =>
      simp only [f9_1_l12]
      rw [cf (by rw [e]; simp; omega)]
      congr 1
      apply sn_ext
      intro j hj
      have hmem := chs_mem (x := (j : Int)) h h0
      rw [e, List.append_nil] at hmem
      have hb := prn_bd (x := (j : Int)) h
      unfold before
      rw [← Bool.decide_or]
      apply decide_eq_decide.2
      rw [hmem]
      omega
  | y :: r, p, i, m, e, hi, hm => by
    cases m with
    | zero => omega
    | succ m =>
      have hn := nodes_ok n f c u
      have hl := chs_len f k (levels n f c u)
      have hf := h.2.1
      have hlen : (chs f k (levels n f c u)).length = p.length + 1 + r.length := by rw [e]; simp; omega
      have hy : prn n f c u y = k := (chs_mem h h0).1 (by rw [e]; simp)
      have hb := prn_bd (x := y) h
      have hg : (chs f k (levels n f c u)).getD (0 + (i : Int).toNat) 0 = y := by
        rw [e, hi]; simp
      have hnp : y ∉ p := by
        intro hyp
        have hs := chs_sorted (n := n) (f := f) (c := c) (u := u) (k := k)
        rw [e, List.pairwise_append] at hs
        have := hs.2.2 y hyp y (by simp)
        omega
      have hs : (sn (fun j => before n f c u k j || decide ((j : Int) ∈ p)) (nodes n f c u).toNat).getD (0 + y.toNat) false = false := by
        rw [Nat.zero_add, sn_get _ (by omega)]
        have e1 : ((y.toNat : Nat) : Int) = y := by omega
        unfold before
        rw [e1, hy]
        simp [hnp]
      have e2 : (prn n f c u y != k) = false := by rw [hy]; simp
      simp only [f9_1_l12, par56]
      rw [ct (by omega), ct (by omega), ct (by omega), hg, cf (by omega), cf (by omega), e2, cond_false, sn_len, ct (by omega), ct (by omega), hs, cond_false, ct (by omega), ct (by omega), w64 (by omega) (by omega),
        show ((i : Int) + 1) = ((i + 1 : Nat) : Int) by omega, sn_set]
      have ih := fam12 (K0 := K0) (K1 := K1) h h0 h1 r (p ++ [y]) (i + 1) m (by rw [e]; simp) (by simp [hi]) (by simpa using hm)
      rw [← ih]
      congr 1
      apply sn_ext
      intro j hj
      have : decide ((j : Int) ∈ p ++ [y]) = (decide ((j : Int) ∈ p) || decide (j = 0 + y.toNat)) := by
        rw [← Bool.decide_or]
        apply decide_eq_decide.2
        have hjy : ((j : Int) = y) ↔ (j = 0 + y.toNat) := by omega
        simp only [List.mem_append, List.mem_singleton, hjy]
      rw [this, Bool.or_assoc]

theorem fam6 {β : Type} {n f c u : Int} (h : rt n f c u) {K0 : List Bool → List Int → Option β} {K1 : List Bool → Option β} : ∀ (m i k : Nat), (i : Int) + m = nodes n f c u → m < k →
    f9_1_l6 20000 (nodes n f c u) n f c u K0 K1 k (i : Int) (sn (before n f c u (i : Int)) (nodes n f c u).toNat) = K1 (sn (before n f c u (nodes n f c u)) (nodes n f c u).toNat)
  | 0, i, k, hi, hk => by
    cases k with
    | zero => omega
    | succ k =>
      simp only [f9_1_l6]
      rw [cf (by omega), show (i : Int) = nodes n f c u by omega]
  | m + 1, i, k, hi, hk => by
    cases k with
    | zero => omega
    | succ k =>
      have hn := nodes_ok n f c u
      have hl := chs_len f (i : Int) (levels n f c u)
      have hf := h.2.1
      have hem := chs_empty (k := (i : Int)) h (by omega) (by omega)
      simp only [f9_1_l6, chs58]
      rw [ct (by omega), cf (by omega), hem]
      simp only [beq_self_eq_true, Bool.not_true, cond_false]
      have e0 : sn (before n f c u (i : Int)) (nodes n f c u).toNat = sn (fun j => before n f c u (i : Int) j || decide ((j : Int) ∈ ([] : List Int))) (nodes n f c u).toNat := sn_ext fun j _ => by simp
      rw [e0]
      have := fam12 (k := (i : Int)) (K0 := fun x23 => K0 x23 (chs f (i : Int) (levels n f c u))) (K1 := fun x24 => f9_1_l6 20000 (nodes n f c u) n f c u K0 K1 k (IntKind.i64.wrap ((i : Int) + 1)) x24) h (by omega) (by omega) (chs f (i : Int) (levels n f c u)) [] 0 20000 rfl rfl (by omega)
      rw [show ((0 : Nat) : Int) = 0 from rfl] at this
      rw [this, w64 (by omega) (by omega), show ((i : Int) + 1) = ((i + 1 : Nat) : Int) by omega]
      exact fam6 h m (i + 1) k (by omega) (by omega)

theorem fam19 {β : Type} {n f c u : Int} (h : rt n f c u) {K0 K1 : Option β} : ∀ (m i k : Nat), (i : Int) + m + 1 = nodes n f c u → m < k →
    f9_1_l19 20000 (nodes n f c u) n f c u (sn (before n f c u (nodes n f c u)) (nodes n f c u).toNat) K0 K1 k (i : Int) = K1
  | 0, i, k, hi, hk => by
    cases k with
    | zero => omega
    | succ k =>
      have hn := nodes_ok n f c u
      simp only [f9_1_l19]
      rw [w64 (by omega) (by omega), cf (by omega)]
  | m + 1, i, k, hi, hk => by
    cases k with
    | zero => omega
    | succ k =>
      have hn := nodes_ok n f c u
      have hb := prn_bd (x := (i : Int)) h
      have hr := prn_root (x := (i : Int)) h (by omega) (by omega)
      have hs : (sn (before n f c u (nodes n f c u)) (nodes n f c u).toNat).getD (0 + (i : Int).toNat) false = true := by
        rw [show 0 + (i : Int).toNat = i by omega, sn_get _ (by omega)]
        unfold before
        simp only [decide_eq_true_eq]
        omega
      simp only [f9_1_l19]
      rw [w64 (by omega) (by omega), ct (by omega), sn_len, ct (by omega), ct (by omega), hs]
      simp only [Bool.not_true, cond_false]
      rw [show ((i : Int) + 1) = ((i + 1 : Nat) : Int) by omega]
      exact fam19 h m (i + 1) k (by omega) (by omega)

theorem path_leaf {n f c u x : Int} (h : rt n f c u) (h0 : 0 ≤ x) (h1 : x < n) : ((path n f c u x).length : Int) = hgt n f c u + 1 ∧ (path n f c u x).getD 0 0 = x ∧ (path n f c u x).getD ((path n f c u x).length - 1) 0 = root n f c u := by
  obtain ⟨r, hr⟩ := levels_cons h
  have hc := lev_chain h
  have hp := lev_pos n f c u
  unfold path hgt root nodes
  rw [if_pos ⟨h0, h1⟩, if_pos h, if_pos h]
  rw [hr] at hc hp ⊢
  obtain ⟨q1, q2, q3⟩ := pth_leaf h.2.1 r x n 0 hp hc h0 (by omega)
  refine ⟨by rw [q1]; simp, q2, ?_⟩
  rw [q1, Nat.add_sub_cancel, q3]; omega

theorem fam24 {β : Type} {n f c u : Int} (h : rt n f c u) {K0 : List Int → Option β} {K1 : Option β} : ∀ (m i k : Nat), (i : Int) + m = n → m < k → f9_1_l24 20000 n f c u K0 K1 k (i : Int) = K1
  | 0, i, k, hi, hk => by
    cases k with
    | zero => omega
    | succ k =>
      simp only [f9_1_l24]
      rw [cf (by omega)]
  | m + 1, i, k, hi, hk => by
    cases k with
    | zero => omega
    | succ k =>
      have h1 := h.1
      have hl := path_len n f c u (i : Int)
      obtain ⟨q1, q2, q3⟩ := path_leaf (x := (i : Int)) h (by omega) (by omega)
      have hh : 0 ≤ hgt n f c u := by
        unfold hgt
        obtain ⟨r, hr⟩ := levels_cons h
        rw [if_pos h, hr]; simp
      simp only [f9_1_l24, path60, hgt52, root54]
      rw [ct (by omega), w64 (x := hgt n f c u + 1) (by omega) (by omega), w64 (x := ((path n f c u (i : Int)).length : Int) - 1) (by omega) (by omega),
        show 0 + (((path n f c u (i : Int)).length : Int) - 1).toNat = (path n f c u (i : Int)).length - 1 by omega, q2, q3]
      have e1 : (((path n f c u (i : Int)).length : Int) != hgt n f c u + 1) = false := by rw [q1]; simp
      rw [e1, cond_false, ct (by omega), ct (by omega)]
      simp only [bne_self_eq_false, cond_false]
      rw [ct (by omega), ct (by omega), w64 (by omega) (by omega), show ((i : Int) + 1) = ((i + 1 : Nat) : Int) by omega]
      exact fam24 h m (i + 1) k (by omega) (by omega)

end Go.Proofs.Ytlokielmpdjedaa.X
end

section
/- Places of a disk, one after another: no two places on a disk are one, and together they fill it. -/
namespace Go.Proofs.Ytlokielmpdjedaa.X
open Go Go.Proofs.Ytlokielmpdjedaa.Ev
set_option linter.unusedVariables false

theorem sum_up {f : Int} (hf : 2 ≤ f ∧ f ≤ 4) : ∀ (r : List Int) (a : Int), pos (a :: r) → chain f (a :: r) → sumI (a :: r) ≤ 3 * a - 2
  | [], a, h, hc => by
    have hc : a = 1 := hc
    subst hc
    decide
  | b :: r, a, h, hc => by
    obtain ⟨g1, g2, g3⟩ := hc
    have e1 : sumI (a :: b :: r) = a + sumI (b :: r) := rfl
    have ih := sum_up hf r b (pos_tl h).2 g3
    have : f = 2 ∨ f = 3 ∨ f = 4 := by omega
    rcases this with rfl | rfl | rfl <;> omega

theorem nodes_up {n f c u : Int} (h : rt n f c u) : nodes n f c u ≤ 384 := by
  obtain ⟨r, hr⟩ := levels_cons h
  have hc := lev_chain h
  have hp := lev_pos n f c u
  have h1 := h.1
  unfold nodes
  rw [hr] at hc hp ⊢
  have := sum_up h.2.1 r n hp hc
  omega

def pd (n i : Int) : Int := if 0 ≤ i ∧ i < n then 6 + i else -1
def pn (n N i : Int) : Int := if 0 ≤ i ∧ i < N then 6 + n + i else -1
def pa (n N A i : Int) : Int := if 0 ≤ i ∧ i < A then 6 + n + N + i else -1

theorem pd64 {β : Type} {F : Nat} (hF : F = 20000) {n f c u i : Int} {K : Int → Option β} (h : rt n f c u) : f64_1 F n f c u i K = K (pd n i) := by
  subst hF
  have h1 := h.1
  simp only [f64_1, right46, within87, h, decide_true, Bool.not_true, cond_false]
  rw [w64 (by omega) (by omega)]
  unfold pd
  by_cases hi : 0 ≤ i ∧ i < n
  · have e : decide (i ≥ 0 ∧ i ≤ n - 1) = true := by simp; omega
    rw [e, if_pos hi, w64 (by omega) (by omega)]; rfl
  · have e : decide (i ≥ 0 ∧ i ≤ n - 1) = false := by simp; omega
    rw [e, if_neg hi]; rfl

theorem pn66 {β : Type} {F : Nat} (hF : F = 20000) {n f c u i : Int} {K : Int → Option β} (h : rt n f c u) : f66_1 F n f c u i K = K (pn n (nodes n f c u) i) := by
  subst hF
  have h1 := h.1
  have hn := nodes_ok n f c u
  have hn2 := hn.2.2.1 h
  simp only [f66_1, right46, root54, within87, h, decide_true, Bool.not_true, cond_false]
  unfold pn root
  rw [if_pos h]
  by_cases hi : 0 ≤ i ∧ i < nodes n f c u
  · have e : decide (i ≥ 0 ∧ i ≤ nodes n f c u - 1) = true := by simp; omega
    rw [e, if_pos hi, w64 (x := 6 + n) (by omega) (by omega), w64 (by omega) (by omega)]; rfl
  · have e : decide (i ≥ 0 ∧ i ≤ nodes n f c u - 1) = false := by simp; omega
    rw [e, if_neg hi]; rfl

theorem pa68 {β : Type} {F : Nat} (hF : F = 20000) {n f c u s i : Int} {K : Int → Option β} (h : rt n f c u) (hs : 0 ≤ ar c u s) : f68_1 F n f c u s i K = K (pa n (nodes n f c u) (ar c u s) i) := by
  subst hF
  have h1 := h.1
  have hn := nodes_ok n f c u
  have ha := ar_ok (s := s) h
  simp only [f68_1, nodes50, within87]
  rw [area86 (K (-1)) (fun x => rfl), if_pos ⟨h, hs⟩]
  simp only [Bool.not_true, cond_false]
  rw [w64 (x := ar c u s - 1) (by omega) (by omega)]
  unfold pa
  by_cases hi : 0 ≤ i ∧ i < ar c u s
  · have e : decide (i ≥ 0 ∧ i ≤ ar c u s - 1) = true := by simp; omega
    rw [e, if_pos hi, w64 (x := 6 + n) (by omega) (by omega), w64 (x := 6 + n + nodes n f c u) (by omega) (by omega), w64 (by omega) (by omega)]; rfl
  · have e : decide (i ≥ 0 ∧ i ≤ ar c u s - 1) = false := by simp; omega
    rw [e, if_neg hi]; rfl

theorem stepv {β : Type} {F W : Nat} {s sz i n f c u : Int} {l : List Int} {K0 : List Bool → Option β} {K1 : Int → List Bool → Option β} {k j : Nat} {cnt v : Int} {P : Nat → Bool} (hW : W = 2000) (hj : j < l.length) (hl : l.length ≤ 3) (hv : l.getD j 0 = v)
    (hok : v = -1 ∨ (6 ≤ v ∧ v < sz ∧ v < W ∧ P v.toNat = false)) (hc : 0 ≤ cnt ∧ cnt ≤ 100000) :
    f11_1_l11 F s sz i n f c u l K0 K1 (k + 1) cnt (j : Int) (sn P W) = f11_1_l11 F s sz i n f c u l K0 K1 k (if v = -1 then cnt else cnt + 1) ((j + 1 : Nat) : Int) (sn (fun p => P p || decide ((p : Int) = v)) W) := by
  have hg : l.getD (0 + (j : Int).toNat) 0 = v := by rw [show 0 + (j : Int).toNat = j by omega]; exact hv
  have ej : IntKind.i64.wrap ((j : Int) + 1) = ((j + 1 : Nat) : Int) := by rw [w64 (by omega) (by omega)]; omega
  rw [f11_1_l11]
  rw [ct (by omega), ct (by omega), ct (by omega), hg, ej]
  rcases hok with rfl | ⟨g1, g2, g3, g4⟩
  · rw [ct (by omega), if_pos rfl]
    refine congrArg (f11_1_l11 F s sz i n f c u l K0 K1 k _ _) (sn_ext ?_)
    intro p hp
    have : ¬ ((p : Int) = -1) := by omega
    simp [this]
  · rw [cf (by omega), cf (by omega), cf (by omega), cf (by omega), sn_len, ct (by omega), ct (by omega), show 0 + v.toNat = v.toNat by omega, sn_get _ (by omega), g4, cond_false, ct (by omega), ct (by omega), if_neg (by omega),
      w64 (x := cnt + 1) (by omega) (by omega), sn_set]
    refine congrArg (f11_1_l11 F s sz i n f c u l K0 K1 k _ _) (sn_ext ?_)
    intro p hp
    congr 1
    exact decide_eq_decide.2 (by omega)

theorem endv {β : Type} {F : Nat} {s sz i n f c u : Int} {l : List Int} {K0 : List Bool → Option β} {K1 : Int → List Bool → Option β} {k j : Nat} {cnt : Int} {S : List Bool} (hj : j = l.length) :
    f11_1_l11 F s sz i n f c u l K0 K1 (k + 1) cnt (j : Int) S = K1 cnt S := by
  rw [f11_1_l11, cf (by omega)]

/-- What is marked before the number i. -/
def mk3 (n N A i : Int) (p : Nat) : Bool := decide ((6 ≤ (p : Int) ∧ (p : Int) < 6 + n ∧ (p : Int) < 6 + i) ∨ (6 + n ≤ (p : Int) ∧ (p : Int) < 6 + n + N ∧ (p : Int) < 6 + n + i) ∨ (6 + n + N ≤ (p : Int) ∧ (p : Int) < 6 + n + N + A ∧ (p : Int) < 6 + n + N + i))
def mn (n i : Int) : Int := if i < n then i else n
def ct3 (n N A i : Int) : Int := mn n i + mn N i + mn A i

theorem ct_next {n N A v1 v2 v3 : Int} {i : Nat} (q1 : (v1 = -1 ∧ n ≤ (i : Int)) ∨ (v1 = 6 + (i : Int) ∧ (i : Int) < n)) (q2 : (v2 = -1 ∧ N ≤ (i : Int)) ∨ (v2 = 6 + n + (i : Int) ∧ (i : Int) < N)) (q3 : (v3 = -1 ∧ A ≤ (i : Int)) ∨ (v3 = 6 + n + N + (i : Int) ∧ (i : Int) < A))
    (hn : 1 ≤ n) (hN : 1 ≤ N) :
    (if v3 = -1 then (if v2 = -1 then (if v1 = -1 then ct3 n N A (i : Int) else ct3 n N A (i : Int) + 1) else (if v1 = -1 then ct3 n N A (i : Int) else ct3 n N A (i : Int) + 1) + 1) else (if v2 = -1 then (if v1 = -1 then ct3 n N A (i : Int) else ct3 n N A (i : Int) + 1) else (if v1 = -1 then ct3 n N A (i : Int) else ct3 n N A (i : Int) + 1) + 1) + 1)
          = ct3 n N A ((i + 1 : Nat) : Int) := by
  have z1 : mn n ((i + 1 : Nat) : Int) = if v1 = -1 then mn n (i : Int) else mn n (i : Int) + 1 := by unfold mn; split <;> split <;> split <;> omega
  have z2 : mn N ((i + 1 : Nat) : Int) = if v2 = -1 then mn N (i : Int) else mn N (i : Int) + 1 := by unfold mn; split <;> split <;> split <;> omega
  have z3 : mn A ((i + 1 : Nat) : Int) = if v3 = -1 then mn A (i : Int) else mn A (i : Int) + 1 := by unfold mn; split <;> split <;> split <;> omega
  unfold ct3
  rw [z1, z2, z3]
  by_cases b1 : v1 = -1 <;> by_cases b2 : v2 = -1 <;> by_cases b3 : v3 = -1 <;> simp only [b1, b2, b3, if_true, if_false] <;> omega

theorem mk_next {n N A v1 v2 v3 : Int} {i W : Nat} (q1 : (v1 = -1 ∧ n ≤ (i : Int)) ∨ (v1 = 6 + (i : Int) ∧ (i : Int) < n)) (q2 : (v2 = -1 ∧ N ≤ (i : Int)) ∨ (v2 = 6 + n + (i : Int) ∧ (i : Int) < N)) (q3 : (v3 = -1 ∧ A ≤ (i : Int)) ∨ (v3 = 6 + n + N + (i : Int) ∧ (i : Int) < A))
    (hN : 1 ≤ N) (hn : 1 ≤ n) :
    sn (fun p => ((mk3 n N A (i : Int) p || decide ((p : Int) = v1)) || decide ((p : Int) = v2)) || decide ((p : Int) = v3)) W = sn (mk3 n N A ((i + 1 : Nat) : Int)) W := by
  apply sn_ext
  intro p hp
  unfold mk3
  rw [← Bool.decide_or, ← Bool.decide_or, ← Bool.decide_or]
  apply decide_eq_decide.2
  have z1 : (6 ≤ (p : Int) ∧ (p : Int) < 6 + n ∧ (p : Int) < 6 + ((i + 1 : Nat) : Int)) ↔ ((6 ≤ (p : Int) ∧ (p : Int) < 6 + n ∧ (p : Int) < 6 + (i : Int)) ∨ (p : Int) = v1) := by omega
  have z2 : (6 + n ≤ (p : Int) ∧ (p : Int) < 6 + n + N ∧ (p : Int) < 6 + n + ((i + 1 : Nat) : Int)) ↔ ((6 + n ≤ (p : Int) ∧ (p : Int) < 6 + n + N ∧ (p : Int) < 6 + n + (i : Int)) ∨ (p : Int) = v2) := by omega
  have z3 : (6 + n + N ≤ (p : Int) ∧ (p : Int) < 6 + n + N + A ∧ (p : Int) < 6 + n + N + ((i + 1 : Nat) : Int)) ↔ ((6 + n + N ≤ (p : Int) ∧ (p : Int) < 6 + n + N + A ∧ (p : Int) < 6 + n + N + (i : Int)) ∨ (p : Int) = v3) := by omega
  rw [z1, z2, z3]
  simp only [or_assoc, or_comm, or_left_comm]

theorem ap7 {β : Type} {F W : Nat} (hF : F = 20000) (hW : W = 2000) {n f c u s : Int} (h : rt n f c u) (hs : 0 ≤ ar c u s) {K0 : List Bool → List Int → Option β} {K1 : Int → List Bool → Option β} : ∀ (m i k : Nat), i + m = 2000 → m < k →
    f11_1_l7 F s (sz n f c u s) n f c u K0 K1 k (ct3 n (nodes n f c u) (ar c u s) (i : Int)) (i : Int) (sn (mk3 n (nodes n f c u) (ar c u s) (i : Int)) W) =
      K1 (ct3 n (nodes n f c u) (ar c u s) 2000) (sn (mk3 n (nodes n f c u) (ar c u s) 2000) W)
  | 0, i, k, hi, hk => by
    cases k with
    | zero => omega
    | succ k =>
      rw [f11_1_l7, cf (by omega), show (i : Int) = 2000 by omega]
  | m + 1, i, k, hi, hk => by
    cases k with
    | zero => omega
    | succ k =>
      have h1 := h.1
      have hn := nodes_ok n f c u
      have hn2 := hn.2.2.1 h
      have hn3 := nodes_up h
      have ha := ar_ok (s := s) h
      have hsz : sz n f c u s = 6 + n + nodes n f c u + ar c u s := by unfold sz; rw [if_pos ⟨h, hs⟩]
      rw [f11_1_l7, ct (by omega)]
      simp only [pd64 hF h, pn66 hF h, pa68 hF h hs]
      have hcb : 0 ≤ ct3 n (nodes n f c u) (ar c u s) (i : Int) ∧ ct3 n (nodes n f c u) (ar c u s) (i : Int) ≤ 50000 := by
        unfold ct3 mn; split <;> split <;> split <;> omega
      generalize hd1 : pd n (i : Int) = v1
      generalize hd2 : pn n (nodes n f c u) (i : Int) = v2
      generalize hd3 : pa n (nodes n f c u) (ar c u s) (i : Int) = v3
      have q1 : (v1 = -1 ∧ n ≤ (i : Int)) ∨ (v1 = 6 + (i : Int) ∧ (i : Int) < n) := by
        rw [← hd1]; unfold pd; split <;> omega
      have q2 : (v2 = -1 ∧ nodes n f c u ≤ (i : Int)) ∨ (v2 = 6 + n + (i : Int) ∧ (i : Int) < nodes n f c u) := by
        rw [← hd2]; unfold pn; split <;> omega
      have q3 : (v3 = -1 ∧ ar c u s ≤ (i : Int)) ∨ (v3 = 6 + n + nodes n f c u + (i : Int) ∧ (i : Int) < ar c u s) := by
        rw [← hd3]; unfold pa; split <;> omega
      generalize hN : nodes n f c u = N at *
      generalize hA : ar c u s = A at *
      obtain ⟨G, hG⟩ : ∃ G, F = G + 1 + 1 + 1 + 1 := ⟨19996, by omega⟩
      have t1 := stepv (β := β) (F := F) (W := W) (s := s) (sz := sz n f c u s) (i := (i : Int)) (n := n) (f := f) (c := c) (u := u) (l := [v1, v2, v3]) (K0 := fun x29 => K0 x29 [v1, v2, v3]) (K1 := fun x30 x31 => f11_1_l7 F s (sz n f c u s) n f c u K0 K1 k x30 (IntKind.i64.wrap ((i : Int) + 1)) x31)
        (k := G + 1 + 1 + 1) (j := 0) (cnt := ct3 n N A (i : Int)) (v := v1) (P := mk3 n N A (i : Int)) hW (by simp) (by simp) rfl (by
          rcases q1 with ⟨q, _⟩ | ⟨q, _⟩
          · exact Or.inl q
          · refine Or.inr ⟨by omega, by omega, by omega, ?_⟩
            unfold mk3; simp only [decide_eq_false_iff_not]; omega) (by omega)
      rw [show ((0 : Nat) : Int) = 0 from rfl] at t1
      have c1 : 0 ≤ (if v1 = -1 then ct3 n N A (i : Int) else ct3 n N A (i : Int) + 1) ∧ (if v1 = -1 then ct3 n N A (i : Int) else ct3 n N A (i : Int) + 1) ≤ 60000 := by split <;> omega
      have t2 := stepv (β := β) (F := F) (W := W) (s := s) (sz := sz n f c u s) (i := (i : Int)) (n := n) (f := f) (c := c) (u := u) (l := [v1, v2, v3]) (K0 := fun x29 => K0 x29 [v1, v2, v3]) (K1 := fun x30 x31 => f11_1_l7 F s (sz n f c u s) n f c u K0 K1 k x30 (IntKind.i64.wrap ((i : Int) + 1)) x31)
        (k := G + 1 + 1) (j := 1) (cnt := if v1 = -1 then ct3 n N A (i : Int) else ct3 n N A (i : Int) + 1) (v := v2) (P := fun p => mk3 n N A (i : Int) p || decide ((p : Int) = v1)) hW (by simp) (by simp) rfl (by
          rcases q2 with ⟨q, _⟩ | ⟨q, _⟩
          · exact Or.inl q
          · refine Or.inr ⟨by omega, by omega, by omega, ?_⟩
            unfold mk3; simp only [Bool.or_eq_false_iff, decide_eq_false_iff_not]; omega) (by omega)
      have c2 : 0 ≤ (if v2 = -1 then (if v1 = -1 then ct3 n N A (i : Int) else ct3 n N A (i : Int) + 1) else (if v1 = -1 then ct3 n N A (i : Int) else ct3 n N A (i : Int) + 1) + 1) ∧ (if v2 = -1 then (if v1 = -1 then ct3 n N A (i : Int) else ct3 n N A (i : Int) + 1) else (if v1 = -1 then ct3 n N A (i : Int) else ct3 n N A (i : Int) + 1) + 1) ≤ 70000 := by split <;> omega
      have t3 := stepv (β := β) (F := F) (W := W) (s := s) (sz := sz n f c u s) (i := (i : Int)) (n := n) (f := f) (c := c) (u := u) (l := [v1, v2, v3]) (K0 := fun x29 => K0 x29 [v1, v2, v3]) (K1 := fun x30 x31 => f11_1_l7 F s (sz n f c u s) n f c u K0 K1 k x30 (IntKind.i64.wrap ((i : Int) + 1)) x31)
        (k := G + 1) (j := 2) (cnt := if v2 = -1 then (if v1 = -1 then ct3 n N A (i : Int) else ct3 n N A (i : Int) + 1) else (if v1 = -1 then ct3 n N A (i : Int) else ct3 n N A (i : Int) + 1) + 1) (v := v3) (P := fun p => (mk3 n N A (i : Int) p || decide ((p : Int) = v1)) || decide ((p : Int) = v2)) hW (by simp) (by simp) rfl (by
          rcases q3 with ⟨q, _⟩ | ⟨q, _⟩
          · exact Or.inl q
          · refine Or.inr ⟨by omega, by omega, by omega, ?_⟩
            unfold mk3; simp only [Bool.or_eq_false_iff, decide_eq_false_iff_not]; omega) (by omega)
      rw [show ((2 + 1 : Nat) : Int) = ((3 : Nat) : Int) from rfl] at t3
      have t4 := fun cnt S => endv (β := β) (F := F) (s := s) (sz := sz n f c u s) (i := (i : Int)) (n := n) (f := f) (c := c) (u := u) (l := [v1, v2, v3]) (K0 := fun x29 => K0 x29 [v1, v2, v3]) (K1 := fun x30 x31 => f11_1_l7 F s (sz n f c u s) n f c u K0 K1 k x30 (IntKind.i64.wrap ((i : Int) + 1)) x31)
        (k := G) (j := 3) (cnt := cnt) (S := S) rfl
      have ih := ap7 hF hW h (by rw [hA]; exact hs) (K0 := K0) (K1 := K1) m (i + 1) k (by omega) (by omega)
      rw [hN, hA] at ih
      rw [← hG] at t1
      refine (t1.trans (t2.trans (t3.trans (t4 _ _)))).trans ?_
      rw [w64 (by omega) (by omega), show ((i : Int) + 1) = ((i + 1 : Nat) : Int) by omega]
      refine Eq.trans ?_ ih
      have g1 := ct_next q1 q2 q3 h1.1 hn2
      have g2 := mk_next (W := W) q1 q2 q3 hn2 h1.1 (i := i)
      rw [g1, g2]

theorem ap_all {β : Type} {F W : Nat} (hF : F = 20000) (hW : W = 2000) {n f c u s : Int} (h : rt n f c u) (hs : 0 ≤ ar c u s) {K0 : List Bool → List Int → Option β} {K1 : Int → List Bool → Option β} :
    f11_1_l7 F s (sz n f c u s) n f c u K0 K1 F 0 0 (List.replicate W false) = K1 (n + nodes n f c u + ar c u s) (sn (mk3 n (nodes n f c u) (ar c u s) 2000) W) := by
  have h1 := h.1
  have hn := nodes_ok n f c u
  have hn2 := hn.2.2.1 h
  have hn3 := nodes_up h
  have ha := ar_ok (s := s) h
  have hs0 : List.replicate W false = sn (mk3 n (nodes n f c u) (ar c u s) ((0 : Nat) : Int)) W := sn_rep fun p hp => by unfold mk3; simp only [decide_eq_false_iff_not]; omega
  have hc0 : (0 : Int) = ct3 n (nodes n f c u) (ar c u s) ((0 : Nat) : Int) := by unfold ct3 mn; split <;> split <;> split <;> omega
  have hc1 : ct3 n (nodes n f c u) (ar c u s) 2000 = n + nodes n f c u + ar c u s := by unfold ct3 mn; split <;> split <;> split <;> omega
  have t := ap7 (β := β) hF hW h hs (K0 := K0) (K1 := K1) 2000 0 F (by omega) (by omega)
  rw [← hc0, ← hs0, show ((0 : Nat) : Int) = 0 from rfl, hc1] at t
  exact t

end Go.Proofs.Ytlokielmpdjedaa.X
end

section
/- The law: no two places on a disk are one, and together they fill it. -/
namespace Go.Proofs.Ytlokielmpdjedaa.X
open Go Go.Proofs.Ytlokielmpdjedaa.Ev
set_option linter.unusedVariables false

theorem cond_ff {α : Sort _} {a b : α} : cond (!true) a b = b := rfl
theorem cond_tt {α : Sort _} {a b : α} : cond (!false) a b = a := rfl
theorem cond_t {α : Sort _} {a b : α} : cond true a b = a := rfl

theorem law_true {β : Type} (n f c u a5 : Int) (_ : (Lit.int .i64 n).wf = true) (_ : (Lit.int .i64 f).wf = true) (_ : (Lit.int .i64 c).wf = true) (_ : (Lit.int .i64 u).wf = true) (_ : (Lit.int .i64 a5).wf = true)
    (r : β) : ∃ F, f11_1 F n f c u a5 (fun b => cond b (some r) none) = some r := by
  refine ⟨20000, ?_⟩
  rw [f11_1, right46]
  by_cases h : rt n f c u
  · rw [decide_eq_true h, cond_ff]
    by_cases h2 : a5 < 0
    · rw [ct h2, known62, cond_t]
    · by_cases h3 : a5 > 1
      · rw [cf h2, ct h3, known62, cond_t]
      · have h1 := h.1
        have hn := nodes_ok n f c u
        have hn2 := hn.2.2.1 h
        have hn3 := nodes_up h
        have ha := ar_ok (s := a5) h
        have hs : 0 ≤ ar c u a5 := by omega
        have hsz : sz n f c u a5 = 6 + n + nodes n f c u + ar c u a5 := by unfold sz; rw [if_pos ⟨h, hs⟩]
        have e : (n + nodes n f c u + ar c u a5 == IntKind.i64.wrap (sz n f c u a5 - 6)) = true := by rw [w64 (by omega) (by omega)]; simp; omega
        rw [cf h2, cf h3, size38, ap_all rfl rfl h hs, e, cond_t, known62, cond_t]
  · rw [decide_eq_false h, cond_tt, known62, cond_t]

end Go.Proofs.Ytlokielmpdjedaa.X
end
