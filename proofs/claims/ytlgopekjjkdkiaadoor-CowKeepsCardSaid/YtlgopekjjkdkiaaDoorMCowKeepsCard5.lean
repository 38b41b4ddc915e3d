/- Merged: EvF44, EvF26, EvF8, EvF28, EvF66, EvF48, EvF49, EvF30, EvF32, EvF34, EvF9, EvF9v9797, EvF6, EvF3, PureW, DiskN, DiskM, RecA, RecB, RecC, NumA, NumC, NumD. -/
import Derived.Test.YtlgopekjjkdkiaaDoorMCowKeepsCard3
import Derived.Test.YtlgopekjjkdkiaaDoorProg
import Derived.KernelRfl
import Derived.Test.YtlgopekjjkdkiaaDoorMCowKeepsCard4
section
namespace Go.Proofs.YtlgopekjjkdkiaaDoor.X
open Go Go.Proofs.YtlgopekjjkdkiaaDoor.Ev Go.Proofs
set_option linter.unusedVariables false
set_option linter.unusedSectionVars false
/-! pentimentoref07.Levels -/
noncomputable def f44_1_l5 {β : Type} (F : Nat) (v3 : Int) (v4 : Int) (v5 : Int) (v6 : Int) (K0 : List Int → Option β) : Nat → Int → List Int → Option β
  | 0, _, _ => none
  | k + 1, v2, v7 => cond (decide (v2 > 1)) (cond (decide (v4 = 0)) none (cond (decide ((v7.length + 1) * 8 ≤ 70368744177664)) (f44_1_l5 F v3 v4 v5 v6 K0 k (IntKind.i64.wrap ((IntKind.i64.wrap ((IntKind.i64.wrap (v2 + v4)) - 1)).tdiv v4)) (v7 ++ [IntKind.i64.wrap ((IntKind.i64.wrap ((IntKind.i64.wrap (v2 + v4)) - 1)).tdiv v4)])) none)) (K0 v7)
noncomputable def f44_1 {β : Type} (F : Nat) (a1 : Int) (a2 : Int) (a3 : Int) (a4 : Int) (K0 : List Int → Option β) : Option β := f5_1 F a1 a2 a3 a4 (fun x1 => cond (!x1) (K0 []) (f44_1_l5 F a1 a2 a3 a4 (fun x8 => K0 x8) F a1 [a1])) 
variable [FZ]
def sh44_1 : Sh := ⟨[.agg [.int .i64, .int .i64, .int .i64, .int .i64]], []⟩
noncomputable def S44_1 (F : Nat) (o : Summ) : Summ := mkS sh44_1 (fun d K => f44_1 F d.1.1.1 d.1.1.2.1 d.1.1.2.2.1 d.1.1.2.2.2.1 (fun (y0 : List Int) => K [.lf (.full 0)] [some ⟨false, [.seq (.int .i64) 0 y0]⟩])) o
noncomputable def code44 : Code := bodyOf Tryd.f44
noncomputable def b44_0 : Code := cB (cB (cR (cL (cR (cR (cR (code44)))))))
theorem scopes44 : scopesOf code44 = [] := by kernel_rfl
theorem ranges44 : rangesOf code44 = [] := by kernel_rfl
theorem loops44 : loopsOf code44 = [b44_0] := by kernel_rfl
theorem enter44 : ∀ args w, (callFunc 44 args).run Tryd.prog w = .ok (.enter 44 args) w := enter_of (fn := Tryd.f44) (by kernel_rfl) (by kernel_rfl) (by kernel_rfl)
noncomputable def T44_1 (F : Nat) : FuncId → Option Summ := tab [(5, (S5_1 F noS))]
def sh44_1_l5 : Sh := ⟨[.lf (.ptr 0 0), .lf (.full 1), .lf (.int .i64)], [some ⟨some false, [.int .i64, .int .i64, .int .i64, .int .i64]⟩, some ⟨some false, [.seq (.int .i64) 0]⟩]⟩
noncomputable def G44_1_5 (F k : Nat) : LoopS := mkG sh44_1_l5 [1, 3, 4] (outT [(.exit 0, [3])]) (fun d K => f44_1_l5 F d.2.1.2.1 d.2.1.2.2.1 d.2.1.2.2.2.1 d.2.1.2.2.2.2.1 (fun (y4 : List Int) => K (.exit 0) [.tv (.lf (.full 1))] [some ⟨false, [.int .i64 d.2.1.2.1, .int .i64 d.2.1.2.2.1, .int .i64 d.2.1.2.2.2.1, .int .i64 d.2.1.2.2.2.2.1]⟩, some ⟨false, [.seq (.int .i64) 0 y4]⟩]) k d.1.2.2.1 d.2.2.1.2.1) []
noncomputable def LT44_1 (F : Nat) : Nat → Option LoopS := ltab [(5, G44_1_5 F F)]
theorem L44_1_l5g (F k : Nat) (c5_1 : Int → Int → Int → Int → (Bool → Option Res) → Option Res)  (l5 : Int → Int → Int → Int → (List Int → Option Res) → Nat → Int → List Int → Option Res) (X5 : LoopS) (d : sh44_1_l5.den) (K : KL) : (fun (v3 : Int) (v4 : Int) (v5 : Int) (v6 : Int) (K0 : (List Int → Option Res)) (k : Nat) (v2 : Int) (v7 : List Int) => cond (decide (v2 > 1)) (cond (decide (v4 = 0)) none (cond (decide ((v7.length + 1) * 8 ≤ 70368744177664)) (l5 v3 v4 v5 v6 K0 k (IntKind.i64.wrap ((IntKind.i64.wrap ((IntKind.i64.wrap (v2 + v4)) - 1)).tdiv v4)) (v7 ++ [IntKind.i64.wrap ((IntKind.i64.wrap ((IntKind.i64.wrap (v2 + v4)) - 1)).tdiv v4)])) none)) (K0 v7)) d.2.1.2.1 d.2.1.2.2.1 d.2.1.2.2.2.1 d.2.1.2.2.2.2.1 (fun (y4 : List Int) => K (.exit 0) [.tv (.lf (.full 1))] [some ⟨false, [.int .i64 d.2.1.2.1, .int .i64 d.2.1.2.2.1, .int .i64 d.2.1.2.2.2.1, .int .i64 d.2.1.2.2.2.2.1]⟩, some ⟨false, [.seq (.int .i64) 0 y4]⟩]) k d.1.2.2.1 d.2.2.1.2.1 = roundOf Tryd.prog (tab [(5, (mkS sh5_1 (fun d K => c5_1 d.1.1.1 d.1.1.2.1 d.1.1.2.2.1 d.1.1.2.2.2.1 (fun (y0 : Bool) => K [.lf (.bool y0)] [])) noS))]) (xw []) 28 0 (ltab [(5, X5)]) (mkG sh44_1_l5 [1, 3, 4] (outT [(.exit 0, [3])]) (fun d K => l5 d.2.1.2.1 d.2.1.2.2.1 d.2.1.2.2.2.1 d.2.1.2.2.2.2.1 (fun (y4 : List Int) => K (.exit 0) [.tv (.lf (.full 1))] [some ⟨false, [.int .i64 d.2.1.2.1, .int .i64 d.2.1.2.2.1, .int .i64 d.2.1.2.2.2.1, .int .i64 d.2.1.2.2.2.2.1]⟩, some ⟨false, [.seq (.int .i64) 0 y4]⟩]) k d.1.2.2.1 d.2.2.1.2.1) []) b44_0 (encT sh44_1_l5.vs d.1) (encH sh44_1_l5.h d.2) K := by kernel_rfl
theorem L44_1_5 (F : Nat) : LoopOK Tryd.prog (T44_1 F) (xw []) 28 0 (LT44_1 F) (G44_1_5 F F) b44_0 :=
  loopOK_of (s := sh44_1_l5) (live := [1, 3, 4]) (out := (outT [(.exit 0, [3])])) (mv := []) (fun k d K => f44_1_l5 F d.2.1.2.1 d.2.1.2.2.1 d.2.1.2.2.2.1 d.2.1.2.2.2.2.1 (fun (y4 : List Int) => K (.exit 0) [.tv (.lf (.full 1))] [some ⟨false, [.int .i64 d.2.1.2.1, .int .i64 d.2.1.2.2.1, .int .i64 d.2.1.2.2.2.1, .int .i64 d.2.1.2.2.2.2.1]⟩, some ⟨false, [.seq (.int .i64) 0 y4]⟩]) k d.1.2.2.1 d.2.2.1.2.1) F (fun d K => by kernel_rfl)  (fun k d K => Eq.mp (by kernel_rfl) (L44_1_l5g F k (f5_1 F)  (f44_1_l5 F) (G44_1_5 F F) d K))
theorem E44_1g (F : Nat) (c5_1 : Int → Int → Int → Int → (Bool → Option Res) → Option Res) (l5 : Int → Int → Int → Int → (List Int → Option Res) → Nat → Int → List Int → Option Res)  (d : sh44_1.den) (K : KF) : evBody Tryd.prog (tab [(5, (mkS sh5_1 (fun d K => c5_1 d.1.1.1 d.1.1.2.1 d.1.1.2.2.1 d.1.1.2.2.2.1 (fun (y0 : Bool) => K [.lf (.bool y0)] [])) noS))]) (xw []) 28 0 (ltab [(5, mkG sh44_1_l5 [1, 3, 4] (outT [(.exit 0, [3])]) (fun d K => l5 d.2.1.2.1 d.2.1.2.2.1 d.2.1.2.2.2.1 d.2.1.2.2.2.2.1 (fun (y4 : List Int) => K (.exit 0) [.tv (.lf (.full 1))] [some ⟨false, [.int .i64 d.2.1.2.1, .int .i64 d.2.1.2.2.1, .int .i64 d.2.1.2.2.2.1, .int .i64 d.2.1.2.2.2.2.1]⟩, some ⟨false, [.seq (.int .i64) 0 y4]⟩]) F d.1.2.2.1 d.2.2.1.2.1) [])]) [] code44 Tryd.f44.results.toList (encT sh44_1.vs d.1) (encH sh44_1.h d.2) K = (fun (a1 : Int) (a2 : Int) (a3 : Int) (a4 : Int) (K0 : (List Int → Option Res)) => c5_1 a1 a2 a3 a4 (fun x1 => cond (!x1) (K0 []) (l5 a1 a2 a3 a4 (fun x8 => K0 x8) F a1 [a1])) ) d.1.1.1 d.1.1.2.1 d.1.1.2.2.1 d.1.1.2.2.2.1 (fun (y0 : List Int) => K [.lf (.full 0)] [some ⟨false, [.seq (.int .i64) 0 y0]⟩]) := by kernel_rfl
theorem E44_1 (F : Nat) (d : sh44_1.den) (K : KF) : evBody Tryd.prog (T44_1 F) (xw []) 28 0 (LT44_1 F) [] code44 Tryd.f44.results.toList (encT sh44_1.vs d.1) (encH sh44_1.h d.2) K = f44_1 F d.1.1.1 d.1.1.2.1 d.1.1.2.2.1 d.1.1.2.2.2.1 (fun (y0 : List Int) => K [.lf (.full 0)] [some ⟨false, [.seq (.int .i64) 0 y0]⟩]) := Eq.mp (by kernel_rfl) (E44_1g F (f5_1 F) (f44_1_l5 F)  d K)
theorem S44_1_ok (F : Nat) (o : Summ) (ho : SoundFn Tryd.prog 44 o) : SoundFn Tryd.prog 44 (S44_1 F o) :=
  soundFn_of (fn := Tryd.f44) (c := code44) rfl rfl (by kernel_rfl) (tab_cons (S5_1_ok F _ (noS_sound enter5)) tab_nil) (by kernel_rfl) (by kernel_rfl) ho (by rw [loops44]; exact (loopsOK_cons (by kernel_rfl) (L44_1_5 F) loopsOK_nil)) (by rw [scopes44]; exact scopesOK_nil) (by rw [ranges44]; exact rangesOK_nil) (E44_1 F)
end Go.Proofs.YtlgopekjjkdkiaaDoor.X
end

section
namespace Go.Proofs.YtlgopekjjkdkiaaDoor.X
open Go Go.Proofs.YtlgopekjjkdkiaaDoor.Ev Go.Proofs
set_option linter.unusedVariables false
set_option linter.unusedSectionVars false
/-! pentimentoref07.Nodes -/
noncomputable def f26_1_l4 {β : Type} (F : Nat) (v4 : List Int) (K0 : Int → Option β) : Nat → Int → Int → Option β
  | 0, _, _ => none
  | k + 1, v2, v3 => cond (decide (v3 < ((v4.length : Nat) : Int))) (cond (decide ((0 : Int) ≤ v3 ∧ v3 < ((v4.length : Nat) : Int))) (cond (decide (0 + v3.toNat < v4.length)) (f26_1_l4 F v4 K0 k (IntKind.i64.wrap (v2 + (v4.getD (0 + v3.toNat) 0))) (IntKind.i64.wrap (v3 + 1))) none) none) (K0 v2)
noncomputable def f26_1 {β : Type} (F : Nat) (a1 : Int) (a2 : Int) (a3 : Int) (a4 : Int) (K0 : Int → Option β) : Option β := f44_1 F a1 a2 a3 a4 (fun x1 => f26_1_l4 F x1 (fun x5 => K0 x5) F 0 0) 
variable [FZ]
def sh26_1 : Sh := ⟨[.agg [.int .i64, .int .i64, .int .i64, .int .i64]], []⟩
noncomputable def S26_1 (F : Nat) (o : Summ) : Summ := mkS sh26_1 (fun d K => f26_1 F d.1.1.1 d.1.1.2.1 d.1.1.2.2.1 d.1.1.2.2.2.1 (fun (y0 : Int) => K [.lf (.int .i64 y0)] [])) o
noncomputable def code26 : Code := bodyOf Tryd.f26
noncomputable def b26_0 : Code := cB (cB (cR (cL (cR (cR (cR (code26)))))))
theorem scopes26 : scopesOf code26 = [] := by kernel_rfl
theorem ranges26 : rangesOf code26 = [] := by kernel_rfl
theorem loops26 : loopsOf code26 = [b26_0] := by kernel_rfl
theorem enter26 : ∀ args w, (callFunc 26 args).run Tryd.prog w = .ok (.enter 26 args) w := enter_of (fn := Tryd.f26) (by kernel_rfl) (by kernel_rfl) (by kernel_rfl)
noncomputable def T26_1 (F : Nat) : FuncId → Option Summ := tab [(44, (S44_1 F noS))]
def sh26_1_l4 : Sh := ⟨[.lf (.int .i64), .lf (.full 0), .lf (.int .i64)], [some ⟨some false, [.seq (.int .i64) 0]⟩]⟩
noncomputable def G26_1_4 (F k : Nat) : LoopS := mkG sh26_1_l4 [3, 4, 5] (outT [(.exit 0, [3])]) (fun d K => f26_1_l4 F d.2.1.2.1 (fun (y0 : Int) => K (.exit 0) [.tv (.lf (.int .i64 y0))] [some ⟨false, [.seq (.int .i64) 0 d.2.1.2.1]⟩]) k d.1.1 d.1.2.2.1) []
noncomputable def LT26_1 (F : Nat) : Nat → Option LoopS := ltab [(4, G26_1_4 F F)]
theorem L26_1_l4g (F k : Nat) (c44_1 : Int → Int → Int → Int → (List Int → Option Res) → Option Res)  (l4 : List Int → (Int → Option Res) → Nat → Int → Int → Option Res) (X4 : LoopS) (d : sh26_1_l4.den) (K : KL) : (fun (v4 : List Int) (K0 : (Int → Option Res)) (k : Nat) (v2 : Int) (v3 : Int) => cond (decide (v3 < ((v4.length : Nat) : Int))) (cond (decide ((0 : Int) ≤ v3 ∧ v3 < ((v4.length : Nat) : Int))) (cond (decide (0 + v3.toNat < v4.length)) (l4 v4 K0 k (IntKind.i64.wrap (v2 + (v4.getD (0 + v3.toNat) 0))) (IntKind.i64.wrap (v3 + 1))) none) none) (K0 v2)) d.2.1.2.1 (fun (y0 : Int) => K (.exit 0) [.tv (.lf (.int .i64 y0))] [some ⟨false, [.seq (.int .i64) 0 d.2.1.2.1]⟩]) k d.1.1 d.1.2.2.1 = roundOf Tryd.prog (tab [(44, (mkS sh44_1 (fun d K => c44_1 d.1.1.1 d.1.1.2.1 d.1.1.2.2.1 d.1.1.2.2.2.1 (fun (y0 : List Int) => K [.lf (.full 0)] [some ⟨false, [.seq (.int .i64) 0 y0]⟩])) noS))]) (xw []) 21 0 (ltab [(4, X4)]) (mkG sh26_1_l4 [3, 4, 5] (outT [(.exit 0, [3])]) (fun d K => l4 d.2.1.2.1 (fun (y0 : Int) => K (.exit 0) [.tv (.lf (.int .i64 y0))] [some ⟨false, [.seq (.int .i64) 0 d.2.1.2.1]⟩]) k d.1.1 d.1.2.2.1) []) b26_0 (encT sh26_1_l4.vs d.1) (encH sh26_1_l4.h d.2) K := by kernel_rfl
theorem L26_1_4 (F : Nat) : LoopOK Tryd.prog (T26_1 F) (xw []) 21 0 (LT26_1 F) (G26_1_4 F F) b26_0 :=
  loopOK_of (s := sh26_1_l4) (live := [3, 4, 5]) (out := (outT [(.exit 0, [3])])) (mv := []) (fun k d K => f26_1_l4 F d.2.1.2.1 (fun (y0 : Int) => K (.exit 0) [.tv (.lf (.int .i64 y0))] [some ⟨false, [.seq (.int .i64) 0 d.2.1.2.1]⟩]) k d.1.1 d.1.2.2.1) F (fun d K => by kernel_rfl)  (fun k d K => Eq.mp (by kernel_rfl) (L26_1_l4g F k (f44_1 F)  (f26_1_l4 F) (G26_1_4 F F) d K))
theorem E26_1g (F : Nat) (c44_1 : Int → Int → Int → Int → (List Int → Option Res) → Option Res) (l4 : List Int → (Int → Option Res) → Nat → Int → Int → Option Res)  (d : sh26_1.den) (K : KF) : evBody Tryd.prog (tab [(44, (mkS sh44_1 (fun d K => c44_1 d.1.1.1 d.1.1.2.1 d.1.1.2.2.1 d.1.1.2.2.2.1 (fun (y0 : List Int) => K [.lf (.full 0)] [some ⟨false, [.seq (.int .i64) 0 y0]⟩])) noS))]) (xw []) 21 0 (ltab [(4, mkG sh26_1_l4 [3, 4, 5] (outT [(.exit 0, [3])]) (fun d K => l4 d.2.1.2.1 (fun (y0 : Int) => K (.exit 0) [.tv (.lf (.int .i64 y0))] [some ⟨false, [.seq (.int .i64) 0 d.2.1.2.1]⟩]) F d.1.1 d.1.2.2.1) [])]) [] code26 Tryd.f26.results.toList (encT sh26_1.vs d.1) (encH sh26_1.h d.2) K = (fun (a1 : Int) (a2 : Int) (a3 : Int) (a4 : Int) (K0 : (Int → Option Res)) => c44_1 a1 a2 a3 a4 (fun x1 => l4 x1 (fun x5 => K0 x5) F 0 0) ) d.1.1.1 d.1.1.2.1 d.1.1.2.2.1 d.1.1.2.2.2.1 (fun (y0 : Int) => K [.lf (.int .i64 y0)] []) := by kernel_rfl
theorem E26_1 (F : Nat) (d : sh26_1.den) (K : KF) : evBody Tryd.prog (T26_1 F) (xw []) 21 0 (LT26_1 F) [] code26 Tryd.f26.results.toList (encT sh26_1.vs d.1) (encH sh26_1.h d.2) K = f26_1 F d.1.1.1 d.1.1.2.1 d.1.1.2.2.1 d.1.1.2.2.2.1 (fun (y0 : Int) => K [.lf (.int .i64 y0)] []) := Eq.mp (by kernel_rfl) (E26_1g F (f44_1 F) (f26_1_l4 F)  d K)
theorem S26_1_ok (F : Nat) (o : Summ) (ho : SoundFn Tryd.prog 26 o) : SoundFn Tryd.prog 26 (S26_1 F o) :=
  soundFn_of (fn := Tryd.f26) (c := code26) rfl rfl (by kernel_rfl) (tab_cons (S44_1_ok F _ (noS_sound enter44)) tab_nil) (by kernel_rfl) (by kernel_rfl) ho (by rw [loops26]; exact (loopsOK_cons (by kernel_rfl) (L26_1_4 F) loopsOK_nil)) (by rw [scopes26]; exact scopesOK_nil) (by rw [ranges26]; exact rangesOK_nil) (E26_1 F)
end Go.Proofs.YtlgopekjjkdkiaaDoor.X
end

section
namespace Go.Proofs.YtlgopekjjkdkiaaDoor.X
open Go Go.Proofs.YtlgopekjjkdkiaaDoor.Ev Go.Proofs
set_option linter.unusedVariables false
set_option linter.unusedSectionVars false
/-! pentimentoref07.Size -/
noncomputable def f8_1 {β : Type} (F : Nat) (a1 : Int) (a2 : Int) (a3 : Int) (a4 : Int) (a5 : Int) (K0 : Int → Option β) : Option β := f25_1 F a1 a2 a3 a4 a5 (fun x1 => f5_1 F a1 a2 a3 a4 (fun x2 => cond (!x2) (K0 0) (cond (decide (x1 < 0)) (K0 0) (f26_1 F a1 a2 a3 a4 (fun x3 => K0 (IntKind.i64.wrap ((IntKind.i64.wrap ((IntKind.i64.wrap (6 + a1)) + x3)) + x1))) ))) ) 
variable [FZ]
def sh8_1 : Sh := ⟨[.agg [.int .i64, .int .i64, .int .i64, .int .i64], .lf (.int .i64)], []⟩
noncomputable def S8_1 (F : Nat) (o : Summ) : Summ := mkS sh8_1 (fun d K => f8_1 F d.1.1.1 d.1.1.2.1 d.1.1.2.2.1 d.1.1.2.2.2.1 d.1.2.1 (fun (y0 : Int) => K [.lf (.int .i64 y0)] [])) o
noncomputable def code8 : Code := bodyOf Tryd.f8
theorem scopes8 : scopesOf code8 = [] := by kernel_rfl
theorem ranges8 : rangesOf code8 = [] := by kernel_rfl
theorem loops8 : loopsOf code8 = [] := by kernel_rfl
theorem enter8 : ∀ args w, (callFunc 8 args).run Tryd.prog w = .ok (.enter 8 args) w := enter_of (fn := Tryd.f8) (by kernel_rfl) (by kernel_rfl) (by kernel_rfl)
noncomputable def T8_1 (F : Nat) : FuncId → Option Summ := tab [(5, (S5_1 F noS)), (25, (S25_1 F noS)), (26, (S26_1 F noS))]
noncomputable def LT8_1 (F : Nat) : Nat → Option LoopS := ltab []
theorem E8_1g (F : Nat) (c5_1 : Int → Int → Int → Int → (Bool → Option Res) → Option Res) (c25_1 : Int → Int → Int → Int → Int → (Int → Option Res) → Option Res) (c26_1 : Int → Int → Int → Int → (Int → Option Res) → Option Res)   (d : sh8_1.den) (K : KF) : evBody Tryd.prog (tab [(5, (mkS sh5_1 (fun d K => c5_1 d.1.1.1 d.1.1.2.1 d.1.1.2.2.1 d.1.1.2.2.2.1 (fun (y0 : Bool) => K [.lf (.bool y0)] [])) noS)), (25, (mkS sh25_1 (fun d K => c25_1 d.1.1.1 d.1.1.2.1 d.1.1.2.2.1 d.1.1.2.2.2.1 d.1.2.1 (fun (y0 : Int) => K [.lf (.int .i64 y0)] [])) noS)), (26, (mkS sh26_1 (fun d K => c26_1 d.1.1.1 d.1.1.2.1 d.1.1.2.2.1 d.1.1.2.2.2.1 (fun (y0 : Int) => K [.lf (.int .i64 y0)] [])) noS))]) (xw []) 24 0 (ltab []) [] code8 Tryd.f8.results.toList (encT sh8_1.vs d.1) (encH sh8_1.h d.2) K = (fun (a1 : Int) (a2 : Int) (a3 : Int) (a4 : Int) (a5 : Int) (K0 : (Int → Option Res)) => c25_1 a1 a2 a3 a4 a5 (fun x1 => c5_1 a1 a2 a3 a4 (fun x2 => cond (!x2) (K0 0) (cond (decide (x1 < 0)) (K0 0) (c26_1 a1 a2 a3 a4 (fun x3 => K0 (IntKind.i64.wrap ((IntKind.i64.wrap ((IntKind.i64.wrap (6 + a1)) + x3)) + x1))) ))) ) ) d.1.1.1 d.1.1.2.1 d.1.1.2.2.1 d.1.1.2.2.2.1 d.1.2.1 (fun (y0 : Int) => K [.lf (.int .i64 y0)] []) := by kernel_rfl
theorem E8_1 (F : Nat) (d : sh8_1.den) (K : KF) : evBody Tryd.prog (T8_1 F) (xw []) 24 0 (LT8_1 F) [] code8 Tryd.f8.results.toList (encT sh8_1.vs d.1) (encH sh8_1.h d.2) K = f8_1 F d.1.1.1 d.1.1.2.1 d.1.1.2.2.1 d.1.1.2.2.2.1 d.1.2.1 (fun (y0 : Int) => K [.lf (.int .i64 y0)] []) := Eq.mp (by kernel_rfl) (E8_1g F (f5_1 F) (f25_1 F) (f26_1 F)   d K)
theorem S8_1_ok (F : Nat) (o : Summ) (ho : SoundFn Tryd.prog 8 o) : SoundFn Tryd.prog 8 (S8_1 F o) :=
  soundFn_of (fn := Tryd.f8) (c := code8) rfl rfl (by kernel_rfl) (tab_cons (S5_1_ok F _ (noS_sound enter5)) (tab_cons (S25_1_ok F _ (noS_sound enter25)) (tab_cons (S26_1_ok F _ (noS_sound enter26)) tab_nil))) (by kernel_rfl) (by kernel_rfl) ho (by rw [loops8]; exact loopsOK_nil) (by rw [scopes8]; exact scopesOK_nil) (by rw [ranges8]; exact rangesOK_nil) (E8_1 F)
end Go.Proofs.YtlgopekjjkdkiaaDoor.X
end

section
namespace Go.Proofs.YtlgopekjjkdkiaaDoor.X
open Go Go.Proofs.YtlgopekjjkdkiaaDoor.Ev Go.Proofs
set_option linter.unusedVariables false
set_option linter.unusedSectionVars false
/-! geom.Data -/
noncomputable def f28_1 {β : Type} (F : Nat) (a1 : Int) (a2 : Int) (a3 : Int) (a4 : Int) (a5 : Int) (K0 : Int → Option β) : Option β := f27_1 F a1 a2 a3 a4 (fun x1 => cond (!x1) (K0 (-1)) (f45_1 F a5 0 (IntKind.i64.wrap (a1 - 1)) (fun x2 => cond (!x2) (K0 (-1)) (K0 (IntKind.i64.wrap (6 + a5)))) )) 
variable [FZ]
def sh28_1 : Sh := ⟨[.agg [.int .i64, .int .i64, .int .i64, .int .i64], .lf (.int .i64)], []⟩
noncomputable def S28_1 (F : Nat) (o : Summ) : Summ := mkS sh28_1 (fun d K => f28_1 F d.1.1.1 d.1.1.2.1 d.1.1.2.2.1 d.1.1.2.2.2.1 d.1.2.1 (fun (y0 : Int) => K [.lf (.int .i64 y0)] [])) o
noncomputable def code28 : Code := bodyOf Tryd.f28
theorem scopes28 : scopesOf code28 = [] := by kernel_rfl
theorem ranges28 : rangesOf code28 = [] := by kernel_rfl
theorem loops28 : loopsOf code28 = [] := by kernel_rfl
theorem enter28 : ∀ args w, (callFunc 28 args).run Tryd.prog w = .ok (.enter 28 args) w := enter_of (fn := Tryd.f28) (by kernel_rfl) (by kernel_rfl) (by kernel_rfl)
noncomputable def T28_1 (F : Nat) : FuncId → Option Summ := tab [(27, (S27_1 F noS)), (45, (S45_1 F noS))]
noncomputable def LT28_1 (F : Nat) : Nat → Option LoopS := ltab []
theorem E28_1g (F : Nat) (c27_1 : Int → Int → Int → Int → (Bool → Option Res) → Option Res) (c45_1 : Int → Int → Int → (Bool → Option Res) → Option Res)   (d : sh28_1.den) (K : KF) : evBody Tryd.prog (tab [(27, (mkS sh27_1 (fun d K => c27_1 d.1.1.1 d.1.1.2.1 d.1.1.2.2.1 d.1.1.2.2.2.1 (fun (y0 : Bool) => K [.lf (.bool y0)] [])) noS)), (45, (mkS sh45_1 (fun d K => c45_1 d.1.1 d.1.2.1 d.1.2.2.1 (fun (y0 : Bool) => K [.lf (.bool y0)] [])) noS))]) (xw []) 18 0 (ltab []) [] code28 Tryd.f28.results.toList (encT sh28_1.vs d.1) (encH sh28_1.h d.2) K = (fun (a1 : Int) (a2 : Int) (a3 : Int) (a4 : Int) (a5 : Int) (K0 : (Int → Option Res)) => c27_1 a1 a2 a3 a4 (fun x1 => cond (!x1) (K0 (-1)) (c45_1 a5 0 (IntKind.i64.wrap (a1 - 1)) (fun x2 => cond (!x2) (K0 (-1)) (K0 (IntKind.i64.wrap (6 + a5)))) )) ) d.1.1.1 d.1.1.2.1 d.1.1.2.2.1 d.1.1.2.2.2.1 d.1.2.1 (fun (y0 : Int) => K [.lf (.int .i64 y0)] []) := by kernel_rfl
theorem E28_1 (F : Nat) (d : sh28_1.den) (K : KF) : evBody Tryd.prog (T28_1 F) (xw []) 18 0 (LT28_1 F) [] code28 Tryd.f28.results.toList (encT sh28_1.vs d.1) (encH sh28_1.h d.2) K = f28_1 F d.1.1.1 d.1.1.2.1 d.1.1.2.2.1 d.1.1.2.2.2.1 d.1.2.1 (fun (y0 : Int) => K [.lf (.int .i64 y0)] []) := Eq.mp (by kernel_rfl) (E28_1g F (f27_1 F) (f45_1 F)   d K)
theorem S28_1_ok (F : Nat) (o : Summ) (ho : SoundFn Tryd.prog 28 o) : SoundFn Tryd.prog 28 (S28_1 F o) :=
  soundFn_of (fn := Tryd.f28) (c := code28) rfl rfl (by kernel_rfl) (tab_cons (S27_1_ok F _ (noS_sound enter27)) (tab_cons (S45_1_ok F _ (noS_sound enter45)) tab_nil)) (by kernel_rfl) (by kernel_rfl) ho (by rw [loops28]; exact loopsOK_nil) (by rw [scopes28]; exact scopesOK_nil) (by rw [ranges28]; exact rangesOK_nil) (E28_1 F)
end Go.Proofs.YtlgopekjjkdkiaaDoor.X
end

section
namespace Go.Proofs.YtlgopekjjkdkiaaDoor.X
open Go Go.Proofs.YtlgopekjjkdkiaaDoor.Ev Go.Proofs
set_option linter.unusedVariables false
set_option linter.unusedSectionVars false
/-! disk.Disk).burn -/
noncomputable def f66_1 {β : Type} (F : Nat) (a1 : Int) (a2 : Bool) (a3 : Int) (a4 : List ByteArray) (a5 : List (Int × ByteArray)) (K0 : Bool → Int → Bool → Int → Option β) : Option β := cond (a1 == 0) (K0 false (-1) true a3) (cond (a1 == (-1)) (K0 true a1 a2 (IntKind.i64.wrap (a3 + 1))) (K0 true (IntKind.i64.wrap (a1 - 1)) a2 (IntKind.i64.wrap (a3 + 1))))
variable [FZ]
def sh66_1 : Sh := ⟨[.lf (.ptr 0 0)], [some ⟨some false, [.full 1, .full 2, .int .i64, .bool, .int .i64]⟩, some ⟨none, [.seq .str 0]⟩, some ⟨none, [.seq (.pair (.int .i64) .str) 0]⟩]⟩
noncomputable def S66_1 (F : Nat) (o : Summ) : Summ := mkS sh66_1 (fun d K => f66_1 F d.2.1.2.2.2.1 d.2.1.2.2.2.2.1 d.2.1.2.2.2.2.2.1 d.2.2.1.2.1 d.2.2.2.1.2.1 (fun (y0 : Bool) (y1 : Int) (y2 : Bool) (y3 : Int) => K [.lf (.bool y0)] [some ⟨false, [.full 1, .full 2, .int .i64 y1, .bool y2, .int .i64 y3]⟩, some ⟨d.2.2.1.1, [.seq .str 0 d.2.2.1.2.1]⟩, some ⟨d.2.2.2.1.1, [.seq (.pair (.int .i64) .str) 0 d.2.2.2.1.2.1]⟩])) o
noncomputable def code66 : Code := bodyOf Tryd.f66
theorem scopes66 : scopesOf code66 = [] := by kernel_rfl
theorem ranges66 : rangesOf code66 = [] := by kernel_rfl
theorem loops66 : loopsOf code66 = [] := by kernel_rfl
theorem enter66 : ∀ args w, (callFunc 66 args).run Tryd.prog w = .ok (.enter 66 args) w := enter_of (fn := Tryd.f66) (by kernel_rfl) (by kernel_rfl) (by kernel_rfl)
noncomputable def T66_1 (F : Nat) : FuncId → Option Summ := tab []
noncomputable def LT66_1 (F : Nat) : Nat → Option LoopS := ltab []
theorem E66_1g (F : Nat)    (d : sh66_1.den) (K : KF) : evBody Tryd.prog (tab []) (xw []) 31 3 (ltab []) [] code66 Tryd.f66.results.toList (encT sh66_1.vs d.1) (encH sh66_1.h d.2) K = (fun (a1 : Int) (a2 : Bool) (a3 : Int) (a4 : List ByteArray) (a5 : List (Int × ByteArray)) (K0 : (Bool → Int → Bool → Int → Option Res)) => cond (a1 == 0) (K0 false (-1) true a3) (cond (a1 == (-1)) (K0 true a1 a2 (IntKind.i64.wrap (a3 + 1))) (K0 true (IntKind.i64.wrap (a1 - 1)) a2 (IntKind.i64.wrap (a3 + 1))))) d.2.1.2.2.2.1 d.2.1.2.2.2.2.1 d.2.1.2.2.2.2.2.1 d.2.2.1.2.1 d.2.2.2.1.2.1 (fun (y0 : Bool) (y1 : Int) (y2 : Bool) (y3 : Int) => K [.lf (.bool y0)] [some ⟨false, [.full 1, .full 2, .int .i64 y1, .bool y2, .int .i64 y3]⟩, some ⟨d.2.2.1.1, [.seq .str 0 d.2.2.1.2.1]⟩, some ⟨d.2.2.2.1.1, [.seq (.pair (.int .i64) .str) 0 d.2.2.2.1.2.1]⟩]) := by kernel_rfl
theorem E66_1 (F : Nat) (d : sh66_1.den) (K : KF) : evBody Tryd.prog (T66_1 F) (xw []) 31 3 (LT66_1 F) [] code66 Tryd.f66.results.toList (encT sh66_1.vs d.1) (encH sh66_1.h d.2) K = f66_1 F d.2.1.2.2.2.1 d.2.1.2.2.2.2.1 d.2.1.2.2.2.2.2.1 d.2.2.1.2.1 d.2.2.2.1.2.1 (fun (y0 : Bool) (y1 : Int) (y2 : Bool) (y3 : Int) => K [.lf (.bool y0)] [some ⟨false, [.full 1, .full 2, .int .i64 y1, .bool y2, .int .i64 y3]⟩, some ⟨d.2.2.1.1, [.seq .str 0 d.2.2.1.2.1]⟩, some ⟨d.2.2.2.1.1, [.seq (.pair (.int .i64) .str) 0 d.2.2.2.1.2.1]⟩]) := Eq.mp (by kernel_rfl) (E66_1g F    d K)
theorem S66_1_ok (F : Nat) (o : Summ) (ho : SoundFn Tryd.prog 66 o) : SoundFn Tryd.prog 66 (S66_1 F o) :=
  soundFn_of (fn := Tryd.f66) (c := code66) rfl rfl (by kernel_rfl) tab_nil (by kernel_rfl) (by kernel_rfl) ho (by rw [loops66]; exact loopsOK_nil) (by rw [scopes66]; exact scopesOK_nil) (by rw [ranges66]; exact rangesOK_nil) (E66_1 F)
end Go.Proofs.YtlgopekjjkdkiaaDoor.X
end

section
namespace Go.Proofs.YtlgopekjjkdkiaaDoor.X
open Go Go.Proofs.YtlgopekjjkdkiaaDoor.Ev Go.Proofs
set_option linter.unusedVariables false
set_option linter.unusedSectionVars false
/-! disk.Disk).Write -/
noncomputable def f48_1 {β : Type} (F : Nat) (a1 : Int) (a2 : ByteArray) (a3 : Int) (a4 : Bool) (a5 : Int) (a6 : List ByteArray) (a7 : List (Int × ByteArray)) (K0 : Int → Int → Bool → Int → List (Int × ByteArray) → Option β) : Option β := cond a4 (K0 5 a3 a4 a5 a7) (f64_1 F a1 a3 a4 a5 a6 a7 (fun x1 => cond (!x1) (K0 3 a3 a4 a5 a7) (f65_1 F a2 (fun x2 => cond (!x2) (K0 4 a3 a4 a5 a7) (f66_1 F a3 a4 a5 a6 a7 (fun x3 x4 x5 x6 => cond (!x3) (K0 5 x4 x5 x6 a7) (cond (decide ((a7.length + 1) * 24 ≤ 70368744177664)) (K0 0 x4 x5 x6 (a7 ++ [(a1, a2)])) none)) )) )) )
variable [FZ]
def sh48_1 : Sh := ⟨[.lf (.ptr 0 0), .lf (.int .i64), .lf (.str)], [some ⟨some false, [.full 1, .full 2, .int .i64, .bool, .int .i64]⟩, some ⟨none, [.seq .str 0]⟩, some ⟨some false, [.seq (.pair (.int .i64) .str) 0]⟩]⟩
noncomputable def S48_1 (F : Nat) (o : Summ) : Summ := mkS sh48_1 (fun d K => f48_1 F d.1.2.1 d.1.2.2.1 d.2.1.2.2.2.1 d.2.1.2.2.2.2.1 d.2.1.2.2.2.2.2.1 d.2.2.1.2.1 d.2.2.2.1.2.1 (fun (y0 : Int) (y1 : Int) (y2 : Bool) (y3 : Int) (y5 : List (Int × ByteArray)) => K [.lf (.int .i64 y0)] [some ⟨false, [.full 1, .full 3, .int .i64 y1, .bool y2, .int .i64 y3]⟩, some ⟨d.2.2.1.1, [.seq .str 0 d.2.2.1.2.1]⟩, none, some ⟨false, [.seq (.pair (.int .i64) .str) 0 y5]⟩])) o
noncomputable def code48 : Code := bodyOf Tryd.f48
theorem scopes48 : scopesOf code48 = [] := by kernel_rfl
theorem ranges48 : rangesOf code48 = [] := by kernel_rfl
theorem loops48 : loopsOf code48 = [] := by kernel_rfl
theorem enter48 : ∀ args w, (callFunc 48 args).run Tryd.prog w = .ok (.enter 48 args) w := enter_of (fn := Tryd.f48) (by kernel_rfl) (by kernel_rfl) (by kernel_rfl)
noncomputable def T48_1 (F : Nat) : FuncId → Option Summ := tab [(64, (S64_1 F noS)), (65, (S65_1 F noS)), (66, (S66_1 F noS))]
noncomputable def LT48_1 (F : Nat) : Nat → Option LoopS := ltab []
theorem E48_1g (F : Nat) (c64_1 : Int → Int → Bool → Int → List ByteArray → List (Int × ByteArray) → (Bool → Option Res) → Option Res) (c65_1 : ByteArray → (Bool → Option Res) → Option Res) (c66_1 : Int → Bool → Int → List ByteArray → List (Int × ByteArray) → (Bool → Int → Bool → Int → Option Res) → Option Res)   (d : sh48_1.den) (K : KF) : evBody Tryd.prog (tab [(64, (mkS sh64_1 (fun d K => c64_1 d.1.2.1 d.2.1.2.2.2.1 d.2.1.2.2.2.2.1 d.2.1.2.2.2.2.2.1 d.2.2.1.2.1 d.2.2.2.1.2.1 (fun (y0 : Bool) => K [.lf (.bool y0)] [some ⟨d.2.1.1, [.full 1, .full 2, .int .i64 d.2.1.2.2.2.1, .bool d.2.1.2.2.2.2.1, .int .i64 d.2.1.2.2.2.2.2.1]⟩, some ⟨d.2.2.1.1, [.seq .str 0 d.2.2.1.2.1]⟩, some ⟨d.2.2.2.1.1, [.seq (.pair (.int .i64) .str) 0 d.2.2.2.1.2.1]⟩])) noS)), (65, (mkS sh65_1 (fun d K => c65_1 d.1.1 (fun (y0 : Bool) => K [.lf (.bool y0)] [])) noS)), (66, (mkS sh66_1 (fun d K => c66_1 d.2.1.2.2.2.1 d.2.1.2.2.2.2.1 d.2.1.2.2.2.2.2.1 d.2.2.1.2.1 d.2.2.2.1.2.1 (fun (y0 : Bool) (y1 : Int) (y2 : Bool) (y3 : Int) => K [.lf (.bool y0)] [some ⟨false, [.full 1, .full 2, .int .i64 y1, .bool y2, .int .i64 y3]⟩, some ⟨d.2.2.1.1, [.seq .str 0 d.2.2.1.2.1]⟩, some ⟨d.2.2.2.1.1, [.seq (.pair (.int .i64) .str) 0 d.2.2.2.1.2.1]⟩])) noS))]) (xw []) 40 3 (ltab []) [2] code48 Tryd.f48.results.toList (encT sh48_1.vs d.1) (encH sh48_1.h d.2) K = (fun (a1 : Int) (a2 : ByteArray) (a3 : Int) (a4 : Bool) (a5 : Int) (a6 : List ByteArray) (a7 : List (Int × ByteArray)) (K0 : (Int → Int → Bool → Int → List (Int × ByteArray) → Option Res)) => cond a4 (K0 5 a3 a4 a5 a7) (c64_1 a1 a3 a4 a5 a6 a7 (fun x1 => cond (!x1) (K0 3 a3 a4 a5 a7) (c65_1 a2 (fun x2 => cond (!x2) (K0 4 a3 a4 a5 a7) (c66_1 a3 a4 a5 a6 a7 (fun x3 x4 x5 x6 => cond (!x3) (K0 5 x4 x5 x6 a7) (cond (decide ((a7.length + 1) * 24 ≤ 70368744177664)) (K0 0 x4 x5 x6 (a7 ++ [(a1, a2)])) none)) )) )) )) d.1.2.1 d.1.2.2.1 d.2.1.2.2.2.1 d.2.1.2.2.2.2.1 d.2.1.2.2.2.2.2.1 d.2.2.1.2.1 d.2.2.2.1.2.1 (fun (y0 : Int) (y1 : Int) (y2 : Bool) (y3 : Int) (y5 : List (Int × ByteArray)) => K [.lf (.int .i64 y0)] [some ⟨false, [.full 1, .full 3, .int .i64 y1, .bool y2, .int .i64 y3]⟩, some ⟨d.2.2.1.1, [.seq .str 0 d.2.2.1.2.1]⟩, none, some ⟨false, [.seq (.pair (.int .i64) .str) 0 y5]⟩]) := by kernel_rfl
theorem E48_1 (F : Nat) (d : sh48_1.den) (K : KF) : evBody Tryd.prog (T48_1 F) (xw []) 40 3 (LT48_1 F) [2] code48 Tryd.f48.results.toList (encT sh48_1.vs d.1) (encH sh48_1.h d.2) K = f48_1 F d.1.2.1 d.1.2.2.1 d.2.1.2.2.2.1 d.2.1.2.2.2.2.1 d.2.1.2.2.2.2.2.1 d.2.2.1.2.1 d.2.2.2.1.2.1 (fun (y0 : Int) (y1 : Int) (y2 : Bool) (y3 : Int) (y5 : List (Int × ByteArray)) => K [.lf (.int .i64 y0)] [some ⟨false, [.full 1, .full 3, .int .i64 y1, .bool y2, .int .i64 y3]⟩, some ⟨d.2.2.1.1, [.seq .str 0 d.2.2.1.2.1]⟩, none, some ⟨false, [.seq (.pair (.int .i64) .str) 0 y5]⟩]) := Eq.mp (by kernel_rfl) (E48_1g F (f64_1 F) (f65_1 F) (f66_1 F)   d K)
theorem S48_1_ok (F : Nat) (o : Summ) (ho : SoundFn Tryd.prog 48 o) : SoundFn Tryd.prog 48 (S48_1 F o) :=
  soundFn_of (fn := Tryd.f48) (c := code48) rfl rfl (by kernel_rfl) (tab_cons (S64_1_ok F _ (noS_sound enter64)) (tab_cons (S65_1_ok F _ (noS_sound enter65)) (tab_cons (S66_1_ok F _ (noS_sound enter66)) tab_nil))) (by kernel_rfl) (by kernel_rfl) ho (by rw [loops48]; exact loopsOK_nil) (by rw [scopes48]; exact scopesOK_nil) (by rw [ranges48]; exact rangesOK_nil) (E48_1 F)
end Go.Proofs.YtlgopekjjkdkiaaDoor.X
end

section
namespace Go.Proofs.YtlgopekjjkdkiaaDoor.X
open Go Go.Proofs.YtlgopekjjkdkiaaDoor.Ev Go.Proofs
set_option linter.unusedVariables false
set_option linter.unusedSectionVars false
/-! disk.Disk).Flush -/
noncomputable def f49_1_l6 {β : Type} (F : Nat) (v5 : Int) (v7 : Int) (v8 : Bool) (v9 : Int) (v11 : List (Int × ByteArray)) (K0 : List ByteArray → Option β) : Nat → Int → List ByteArray → Option β
  | 0, _, _ => none
  | k + 1, v6, v10 => cond (decide (v6 < v5)) (cond (decide ((0 : Int) ≤ v6 ∧ v6 < ((v11.length : Nat) : Int))) (cond (decide (0 + v6.toNat < v11.length)) (cond (decide ((0 : Int) ≤ (v11.getD (0 + v6.toNat) (0, ByteArray.empty)).1 ∧ (v11.getD (0 + v6.toNat) (0, ByteArray.empty)).1 < ((v10.length : Nat) : Int))) (cond (decide (0 + (((v11.getD (0 + v6.toNat) (0, ByteArray.empty)).1).toNat) < v10.length)) (f49_1_l6 F v5 v7 v8 v9 v11 K0 k (IntKind.i64.wrap (v6 + 1)) (v10.set (0 + (((v11.getD (0 + v6.toNat) (0, ByteArray.empty)).1).toNat)) ((v11.getD (0 + v6.toNat) (0, ByteArray.empty)).2))) none) none) none) none) (K0 v10)
noncomputable def f49_1 {β : Type} (F : Nat) (a1 : Int) (a2 : Bool) (a3 : Int) (a4 : List ByteArray) (a5 : List (Int × ByteArray)) (K0 : Int → Int → Bool → Int → List ByteArray → List (Int × ByteArray) → Option β) : Option β := cond a2 (K0 5 a1 a2 a3 a4 a5) (f66_1 F a1 a2 a3 a4 a5 (fun x1 x2 x3 x4 => cond (!x1) (K0 5 x2 x3 x4 a4 a5) (f49_1_l6 F ((a5.length : Nat) : Int) x2 x3 x4 a5 (fun x12 => K0 0 x2 x3 x4 x12 []) F 0 a4)) )
variable [FZ]
def sh49_1 : Sh := ⟨[.lf (.ptr 0 0)], [some ⟨some false, [.full 1, .full 2, .int .i64, .bool, .int .i64]⟩, some ⟨some false, [.seq .str 0]⟩, some ⟨some false, [.seq (.pair (.int .i64) .str) 0]⟩]⟩
noncomputable def S49_1 (F : Nat) (o : Summ) : Summ := mkS sh49_1 (fun d K => f49_1 F d.2.1.2.2.2.1 d.2.1.2.2.2.2.1 d.2.1.2.2.2.2.2.1 d.2.2.1.2.1 d.2.2.2.1.2.1 (fun (y0 : Int) (y1 : Int) (y2 : Bool) (y3 : Int) (y4 : List ByteArray) (y5 : List (Int × ByteArray)) => K [.lf (.int .i64 y0)] [some ⟨false, [.full 1, .full 3, .int .i64 y1, .bool y2, .int .i64 y3]⟩, some ⟨false, [.seq .str 0 y4]⟩, none, some ⟨false, [.seq (.pair (.int .i64) .str) 0 y5]⟩])) o
noncomputable def code49 : Code := bodyOf Tryd.f49
noncomputable def b49_0 : Code := cB (cB (cR (cL (cR (cR (code49))))))
theorem scopes49 : scopesOf code49 = [] := by kernel_rfl
theorem ranges49 : rangesOf code49 = [] := by kernel_rfl
theorem loops49 : loopsOf code49 = [b49_0] := by kernel_rfl
theorem enter49 : ∀ args w, (callFunc 49 args).run Tryd.prog w = .ok (.enter 49 args) w := enter_of (fn := Tryd.f49) (by kernel_rfl) (by kernel_rfl) (by kernel_rfl)
noncomputable def T49_1 (F : Nat) : FuncId → Option Summ := tab [(66, (S66_1 F noS))]
def sh49_1_l6 : Sh := ⟨[.lf (.ptr 0 0), .lf (.full 2), .lf (.int .i64), .lf (.int .i64)], [some ⟨some false, [.full 1, .full 2, .int .i64, .bool, .int .i64]⟩, some ⟨some false, [.seq .str 0]⟩, some ⟨some false, [.seq (.pair (.int .i64) .str) 0]⟩]⟩
noncomputable def G49_1_6 (F k : Nat) : LoopS := mkG sh49_1_l6 [0, 21, 22, 23] (outT [(.exit 1, [0])]) (fun d K => f49_1_l6 F d.1.2.2.1 d.2.1.2.2.2.1 d.2.1.2.2.2.2.1 d.2.1.2.2.2.2.2.1 d.2.2.2.1.2.1 (fun (y3 : List ByteArray) => K (.exit 1) [.tv (.lf (.ptr 0 0))] [some ⟨false, [.full 1, .full 2, .int .i64 d.2.1.2.2.2.1, .bool d.2.1.2.2.2.2.1, .int .i64 d.2.1.2.2.2.2.2.1]⟩, some ⟨false, [.seq .str 0 y3]⟩, some ⟨false, [.seq (.pair (.int .i64) .str) 0 d.2.2.2.1.2.1]⟩]) k d.1.2.2.2.1 d.2.2.1.2.1) []
noncomputable def LT49_1 (F : Nat) : Nat → Option LoopS := ltab [(6, G49_1_6 F F)]
theorem L49_1_l6g (F k : Nat) (c66_1 : Int → Bool → Int → List ByteArray → List (Int × ByteArray) → (Bool → Int → Bool → Int → Option Res) → Option Res)  (l6 : Int → Int → Bool → Int → List (Int × ByteArray) → (List ByteArray → Option Res) → Nat → Int → List ByteArray → Option Res) (X6 : LoopS) (d : sh49_1_l6.den) (K : KL) : (fun (v5 : Int) (v7 : Int) (v8 : Bool) (v9 : Int) (v11 : List (Int × ByteArray)) (K0 : (List ByteArray → Option Res)) (k : Nat) (v6 : Int) (v10 : List ByteArray) => cond (decide (v6 < v5)) (cond (decide ((0 : Int) ≤ v6 ∧ v6 < ((v11.length : Nat) : Int))) (cond (decide (0 + v6.toNat < v11.length)) (cond (decide ((0 : Int) ≤ (v11.getD (0 + v6.toNat) (0, ByteArray.empty)).1 ∧ (v11.getD (0 + v6.toNat) (0, ByteArray.empty)).1 < ((v10.length : Nat) : Int))) (cond (decide (0 + (((v11.getD (0 + v6.toNat) (0, ByteArray.empty)).1).toNat) < v10.length)) (l6 v5 v7 v8 v9 v11 K0 k (IntKind.i64.wrap (v6 + 1)) (v10.set (0 + (((v11.getD (0 + v6.toNat) (0, ByteArray.empty)).1).toNat)) ((v11.getD (0 + v6.toNat) (0, ByteArray.empty)).2))) none) none) none) none) (K0 v10)) d.1.2.2.1 d.2.1.2.2.2.1 d.2.1.2.2.2.2.1 d.2.1.2.2.2.2.2.1 d.2.2.2.1.2.1 (fun (y3 : List ByteArray) => K (.exit 1) [.tv (.lf (.ptr 0 0))] [some ⟨false, [.full 1, .full 2, .int .i64 d.2.1.2.2.2.1, .bool d.2.1.2.2.2.2.1, .int .i64 d.2.1.2.2.2.2.2.1]⟩, some ⟨false, [.seq .str 0 y3]⟩, some ⟨false, [.seq (.pair (.int .i64) .str) 0 d.2.2.2.1.2.1]⟩]) k d.1.2.2.2.1 d.2.2.1.2.1 = roundOf Tryd.prog (tab [(66, (mkS sh66_1 (fun d K => c66_1 d.2.1.2.2.2.1 d.2.1.2.2.2.2.1 d.2.1.2.2.2.2.2.1 d.2.2.1.2.1 d.2.2.2.1.2.1 (fun (y0 : Bool) (y1 : Int) (y2 : Bool) (y3 : Int) => K [.lf (.bool y0)] [some ⟨false, [.full 1, .full 2, .int .i64 y1, .bool y2, .int .i64 y3]⟩, some ⟨d.2.2.1.1, [.seq .str 0 d.2.2.1.2.1]⟩, some ⟨d.2.2.2.1.1, [.seq (.pair (.int .i64) .str) 0 d.2.2.2.1.2.1]⟩])) noS))]) (xw []) 40 3 (ltab [(6, X6)]) (mkG sh49_1_l6 [0, 21, 22, 23] (outT [(.exit 1, [0])]) (fun d K => l6 d.1.2.2.1 d.2.1.2.2.2.1 d.2.1.2.2.2.2.1 d.2.1.2.2.2.2.2.1 d.2.2.2.1.2.1 (fun (y3 : List ByteArray) => K (.exit 1) [.tv (.lf (.ptr 0 0))] [some ⟨false, [.full 1, .full 2, .int .i64 d.2.1.2.2.2.1, .bool d.2.1.2.2.2.2.1, .int .i64 d.2.1.2.2.2.2.2.1]⟩, some ⟨false, [.seq .str 0 y3]⟩, some ⟨false, [.seq (.pair (.int .i64) .str) 0 d.2.2.2.1.2.1]⟩]) k d.1.2.2.2.1 d.2.2.1.2.1) []) b49_0 (encT sh49_1_l6.vs d.1) (encH sh49_1_l6.h d.2) K := by kernel_rfl
theorem L49_1_6 (F : Nat) : LoopOK Tryd.prog (T49_1 F) (xw []) 40 3 (LT49_1 F) (G49_1_6 F F) b49_0 :=
  loopOK_of (s := sh49_1_l6) (live := [0, 21, 22, 23]) (out := (outT [(.exit 1, [0])])) (mv := []) (fun k d K => f49_1_l6 F d.1.2.2.1 d.2.1.2.2.2.1 d.2.1.2.2.2.2.1 d.2.1.2.2.2.2.2.1 d.2.2.2.1.2.1 (fun (y3 : List ByteArray) => K (.exit 1) [.tv (.lf (.ptr 0 0))] [some ⟨false, [.full 1, .full 2, .int .i64 d.2.1.2.2.2.1, .bool d.2.1.2.2.2.2.1, .int .i64 d.2.1.2.2.2.2.2.1]⟩, some ⟨false, [.seq .str 0 y3]⟩, some ⟨false, [.seq (.pair (.int .i64) .str) 0 d.2.2.2.1.2.1]⟩]) k d.1.2.2.2.1 d.2.2.1.2.1) F (fun d K => by kernel_rfl)  (fun k d K => Eq.mp (by kernel_rfl) (L49_1_l6g F k (f66_1 F)  (f49_1_l6 F) (G49_1_6 F F) d K))
theorem E49_1g (F : Nat) (c66_1 : Int → Bool → Int → List ByteArray → List (Int × ByteArray) → (Bool → Int → Bool → Int → Option Res) → Option Res) (l6 : Int → Int → Bool → Int → List (Int × ByteArray) → (List ByteArray → Option Res) → Nat → Int → List ByteArray → Option Res)  (d : sh49_1.den) (K : KF) : evBody Tryd.prog (tab [(66, (mkS sh66_1 (fun d K => c66_1 d.2.1.2.2.2.1 d.2.1.2.2.2.2.1 d.2.1.2.2.2.2.2.1 d.2.2.1.2.1 d.2.2.2.1.2.1 (fun (y0 : Bool) (y1 : Int) (y2 : Bool) (y3 : Int) => K [.lf (.bool y0)] [some ⟨false, [.full 1, .full 2, .int .i64 y1, .bool y2, .int .i64 y3]⟩, some ⟨d.2.2.1.1, [.seq .str 0 d.2.2.1.2.1]⟩, some ⟨d.2.2.2.1.1, [.seq (.pair (.int .i64) .str) 0 d.2.2.2.1.2.1]⟩])) noS))]) (xw []) 40 3 (ltab [(6, mkG sh49_1_l6 [0, 21, 22, 23] (outT [(.exit 1, [0])]) (fun d K => l6 d.1.2.2.1 d.2.1.2.2.2.1 d.2.1.2.2.2.2.1 d.2.1.2.2.2.2.2.1 d.2.2.2.1.2.1 (fun (y3 : List ByteArray) => K (.exit 1) [.tv (.lf (.ptr 0 0))] [some ⟨false, [.full 1, .full 2, .int .i64 d.2.1.2.2.2.1, .bool d.2.1.2.2.2.2.1, .int .i64 d.2.1.2.2.2.2.2.1]⟩, some ⟨false, [.seq .str 0 y3]⟩, some ⟨false, [.seq (.pair (.int .i64) .str) 0 d.2.2.2.1.2.1]⟩]) F d.1.2.2.2.1 d.2.2.1.2.1) [])]) [2] code49 Tryd.f49.results.toList (encT sh49_1.vs d.1) (encH sh49_1.h d.2) K = (fun (a1 : Int) (a2 : Bool) (a3 : Int) (a4 : List ByteArray) (a5 : List (Int × ByteArray)) (K0 : (Int → Int → Bool → Int → List ByteArray → List (Int × ByteArray) → Option Res)) => cond a2 (K0 5 a1 a2 a3 a4 a5) (c66_1 a1 a2 a3 a4 a5 (fun x1 x2 x3 x4 => cond (!x1) (K0 5 x2 x3 x4 a4 a5) (l6 ((a5.length : Nat) : Int) x2 x3 x4 a5 (fun x12 => K0 0 x2 x3 x4 x12 []) F 0 a4)) )) d.2.1.2.2.2.1 d.2.1.2.2.2.2.1 d.2.1.2.2.2.2.2.1 d.2.2.1.2.1 d.2.2.2.1.2.1 (fun (y0 : Int) (y1 : Int) (y2 : Bool) (y3 : Int) (y4 : List ByteArray) (y5 : List (Int × ByteArray)) => K [.lf (.int .i64 y0)] [some ⟨false, [.full 1, .full 3, .int .i64 y1, .bool y2, .int .i64 y3]⟩, some ⟨false, [.seq .str 0 y4]⟩, none, some ⟨false, [.seq (.pair (.int .i64) .str) 0 y5]⟩]) := by kernel_rfl
theorem E49_1 (F : Nat) (d : sh49_1.den) (K : KF) : evBody Tryd.prog (T49_1 F) (xw []) 40 3 (LT49_1 F) [2] code49 Tryd.f49.results.toList (encT sh49_1.vs d.1) (encH sh49_1.h d.2) K = f49_1 F d.2.1.2.2.2.1 d.2.1.2.2.2.2.1 d.2.1.2.2.2.2.2.1 d.2.2.1.2.1 d.2.2.2.1.2.1 (fun (y0 : Int) (y1 : Int) (y2 : Bool) (y3 : Int) (y4 : List ByteArray) (y5 : List (Int × ByteArray)) => K [.lf (.int .i64 y0)] [some ⟨false, [.full 1, .full 3, .int .i64 y1, .bool y2, .int .i64 y3]⟩, some ⟨false, [.seq .str 0 y4]⟩, none, some ⟨false, [.seq (.pair (.int .i64) .str) 0 y5]⟩]) := Eq.mp (by kernel_rfl) (E49_1g F (f66_1 F) (f49_1_l6 F)  d K)
theorem S49_1_ok (F : Nat) (o : Summ) (ho : SoundFn Tryd.prog 49 o) : SoundFn Tryd.prog 49 (S49_1 F o) :=
  soundFn_of (fn := Tryd.f49) (c := code49) rfl rfl (by kernel_rfl) (tab_cons (S66_1_ok F _ (noS_sound enter66)) tab_nil) (by kernel_rfl) (by kernel_rfl) ho (by rw [loops49]; exact (loopsOK_cons (by kernel_rfl) (L49_1_6 F) loopsOK_nil)) (by rw [scopes49]; exact scopesOK_nil) (by rw [ranges49]; exact rangesOK_nil) (E49_1 F)
end Go.Proofs.YtlgopekjjkdkiaaDoor.X
end

section
namespace Go.Proofs.YtlgopekjjkdkiaaDoor.X
open Go Go.Proofs.YtlgopekjjkdkiaaDoor.Ev Go.Proofs
set_option linter.unusedVariables false
set_option linter.unusedSectionVars false
/-! cow.write -/
noncomputable def f30_1 {β : Type} (F : Nat) (a1 : Int) (a2 : ByteArray) (a3 : Int) (a4 : Bool) (a5 : Int) (a6 : List ByteArray) (a7 : List (Int × ByteArray)) (K0 : Int → Int → Bool → Int → List ByteArray → List (Int × ByteArray) → Option β) : Option β := f48_1 F a1 a2 a3 a4 a5 a6 a7 (fun x1 x2 x3 x4 x5 => cond (x1 != 0) (K0 x1 x2 x3 x4 a6 x5) (f49_1 F x2 x3 x4 a6 x5 (fun x6 x7 x8 x9 x10 x11 => K0 x6 x7 x8 x9 x10 x11) )) 
variable [FZ]
def sh30_1 : Sh := ⟨[.lf (.ptr 0 0), .lf (.int .i64), .lf (.str)], [some ⟨some false, [.full 1, .full 2, .int .i64, .bool, .int .i64]⟩, some ⟨some false, [.seq .str 0]⟩, some ⟨some false, [.seq (.pair (.int .i64) .str) 0]⟩]⟩
noncomputable def S30_1 (F : Nat) (o : Summ) : Summ := mkS sh30_1 (fun d K => f30_1 F d.1.2.1 d.1.2.2.1 d.2.1.2.2.2.1 d.2.1.2.2.2.2.1 d.2.1.2.2.2.2.2.1 d.2.2.1.2.1 d.2.2.2.1.2.1 (fun (y0 : Int) (y1 : Int) (y2 : Bool) (y3 : Int) (y4 : List ByteArray) (y5 : List (Int × ByteArray)) => K [.lf (.int .i64 y0)] [some ⟨false, [.full 1, .full 3, .int .i64 y1, .bool y2, .int .i64 y3]⟩, some ⟨false, [.seq .str 0 y4]⟩, none, some ⟨false, [.seq (.pair (.int .i64) .str) 0 y5]⟩])) o
noncomputable def code30 : Code := bodyOf Tryd.f30
theorem scopes30 : scopesOf code30 = [] := by kernel_rfl
theorem ranges30 : rangesOf code30 = [] := by kernel_rfl
theorem loops30 : loopsOf code30 = [] := by kernel_rfl
theorem enter30 : ∀ args w, (callFunc 30 args).run Tryd.prog w = .ok (.enter 30 args) w := enter_of (fn := Tryd.f30) (by kernel_rfl) (by kernel_rfl) (by kernel_rfl)
noncomputable def T30_1 (F : Nat) : FuncId → Option Summ := tab [(48, (S48_1 F noS)), (49, (S49_1 F noS))]
noncomputable def LT30_1 (F : Nat) : Nat → Option LoopS := ltab []
theorem E30_1g (F : Nat) (c48_1 : Int → ByteArray → Int → Bool → Int → List ByteArray → List (Int × ByteArray) → (Int → Int → Bool → Int → List (Int × ByteArray) → Option Res) → Option Res) (c49_1 : Int → Bool → Int → List ByteArray → List (Int × ByteArray) → (Int → Int → Bool → Int → List ByteArray → List (Int × ByteArray) → Option Res) → Option Res)   (d : sh30_1.den) (K : KF) : evBody Tryd.prog (tab [(48, (mkS sh48_1 (fun d K => c48_1 d.1.2.1 d.1.2.2.1 d.2.1.2.2.2.1 d.2.1.2.2.2.2.1 d.2.1.2.2.2.2.2.1 d.2.2.1.2.1 d.2.2.2.1.2.1 (fun (y0 : Int) (y1 : Int) (y2 : Bool) (y3 : Int) (y5 : List (Int × ByteArray)) => K [.lf (.int .i64 y0)] [some ⟨false, [.full 1, .full 3, .int .i64 y1, .bool y2, .int .i64 y3]⟩, some ⟨d.2.2.1.1, [.seq .str 0 d.2.2.1.2.1]⟩, none, some ⟨false, [.seq (.pair (.int .i64) .str) 0 y5]⟩])) noS)), (49, (mkS sh49_1 (fun d K => c49_1 d.2.1.2.2.2.1 d.2.1.2.2.2.2.1 d.2.1.2.2.2.2.2.1 d.2.2.1.2.1 d.2.2.2.1.2.1 (fun (y0 : Int) (y1 : Int) (y2 : Bool) (y3 : Int) (y4 : List ByteArray) (y5 : List (Int × ByteArray)) => K [.lf (.int .i64 y0)] [some ⟨false, [.full 1, .full 3, .int .i64 y1, .bool y2, .int .i64 y3]⟩, some ⟨false, [.seq .str 0 y4]⟩, none, some ⟨false, [.seq (.pair (.int .i64) .str) 0 y5]⟩])) noS))]) (xw []) 17 3 (ltab []) [2] code30 Tryd.f30.results.toList (encT sh30_1.vs d.1) (encH sh30_1.h d.2) K = (fun (a1 : Int) (a2 : ByteArray) (a3 : Int) (a4 : Bool) (a5 : Int) (a6 : List ByteArray) (a7 : List (Int × ByteArray)) (K0 : (Int → Int → Bool → Int → List ByteArray → List (Int × ByteArray) → Option Res)) => c48_1 a1 a2 a3 a4 a5 a6 a7 (fun x1 x2 x3 x4 x5 => cond (x1 != 0) (K0 x1 x2 x3 x4 a6 x5) (c49_1 x2 x3 x4 a6 x5 (fun x6 x7 x8 x9 x10 x11 => K0 x6 x7 x8 x9 x10 x11) )) ) d.1.2.1 d.1.2.2.1 d.2.1.2.2.2.1 d.2.1.2.2.2.2.1 d.2.1.2.2.2.2.2.1 d.2.2.1.2.1 d.2.2.2.1.2.1 (fun (y0 : Int) (y1 : Int) (y2 : Bool) (y3 : Int) (y4 : List ByteArray) (y5 : List (Int × ByteArray)) => K [.lf (.int .i64 y0)] [some ⟨false, [.full 1, .full 3, .int .i64 y1, .bool y2, .int .i64 y3]⟩, some ⟨false, [.seq .str 0 y4]⟩, none, some ⟨false, [.seq (.pair (.int .i64) .str) 0 y5]⟩]) := by kernel_rfl
theorem E30_1 (F : Nat) (d : sh30_1.den) (K : KF) : evBody Tryd.prog (T30_1 F) (xw []) 17 3 (LT30_1 F) [2] code30 Tryd.f30.results.toList (encT sh30_1.vs d.1) (encH sh30_1.h d.2) K = f30_1 F d.1.2.1 d.1.2.2.1 d.2.1.2.2.2.1 d.2.1.2.2.2.2.1 d.2.1.2.2.2.2.2.1 d.2.2.1.2.1 d.2.2.2.1.2.1 (fun (y0 : Int) (y1 : Int) (y2 : Bool) (y3 : Int) (y4 : List ByteArray) (y5 : List (Int × ByteArray)) => K [.lf (.int .i64 y0)] [some ⟨false, [.full 1, .full 3, .int .i64 y1, .bool y2, .int .i64 y3]⟩, some ⟨false, [.seq .str 0 y4]⟩, none, some ⟨false, [.seq (.pair (.int .i64) .str) 0 y5]⟩]) := Eq.mp (by kernel_rfl) (E30_1g F (f48_1 F) (f49_1 F)   d K)
theorem S30_1_ok (F : Nat) (o : Summ) (ho : SoundFn Tryd.prog 30 o) : SoundFn Tryd.prog 30 (S30_1 F o) :=
  soundFn_of (fn := Tryd.f30) (c := code30) rfl rfl (by kernel_rfl) (tab_cons (S48_1_ok F _ (noS_sound enter48)) (tab_cons (S49_1_ok F _ (noS_sound enter49)) tab_nil)) (by kernel_rfl) (by kernel_rfl) ho (by rw [loops30]; exact loopsOK_nil) (by rw [scopes30]; exact scopesOK_nil) (by rw [ranges30]; exact rangesOK_nil) (E30_1 F)
end Go.Proofs.YtlgopekjjkdkiaaDoor.X
end

section
namespace Go.Proofs.YtlgopekjjkdkiaaDoor.X
open Go Go.Proofs.YtlgopekjjkdkiaaDoor.Ev Go.Proofs
set_option linter.unusedVariables false
set_option linter.unusedSectionVars false
/-! rec.Make -/
noncomputable def f32_1 {β : Type} (F : Nat) (a1 : Int) (a2 : ByteArray) (K0 : ByteArray → Int → Option β) : Option β := cond (decide (a1 < 1)) (K0 ByteArray.empty 22) (cond (decide (a1 > 8)) (K0 ByteArray.empty 22) (cond (decide ((a2.size : Int) > 58)) (K0 ByteArray.empty 8) (cond (decide ((ofInts [IntKind.u8.wrap a1, IntKind.u8.wrap (a2.size : Int)]).size + a2.size ≤ 4611686018427387904)) (f52_1 F (⟨#[0]⟩ : ByteArray) (IntKind.i64.wrap (60 - (((ofInts [IntKind.u8.wrap a1, IntKind.u8.wrap (a2.size : Int)]) ++ a2).size : Int))) (fun x1 => cond (decide (((ofInts [IntKind.u8.wrap a1, IntKind.u8.wrap (a2.size : Int)]) ++ a2).size + x1.size ≤ 4611686018427387904)) (f53_1 F (((ofInts [IntKind.u8.wrap a1, IntKind.u8.wrap (a2.size : Int)]) ++ a2) ++ x1) (fun x2 => cond (decide ((((ofInts [IntKind.u8.wrap a1, IntKind.u8.wrap (a2.size : Int)]) ++ a2) ++ x1).size + x2.size ≤ 4611686018427387904)) (K0 ((((ofInts [IntKind.u8.wrap a1, IntKind.u8.wrap (a2.size : Int)]) ++ a2) ++ x1) ++ x2) 0) none) ) none) ) none)))
variable [FZ]
def sh32_1 : Sh := ⟨[.lf (.int .i64), .lf (.str)], []⟩
noncomputable def S32_1 (F : Nat) (o : Summ) : Summ := mkS sh32_1 (fun d K => f32_1 F d.1.1 d.1.2.1 (fun (y0 : ByteArray) (y1 : Int) => K [.lf (.str y0), .lf (.int .i64 y1)] [])) o
noncomputable def code32 : Code := bodyOf Tryd.f32
theorem scopes32 : scopesOf code32 = [] := by kernel_rfl
theorem ranges32 : rangesOf code32 = [] := by kernel_rfl
theorem loops32 : loopsOf code32 = [] := by kernel_rfl
theorem enter32 : ∀ args w, (callFunc 32 args).run Tryd.prog w = .ok (.enter 32 args) w := enter_of (fn := Tryd.f32) (by kernel_rfl) (by kernel_rfl) (by kernel_rfl)
noncomputable def T32_1 (F : Nat) : FuncId → Option Summ := tab [(52, (S52_1 F noS)), (53, (S53_1 F noS))]
noncomputable def LT32_1 (F : Nat) : Nat → Option LoopS := ltab []
theorem E32_1g (F : Nat) (c52_1 : ByteArray → Int → (ByteArray → Option Res) → Option Res) (c53_1 : ByteArray → (ByteArray → Option Res) → Option Res)   (d : sh32_1.den) (K : KF) : evBody Tryd.prog (tab [(52, (mkS sh52_1 (fun d K => c52_1 d.1.1 d.1.2.1 (fun (y0 : ByteArray) => K [.lf (.str y0)] [])) noS)), (53, (mkS sh53_1 (fun d K => c53_1 d.1.1 (fun (y0 : ByteArray) => K [.lf (.str y0)] [])) noS))]) (xw []) 37 0 (ltab []) [] code32 Tryd.f32.results.toList (encT sh32_1.vs d.1) (encH sh32_1.h d.2) K = (fun (a1 : Int) (a2 : ByteArray) (K0 : (ByteArray → Int → Option Res)) => cond (decide (a1 < 1)) (K0 ByteArray.empty 22) (cond (decide (a1 > 8)) (K0 ByteArray.empty 22) (cond (decide ((a2.size : Int) > 58)) (K0 ByteArray.empty 8) (cond (decide ((ofInts [IntKind.u8.wrap a1, IntKind.u8.wrap (a2.size : Int)]).size + a2.size ≤ 4611686018427387904)) (c52_1 (⟨#[0]⟩ : ByteArray) (IntKind.i64.wrap (60 - (((ofInts [IntKind.u8.wrap a1, IntKind.u8.wrap (a2.size : Int)]) ++ a2).size : Int))) (fun x1 => cond (decide (((ofInts [IntKind.u8.wrap a1, IntKind.u8.wrap (a2.size : Int)]) ++ a2).size + x1.size ≤ 4611686018427387904)) (c53_1 (((ofInts [IntKind.u8.wrap a1, IntKind.u8.wrap (a2.size : Int)]) ++ a2) ++ x1) (fun x2 => cond (decide ((((ofInts [IntKind.u8.wrap a1, IntKind.u8.wrap (a2.size : Int)]) ++ a2) ++ x1).size + x2.size ≤ 4611686018427387904)) (K0 ((((ofInts [IntKind.u8.wrap a1, IntKind.u8.wrap (a2.size : Int)]) ++ a2) ++ x1) ++ x2) 0) none) ) none) ) none)))) d.1.1 d.1.2.1 (fun (y0 : ByteArray) (y1 : Int) => K [.lf (.str y0), .lf (.int .i64 y1)] []) := by kernel_rfl
theorem E32_1 (F : Nat) (d : sh32_1.den) (K : KF) : evBody Tryd.prog (T32_1 F) (xw []) 37 0 (LT32_1 F) [] code32 Tryd.f32.results.toList (encT sh32_1.vs d.1) (encH sh32_1.h d.2) K = f32_1 F d.1.1 d.1.2.1 (fun (y0 : ByteArray) (y1 : Int) => K [.lf (.str y0), .lf (.int .i64 y1)] []) := Eq.mp (by kernel_rfl) (E32_1g F (f52_1 F) (f53_1 F)   d K)
theorem S32_1_ok (F : Nat) (o : Summ) (ho : SoundFn Tryd.prog 32 o) : SoundFn Tryd.prog 32 (S32_1 F o) :=
  soundFn_of (fn := Tryd.f32) (c := code32) rfl rfl (by kernel_rfl) (tab_cons (S52_1_ok F _ (noS_sound enter52)) (tab_cons (S53_1_ok F _ (noS_sound enter53)) tab_nil)) (by kernel_rfl) (by kernel_rfl) ho (by rw [loops32]; exact loopsOK_nil) (by rw [scopes32]; exact scopesOK_nil) (by rw [ranges32]; exact rangesOK_nil) (E32_1 F)
end Go.Proofs.YtlgopekjjkdkiaaDoor.X
end

section
namespace Go.Proofs.YtlgopekjjkdkiaaDoor.X
open Go Go.Proofs.YtlgopekjjkdkiaaDoor.Ev Go.Proofs
set_option linter.unusedVariables false
set_option linter.unusedSectionVars false
/-! cow.head).body -/
noncomputable def f34_1 {β : Type} (F : Nat) (a1 : Int) (a2 : Int) (a3 : Int) (a4 : Int) (K0 : ByteArray → Option β) : Option β := f55_1 F 8 a1 [] (fun x1 => f55_1 F 4 a2 x1 (fun x2 => f55_1 F 4 a3 x2 (fun x3 => f55_1 F 4 a4 x3 (fun x4 => K0 (ofInts x4)) ) ) ) 
variable [FZ]
def sh34_1 : Sh := ⟨[.agg [.int .u64, .int .u64, .int .u64, .int .u64]], []⟩
noncomputable def S34_1 (F : Nat) (o : Summ) : Summ := mkS sh34_1 (fun d K => f34_1 F d.1.1.1 d.1.1.2.1 d.1.1.2.2.1 d.1.1.2.2.2.1 (fun (y0 : ByteArray) => K [.lf (.str y0)] [])) o
noncomputable def code34 : Code := bodyOf Tryd.f34
theorem scopes34 : scopesOf code34 = [] := by kernel_rfl
theorem ranges34 : rangesOf code34 = [] := by kernel_rfl
theorem loops34 : loopsOf code34 = [] := by kernel_rfl
theorem enter34 : ∀ args w, (callFunc 34 args).run Tryd.prog w = .ok (.enter 34 args) w := enter_of (fn := Tryd.f34) (by kernel_rfl) (by kernel_rfl) (by kernel_rfl)
noncomputable def T34_1 (F : Nat) : FuncId → Option Summ := tab [(55, (S55_1 F noS))]
noncomputable def LT34_1 (F : Nat) : Nat → Option LoopS := ltab []
theorem E34_1g (F : Nat) (c55_1 : Int → Int → List Int → (List Int → Option Res) → Option Res)   (d : sh34_1.den) (K : KF) : evBody Tryd.prog (tab [(55, (mkS sh55_1 (fun d K => c55_1 d.1.2.1 d.1.2.2.1 d.2.1.2.1 (fun (y1 : List Int) => K [.lf (.full 1)] [some ⟨d.2.1.1, [.seq (.int .u8) 0 d.2.1.2.1]⟩, some ⟨false, [.seq (.int .u8) 0 y1]⟩])) noS))]) (xw []) 20 0 (ltab []) [] code34 Tryd.f34.results.toList (encT sh34_1.vs d.1) (encH sh34_1.h d.2) K = (fun (a1 : Int) (a2 : Int) (a3 : Int) (a4 : Int) (K0 : (ByteArray → Option Res)) => c55_1 8 a1 [] (fun x1 => c55_1 4 a2 x1 (fun x2 => c55_1 4 a3 x2 (fun x3 => c55_1 4 a4 x3 (fun x4 => K0 (ofInts x4)) ) ) ) ) d.1.1.1 d.1.1.2.1 d.1.1.2.2.1 d.1.1.2.2.2.1 (fun (y0 : ByteArray) => K [.lf (.str y0)] []) := by kernel_rfl
theorem E34_1 (F : Nat) (d : sh34_1.den) (K : KF) : evBody Tryd.prog (T34_1 F) (xw []) 20 0 (LT34_1 F) [] code34 Tryd.f34.results.toList (encT sh34_1.vs d.1) (encH sh34_1.h d.2) K = f34_1 F d.1.1.1 d.1.1.2.1 d.1.1.2.2.1 d.1.1.2.2.2.1 (fun (y0 : ByteArray) => K [.lf (.str y0)] []) := Eq.mp (by kernel_rfl) (E34_1g F (f55_1 F)   d K)
theorem S34_1_ok (F : Nat) (o : Summ) (ho : SoundFn Tryd.prog 34 o) : SoundFn Tryd.prog 34 (S34_1 F o) :=
  soundFn_of (fn := Tryd.f34) (c := code34) rfl rfl (by kernel_rfl) (tab_cons (S55_1_ok F _ (noS_sound enter55)) tab_nil) (by kernel_rfl) (by kernel_rfl) ho (by rw [loops34]; exact loopsOK_nil) (by rw [scopes34]; exact scopesOK_nil) (by rw [ranges34]; exact rangesOK_nil) (E34_1 F)
end Go.Proofs.YtlgopekjjkdkiaaDoor.X
end

section
namespace Go.Proofs.YtlgopekjjkdkiaaDoor.X
open Go Go.Proofs.YtlgopekjjkdkiaaDoor.Ev Go.Proofs
set_option linter.unusedVariables false
set_option linter.unusedSectionVars false
/-! cow.Append -/
noncomputable def f9_1 {β : Type} (F : Nat) (a1 : Int) (a2 : Int) (a3 : Int) (a4 : Int) (a5 : Int) (a6 : Int) (a7 : Int) (a8 : Int) (a9 : Bool) (a10 : Int) (a11 : List ByteArray) (a12 : List (Int × ByteArray)) (K0 : Int → Int → ByteArray → Int → Int → Bool → Int → List ByteArray → List (Int × ByteArray) → Option β) : Option β := f27_1 F a1 a2 a3 a4 (fun x1 => cond (!x1) (K0 0 0 ByteArray.empty 12 a8 a9 a10 a11 a12) (cond (decide (a5 < 0)) (K0 0 0 ByteArray.empty 11 a8 a9 a10 a11 a12) (cond (decide (a5 ≥ a3)) (K0 0 0 ByteArray.empty 11 a8 a9 a10 a11 a12) (f28_1 F a1 a2 a3 a4 a7 (fun x2 => cond (decide (x2 < 0)) (K0 0 0 ByteArray.empty 3 a8 a9 a10 a11 a12) (f28_1 F a1 a2 a3 a4 a7 (fun x3 => f29_1 F x3 a8 a9 a10 a11 a12 (fun x4 x5 => cond (x5 != 0) (K0 0 0 ByteArray.empty x5 a8 a9 a10 a11 a12) (f31_1 F a1 a2 a3 a4 0 (IntKind.i64.wrap ((IntKind.i64.wrap (2 * a5)) + 1)) (fun x6 => f30_1 F x6 x4 a8 a9 a10 a11 a12 (fun x7 x8 x9 x10 x11 x12 => cond (x7 != 0) (K0 0 0 ByteArray.empty x7 x8 x9 x10 x11 x12) (f33_1 F a5 0 a6 a7 x4 (fun x13 x14 x15 => f34_1 F a6 x13 x14 x15 (fun x16 => f32_1 F 8 x16 (fun x17 x18 => cond (x18 != 0) (K0 0 0 ByteArray.empty x18 x8 x9 x10 x11 x12) (f31_1 F a1 a2 a3 a4 0 (IntKind.i64.wrap (2 * a5)) (fun x19 => f30_1 F x19 x17 x8 x9 x10 x11 x12 (fun x20 x21 x22 x23 x24 x25 => cond (x20 != 0) (K0 0 0 ByteArray.empty x20 x21 x22 x23 x24 x25) (K0 a6 a7 x4 0 x21 x22 x23 x24 x25)) ) )) ) ) )) ) )) ) )) )))) 
variable [FZ]
def sh9_1 : Sh := ⟨[.lf (.ptr 0 0), .agg [.int .i64, .int .i64, .int .i64, .int .i64], .lf (.int .i64), .lf (.int .u64), .lf (.int .i64)], [some ⟨some false, [.full 1, .full 2, .int .i64, .bool, .int .i64]⟩, some ⟨some false, [.seq .str 0]⟩, some ⟨some false, [.seq (.pair (.int .i64) .str) 0]⟩]⟩
noncomputable def S9_1 (F : Nat) (o : Summ) : Summ := mkS sh9_1 (fun d K => f9_1 F d.1.2.1.1 d.1.2.1.2.1 d.1.2.1.2.2.1 d.1.2.1.2.2.2.1 d.1.2.2.1 d.1.2.2.2.1 d.1.2.2.2.2.1 d.2.1.2.2.2.1 d.2.1.2.2.2.2.1 d.2.1.2.2.2.2.2.1 d.2.2.1.2.1 d.2.2.2.1.2.1 (fun (y1 : Int) (y2 : Int) (y3 : ByteArray) (y4 : Int) (y5 : Int) (y6 : Bool) (y7 : Int) (y8 : List ByteArray) (y9 : List (Int × ByteArray)) => K [.agg [.int .u64 0, .int .u64 y1, .int .i64 y2, .str y3], .lf (.int .i64 y4)] [some ⟨false, [.full 1, .full 3, .int .i64 y5, .bool y6, .int .i64 y7]⟩, some ⟨false, [.seq .str 0 y8]⟩, none, some ⟨false, [.seq (.pair (.int .i64) .str) 0 y9]⟩])) o
noncomputable def code9 : Code := bodyOf Tryd.f9
theorem scopes9 : scopesOf code9 = [] := by kernel_rfl
theorem ranges9 : rangesOf code9 = [] := by kernel_rfl
theorem loops9 : loopsOf code9 = [] := by kernel_rfl
theorem enter9 : ∀ args w, (callFunc 9 args).run Tryd.prog w = .ok (.enter 9 args) w := enter_of (fn := Tryd.f9) (by kernel_rfl) (by kernel_rfl) (by kernel_rfl)
noncomputable def T9_1 (F : Nat) : FuncId → Option Summ := tab [(27, (S27_1 F noS)), (28, (S28_1 F noS)), (29, (S29_1 F noS)), (30, (S30_1 F noS)), (31, (S31_1 F noS)), (32, (S32_1 F noS)), (33, (S33_1 F noS)), (34, (S34_1 F noS))]
noncomputable def LT9_1 (F : Nat) : Nat → Option LoopS := ltab []
theorem E9_1g (F : Nat) (c27_1 : Int → Int → Int → Int → (Bool → Option Res) → Option Res) (c28_1 : Int → Int → Int → Int → Int → (Int → Option Res) → Option Res) (c29_1 : Int → Int → Bool → Int → List ByteArray → List (Int × ByteArray) → (ByteArray → Int → Option Res) → Option Res) (c30_1 : Int → ByteArray → Int → Bool → Int → List ByteArray → List (Int × ByteArray) → (Int → Int → Bool → Int → List ByteArray → List (Int × ByteArray) → Option Res) → Option Res) (c31_1 : Int → Int → Int → Int → Int → Int → (Int → Option Res) → Option Res) (c32_1 : Int → ByteArray → (ByteArray → Int → Option Res) → Option Res) (c33_1 : Int → Int → Int → Int → ByteArray → (Int → Int → Int → Option Res) → Option Res) (c34_1 : Int → Int → Int → Int → (ByteArray → Option Res) → Option Res)   (d : sh9_1.den) (K : KF) : evBody Tryd.prog (tab [(27, (mkS sh27_1 (fun d K => c27_1 d.1.1.1 d.1.1.2.1 d.1.1.2.2.1 d.1.1.2.2.2.1 (fun (y0 : Bool) => K [.lf (.bool y0)] [])) noS)), (28, (mkS sh28_1 (fun d K => c28_1 d.1.1.1 d.1.1.2.1 d.1.1.2.2.1 d.1.1.2.2.2.1 d.1.2.1 (fun (y0 : Int) => K [.lf (.int .i64 y0)] [])) noS)), (29, (mkS sh29_1 (fun d K => c29_1 d.1.2.1 d.2.1.2.2.2.1 d.2.1.2.2.2.2.1 d.2.1.2.2.2.2.2.1 d.2.2.1.2.1 d.2.2.2.1.2.1 (fun (y0 : ByteArray) (y1 : Int) => K [.lf (.str y0), .lf (.int .i64 y1)] [some ⟨d.2.1.1, [.full 1, .full 2, .int .i64 d.2.1.2.2.2.1, .bool d.2.1.2.2.2.2.1, .int .i64 d.2.1.2.2.2.2.2.1]⟩, some ⟨d.2.2.1.1, [.seq .str 0 d.2.2.1.2.1]⟩, some ⟨d.2.2.2.1.1, [.seq (.pair (.int .i64) .str) 0 d.2.2.2.1.2.1]⟩])) noS)), (30, (mkS sh30_1 (fun d K => c30_1 d.1.2.1 d.1.2.2.1 d.2.1.2.2.2.1 d.2.1.2.2.2.2.1 d.2.1.2.2.2.2.2.1 d.2.2.1.2.1 d.2.2.2.1.2.1 (fun (y0 : Int) (y1 : Int) (y2 : Bool) (y3 : Int) (y4 : List ByteArray) (y5 : List (Int × ByteArray)) => K [.lf (.int .i64 y0)] [some ⟨false, [.full 1, .full 3, .int .i64 y1, .bool y2, .int .i64 y3]⟩, some ⟨false, [.seq .str 0 y4]⟩, none, some ⟨false, [.seq (.pair (.int .i64) .str) 0 y5]⟩])) noS)), (31, (mkS sh31_1 (fun d K => c31_1 d.1.1.1 d.1.1.2.1 d.1.1.2.2.1 d.1.1.2.2.2.1 d.1.2.1 d.1.2.2.1 (fun (y0 : Int) => K [.lf (.int .i64 y0)] [])) noS)), (32, (mkS sh32_1 (fun d K => c32_1 d.1.1 d.1.2.1 (fun (y0 : ByteArray) (y1 : Int) => K [.lf (.str y0), .lf (.int .i64 y1)] [])) noS)), (33, (mkS sh33_1 (fun d K => c33_1 d.1.1 d.1.2.1.1 d.1.2.1.2.1 d.1.2.1.2.2.1 d.1.2.1.2.2.2.1 (fun (y1 : Int) (y2 : Int) (y3 : Int) => K [.agg [.int .u64 d.1.2.1.2.1, .int .u64 y1, .int .u64 y2, .int .u64 y3]] [])) noS)), (34, (mkS sh34_1 (fun d K => c34_1 d.1.1.1 d.1.1.2.1 d.1.1.2.2.1 d.1.1.2.2.2.1 (fun (y0 : ByteArray) => K [.lf (.str y0)] [])) noS))]) (xw []) 91 3 (ltab []) [2] code9 Tryd.f9.results.toList (encT sh9_1.vs d.1) (encH sh9_1.h d.2) K = (fun (a1 : Int) (a2 : Int) (a3 : Int) (a4 : Int) (a5 : Int) (a6 : Int) (a7 : Int) (a8 : Int) (a9 : Bool) (a10 : Int) (a11 : List ByteArray) (a12 : List (Int × ByteArray)) (K0 : (Int → Int → ByteArray → Int → Int → Bool → Int → List ByteArray → List (Int × ByteArray) → Option Res)) => c27_1 a1 a2 a3 a4 (fun x1 => cond (!x1) (K0 0 0 ByteArray.empty 12 a8 a9 a10 a11 a12) (cond (decide (a5 < 0)) (K0 0 0 ByteArray.empty 11 a8 a9 a10 a11 a12) (cond (decide (a5 ≥ a3)) (K0 0 0 ByteArray.empty 11 a8 a9 a10 a11 a12) (c28_1 a1 a2 a3 a4 a7 (fun x2 => cond (decide (x2 < 0)) (K0 0 0 ByteArray.empty 3 a8 a9 a10 a11 a12) (c28_1 a1 a2 a3 a4 a7 (fun x3 => c29_1 x3 a8 a9 a10 a11 a12 (fun x4 x5 => cond (x5 != 0) (K0 0 0 ByteArray.empty x5 a8 a9 a10 a11 a12) (c31_1 a1 a2 a3 a4 0 (IntKind.i64.wrap ((IntKind.i64.wrap (2 * a5)) + 1)) (fun x6 => c30_1 x6 x4 a8 a9 a10 a11 a12 (fun x7 x8 x9 x10 x11 x12 => cond (x7 != 0) (K0 0 0 ByteArray.empty x7 x8 x9 x10 x11 x12) (c33_1 a5 0 a6 a7 x4 (fun x13 x14 x15 => c34_1 a6 x13 x14 x15 (fun x16 => c32_1 8 x16 (fun x17 x18 => cond (x18 != 0) (K0 0 0 ByteArray.empty x18 x8 x9 x10 x11 x12) (c31_1 a1 a2 a3 a4 0 (IntKind.i64.wrap (2 * a5)) (fun x19 => c30_1 x19 x17 x8 x9 x10 x11 x12 (fun x20 x21 x22 x23 x24 x25 => cond (x20 != 0) (K0 0 0 ByteArray.empty x20 x21 x22 x23 x24 x25) (K0 a6 a7 x4 0 x21 x22 x23 x24 x25)) ) )) ) ) )) ) )) ) )) )))) ) d.1.2.1.1 d.1.2.1.2.1 d.1.2.1.2.2.1 d.1.2.1.2.2.2.1 d.1.2.2.1 d.1.2.2.2.1 d.1.2.2.2.2.1 d.2.1.2.2.2.1 d.2.1.2.2.2.2.1 d.2.1.2.2.2.2.2.1 d.2.2.1.2.1 d.2.2.2.1.2.1 (fun (y1 : Int) (y2 : Int) (y3 : ByteArray) (y4 : Int) (y5 : Int) (y6 : Bool) (y7 : Int) (y8 : List ByteArray) (y9 : List (Int × ByteArray)) => K [.agg [.int .u64 0, .int .u64 y1, .int .i64 y2, .str y3], .lf (.int .i64 y4)] [some ⟨false, [.full 1, .full 3, .int .i64 y5, .bool y6, .int .i64 y7]⟩, some ⟨false, [.seq .str 0 y8]⟩, none, some ⟨false, [.seq (.pair (.int .i64) .str) 0 y9]⟩]) := by kernel_rfl
theorem E9_1 (F : Nat) (d : sh9_1.den) (K : KF) : evBody Tryd.prog (T9_1 F) (xw []) 91 3 (LT9_1 F) [2] code9 Tryd.f9.results.toList (encT sh9_1.vs d.1) (encH sh9_1.h d.2) K = f9_1 F d.1.2.1.1 d.1.2.1.2.1 d.1.2.1.2.2.1 d.1.2.1.2.2.2.1 d.1.2.2.1 d.1.2.2.2.1 d.1.2.2.2.2.1 d.2.1.2.2.2.1 d.2.1.2.2.2.2.1 d.2.1.2.2.2.2.2.1 d.2.2.1.2.1 d.2.2.2.1.2.1 (fun (y1 : Int) (y2 : Int) (y3 : ByteArray) (y4 : Int) (y5 : Int) (y6 : Bool) (y7 : Int) (y8 : List ByteArray) (y9 : List (Int × ByteArray)) => K [.agg [.int .u64 0, .int .u64 y1, .int .i64 y2, .str y3], .lf (.int .i64 y4)] [some ⟨false, [.full 1, .full 3, .int .i64 y5, .bool y6, .int .i64 y7]⟩, some ⟨false, [.seq .str 0 y8]⟩, none, some ⟨false, [.seq (.pair (.int .i64) .str) 0 y9]⟩]) := Eq.mp (by kernel_rfl) (E9_1g F (f27_1 F) (f28_1 F) (f29_1 F) (f30_1 F) (f31_1 F) (f32_1 F) (f33_1 F) (f34_1 F)   d K)
theorem S9_1_ok (F : Nat) (o : Summ) (ho : SoundFn Tryd.prog 9 o) : SoundFn Tryd.prog 9 (S9_1 F o) :=
  soundFn_of (fn := Tryd.f9) (c := code9) rfl rfl (by kernel_rfl) (tab_cons (S27_1_ok F _ (noS_sound enter27)) (tab_cons (S28_1_ok F _ (noS_sound enter28)) (tab_cons (S29_1_ok F _ (noS_sound enter29)) (tab_cons (S30_1_ok F _ (noS_sound enter30)) (tab_cons (S31_1_ok F _ (noS_sound enter31)) (tab_cons (S32_1_ok F _ (noS_sound enter32)) (tab_cons (S33_1_ok F _ (noS_sound enter33)) (tab_cons (S34_1_ok F _ (noS_sound enter34)) tab_nil)))))))) (by kernel_rfl) (by kernel_rfl) ho (by rw [loops9]; exact loopsOK_nil) (by rw [scopes9]; exact scopesOK_nil) (by rw [ranges9]; exact rangesOK_nil) (E9_1 F)
end Go.Proofs.YtlgopekjjkdkiaaDoor.X
end

section
namespace Go.Proofs.YtlgopekjjkdkiaaDoor.X
open Go Go.Proofs.YtlgopekjjkdkiaaDoor.Ev Go.Proofs
set_option linter.unusedVariables false
set_option linter.unusedSectionVars false
/-! cow.Append -/
noncomputable def f9_9797 {β : Type} (F : Nat) (a1 : Int) (a2 : Int) (a3 : Int) (a4 : Int) (a5 : Int) (a6 : Int) (a7 : Int) (K0 : Int → Option β) : Option β := f27_1 F a1 a2 a3 a4 (fun x1 => cond (!x1) (K0 12) (cond (decide (a5 < 0)) (K0 11) (cond (decide (a5 ≥ a3)) (K0 11) (f28_1 F a1 a2 a3 a4 a7 (fun x2 => cond (decide (x2 < 0)) (K0 3) (f28_1 F a1 a2 a3 a4 a7 (fun x3 => f29_6206 F x3 (K0 1) ) )) )))) 
variable [FZ]
def sh9_9797 : Sh := ⟨[.lf (.nilp), .agg [.int .i64, .int .i64, .int .i64, .int .i64], .lf (.int .i64), .lf (.int .u64), .lf (.int .i64)], []⟩
noncomputable def S9_9797 (F : Nat) (o : Summ) : Summ := mkS sh9_9797 (fun d K => f9_9797 F d.1.2.1.1 d.1.2.1.2.1 d.1.2.1.2.2.1 d.1.2.1.2.2.2.1 d.1.2.2.1 d.1.2.2.2.1 d.1.2.2.2.2.1 (fun (y4 : Int) => K [.agg [.int .u64 0, .int .u64 0, .int .i64 0, .str ByteArray.empty], .lf (.int .i64 y4)] [])) o
noncomputable def T9_9797 (F : Nat) : FuncId → Option Summ := tab [(27, (S27_1 F noS)), (28, (S28_1 F noS)), (29, (S29_6206 F noS))]
noncomputable def LT9_9797 (F : Nat) : Nat → Option LoopS := ltab []
theorem E9_9797g (F : Nat) (c27_1 : Int → Int → Int → Int → (Bool → Option Res) → Option Res) (c28_1 : Int → Int → Int → Int → Int → (Int → Option Res) → Option Res) (c29_6206 : Int → (Option Res) → Option Res)   (d : sh9_9797.den) (K : KF) : evBody Tryd.prog (tab [(27, (mkS sh27_1 (fun d K => c27_1 d.1.1.1 d.1.1.2.1 d.1.1.2.2.1 d.1.1.2.2.2.1 (fun (y0 : Bool) => K [.lf (.bool y0)] [])) noS)), (28, (mkS sh28_1 (fun d K => c28_1 d.1.1.1 d.1.1.2.1 d.1.1.2.2.1 d.1.1.2.2.2.1 d.1.2.1 (fun (y0 : Int) => K [.lf (.int .i64 y0)] [])) noS)), (29, (mkS sh29_6206 (fun d K => c29_6206 d.1.2.1 (K [.lf (.str ByteArray.empty), .lf (.int .i64 1)] [])) noS))]) (xw []) 91 0 (ltab []) [] code9 Tryd.f9.results.toList (encT sh9_9797.vs d.1) (encH sh9_9797.h d.2) K = (fun (a1 : Int) (a2 : Int) (a3 : Int) (a4 : Int) (a5 : Int) (a6 : Int) (a7 : Int) (K0 : (Int → Option Res)) => c27_1 a1 a2 a3 a4 (fun x1 => cond (!x1) (K0 12) (cond (decide (a5 < 0)) (K0 11) (cond (decide (a5 ≥ a3)) (K0 11) (c28_1 a1 a2 a3 a4 a7 (fun x2 => cond (decide (x2 < 0)) (K0 3) (c28_1 a1 a2 a3 a4 a7 (fun x3 => c29_6206 x3 (K0 1) ) )) )))) ) d.1.2.1.1 d.1.2.1.2.1 d.1.2.1.2.2.1 d.1.2.1.2.2.2.1 d.1.2.2.1 d.1.2.2.2.1 d.1.2.2.2.2.1 (fun (y4 : Int) => K [.agg [.int .u64 0, .int .u64 0, .int .i64 0, .str ByteArray.empty], .lf (.int .i64 y4)] []) := by kernel_rfl
theorem E9_9797 (F : Nat) (d : sh9_9797.den) (K : KF) : evBody Tryd.prog (T9_9797 F) (xw []) 91 0 (LT9_9797 F) [] code9 Tryd.f9.results.toList (encT sh9_9797.vs d.1) (encH sh9_9797.h d.2) K = f9_9797 F d.1.2.1.1 d.1.2.1.2.1 d.1.2.1.2.2.1 d.1.2.1.2.2.2.1 d.1.2.2.1 d.1.2.2.2.1 d.1.2.2.2.2.1 (fun (y4 : Int) => K [.agg [.int .u64 0, .int .u64 0, .int .i64 0, .str ByteArray.empty], .lf (.int .i64 y4)] []) := Eq.mp (by kernel_rfl) (E9_9797g F (f27_1 F) (f28_1 F) (f29_6206 F)   d K)
theorem S9_9797_ok (F : Nat) (o : Summ) (ho : SoundFn Tryd.prog 9 o) : SoundFn Tryd.prog 9 (S9_9797 F o) :=
  soundFn_of (fn := Tryd.f9) (c := code9) rfl rfl (by kernel_rfl) (tab_cons (S27_1_ok F _ (noS_sound enter27)) (tab_cons (S28_1_ok F _ (noS_sound enter28)) (tab_cons (S29_6206_ok F _ (noS_sound enter29)) tab_nil))) (by kernel_rfl) (by kernel_rfl) ho (by rw [loops9]; exact loopsOK_nil) (by rw [scopes9]; exact scopesOK_nil) (by rw [ranges9]; exact rangesOK_nil) (E9_9797 F)
end Go.Proofs.YtlgopekjjkdkiaaDoor.X
end

section
namespace Go.Proofs.YtlgopekjjkdkiaaDoor.X
open Go Go.Proofs.YtlgopekjjkdkiaaDoor.Ev Go.Proofs
set_option linter.unusedVariables false
set_option linter.unusedSectionVars false
/-! pentimentolaw17.known -/
noncomputable def f6_1 {β : Type} (F : Nat)  (K0 : Bool → Option β) : Option β := f8_1 F 2 2 2 1 0 (fun x1 => f7_1 F x1 (f9_9797 F 2 2 2 1 0 3 1 (fun x2 => f13_3384 F 2 2 2 1 3 (fun x3 x4 => f13_3384 F 2 2 2 1 4 (fun x5 x6 => f20_1 F 1 x4 (fun x7 x8 => cond (x2 == 0) (f21_1 F  (fun x9 => cond (true && (false && (false && (ByteArray.empty.toList == x9.toList)))) (cond (((x4.length : Nat) : Int) == 1) (cond (decide ((0 : Int) ≤ (0 : Int) ∧ (0 : Int) < ((x4.length : Nat) : Int))) (cond (decide (0 < x4.length)) (cond ((((x4.getD 0 (0, (0, (0, ByteArray.empty)))).1) == 0) && (((((x4.getD 0 (0, (0, (0, ByteArray.empty)))).2).1) == 0) && ((((((x4.getD 0 (0, (0, (0, ByteArray.empty)))).2).2).1) == 0) && (((((x4.getD 0 (0, (0, (0, ByteArray.empty)))).2).2).2).toList == ByteArray.empty.toList)))) (cond (x3 == 0) (cond (((x6.length : Nat) : Int) == 0) (cond (x5 == 0) (f21_1 F  (fun x10 => cond (x7.toList == x10.toList) (cond x8 (f22_568 F  (K0 false) ) (K0 false)) (K0 false)) ) (K0 false)) (K0 false)) (K0 false)) (K0 false)) none) none) (K0 false)) (K0 false)) ) (K0 false)) ) ) ) ) (fun x11 x12 => f9_1 F 2 2 2 1 0 3 1 (-1) false 0 x11 x12 (fun x13 x14 x15 x16 x17 x18 x19 x20 x21 => f13_1 F 2 2 2 1 3 x17 x18 x19 x20 x21 (fun x22 x23 => f13_1 F 2 2 2 1 4 x17 x18 x19 x20 x21 (fun x24 x25 => f20_1 F 1 x23 (fun x26 x27 => cond (x16 == 0) (f21_1 F  (fun x28 => cond (true && ((x13 == 3) && ((x14 == 1) && (x15.toList == x28.toList)))) (cond (((x23.length : Nat) : Int) == 1) (cond (decide ((0 : Int) ≤ (0 : Int) ∧ (0 : Int) < ((x23.length : Nat) : Int))) (cond (decide (0 < x23.length)) (cond ((((x23.getD 0 (0, (0, (0, ByteArray.empty)))).1) == 0) && (((((x23.getD 0 (0, (0, (0, ByteArray.empty)))).2).1) == x13) && ((((((x23.getD 0 (0, (0, (0, ByteArray.empty)))).2).2).1) == x14) && (((((x23.getD 0 (0, (0, (0, ByteArray.empty)))).2).2).2).toList == x15.toList)))) (cond (x22 == 0) (cond (((x25.length : Nat) : Int) == 0) (cond (x24 == 0) (f21_1 F  (fun x29 => cond (x26.toList == x29.toList) (cond x27 (f22_1 F x17 x18 x19 x20 x21 (K0 (x19 == 4)) ) (K0 false)) (K0 false)) ) (K0 false)) (K0 false)) (K0 false)) (K0 false)) none) none) (K0 false)) (K0 false)) ) (K0 false)) ) ) ) ) ) 
variable [FZ]
def sh6_1 : Sh := ⟨[], []⟩
noncomputable def S6_1 (F : Nat) (o : Summ) : Summ := mkS sh6_1 (fun d K => f6_1 F (fun (y0 : Bool) => K [.lf (.bool y0)] [])) o
noncomputable def code6 : Code := bodyOf Tryd.f6
theorem scopes6 : scopesOf code6 = [] := by kernel_rfl
theorem ranges6 : rangesOf code6 = [] := by kernel_rfl
theorem loops6 : loopsOf code6 = [] := by kernel_rfl
theorem enter6 : ∀ args w, (callFunc 6 args).run Tryd.prog w = .ok (.enter 6 args) w := enter_of (fn := Tryd.f6) (by kernel_rfl) (by kernel_rfl) (by kernel_rfl)
noncomputable def T6_1 (F : Nat) : FuncId → Option Summ := tab [(7, (S7_1 F noS)), (8, (S8_1 F noS)), (9, (S9_1 F (S9_9797 F noS))), (13, (S13_1 F (S13_3384 F noS))), (20, (S20_1 F noS)), (21, (S21_1 F noS)), (22, (S22_1 F (S22_568 F noS)))]
noncomputable def LT6_1 (F : Nat) : Nat → Option LoopS := ltab []
theorem E6_1g (F : Nat) (c7_1 : Int → (Option Res) → (List ByteArray → List (Int × ByteArray) → Option Res) → Option Res) (c8_1 : Int → Int → Int → Int → Int → (Int → Option Res) → Option Res) (c9_1 : Int → Int → Int → Int → Int → Int → Int → Int → Bool → Int → List ByteArray → List (Int × ByteArray) → (Int → Int → ByteArray → Int → Int → Bool → Int → List ByteArray → List (Int × ByteArray) → Option Res) → Option Res) (c9_9797 : Int → Int → Int → Int → Int → Int → Int → (Int → Option Res) → Option Res) (c13_1 : Int → Int → Int → Int → Int → Int → Bool → Int → List ByteArray → List (Int × ByteArray) → (Int → List (Int × (Int × (Int × ByteArray))) → Option Res) → Option Res) (c13_3384 : Int → Int → Int → Int → Int → (Int → List (Int × (Int × (Int × ByteArray))) → Option Res) → Option Res) (c20_1 : Int → List (Int × (Int × (Int × ByteArray))) → (ByteArray → Bool → Option Res) → Option Res) (c21_1 : (ByteArray → Option Res) → Option Res) (c22_1 : Int → Bool → Int → List ByteArray → List (Int × ByteArray) → (Option Res) → Option Res) (c22_568 : (Option Res) → Option Res)   (d : sh6_1.den) (K : KF) : evBody Tryd.prog (tab [(7, (mkS sh7_1 (fun d K => c7_1 d.1.1 (K [.lf (.nilp), .lf (.int .i64 2)] []) (fun (y4 : List ByteArray) (y5 : List (Int × ByteArray)) => K [.lf (.ptr 0 0), .lf (.int .i64 0)] [some ⟨false, [.full 1, .full 2, .int .i64 (-1), .bool false, .int .i64 0]⟩, some ⟨false, [.seq .str 0 y4]⟩, some ⟨false, [.seq (.pair (.int .i64) .str) 0 y5]⟩])) noS)), (8, (mkS sh8_1 (fun d K => c8_1 d.1.1.1 d.1.1.2.1 d.1.1.2.2.1 d.1.1.2.2.2.1 d.1.2.1 (fun (y0 : Int) => K [.lf (.int .i64 y0)] [])) noS)), (9, (mkS sh9_1 (fun d K => c9_1 d.1.2.1.1 d.1.2.1.2.1 d.1.2.1.2.2.1 d.1.2.1.2.2.2.1 d.1.2.2.1 d.1.2.2.2.1 d.1.2.2.2.2.1 d.2.1.2.2.2.1 d.2.1.2.2.2.2.1 d.2.1.2.2.2.2.2.1 d.2.2.1.2.1 d.2.2.2.1.2.1 (fun (y1 : Int) (y2 : Int) (y3 : ByteArray) (y4 : Int) (y5 : Int) (y6 : Bool) (y7 : Int) (y8 : List ByteArray) (y9 : List (Int × ByteArray)) => K [.agg [.int .u64 0, .int .u64 y1, .int .i64 y2, .str y3], .lf (.int .i64 y4)] [some ⟨false, [.full 1, .full 3, .int .i64 y5, .bool y6, .int .i64 y7]⟩, some ⟨false, [.seq .str 0 y8]⟩, none, some ⟨false, [.seq (.pair (.int .i64) .str) 0 y9]⟩])) (mkS sh9_9797 (fun d K => c9_9797 d.1.2.1.1 d.1.2.1.2.1 d.1.2.1.2.2.1 d.1.2.1.2.2.2.1 d.1.2.2.1 d.1.2.2.2.1 d.1.2.2.2.2.1 (fun (y4 : Int) => K [.agg [.int .u64 0, .int .u64 0, .int .i64 0, .str ByteArray.empty], .lf (.int .i64 y4)] [])) noS))), (13, (mkS sh13_1 (fun d K => c13_1 d.1.2.1.1 d.1.2.1.2.1 d.1.2.1.2.2.1 d.1.2.1.2.2.2.1 d.1.2.2.1 d.2.1.2.2.2.1 d.2.1.2.2.2.2.1 d.2.1.2.2.2.2.2.1 d.2.2.1.2.1 d.2.2.2.1.2.1 (fun (y0 : Int) (y6 : List (Int × (Int × (Int × ByteArray)))) => K [.lf (.full 3), .lf (.int .i64 y0)] [some ⟨d.2.1.1, [.full 1, .full 2, .int .i64 d.2.1.2.2.2.1, .bool d.2.1.2.2.2.2.1, .int .i64 d.2.1.2.2.2.2.2.1]⟩, some ⟨d.2.2.1.1, [.seq .str 0 d.2.2.1.2.1]⟩, some ⟨d.2.2.2.1.1, [.seq (.pair (.int .i64) .str) 0 d.2.2.2.1.2.1]⟩, some ⟨false, [.seq (.pair (.int .u64) (.pair (.int .u64) (.pair (.int .i64) .str))) 0 y6]⟩])) (mkS sh13_3384 (fun d K => c13_3384 d.1.2.1.1 d.1.2.1.2.1 d.1.2.1.2.2.1 d.1.2.1.2.2.2.1 d.1.2.2.1 (fun (y0 : Int) (y1 : List (Int × (Int × (Int × ByteArray)))) => K [.lf (.full 0), .lf (.int .i64 y0)] [some ⟨false, [.seq (.pair (.int .u64) (.pair (.int .u64) (.pair (.int .i64) .str))) 0 y1]⟩])) noS))), (20, (mkS sh20_1 (fun d K => c20_1 d.1.2.1 d.2.1.2.1 (fun (y0 : ByteArray) (y1 : Bool) => K [.lf (.str y0), .lf (.bool y1)] [some ⟨d.2.1.1, [.seq (.pair (.int .u64) (.pair (.int .u64) (.pair (.int .i64) .str))) 0 d.2.1.2.1]⟩])) noS)), (21, (mkS sh21_1 (fun d K => c21_1 (fun (y0 : ByteArray) => K [.lf (.str y0)] [])) noS)), (22, (mkS sh22_1 (fun d K => c22_1 d.2.1.2.2.2.1 d.2.1.2.2.2.2.1 d.2.1.2.2.2.2.2.1 d.2.2.1.2.1 d.2.2.2.1.2.1 (K [.lf (.int .i64 d.2.1.2.2.2.2.2.1)] [some ⟨d.2.1.1, [.full 1, .full 2, .int .i64 d.2.1.2.2.2.1, .bool d.2.1.2.2.2.2.1, .int .i64 d.2.1.2.2.2.2.2.1]⟩, some ⟨d.2.2.1.1, [.seq .str 0 d.2.2.1.2.1]⟩, some ⟨d.2.2.2.1.1, [.seq (.pair (.int .i64) .str) 0 d.2.2.2.1.2.1]⟩])) (mkS sh22_568 (fun d K => c22_568 (K [.lf (.int .i64 0)] [])) noS)))]) (xw []) 88 0 (ltab []) [] code6 Tryd.f6.results.toList (encT sh6_1.vs d.1) (encH sh6_1.h d.2) K = (fun (K0 : (Bool → Option Res)) => c8_1 2 2 2 1 0 (fun x1 => c7_1 x1 (c9_9797 2 2 2 1 0 3 1 (fun x2 => c13_3384 2 2 2 1 3 (fun x3 x4 => c13_3384 2 2 2 1 4 (fun x5 x6 => c20_1 1 x4 (fun x7 x8 => cond (x2 == 0) (c21_1  (fun x9 => cond (true && (false && (false && (ByteArray.empty.toList == x9.toList)))) (cond (((x4.length : Nat) : Int) == 1) (cond (decide ((0 : Int) ≤ (0 : Int) ∧ (0 : Int) < ((x4.length : Nat) : Int))) (cond (decide (0 < x4.length)) (cond ((((x4.getD 0 (0, (0, (0, ByteArray.empty)))).1) == 0) && (((((x4.getD 0 (0, (0, (0, ByteArray.empty)))).2).1) == 0) && ((((((x4.getD 0 (0, (0, (0, ByteArray.empty)))).2).2).1) == 0) && (((((x4.getD 0 (0, (0, (0, ByteArray.empty)))).2).2).2).toList == ByteArray.empty.toList)))) (cond (x3 == 0) (cond (((x6.length : Nat) : Int) == 0) (cond (x5 == 0) (c21_1  (fun x10 => cond (x7.toList == x10.toList) (cond x8 (c22_568  (K0 false) ) (K0 false)) (K0 false)) ) (K0 false)) (K0 false)) (K0 false)) (K0 false)) none) none) (K0 false)) (K0 false)) ) (K0 false)) ) ) ) ) (fun x11 x12 => c9_1 2 2 2 1 0 3 1 (-1) false 0 x11 x12 (fun x13 x14 x15 x16 x17 x18 x19 x20 x21 => c13_1 2 2 2 1 3 x17 x18 x19 x20 x21 (fun x22 x23 => c13_1 2 2 2 1 4 x17 x18 x19 x20 x21 (fun x24 x25 => c20_1 1 x23 (fun x26 x27 => cond (x16 == 0) (c21_1  (fun x28 => cond (true && ((x13 == 3) && ((x14 == 1) && (x15.toList == x28.toList)))) (cond (((x23.length : Nat) : Int) == 1) (cond (decide ((0 : Int) ≤ (0 : Int) ∧ (0 : Int) < ((x23.length : Nat) : Int))) (cond (decide (0 < x23.length)) (cond ((((x23.getD 0 (0, (0, (0, ByteArray.empty)))).1) == 0) && (((((x23.getD 0 (0, (0, (0, ByteArray.empty)))).2).1) == x13) && ((((((x23.getD 0 (0, (0, (0, ByteArray.empty)))).2).2).1) == x14) && (((((x23.getD 0 (0, (0, (0, ByteArray.empty)))).2).2).2).toList == x15.toList)))) (cond (x22 == 0) (cond (((x25.length : Nat) : Int) == 0) (cond (x24 == 0) (c21_1  (fun x29 => cond (x26.toList == x29.toList) (cond x27 (c22_1 x17 x18 x19 x20 x21 (K0 (x19 == 4)) ) (K0 false)) (K0 false)) ) (K0 false)) (K0 false)) (K0 false)) (K0 false)) none) none) (K0 false)) (K0 false)) ) (K0 false)) ) ) ) ) ) ) (fun (y0 : Bool) => K [.lf (.bool y0)] []) := by kernel_rfl
theorem E6_1 (F : Nat) (d : sh6_1.den) (K : KF) : evBody Tryd.prog (T6_1 F) (xw []) 88 0 (LT6_1 F) [] code6 Tryd.f6.results.toList (encT sh6_1.vs d.1) (encH sh6_1.h d.2) K = f6_1 F (fun (y0 : Bool) => K [.lf (.bool y0)] []) := Eq.mp (by kernel_rfl) (E6_1g F (f7_1 F) (f8_1 F) (f9_1 F) (f9_9797 F) (f13_1 F) (f13_3384 F) (f20_1 F) (f21_1 F) (f22_1 F) (f22_568 F)   d K)
theorem S6_1_ok (F : Nat) (o : Summ) (ho : SoundFn Tryd.prog 6 o) : SoundFn Tryd.prog 6 (S6_1 F o) :=
  soundFn_of (fn := Tryd.f6) (c := code6) rfl rfl (by kernel_rfl) (tab_cons (S7_1_ok F _ (noS_sound enter7)) (tab_cons (S8_1_ok F _ (noS_sound enter8)) (tab_cons (S9_1_ok F _ (S9_9797_ok F _ (noS_sound enter9))) (tab_cons (S13_1_ok F _ (S13_3384_ok F _ (noS_sound enter13))) (tab_cons (S20_1_ok F _ (noS_sound enter20)) (tab_cons (S21_1_ok F _ (noS_sound enter21)) (tab_cons (S22_1_ok F _ (S22_568_ok F _ (noS_sound enter22))) tab_nil))))))) (by kernel_rfl) (by kernel_rfl) ho (by rw [loops6]; exact loopsOK_nil) (by rw [scopes6]; exact scopesOK_nil) (by rw [ranges6]; exact rangesOK_nil) (E6_1 F)
end Go.Proofs.YtlgopekjjkdkiaaDoor.X
end

section
namespace Go.Proofs.YtlgopekjjkdkiaaDoor.X
open Go Go.Proofs.YtlgopekjjkdkiaaDoor.Ev Go.Proofs
set_option linter.unusedVariables false
set_option linter.unusedSectionVars false
/-! pentimentolaw17.CowKeeps -/
noncomputable def f3_1_l6 [FZ] {β : Type} (F : Nat) (v8 : Int) (v10 : List Int) (v11 : Int) (v12 : Int) (v13 : Int) (v14 : Int) (v15 : Int) (v16 : Sl .bool) (K0 : List (Int × (Int × (Int × ByteArray))) → Option β) : Nat → Int → List (Int × (Int × (Int × ByteArray))) → Option β
  | 0, _, _ => none
  | k + 1, v9, v17 => cond (decide (v9 < ((v10.length : Nat) : Int))) (cond (decide ((0 : Int) ≤ v9 ∧ v9 < ((v10.length : Nat) : Int))) (cond (decide (0 + v9.toNat < v10.length)) ((fun z1 => amb z1 z1) (f9_9797 F v11 v12 v13 v14 ((v17.length : Nat) : Int) v8 (v10.getD (0 + v9.toNat) 0) (fun x18 => cond (x18 == 0) (cond (decide ((v17.length + 1) * 40 ≤ 70368744177664)) (f3_1_l6 F v8 v10 v11 v12 v13 v14 v15 v16 K0 k (IntKind.i64.wrap (v9 + 1)) (v17 ++ [(0, (0, (0, ByteArray.empty)))])) none) (f3_1_l6 F v8 v10 v11 v12 v13 v14 v15 v16 K0 k (IntKind.i64.wrap (v9 + 1)) v17)) )) none) none) (K0 v17)
noncomputable def f3_1_l6_2 [FZ] {β : Type} (F : Nat) (v29 : Int) (v31 : List Int) (v32 : Int) (v33 : Int) (v34 : Int) (v35 : Int) (v36 : Int) (v37 : Sl .bool) (K0 : Int → Bool → Int → List ByteArray → List (Int × ByteArray) → List (Int × (Int × (Int × ByteArray))) → Option β) : Nat → Int → Int → Bool → Int → List ByteArray → List (Int × ByteArray) → List (Int × (Int × (Int × ByteArray))) → Option β
  | 0, _, _, _, _, _, _, _ => none
  | k + 1, v30, v38, v39, v40, v41, v42, v43 => cond (decide (v30 < ((v31.length : Nat) : Int))) (cond (decide ((0 : Int) ≤ v30 ∧ v30 < ((v31.length : Nat) : Int))) (cond (decide (0 + v30.toNat < v31.length)) ((fun z1 => amb z1 z1) (f9_1 F v32 v33 v34 v35 ((v43.length : Nat) : Int) v29 (v31.getD (0 + v30.toNat) 0) v38 v39 v40 v41 v42 (fun x44 x45 x46 x47 x48 x49 x50 x51 x52 => cond (x47 == 0) (cond (decide ((v43.length + 1) * 40 ≤ 70368744177664)) (f3_1_l6_2 F v29 v31 v32 v33 v34 v35 v36 v37 K0 k (IntKind.i64.wrap (v30 + 1)) x48 x49 x50 x51 x52 (v43 ++ [(0, (x44, (x45, x46)))])) none) (f3_1_l6_2 F v29 v31 v32 v33 v34 v35 v36 v37 K0 k (IntKind.i64.wrap (v30 + 1)) x48 x49 x50 x51 x52 v43)) )) none) none) (K0 v38 v39 v40 v41 v42 v43)
noncomputable def f3_1 [FZ] {β : Type} (F : Nat) (a1 : Int) (a2 : Int) (a3 : Int) (a4 : Int) (a5 : Int) (a6 : Int) (a7 : Sl .bool) (a8 : List Int) (K0 : Bool → Option β) : Option β := f5_1 F a1 a2 a3 a4 (fun x1 => cond (!x1) (f6_1 F  (fun x2 => K0 x2) ) (cond (decide (a1 > 20)) (f6_1 F  (fun x3 => K0 x3) ) (cond (decide (a3 > 20)) (f6_1 F  (fun x4 => K0 x4) ) (cond (decide (a6 < 0)) (f6_1 F  (fun x5 => K0 x5) ) (cond (decide (((a8.length : Nat) : Int) > 60)) (f6_1 F  (fun x6 => K0 x6) ) (f8_1 F a1 a2 a3 a4 0 (fun x7 => f7_1 F x7 (f3_1_l6 F a5 a8 a1 a2 a3 a4 a6 a7 (fun x20 => f10_6206 F a6 (f9_9797 F a1 a2 a3 a4 ((x20.length : Nat) : Int) a5 0 (fun x21 => f11_7155 F a7.dat (f12_568 F  (f13_3384 F a1 a2 a3 a4 a5 (fun x22 x23 => cond (x22 != 0) (K0 false) (cond (decide (((x23.length : Nat) : Int) < ((x20.length : Nat) : Int))) (K0 false) (cond (decide (((x23.length : Nat) : Int) > IntKind.i64.wrap (((x20.length : Nat) : Int) + 1))) (K0 false) (cond (decide ((0 : Int) ≤ (0 : Int) ∧ (0 : Int) ≤ ((x20.length : Nat) : Int) ∧ ((x20.length : Nat) : Int) ≤ ((x23.length : Nat) : Int))) (f14_1 F ((x23.drop 0).take ((((x20.length : Nat) : Int) - 0).toNat)) x20 (fun x24 => cond (!x24) (K0 false) (cond (x21 != 0) (f6_1 F  (fun x25 => K0 x25) ) (cond (((x23.length : Nat) : Int) == (IntKind.i64.wrap (((x20.length : Nat) : Int) + 1))) (cond (decide ((0 : Int) ≤ ((x20.length : Nat) : Int) ∧ ((x20.length : Nat) : Int) < ((x23.length : Nat) : Int))) (cond (decide (0 + (((x20.length : Nat) : Int).toNat) < x23.length)) (cond ((((x23.getD (0 + (((x20.length : Nat) : Int).toNat)) (0, (0, (0, ByteArray.empty)))).1) == 0) && (((((x23.getD (0 + (((x20.length : Nat) : Int).toNat)) (0, (0, (0, ByteArray.empty)))).2).1) == 0) && ((((((x23.getD (0 + (((x20.length : Nat) : Int).toNat)) (0, (0, (0, ByteArray.empty)))).2).2).1) == 0) && (((((x23.getD (0 + (((x20.length : Nat) : Int).toNat)) (0, (0, (0, ByteArray.empty)))).2).2).2).toList == ByteArray.empty.toList)))) (f6_1 F  (fun x26 => K0 x26) ) (K0 false)) none) none) (K0 false)))) ) none)))) ) ) ) ) ) F 0 []) (fun x27 x28 => f3_1_l6_2 F a5 a8 a1 a2 a3 a4 a6 a7 (fun x62 x63 x64 x65 x66 x67 => f10_1 F a6 x62 x63 x64 x65 x66 (fun x68 => f9_1 F a1 a2 a3 a4 ((x67.length : Nat) : Int) a5 0 x68 x63 x64 x65 x66 (fun x69 x70 x71 x72 x73 x74 x75 x76 x77 => f11_1 F x73 x74 x75 x76 x77 a7.dat (fun x78 x79 => f12_1 F (-1) true x75 x78 x79 (fun x80 x81 x82 x83 => f13_1 F a1 a2 a3 a4 a5 x81 x82 x75 x78 x83 (fun x84 x85 => cond (x84 != 0) (K0 false) (cond (decide (((x85.length : Nat) : Int) < ((x67.length : Nat) : Int))) (K0 false) (cond (decide (((x85.length : Nat) : Int) > IntKind.i64.wrap (((x67.length : Nat) : Int) + 1))) (K0 false) (cond (decide ((0 : Int) ≤ (0 : Int) ∧ (0 : Int) ≤ ((x67.length : Nat) : Int) ∧ ((x67.length : Nat) : Int) ≤ ((x85.length : Nat) : Int))) (f14_1 F ((x85.drop 0).take ((((x67.length : Nat) : Int) - 0).toNat)) x67 (fun x86 => cond (!x86) (K0 false) (cond (x72 != 0) (f6_1 F  (fun x87 => K0 x87) ) (cond (((x85.length : Nat) : Int) == (IntKind.i64.wrap (((x67.length : Nat) : Int) + 1))) (cond (decide ((0 : Int) ≤ ((x67.length : Nat) : Int) ∧ ((x67.length : Nat) : Int) < ((x85.length : Nat) : Int))) (cond (decide (0 + (((x67.length : Nat) : Int).toNat) < x85.length)) (cond ((((x85.getD (0 + (((x67.length : Nat) : Int).toNat)) (0, (0, (0, ByteArray.empty)))).1) == 0) && (((((x85.getD (0 + (((x67.length : Nat) : Int).toNat)) (0, (0, (0, ByteArray.empty)))).2).1) == x69) && ((((((x85.getD (0 + (((x67.length : Nat) : Int).toNat)) (0, (0, (0, ByteArray.empty)))).2).2).1) == x70) && (((((x85.getD (0 + (((x67.length : Nat) : Int).toNat)) (0, (0, (0, ByteArray.empty)))).2).2).2).toList == x71.toList)))) (f6_1 F  (fun x88 => K0 x88) ) (K0 false)) none) none) (K0 false)))) ) none)))) ) ) ) ) ) F 0 (-1) false 0 x27 x28 []) ) )))))) 
variable [FZ]
def sh3_1 : Sh := ⟨[.agg [.int .i64, .int .i64, .int .i64, .int .i64], .lf (.full 0), .lf (.int .u64), .agg [.int .i64, .sl .bool]], [some ⟨none, [.seq (.int .i64) 0]⟩]⟩
noncomputable def S3_1 (F : Nat) (o : Summ) : Summ := mkS sh3_1 (fun d K => f3_1 F d.1.1.1 d.1.1.2.1 d.1.1.2.2.1 d.1.1.2.2.2.1 d.1.2.2.1 d.1.2.2.2.1.1 d.1.2.2.2.1.2.1 d.2.1.2.1 (fun (y0 : Bool) => K [.lf (.bool y0)] [some ⟨d.2.1.1, [.seq (.int .i64) 0 d.2.1.2.1]⟩])) o
noncomputable def code3 : Code := bodyOf Tryd.f3
noncomputable def b3_0 : Code := cB (cB (cR (cL (cR (cR (cR (cR (code3))))))))
theorem scopes3 : scopesOf code3 = [] := by kernel_rfl
theorem ranges3 : rangesOf code3 = [] := by kernel_rfl
theorem loops3 : loopsOf code3 = [b3_0] := by kernel_rfl
theorem enter3 : ∀ args w, (callFunc 3 args).run Tryd.prog w = .ok (.enter 3 args) w := enter_of (fn := Tryd.f3) (by kernel_rfl) (by kernel_rfl) (by kernel_rfl)
noncomputable def T3_1 (F : Nat) : FuncId → Option Summ := tab [(5, (S5_1 F noS)), (6, (S6_1 F noS)), (7, (S7_1 F noS)), (8, (S8_1 F noS)), (9, (S9_1 F (S9_9797 F noS))), (10, (S10_1 F (S10_6206 F noS))), (11, (S11_1 F (S11_7155 F noS))), (12, (S12_1 F (S12_568 F noS))), (13, (S13_1 F (S13_3384 F noS))), (14, (S14_1 F noS))]
def sh3_1_l6 : Sh := ⟨[.lf (.full 0), .lf (.int .u64), .lf (.ptr 1 0), .lf (.ptr 2 0), .lf (.nilp), .lf (.full 3), .lf (.int .i64)], [some ⟨none, [.seq (.int .i64) 0]⟩, some ⟨some false, [.int .i64, .int .i64, .int .i64, .int .i64]⟩, some ⟨some false, [.int .i64, .sl .bool]⟩, some ⟨some false, [.seq (.pair (.int .u64) (.pair (.int .u64) (.pair (.int .i64) .str))) 0]⟩]⟩
def sh3_1_l6_2 : Sh := ⟨[.lf (.full 0), .lf (.int .u64), .lf (.ptr 1 0), .lf (.ptr 2 0), .lf (.ptr 3 0), .lf (.full 6), .lf (.int .i64)], [some ⟨none, [.seq (.int .i64) 0]⟩, some ⟨some false, [.int .i64, .int .i64, .int .i64, .int .i64]⟩, some ⟨some false, [.int .i64, .sl .bool]⟩, some ⟨some false, [.full 4, .full 5, .int .i64, .bool, .int .i64]⟩, some ⟨some false, [.seq .str 0]⟩, some ⟨some false, [.seq (.pair (.int .i64) .str) 0]⟩, some ⟨some false, [.seq (.pair (.int .u64) (.pair (.int .u64) (.pair (.int .i64) .str))) 0]⟩]⟩
noncomputable def G3_1_6 (F k : Nat) : LoopS := orG sh3_1_l6 (fun d K => f3_1_l6 F d.1.2.1 d.2.1.2.1 d.2.2.1.2.1 d.2.2.1.2.2.1 d.2.2.1.2.2.2.1 d.2.2.1.2.2.2.2.1 d.2.2.2.1.2.1 d.2.2.2.1.2.2.1 (fun (y8 : List (Int × (Int × (Int × ByteArray)))) => K (.exit 0) [.tv (.lf (.int .u64 d.1.2.1)), .tv (.lf (.ptr 1 0)), .tv (.lf (.ptr 2 0)), .tv (.lf (.nilp)), .tv (.lf (.full 3))] [some ⟨d.2.1.1, [.seq (.int .i64) 0 d.2.1.2.1]⟩, some ⟨false, [.int .i64 d.2.2.1.2.1, .int .i64 d.2.2.1.2.2.1, .int .i64 d.2.2.1.2.2.2.1, .int .i64 d.2.2.1.2.2.2.2.1]⟩, some ⟨false, [.int .i64 d.2.2.2.1.2.1, .sl .bool d.2.2.2.1.2.2.1]⟩, some ⟨false, [.seq (.pair (.int .u64) (.pair (.int .u64) (.pair (.int .i64) .str))) 0 y8]⟩]) k d.1.2.2.2.2.2.2.1 d.2.2.2.2.1.2.1) (mkG sh3_1_l6_2 [1, 2, 4, 7, 9, 11, 12] (outT [(.exit 0, [2, 4, 7, 9, 11])]) (fun d K => f3_1_l6_2 F d.1.2.1 d.2.1.2.1 d.2.2.1.2.1 d.2.2.1.2.2.1 d.2.2.1.2.2.2.1 d.2.2.1.2.2.2.2.1 d.2.2.2.1.2.1 d.2.2.2.1.2.2.1 (fun (y8 : Int) (y9 : Bool) (y10 : Int) (y11 : List ByteArray) (y12 : List (Int × ByteArray)) (y13 : List (Int × (Int × (Int × ByteArray)))) => K (.exit 0) [.tv (.lf (.int .u64 d.1.2.1)), .tv (.lf (.ptr 1 0)), .tv (.lf (.ptr 2 0)), .tv (.lf (.ptr 3 0)), .tv (.lf (.full 6))] [some ⟨d.2.1.1, [.seq (.int .i64) 0 d.2.1.2.1]⟩, some ⟨false, [.int .i64 d.2.2.1.2.1, .int .i64 d.2.2.1.2.2.1, .int .i64 d.2.2.1.2.2.2.1, .int .i64 d.2.2.1.2.2.2.2.1]⟩, some ⟨false, [.int .i64 d.2.2.2.1.2.1, .sl .bool d.2.2.2.1.2.2.1]⟩, some ⟨false, [.full 4, .full 5, .int .i64 y8, .bool y9, .int .i64 y10]⟩, some ⟨false, [.seq .str 0 y11]⟩, some ⟨false, [.seq (.pair (.int .i64) .str) 0 y12]⟩, some ⟨false, [.seq (.pair (.int .u64) (.pair (.int .u64) (.pair (.int .i64) .str))) 0 y13]⟩]) k d.1.2.2.2.2.2.2.1 d.2.2.2.2.1.2.2.2.1 d.2.2.2.2.1.2.2.2.2.1 d.2.2.2.2.1.2.2.2.2.2.1 d.2.2.2.2.2.1.2.1 d.2.2.2.2.2.2.1.2.1 d.2.2.2.2.2.2.2.1.2.1) [])
noncomputable def LT3_1 (F : Nat) : Nat → Option LoopS := ltab [(6, G3_1_6 F F)]
theorem L3_1_l6g (F k : Nat) (c5_1 : Int → Int → Int → Int → (Bool → Option Res) → Option Res) (c6_1 : (Bool → Option Res) → Option Res) (c7_1 : Int → (Option Res) → (List ByteArray → List (Int × ByteArray) → Option Res) → Option Res) (c8_1 : Int → Int → Int → Int → Int → (Int → Option Res) → Option Res) (c9_1 : Int → Int → Int → Int → Int → Int → Int → Int → Bool → Int → List ByteArray → List (Int × ByteArray) → (Int → Int → ByteArray → Int → Int → Bool → Int → List ByteArray → List (Int × ByteArray) → Option Res) → Option Res) (c9_9797 : Int → Int → Int → Int → Int → Int → Int → (Int → Option Res) → Option Res) (c10_1 : Int → Int → Bool → Int → List ByteArray → List (Int × ByteArray) → (Int → Option Res) → Option Res) (c10_6206 : Int → (Option Res) → Option Res) (c11_1 : Int → Bool → Int → List ByteArray → List (Int × ByteArray) → List Bool → (List ByteArray → List (Int × ByteArray) → Option Res) → Option Res) (c11_7155 : List Bool → (Option Res) → Option Res) (c12_1 : Int → Bool → Int → List ByteArray → List (Int × ByteArray) → (Int → Int → Bool → List (Int × ByteArray) → Option Res) → Option Res) (c12_568 : (Option Res) → Option Res) (c13_1 : Int → Int → Int → Int → Int → Int → Bool → Int → List ByteArray → List (Int × ByteArray) → (Int → List (Int × (Int × (Int × ByteArray))) → Option Res) → Option Res) (c13_3384 : Int → Int → Int → Int → Int → (Int → List (Int × (Int × (Int × ByteArray))) → Option Res) → Option Res) (c14_1 : List (Int × (Int × (Int × ByteArray))) → List (Int × (Int × (Int × ByteArray))) → (Bool → Option Res) → Option Res)  (l6 : Int → List Int → Int → Int → Int → Int → Int → Sl .bool → (List (Int × (Int × (Int × ByteArray))) → Option Res) → Nat → Int → List (Int × (Int × (Int × ByteArray))) → Option Res) (l6_2 : Int → List Int → Int → Int → Int → Int → Int → Sl .bool → (Int → Bool → Int → List ByteArray → List (Int × ByteArray) → List (Int × (Int × (Int × ByteArray))) → Option Res) → Nat → Int → Int → Bool → Int → List ByteArray → List (Int × ByteArray) → List (Int × (Int × (Int × ByteArray))) → Option Res) (X6 : LoopS) (d : sh3_1_l6.den) (K : KL) : (fun (v8 : Int) (v10 : List Int) (v11 : Int) (v12 : Int) (v13 : Int) (v14 : Int) (v15 : Int) (v16 : Sl .bool) (K0 : (List (Int × (Int × (Int × ByteArray))) → Option Res)) (k : Nat) (v9 : Int) (v17 : List (Int × (Int × (Int × ByteArray)))) => cond (decide (v9 < ((v10.length : Nat) : Int))) (cond (decide ((0 : Int) ≤ v9 ∧ v9 < ((v10.length : Nat) : Int))) (cond (decide (0 + v9.toNat < v10.length)) ((fun z1 => amb z1 z1) (c9_9797 v11 v12 v13 v14 ((v17.length : Nat) : Int) v8 (v10.getD (0 + v9.toNat) 0) (fun x18 => cond (x18 == 0) (cond (decide ((v17.length + 1) * 40 ≤ 70368744177664)) (l6 v8 v10 v11 v12 v13 v14 v15 v16 K0 k (IntKind.i64.wrap (v9 + 1)) (v17 ++ [(0, (0, (0, ByteArray.empty)))])) none) (l6 v8 v10 v11 v12 v13 v14 v15 v16 K0 k (IntKind.i64.wrap (v9 + 1)) v17)) )) none) none) (K0 v17)) d.1.2.1 d.2.1.2.1 d.2.2.1.2.1 d.2.2.1.2.2.1 d.2.2.1.2.2.2.1 d.2.2.1.2.2.2.2.1 d.2.2.2.1.2.1 d.2.2.2.1.2.2.1 (fun (y8 : List (Int × (Int × (Int × ByteArray)))) => K (.exit 0) [.tv (.lf (.int .u64 d.1.2.1)), .tv (.lf (.ptr 1 0)), .tv (.lf (.ptr 2 0)), .tv (.lf (.nilp)), .tv (.lf (.full 3))] [some ⟨d.2.1.1, [.seq (.int .i64) 0 d.2.1.2.1]⟩, some ⟨false, [.int .i64 d.2.2.1.2.1, .int .i64 d.2.2.1.2.2.1, .int .i64 d.2.2.1.2.2.2.1, .int .i64 d.2.2.1.2.2.2.2.1]⟩, some ⟨false, [.int .i64 d.2.2.2.1.2.1, .sl .bool d.2.2.2.1.2.2.1]⟩, some ⟨false, [.seq (.pair (.int .u64) (.pair (.int .u64) (.pair (.int .i64) .str))) 0 y8]⟩]) k d.1.2.2.2.2.2.2.1 d.2.2.2.2.1.2.1 = roundOf Tryd.prog (tab [(5, (mkS sh5_1 (fun d K => c5_1 d.1.1.1 d.1.1.2.1 d.1.1.2.2.1 d.1.1.2.2.2.1 (fun (y0 : Bool) => K [.lf (.bool y0)] [])) noS)), (6, (mkS sh6_1 (fun d K => c6_1 (fun (y0 : Bool) => K [.lf (.bool y0)] [])) noS)), (7, (mkS sh7_1 (fun d K => c7_1 d.1.1 (K [.lf (.nilp), .lf (.int .i64 2)] []) (fun (y4 : List ByteArray) (y5 : List (Int × ByteArray)) => K [.lf (.ptr 0 0), .lf (.int .i64 0)] [some ⟨false, [.full 1, .full 2, .int .i64 (-1), .bool false, .int .i64 0]⟩, some ⟨false, [.seq .str 0 y4]⟩, some ⟨false, [.seq (.pair (.int .i64) .str) 0 y5]⟩])) noS)), (8, (mkS sh8_1 (fun d K => c8_1 d.1.1.1 d.1.1.2.1 d.1.1.2.2.1 d.1.1.2.2.2.1 d.1.2.1 (fun (y0 : Int) => K [.lf (.int .i64 y0)] [])) noS)), (9, (mkS sh9_1 (fun d K => c9_1 d.1.2.1.1 d.1.2.1.2.1 d.1.2.1.2.2.1 d.1.2.1.2.2.2.1 d.1.2.2.1 d.1.2.2.2.1 d.1.2.2.2.2.1 d.2.1.2.2.2.1 d.2.1.2.2.2.2.1 d.2.1.2.2.2.2.2.1 d.2.2.1.2.1 d.2.2.2.1.2.1 (fun (y1 : Int) (y2 : Int) (y3 : ByteArray) (y4 : Int) (y5 : Int) (y6 : Bool) (y7 : Int) (y8 : List ByteArray) (y9 : List (Int × ByteArray)) => K [.agg [.int .u64 0, .int .u64 y1, .int .i64 y2, .str y3], .lf (.int .i64 y4)] [some ⟨false, [.full 1, .full 3, .int .i64 y5, .bool y6, .int .i64 y7]⟩, some ⟨false, [.seq .str 0 y8]⟩, none, some ⟨false, [.seq (.pair (.int .i64) .str) 0 y9]⟩])) (mkS sh9_9797 (fun d K => c9_9797 d.1.2.1.1 d.1.2.1.2.1 d.1.2.1.2.2.1 d.1.2.1.2.2.2.1 d.1.2.2.1 d.1.2.2.2.1 d.1.2.2.2.2.1 (fun (y4 : Int) => K [.agg [.int .u64 0, .int .u64 0, .int .i64 0, .str ByteArray.empty], .lf (.int .i64 y4)] [])) noS))), (10, (mkS sh10_1 (fun d K => c10_1 d.1.2.1 d.2.1.2.2.2.1 d.2.1.2.2.2.2.1 d.2.1.2.2.2.2.2.1 d.2.2.1.2.1 d.2.2.2.1.2.1 (fun (y0 : Int) => K [] [some ⟨false, [.full 1, .full 2, .int .i64 y0, .bool d.2.1.2.2.2.2.1, .int .i64 d.2.1.2.2.2.2.2.1]⟩, some ⟨d.2.2.1.1, [.seq .str 0 d.2.2.1.2.1]⟩, some ⟨d.2.2.2.1.1, [.seq (.pair (.int .i64) .str) 0 d.2.2.2.1.2.1]⟩])) (mkS sh10_6206 (fun d K => c10_6206 d.1.2.1 (K [] [])) noS))), (11, (mkS sh11_1 (fun d K => c11_1 d.2.1.2.2.2.1 d.2.1.2.2.2.2.1 d.2.1.2.2.2.2.2.1 d.2.2.1.2.1 d.2.2.2.1.2.1 d.2.2.2.2.1.2.1 (fun (y3 : List ByteArray) (y5 : List (Int × ByteArray)) => K [] [some ⟨false, [.full 1, .full 4, .int .i64 (-1), .bool true, .int .i64 d.2.1.2.2.2.2.2.1]⟩, some ⟨false, [.seq .str 0 y3]⟩, none, some ⟨d.2.2.2.2.1.1, [.seq .bool 0 d.2.2.2.2.1.2.1]⟩, some ⟨false, [.seq (.pair (.int .i64) .str) 0 y5]⟩])) (mkS sh11_7155 (fun d K => c11_7155 d.2.1.2.1 (K [] [some ⟨d.2.1.1, [.seq .bool 0 d.2.1.2.1]⟩])) noS))), (12, (mkS sh12_1 (fun d K => c12_1 d.2.1.2.2.2.1 d.2.1.2.2.2.2.1 d.2.1.2.2.2.2.2.1 d.2.2.1.2.1 d.2.2.2.1.2.1 (fun (y0 : Int) (y1 : Int) (y2 : Bool) (y5 : List (Int × ByteArray)) => K [.lf (.int .i64 y0)] [some ⟨false, [.full 1, .full 3, .int .i64 y1, .bool y2, .int .i64 d.2.1.2.2.2.2.2.1]⟩, some ⟨d.2.2.1.1, [.seq .str 0 d.2.2.1.2.1]⟩, none, some ⟨false, [.seq (.pair (.int .i64) .str) 0 y5]⟩])) (mkS sh12_568 (fun d K => c12_568 (K [.lf (.int .i64 1)] [])) noS))), (13, (mkS sh13_1 (fun d K => c13_1 d.1.2.1.1 d.1.2.1.2.1 d.1.2.1.2.2.1 d.1.2.1.2.2.2.1 d.1.2.2.1 d.2.1.2.2.2.1 d.2.1.2.2.2.2.1 d.2.1.2.2.2.2.2.1 d.2.2.1.2.1 d.2.2.2.1.2.1 (fun (y0 : Int) (y6 : List (Int × (Int × (Int × ByteArray)))) => K [.lf (.full 3), .lf (.int .i64 y0)] [some ⟨d.2.1.1, [.full 1, .full 2, .int .i64 d.2.1.2.2.2.1, .bool d.2.1.2.2.2.2.1, .int .i64 d.2.1.2.2.2.2.2.1]⟩, some ⟨d.2.2.1.1, [.seq .str 0 d.2.2.1.2.1]⟩, some ⟨d.2.2.2.1.1, [.seq (.pair (.int .i64) .str) 0 d.2.2.2.1.2.1]⟩, some ⟨false, [.seq (.pair (.int .u64) (.pair (.int .u64) (.pair (.int .i64) .str))) 0 y6]⟩])) (mkS sh13_3384 (fun d K => c13_3384 d.1.2.1.1 d.1.2.1.2.1 d.1.2.1.2.2.1 d.1.2.1.2.2.2.1 d.1.2.2.1 (fun (y0 : Int) (y1 : List (Int × (Int × (Int × ByteArray)))) => K [.lf (.full 0), .lf (.int .i64 y0)] [some ⟨false, [.seq (.pair (.int .u64) (.pair (.int .u64) (.pair (.int .i64) .str))) 0 y1]⟩])) noS))), (14, (mkS sh14_1 (fun d K => c14_1 d.2.1.2.1 d.2.2.1.2.1 (fun (y0 : Bool) => K [.lf (.bool y0)] [some ⟨d.2.1.1, [.seq (.pair (.int .u64) (.pair (.int .u64) (.pair (.int .i64) .str))) 0 d.2.1.2.1]⟩, some ⟨d.2.2.1.1, [.seq (.pair (.int .u64) (.pair (.int .u64) (.pair (.int .i64) .str))) 0 d.2.2.1.2.1]⟩])) noS))]) (xw [8]) 148 1 (ltab [(6, X6)]) (orG sh3_1_l6 (fun d K => l6 d.1.2.1 d.2.1.2.1 d.2.2.1.2.1 d.2.2.1.2.2.1 d.2.2.1.2.2.2.1 d.2.2.1.2.2.2.2.1 d.2.2.2.1.2.1 d.2.2.2.1.2.2.1 (fun (y8 : List (Int × (Int × (Int × ByteArray)))) => K (.exit 0) [.tv (.lf (.int .u64 d.1.2.1)), .tv (.lf (.ptr 1 0)), .tv (.lf (.ptr 2 0)), .tv (.lf (.nilp)), .tv (.lf (.full 3))] [some ⟨d.2.1.1, [.seq (.int .i64) 0 d.2.1.2.1]⟩, some ⟨false, [.int .i64 d.2.2.1.2.1, .int .i64 d.2.2.1.2.2.1, .int .i64 d.2.2.1.2.2.2.1, .int .i64 d.2.2.1.2.2.2.2.1]⟩, some ⟨false, [.int .i64 d.2.2.2.1.2.1, .sl .bool d.2.2.2.1.2.2.1]⟩, some ⟨false, [.seq (.pair (.int .u64) (.pair (.int .u64) (.pair (.int .i64) .str))) 0 y8]⟩]) k d.1.2.2.2.2.2.2.1 d.2.2.2.2.1.2.1) (mkG sh3_1_l6_2 [1, 2, 4, 7, 9, 11, 12] (outT [(.exit 0, [2, 4, 7, 9, 11])]) (fun d K => l6_2 d.1.2.1 d.2.1.2.1 d.2.2.1.2.1 d.2.2.1.2.2.1 d.2.2.1.2.2.2.1 d.2.2.1.2.2.2.2.1 d.2.2.2.1.2.1 d.2.2.2.1.2.2.1 (fun (y8 : Int) (y9 : Bool) (y10 : Int) (y11 : List ByteArray) (y12 : List (Int × ByteArray)) (y13 : List (Int × (Int × (Int × ByteArray)))) => K (.exit 0) [.tv (.lf (.int .u64 d.1.2.1)), .tv (.lf (.ptr 1 0)), .tv (.lf (.ptr 2 0)), .tv (.lf (.ptr 3 0)), .tv (.lf (.full 6))] [some ⟨d.2.1.1, [.seq (.int .i64) 0 d.2.1.2.1]⟩, some ⟨false, [.int .i64 d.2.2.1.2.1, .int .i64 d.2.2.1.2.2.1, .int .i64 d.2.2.1.2.2.2.1, .int .i64 d.2.2.1.2.2.2.2.1]⟩, some ⟨false, [.int .i64 d.2.2.2.1.2.1, .sl .bool d.2.2.2.1.2.2.1]⟩, some ⟨false, [.full 4, .full 5, .int .i64 y8, .bool y9, .int .i64 y10]⟩, some ⟨false, [.seq .str 0 y11]⟩, some ⟨false, [.seq (.pair (.int .i64) .str) 0 y12]⟩, some ⟨false, [.seq (.pair (.int .u64) (.pair (.int .u64) (.pair (.int .i64) .str))) 0 y13]⟩]) k d.1.2.2.2.2.2.2.1 d.2.2.2.2.1.2.2.2.1 d.2.2.2.2.1.2.2.2.2.1 d.2.2.2.2.1.2.2.2.2.2.1 d.2.2.2.2.2.1.2.1 d.2.2.2.2.2.2.1.2.1 d.2.2.2.2.2.2.2.1.2.1) [])) b3_0 (encT sh3_1_l6.vs d.1) (encH sh3_1_l6.h d.2) K := by kernel_rfl
theorem L3_1_l6_2g (F k : Nat) (c5_1 : Int → Int → Int → Int → (Bool → Option Res) → Option Res) (c6_1 : (Bool → Option Res) → Option Res) (c7_1 : Int → (Option Res) → (List ByteArray → List (Int × ByteArray) → Option Res) → Option Res) (c8_1 : Int → Int → Int → Int → Int → (Int → Option Res) → Option Res) (c9_1 : Int → Int → Int → Int → Int → Int → Int → Int → Bool → Int → List ByteArray → List (Int × ByteArray) → (Int → Int → ByteArray → Int → Int → Bool → Int → List ByteArray → List (Int × ByteArray) → Option Res) → Option Res) (c9_9797 : Int → Int → Int → Int → Int → Int → Int → (Int → Option Res) → Option Res) (c10_1 : Int → Int → Bool → Int → List ByteArray → List (Int × ByteArray) → (Int → Option Res) → Option Res) (c10_6206 : Int → (Option Res) → Option Res) (c11_1 : Int → Bool → Int → List ByteArray → List (Int × ByteArray) → List Bool → (List ByteArray → List (Int × ByteArray) → Option Res) → Option Res) (c11_7155 : List Bool → (Option Res) → Option Res) (c12_1 : Int → Bool → Int → List ByteArray → List (Int × ByteArray) → (Int → Int → Bool → List (Int × ByteArray) → Option Res) → Option Res) (c12_568 : (Option Res) → Option Res) (c13_1 : Int → Int → Int → Int → Int → Int → Bool → Int → List ByteArray → List (Int × ByteArray) → (Int → List (Int × (Int × (Int × ByteArray))) → Option Res) → Option Res) (c13_3384 : Int → Int → Int → Int → Int → (Int → List (Int × (Int × (Int × ByteArray))) → Option Res) → Option Res) (c14_1 : List (Int × (Int × (Int × ByteArray))) → List (Int × (Int × (Int × ByteArray))) → (Bool → Option Res) → Option Res)  (l6 : Int → List Int → Int → Int → Int → Int → Int → Sl .bool → (List (Int × (Int × (Int × ByteArray))) → Option Res) → Nat → Int → List (Int × (Int × (Int × ByteArray))) → Option Res) (l6_2 : Int → List Int → Int → Int → Int → Int → Int → Sl .bool → (Int → Bool → Int → List ByteArray → List (Int × ByteArray) → List (Int × (Int × (Int × ByteArray))) → Option Res) → Nat → Int → Int → Bool → Int → List ByteArray → List (Int × ByteArray) → List (Int × (Int × (Int × ByteArray))) → Option Res) (X6 : LoopS) (d : sh3_1_l6_2.den) (K : KL) : (fun (v29 : Int) (v31 : List Int) (v32 : Int) (v33 : Int) (v34 : Int) (v35 : Int) (v36 : Int) (v37 : Sl .bool) (K0 : (Int → Bool → Int → List ByteArray → List (Int × ByteArray) → List (Int × (Int × (Int × ByteArray))) → Option Res)) (k : Nat) (v30 : Int) (v38 : Int) (v39 : Bool) (v40 : Int) (v41 : List ByteArray) (v42 : List (Int × ByteArray)) (v43 : List (Int × (Int × (Int × ByteArray)))) => cond (decide (v30 < ((v31.length : Nat) : Int))) (cond (decide ((0 : Int) ≤ v30 ∧ v30 < ((v31.length : Nat) : Int))) (cond (decide (0 + v30.toNat < v31.length)) ((fun z1 => amb z1 z1) (c9_1 v32 v33 v34 v35 ((v43.length : Nat) : Int) v29 (v31.getD (0 + v30.toNat) 0) v38 v39 v40 v41 v42 (fun x44 x45 x46 x47 x48 x49 x50 x51 x52 => cond (x47 == 0) (cond (decide ((v43.length + 1) * 40 ≤ 70368744177664)) (l6_2 v29 v31 v32 v33 v34 v35 v36 v37 K0 k (IntKind.i64.wrap (v30 + 1)) x48 x49 x50 x51 x52 (v43 ++ [(0, (x44, (x45, x46)))])) none) (l6_2 v29 v31 v32 v33 v34 v35 v36 v37 K0 k (IntKind.i64.wrap (v30 + 1)) x48 x49 x50 x51 x52 v43)) )) none) none) (K0 v38 v39 v40 v41 v42 v43)) d.1.2.1 d.2.1.2.1 d.2.2.1.2.1 d.2.2.1.2.2.1 d.2.2.1.2.2.2.1 d.2.2.1.2.2.2.2.1 d.2.2.2.1.2.1 d.2.2.2.1.2.2.1 (fun (y8 : Int) (y9 : Bool) (y10 : Int) (y11 : List ByteArray) (y12 : List (Int × ByteArray)) (y13 : List (Int × (Int × (Int × ByteArray)))) => K (.exit 0) [.tv (.lf (.int .u64 d.1.2.1)), .tv (.lf (.ptr 1 0)), .tv (.lf (.ptr 2 0)), .tv (.lf (.ptr 3 0)), .tv (.lf (.full 6))] [some ⟨d.2.1.1, [.seq (.int .i64) 0 d.2.1.2.1]⟩, some ⟨false, [.int .i64 d.2.2.1.2.1, .int .i64 d.2.2.1.2.2.1, .int .i64 d.2.2.1.2.2.2.1, .int .i64 d.2.2.1.2.2.2.2.1]⟩, some ⟨false, [.int .i64 d.2.2.2.1.2.1, .sl .bool d.2.2.2.1.2.2.1]⟩, some ⟨false, [.full 4, .full 5, .int .i64 y8, .bool y9, .int .i64 y10]⟩, some ⟨false, [.seq .str 0 y11]⟩, some ⟨false, [.seq (.pair (.int .i64) .str) 0 y12]⟩, some ⟨false, [.seq (.pair (.int .u64) (.pair (.int .u64) (.pair (.int .i64) .str))) 0 y13]⟩]) k d.1.2.2.2.2.2.2.1 d.2.2.2.2.1.2.2.2.1 d.2.2.2.2.1.2.2.2.2.1 d.2.2.2.2.1.2.2.2.2.2.1 d.2.2.2.2.2.1.2.1 d.2.2.2.2.2.2.1.2.1 d.2.2.2.2.2.2.2.1.2.1 = roundOf Tryd.prog (tab [(5, (mkS sh5_1 (fun d K => c5_1 d.1.1.1 d.1.1.2.1 d.1.1.2.2.1 d.1.1.2.2.2.1 (fun (y0 : Bool) => K [.lf (.bool y0)] [])) noS)), (6, (mkS sh6_1 (fun d K => c6_1 (fun (y0 : Bool) => K [.lf (.bool y0)] [])) noS)), (7, (mkS sh7_1 (fun d K => c7_1 d.1.1 (K [.lf (.nilp), .lf (.int .i64 2)] []) (fun (y4 : List ByteArray) (y5 : List (Int × ByteArray)) => K [.lf (.ptr 0 0), .lf (.int .i64 0)] [some ⟨false, [.full 1, .full 2, .int .i64 (-1), .bool false, .int .i64 0]⟩, some ⟨false, [.seq .str 0 y4]⟩, some ⟨false, [.seq (.pair (.int .i64) .str) 0 y5]⟩])) noS)), (8, (mkS sh8_1 (fun d K => c8_1 d.1.1.1 d.1.1.2.1 d.1.1.2.2.1 d.1.1.2.2.2.1 d.1.2.1 (fun (y0 : Int) => K [.lf (.int .i64 y0)] [])) noS)), (9, (mkS sh9_1 (fun d K => c9_1 d.1.2.1.1 d.1.2.1.2.1 d.1.2.1.2.2.1 d.1.2.1.2.2.2.1 d.1.2.2.1 d.1.2.2.2.1 d.1.2.2.2.2.1 d.2.1.2.2.2.1 d.2.1.2.2.2.2.1 d.2.1.2.2.2.2.2.1 d.2.2.1.2.1 d.2.2.2.1.2.1 (fun (y1 : Int) (y2 : Int) (y3 : ByteArray) (y4 : Int) (y5 : Int) (y6 : Bool) (y7 : Int) (y8 : List ByteArray) (y9 : List (Int × ByteArray)) => K [.agg [.int .u64 0, .int .u64 y1, .int .i64 y2, .str y3], .lf (.int .i64 y4)] [some ⟨false, [.full 1, .full 3, .int .i64 y5, .bool y6, .int .i64 y7]⟩, some ⟨false, [.seq .str 0 y8]⟩, none, some ⟨false, [.seq (.pair (.int .i64) .str) 0 y9]⟩])) (mkS sh9_9797 (fun d K => c9_9797 d.1.2.1.1 d.1.2.1.2.1 d.1.2.1.2.2.1 d.1.2.1.2.2.2.1 d.1.2.2.1 d.1.2.2.2.1 d.1.2.2.2.2.1 (fun (y4 : Int) => K [.agg [.int .u64 0, .int .u64 0, .int .i64 0, .str ByteArray.empty], .lf (.int .i64 y4)] [])) noS))), (10, (mkS sh10_1 (fun d K => c10_1 d.1.2.1 d.2.1.2.2.2.1 d.2.1.2.2.2.2.1 d.2.1.2.2.2.2.2.1 d.2.2.1.2.1 d.2.2.2.1.2.1 (fun (y0 : Int) => K [] [some ⟨false, [.full 1, .full 2, .int .i64 y0, .bool d.2.1.2.2.2.2.1, .int .i64 d.2.1.2.2.2.2.2.1]⟩, some ⟨d.2.2.1.1, [.seq .str 0 d.2.2.1.2.1]⟩, some ⟨d.2.2.2.1.1, [.seq (.pair (.int .i64) .str) 0 d.2.2.2.1.2.1]⟩])) (mkS sh10_6206 (fun d K => c10_6206 d.1.2.1 (K [] [])) noS))), (11, (mkS sh11_1 (fun d K => c11_1 d.2.1.2.2.2.1 d.2.1.2.2.2.2.1 d.2.1.2.2.2.2.2.1 d.2.2.1.2.1 d.2.2.2.1.2.1 d.2.2.2.2.1.2.1 (fun (y3 : List ByteArray) (y5 : List (Int × ByteArray)) => K [] [some ⟨false, [.full 1, .full 4, .int .i64 (-1), .bool true, .int .i64 d.2.1.2.2.2.2.2.1]⟩, some ⟨false, [.seq .str 0 y3]⟩, none, some ⟨d.2.2.2.2.1.1, [.seq .bool 0 d.2.2.2.2.1.2.1]⟩, some ⟨false, [.seq (.pair (.int .i64) .str) 0 y5]⟩])) (mkS sh11_7155 (fun d K => c11_7155 d.2.1.2.1 (K [] [some ⟨d.2.1.1, [.seq .bool 0 d.2.1.2.1]⟩])) noS))), (12, (mkS sh12_1 (fun d K => c12_1 d.2.1.2.2.2.1 d.2.1.2.2.2.2.1 d.2.1.2.2.2.2.2.1 d.2.2.1.2.1 d.2.2.2.1.2.1 (fun (y0 : Int) (y1 : Int) (y2 : Bool) (y5 : List (Int × ByteArray)) => K [.lf (.int .i64 y0)] [some ⟨false, [.full 1, .full 3, .int .i64 y1, .bool y2, .int .i64 d.2.1.2.2.2.2.2.1]⟩, some ⟨d.2.2.1.1, [.seq .str 0 d.2.2.1.2.1]⟩, none, some ⟨false, [.seq (.pair (.int .i64) .str) 0 y5]⟩])) (mkS sh12_568 (fun d K => c12_568 (K [.lf (.int .i64 1)] [])) noS))), (13, (mkS sh13_1 (fun d K => c13_1 d.1.2.1.1 d.1.2.1.2.1 d.1.2.1.2.2.1 d.1.2.1.2.2.2.1 d.1.2.2.1 d.2.1.2.2.2.1 d.2.1.2.2.2.2.1 d.2.1.2.2.2.2.2.1 d.2.2.1.2.1 d.2.2.2.1.2.1 (fun (y0 : Int) (y6 : List (Int × (Int × (Int × ByteArray)))) => K [.lf (.full 3), .lf (.int .i64 y0)] [some ⟨d.2.1.1, [.full 1, .full 2, .int .i64 d.2.1.2.2.2.1, .bool d.2.1.2.2.2.2.1, .int .i64 d.2.1.2.2.2.2.2.1]⟩, some ⟨d.2.2.1.1, [.seq .str 0 d.2.2.1.2.1]⟩, some ⟨d.2.2.2.1.1, [.seq (.pair (.int .i64) .str) 0 d.2.2.2.1.2.1]⟩, some ⟨false, [.seq (.pair (.int .u64) (.pair (.int .u64) (.pair (.int .i64) .str))) 0 y6]⟩])) (mkS sh13_3384 (fun d K => c13_3384 d.1.2.1.1 d.1.2.1.2.1 d.1.2.1.2.2.1 d.1.2.1.2.2.2.1 d.1.2.2.1 (fun (y0 : Int) (y1 : List (Int × (Int × (Int × ByteArray)))) => K [.lf (.full 0), .lf (.int .i64 y0)] [some ⟨false, [.seq (.pair (.int .u64) (.pair (.int .u64) (.pair (.int .i64) .str))) 0 y1]⟩])) noS))), (14, (mkS sh14_1 (fun d K => c14_1 d.2.1.2.1 d.2.2.1.2.1 (fun (y0 : Bool) => K [.lf (.bool y0)] [some ⟨d.2.1.1, [.seq (.pair (.int .u64) (.pair (.int .u64) (.pair (.int .i64) .str))) 0 d.2.1.2.1]⟩, some ⟨d.2.2.1.1, [.seq (.pair (.int .u64) (.pair (.int .u64) (.pair (.int .i64) .str))) 0 d.2.2.1.2.1]⟩])) noS))]) (xw [8]) 148 1 (ltab [(6, X6)]) (orG sh3_1_l6 (fun d K => l6 d.1.2.1 d.2.1.2.1 d.2.2.1.2.1 d.2.2.1.2.2.1 d.2.2.1.2.2.2.1 d.2.2.1.2.2.2.2.1 d.2.2.2.1.2.1 d.2.2.2.1.2.2.1 (fun (y8 : List (Int × (Int × (Int × ByteArray)))) => K (.exit 0) [.tv (.lf (.int .u64 d.1.2.1)), .tv (.lf (.ptr 1 0)), .tv (.lf (.ptr 2 0)), .tv (.lf (.nilp)), .tv (.lf (.full 3))] [some ⟨d.2.1.1, [.seq (.int .i64) 0 d.2.1.2.1]⟩, some ⟨false, [.int .i64 d.2.2.1.2.1, .int .i64 d.2.2.1.2.2.1, .int .i64 d.2.2.1.2.2.2.1, .int .i64 d.2.2.1.2.2.2.2.1]⟩, some ⟨false, [.int .i64 d.2.2.2.1.2.1, .sl .bool d.2.2.2.1.2.2.1]⟩, some ⟨false, [.seq (.pair (.int .u64) (.pair (.int .u64) (.pair (.int .i64) .str))) 0 y8]⟩]) k d.1.2.2.2.2.2.2.1 d.2.2.2.2.1.2.1) (mkG sh3_1_l6_2 [1, 2, 4, 7, 9, 11, 12] (outT [(.exit 0, [2, 4, 7, 9, 11])]) (fun d K => l6_2 d.1.2.1 d.2.1.2.1 d.2.2.1.2.1 d.2.2.1.2.2.1 d.2.2.1.2.2.2.1 d.2.2.1.2.2.2.2.1 d.2.2.2.1.2.1 d.2.2.2.1.2.2.1 (fun (y8 : Int) (y9 : Bool) (y10 : Int) (y11 : List ByteArray) (y12 : List (Int × ByteArray)) (y13 : List (Int × (Int × (Int × ByteArray)))) => K (.exit 0) [.tv (.lf (.int .u64 d.1.2.1)), .tv (.lf (.ptr 1 0)), .tv (.lf (.ptr 2 0)), .tv (.lf (.ptr 3 0)), .tv (.lf (.full 6))] [some ⟨d.2.1.1, [.seq (.int .i64) 0 d.2.1.2.1]⟩, some ⟨false, [.int .i64 d.2.2.1.2.1, .int .i64 d.2.2.1.2.2.1, .int .i64 d.2.2.1.2.2.2.1, .int .i64 d.2.2.1.2.2.2.2.1]⟩, some ⟨false, [.int .i64 d.2.2.2.1.2.1, .sl .bool d.2.2.2.1.2.2.1]⟩, some ⟨false, [.full 4, .full 5, .int .i64 y8, .bool y9, .int .i64 y10]⟩, some ⟨false, [.seq .str 0 y11]⟩, some ⟨false, [.seq (.pair (.int .i64) .str) 0 y12]⟩, some ⟨false, [.seq (.pair (.int .u64) (.pair (.int .u64) (.pair (.int .i64) .str))) 0 y13]⟩]) k d.1.2.2.2.2.2.2.1 d.2.2.2.2.1.2.2.2.1 d.2.2.2.2.1.2.2.2.2.1 d.2.2.2.2.1.2.2.2.2.2.1 d.2.2.2.2.2.1.2.1 d.2.2.2.2.2.2.1.2.1 d.2.2.2.2.2.2.2.1.2.1) [])) b3_0 (encT sh3_1_l6_2.vs d.1) (encH sh3_1_l6_2.h d.2) K := by kernel_rfl
theorem L3_1_6 (F : Nat) : LoopOK Tryd.prog (T3_1 F) (xw [8]) 148 1 (LT3_1 F) (G3_1_6 F F) b3_0 :=
  loopOK_vers (G3_1_6 F) F (fun k => ⟨rfl, rfl⟩) (verOK_cons (s := sh3_1_l6) (all := (G3_1_6 F)) (fun k d K => f3_1_l6 F d.1.2.1 d.2.1.2.1 d.2.2.1.2.1 d.2.2.1.2.2.1 d.2.2.1.2.2.2.1 d.2.2.1.2.2.2.2.1 d.2.2.2.1.2.1 d.2.2.2.1.2.2.1 (fun (y8 : List (Int × (Int × (Int × ByteArray)))) => K (.exit 0) [.tv (.lf (.int .u64 d.1.2.1)), .tv (.lf (.ptr 1 0)), .tv (.lf (.ptr 2 0)), .tv (.lf (.nilp)), .tv (.lf (.full 3))] [some ⟨d.2.1.1, [.seq (.int .i64) 0 d.2.1.2.1]⟩, some ⟨false, [.int .i64 d.2.2.1.2.1, .int .i64 d.2.2.1.2.2.1, .int .i64 d.2.2.1.2.2.2.1, .int .i64 d.2.2.1.2.2.2.2.1]⟩, some ⟨false, [.int .i64 d.2.2.2.1.2.1, .sl .bool d.2.2.2.1.2.2.1]⟩, some ⟨false, [.seq (.pair (.int .u64) (.pair (.int .u64) (.pair (.int .i64) .str))) 0 y8]⟩]) k d.1.2.2.2.2.2.2.1 d.2.2.2.2.1.2.1) (fun d K => by kernel_rfl) (fun k d K => Eq.mp (by kernel_rfl) (L3_1_l6g F k (f5_1 F) (f6_1 F) (f7_1 F) (f8_1 F) (f9_1 F) (f9_9797 F) (f10_1 F) (f10_6206 F) (f11_1 F) (f11_7155 F) (f12_1 F) (f12_568 F) (f13_1 F) (f13_3384 F) (f14_1 F)  (f3_1_l6 F) (f3_1_l6_2 F) (G3_1_6 F F) d K)) (verOK_last (s := sh3_1_l6_2) (live := [1, 2, 4, 7, 9, 11, 12]) (out := (outT [(.exit 0, [2, 4, 7, 9, 11])])) (mv := []) (all := (G3_1_6 F)) (fun k d K => f3_1_l6_2 F d.1.2.1 d.2.1.2.1 d.2.2.1.2.1 d.2.2.1.2.2.1 d.2.2.1.2.2.2.1 d.2.2.1.2.2.2.2.1 d.2.2.2.1.2.1 d.2.2.2.1.2.2.1 (fun (y8 : Int) (y9 : Bool) (y10 : Int) (y11 : List ByteArray) (y12 : List (Int × ByteArray)) (y13 : List (Int × (Int × (Int × ByteArray)))) => K (.exit 0) [.tv (.lf (.int .u64 d.1.2.1)), .tv (.lf (.ptr 1 0)), .tv (.lf (.ptr 2 0)), .tv (.lf (.ptr 3 0)), .tv (.lf (.full 6))] [some ⟨d.2.1.1, [.seq (.int .i64) 0 d.2.1.2.1]⟩, some ⟨false, [.int .i64 d.2.2.1.2.1, .int .i64 d.2.2.1.2.2.1, .int .i64 d.2.2.1.2.2.2.1, .int .i64 d.2.2.1.2.2.2.2.1]⟩, some ⟨false, [.int .i64 d.2.2.2.1.2.1, .sl .bool d.2.2.2.1.2.2.1]⟩, some ⟨false, [.full 4, .full 5, .int .i64 y8, .bool y9, .int .i64 y10]⟩, some ⟨false, [.seq .str 0 y11]⟩, some ⟨false, [.seq (.pair (.int .i64) .str) 0 y12]⟩, some ⟨false, [.seq (.pair (.int .u64) (.pair (.int .u64) (.pair (.int .i64) .str))) 0 y13]⟩]) k d.1.2.2.2.2.2.2.1 d.2.2.2.2.1.2.2.2.1 d.2.2.2.2.1.2.2.2.2.1 d.2.2.2.2.1.2.2.2.2.2.1 d.2.2.2.2.2.1.2.1 d.2.2.2.2.2.2.1.2.1 d.2.2.2.2.2.2.2.1.2.1) (fun d K => by kernel_rfl) (fun k d K => Eq.mp (by kernel_rfl) (L3_1_l6_2g F k (f5_1 F) (f6_1 F) (f7_1 F) (f8_1 F) (f9_1 F) (f9_9797 F) (f10_1 F) (f10_6206 F) (f11_1 F) (f11_7155 F) (f12_1 F) (f12_568 F) (f13_1 F) (f13_3384 F) (f14_1 F)  (f3_1_l6 F) (f3_1_l6_2 F) (G3_1_6 F F) d K))))
theorem E3_1g (F : Nat) (c5_1 : Int → Int → Int → Int → (Bool → Option Res) → Option Res) (c6_1 : (Bool → Option Res) → Option Res) (c7_1 : Int → (Option Res) → (List ByteArray → List (Int × ByteArray) → Option Res) → Option Res) (c8_1 : Int → Int → Int → Int → Int → (Int → Option Res) → Option Res) (c9_1 : Int → Int → Int → Int → Int → Int → Int → Int → Bool → Int → List ByteArray → List (Int × ByteArray) → (Int → Int → ByteArray → Int → Int → Bool → Int → List ByteArray → List (Int × ByteArray) → Option Res) → Option Res) (c9_9797 : Int → Int → Int → Int → Int → Int → Int → (Int → Option Res) → Option Res) (c10_1 : Int → Int → Bool → Int → List ByteArray → List (Int × ByteArray) → (Int → Option Res) → Option Res) (c10_6206 : Int → (Option Res) → Option Res) (c11_1 : Int → Bool → Int → List ByteArray → List (Int × ByteArray) → List Bool → (List ByteArray → List (Int × ByteArray) → Option Res) → Option Res) (c11_7155 : List Bool → (Option Res) → Option Res) (c12_1 : Int → Bool → Int → List ByteArray → List (Int × ByteArray) → (Int → Int → Bool → List (Int × ByteArray) → Option Res) → Option Res) (c12_568 : (Option Res) → Option Res) (c13_1 : Int → Int → Int → Int → Int → Int → Bool → Int → List ByteArray → List (Int × ByteArray) → (Int → List (Int × (Int × (Int × ByteArray))) → Option Res) → Option Res) (c13_3384 : Int → Int → Int → Int → Int → (Int → List (Int × (Int × (Int × ByteArray))) → Option Res) → Option Res) (c14_1 : List (Int × (Int × (Int × ByteArray))) → List (Int × (Int × (Int × ByteArray))) → (Bool → Option Res) → Option Res) (l6 : Int → List Int → Int → Int → Int → Int → Int → Sl .bool → (List (Int × (Int × (Int × ByteArray))) → Option Res) → Nat → Int → List (Int × (Int × (Int × ByteArray))) → Option Res) (l6_2 : Int → List Int → Int → Int → Int → Int → Int → Sl .bool → (Int → Bool → Int → List ByteArray → List (Int × ByteArray) → List (Int × (Int × (Int × ByteArray))) → Option Res) → Nat → Int → Int → Bool → Int → List ByteArray → List (Int × ByteArray) → List (Int × (Int × (Int × ByteArray))) → Option Res)  (d : sh3_1.den) (K : KF) : evBody Tryd.prog (tab [(5, (mkS sh5_1 (fun d K => c5_1 d.1.1.1 d.1.1.2.1 d.1.1.2.2.1 d.1.1.2.2.2.1 (fun (y0 : Bool) => K [.lf (.bool y0)] [])) noS)), (6, (mkS sh6_1 (fun d K => c6_1 (fun (y0 : Bool) => K [.lf (.bool y0)] [])) noS)), (7, (mkS sh7_1 (fun d K => c7_1 d.1.1 (K [.lf (.nilp), .lf (.int .i64 2)] []) (fun (y4 : List ByteArray) (y5 : List (Int × ByteArray)) => K [.lf (.ptr 0 0), .lf (.int .i64 0)] [some ⟨false, [.full 1, .full 2, .int .i64 (-1), .bool false, .int .i64 0]⟩, some ⟨false, [.seq .str 0 y4]⟩, some ⟨false, [.seq (.pair (.int .i64) .str) 0 y5]⟩])) noS)), (8, (mkS sh8_1 (fun d K => c8_1 d.1.1.1 d.1.1.2.1 d.1.1.2.2.1 d.1.1.2.2.2.1 d.1.2.1 (fun (y0 : Int) => K [.lf (.int .i64 y0)] [])) noS)), (9, (mkS sh9_1 (fun d K => c9_1 d.1.2.1.1 d.1.2.1.2.1 d.1.2.1.2.2.1 d.1.2.1.2.2.2.1 d.1.2.2.1 d.1.2.2.2.1 d.1.2.2.2.2.1 d.2.1.2.2.2.1 d.2.1.2.2.2.2.1 d.2.1.2.2.2.2.2.1 d.2.2.1.2.1 d.2.2.2.1.2.1 (fun (y1 : Int) (y2 : Int) (y3 : ByteArray) (y4 : Int) (y5 : Int) (y6 : Bool) (y7 : Int) (y8 : List ByteArray) (y9 : List (Int × ByteArray)) => K [.agg [.int .u64 0, .int .u64 y1, .int .i64 y2, .str y3], .lf (.int .i64 y4)] [some ⟨false, [.full 1, .full 3, .int .i64 y5, .bool y6, .int .i64 y7]⟩, some ⟨false, [.seq .str 0 y8]⟩, none, some ⟨false, [.seq (.pair (.int .i64) .str) 0 y9]⟩])) (mkS sh9_9797 (fun d K => c9_9797 d.1.2.1.1 d.1.2.1.2.1 d.1.2.1.2.2.1 d.1.2.1.2.2.2.1 d.1.2.2.1 d.1.2.2.2.1 d.1.2.2.2.2.1 (fun (y4 : Int) => K [.agg [.int .u64 0, .int .u64 0, .int .i64 0, .str ByteArray.empty], .lf (.int .i64 y4)] [])) noS))), (10, (mkS sh10_1 (fun d K => c10_1 d.1.2.1 d.2.1.2.2.2.1 d.2.1.2.2.2.2.1 d.2.1.2.2.2.2.2.1 d.2.2.1.2.1 d.2.2.2.1.2.1 (fun (y0 : Int) => K [] [some ⟨false, [.full 1, .full 2, .int .i64 y0, .bool d.2.1.2.2.2.2.1, .int .i64 d.2.1.2.2.2.2.2.1]⟩, some ⟨d.2.2.1.1, [.seq .str 0 d.2.2.1.2.1]⟩, some ⟨d.2.2.2.1.1, [.seq (.pair (.int .i64) .str) 0 d.2.2.2.1.2.1]⟩])) (mkS sh10_6206 (fun d K => c10_6206 d.1.2.1 (K [] [])) noS))), (11, (mkS sh11_1 (fun d K => c11_1 d.2.1.2.2.2.1 d.2.1.2.2.2.2.1 d.2.1.2.2.2.2.2.1 d.2.2.1.2.1 d.2.2.2.1.2.1 d.2.2.2.2.1.2.1 (fun (y3 : List ByteArray) (y5 : List (Int × ByteArray)) => K [] [some ⟨false, [.full 1, .full 4, .int .i64 (-1), .bool true, .int .i64 d.2.1.2.2.2.2.2.1]⟩, some ⟨false, [.seq .str 0 y3]⟩, none, some ⟨d.2.2.2.2.1.1, [.seq .bool 0 d.2.2.2.2.1.2.1]⟩, some ⟨false, [.seq (.pair (.int .i64) .str) 0 y5]⟩])) (mkS sh11_7155 (fun d K => c11_7155 d.2.1.2.1 (K [] [some ⟨d.2.1.1, [.seq .bool 0 d.2.1.2.1]⟩])) noS))), (12, (mkS sh12_1 (fun d K => c12_1 d.2.1.2.2.2.1 d.2.1.2.2.2.2.1 d.2.1.2.2.2.2.2.1 d.2.2.1.2.1 d.2.2.2.1.2.1 (fun (y0 : Int) (y1 : Int) (y2 : Bool) (y5 : List (Int × ByteArray)) => K [.lf (.int .i64 y0)] [some ⟨false, [.full 1, .full 3, .int .i64 y1, .bool y2, .int .i64 d.2.1.2.2.2.2.2.1]⟩, some ⟨d.2.2.1.1, [.seq .str 0 d.2.2.1.2.1]⟩, none, some ⟨false, [.seq (.pair (.int .i64) .str) 0 y5]⟩])) (mkS sh12_568 (fun d K => c12_568 (K [.lf (.int .i64 1)] [])) noS))), (13, (mkS sh13_1 (fun d K => c13_1 d.1.2.1.1 d.1.2.1.2.1 d.1.2.1.2.2.1 d.1.2.1.2.2.2.1 d.1.2.2.1 d.2.1.2.2.2.1 d.2.1.2.2.2.2.1 d.2.1.2.2.2.2.2.1 d.2.2.1.2.1 d.2.2.2.1.2.1 (fun (y0 : Int) (y6 : List (Int × (Int × (Int × ByteArray)))) => K [.lf (.full 3), .lf (.int .i64 y0)] [some ⟨d.2.1.1, [.full 1, .full 2, .int .i64 d.2.1.2.2.2.1, .bool d.2.1.2.2.2.2.1, .int .i64 d.2.1.2.2.2.2.2.1]⟩, some ⟨d.2.2.1.1, [.seq .str 0 d.2.2.1.2.1]⟩, some ⟨d.2.2.2.1.1, [.seq (.pair (.int .i64) .str) 0 d.2.2.2.1.2.1]⟩, some ⟨false, [.seq (.pair (.int .u64) (.pair (.int .u64) (.pair (.int .i64) .str))) 0 y6]⟩])) (mkS sh13_3384 (fun d K => c13_3384 d.1.2.1.1 d.1.2.1.2.1 d.1.2.1.2.2.1 d.1.2.1.2.2.2.1 d.1.2.2.1 (fun (y0 : Int) (y1 : List (Int × (Int × (Int × ByteArray)))) => K [.lf (.full 0), .lf (.int .i64 y0)] [some ⟨false, [.seq (.pair (.int .u64) (.pair (.int .u64) (.pair (.int .i64) .str))) 0 y1]⟩])) noS))), (14, (mkS sh14_1 (fun d K => c14_1 d.2.1.2.1 d.2.2.1.2.1 (fun (y0 : Bool) => K [.lf (.bool y0)] [some ⟨d.2.1.1, [.seq (.pair (.int .u64) (.pair (.int .u64) (.pair (.int .i64) .str))) 0 d.2.1.2.1]⟩, some ⟨d.2.2.1.1, [.seq (.pair (.int .u64) (.pair (.int .u64) (.pair (.int .i64) .str))) 0 d.2.2.1.2.1]⟩])) noS))]) (xw [8]) 148 1 (ltab [(6, orG sh3_1_l6 (fun d K => l6 d.1.2.1 d.2.1.2.1 d.2.2.1.2.1 d.2.2.1.2.2.1 d.2.2.1.2.2.2.1 d.2.2.1.2.2.2.2.1 d.2.2.2.1.2.1 d.2.2.2.1.2.2.1 (fun (y8 : List (Int × (Int × (Int × ByteArray)))) => K (.exit 0) [.tv (.lf (.int .u64 d.1.2.1)), .tv (.lf (.ptr 1 0)), .tv (.lf (.ptr 2 0)), .tv (.lf (.nilp)), .tv (.lf (.full 3))] [some ⟨d.2.1.1, [.seq (.int .i64) 0 d.2.1.2.1]⟩, some ⟨false, [.int .i64 d.2.2.1.2.1, .int .i64 d.2.2.1.2.2.1, .int .i64 d.2.2.1.2.2.2.1, .int .i64 d.2.2.1.2.2.2.2.1]⟩, some ⟨false, [.int .i64 d.2.2.2.1.2.1, .sl .bool d.2.2.2.1.2.2.1]⟩, some ⟨false, [.seq (.pair (.int .u64) (.pair (.int .u64) (.pair (.int .i64) .str))) 0 y8]⟩]) F d.1.2.2.2.2.2.2.1 d.2.2.2.2.1.2.1) (mkG sh3_1_l6_2 [1, 2, 4, 7, 9, 11, 12] (outT [(.exit 0, [2, 4, 7, 9, 11])]) (fun d K => l6_2 d.1.2.1 d.2.1.2.1 d.2.2.1.2.1 d.2.2.1.2.2.1 d.2.2.1.2.2.2.1 d.2.2.1.2.2.2.2.1 d.2.2.2.1.2.1 d.2.2.2.1.2.2.1 (fun (y8 : Int) (y9 : Bool) (y10 : Int) (y11 : List ByteArray) (y12 : List (Int × ByteArray)) (y13 : List (Int × (Int × (Int × ByteArray)))) => K (.exit 0) [.tv (.lf (.int .u64 d.1.2.1)), .tv (.lf (.ptr 1 0)), .tv (.lf (.ptr 2 0)), .tv (.lf (.ptr 3 0)), .tv (.lf (.full 6))] [some ⟨d.2.1.1, [.seq (.int .i64) 0 d.2.1.2.1]⟩, some ⟨false, [.int .i64 d.2.2.1.2.1, .int .i64 d.2.2.1.2.2.1, .int .i64 d.2.2.1.2.2.2.1, .int .i64 d.2.2.1.2.2.2.2.1]⟩, some ⟨false, [.int .i64 d.2.2.2.1.2.1, .sl .bool d.2.2.2.1.2.2.1]⟩, some ⟨false, [.full 4, .full 5, .int .i64 y8, .bool y9, .int .i64 y10]⟩, some ⟨false, [.seq .str 0 y11]⟩, some ⟨false, [.seq (.pair (.int .i64) .str) 0 y12]⟩, some ⟨false, [.seq (.pair (.int .u64) (.pair (.int .u64) (.pair (.int .i64) .str))) 0 y13]⟩]) F d.1.2.2.2.2.2.2.1 d.2.2.2.2.1.2.2.2.1 d.2.2.2.2.1.2.2.2.2.1 d.2.2.2.2.1.2.2.2.2.2.1 d.2.2.2.2.2.1.2.1 d.2.2.2.2.2.2.1.2.1 d.2.2.2.2.2.2.2.1.2.1) []))]) [] code3 Tryd.f3.results.toList (encT sh3_1.vs d.1) (encH sh3_1.h d.2) K = (fun (a1 : Int) (a2 : Int) (a3 : Int) (a4 : Int) (a5 : Int) (a6 : Int) (a7 : Sl .bool) (a8 : List Int) (K0 : (Bool → Option Res)) => c5_1 a1 a2 a3 a4 (fun x1 => cond (!x1) (c6_1  (fun x2 => K0 x2) ) (cond (decide (a1 > 20)) (c6_1  (fun x3 => K0 x3) ) (cond (decide (a3 > 20)) (c6_1  (fun x4 => K0 x4) ) (cond (decide (a6 < 0)) (c6_1  (fun x5 => K0 x5) ) (cond (decide (((a8.length : Nat) : Int) > 60)) (c6_1  (fun x6 => K0 x6) ) (c8_1 a1 a2 a3 a4 0 (fun x7 => c7_1 x7 (l6 a5 a8 a1 a2 a3 a4 a6 a7 (fun x20 => c10_6206 a6 (c9_9797 a1 a2 a3 a4 ((x20.length : Nat) : Int) a5 0 (fun x21 => c11_7155 a7.dat (c12_568  (c13_3384 a1 a2 a3 a4 a5 (fun x22 x23 => cond (x22 != 0) (K0 false) (cond (decide (((x23.length : Nat) : Int) < ((x20.length : Nat) : Int))) (K0 false) (cond (decide (((x23.length : Nat) : Int) > IntKind.i64.wrap (((x20.length : Nat) : Int) + 1))) (K0 false) (cond (decide ((0 : Int) ≤ (0 : Int) ∧ (0 : Int) ≤ ((x20.length : Nat) : Int) ∧ ((x20.length : Nat) : Int) ≤ ((x23.length : Nat) : Int))) (c14_1 ((x23.drop 0).take ((((x20.length : Nat) : Int) - 0).toNat)) x20 (fun x24 => cond (!x24) (K0 false) (cond (x21 != 0) (c6_1  (fun x25 => K0 x25) ) (cond (((x23.length : Nat) : Int) == (IntKind.i64.wrap (((x20.length : Nat) : Int) + 1))) (cond (decide ((0 : Int) ≤ ((x20.length : Nat) : Int) ∧ ((x20.length : Nat) : Int) < ((x23.length : Nat) : Int))) (cond (decide (0 + (((x20.length : Nat) : Int).toNat) < x23.length)) (cond ((((x23.getD (0 + (((x20.length : Nat) : Int).toNat)) (0, (0, (0, ByteArray.empty)))).1) == 0) && (((((x23.getD (0 + (((x20.length : Nat) : Int).toNat)) (0, (0, (0, ByteArray.empty)))).2).1) == 0) && ((((((x23.getD (0 + (((x20.length : Nat) : Int).toNat)) (0, (0, (0, ByteArray.empty)))).2).2).1) == 0) && (((((x23.getD (0 + (((x20.length : Nat) : Int).toNat)) (0, (0, (0, ByteArray.empty)))).2).2).2).toList == ByteArray.empty.toList)))) (c6_1  (fun x26 => K0 x26) ) (K0 false)) none) none) (K0 false)))) ) none)))) ) ) ) ) ) F 0 []) (fun x27 x28 => l6_2 a5 a8 a1 a2 a3 a4 a6 a7 (fun x62 x63 x64 x65 x66 x67 => c10_1 a6 x62 x63 x64 x65 x66 (fun x68 => c9_1 a1 a2 a3 a4 ((x67.length : Nat) : Int) a5 0 x68 x63 x64 x65 x66 (fun x69 x70 x71 x72 x73 x74 x75 x76 x77 => c11_1 x73 x74 x75 x76 x77 a7.dat (fun x78 x79 => c12_1 (-1) true x75 x78 x79 (fun x80 x81 x82 x83 => c13_1 a1 a2 a3 a4 a5 x81 x82 x75 x78 x83 (fun x84 x85 => cond (x84 != 0) (K0 false) (cond (decide (((x85.length : Nat) : Int) < ((x67.length : Nat) : Int))) (K0 false) (cond (decide (((x85.length : Nat) : Int) > IntKind.i64.wrap (((x67.length : Nat) : Int) + 1))) (K0 false) (cond (decide ((0 : Int) ≤ (0 : Int) ∧ (0 : Int) ≤ ((x67.length : Nat) : Int) ∧ ((x67.length : Nat) : Int) ≤ ((x85.length : Nat) : Int))) (c14_1 ((x85.drop 0).take ((((x67.length : Nat) : Int) - 0).toNat)) x67 (fun x86 => cond (!x86) (K0 false) (cond (x72 != 0) (c6_1  (fun x87 => K0 x87) ) (cond (((x85.length : Nat) : Int) == (IntKind.i64.wrap (((x67.length : Nat) : Int) + 1))) (cond (decide ((0 : Int) ≤ ((x67.length : Nat) : Int) ∧ ((x67.length : Nat) : Int) < ((x85.length : Nat) : Int))) (cond (decide (0 + (((x67.length : Nat) : Int).toNat) < x85.length)) (cond ((((x85.getD (0 + (((x67.length : Nat) : Int).toNat)) (0, (0, (0, ByteArray.empty)))).1) == 0) && (((((x85.getD (0 + (((x67.length : Nat) : Int).toNat)) (0, (0, (0, ByteArray.empty)))).2).1) == x69) && ((((((x85.getD (0 + (((x67.length : Nat) : Int).toNat)) (0, (0, (0, ByteArray.empty)))).2).2).1) == x70) && (((((x85.getD (0 + (((x67.length : Nat) : Int).toNat)) (0, (0, (0, ByteArray.empty)))).2).2).2).toList == x71.toList)))) (c6_1  (fun x88 => K0 x88) ) (K0 false)) none) none) (K0 false)))) ) none)))) ) ) ) ) ) F 0 (-1) false 0 x27 x28 []) ) )))))) ) d.1.1.1 d.1.1.2.1 d.1.1.2.2.1 d.1.1.2.2.2.1 d.1.2.2.1 d.1.2.2.2.1.1 d.1.2.2.2.1.2.1 d.2.1.2.1 (fun (y0 : Bool) => K [.lf (.bool y0)] [some ⟨d.2.1.1, [.seq (.int .i64) 0 d.2.1.2.1]⟩]) := by kernel_rfl
theorem E3_1 (F : Nat) (d : sh3_1.den) (K : KF) : evBody Tryd.prog (T3_1 F) (xw [8]) 148 1 (LT3_1 F) [] code3 Tryd.f3.results.toList (encT sh3_1.vs d.1) (encH sh3_1.h d.2) K = f3_1 F d.1.1.1 d.1.1.2.1 d.1.1.2.2.1 d.1.1.2.2.2.1 d.1.2.2.1 d.1.2.2.2.1.1 d.1.2.2.2.1.2.1 d.2.1.2.1 (fun (y0 : Bool) => K [.lf (.bool y0)] [some ⟨d.2.1.1, [.seq (.int .i64) 0 d.2.1.2.1]⟩]) := Eq.mp (by kernel_rfl) (E3_1g F (f5_1 F) (f6_1 F) (f7_1 F) (f8_1 F) (f9_1 F) (f9_9797 F) (f10_1 F) (f10_6206 F) (f11_1 F) (f11_7155 F) (f12_1 F) (f12_568 F) (f13_1 F) (f13_3384 F) (f14_1 F) (f3_1_l6 F) (f3_1_l6_2 F)  d K)
theorem S3_1_ok (F : Nat) (o : Summ) (ho : SoundFn Tryd.prog 3 o) : SoundFn Tryd.prog 3 (S3_1 F o) :=
  soundFn_of (fn := Tryd.f3) (c := code3) rfl rfl (by kernel_rfl) (tab_cons (S5_1_ok F _ (noS_sound enter5)) (tab_cons (S6_1_ok F _ (noS_sound enter6)) (tab_cons (S7_1_ok F _ (noS_sound enter7)) (tab_cons (S8_1_ok F _ (noS_sound enter8)) (tab_cons (S9_1_ok F _ (S9_9797_ok F _ (noS_sound enter9))) (tab_cons (S10_1_ok F _ (S10_6206_ok F _ (noS_sound enter10))) (tab_cons (S11_1_ok F _ (S11_7155_ok F _ (noS_sound enter11))) (tab_cons (S12_1_ok F _ (S12_568_ok F _ (noS_sound enter12))) (tab_cons (S13_1_ok F _ (S13_3384_ok F _ (noS_sound enter13))) (tab_cons (S14_1_ok F _ (noS_sound enter14)) tab_nil)))))))))) (by kernel_rfl) (by kernel_rfl) ho (by rw [loops3]; exact (loopsOK_cons (by kernel_rfl) (L3_1_6 F) loopsOK_nil)) (by rw [scopes3]; exact scopesOK_nil) (by rw [ranges3]; exact rangesOK_nil) (E3_1 F)
end Go.Proofs.YtlgopekjjkdkiaaDoor.X
end

section
/- Numbers of a fixed width: what wrapping and the bits' operations come to where nothing is lost. -/
namespace Go.Proofs.YtlgopekjjkdkiaaDoor.X
open Go Go.Proofs.YtlgopekjjkdkiaaDoor.Ev
set_option linter.unusedSectionVars false
variable [FZ]
set_option linter.unusedVariables false
set_option linter.unusedSimpArgs false

theorem w64 {x : Int} (h : -9223372036854775808 ≤ x) (h' : x ≤ 9223372036854775807) : IntKind.i64.wrap x = x := by
  simp only [IntKind.wrap, IntKind.bits, IntKind.signed, Bool.true_and]
  split <;> (rename_i hq; simp at hq; omega)

theorem wu64 {x : Int} (h : 0 ≤ x) (h' : x < 18446744073709551616) : IntKind.u64.wrap x = x := by
  simp only [IntKind.wrap, IntKind.bits, IntKind.signed, Bool.false_and]
  simp; omega

theorem wu32 {x : Int} (h : 0 ≤ x) (h' : x < 4294967296) : IntKind.u32.wrap x = x := by
  simp only [IntKind.wrap, IntKind.bits, IntKind.signed, Bool.false_and]
  simp; omega

theorem wu8 {x : Int} (h : 0 ≤ x) (h' : x < 256) : IntKind.u8.wrap x = x := by
  simp only [IntKind.wrap, IntKind.bits, IntKind.signed, Bool.false_and]
  simp; omega

theorem wu64m (x : Int) : IntKind.u64.wrap x = x % 18446744073709551616 := by
  simp only [IntKind.wrap, IntKind.bits, IntKind.signed, Bool.false_and]
  simp
theorem wu32m (x : Int) : IntKind.u32.wrap x = x % 4294967296 := by
  simp only [IntKind.wrap, IntKind.bits, IntKind.signed, Bool.false_and]
  simp
theorem wu8m (x : Int) : IntKind.u8.wrap x = x % 256 := by
  simp only [IntKind.wrap, IntKind.bits, IntKind.signed, Bool.false_and]
  simp

theorem i64_of_wf {n : Int} (h : (Lit.int .i64 n).wf = true) : -9223372036854775808 ≤ n ∧ n ≤ 9223372036854775807 := by
  simp [Lit.wf, IntKind.min, IntKind.max, IntKind.bits, IntKind.signed] at h; omega
theorem u64_of_wf {n : Int} (h : (Lit.int .u64 n).wf = true) : 0 ≤ n ∧ n < 18446744073709551616 := by
  simp [Lit.wf, IntKind.min, IntKind.max, IntKind.bits, IntKind.signed] at h; omega
theorem u8_of_wf {n : Int} (h : (Lit.int .u8 n).wf = true) : 0 ≤ n ∧ n < 256 := by
  simp [Lit.wf, IntKind.min, IntKind.max, IntKind.bits, IntKind.signed] at h; omega
theorem u32_of_wf {n : Int} (h : (Lit.int .u32 n).wf = true) : 0 ≤ n ∧ n < 4294967296 := by
  simp [Lit.wf, IntKind.min, IntKind.max, IntKind.bits, IntKind.signed] at h; omega

theorem or64 {A B : Nat} (hA : A < 2 ^ 64) (hB : B < 2 ^ 64) : ior .u64 (A : Int) (B : Int) = ((A ||| B : Nat) : Int) := by
  have h : (BitVec.ofInt 64 (A : Int) ||| BitVec.ofInt 64 (B : Int)).toNat = A ||| B := by
    simp [BitVec.toNat_or, BitVec.ofInt_natCast, BitVec.toNat_ofNat, Nat.mod_eq_of_lt hA, Nat.mod_eq_of_lt hB]
  have hl := Nat.or_lt_two_pow hA hB
  show IntKind.u64.wrap ((BitVec.ofInt 64 (A : Int) ||| BitVec.ofInt 64 (B : Int)).toNat : Int) = _
  rw [h, wu64 (by omega) (by omega)]
theorem and64 {A B : Nat} (hA : A < 2 ^ 64) (hB : B < 2 ^ 64) : iand .u64 (A : Int) (B : Int) = ((A &&& B : Nat) : Int) := by
  have h : (BitVec.ofInt 64 (A : Int) &&& BitVec.ofInt 64 (B : Int)).toNat = A &&& B := by
    simp [BitVec.toNat_and, BitVec.ofInt_natCast, BitVec.toNat_ofNat, Nat.mod_eq_of_lt hA, Nat.mod_eq_of_lt hB]
  have hl : A &&& B < 2 ^ 64 := Nat.and_lt_two_pow A hB
  show IntKind.u64.wrap ((BitVec.ofInt 64 (A : Int) &&& BitVec.ofInt 64 (B : Int)).toNat : Int) = _
  rw [h, wu64 (by omega) (by omega)]
theorem shl64 {i : Nat} (hi : i < 64) : ishl .u64 1 (i : Int) = ((2 ^ i : Nat) : Int) := by
  have h2 : (2 : Nat) ^ i < 2 ^ 64 := Nat.pow_lt_pow_right (by omega) hi
  have : (1 : Int) * 2 ^ (min i 64) = ((2 ^ i : Nat) : Int) := by
    rw [Nat.min_eq_left (by omega), Int.one_mul]; push_cast; rfl
  simp only [ishl, IntKind.bits, Int.toNat_natCast]
  rw [this, wu64 (Int.natCast_nonneg _) (Int.ofNat_lt.2 h2)]
theorem shr64 {A i : Nat} (hi : i < 64) : ishr .u64 (A : Int) (i : Int) = ((A >>> i : Nat) : Int) := by
  have : ((2 : Int) ^ i) = ((2 ^ i : Nat) : Int) := by push_cast; rfl
  simp only [ishr, IntKind.bits, Int.toNat_natCast]
  rw [Nat.min_eq_left (by omega), Int.fdiv_eq_ediv_of_nonneg _ (by rw [this]; exact Int.natCast_nonneg _), this, Nat.shiftRight_eq_div_pow]
  push_cast; rfl

/-- The number with given bits, below n. -/
def mk (f : Nat → Bool) : Nat → Nat
  | 0 => 0
  | n + 1 => if f n then mk f n ||| 2 ^ n else mk f n

theorem mk_lt (f : Nat → Bool) : ∀ n, mk f n < 2 ^ n
  | 0 => by simp [mk]
  | n + 1 => by
    have := mk_lt f n
    have h2 : (2 : Nat) ^ n < 2 ^ (n + 1) := Nat.pow_lt_pow_right (by omega) (by omega)
    simp only [mk]
    split
    · exact Nat.or_lt_two_pow (by omega) h2
    · omega

theorem mk_bit (f : Nat → Bool) : ∀ n j, (mk f n).testBit j = (decide (j < n) && f j)
  | 0, j => by simp [mk]
  | n + 1, j => by
    simp only [mk]
    split
    · rename_i h
      rw [Nat.testBit_or, mk_bit f n, Nat.testBit_two_pow]
      by_cases hj : j = n
      · subst hj; simp [h]
      · have h1 : decide (j < n) = decide (j < n + 1) := decide_eq_decide.2 (by omega)
        simp [Ne.symm hj, h1]
    · rename_i h
      rw [mk_bit f n]
      by_cases hj : j = n
      · subst hj; simp at h; simp [h]
      · have h1 : decide (j < n) = decide (j < n + 1) := decide_eq_decide.2 (by omega)
        rw [h1]

theorem mk_eq {A n : Nat} {f : Nat → Bool} (hA : A < 2 ^ n) (h : ∀ j, j < n → f j = A.testBit j) : mk f n = A := by
  apply Nat.eq_of_testBit_eq
  intro j
  rw [mk_bit]
  by_cases hj : j < n
  · simp [hj, h j hj]
  · simp [hj]
    exact Nat.testBit_lt_two_pow (Nat.lt_of_lt_of_le hA (Nat.pow_le_pow_right (by omega) (by omega)))

theorem bit_test {A i : Nat} : ((A >>> i &&& 1 : Nat) == 1) = A.testBit i := by
  simp [Nat.testBit, Nat.and_comm]

theorem natbeq {a b : Nat} : (((a : Int) == ((b : Nat) : Int)) : Bool) = (a == b) := by
  rw [Bool.eq_iff_iff]; simp; omega

theorem tdiv_nn {a b : Nat} : ((a : Int).tdiv (b : Int)) = ((a / b : Nat) : Int) := by
  rw [Int.tdiv_eq_ediv_of_nonneg (by omega)]; rfl
theorem tmod_nn {a b : Nat} : ((a : Int).tmod (b : Int)) = ((a % b : Nat) : Int) := by
  rw [Int.tmod_eq_emod_of_nonneg (by omega)]; rfl

theorem lbeq_refl (k : EK) (hr : ∀ x : k.den, k.beq x x = true) : ∀ l : List k.den, lbeq k l l = true
  | [] => rfl
  | x :: r => by simp [lbeq, hr x, lbeq_refl k hr r]
theorem lbeq_int (k : IntKind) (l : List Int) : lbeq (.int k) l l = true := lbeq_refl (.int k) (fun x => by simp [EK.beq]) l
theorem lbeq_int_iff (k : IntKind) : ∀ (l r : List Int), lbeq (.int k) l r = true ↔ l = r
  | [], [] => by simp [lbeq]
  | [], _ :: _ => by simp [lbeq]
  | _ :: _, [] => by simp [lbeq]
  | x :: l, y :: r => by simp [lbeq, EK.beq, lbeq_int_iff k l r]

theorem ct {α : Sort _} {p : Prop} [Decidable p] {a b : α} (h : p) : cond (decide p) a b = a := by simp [h]
theorem cf {α : Sort _} {p : Prop} [Decidable p] {a b : α} (h : ¬ p) : cond (decide p) a b = b := by simp [h]

end Go.Proofs.YtlgopekjjkdkiaaDoor.X
end

section
/- A disk: what each act of the program's and of the document's comes to, in one form (each function has one way out: gen.py moves the lists). -/
namespace Go.Proofs.YtlgopekjjkdkiaaDoor.X
open Go Go.Proofs.YtlgopekjjkdkiaaDoor.Ev
set_option linter.unusedSectionVars false
variable [FZ]
set_option linter.unusedVariables false
set_option linter.unusedSimpArgs false

abbrev WL := List (Int × ByteArray)

/-- What is so of a disk of n sectors, behind at most k acts. -/
structure DS (n k : Nat) (a c : Int) (l : List ByteArray) (w : WL) : Prop where
  n40 : n ≤ 2000
  k300 : k ≤ 300
  len : l.length = n
  wl : w.length ≤ k
  wb : ∀ p ∈ w, 0 ≤ p.1 ∧ p.1 < n
  ar : -1 ≤ a ∧ a ≤ 9223372036854775807
  cr : 0 ≤ c ∧ c ≤ k

theorem getD_of_drop {α : Type} {l r : List α} {i : Nat} {x d : α} (h : l.drop i = x :: r) : i < l.length ∧ l.getD (0 + (i : Int).toNat) d = x ∧ l.drop (i + 1) = r := by
  have h1 : i < l.length := by
    rcases Nat.lt_or_ge i l.length with h1 | h1
    · exact h1
    · rw [List.drop_eq_nil_of_le h1] at h; cases h
  rw [List.drop_eq_getElem_cons h1] at h
  injection h with h2 h3
  refine ⟨h1, ?_, h3⟩
  simp [h1, h2]

theorem getD_out {α : Type} {l : List α} {i : Nat} {d : α} (h : l.length ≤ i) : l.getD i d = d := by simp [List.getD_eq_getElem?_getD, List.getElem?_eq_none h]

theorem len_of_drop_nil {α : Type} {l : List α} {i : Nat} (h : l.drop i = []) (hi : i ≤ l.length) : i = l.length := by
  have := congrArg List.length h
  simp at this; omega

/-! ### A sector as it is flushed; as it was written last -/

def kp (x : Int) (l : List ByteArray) : ByteArray × Int := if 0 ≤ x ∧ x < (l.length : Int) then (l.getD x.toNat ByteArray.empty, 0) else (ByteArray.empty, 3)

theorem keptP {β : Type} {F : Nat} {x a c : Int} {b : Bool} {l : List ByteArray} {w : WL} {K : ByteArray → Int → Option β} : f47_1 F x a b c l w K = K (kp x l).1 (kp x l).2 := by
  rw [f47_1, f64_1, kp]
  by_cases h1 : 0 ≤ x
  · rw [ct (by omega)]
    by_cases h2 : x < (l.length : Int)
    · rw [if_pos ⟨h1, h2⟩, decide_eq_true h2, Bool.not_true, cond_false, ct ⟨h1, h2⟩, ct (by omega), Nat.zero_add]
    · rw [if_neg (by omega), decide_eq_false h2, Bool.not_false, cond_true]
  · rw [cf (by omega), if_neg (by omega), Bool.not_false, cond_true]

/-- What was written last to a sector, in place of s. -/
def last (x : Int) (s : ByteArray) (w : WL) : ByteArray := w.foldl (fun s p => if p.1 = x then p.2 else s) s

def rd (x : Int) (b : Bool) (l : List ByteArray) (w : WL) : ByteArray × Int :=
  if b then (ByteArray.empty, 5) else (if 0 ≤ x ∧ x < (l.length : Int) then last x (l.getD x.toNat ByteArray.empty) w else ByteArray.empty, (kp x l).2)

/-- The last write to a sector. -/
def lastW (x : Int) : WL → Option ByteArray
  | [] => none
  | p :: r => match lastW x r with
    | some s => some s
    | none => if p.1 = x then some p.2 else none

theorem last_eq (x : Int) : ∀ (w : WL) (s : ByteArray), last x s w = (match lastW x w with | some t => t | none => s)
  | [], s => rfl
  | p :: r, s => by
    rw [last, List.foldl_cons, ← last, last_eq x r, lastW]
    cases lastW x r with
    | some t => rfl
    | none =>
      by_cases hp : p.1 = x
      · simp [hp]
      · simp [hp]

theorem lastW_app (x : Int) (p : Int × ByteArray) : ∀ w : WL, lastW x (w ++ [p]) = if p.1 = x then some p.2 else lastW x w
  | [] => by simp [lastW]
  | q :: r => by
    rw [List.cons_append, lastW, lastW_app x p r, lastW]
    by_cases hp : p.1 = x
    · simp [hp]
    · simp [hp]

theorem readPl {β : Type} {F : Nat} {x a c z : Int} {b : Bool} {l : List ByteArray} {w : WL} {s : ByteArray} {K0 : ByteArray → Int → ByteArray → Option β} {K1 : Option β} (hw : w.length ≤ 300) : ∀ (i k : Nat), i ≤ w.length → i < k →
    f29_1_r2000006_l1 F a b c l w x s z K0 K1 k ((i : Int) - 1) = (match lastW x (w.take i) with | some t => K0 t x t | none => K1)
  | _, 0, _, h => by omega
  | 0, k + 1, _, _ => by
    rw [f29_1_r2000006_l1, cf (by omega)]; rfl
  | i + 1, k + 1, hi, hk => by
    have h1 : i < w.length := by omega
    have e1 : (((i + 1 : Nat) : Int) - 1) = (i : Int) := by omega
    rw [e1, f29_1_r2000006_l1, ct (by omega), ct (by omega), ct (by omega), w64 (by omega) (by omega), readPl hw i k (by omega) (by omega)]
    have hg : w.getD (0 + (i : Int).toNat) ((0, ByteArray.empty) : Int × ByteArray) = w[i] := by simp [h1]
    rw [hg, List.take_succ_eq_append_getElem h1, lastW_app]
    by_cases hp : w[i].1 = x
    · rw [if_pos hp, show (w[i].1 == x) = true from by simp [hp], cond_true, hp]
    · rw [if_neg hp, show (w[i].1 == x) = false from by simp [hp], cond_false]

theorem lastW_none {x : Int} : ∀ {w : WL}, (∀ p ∈ w, p.1 ≠ x) → lastW x w = none
  | [], _ => rfl
  | p :: r, h => by rw [lastW, lastW_none (fun q hq => h q (by simp [hq]))]; simp [h p (by simp)]

theorem readP {β : Type} {F n k : Nat} (hF : 400 ≤ F) {x a c : Int} {b : Bool} {l : List ByteArray} {w : WL} (h : DS n k a c l w) {K : ByteArray → Int → Option β} : f29_1 F x a b c l w K = K (rd x b l w).1 (rd x b l w).2 := by
  have hk := h.k300; have hwl := h.wl
  rw [f29_1]
  cases b with
  | true => rfl
  | false =>
    rw [cond_false, f46_1, f29_1_r2000006, w64 (by omega) (by omega), readPl (by omega) w.length F (Nat.le_refl _) (by omega), List.take_length, rd, if_neg (by simp)]
    by_cases hx : 0 ≤ x ∧ x < (l.length : Int)
    · rw [if_pos hx, last_eq]
      cases hq : lastW x w with
      | none => simp only [keptP]; rw [kp, if_pos hx]
      | some t => simp only [kp, if_pos hx]
    · rw [if_neg hx, lastW_none (fun p hp he => hx (by have := h.wb p hp; have := h.len; omega))]
      simp only [keptP]; rw [kp, if_neg hx]

/-! ### A write -/

def dec (a : Int) : Int := if a = -1 then a else a - 1

def wS (x : Int) (t : ByteArray) (a : Int) (b : Bool) (c : Int) (l : List ByteArray) (w : WL) : Int × Int × Bool × Int × WL :=
  if b then (5, a, b, c, w) else if ¬ (0 ≤ x ∧ x < (l.length : Int)) then (3, a, b, c, w) else if t.size ≠ 64 then (4, a, b, c, w) else if a = 0 then (5, -1, true, c, w) else (0, dec a, b, c + 1, w ++ [(x, t)])

theorem writeP {β : Type} {F n k : Nat} {x a c : Int} {t : ByteArray} {b : Bool} {l : List ByteArray} {w : WL} (h : DS n k a c l w) {K : Int → Int → Bool → Int → WL → Option β} :
    f48_1 F x t a b c l w K = K (wS x t a b c l w).1 (wS x t a b c l w).2.1 (wS x t a b c l w).2.2.1 (wS x t a b c l w).2.2.2.1 (wS x t a b c l w).2.2.2.2 := by
  have hk := h.k300; have hwl := h.wl; have ha := h.ar; have hc := h.cr
  rw [f48_1, wS]
  cases b with
  | true => rfl
  | false =>
    rw [cond_false, if_neg (by simp), f64_1, f65_1, f66_1]
    by_cases h1 : 0 ≤ x
    · rw [ct (by omega)]
      by_cases h2 : x < (l.length : Int)
      · rw [if_neg (by simp [h1, h2]), decide_eq_true h2, Bool.not_true, cond_false]
        by_cases h3 : t.size = 64
        · rw [if_neg (by simp [h3]), show ((t.size : Int) == 64) = true from by simp [h3], Bool.not_true, cond_false]
          by_cases h4 : a = 0
          · subst h4; rfl
          · rw [if_neg h4, show (a == 0) = false from by simp [h4], cond_false, dec]
            by_cases h5 : a = -1
            · rw [if_pos h5, show (a == -1) = true from by simp [h5], cond_true, cond_false, ct (by omega), w64 (by omega) (by omega)]
            · rw [if_neg h5, show (a == -1) = false from by simp [h5], cond_false, cond_false, ct (by omega), w64 (x := a - 1) (by omega) (by omega), w64 (by omega) (by omega)]
        · rw [if_pos (by simpa using h3), show ((t.size : Int) == 64) = false from by simp; omega]; rfl
      · rw [if_pos (by omega), decide_eq_false h2]; rfl
    · rw [cf (by omega), if_pos (by omega)]; rfl

/-! ### A flush -/

def put1 (l : List ByteArray) (p : Int × ByteArray) : List ByteArray := l.set p.1.toNat p.2
theorem put1_len (l : List ByteArray) (p : Int × ByteArray) : (put1 l p).length = l.length := by simp [put1]
theorem puts_len : ∀ (w : WL) (l : List ByteArray), (w.foldl put1 l).length = l.length
  | [], l => rfl
  | p :: r, l => by rw [List.foldl_cons, puts_len r, put1_len]

theorem flushPl {β : Type} {F n : Nat} {a c : Int} {b : Bool} {w : WL} {K : List ByteArray → Option β} (hw : w.length ≤ 300) (hb : ∀ p ∈ w, 0 ≤ p.1 ∧ p.1 < (n : Int)) : ∀ (r : WL) (i k : Nat) (l : List ByteArray), w.drop i = r → i ≤ w.length → r.length < k → l.length = n →
    f49_1_l6 F ((w.length : Nat) : Int) a b c w K k (i : Int) l = K (r.foldl put1 l)
  | [], i, 0, s, _, _, hk, _ => by simp at hk
  | _ :: _, i, 0, s, _, _, hk, _ => by simp at hk
  | [], i, k + 1, s, hd, hi, _, _ => by
    have := len_of_drop_nil hd hi
    rw [f49_1_l6, cf (by omega)]; rfl
  | p :: r, i, k + 1, l, hd, hi, hk, hl => by
    obtain ⟨h1, h2, h3⟩ := getD_of_drop (d := ((0, ByteArray.empty) : Int × ByteArray)) hd
    have hp := hb p (List.mem_of_mem_drop (by rw [hd]; simp))
    rw [f49_1_l6, ct (by omega), ct (by omega), ct (by omega), h2, ct (by omega), ct (by omega), w64 (by omega) (by omega), Nat.zero_add, List.foldl_cons]
    exact flushPl hw hb r (i + 1) k (put1 l p) h3 (by omega) (by simp at hk; omega) (by rw [put1_len]; exact hl)

def fS (a : Int) (b : Bool) (c : Int) (l : List ByteArray) (w : WL) : Int × Int × Bool × Int × List ByteArray × WL :=
  if b then (5, a, b, c, l, w) else if a = 0 then (5, -1, true, c, l, w) else (0, dec a, b, c + 1, w.foldl put1 l, [])

theorem flushP {β : Type} {F n k : Nat} (hF : 400 ≤ F) {a c : Int} {b : Bool} {l : List ByteArray} {w : WL} (h : DS n k a c l w) {K : Int → Int → Bool → Int → List ByteArray → WL → Option β} :
    f49_1 F a b c l w K = K (fS a b c l w).1 (fS a b c l w).2.1 (fS a b c l w).2.2.1 (fS a b c l w).2.2.2.1 (fS a b c l w).2.2.2.2.1 (fS a b c l w).2.2.2.2.2 := by
  have hk := h.k300; have hwl := h.wl; have ha := h.ar; have hc := h.cr
  rw [f49_1, fS, f66_1]
  cases b with
  | true => rfl
  | false =>
    rw [cond_false, if_neg (by simp)]
    by_cases h4 : a = 0
    · subst h4; rfl
    · rw [if_neg h4, show (a == 0) = false from by simp [h4], cond_false, dec]
      by_cases h5 : a = -1
      · rw [if_pos h5, show (a == -1) = true from by simp [h5], cond_true, Bool.not_true, cond_false, w64 (by omega) (by omega)]
        exact flushPl (by omega) h.wb w 0 F l rfl (by omega) (by omega) h.len
      · rw [if_neg h5, show (a == -1) = false from by simp [h5], cond_false, Bool.not_true, cond_false, w64 (x := a - 1) (by omega) (by omega), w64 (by omega) (by omega)]
        exact flushPl (by omega) h.wb w 0 F l rfl (by omega) (by omega) h.len

section
variable {n k : Nat} {a c : Int} {l : List ByteArray} {w : WL}
theorem DS.more (h : DS n k a c l w) (hk : k < 300) : DS n (k + 1) a c l w := ⟨h.n40, by omega, h.len, by have := h.wl; omega, h.wb, h.ar, by have := h.cr; omega⟩
theorem DS.off (h : DS n k a c l w) (hk : k < 300) : DS n (k + 1) (-1) c l w := ⟨h.n40, by omega, h.len, by have := h.wl; omega, h.wb, by omega, by have := h.cr; omega⟩
theorem DS.fuse (h : DS n k a c l w) (hk : k < 300) {x : Int} (hx : x ≤ 9223372036854775807) : DS n (k + 1) (if (-1) > x then (-1) else x) c l w := ⟨h.n40, by omega, h.len, by have := h.wl; omega, h.wb, by split <;> omega, by have := h.cr; omega⟩
theorem DS.wrote (h : DS n k a c l w) (hk : k < 300) (h0 : a ≠ 0) {x : Int} {t : ByteArray} (hx : 0 ≤ x ∧ x < (l.length : Int)) : DS n (k + 1) (dec a) (c + 1) l (w ++ [(x, t)]) :=
  ⟨h.n40, by omega, h.len, by have := h.wl; simp; omega, fun p hp => by
    rcases List.mem_append.1 hp with hp | hp
    · exact h.wb p hp
    · simp at hp; subst hp; rw [← h.len]; exact hx, by have := h.ar; unfold dec; split <;> omega, by have := h.cr; omega⟩
theorem DS.flushed (h : DS n k a c l w) (hk : k < 300) (h0 : a ≠ 0) : DS n (k + 1) (dec a) (c + 1) (w.foldl put1 l) [] :=
  ⟨h.n40, by omega, by rw [puts_len]; exact h.len, by simp, fun p hp => (by cases hp), by have := h.ar; unfold dec; split <;> omega, by have := h.cr; omega⟩
end

theorem wS_same {x a c : Int} {t : ByteArray} {b : Bool} {l : List ByteArray} {w : WL} (h : (wS x t a b c l w).1 ≠ 0) : (wS x t a b c l w).2.2.2.2 = w := by
  unfold wS at h ⊢
  split
  · rfl
  · split
    · rfl
    · split
      · rfl
      · split
        · rfl
        · rename_i h1 h2 h3 h4
          rw [if_neg h1, if_neg h2, if_neg h3, if_neg h4] at h
          exact (h rfl).elim

theorem wS_ok {n k : Nat} {x a c : Int} {t : ByteArray} {b : Bool} {l : List ByteArray} {w : WL} (h : DS n k a c l w) (hk : k < 300) : DS n (k + 1) (wS x t a b c l w).2.1 (wS x t a b c l w).2.2.2.1 l (wS x t a b c l w).2.2.2.2 := by
  unfold wS
  split
  · exact h.more hk
  · split
    · exact h.more hk
    · rename_i h2
      split
      · exact h.more hk
      · split
        · exact h.off hk
        · rename_i h4
          exact h.wrote hk h4 (Classical.not_not.1 h2)

theorem fS_same {a c : Int} {b : Bool} {l : List ByteArray} {w : WL} (h : (fS a b c l w).1 ≠ 0) : (fS a b c l w).1 = 5 ∧ (fS a b c l w).2.2.2.2.1 = l ∧ (fS a b c l w).2.2.2.2.2 = w := by
  unfold fS at h ⊢
  split
  · exact ⟨rfl, rfl, rfl⟩
  · split
    · exact ⟨rfl, rfl, rfl⟩
    · rename_i h1 h2
      rw [if_neg h1, if_neg h2] at h
      exact (h rfl).elim

theorem fS_ok {n k : Nat} {a c : Int} {b : Bool} {l : List ByteArray} {w : WL} (h : DS n k a c l w) (hk : k < 300) : DS n (k + 1) (fS a b c l w).2.1 (fS a b c l w).2.2.2.1 (fS a b c l w).2.2.2.2.1 (fS a b c l w).2.2.2.2.2 := by
  unfold fS
  split
  · exact h.more hk
  · split
    · exact h.off hk
    · rename_i h4
      exact h.flushed hk h4

end Go.Proofs.YtlgopekjjkdkiaaDoor.X
end

section
/- A disk: crashes; a write, then a flush. -/
namespace Go.Proofs.YtlgopekjjkdkiaaDoor.X
open Go Go.Proofs.YtlgopekjjkdkiaaDoor.Ev
set_option linter.unusedSectionVars false
variable [FZ]
set_option linter.unusedVariables false
set_option linter.unusedSimpArgs false

/-- A crash: the i-th write is kept where the i-th word says so. -/
def crB (ks : List Bool) : Nat → WL → List ByteArray → List ByteArray
  | _, [], l => l
  | i, p :: r, l => crB ks (i + 1) r (if ks.getD i false then put1 l p else l)

theorem crB_len (ks : List Bool) : ∀ (w : WL) (i : Nat) (l : List ByteArray), (crB ks i w l).length = l.length
  | [], _, l => rfl
  | p :: r, i, l => by
    rw [crB, crB_len ks r]
    split
    · exact put1_len l p
    · rfl

theorem crB_stop (ks : List Bool) : ∀ (w : WL) (i : Nat) (l : List ByteArray), ks.length ≤ i → crB ks i w l = l
  | [], _, l, _ => rfl
  | p :: r, i, l, h => by
    rw [crB, crB_stop ks r (i + 1) _ (by omega), getD_out h]; rfl

theorem crashPl {β : Type} {F n : Nat} {a c : Int} {b : Bool} {w : WL} {ks : List Bool} {K : List ByteArray → Option β} (hw : w.length ≤ 300) (hb : ∀ p ∈ w, 0 ≤ p.1 ∧ p.1 < (n : Int)) : ∀ (r : WL) (i k : Nat) (l : List ByteArray), w.drop i = r → i ≤ w.length → r.length < k → l.length = n →
    f11_1_l2 F ((w.length : Nat) : Int) a b c w ks K k (i : Int) l = K (crB ks i r l)
  | [], i, 0, s, _, _, hk, _ => by simp at hk
  | _ :: _, i, 0, s, _, _, hk, _ => by simp at hk
  | [], i, k + 1, s, hd, hi, _, _ => by
    have := len_of_drop_nil hd hi
    rw [f11_1_l2, cf (by omega)]; rfl
  | p :: r, i, k + 1, l, hd, hi, hk, hl => by
    obtain ⟨h1, h2, h3⟩ := getD_of_drop (d := ((0, ByteArray.empty) : Int × ByteArray)) hd
    have hp := hb p (List.mem_of_mem_drop (by rw [hd]; simp))
    have ih := fun l hl => crashPl (F := F) (a := a) (b := b) (c := c) (ks := ks) (K := K) hw hb r (i + 1) k l h3 (by omega) (by simp at hk; omega) hl
    push_cast at ih
    rw [f11_1_l2, ct (by omega), ct (by omega), ct (by omega), h2, w64 (by omega) (by omega), crB]
    by_cases hq : (i : Int) < ((ks.length : Nat) : Int)
    · have hg : ks.getD (0 + (i : Int).toNat) false = ks.getD i false := by rw [Nat.zero_add]; rfl
      rw [ct hq, ct (by omega), ct (by omega), hg]
      cases ks.getD i false with
      | false => rw [cond_false, ih l hl]; rfl
      | true => rw [cond_true, ct (by omega), ct (by omega), Nat.zero_add]; exact ih (put1 l p) (by rw [put1_len]; exact hl)
    · rw [cf hq, ih l hl, getD_out (by omega)]; rfl

theorem crashP {β : Type} {F n k : Nat} (hF : 400 ≤ F) {a c : Int} {b : Bool} {l : List ByteArray} {w : WL} (h : DS n k a c l w) {ks : List Bool} {K : List ByteArray → WL → Option β} :
    f11_1 F a b c l w ks K = K (crB ks 0 w l) [] := by
  have hk := h.k300; have hwl := h.wl
  rw [f11_1]
  exact crashPl (by omega) h.wb w 0 F l rfl (by omega) (by omega) h.len

section
variable {n k : Nat} {a c : Int} {l : List ByteArray} {w : WL}
theorem DS.crashed (h : DS n k a c l w) (hk : k < 300) (ks : List Bool) : DS n (k + 1) (-1) c (crB ks 0 w l) [] :=
  ⟨h.n40, by omega, by rw [crB_len]; exact h.len, by simp, fun p hp => (by cases hp), by omega, by have := h.cr; omega⟩
theorem DS.came (h : DS n k a c l w) (hk : k < 300) : DS n (k + 1) (-1) c l [] :=
  ⟨h.n40, by omega, h.len, by simp, fun p hp => (by cases hp), by omega, by have := h.cr; omega⟩

end

abbrev St := Int × Int × Bool × Int × List ByteArray × WL

/-- A write, then a flush; or why not. -/
def svS (x : Int) (t : ByteArray) (a : Int) (b : Bool) (c : Int) (l : List ByteArray) (w : WL) : St :=
  if (wS x t a b c l w).1 ≠ 0 then ((wS x t a b c l w).1, (wS x t a b c l w).2.1, (wS x t a b c l w).2.2.1, (wS x t a b c l w).2.2.2.1, l, (wS x t a b c l w).2.2.2.2)
  else fS (wS x t a b c l w).2.1 (wS x t a b c l w).2.2.1 (wS x t a b c l w).2.2.2.1 l (wS x t a b c l w).2.2.2.2

def app {β : Type} (K : Int → Int → Bool → Int → List ByteArray → WL → Option β) (s : St) : Option β := K s.1 s.2.1 s.2.2.1 s.2.2.2.1 s.2.2.2.2.1 s.2.2.2.2.2

theorem svS_ok {m k : Nat} {a d : Int} {b : Bool} {l : List ByteArray} {w : WL} {x : Int} {t : ByteArray} (h : DS m k a d l w) (hk : k < 299) : DS m (k + 2) (svS x t a b d l w).2.1 (svS x t a b d l w).2.2.2.1 (svS x t a b d l w).2.2.2.2.1 (svS x t a b d l w).2.2.2.2.2 := by
  have h1 := wS_ok (x := x) (t := t) (b := b) h (by omega)
  unfold svS
  by_cases q : (wS x t a b d l w).1 = 0
  · rw [if_neg (show ¬ (wS x t a b d l w).1 ≠ 0 from fun hh => hh q)]
    exact fS_ok h1 (by omega)
  · rw [if_pos (show (wS x t a b d l w).1 ≠ 0 from q)]
    exact h1.more (by omega)

theorem svS_P {β : Type} {m k : Nat} {a d : Int} {b : Bool} {l : List ByteArray} {w : WL} {x : Int} {t : ByteArray} (h : DS m k a d l w) (hk : k < 299) {K : Int → Int → Bool → Int → List ByteArray → WL → Option β} :
    f48_1 20000 x t a b d l w (fun e a b c w => cond (e != 0) (K e a b c l w) (f49_1 20000 a b c l w K)) = app K (svS x t a b d l w) := by
  rw [writeP h, svS]
  by_cases q : (wS x t a b d l w).1 = 0
  · rw [if_neg (fun hh => hh q), flushP (by omega) (wS_ok h (by omega)), q]; rfl
  · rw [if_pos q, show ((wS x t a b d l w).1 != 0) = true from by simp [q]]; rfl

end Go.Proofs.YtlgopekjjkdkiaaDoor.X
end

section
/- Records: sums, numbers as bytes; the code's and the document's, in one form. -/
namespace Go.Proofs.YtlgopekjjkdkiaaDoor.X
open Go Go.Proofs.YtlgopekjjkdkiaaDoor.Ev
set_option linter.unusedSectionVars false
variable [FZ]
set_option linter.unusedVariables false
set_option linter.unusedSimpArgs false

theorem x32 (x y : Int) : 0 ≤ ixor .u32 x y ∧ ixor .u32 x y < 4294967296 := by
  unfold ixor; rw [wu32m]; omega
theorem x8 (x y : Int) : 0 ≤ ixor .u8 x y ∧ ixor .u8 x y < 256 := by
  unfold ixor; rw [wu8m]; omega

theorem sh8 {n : Int} (h : 0 ≤ n ∧ n < 4294967296) : IntKind.u32.wrap (n.tdiv 256) = ishr .u32 n 8 := by
  have e : (2 : Int) ^ (min (8 : Int).toNat IntKind.u32.bits) = 256 := by decide
  rw [ishr, e, Int.fdiv_eq_ediv_of_nonneg _ (by omega), Int.tdiv_eq_ediv_of_nonneg h.1, wu32 (by omega) (by omega)]

/-- The table: each byte's step. -/
def eStep (x : Int) : Int := if (iand .u32 x 1) == 1 then ixor .u32 (ishr .u32 x 1) 2197175160 else ishr .u32 x 1
def ent (x : Int) : Int := eStep (eStep (eStep (eStep (eStep (eStep (eStep (eStep x)))))))
def tb : List Int := (List.range 256).map fun (i : Nat) => ent (i : Int)
theorem tb_len : tb.length = 256 := by simp [tb]

set_option maxRecDepth 100000 in
theorem tableP {β : Type} {K : List Int → Option β} : f80_1 20000 K = K tb := by kernel_rfl

def crcS : Int → List Int → Int
  | n, [] => n
  | n, c :: r => crcS (ixor .u32 (ishr .u32 n 8) (tb.getD (ixor .u8 (IntKind.u8.wrap n) c).toNat 0)) r
def crc (b : List Int) : Int := ixor .u32 4294967295 (crcS (ixor .u32 4294967295 0) b)

theorem atL {α : Type} {l r : List α} {x d : α} {i : Nat} (hd : l.drop i = x :: r) : i < l.length ∧ l.getD (0 + (i : Int).toNat) d = x ∧ l.drop (i + 1) = r := by
  have h1 : i < l.length := by
    rcases Nat.lt_or_ge i l.length with h1 | h1
    · exact h1
    · rw [List.drop_eq_nil_of_le h1] at hd; cases hd
  rw [List.drop_eq_getElem_cons h1] at hd
  injection hd with h2 h3
  refine ⟨h1, ?_, h3⟩
  simp [h1, h2]

theorem nilL {α : Type} {l : List α} {i : Nat} (h : l.drop i = []) (hi : i ≤ l.length) : i = l.length := by
  have := congrArg List.length h
  simp at this; omega

theorem crcPl {β : Type} {F : Nat} {b : List Int} {K : Int → Option β} (hb : b.length ≤ 100000) : ∀ (r : List Int) (i k : Nat) (n : Int), b.drop i = r → i ≤ b.length → r.length < k →
    f73_1_l4 F ((b.length : Nat) : Int) b tb K k n (i : Int) = K (crcS n r)
  | [], i, 0, _, _, _, hk => by simp at hk
  | _ :: _, i, 0, _, _, _, hk => by simp at hk
  | [], i, k + 1, n, hd, hi, _ => by
    have := nilL hd hi
    rw [f73_1_l4, cf (by omega)]; rfl
  | c :: r, i, k + 1, n, hd, hi, hk => by
    obtain ⟨h1, h2, h3⟩ := atL (d := (0 : Int)) hd
    have hx := x8 (IntKind.u8.wrap n) c
    rw [f73_1_l4, ct (by omega), ct (by omega), ct (by omega), h2, ct hx, ct (by rw [tb_len]; omega), w64 (by omega) (by omega), crcS]
    exact crcPl hb r (i + 1) k _ h3 (by omega) (by simp at hk; omega)

theorem crcP {β : Type} {b : List Int} {K : Int → Option β} (hb : b.length ≤ 10000) : f54_1 20000 b K = K (crc b) := by
  rw [f54_1, f73_1, tableP]
  exact crcPl (K := fun x7 => K (ixor .u32 4294967295 x7)) (by omega) b 0 20000 _ rfl (by omega) (by omega)

/-! ### Numbers as bytes -/

def b4 (n : Int) : List Int := [IntKind.u8.wrap (ishr .u64 n 24), IntKind.u8.wrap (ishr .u64 n 16), IntKind.u8.wrap (ishr .u64 n 8), IntKind.u8.wrap (ishr .u64 n 0)]
theorem put4 {β : Type} {n : Int} {K : List Int → Option β} : f55_1 20000 4 n [] K = K (b4 n) := by kernel_rfl
end Go.Proofs.YtlgopekjjkdkiaaDoor.X
end

section
/- Records: made, opened; the code's and the document's, in one form. -/
namespace Go.Proofs.YtlgopekjjkdkiaaDoor.X
open Go Go.Proofs.YtlgopekjjkdkiaaDoor.Ev
set_option linter.unusedSectionVars false
variable [FZ]
set_option linter.unusedVariables false
set_option linter.unusedSimpArgs false

/-! ### Bytes -/

abbrev D (s : ByteArray) : List UInt8 := s.data.toList

theorem extB {s t : ByteArray} (h : D s = D t) : s = t := by
  cases s; cases t
  congr
  exact Array.toList_inj.1 h

theorem D_app (s t : ByteArray) : D (s ++ t) = D s ++ D t := by simp [D]
theorem D_ext (s : ByteArray) (a b : Nat) : D (s.extract a b) = ((D s).drop a).take (b - a) := by
  simp only [D, ByteArray.data_extract, Array.toList_extract, List.extract_eq_take_drop]
theorem D_size (s : ByteArray) : s.size = (D s).length := Array.length_toList.symm
theorem D_ofInts (l : List Int) : D (ofInts l) = l.map fun n => UInt8.ofNat n.toNat := by simp [D, ofInts]
theorem toInts_D (s : ByteArray) : toInts s = (D s).map fun c => (c.toNat : Int) := rfl

theorem loopB (s : ByteArray) : ∀ (m i : Nat) (r : List UInt8), i + m = s.size → ByteArray.toList.loop s i r = r.reverse ++ (D s).drop i
  | 0, i, r, h => by
    rw [ByteArray.toList.loop, if_neg (by omega), List.drop_eq_nil_of_le (by rw [← D_size]; omega), List.append_nil]
  | m + 1, i, r, h => by
    have h1 : i < (D s).length := by rw [← D_size]; omega
    rw [ByteArray.toList.loop, if_pos (by omega), loopB s m (i + 1) _ (by omega), List.drop_eq_getElem_cons h1]
    have : s.get! i = (D s)[i] := by
      have h2 : i < s.data.size := by have := h1; simpa [D] using this
      simp only [ByteArray.get!, D, Array.getElem_toList]
      exact getElem!_pos s.data i h2
    rw [this]; simp

theorem toList_D (s : ByteArray) : s.toList = D s := by
  rw [ByteArray.toList, loopB s s.size 0 [] (by omega)]; rfl

theorem beqB {s t : ByteArray} : (s.toList == t.toList) = decide (s = t) := by
  rw [toList_D, toList_D, Bool.eq_iff_iff]
  simp only [beq_iff_eq, decide_eq_true_eq]
  exact ⟨extB, fun h => by rw [h]⟩

/-! ### A record -/

def front (k : Int) (b : ByteArray) : ByteArray := ⟨(UInt8.ofNat k.toNat :: UInt8.ofNat b.size :: (D b ++ List.replicate (58 - b.size) 0)).toArray⟩
def mkB (k : Int) (b : ByteArray) : ByteArray := front k b ++ ofInts (b4 (crc (toInts (front k b))))
def mkR (k : Int) (b : ByteArray) : ByteArray × Int := if k < 1 ∨ k > 8 then (ByteArray.empty, 22) else if b.size > 58 then (ByteArray.empty, 8) else (mkB k b, 0)

theorem front_D (k : Int) (b : ByteArray) : D (front k b) = UInt8.ofNat k.toNat :: UInt8.ofNat b.size :: (D b ++ List.replicate (58 - b.size) 0) := by simp [D, front]
theorem front_size {k : Int} {b : ByteArray} (h : b.size ≤ 58) : (front k b).size = 60 := by
  rw [D_size, front_D]; simp [← D_size]
  have := D_size b
  simp [D] at this
  omega

theorem crc_r (b : List Int) : 0 ≤ crc b ∧ crc b < 4294967296 := x32 _ _

theorem sumP {β : Type} {s : ByteArray} (h : 60 ≤ s.size) {K : ByteArray → Option β} : f53_1 20000 s K = K (ofInts (b4 (crc (toInts (s.extract 0 60))))) := by
  have hc := crc_r (toInts (s.extract 0 60))
  have hl : (toInts (s.extract 0 60)).length ≤ 60 := by
    rw [toInts_D, D_ext]; simp; omega
  rw [f53_1, ct (by omega), crcP (by omega), wu64 (by omega) (by omega), put4]

theorem ext_all {s : ByteArray} {n : Nat} (h : s.size = n) : s.extract 0 n = s := by
  apply extB
  rw [D_ext, List.drop_zero, List.take_of_length_le (by rw [← D_size]; omega)]

theorem rep0 (n : Nat) : D (rep ⟨#[0]⟩ n) = List.replicate n 0 := by
  show D ⟨(Lib.repeatL [0] n).toArray⟩ = _
  have : ∀ n, Lib.repeatL [(0 : UInt8)] n = List.replicate n 0 := fun n => by
    induction n with
    | zero => rfl
    | succ n ih => simp [Lib.repeatL, ih, List.replicate_succ]
  simp [D, this]

theorem u8n {n : Int} (h : 0 ≤ n ∧ n < 256) : IntKind.u8.wrap n = n := wu8 h.1 h.2

theorem shr0 {n : Int} (h : 0 ≤ n) : ishr .u64 n 0 = n := by
  have e : (2 : Int) ^ (min (0 : Int).toNat IntKind.u64.bits) = 1 := by decide
  rw [ishr, e, Int.fdiv_eq_ediv_of_nonneg _ (by omega), Int.ediv_one]

theorem makeP {β : Type} {k : Int} {b : ByteArray} (hb : b.size ≤ maxLen) {K : ByteArray → Int → Option β} : f32_1 20000 k b K = K (mkR k b).1 (mkR k b).2 := by
  rw [f32_1, mkR]
  by_cases h1 : k < 1
  · rw [ct h1, if_pos (.inl h1)]
  · by_cases h2 : k > 8
    · rw [cf h1, ct h2, if_pos (.inr h2)]
    · rw [cf h1, cf h2, if_neg (by omega)]
      by_cases h3 : b.size > 58
      · rw [ct (by omega), if_pos h3]
      · have hs2 : (ofInts [IntKind.u8.wrap k, IntKind.u8.wrap (b.size : Int)]).size = 2 := by rw [D_size, D_ofInts]; rfl
        have hs : (ofInts [IntKind.u8.wrap k, IntKind.u8.wrap (b.size : Int)] ++ b).size = 2 + b.size := by rw [D_size, D_app, List.length_append, ← D_size, ← D_size, hs2]
        rw [cf (by omega), if_neg h3, ct (by omega), f52_1, hs, w64 (by omega) (by omega), ct ⟨by omega, by omega, by
          have : (⟨#[0]⟩ : ByteArray).size = 1 := rfl
          rw [this]; omega⟩]
        have hf : ofInts [IntKind.u8.wrap k, IntKind.u8.wrap (b.size : Int)] ++ b ++ rep ⟨#[0]⟩ (60 - ((2 + b.size : Nat) : Int)).toNat = front k b := by
          apply extB
          rw [D_app, D_app, rep0, D_ofInts, front_D, u8n (by omega), u8n (by omega), show (60 - ((2 + b.size : Nat) : Int)).toNat = 58 - b.size by omega]
          simp
        have hfs := front_size (k := k) (b := b) (by omega)
        have hr : (rep ⟨#[0]⟩ (60 - ((2 + b.size : Nat) : Int)).toNat).size ≤ 60 := by rw [D_size, rep0]; simp; omega
        rw [ct (by omega), hf, sumP (by omega), ext_all hfs, ct (by
          rw [hfs, D_size, D_ofInts]; simp [b4])]
        rfl

noncomputable def Z64 : ByteArray := ofInts (List.replicate 64 0)
theorem zero64 {β : Type} {K : ByteArray → Option β} : f21_1 20000 K = K Z64 := by kernel_rfl
theorem Z64_D : D Z64 = List.replicate 64 0 := by rw [Z64, D_ofInts]; rfl

/-! ### What a sector is -/

def byt (s : ByteArray) (i : Nat) : Int := ((s.data.getD i 0).toNat : Int)
theorem byt_r (s : ByteArray) (i : Nat) : 0 ≤ byt s i ∧ byt s i < 256 := by
  have := (s.data.getD i 0).toNat_lt
  unfold byt; omega
def sm (s : ByteArray) : ByteArray := ofInts (b4 (crc (toInts (s.extract 0 60))))
def zer (s : ByteArray) (n : Nat) : Bool := (((D s).drop n).take (60 - n)).all (· == 0)
def kd (s : ByteArray) : Int × Int := if s.size ≠ 64 then (0, 4) else if ((sm s).toList == (s.extract 60 64).toList) = false then (0, 9) else
  if byt s 0 < 1 ∨ byt s 0 > 8 ∨ byt s 1 > 58 ∨ zer s (2 + (byt s 1).toNat) = false then (0, 6) else (byt s 0, 0)

theorem dropW_nil {p : UInt8 → Bool} : ∀ l : List UInt8, l.dropWhile p = [] ↔ l.all p = true
  | [] => by simp
  | x :: r => by
    rw [List.dropWhile_cons, List.all_cons]
    cases h : p x with
    | true => simpa using dropW_nil r
    | false => simp

theorem dropW_head {p : UInt8 → Bool} : ∀ (l : List UInt8) {y : UInt8} {r : List UInt8}, l.dropWhile p = y :: r → p y = false
  | [], y, r, h => by cases h
  | x :: l, y, r, h => by
    rw [List.dropWhile_cons] at h
    cases hx : p x with
    | true => rw [hx, if_pos rfl] at h; exact dropW_head l h
    | false => rw [hx, if_neg (by simp)] at h; injection h with h1 h2; rw [← h1]; exact hx

theorem trim_nil (l : List UInt8) : Lib.trimS l [0] = [] ↔ l.all (· == 0) = true := by
  have hp : ∀ x : UInt8, [(0 : UInt8)].contains x = (x == 0) := fun x => by rw [Bool.eq_iff_iff]; simp
  rw [Lib.trimS, Lib.trimLeftS, Lib.trimRightS, dropW_nil]
  constructor
  · intro h
    cases hq : l.reverse.dropWhile ([(0 : UInt8)].contains ·) with
    | nil =>
      have := (dropW_nil _).1 hq
      rw [List.all_reverse] at this
      simpa [hp] using this
    | cons y r =>
      have h1 := dropW_head _ hq
      rw [hq, List.all_reverse, List.all_cons, h1] at h
      cases h
  · intro h
    have : l.reverse.dropWhile ([(0 : UInt8)].contains ·) = [] := (dropW_nil _).2 (by rw [List.all_reverse]; simpa [hp] using h)
    rw [this]; rfl

theorem trm0 (x : ByteArray) : ((trm x ⟨#[0]⟩).toList == ByteArray.empty.toList) = (D x).all (· == 0) := by
  rw [beqB, Bool.eq_iff_iff, decide_eq_true_eq, ← trim_nil]
  constructor
  · intro h
    have : D (trm x ⟨#[0]⟩) = [] := by rw [h]; rfl
    simpa [D, trm] using this
  · intro h
    apply extB
    show D (trm x ⟨#[0]⟩) = []
    simpa [D, trm] using h

theorem kindP {β : Type} {s : ByteArray} {K : Int → Int → Option β} : f75_1 20000 s K = K (kd s).1 (kd s).2 := by
  rw [f75_1, f65_1, kd]
  by_cases h1 : s.size = 64
  · have b0 := byt_r s 0
    have b1 := byt_r s 1
    have e0 : ((s.data.getD 0 0).toNat : Int) = byt s 0 := rfl
    have e1 : ((s.data.getD 1 0).toNat : Int) = byt s 1 := rfl
    rw [show ((s.size : Int) == 64) = true by simp; omega, Bool.not_true, cond_false, if_neg (by omega), ct (by omega), sumP (by omega), show ((s.size : Int).toNat) = 64 by omega, e0, e1, w64 (x := byt s 0) (by omega) (by omega), w64 (x := byt s 1) (by omega) (by omega), ← sm]
    cases h2 : ((sm s).toList == (s.extract 60 64).toList) with
    | false => rfl
    | true =>
      rw [Bool.not_true, cond_false, if_neg (by simp), ct (by omega), ct (by omega)]
      by_cases h3 : byt s 0 < 1
      · rw [ct h3, if_pos (.inl h3)]
      · by_cases h4 : byt s 0 > 8
        · rw [cf h3, ct h4, if_pos (.inr (.inl h4))]
        · by_cases h5 : byt s 1 > 58
          · rw [cf h3, cf h4, ct h5, if_pos (.inr (.inr (.inl h5)))]
          · have hn : (2 + byt s 1).toNat = 2 + (byt s 1).toNat := by omega
            have hx : D (s.extract (2 + byt s 1).toNat 60) = ((D s).drop (2 + (byt s 1).toNat)).take (60 - (2 + (byt s 1).toNat)) := by rw [D_ext, hn]
            have hxs : (s.extract (2 + byt s 1).toNat 60).size ≤ 64 := by rw [D_size, hx]; simp; omega
            rw [cf h3, cf h4, cf h5, w64 (x := 2 + byt s 1) (by omega) (by omega), ct (by omega), f81_1, ct ⟨by omega, by decide, by decide⟩, trm0, hx, ← zer]
            cases h6 : zer s (2 + (byt s 1).toNat) with
            | true => rw [Bool.not_true, cond_false, if_neg (by simp; omega)]
            | false => rw [Bool.not_false, cond_true, if_pos (.inr (.inr (.inr rfl)))]
  · rw [show ((s.size : Int) == 64) = false by simp; omega, Bool.not_false, cond_true, if_pos h1]

theorem kd_size {s : ByteArray} (h : (kd s).2 = 0) : s.size = 64 ∧ byt s 1 ≤ 58 ∧ zer s (2 + (byt s 1).toNat) = true ∧ (kd s).1 = byt s 0 ∧ 1 ≤ byt s 0 ∧ byt s 0 ≤ 8 ∧ ((sm s).toList == (s.extract 60 64).toList) = true := by
  unfold kd at h ⊢
  split at h
  · cases h
  · rename_i h1
    split at h
    · cases h
    · rename_i h2
      split at h
      · cases h
      · rename_i h3
        rw [if_neg h1, if_neg h2, if_neg h3]
        refine ⟨by omega, by omega, ?_, rfl, by omega, by omega, by simpa using h2⟩
        cases hz : zer s (2 + (byt s 1).toNat) with
        | true => rfl
        | false => exact (h3 (.inr (.inr (.inr hz)))).elim

def opn (k : Int) (s : ByteArray) : ByteArray × Int := if (kd s).2 ≠ 0 then (ByteArray.empty, (kd s).2) else if (kd s).1 ≠ k then (ByteArray.empty, 22) else (s.extract 2 (2 + (byt s 1).toNat), 0)

theorem openP {β : Type} {k : Int} {s : ByteArray} {K : ByteArray → Int → Option β} : f56_1 20000 k s K = K (opn k s).1 (opn k s).2 := by
  rw [f56_1, kindP, opn]
  have e1 : ((s.data.getD 1 0).toNat : Int) = byt s 1 := rfl
  have b1 := byt_r s 1
  by_cases h1 : (kd s).2 = 0
  · obtain ⟨q1, q2, _⟩ := kd_size h1
    rw [h1, show ((0 : Int) != 0) = false from rfl, cond_false, if_neg (by simp), e1, w64 (x := byt s 1) (by omega) (by omega), w64 (x := 2 + byt s 1) (by omega) (by omega)]
    by_cases h2 : (kd s).1 = k
    · rw [h2, show (k != k) = false by simp, cond_false, if_neg (by simp), ct (by omega), ct (by omega), show (2 + byt s 1).toNat = 2 + (byt s 1).toNat by omega]
    · rw [show ((kd s).1 != k) = true by simp [h2], cond_true, if_pos h2]
  · rw [show ((kd s).2 != 0) = true by simp [h1], cond_true, if_pos h1]

end Go.Proofs.YtlgopekjjkdkiaaDoor.X
end

section
/- Records: what is made is opened again, and the other way round. -/
namespace Go.Proofs.YtlgopekjjkdkiaaDoor.X
open Go Go.Proofs.YtlgopekjjkdkiaaDoor.Ev
set_option linter.unusedSectionVars false
variable [FZ]
set_option linter.unusedVariables false
set_option linter.unusedSimpArgs false

theorem mkB_D (k : Int) (b : ByteArray) : D (mkB k b) = UInt8.ofNat k.toNat :: UInt8.ofNat b.size :: (D b ++ (List.replicate (58 - b.size) 0 ++ D (ofInts (b4 (crc (toInts (front k b))))))) := by
  rw [mkB, D_app, front_D]; simp

theorem b4_size (n : Int) : (ofInts (b4 n)).size = 4 := by rw [D_size, D_ofInts]; rfl

theorem mkB_size {k : Int} {b : ByteArray} (h : b.size ≤ 58) : (mkB k b).size = 64 := by
  have hf := front_size (k := k) h
  have hc := b4_size (crc (toInts (front k b)))
  rw [D_size] at hf hc
  rw [D_size, mkB, D_app, List.length_append, hf, hc]

theorem mkB_front {k : Int} {b : ByteArray} (h : b.size ≤ 58) : (mkB k b).extract 0 60 = front k b := by
  have hf := front_size (k := k) h
  rw [D_size] at hf
  apply extB
  rw [D_ext, mkB, D_app, List.drop_zero, List.take_append_of_le_length (by omega), List.take_of_length_le (by omega)]

theorem mkB_sum {k : Int} {b : ByteArray} (h : b.size ≤ 58) : (mkB k b).extract 60 64 = sm (mkB k b) := by
  have hf := front_size (k := k) h
  have hc := b4_size (crc (toInts (front k b)))
  rw [D_size] at hf hc
  rw [sm, mkB_front h]
  apply extB
  rw [D_ext, mkB, D_app, List.drop_append_of_le_length (by omega), List.drop_eq_nil_of_le (by omega), List.nil_append, List.take_of_length_le (by omega)]

theorem getD_D (s : ByteArray) (i : Nat) : s.data.getD i 0 = (D s).getD i 0 := by simp [D]

theorem mkB_b0 {k : Int} {b : ByteArray} (h1 : 1 ≤ k) (h2 : k ≤ 8) : byt (mkB k b) 0 = k := by
  rw [byt, getD_D, mkB_D]
  show ((UInt8.ofNat k.toNat).toNat : Int) = k
  rw [UInt8.toNat_ofNat']; omega

theorem mkB_b1 {k : Int} {b : ByteArray} (h : b.size ≤ 58) : byt (mkB k b) 1 = (b.size : Int) := by
  rw [byt, getD_D, mkB_D]
  show ((UInt8.ofNat b.size).toNat : Int) = b.size
  rw [UInt8.toNat_ofNat']; omega

theorem mkB_drop {k : Int} {b : ByteArray} : (D (mkB k b)).drop (2 + b.size) = List.replicate (58 - b.size) 0 ++ D (ofInts (b4 (crc (toInts (front k b))))) := by
  have h := D_size b
  rw [mkB_D, show 2 + b.size = b.size + 1 + 1 by omega, List.drop_succ_cons, List.drop_succ_cons, List.drop_append_of_le_length (by omega), List.drop_eq_nil_of_le (by omega), List.nil_append]

theorem mkB_kd {k : Int} {b : ByteArray} (h1 : 1 ≤ k) (h2 : k ≤ 8) (h : b.size ≤ 58) : kd (mkB k b) = (k, 0) := by
  rw [kd, mkB_size h, if_neg (by omega), mkB_sum h, if_neg (by simp), mkB_b0 h1 h2, mkB_b1 h, if_neg]
  rw [show (2 + ((b.size : Nat) : Int).toNat) = 2 + b.size by omega, zer, mkB_drop, List.take_append_of_le_length (by simp; omega), List.take_of_length_le (by simp; omega)]
  simp; omega

theorem mkB_open {k : Int} {b : ByteArray} (h1 : 1 ≤ k) (h2 : k ≤ 8) (h : b.size ≤ 58) : opn k (mkB k b) = (b, 0) := by
  have hs := D_size b
  rw [opn, mkB_kd h1 h2 h, if_neg (by simp), if_neg (by simp), mkB_b1 h, show (2 + ((b.size : Nat) : Int).toNat) = 2 + b.size by omega]
  congr 1
  apply extB
  rw [D_ext, mkB_D, show (2 : Nat) = 1 + 1 from rfl, List.drop_succ_cons, List.drop_succ_cons, List.drop_zero, show 1 + 1 + b.size - (1 + 1) = b.size by omega, List.take_append_of_le_length (by omega), List.take_of_length_le (by omega)]

theorem all0 : ∀ (l : List UInt8), l.all (· == 0) = true → l = List.replicate l.length 0
  | [], _ => rfl
  | x :: r, h => by
    rw [List.all_cons, Bool.and_eq_true, beq_iff_eq] at h
    rw [List.length_cons, List.replicate_succ, ← all0 r h.2, h.1]

theorem opn_mk {k : Int} {s b : ByteArray} (h : opn k s = (b, 0)) : mkR k b = (s, 0) := by
  unfold opn at h
  split at h
  · rename_i h1
    injection h with _ h2
    exact (h1 h2).elim
  · rename_i h1
    split at h
    · injection h with _ h2; cases h2
    · rename_i h2
      injection h with h3 _
      have h1' : (kd s).2 = 0 := Classical.not_not.1 h1
      obtain ⟨q1, q2, q3, q4, q5, q6, q7⟩ := kd_size h1'
      have hk : byt s 0 = k := q4.symm.trans (Classical.not_not.1 h2)
      have hsz : (D s).length = 64 := by rw [← D_size]; exact q1
      have hb1 := byt_r s 1
      have hDb : D b = ((D s).drop 2).take (byt s 1).toNat := by rw [← h3, D_ext]; congr 1; omega
      have hbs : b.size = (byt s 1).toNat := by rw [D_size, hDb]; simp; omega
      have hmem : ∀ i, i < 64 → ∃ x, (D s)[i]? = some x := fun i hi => ⟨_, List.getElem?_eq_getElem (by omega)⟩
      have hf : front k b = s.extract 0 60 := by
        apply extB
        rw [front_D, D_ext, List.drop_zero, hbs, hDb, ← hk, byt, getD_D, byt, getD_D]
        rw [byt, getD_D] at q3 q2 hb1
        generalize hn : (((D s).getD 1 0).toNat : Int) = n at q3 q2 hb1
        match hq : D s, hsz with
        | x :: y :: r, hsz =>
          rw [hq] at hn
          have hx : UInt8.ofNat ((((x :: y :: r).getD 0 0).toNat : Int).toNat) = x := by simp
          have hy : UInt8.ofNat n.toNat = y := by rw [← hn]; simp
          rw [hx, hy]
          rw [zer, hq] at q3
          have hz := all0 _ q3
          rw [show 2 + n.toNat = n.toNat + 1 + 1 by omega, List.drop_succ_cons, List.drop_succ_cons] at hz
          simp only [List.length_cons] at hsz
          have hlen : (List.take (60 - (n.toNat + 1 + 1)) (List.drop n.toNat r)).length = 58 - n.toNat := by simp; omega
          rw [hlen] at hz
          rw [← hz, show (2 : Nat) = 1 + 1 from rfl, List.drop_succ_cons, List.drop_succ_cons, List.drop_zero, show 60 - 0 = 58 + 1 + 1 from rfl, List.take_succ_cons, List.take_succ_cons, show 60 - (n.toNat + 1 + 1) = 58 - n.toNat by omega]
          congr 2
          have := List.take_append_drop n.toNat (r.take 58)
          rw [List.take_take, List.drop_take, Nat.min_eq_left (by omega)] at this
          exact this
      rw [mkR, if_neg (by omega), if_neg (by omega)]
      congr 1
      have q8 : sm s = s.extract 60 64 := by
        rw [beqB] at q7; exact of_decide_eq_true q7
      rw [mkB, hf, ← sm, q8]
      apply extB
      rw [D_app, D_ext, D_ext, List.drop_zero, show 64 - 60 = 4 from rfl, List.take_of_length_le (l := (D s).drop 60) (by simp; omega)]
      exact List.take_append_drop 60 (D s)

end Go.Proofs.YtlgopekjjkdkiaaDoor.X
end

section
/- Numbers read from bytes; the code's and the document's, in one form. -/
namespace Go.Proofs.YtlgopekjjkdkiaaDoor.X
open Go Go.Proofs.YtlgopekjjkdkiaaDoor.Ev
set_option linter.unusedSectionVars false
variable [FZ]
set_option linter.unusedVariables false
set_option linter.unusedSimpArgs false

def num (v : Int) (l : List Int) : Int := l.foldl (fun v b => v * 256 + b) v

theorem shlor {v b : Int} (hv : 0 ≤ v ∧ v < 72057594037927936) (hb : 0 ≤ b ∧ b < 256) : ior .u64 (ishl .u64 v 8) b = v * 256 + b := by
  obtain ⟨V, rfl⟩ : ∃ V : Nat, v = (V : Int) := ⟨v.toNat, by omega⟩
  obtain ⟨B, rfl⟩ : ∃ B : Nat, b = (B : Int) := ⟨b.toNat, by omega⟩
  have e : (2 : Int) ^ (min (8 : Int).toNat IntKind.u64.bits) = 256 := by decide
  have e1 : ishl .u64 (V : Int) 8 = ((V * 256 : Nat) : Int) := by
    rw [ishl, e, wu64 (by omega) (by omega)]; omega
  rw [e1, or64 (by omega) (by omega)]
  have := Nat.two_pow_add_eq_or_of_lt (i := 8) (b := B) (by omega) V
  have h2 : 2 ^ 8 * V = V * 256 := by omega
  rw [h2] at this
  rw [← this]; omega

theorem getPl {β : Type} {F at_ w : Nat} {l : List Int} {K : Int → Option β} (hw : w ≤ 8) (hl : at_ + w ≤ l.length) (hb : ∀ x ∈ l, 0 ≤ x ∧ x < 256) : ∀ (m i k : Nat) (v : Int), m + i = w → m < k → 0 ≤ v ∧ v < 256 ^ i →
    f76_1_l7 F at_ w (w : Int) l K k v (i : Int) = K (num v ((l.drop (at_ + i)).take m))
  | _, _, 0, _, _, h, _ => by omega
  | 0, i, k + 1, v, hi, _, _ => by rw [f76_1_l7, cf (by omega)]; rfl
  | m + 1, i, k + 1, v, hi, hk, hv => by
    have h1 : at_ + i < l.length := by omega
    have hx := hb _ (List.getElem_mem h1)
    have hg : l.getD (at_ + (i : Int).toNat) 0 = l[at_ + i] := by simp [h1]
    have hp : (256 : Int) ^ i ≤ 256 ^ 7 := by
      have : (256 : Nat) ^ i ≤ 256 ^ 7 := Nat.pow_le_pow_right (by decide) (by omega)
      have h := Int.ofNat_le.2 this
      rw [Int.natCast_pow, Int.natCast_pow] at h
      exact h
    have hv2 : v * 256 + l[at_ + i] < 256 ^ (i + 1) := by rw [Int.pow_succ]; omega
    rw [f76_1_l7, ct (by omega), ct (by omega), ct (by omega), hg, wu64 (by omega) (by omega), shlor ⟨hv.1, by omega⟩ hx, w64 (by omega) (by omega), List.drop_eq_getElem_cons h1, List.take_succ_cons, num, List.foldl_cons, ← num]
    exact getPl hw hl hb m (i + 1) k _ (by omega) (by omega) ⟨by omega, hv2⟩

/-- A number of w bytes from a place on, or that there are not so many. -/
def gt (at_ w : Nat) (l : List Int) : Int × Int := if at_ + w ≤ l.length then (num 0 ((l.drop at_).take w), 0) else (0, 7)

theorem getP {β : Type} {at_ w : Nat} {l : List Int} {K : Int → Int → Option β} (h1 : 1 ≤ w) (hw : w ≤ 8) (hat : at_ ≤ 100000) (hll : l.length ≤ 100000) (hb : ∀ x ∈ l, 0 ≤ x ∧ x < 256) : f76_1 20000 (at_ : Int) (w : Int) l K = K (gt at_ w l).1 (gt at_ w l).2 := by
  rw [f76_1, f74_1, ct (by omega), decide_eq_true (show (w : Int) ≤ 8 by omega), Bool.not_true, cond_false, cf (by omega), gt]
  by_cases h2 : (at_ : Int) > ((l.length : Nat) : Int)
  · rw [ct h2, if_neg (by omega)]
  · rw [cf h2, w64 (by omega) (by omega)]
    by_cases h3 : ((l.length : Nat) : Int) - (at_ : Int) < (w : Int)
    · rw [ct h3, if_neg (by omega)]
    · rw [cf h3, w64 (by omega) (by omega), ct (by omega), if_pos (by omega), show ((at_ : Int) + (w : Int) - (at_ : Int)).toNat = w by omega, show 0 + ((at_ : Int)).toNat = at_ by omega]
      exact getPl (K := fun x8 => K x8 0) hw (by omega) hb w 0 20000 0 (by omega) (by omega) (by simp)

end Go.Proofs.YtlgopekjjkdkiaaDoor.X
end

section
/- Numbers of eight bytes; reading them. -/
namespace Go.Proofs.YtlgopekjjkdkiaaDoor.X
open Go Go.Proofs.YtlgopekjjkdkiaaDoor.Ev
set_option linter.unusedSectionVars false
variable [FZ]
set_option linter.unusedVariables false
set_option linter.unusedSimpArgs false

theorem bnf {a b : Int} (h : a = b) : (a != b) = false := by simp [h]
theorem bnt {a b : Int} (h : a ≠ b) : (a != b) = true := by simp [h]

/-! ### Numbers of eight bytes -/

def b8 (n : Int) : List Int := [IntKind.u8.wrap (ishr .u64 n 56), IntKind.u8.wrap (ishr .u64 n 48), IntKind.u8.wrap (ishr .u64 n 40), IntKind.u8.wrap (ishr .u64 n 32), IntKind.u8.wrap (ishr .u64 n 24), IntKind.u8.wrap (ishr .u64 n 16), IntKind.u8.wrap (ishr .u64 n 8), IntKind.u8.wrap (ishr .u64 n 0)]
theorem put8 {β : Type} {n : Int} {K : List Int → Option β} : f55_1 20000 8 n [] K = K (b8 n) := by kernel_rfl
theorem b8_r (n : Int) : ∀ x ∈ b8 n, 0 ≤ x ∧ x < 256 := by
  intro x hx
  simp only [b8, List.mem_cons, List.not_mem_nil, or_false] at hx
  rcases hx with rfl | rfl | rfl | rfl | rfl | rfl | rfl | rfl <;> (rw [wu8m]; omega)

theorem shrN {n : Int} (h : 0 ≤ n) : ishr .u64 n 56 = n / 72057594037927936 ∧ ishr .u64 n 48 = n / 281474976710656 ∧ ishr .u64 n 40 = n / 1099511627776 ∧ ishr .u64 n 32 = n / 4294967296 ∧ ishr .u64 n 24 = n / 16777216 ∧ ishr .u64 n 16 = n / 65536 ∧ ishr .u64 n 8 = n / 256 ∧ ishr .u64 n 0 = n := by
  have e : ∀ (s : Int) (d : Int), (2 : Int) ^ (min s.toNat IntKind.u64.bits) = d → 0 < d → ishr .u64 n s = n / d := fun s d h1 h2 => by
    rw [ishr, h1, Int.fdiv_eq_ediv_of_nonneg _ (by omega)]
  refine ⟨e 56 _ (by decide) (by decide), e 48 _ (by decide) (by decide), e 40 _ (by decide) (by decide), e 32 _ (by decide) (by decide), e 24 _ (by decide) (by decide), e 16 _ (by decide) (by decide), e 8 _ (by decide) (by decide), ?_⟩
  rw [e 0 1 (by decide) (by decide)]; omega

theorem num8 {n : Int} (h : 0 ≤ n ∧ n < 18446744073709551616) : num 0 (b8 n) = n := by
  obtain ⟨e1, e2, e3, e4, e5, e6, e7, e8⟩ := shrN h.1
  simp only [num, b8, List.foldl_cons, List.foldl_nil, wu8m, e1, e2, e3, e4, e5, e6, e7, e8]
  omega

theorem toInts_ofInts {l : List Int} (h : ∀ x ∈ l, 0 ≤ x ∧ x < 256) : toInts (ofInts l) = l := by
  rw [toInts_D, D_ofInts, List.map_map]
  conv => rhs; rw [← List.map_id l]
  apply List.map_congr_left
  intro x hx
  have := h x hx
  simp only [Function.comp, id, UInt8.toNat_ofNat']
  omega

theorem toInts_r (s : ByteArray) : ∀ x ∈ toInts s, 0 ≤ x ∧ x < 256 := by
  intro x hx
  rw [toInts_D] at hx
  obtain ⟨c, _, rfl⟩ := List.mem_map.1 hx
  have := c.toNat_lt
  omega

theorem b8_size (n : Int) : (ofInts (b8 n)).size = 8 := by rw [D_size, D_ofInts]; rfl
theorem app_size (s t : ByteArray) : (s ++ t).size = s.size + t.size := by rw [D_size, D_app, List.length_append, ← D_size, ← D_size]
theorem toInts_size (s : ByteArray) : (toInts s).length = s.size := by rw [toInts_D, List.length_map, ← D_size]

/-- The next number of a reader: what it is, why there is none, what is left. -/
def nm (w : Nat) (e : Int) (l : List Int) : Int × Int × List Int := if e ≠ 0 then (0, e, l) else if w ≤ l.length then (num 0 (l.take w), 0, l.drop w) else (0, 7, l)

theorem numC {β : Type} {w : Nat} {e : Int} {l : List Int} {K : Int → Int → List Int → Option β} (h1 : 1 ≤ w) (hw : w ≤ 8) (hll : l.length ≤ 100000) (hb : ∀ x ∈ l, 0 ≤ x ∧ x < 256) :
    f58_1 20000 (w : Int) e l K = K (nm w e l).1 (nm w e l).2.1 (nm w e l).2.2 := by
  have hg := fun K => getP (β := β) (at_ := 0) (w := w) (l := l) (K := K) h1 hw (by omega) hll hb
  rw [f58_1, nm]
  by_cases he : e = 0
  · subst he
    rw [show ((0 : Int) != 0) = false from rfl, cond_false, if_neg (by simp)]
    refine (hg _).trans ?_
    rw [gt]
    by_cases h2 : w ≤ l.length
    · rw [if_pos (by omega), if_pos h2, List.drop_zero]
      show cond ((0 : Int) != 0) _ _ = _
      rw [bnf rfl, cond_false, ct ⟨by omega, by omega, by omega⟩, show 0 + (w : Int).toNat = w by omega, List.take_of_length_le (l := l.drop w) (by simp)]
    · rw [if_neg (by omega), if_neg h2]
      rfl
  · rw [bnt he, cond_true, if_pos he]

theorem opn_size (k : Int) (s : ByteArray) : (opn k s).1.size ≤ 58 := by
  unfold opn
  split
  · show ByteArray.empty.size ≤ 58; decide
  · rename_i h1
    split
    · show ByteArray.empty.size ≤ 58; decide
    · obtain ⟨q1, q2, _⟩ := kd_size (Classical.not_not.1 h1)
      have := byt_r s 1
      show (s.extract 2 (2 + (byt s 1).toNat)).size ≤ 58
      rw [D_size, D_ext]; simp; omega

theorem big60 : 60 ≤ maxLen := by decide

theorem cond_ff' {α : Sort _} {a b : α} : cond (!true) a b = b := rfl
theorem Z64_b0 : byt Z64 0 = 0 := by rw [byt, getD_D, Z64_D]; rfl

theorem opn_zero (k : Int) : (opn k Z64).2 ≠ 0 := by
  unfold opn
  split
  · assumption
  · rename_i h
    obtain ⟨_, _, _, _, q5, _⟩ := kd_size (Classical.not_not.1 h)
    rw [Z64_b0] at q5; omega

end Go.Proofs.YtlgopekjjkdkiaaDoor.X
end

section
/- Numbers as bytes and back: what bytes tell of them. -/
namespace Go.Proofs.YtlgopekjjkdkiaaDoor.X
open Go Go.Proofs.YtlgopekjjkdkiaaDoor.Ev
set_option linter.unusedSectionVars false
variable [FZ]
set_option linter.unusedVariables false
set_option linter.unusedSimpArgs false

abbrev U64 (n : Int) : Prop := 0 ≤ n ∧ n < 18446744073709551616
abbrev U32 (n : Int) : Prop := 0 ≤ n ∧ n < 4294967296
abbrev byts (l : List Int) : Prop := ∀ x ∈ l, 0 ≤ x ∧ x < 256

theorem tiA (s t : ByteArray) : toInts (s ++ t) = toInts s ++ toInts t := by rw [toInts_D, toInts_D, toInts_D, D_app, List.map_append]
theorem oiA (l r : List Int) : ofInts (l ++ r) = ofInts l ++ ofInts r := by
  apply extB
  rw [D_app, D_ofInts, D_ofInts, D_ofInts, List.map_append]
theorem oi_size (l : List Int) : (ofInts l).size = l.length := by rw [D_size, D_ofInts, List.length_map]
theorem app_r {l r : List Int} (hl : byts l) (hr : byts r) : byts (l ++ r) := fun x hx => by
  rcases List.mem_append.1 hx with hx | hx
  · exact hl x hx
  · exact hr x hx
theorem drop_r {l : List Int} (k : Nat) (h : byts l) : byts (l.drop k) := fun x hx => h x (List.mem_of_mem_drop hx)
theorem take_r {l : List Int} (k : Nat) (h : byts l) : byts (l.take k) := fun x hx => h x (List.mem_of_mem_take hx)
theorem b4_r (n : Int) : byts (b4 n) := by
  intro x hx
  simp only [b4, List.mem_cons, List.not_mem_nil, or_false] at hx
  rcases hx with rfl | rfl | rfl | rfl <;> (rw [wu8m]; omega)
theorem num_b4 {n : Int} (h : U32 n) : num 0 (b4 n) = n := by
  obtain ⟨_, _, _, _, e5, e6, e7, e8⟩ := shrN h.1
  simp only [num, b4, List.foldl_cons, List.foldl_nil, wu8m, e5, e6, e7, e8]; omega
theorem toInts_ext (s : ByteArray) (i j : Nat) : toInts (s.extract i j) = ((toInts s).drop i).take (j - i) := by
  rw [toInts_D, D_ext, toInts_D, List.map_take, List.map_drop]

theorem ofInts_toInts (s : ByteArray) : ofInts (toInts s) = s := by
  apply extB
  rw [D_ofInts, toInts_D, List.map_map]
  conv => rhs; rw [← List.map_id (D s)]
  apply List.map_congr_left
  intro c _
  simp [Function.comp]

theorem num4_inv {l : List Int} (h : l.length = 4) (hb : byts l) : b4 (num 0 l) = l ∧ U32 (num 0 l) := by
  match l, h with
  | [w, x, y, z], _ =>
    have hw := hb w (by simp)
    have hx := hb x (by simp)
    have hy := hb y (by simp)
    have hz := hb z (by simp)
    have e : num 0 [w, x, y, z] = ((w * 256 + x) * 256 + y) * 256 + z := by simp [num]
    rw [e]
    have hr : U32 (((w * 256 + x) * 256 + y) * 256 + z) := by omega
    obtain ⟨_, _, _, _, e5, e6, e7, e8⟩ := shrN hr.1
    refine ⟨?_, hr⟩
    simp only [b4, e5, e6, e7, e8, wu8m]
    congr 1
    · omega
    · congr 1
      · omega
      · congr 1
        · omega
        · congr 1; omega

theorem num8_inv {l : List Int} (h : l.length = 8) (hb : byts l) : b8 (num 0 l) = l ∧ U64 (num 0 l) := by
  match l, h with
  | [a, b, c, d, w, x, y, z], _ =>
    have ha := hb a (by simp)
    have hb' := hb b (by simp)
    have hc := hb c (by simp)
    have hd := hb d (by simp)
    have hw := hb w (by simp)
    have hx := hb x (by simp)
    have hy := hb y (by simp)
    have hz := hb z (by simp)
    obtain ⟨n, hn⟩ : ∃ n, n = num 0 [a, b, c, d, w, x, y, z] := ⟨_, rfl⟩
    have e : n = a * 72057594037927936 + b * 281474976710656 + c * 1099511627776 + d * 4294967296 + w * 16777216 + x * 65536 + y * 256 + z := by
      rw [hn]; simp only [num, List.foldl_cons, List.foldl_nil]; omega
    rw [← hn]
    clear hn
    have hr : U64 n := by omega
    obtain ⟨e1, e2, e3, e4, e5, e6, e7, e8⟩ := shrN hr.1
    have f1 : n / 72057594037927936 % 256 = a := by omega
    have f2 : n / 281474976710656 % 256 = b := by omega
    have f3 : n / 1099511627776 % 256 = c := by omega
    have f4 : n / 4294967296 % 256 = d := by omega
    have f5 : n / 16777216 % 256 = w := by omega
    have f6 : n / 65536 % 256 = x := by omega
    have f7 : n / 256 % 256 = y := by omega
    have f8 : n % 256 = z := by omega
    refine ⟨?_, hr⟩
    simp only [b8, e1, e2, e3, e4, e5, e6, e7, e8, wu8m, f1, f2, f3, f4, f5, f6, f7, f8]

/-- Four bytes are a number's, or eight. -/
theorem is4 {s : ByteArray} {k : Int} (hs : s.size = 4) (hk : U32 k) : s = ofInts (b4 k) ↔ num 0 (toInts s) = k := by
  constructor
  · rintro rfl
    rw [toInts_ofInts (b4_r k), num_b4 hk]
  · intro h
    have := (num4_inv (l := toInts s) (by rw [toInts_size]; exact hs) (toInts_r s)).1
    rw [h] at this
    rw [this, ofInts_toInts]
theorem is8 {s : ByteArray} {k : Int} (hs : s.size = 8) (hk : U64 k) : s = ofInts (b8 k) ↔ num 0 (toInts s) = k := by
  constructor
  · rintro rfl
    rw [toInts_ofInts (b8_r k), num8 hk]
  · intro h
    have := (num8_inv (l := toInts s) (by rw [toInts_size]; exact hs) (toInts_r s)).1
    rw [h] at this
    rw [this, ofInts_toInts]

end Go.Proofs.YtlgopekjjkdkiaaDoor.X
end
