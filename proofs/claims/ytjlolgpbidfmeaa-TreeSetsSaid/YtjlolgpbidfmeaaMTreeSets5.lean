/- Merged: EvF125, EvF96, EvF40, EvF41, EvF43, EvF8, EvS19, ShaB, ShaC, EvF84, EvF89, GeoA, EvF85, GeoB, EvF90, GeoC, GeoD, TreeA, EvF34, EvF91. -/
import Derived.Test.YtjlolgpbidfmeaaMTreeSets2
import Derived.Test.YtjlolgpbidfmeaaProg
import Derived.KernelRfl
import Derived.Test.YtjlolgpbidfmeaaMTreeSets4
import Derived.Test.YtjlolgpbidfmeaaMTreeSets3
section
namespace Go.Proofs.Ytjlolgpbidfmeaa.X
open Go Go.Proofs.Ytjlolgpbidfmeaa.Ev Go.Proofs
set_option linter.unusedVariables false
/-! geom.Parent -/
noncomputable def f125_1 {β : Type} (F : Nat) (a1 : Int) (a2 : Int) (a3 : Int) (a4 : Int) (a5 : Int) (K0 : Int → Option β) : Option β := f123_1 F a1 a2 a3 a4 a5 (fun x1 x2 x3 => cond (!x3) (K0 (-1)) (f81_1 F a1 a2 a3 a4 (fun x4 => cond (a5 == x4) (K0 (-1)) (cond (decide (a2 = 0)) none (f124_1 F a1 a2 a3 a4 (fun x5 => cond (decide ((0 : Int) ≤ x1 ∧ x1 < ((x5.length : Nat) : Int))) (cond (decide (0 + x1.toNat < x5.length)) (K0 (IntKind.i64.wrap ((IntKind.i64.wrap (x2 + (x5.getD (0 + x1.toNat) 0))) + (IntKind.i64.wrap ((IntKind.i64.wrap (a5 - x2)).tdiv a2))))) none) none) ))) )) 
def sh125_1 : Sh := ⟨[.agg [.int .i64, .int .i64, .int .i64, .int .i64], .lf (.int .i64)], []⟩
noncomputable def S125_1 (F : Nat) (o : Summ) : Summ := mkS sh125_1 (fun d K => f125_1 F d.1.1.1 d.1.1.2.1 d.1.1.2.2.1 d.1.1.2.2.2.1 d.1.2.1 (fun (y0 : Int) => K [.lf (.int .i64 y0)] [])) o
noncomputable def code125 : Code := bodyOf Try.f125
theorem scopes125 : scopesOf code125 = [] := by kernel_rfl
theorem loops125 : loopsOf code125 = [] := by kernel_rfl
theorem enter125 : ∀ args w, (callFunc 125 args).run Try.prog w = .ok (.enter 125 args) w := enter_of (fn := Try.f125) (by kernel_rfl) (by kernel_rfl) (by kernel_rfl)
noncomputable def T125_1 (F : Nat) : FuncId → Option Summ := tab [(81, (S81_1 F noS)), (123, (S123_1 F noS)), (124, (S124_1 F noS))]
noncomputable def LT125_1 (F : Nat) : Nat → Option LoopS := ltab []
theorem E125_1g (F : Nat) (c81_1 : Int → Int → Int → Int → (Int → Option Res) → Option Res) (c123_1 : Int → Int → Int → Int → Int → (Int → Int → Bool → Option Res) → Option Res) (c124_1 : Int → Int → Int → Int → (List Int → Option Res) → Option Res)   (d : sh125_1.den) (K : KF) : evBody Try.prog (tab [(81, (mkS sh81_1 (fun d K => c81_1 d.1.1.1 d.1.1.2.1 d.1.1.2.2.1 d.1.1.2.2.2.1 (fun (y0 : Int) => K [.lf (.int .i64 y0)] [])) noS)), (123, (mkS sh123_1 (fun d K => c123_1 d.1.1.1 d.1.1.2.1 d.1.1.2.2.1 d.1.1.2.2.2.1 d.1.2.1 (fun (y0 : Int) (y1 : Int) (y2 : Bool) => K [.lf (.int .i64 y0), .lf (.int .i64 y1), .lf (.bool y2)] [])) noS)), (124, (mkS sh124_1 (fun d K => c124_1 d.1.1.1 d.1.1.2.1 d.1.1.2.2.1 d.1.1.2.2.2.1 (fun (y0 : List Int) => K [.lf (.full 0)] [some ⟨false, [.seq (.int .i64) 0 y0]⟩])) noS))]) 37 0 (ltab []) code125 Try.f125.results.toList (encT sh125_1.vs d.1) (encH sh125_1.h d.2) K = (fun (a1 : Int) (a2 : Int) (a3 : Int) (a4 : Int) (a5 : Int) (K0 : (Int → Option Res)) => c123_1 a1 a2 a3 a4 a5 (fun x1 x2 x3 => cond (!x3) (K0 (-1)) (c81_1 a1 a2 a3 a4 (fun x4 => cond (a5 == x4) (K0 (-1)) (cond (decide (a2 = 0)) none (c124_1 a1 a2 a3 a4 (fun x5 => cond (decide ((0 : Int) ≤ x1 ∧ x1 < ((x5.length : Nat) : Int))) (cond (decide (0 + x1.toNat < x5.length)) (K0 (IntKind.i64.wrap ((IntKind.i64.wrap (x2 + (x5.getD (0 + x1.toNat) 0))) + (IntKind.i64.wrap ((IntKind.i64.wrap (a5 - x2)).tdiv a2))))) none) none) ))) )) ) d.1.1.1 d.1.1.2.1 d.1.1.2.2.1 d.1.1.2.2.2.1 d.1.2.1 (fun (y0 : Int) => K [.lf (.int .i64 y0)] []) := by kernel_rfl
theorem E125_1 (F : Nat) (d : sh125_1.den) (K : KF) : evBody Try.prog (T125_1 F) 37 0 (LT125_1 F) code125 Try.f125.results.toList (encT sh125_1.vs d.1) (encH sh125_1.h d.2) K = f125_1 F d.1.1.1 d.1.1.2.1 d.1.1.2.2.1 d.1.1.2.2.2.1 d.1.2.1 (fun (y0 : Int) => K [.lf (.int .i64 y0)] []) := Eq.mp (by kernel_rfl) (E125_1g F (f81_1 F) (f123_1 F) (f124_1 F)   d K)
theorem S125_1_ok (F : Nat) (o : Summ) (ho : SoundFn Try.prog 125 o) : SoundFn Try.prog 125 (S125_1 F o) :=
  soundFn_of (fn := Try.f125) (c := code125) (by kernel_rfl) (tab_cons (S81_1_ok F _ (noS_sound enter81)) (tab_cons (S123_1_ok F _ (noS_sound enter123)) (tab_cons (S124_1_ok F _ (noS_sound enter124)) tab_nil))) (by kernel_rfl) (by kernel_rfl) ho (by rw [loops125]; exact loopsOK_nil) (by rw [scopes125]; exact scopesOK_nil) (E125_1 F)
end Go.Proofs.Ytjlolgpbidfmeaa.X
end

section
namespace Go.Proofs.Ytjlolgpbidfmeaa.X
open Go Go.Proofs.Ytjlolgpbidfmeaa.Ev Go.Proofs
set_option linter.unusedVariables false
/-! geom.Path -/
noncomputable def f96_1_l5 {β : Type} (F : Nat) (v4 : Int) (v5 : Int) (v6 : Int) (v7 : Int) (K0 : List Int → Option β) : Nat → Int → List Int → Option β
  | 0, _, _ => none
  | k + 1, v3, v8 => cond (v3 != (-1)) (cond (decide ((v8.length + 1) * 8 ≤ 70368744177664)) (f125_1 F v4 v5 v6 v7 v3 (fun x9 => f96_1_l5 F v4 v5 v6 v7 K0 k x9 (v8 ++ [v3])) ) none) (K0 v8)
noncomputable def f96_1 {β : Type} (F : Nat) (a1 : Int) (a2 : Int) (a3 : Int) (a4 : Int) (a5 : Int) (K0 : List Int → Option β) : Option β := f77_1 F a1 a2 a3 a4 (fun x1 => cond (!x1) (K0 []) (f121_1 F a5 0 (IntKind.i64.wrap (a1 - 1)) (fun x2 => cond (!x2) (K0 []) (f96_1_l5 F a1 a2 a3 a4 (fun x10 => K0 x10) F a5 [])) )) 
def sh96_1 : Sh := ⟨[.agg [.int .i64, .int .i64, .int .i64, .int .i64], .lf (.int .i64)], []⟩
noncomputable def S96_1 (F : Nat) (o : Summ) : Summ := mkS sh96_1 (fun d K => f96_1 F d.1.1.1 d.1.1.2.1 d.1.1.2.2.1 d.1.1.2.2.2.1 d.1.2.1 (fun (y0 : List Int) => K [.lf (.full 0)] [some ⟨false, [.seq (.int .i64) 0 y0]⟩])) o
noncomputable def code96 : Code := bodyOf Try.f96
noncomputable def b96_0 : Code := cB (cB (cR (cL (cR (cR (cR (code96)))))))
theorem scopes96 : scopesOf code96 = [] := by kernel_rfl
theorem loops96 : loopsOf code96 = [b96_0] := by kernel_rfl
theorem enter96 : ∀ args w, (callFunc 96 args).run Try.prog w = .ok (.enter 96 args) w := enter_of (fn := Try.f96) (by kernel_rfl) (by kernel_rfl) (by kernel_rfl)
noncomputable def T96_1 (F : Nat) : FuncId → Option Summ := tab [(77, (S77_1 F noS)), (121, (S121_1 F noS)), (125, (S125_1 F noS))]
def sh96_1_l5 : Sh := ⟨[.lf (.ptr 0 0), .lf (.full 1), .lf (.int .i64)], [some ⟨some false, [.int .i64, .int .i64, .int .i64, .int .i64]⟩, some ⟨some false, [.seq (.int .i64) 0]⟩]⟩
noncomputable def G96_1_5 (F k : Nat) : LoopS := mkG sh96_1_l5 [2, 5, 6] (outT [(.exit 0, [5])]) (fun d K => f96_1_l5 F d.2.1.2.1 d.2.1.2.2.1 d.2.1.2.2.2.1 d.2.1.2.2.2.2.1 (fun (y4 : List Int) => K (.exit 0) [.tv (.lf (.full 1))] [some ⟨false, [.int .i64 d.2.1.2.1, .int .i64 d.2.1.2.2.1, .int .i64 d.2.1.2.2.2.1, .int .i64 d.2.1.2.2.2.2.1]⟩, some ⟨false, [.seq (.int .i64) 0 y4]⟩]) k d.1.2.2.1 d.2.2.1.2.1)
noncomputable def LT96_1 (F : Nat) : Nat → Option LoopS := ltab [(5, G96_1_5 F F)]
theorem L96_1_5g (F k : Nat) (c77_1 : Int → Int → Int → Int → (Bool → Option Res) → Option Res) (c121_1 : Int → Int → Int → (Bool → Option Res) → Option Res) (c125_1 : Int → Int → Int → Int → Int → (Int → Option Res) → Option Res)  (l5 : Int → Int → Int → Int → (List Int → Option Res) → Nat → Int → List Int → Option Res) (X5 : LoopS) (d : sh96_1_l5.den) (K : KL) : (fun (v4 : Int) (v5 : Int) (v6 : Int) (v7 : Int) (K0 : (List Int → Option Res)) (k : Nat) (v3 : Int) (v8 : List Int) => cond (v3 != (-1)) (cond (decide ((v8.length + 1) * 8 ≤ 70368744177664)) (c125_1 v4 v5 v6 v7 v3 (fun x9 => l5 v4 v5 v6 v7 K0 k x9 (v8 ++ [v3])) ) none) (K0 v8)) d.2.1.2.1 d.2.1.2.2.1 d.2.1.2.2.2.1 d.2.1.2.2.2.2.1 (fun (y4 : List Int) => K (.exit 0) [.tv (.lf (.full 1))] [some ⟨false, [.int .i64 d.2.1.2.1, .int .i64 d.2.1.2.2.1, .int .i64 d.2.1.2.2.2.1, .int .i64 d.2.1.2.2.2.2.1]⟩, some ⟨false, [.seq (.int .i64) 0 y4]⟩]) k d.1.2.2.1 d.2.2.1.2.1 = roundOf Try.prog (tab [(77, (mkS sh77_1 (fun d K => c77_1 d.1.1.1 d.1.1.2.1 d.1.1.2.2.1 d.1.1.2.2.2.1 (fun (y0 : Bool) => K [.lf (.bool y0)] [])) noS)), (121, (mkS sh121_1 (fun d K => c121_1 d.1.1 d.1.2.1 d.1.2.2.1 (fun (y0 : Bool) => K [.lf (.bool y0)] [])) noS)), (125, (mkS sh125_1 (fun d K => c125_1 d.1.1.1 d.1.1.2.1 d.1.1.2.2.1 d.1.1.2.2.2.1 d.1.2.1 (fun (y0 : Int) => K [.lf (.int .i64 y0)] [])) noS))]) 29 0 (ltab [(5, X5)]) (mkG sh96_1_l5 [2, 5, 6] (outT [(.exit 0, [5])]) (fun d K => l5 d.2.1.2.1 d.2.1.2.2.1 d.2.1.2.2.2.1 d.2.1.2.2.2.2.1 (fun (y4 : List Int) => K (.exit 0) [.tv (.lf (.full 1))] [some ⟨false, [.int .i64 d.2.1.2.1, .int .i64 d.2.1.2.2.1, .int .i64 d.2.1.2.2.2.1, .int .i64 d.2.1.2.2.2.2.1]⟩, some ⟨false, [.seq (.int .i64) 0 y4]⟩]) k d.1.2.2.1 d.2.2.1.2.1)) b96_0 (encT sh96_1_l5.vs d.1) (encH sh96_1_l5.h d.2) K := by kernel_rfl
theorem L96_1_5 (F : Nat) : LoopOK Try.prog (T96_1 F) 29 0 (LT96_1 F) (G96_1_5 F F) b96_0 :=
  loopOK_of (s := sh96_1_l5) (live := [2, 5, 6]) (out := (outT [(.exit 0, [5])])) (fun k d K => f96_1_l5 F d.2.1.2.1 d.2.1.2.2.1 d.2.1.2.2.2.1 d.2.1.2.2.2.2.1 (fun (y4 : List Int) => K (.exit 0) [.tv (.lf (.full 1))] [some ⟨false, [.int .i64 d.2.1.2.1, .int .i64 d.2.1.2.2.1, .int .i64 d.2.1.2.2.2.1, .int .i64 d.2.1.2.2.2.2.1]⟩, some ⟨false, [.seq (.int .i64) 0 y4]⟩]) k d.1.2.2.1 d.2.2.1.2.1) F (fun d K => by kernel_rfl)  (fun k d K => Eq.mp (by kernel_rfl) (L96_1_5g F k (f77_1 F) (f121_1 F) (f125_1 F)  (f96_1_l5 F) (G96_1_5 F F) d K))
theorem E96_1g (F : Nat) (c77_1 : Int → Int → Int → Int → (Bool → Option Res) → Option Res) (c121_1 : Int → Int → Int → (Bool → Option Res) → Option Res) (c125_1 : Int → Int → Int → Int → Int → (Int → Option Res) → Option Res) (l5 : Int → Int → Int → Int → (List Int → Option Res) → Nat → Int → List Int → Option Res)  (d : sh96_1.den) (K : KF) : evBody Try.prog (tab [(77, (mkS sh77_1 (fun d K => c77_1 d.1.1.1 d.1.1.2.1 d.1.1.2.2.1 d.1.1.2.2.2.1 (fun (y0 : Bool) => K [.lf (.bool y0)] [])) noS)), (121, (mkS sh121_1 (fun d K => c121_1 d.1.1 d.1.2.1 d.1.2.2.1 (fun (y0 : Bool) => K [.lf (.bool y0)] [])) noS)), (125, (mkS sh125_1 (fun d K => c125_1 d.1.1.1 d.1.1.2.1 d.1.1.2.2.1 d.1.1.2.2.2.1 d.1.2.1 (fun (y0 : Int) => K [.lf (.int .i64 y0)] [])) noS))]) 29 0 (ltab [(5, mkG sh96_1_l5 [2, 5, 6] (outT [(.exit 0, [5])]) (fun d K => l5 d.2.1.2.1 d.2.1.2.2.1 d.2.1.2.2.2.1 d.2.1.2.2.2.2.1 (fun (y4 : List Int) => K (.exit 0) [.tv (.lf (.full 1))] [some ⟨false, [.int .i64 d.2.1.2.1, .int .i64 d.2.1.2.2.1, .int .i64 d.2.1.2.2.2.1, .int .i64 d.2.1.2.2.2.2.1]⟩, some ⟨false, [.seq (.int .i64) 0 y4]⟩]) F d.1.2.2.1 d.2.2.1.2.1))]) code96 Try.f96.results.toList (encT sh96_1.vs d.1) (encH sh96_1.h d.2) K = (fun (a1 : Int) (a2 : Int) (a3 : Int) (a4 : Int) (a5 : Int) (K0 : (List Int → Option Res)) => c77_1 a1 a2 a3 a4 (fun x1 => cond (!x1) (K0 []) (c121_1 a5 0 (IntKind.i64.wrap (a1 - 1)) (fun x2 => cond (!x2) (K0 []) (l5 a1 a2 a3 a4 (fun x10 => K0 x10) F a5 [])) )) ) d.1.1.1 d.1.1.2.1 d.1.1.2.2.1 d.1.1.2.2.2.1 d.1.2.1 (fun (y0 : List Int) => K [.lf (.full 0)] [some ⟨false, [.seq (.int .i64) 0 y0]⟩]) := by kernel_rfl
theorem E96_1 (F : Nat) (d : sh96_1.den) (K : KF) : evBody Try.prog (T96_1 F) 29 0 (LT96_1 F) code96 Try.f96.results.toList (encT sh96_1.vs d.1) (encH sh96_1.h d.2) K = f96_1 F d.1.1.1 d.1.1.2.1 d.1.1.2.2.1 d.1.1.2.2.2.1 d.1.2.1 (fun (y0 : List Int) => K [.lf (.full 0)] [some ⟨false, [.seq (.int .i64) 0 y0]⟩]) := Eq.mp (by kernel_rfl) (E96_1g F (f77_1 F) (f121_1 F) (f125_1 F) (f96_1_l5 F)  d K)
theorem S96_1_ok (F : Nat) (o : Summ) (ho : SoundFn Try.prog 96 o) : SoundFn Try.prog 96 (S96_1 F o) :=
  soundFn_of (fn := Try.f96) (c := code96) (by kernel_rfl) (tab_cons (S77_1_ok F _ (noS_sound enter77)) (tab_cons (S121_1_ok F _ (noS_sound enter121)) (tab_cons (S125_1_ok F _ (noS_sound enter125)) tab_nil))) (by kernel_rfl) (by kernel_rfl) ho (by rw [loops96]; exact (loopsOK_cons (by kernel_rfl) (L96_1_5 F) loopsOK_nil)) (by rw [scopes96]; exact scopesOK_nil) (E96_1 F)
end Go.Proofs.Ytjlolgpbidfmeaa.X
end

section
namespace Go.Proofs.Ytjlolgpbidfmeaa.X
open Go Go.Proofs.Ytjlolgpbidfmeaa.Ev Go.Proofs
set_option linter.unusedVariables false
/-! tree.Tree).Set -/
noncomputable def f40_1_l9 {β : Type} (F : Nat) (v4 : Nat) (v5 : Nat) (v6 : Int) (v8 : Int) (v9 : Int) (v10 : Int) (v11 : Int) (v13 : List Int) (K0 : List ByteArray → Option β) : Nat → Int → List ByteArray → Option β
  | 0, _, _ => none
  | k + 1, v7, v12 => cond (decide (v7 < v6)) (cond (decide ((0 : Int) ≤ v7 ∧ v7 < ((v5 : Nat) : Int))) (cond (decide (v4 + v7.toNat < v13.length)) (f82_1 F (v13.getD (v4 + v7.toNat) 0) v8 v9 v10 v11 v12 (fun x14 => cond (decide ((0 : Int) ≤ v13.getD (v4 + v7.toNat) 0 ∧ v13.getD (v4 + v7.toNat) 0 < ((v12.length : Nat) : Int))) (cond (decide (0 + ((v13.getD (v4 + v7.toNat) 0).toNat) < v12.length)) (f40_1_l9 F v4 v5 v6 v8 v9 v10 v11 v13 K0 k (IntKind.i64.wrap (v7 + 1)) (v12.set (0 + ((v13.getD (v4 + v7.toNat) 0).toNat)) x14)) none) none) ) none) none) (K0 v12)
noncomputable def f40_1 {β : Type} (F : Nat) (a1 : Int) (a2 : ByteArray) (a3 : Int) (a4 : Int) (a5 : Int) (a6 : Int) (a7 : List ByteArray) (K0 : Int → List ByteArray → Option β) : Option β := cond (decide (a1 < 0)) (K0 3 a7) (cond (decide (a1 ≥ a3)) (K0 3 a7) (f80_1 F a2 (fun x1 => cond (!x1) (K0 4 a7) (f16_1 F a2 (fun x2 => cond (decide ((0 : Int) ≤ a1 ∧ a1 < ((a7.length : Nat) : Int))) (cond (decide (0 + a1.toNat < a7.length)) (f96_1 F a3 a4 a5 a6 a1 (fun x3 => cond (decide ((0 : Int) ≤ (1 : Int) ∧ (1 : Int) ≤ ((x3.length : Nat) : Int) ∧ ((x3.length : Nat) : Int) ≤ ((x3.length : Nat) : Int))) (f40_1_l9 F 1 ((((x3.length : Nat) : Int) - 1).toNat) (((((x3.length : Nat) : Int) - 1).toNat : Nat) : Int) a3 a4 a5 a6 x3 (fun x15 => K0 0 x15) F 0 (a7.set (0 + a1.toNat) x2)) none) ) none) none) )) ))
def sh40_1 : Sh := ⟨[.lf (.ptr 0 0), .lf (.int .i64), .lf (.str)], [some ⟨none, [.int .i64, .int .i64, .int .i64, .int .i64, .full 1]⟩, some ⟨some false, [.seq .str 0]⟩]⟩
noncomputable def S40_1 (F : Nat) (o : Summ) : Summ := mkS sh40_1 (fun d K => f40_1 F d.1.2.1 d.1.2.2.1 d.2.1.2.1 d.2.1.2.2.1 d.2.1.2.2.2.1 d.2.1.2.2.2.2.1 d.2.2.1.2.1 (fun (y0 : Int) (y5 : List ByteArray) => K [.lf (.int .i64 y0)] [some ⟨d.2.1.1, [.int .i64 d.2.1.2.1, .int .i64 d.2.1.2.2.1, .int .i64 d.2.1.2.2.2.1, .int .i64 d.2.1.2.2.2.2.1, .full 1]⟩, some ⟨false, [.seq .str 0 y5]⟩])) o
noncomputable def code40 : Code := bodyOf Try.f40
noncomputable def b40_0 : Code := cB (cB (cR (cL (cR (cR (cR (code40)))))))
theorem scopes40 : scopesOf code40 = [] := by kernel_rfl
theorem loops40 : loopsOf code40 = [b40_0] := by kernel_rfl
theorem enter40 : ∀ args w, (callFunc 40 args).run Try.prog w = .ok (.enter 40 args) w := enter_of (fn := Try.f40) (by kernel_rfl) (by kernel_rfl) (by kernel_rfl)
noncomputable def T40_1 (F : Nat) : FuncId → Option Summ := tab [(16, (S16_1 F noS)), (80, (S80_1 F noS)), (82, (S82_1 F noS)), (96, (S96_1 F noS))]
def sh40_1_l9 : Sh := ⟨[.lf (.ptr 0 0), .lf (.slice 2 0), .lf (.int .i64), .lf (.int .i64)], [some ⟨none, [.int .i64, .int .i64, .int .i64, .int .i64, .full 1]⟩, some ⟨some false, [.seq .str 0]⟩, some ⟨some false, [.seq (.int .i64) 0]⟩]⟩
noncomputable def G40_1_9 (F k : Nat) : LoopS := mkG sh40_1_l9 [0, 42, 43, 44] (outT [(.exit 1, [])]) (fun d K => f40_1_l9 F d.1.2.1.1 d.1.2.1.2 d.1.2.2.1 d.2.1.2.1 d.2.1.2.2.1 d.2.1.2.2.2.1 d.2.1.2.2.2.2.1 d.2.2.2.1.2.1 (fun (y4 : List ByteArray) => K (.exit 1) [] [some ⟨d.2.1.1, [.int .i64 d.2.1.2.1, .int .i64 d.2.1.2.2.1, .int .i64 d.2.1.2.2.2.1, .int .i64 d.2.1.2.2.2.2.1, .full 1]⟩, some ⟨false, [.seq .str 0 y4]⟩, some ⟨false, [.seq (.int .i64) 0 d.2.2.2.1.2.1]⟩]) k d.1.2.2.2.1 d.2.2.1.2.1)
noncomputable def LT40_1 (F : Nat) : Nat → Option LoopS := ltab [(9, G40_1_9 F F)]
theorem L40_1_9g (F k : Nat) (c16_1 : ByteArray → (ByteArray → Option Res) → Option Res) (c80_1 : ByteArray → (Bool → Option Res) → Option Res) (c82_1 : Int → Int → Int → Int → Int → List ByteArray → (ByteArray → Option Res) → Option Res) (c96_1 : Int → Int → Int → Int → Int → (List Int → Option Res) → Option Res)  (l9 : Nat → Nat → Int → Int → Int → Int → Int → List Int → (List ByteArray → Option Res) → Nat → Int → List ByteArray → Option Res) (X9 : LoopS) (d : sh40_1_l9.den) (K : KL) : (fun (v4 : Nat) (v5 : Nat) (v6 : Int) (v8 : Int) (v9 : Int) (v10 : Int) (v11 : Int) (v13 : List Int) (K0 : (List ByteArray → Option Res)) (k : Nat) (v7 : Int) (v12 : List ByteArray) => cond (decide (v7 < v6)) (cond (decide ((0 : Int) ≤ v7 ∧ v7 < ((v5 : Nat) : Int))) (cond (decide (v4 + v7.toNat < v13.length)) (c82_1 (v13.getD (v4 + v7.toNat) 0) v8 v9 v10 v11 v12 (fun x14 => cond (decide ((0 : Int) ≤ v13.getD (v4 + v7.toNat) 0 ∧ v13.getD (v4 + v7.toNat) 0 < ((v12.length : Nat) : Int))) (cond (decide (0 + ((v13.getD (v4 + v7.toNat) 0).toNat) < v12.length)) (l9 v4 v5 v6 v8 v9 v10 v11 v13 K0 k (IntKind.i64.wrap (v7 + 1)) (v12.set (0 + ((v13.getD (v4 + v7.toNat) 0).toNat)) x14)) none) none) ) none) none) (K0 v12)) d.1.2.1.1 d.1.2.1.2 d.1.2.2.1 d.2.1.2.1 d.2.1.2.2.1 d.2.1.2.2.2.1 d.2.1.2.2.2.2.1 d.2.2.2.1.2.1 (fun (y4 : List ByteArray) => K (.exit 1) [] [some ⟨d.2.1.1, [.int .i64 d.2.1.2.1, .int .i64 d.2.1.2.2.1, .int .i64 d.2.1.2.2.2.1, .int .i64 d.2.1.2.2.2.2.1, .full 1]⟩, some ⟨false, [.seq .str 0 y4]⟩, some ⟨false, [.seq (.int .i64) 0 d.2.2.2.1.2.1]⟩]) k d.1.2.2.2.1 d.2.2.1.2.1 = roundOf Try.prog (tab [(16, (mkS sh16_1 (fun d K => c16_1 d.1.1 (fun (y0 : ByteArray) => K [.lf (.str y0)] [])) noS)), (80, (mkS sh80_1 (fun d K => c80_1 d.1.1 (fun (y0 : Bool) => K [.lf (.bool y0)] [])) noS)), (82, (mkS sh82_1 (fun d K => c82_1 d.1.2.1 d.2.1.2.1 d.2.1.2.2.1 d.2.1.2.2.2.1 d.2.1.2.2.2.2.1 d.2.2.1.2.1 (fun (y0 : ByteArray) => K [.lf (.str y0)] [some ⟨d.2.1.1, [.int .i64 d.2.1.2.1, .int .i64 d.2.1.2.2.1, .int .i64 d.2.1.2.2.2.1, .int .i64 d.2.1.2.2.2.2.1, .full 1]⟩, some ⟨d.2.2.1.1, [.seq .str 0 d.2.2.1.2.1]⟩])) noS)), (96, (mkS sh96_1 (fun d K => c96_1 d.1.1.1 d.1.1.2.1 d.1.1.2.2.1 d.1.1.2.2.2.1 d.1.2.1 (fun (y0 : List Int) => K [.lf (.full 0)] [some ⟨false, [.seq (.int .i64) 0 y0]⟩])) noS))]) 58 2 (ltab [(9, X9)]) (mkG sh40_1_l9 [0, 42, 43, 44] (outT [(.exit 1, [])]) (fun d K => l9 d.1.2.1.1 d.1.2.1.2 d.1.2.2.1 d.2.1.2.1 d.2.1.2.2.1 d.2.1.2.2.2.1 d.2.1.2.2.2.2.1 d.2.2.2.1.2.1 (fun (y4 : List ByteArray) => K (.exit 1) [] [some ⟨d.2.1.1, [.int .i64 d.2.1.2.1, .int .i64 d.2.1.2.2.1, .int .i64 d.2.1.2.2.2.1, .int .i64 d.2.1.2.2.2.2.1, .full 1]⟩, some ⟨false, [.seq .str 0 y4]⟩, some ⟨false, [.seq (.int .i64) 0 d.2.2.2.1.2.1]⟩]) k d.1.2.2.2.1 d.2.2.1.2.1)) b40_0 (encT sh40_1_l9.vs d.1) (encH sh40_1_l9.h d.2) K := by kernel_rfl
theorem L40_1_9 (F : Nat) : LoopOK Try.prog (T40_1 F) 58 2 (LT40_1 F) (G40_1_9 F F) b40_0 :=
  loopOK_of (s := sh40_1_l9) (live := [0, 42, 43, 44]) (out := (outT [(.exit 1, [])])) (fun k d K => f40_1_l9 F d.1.2.1.1 d.1.2.1.2 d.1.2.2.1 d.2.1.2.1 d.2.1.2.2.1 d.2.1.2.2.2.1 d.2.1.2.2.2.2.1 d.2.2.2.1.2.1 (fun (y4 : List ByteArray) => K (.exit 1) [] [some ⟨d.2.1.1, [.int .i64 d.2.1.2.1, .int .i64 d.2.1.2.2.1, .int .i64 d.2.1.2.2.2.1, .int .i64 d.2.1.2.2.2.2.1, .full 1]⟩, some ⟨false, [.seq .str 0 y4]⟩, some ⟨false, [.seq (.int .i64) 0 d.2.2.2.1.2.1]⟩]) k d.1.2.2.2.1 d.2.2.1.2.1) F (fun d K => by kernel_rfl)  (fun k d K => Eq.mp (by kernel_rfl) (L40_1_9g F k (f16_1 F) (f80_1 F) (f82_1 F) (f96_1 F)  (f40_1_l9 F) (G40_1_9 F F) d K))
theorem E40_1g (F : Nat) (c16_1 : ByteArray → (ByteArray → Option Res) → Option Res) (c80_1 : ByteArray → (Bool → Option Res) → Option Res) (c82_1 : Int → Int → Int → Int → Int → List ByteArray → (ByteArray → Option Res) → Option Res) (c96_1 : Int → Int → Int → Int → Int → (List Int → Option Res) → Option Res) (l9 : Nat → Nat → Int → Int → Int → Int → Int → List Int → (List ByteArray → Option Res) → Nat → Int → List ByteArray → Option Res)  (d : sh40_1.den) (K : KF) : evBody Try.prog (tab [(16, (mkS sh16_1 (fun d K => c16_1 d.1.1 (fun (y0 : ByteArray) => K [.lf (.str y0)] [])) noS)), (80, (mkS sh80_1 (fun d K => c80_1 d.1.1 (fun (y0 : Bool) => K [.lf (.bool y0)] [])) noS)), (82, (mkS sh82_1 (fun d K => c82_1 d.1.2.1 d.2.1.2.1 d.2.1.2.2.1 d.2.1.2.2.2.1 d.2.1.2.2.2.2.1 d.2.2.1.2.1 (fun (y0 : ByteArray) => K [.lf (.str y0)] [some ⟨d.2.1.1, [.int .i64 d.2.1.2.1, .int .i64 d.2.1.2.2.1, .int .i64 d.2.1.2.2.2.1, .int .i64 d.2.1.2.2.2.2.1, .full 1]⟩, some ⟨d.2.2.1.1, [.seq .str 0 d.2.2.1.2.1]⟩])) noS)), (96, (mkS sh96_1 (fun d K => c96_1 d.1.1.1 d.1.1.2.1 d.1.1.2.2.1 d.1.1.2.2.2.1 d.1.2.1 (fun (y0 : List Int) => K [.lf (.full 0)] [some ⟨false, [.seq (.int .i64) 0 y0]⟩])) noS))]) 58 2 (ltab [(9, mkG sh40_1_l9 [0, 42, 43, 44] (outT [(.exit 1, [])]) (fun d K => l9 d.1.2.1.1 d.1.2.1.2 d.1.2.2.1 d.2.1.2.1 d.2.1.2.2.1 d.2.1.2.2.2.1 d.2.1.2.2.2.2.1 d.2.2.2.1.2.1 (fun (y4 : List ByteArray) => K (.exit 1) [] [some ⟨d.2.1.1, [.int .i64 d.2.1.2.1, .int .i64 d.2.1.2.2.1, .int .i64 d.2.1.2.2.2.1, .int .i64 d.2.1.2.2.2.2.1, .full 1]⟩, some ⟨false, [.seq .str 0 y4]⟩, some ⟨false, [.seq (.int .i64) 0 d.2.2.2.1.2.1]⟩]) F d.1.2.2.2.1 d.2.2.1.2.1))]) code40 Try.f40.results.toList (encT sh40_1.vs d.1) (encH sh40_1.h d.2) K = (fun (a1 : Int) (a2 : ByteArray) (a3 : Int) (a4 : Int) (a5 : Int) (a6 : Int) (a7 : List ByteArray) (K0 : (Int → List ByteArray → Option Res)) => cond (decide (a1 < 0)) (K0 3 a7) (cond (decide (a1 ≥ a3)) (K0 3 a7) (c80_1 a2 (fun x1 => cond (!x1) (K0 4 a7) (c16_1 a2 (fun x2 => cond (decide ((0 : Int) ≤ a1 ∧ a1 < ((a7.length : Nat) : Int))) (cond (decide (0 + a1.toNat < a7.length)) (c96_1 a3 a4 a5 a6 a1 (fun x3 => cond (decide ((0 : Int) ≤ (1 : Int) ∧ (1 : Int) ≤ ((x3.length : Nat) : Int) ∧ ((x3.length : Nat) : Int) ≤ ((x3.length : Nat) : Int))) (l9 1 ((((x3.length : Nat) : Int) - 1).toNat) (((((x3.length : Nat) : Int) - 1).toNat : Nat) : Int) a3 a4 a5 a6 x3 (fun x15 => K0 0 x15) F 0 (a7.set (0 + a1.toNat) x2)) none) ) none) none) )) ))) d.1.2.1 d.1.2.2.1 d.2.1.2.1 d.2.1.2.2.1 d.2.1.2.2.2.1 d.2.1.2.2.2.2.1 d.2.2.1.2.1 (fun (y0 : Int) (y5 : List ByteArray) => K [.lf (.int .i64 y0)] [some ⟨d.2.1.1, [.int .i64 d.2.1.2.1, .int .i64 d.2.1.2.2.1, .int .i64 d.2.1.2.2.2.1, .int .i64 d.2.1.2.2.2.2.1, .full 1]⟩, some ⟨false, [.seq .str 0 y5]⟩]) := by kernel_rfl
theorem E40_1 (F : Nat) (d : sh40_1.den) (K : KF) : evBody Try.prog (T40_1 F) 58 2 (LT40_1 F) code40 Try.f40.results.toList (encT sh40_1.vs d.1) (encH sh40_1.h d.2) K = f40_1 F d.1.2.1 d.1.2.2.1 d.2.1.2.1 d.2.1.2.2.1 d.2.1.2.2.2.1 d.2.1.2.2.2.2.1 d.2.2.1.2.1 (fun (y0 : Int) (y5 : List ByteArray) => K [.lf (.int .i64 y0)] [some ⟨d.2.1.1, [.int .i64 d.2.1.2.1, .int .i64 d.2.1.2.2.1, .int .i64 d.2.1.2.2.2.1, .int .i64 d.2.1.2.2.2.2.1, .full 1]⟩, some ⟨false, [.seq .str 0 y5]⟩]) := Eq.mp (by kernel_rfl) (E40_1g F (f16_1 F) (f80_1 F) (f82_1 F) (f96_1 F) (f40_1_l9 F)  d K)
theorem S40_1_ok (F : Nat) (o : Summ) (ho : SoundFn Try.prog 40 o) : SoundFn Try.prog 40 (S40_1 F o) :=
  soundFn_of (fn := Try.f40) (c := code40) (by kernel_rfl) (tab_cons (S16_1_ok F _ (noS_sound enter16)) (tab_cons (S80_1_ok F _ (noS_sound enter80)) (tab_cons (S82_1_ok F _ (noS_sound enter82)) (tab_cons (S96_1_ok F _ (noS_sound enter96)) tab_nil)))) (by kernel_rfl) (by kernel_rfl) ho (by rw [loops40]; exact (loopsOK_cons (by kernel_rfl) (L40_1_9 F) loopsOK_nil)) (by rw [scopes40]; exact scopesOK_nil) (E40_1 F)
end Go.Proofs.Ytjlolgpbidfmeaa.X
end

section
namespace Go.Proofs.Ytjlolgpbidfmeaa.X
open Go Go.Proofs.Ytjlolgpbidfmeaa.Ev Go.Proofs
set_option linter.unusedVariables false
/-! pentimentoref12.Texts -/
noncomputable def f41_1_l4 {β : Type} (F : Nat) (v2 : List ByteArray) (v3 : List ByteArray) (K0 : Option β) (K1 : Option β) : Nat → Int → Option β
  | 0, _ => none
  | k + 1, v1 => cond (decide (v1 < ((v2.length : Nat) : Int))) (cond (decide ((0 : Int) ≤ v1 ∧ v1 < ((v2.length : Nat) : Int))) (cond (decide (0 + v1.toNat < v2.length)) (cond (decide ((0 : Int) ≤ v1 ∧ v1 < ((v3.length : Nat) : Int))) (cond (decide (0 + v1.toNat < v3.length)) (cond (!((v2.getD (0 + v1.toNat) ByteArray.empty).toList == (v3.getD (0 + v1.toNat) ByteArray.empty).toList)) (K0) (f41_1_l4 F v2 v3 K0 K1 k (IntKind.i64.wrap (v1 + 1)))) none) none) none) none) (K1)
noncomputable def f41_1 {β : Type} (F : Nat) (a1 : List ByteArray) (a2 : List ByteArray) (K0 : Bool → Option β) : Option β := cond (((a1.length : Nat) : Int) != ((a2.length : Nat) : Int)) (K0 false) (f41_1_l4 F a1 a2 (K0 false) (K0 true) F 0)
def sh41_1 : Sh := ⟨[.lf (.full 0), .lf (.full 1)], [some ⟨none, [.seq .str 0]⟩, some ⟨none, [.seq .str 0]⟩]⟩
noncomputable def S41_1 (F : Nat) (o : Summ) : Summ := mkS sh41_1 (fun d K => f41_1 F d.2.1.2.1 d.2.2.1.2.1 (fun (y0 : Bool) => K [.lf (.bool y0)] [some ⟨d.2.1.1, [.seq .str 0 d.2.1.2.1]⟩, some ⟨d.2.2.1.1, [.seq .str 0 d.2.2.1.2.1]⟩])) o
noncomputable def code41 : Code := bodyOf Try.f41
noncomputable def b41_0 : Code := cB (cB (cR (cL (cR (cR (code41))))))
theorem scopes41 : scopesOf code41 = [] := by kernel_rfl
theorem loops41 : loopsOf code41 = [b41_0] := by kernel_rfl
theorem enter41 : ∀ args w, (callFunc 41 args).run Try.prog w = .ok (.enter 41 args) w := enter_of (fn := Try.f41) (by kernel_rfl) (by kernel_rfl) (by kernel_rfl)
noncomputable def T41_1 (F : Nat) : FuncId → Option Summ := tab []
def sh41_1_l4 : Sh := ⟨[.lf (.full 0), .lf (.full 1), .lf (.int .i64)], [some ⟨none, [.seq .str 0]⟩, some ⟨none, [.seq .str 0]⟩]⟩
noncomputable def G41_1_4 (F k : Nat) : LoopS := mkG sh41_1_l4 [0, 1, 5] (outT [(.exit 0, []), (.ret, [4])]) (fun d K => f41_1_l4 F d.2.1.2.1 d.2.2.1.2.1 (K .ret [.tv (.lf (.bool false))] [some ⟨d.2.1.1, [.seq .str 0 d.2.1.2.1]⟩, some ⟨d.2.2.1.1, [.seq .str 0 d.2.2.1.2.1]⟩]) (K (.exit 0) [] [some ⟨d.2.1.1, [.seq .str 0 d.2.1.2.1]⟩, some ⟨d.2.2.1.1, [.seq .str 0 d.2.2.1.2.1]⟩]) k d.1.2.2.1)
noncomputable def LT41_1 (F : Nat) : Nat → Option LoopS := ltab [(4, G41_1_4 F F)]
theorem L41_1_4g (F k : Nat)   (l4 : List ByteArray → List ByteArray → (Option Res) → (Option Res) → Nat → Int → Option Res) (X4 : LoopS) (d : sh41_1_l4.den) (K : KL) : (fun (v2 : List ByteArray) (v3 : List ByteArray) (K0 : (Option Res)) (K1 : (Option Res)) (k : Nat) (v1 : Int) => cond (decide (v1 < ((v2.length : Nat) : Int))) (cond (decide ((0 : Int) ≤ v1 ∧ v1 < ((v2.length : Nat) : Int))) (cond (decide (0 + v1.toNat < v2.length)) (cond (decide ((0 : Int) ≤ v1 ∧ v1 < ((v3.length : Nat) : Int))) (cond (decide (0 + v1.toNat < v3.length)) (cond (!((v2.getD (0 + v1.toNat) ByteArray.empty).toList == (v3.getD (0 + v1.toNat) ByteArray.empty).toList)) (K0) (l4 v2 v3 K0 K1 k (IntKind.i64.wrap (v1 + 1)))) none) none) none) none) (K1)) d.2.1.2.1 d.2.2.1.2.1 (K .ret [.tv (.lf (.bool false))] [some ⟨d.2.1.1, [.seq .str 0 d.2.1.2.1]⟩, some ⟨d.2.2.1.1, [.seq .str 0 d.2.2.1.2.1]⟩]) (K (.exit 0) [] [some ⟨d.2.1.1, [.seq .str 0 d.2.1.2.1]⟩, some ⟨d.2.2.1.1, [.seq .str 0 d.2.2.1.2.1]⟩]) k d.1.2.2.1 = roundOf Try.prog (tab []) 26 2 (ltab [(4, X4)]) (mkG sh41_1_l4 [0, 1, 5] (outT [(.exit 0, []), (.ret, [4])]) (fun d K => l4 d.2.1.2.1 d.2.2.1.2.1 (K .ret [.tv (.lf (.bool false))] [some ⟨d.2.1.1, [.seq .str 0 d.2.1.2.1]⟩, some ⟨d.2.2.1.1, [.seq .str 0 d.2.2.1.2.1]⟩]) (K (.exit 0) [] [some ⟨d.2.1.1, [.seq .str 0 d.2.1.2.1]⟩, some ⟨d.2.2.1.1, [.seq .str 0 d.2.2.1.2.1]⟩]) k d.1.2.2.1)) b41_0 (encT sh41_1_l4.vs d.1) (encH sh41_1_l4.h d.2) K := by kernel_rfl
theorem L41_1_4 (F : Nat) : LoopOK Try.prog (T41_1 F) 26 2 (LT41_1 F) (G41_1_4 F F) b41_0 :=
  loopOK_of (s := sh41_1_l4) (live := [0, 1, 5]) (out := (outT [(.exit 0, []), (.ret, [4])])) (fun k d K => f41_1_l4 F d.2.1.2.1 d.2.2.1.2.1 (K .ret [.tv (.lf (.bool false))] [some ⟨d.2.1.1, [.seq .str 0 d.2.1.2.1]⟩, some ⟨d.2.2.1.1, [.seq .str 0 d.2.2.1.2.1]⟩]) (K (.exit 0) [] [some ⟨d.2.1.1, [.seq .str 0 d.2.1.2.1]⟩, some ⟨d.2.2.1.1, [.seq .str 0 d.2.2.1.2.1]⟩]) k d.1.2.2.1) F (fun d K => by kernel_rfl)  (fun k d K => Eq.mp (by kernel_rfl) (L41_1_4g F k   (f41_1_l4 F) (G41_1_4 F F) d K))
theorem E41_1g (F : Nat)  (l4 : List ByteArray → List ByteArray → (Option Res) → (Option Res) → Nat → Int → Option Res)  (d : sh41_1.den) (K : KF) : evBody Try.prog (tab []) 26 2 (ltab [(4, mkG sh41_1_l4 [0, 1, 5] (outT [(.exit 0, []), (.ret, [4])]) (fun d K => l4 d.2.1.2.1 d.2.2.1.2.1 (K .ret [.tv (.lf (.bool false))] [some ⟨d.2.1.1, [.seq .str 0 d.2.1.2.1]⟩, some ⟨d.2.2.1.1, [.seq .str 0 d.2.2.1.2.1]⟩]) (K (.exit 0) [] [some ⟨d.2.1.1, [.seq .str 0 d.2.1.2.1]⟩, some ⟨d.2.2.1.1, [.seq .str 0 d.2.2.1.2.1]⟩]) F d.1.2.2.1))]) code41 Try.f41.results.toList (encT sh41_1.vs d.1) (encH sh41_1.h d.2) K = (fun (a1 : List ByteArray) (a2 : List ByteArray) (K0 : (Bool → Option Res)) => cond (((a1.length : Nat) : Int) != ((a2.length : Nat) : Int)) (K0 false) (l4 a1 a2 (K0 false) (K0 true) F 0)) d.2.1.2.1 d.2.2.1.2.1 (fun (y0 : Bool) => K [.lf (.bool y0)] [some ⟨d.2.1.1, [.seq .str 0 d.2.1.2.1]⟩, some ⟨d.2.2.1.1, [.seq .str 0 d.2.2.1.2.1]⟩]) := by kernel_rfl
theorem E41_1 (F : Nat) (d : sh41_1.den) (K : KF) : evBody Try.prog (T41_1 F) 26 2 (LT41_1 F) code41 Try.f41.results.toList (encT sh41_1.vs d.1) (encH sh41_1.h d.2) K = f41_1 F d.2.1.2.1 d.2.2.1.2.1 (fun (y0 : Bool) => K [.lf (.bool y0)] [some ⟨d.2.1.1, [.seq .str 0 d.2.1.2.1]⟩, some ⟨d.2.2.1.1, [.seq .str 0 d.2.2.1.2.1]⟩]) := Eq.mp (by kernel_rfl) (E41_1g F  (f41_1_l4 F)  d K)
theorem S41_1_ok (F : Nat) (o : Summ) (ho : SoundFn Try.prog 41 o) : SoundFn Try.prog 41 (S41_1 F o) :=
  soundFn_of (fn := Try.f41) (c := code41) (by kernel_rfl) tab_nil (by kernel_rfl) (by kernel_rfl) ho (by rw [loops41]; exact (loopsOK_cons (by kernel_rfl) (L41_1_4 F) loopsOK_nil)) (by rw [scopes41]; exact scopesOK_nil) (E41_1 F)
end Go.Proofs.Ytjlolgpbidfmeaa.X
end

section
namespace Go.Proofs.Ytjlolgpbidfmeaa.X
open Go Go.Proofs.Ytjlolgpbidfmeaa.Ev Go.Proofs
set_option linter.unusedVariables false
/-! tree.Tree).Bad -/
noncomputable def f43_1_l5 {β : Type} (F : Nat) (v2 : Int) (v3 : Int) (v4 : Int) (v5 : Int) (v6 : List ByteArray) (K0 : List Int → Option β) : Nat → Int → List Int → Option β
  | 0, _, _ => none
  | k + 1, v1, v7 => cond (decide (v1 < ((v6.length : Nat) : Int))) (cond (decide ((0 : Int) ≤ v1 ∧ v1 < ((v6.length : Nat) : Int))) (cond (decide (0 + v1.toNat < v6.length)) (f82_1 F v1 v2 v3 v4 v5 v6 (fun x8 => cond (!((v6.getD (0 + v1.toNat) ByteArray.empty).toList == x8.toList)) (cond (decide ((v7.length + 1) * 8 ≤ 70368744177664)) (f43_1_l5 F v2 v3 v4 v5 v6 K0 k (IntKind.i64.wrap (v1 + 1)) (v7 ++ [v1])) none) (f43_1_l5 F v2 v3 v4 v5 v6 K0 k (IntKind.i64.wrap (v1 + 1)) v7)) ) none) none) (K0 v7)
noncomputable def f43_1 {β : Type} (F : Nat) (a1 : Int) (a2 : Int) (a3 : Int) (a4 : Int) (a5 : List ByteArray) (K0 : List Int → Option β) : Option β := f43_1_l5 F a1 a2 a3 a4 a5 (fun x9 => K0 x9) F a1 []
def sh43_1 : Sh := ⟨[.lf (.ptr 0 0)], [some ⟨none, [.int .i64, .int .i64, .int .i64, .int .i64, .full 1]⟩, some ⟨none, [.seq .str 0]⟩]⟩
noncomputable def S43_1 (F : Nat) (o : Summ) : Summ := mkS sh43_1 (fun d K => f43_1 F d.2.1.2.1 d.2.1.2.2.1 d.2.1.2.2.2.1 d.2.1.2.2.2.2.1 d.2.2.1.2.1 (fun (y5 : List Int) => K [.lf (.full 2)] [some ⟨d.2.1.1, [.int .i64 d.2.1.2.1, .int .i64 d.2.1.2.2.1, .int .i64 d.2.1.2.2.2.1, .int .i64 d.2.1.2.2.2.2.1, .full 1]⟩, some ⟨d.2.2.1.1, [.seq .str 0 d.2.2.1.2.1]⟩, some ⟨false, [.seq (.int .i64) 0 y5]⟩])) o
noncomputable def code43 : Code := bodyOf Try.f43
noncomputable def b43_0 : Code := cB (cB (cR (cL (cR (cR (cR (code43)))))))
theorem scopes43 : scopesOf code43 = [] := by kernel_rfl
theorem loops43 : loopsOf code43 = [b43_0] := by kernel_rfl
theorem enter43 : ∀ args w, (callFunc 43 args).run Try.prog w = .ok (.enter 43 args) w := enter_of (fn := Try.f43) (by kernel_rfl) (by kernel_rfl) (by kernel_rfl)
noncomputable def T43_1 (F : Nat) : FuncId → Option Summ := tab [(82, (S82_1 F noS))]
def sh43_1_l5 : Sh := ⟨[.lf (.ptr 0 0), .lf (.full 2), .lf (.int .i64)], [some ⟨none, [.int .i64, .int .i64, .int .i64, .int .i64, .full 1]⟩, some ⟨none, [.seq .str 0]⟩, some ⟨some false, [.seq (.int .i64) 0]⟩]⟩
noncomputable def G43_1_5 (F k : Nat) : LoopS := mkG sh43_1_l5 [0, 3, 4] (outT [(.exit 0, [3])]) (fun d K => f43_1_l5 F d.2.1.2.1 d.2.1.2.2.1 d.2.1.2.2.2.1 d.2.1.2.2.2.2.1 d.2.2.1.2.1 (fun (y5 : List Int) => K (.exit 0) [.tv (.lf (.full 2))] [some ⟨d.2.1.1, [.int .i64 d.2.1.2.1, .int .i64 d.2.1.2.2.1, .int .i64 d.2.1.2.2.2.1, .int .i64 d.2.1.2.2.2.2.1, .full 1]⟩, some ⟨d.2.2.1.1, [.seq .str 0 d.2.2.1.2.1]⟩, some ⟨false, [.seq (.int .i64) 0 y5]⟩]) k d.1.2.2.1 d.2.2.2.1.2.1)
noncomputable def LT43_1 (F : Nat) : Nat → Option LoopS := ltab [(5, G43_1_5 F F)]
theorem L43_1_5g (F k : Nat) (c82_1 : Int → Int → Int → Int → Int → List ByteArray → (ByteArray → Option Res) → Option Res)  (l5 : Int → Int → Int → Int → List ByteArray → (List Int → Option Res) → Nat → Int → List Int → Option Res) (X5 : LoopS) (d : sh43_1_l5.den) (K : KL) : (fun (v2 : Int) (v3 : Int) (v4 : Int) (v5 : Int) (v6 : List ByteArray) (K0 : (List Int → Option Res)) (k : Nat) (v1 : Int) (v7 : List Int) => cond (decide (v1 < ((v6.length : Nat) : Int))) (cond (decide ((0 : Int) ≤ v1 ∧ v1 < ((v6.length : Nat) : Int))) (cond (decide (0 + v1.toNat < v6.length)) (c82_1 v1 v2 v3 v4 v5 v6 (fun x8 => cond (!((v6.getD (0 + v1.toNat) ByteArray.empty).toList == x8.toList)) (cond (decide ((v7.length + 1) * 8 ≤ 70368744177664)) (l5 v2 v3 v4 v5 v6 K0 k (IntKind.i64.wrap (v1 + 1)) (v7 ++ [v1])) none) (l5 v2 v3 v4 v5 v6 K0 k (IntKind.i64.wrap (v1 + 1)) v7)) ) none) none) (K0 v7)) d.2.1.2.1 d.2.1.2.2.1 d.2.1.2.2.2.1 d.2.1.2.2.2.2.1 d.2.2.1.2.1 (fun (y5 : List Int) => K (.exit 0) [.tv (.lf (.full 2))] [some ⟨d.2.1.1, [.int .i64 d.2.1.2.1, .int .i64 d.2.1.2.2.1, .int .i64 d.2.1.2.2.2.1, .int .i64 d.2.1.2.2.2.2.1, .full 1]⟩, some ⟨d.2.2.1.1, [.seq .str 0 d.2.2.1.2.1]⟩, some ⟨false, [.seq (.int .i64) 0 y5]⟩]) k d.1.2.2.1 d.2.2.2.1.2.1 = roundOf Try.prog (tab [(82, (mkS sh82_1 (fun d K => c82_1 d.1.2.1 d.2.1.2.1 d.2.1.2.2.1 d.2.1.2.2.2.1 d.2.1.2.2.2.2.1 d.2.2.1.2.1 (fun (y0 : ByteArray) => K [.lf (.str y0)] [some ⟨d.2.1.1, [.int .i64 d.2.1.2.1, .int .i64 d.2.1.2.2.1, .int .i64 d.2.1.2.2.2.1, .int .i64 d.2.1.2.2.2.2.1, .full 1]⟩, some ⟨d.2.2.1.1, [.seq .str 0 d.2.2.1.2.1]⟩])) noS))]) 37 2 (ltab [(5, X5)]) (mkG sh43_1_l5 [0, 3, 4] (outT [(.exit 0, [3])]) (fun d K => l5 d.2.1.2.1 d.2.1.2.2.1 d.2.1.2.2.2.1 d.2.1.2.2.2.2.1 d.2.2.1.2.1 (fun (y5 : List Int) => K (.exit 0) [.tv (.lf (.full 2))] [some ⟨d.2.1.1, [.int .i64 d.2.1.2.1, .int .i64 d.2.1.2.2.1, .int .i64 d.2.1.2.2.2.1, .int .i64 d.2.1.2.2.2.2.1, .full 1]⟩, some ⟨d.2.2.1.1, [.seq .str 0 d.2.2.1.2.1]⟩, some ⟨false, [.seq (.int .i64) 0 y5]⟩]) k d.1.2.2.1 d.2.2.2.1.2.1)) b43_0 (encT sh43_1_l5.vs d.1) (encH sh43_1_l5.h d.2) K := by kernel_rfl
theorem L43_1_5 (F : Nat) : LoopOK Try.prog (T43_1 F) 37 2 (LT43_1 F) (G43_1_5 F F) b43_0 :=
  loopOK_of (s := sh43_1_l5) (live := [0, 3, 4]) (out := (outT [(.exit 0, [3])])) (fun k d K => f43_1_l5 F d.2.1.2.1 d.2.1.2.2.1 d.2.1.2.2.2.1 d.2.1.2.2.2.2.1 d.2.2.1.2.1 (fun (y5 : List Int) => K (.exit 0) [.tv (.lf (.full 2))] [some ⟨d.2.1.1, [.int .i64 d.2.1.2.1, .int .i64 d.2.1.2.2.1, .int .i64 d.2.1.2.2.2.1, .int .i64 d.2.1.2.2.2.2.1, .full 1]⟩, some ⟨d.2.2.1.1, [.seq .str 0 d.2.2.1.2.1]⟩, some ⟨false, [.seq (.int .i64) 0 y5]⟩]) k d.1.2.2.1 d.2.2.2.1.2.1) F (fun d K => by kernel_rfl)  (fun k d K => Eq.mp (by kernel_rfl) (L43_1_5g F k (f82_1 F)  (f43_1_l5 F) (G43_1_5 F F) d K))
theorem E43_1g (F : Nat) (c82_1 : Int → Int → Int → Int → Int → List ByteArray → (ByteArray → Option Res) → Option Res) (l5 : Int → Int → Int → Int → List ByteArray → (List Int → Option Res) → Nat → Int → List Int → Option Res)  (d : sh43_1.den) (K : KF) : evBody Try.prog (tab [(82, (mkS sh82_1 (fun d K => c82_1 d.1.2.1 d.2.1.2.1 d.2.1.2.2.1 d.2.1.2.2.2.1 d.2.1.2.2.2.2.1 d.2.2.1.2.1 (fun (y0 : ByteArray) => K [.lf (.str y0)] [some ⟨d.2.1.1, [.int .i64 d.2.1.2.1, .int .i64 d.2.1.2.2.1, .int .i64 d.2.1.2.2.2.1, .int .i64 d.2.1.2.2.2.2.1, .full 1]⟩, some ⟨d.2.2.1.1, [.seq .str 0 d.2.2.1.2.1]⟩])) noS))]) 37 2 (ltab [(5, mkG sh43_1_l5 [0, 3, 4] (outT [(.exit 0, [3])]) (fun d K => l5 d.2.1.2.1 d.2.1.2.2.1 d.2.1.2.2.2.1 d.2.1.2.2.2.2.1 d.2.2.1.2.1 (fun (y5 : List Int) => K (.exit 0) [.tv (.lf (.full 2))] [some ⟨d.2.1.1, [.int .i64 d.2.1.2.1, .int .i64 d.2.1.2.2.1, .int .i64 d.2.1.2.2.2.1, .int .i64 d.2.1.2.2.2.2.1, .full 1]⟩, some ⟨d.2.2.1.1, [.seq .str 0 d.2.2.1.2.1]⟩, some ⟨false, [.seq (.int .i64) 0 y5]⟩]) F d.1.2.2.1 d.2.2.2.1.2.1))]) code43 Try.f43.results.toList (encT sh43_1.vs d.1) (encH sh43_1.h d.2) K = (fun (a1 : Int) (a2 : Int) (a3 : Int) (a4 : Int) (a5 : List ByteArray) (K0 : (List Int → Option Res)) => l5 a1 a2 a3 a4 a5 (fun x9 => K0 x9) F a1 []) d.2.1.2.1 d.2.1.2.2.1 d.2.1.2.2.2.1 d.2.1.2.2.2.2.1 d.2.2.1.2.1 (fun (y5 : List Int) => K [.lf (.full 2)] [some ⟨d.2.1.1, [.int .i64 d.2.1.2.1, .int .i64 d.2.1.2.2.1, .int .i64 d.2.1.2.2.2.1, .int .i64 d.2.1.2.2.2.2.1, .full 1]⟩, some ⟨d.2.2.1.1, [.seq .str 0 d.2.2.1.2.1]⟩, some ⟨false, [.seq (.int .i64) 0 y5]⟩]) := by kernel_rfl
theorem E43_1 (F : Nat) (d : sh43_1.den) (K : KF) : evBody Try.prog (T43_1 F) 37 2 (LT43_1 F) code43 Try.f43.results.toList (encT sh43_1.vs d.1) (encH sh43_1.h d.2) K = f43_1 F d.2.1.2.1 d.2.1.2.2.1 d.2.1.2.2.2.1 d.2.1.2.2.2.2.1 d.2.2.1.2.1 (fun (y5 : List Int) => K [.lf (.full 2)] [some ⟨d.2.1.1, [.int .i64 d.2.1.2.1, .int .i64 d.2.1.2.2.1, .int .i64 d.2.1.2.2.2.1, .int .i64 d.2.1.2.2.2.2.1, .full 1]⟩, some ⟨d.2.2.1.1, [.seq .str 0 d.2.2.1.2.1]⟩, some ⟨false, [.seq (.int .i64) 0 y5]⟩]) := Eq.mp (by kernel_rfl) (E43_1g F (f82_1 F) (f43_1_l5 F)  d K)
theorem S43_1_ok (F : Nat) (o : Summ) (ho : SoundFn Try.prog 43 o) : SoundFn Try.prog 43 (S43_1 F o) :=
  soundFn_of (fn := Try.f43) (c := code43) (by kernel_rfl) (tab_cons (S82_1_ok F _ (noS_sound enter82)) tab_nil) (by kernel_rfl) (by kernel_rfl) ho (by rw [loops43]; exact (loopsOK_cons (by kernel_rfl) (L43_1_5 F) loopsOK_nil)) (by rw [scopes43]; exact scopesOK_nil) (E43_1 F)
end Go.Proofs.Ytjlolgpbidfmeaa.X
end

section
namespace Go.Proofs.Ytjlolgpbidfmeaa.X
open Go Go.Proofs.Ytjlolgpbidfmeaa.Ev Go.Proofs
set_option linter.unusedVariables false
/-! pentimentolaw12.TreeSets -/
noncomputable def f8_1_l8 {β : Type} (F : Nat) (v9 : List Int) (v10 : List (Int × ByteArray)) (v11 : Int) (v12 : Int) (v13 : Int) (v14 : Int) (v16 : Int) (v17 : Int) (v18 : Int) (v19 : Int) (K0 : List ByteArray → List ByteArray → Option β) (K1 : List ByteArray → List ByteArray → Option β) : Nat → Int → List ByteArray → List ByteArray → Option β
  | 0, _, _, _ => none
  | k + 1, v8, v15, v20 => cond (decide (v8 < ((v10.length : Nat) : Int))) (cond (decide ((0 : Int) ≤ v8 ∧ v8 < ((v10.length : Nat) : Int))) (cond (decide (0 + v8.toNat < v10.length)) (cond (decide ((0 : Int) ≤ v8 ∧ v8 < ((v10.length : Nat) : Int))) (cond (decide (0 + v8.toNat < v10.length)) (f40_1 F ((v10.getD (0 + v8.toNat) (0, ByteArray.empty)).1) ((v10.getD (0 + v8.toNat) (0, ByteArray.empty)).2) v16 v17 v18 v19 v20 (fun x21 x22 => cond (x21 == 0) (cond (decide ((v10.getD (0 + v8.toNat) (0, ByteArray.empty)).1 < 0)) (K0 v15 x22) (cond (decide ((v10.getD (0 + v8.toNat) (0, ByteArray.empty)).1 ≥ ((v15.length : Nat) : Int))) (K0 v15 x22) (cond (decide ((0 : Int) ≤ v8 ∧ v8 < ((v10.length : Nat) : Int))) (cond (decide (0 + v8.toNat < v10.length)) (cond (decide ((0 : Int) ≤ (v10.getD (0 + v8.toNat) (0, ByteArray.empty)).1 ∧ (v10.getD (0 + v8.toNat) (0, ByteArray.empty)).1 < ((v15.length : Nat) : Int))) (cond (decide (0 + (((v10.getD (0 + v8.toNat) (0, ByteArray.empty)).1).toNat) < v15.length)) (f8_1_l8 F v9 v10 v11 v12 v13 v14 v16 v17 v18 v19 K0 K1 k (IntKind.i64.wrap (v8 + 1)) (v15.set (0 + (((v10.getD (0 + v8.toNat) (0, ByteArray.empty)).1).toNat)) ((v10.getD (0 + v8.toNat) (0, ByteArray.empty)).2)) x22) none) none) none) none))) (f8_1_l8 F v9 v10 v11 v12 v13 v14 v16 v17 v18 v19 K0 K1 k (IntKind.i64.wrap (v8 + 1)) v15 x22)) ) none) none) none) none) (K1 v15 v20)
noncomputable def f8_1 {β : Type} (F : Nat) (a1 : Int) (a2 : Int) (a3 : Int) (a4 : Int) (a5 : List Int) (a6 : List (Int × ByteArray)) (K0 : Bool → Option β) : Option β := f26_1 F a1 a2 a3 a4 (fun x1 => cond (!x1) (f28_1 F  (fun x2 => K0 x2) ) (f27_1 F a1 a2 a3 a4 (fun x3 => cond (!x3) (f28_1 F  (fun x4 => K0 x4) ) (cond (decide (((a6.length : Nat) : Int) > 30)) (f28_1 F  (fun x5 => K0 x5) ) (f29_1 F a1 a2 a3 a4 a5 (fun x6 => f30_9738 F a1 a2 a3 a4 x6 (K0 false) (K0 false) (K0 false) (fun x7 => f8_1_l8 F a5 a6 a1 a2 a3 a4 a1 a2 a3 a4 (fun x23 x24 => K0 false) (fun x25 x26 => f30_9738 F a1 a2 a3 a4 x25 (K0 false) (K0 false) (K0 false) (fun x27 => f42_1 F a1 a2 a3 a4 x26 (fun x28 => f42_1 F a1 a2 a3 a4 x27 (fun x29 => f41_1 F x28 x29 (fun x30 => cond x30 (f43_1 F a1 a2 a3 a4 x26 (fun x31 => cond (((x31.length : Nat) : Int) == 0) (f28_1 F  (fun x32 => K0 x32) ) (K0 false)) ) (K0 false)) ) ) ) ) F 0 x6 x7) ) ))) )) 
def sh8_1 : Sh := ⟨[.agg [.int .i64, .int .i64, .int .i64, .int .i64], .lf (.full 0), .lf (.full 1)], [some ⟨none, [.seq (.int .u8) 0]⟩, some ⟨none, [.seq (.pair (.int .i64) .str) 0]⟩]⟩
noncomputable def S8_1 (F : Nat) (o : Summ) : Summ := mkS sh8_1 (fun d K => f8_1 F d.1.1.1 d.1.1.2.1 d.1.1.2.2.1 d.1.1.2.2.2.1 d.2.1.2.1 d.2.2.1.2.1 (fun (y0 : Bool) => K [.lf (.bool y0)] [some ⟨d.2.1.1, [.seq (.int .u8) 0 d.2.1.2.1]⟩, some ⟨d.2.2.1.1, [.seq (.pair (.int .i64) .str) 0 d.2.2.1.2.1]⟩])) o
noncomputable def code8 : Code := bodyOf Try.f8
noncomputable def b8_0 : Code := cB (cB (cR (cL (cR (cR (cR (cR (cR (code8)))))))))
theorem scopes8 : scopesOf code8 = [] := by kernel_rfl
theorem loops8 : loopsOf code8 = [b8_0] := by kernel_rfl
theorem enter8 : ∀ args w, (callFunc 8 args).run Try.prog w = .ok (.enter 8 args) w := enter_of (fn := Try.f8) (by kernel_rfl) (by kernel_rfl) (by kernel_rfl)
noncomputable def T8_1 (F : Nat) : FuncId → Option Summ := tab [(26, (S26_1 F noS)), (27, (S27_1 F noS)), (28, (S28_1 F noS)), (29, (S29_1 F noS)), (30, (S30_9738 F noS)), (40, (S40_1 F noS)), (41, (S41_1 F noS)), (42, (S42_1 F noS)), (43, (S43_1 F noS))]
def sh8_1_l8 : Sh := ⟨[.lf (.full 1), .lf (.ptr 2 0), .lf (.full 3), .lf (.ptr 4 0), .lf (.int .i64)], [some ⟨none, [.seq (.int .u8) 0]⟩, some ⟨none, [.seq (.pair (.int .i64) .str) 0]⟩, some ⟨some false, [.int .i64, .int .i64, .int .i64, .int .i64]⟩, some ⟨some false, [.seq .str 0]⟩, some ⟨some false, [.int .i64, .int .i64, .int .i64, .int .i64, .full 5]⟩, some ⟨some false, [.seq .str 0]⟩]⟩
noncomputable def G8_1_8 (F k : Nat) : LoopS := mkG sh8_1_l8 [2, 3, 7, 8, 10] (outT [(.exit 0, [3, 7, 8]), (.ret, [6])]) (fun d K => f8_1_l8 F d.2.1.2.1 d.2.2.1.2.1 d.2.2.2.1.2.1 d.2.2.2.1.2.2.1 d.2.2.2.1.2.2.2.1 d.2.2.2.1.2.2.2.2.1 d.2.2.2.2.2.1.2.1 d.2.2.2.2.2.1.2.2.1 d.2.2.2.2.2.1.2.2.2.1 d.2.2.2.2.2.1.2.2.2.2.1 (fun (y7 : List ByteArray) (y12 : List ByteArray) => K .ret [.tv (.lf (.bool false))] [some ⟨d.2.1.1, [.seq (.int .u8) 0 d.2.1.2.1]⟩, some ⟨d.2.2.1.1, [.seq (.pair (.int .i64) .str) 0 d.2.2.1.2.1]⟩, some ⟨false, [.int .i64 d.2.2.2.1.2.1, .int .i64 d.2.2.2.1.2.2.1, .int .i64 d.2.2.2.1.2.2.2.1, .int .i64 d.2.2.2.1.2.2.2.2.1]⟩, some ⟨false, [.seq .str 0 y7]⟩, some ⟨false, [.int .i64 d.2.2.2.2.2.1.2.1, .int .i64 d.2.2.2.2.2.1.2.2.1, .int .i64 d.2.2.2.2.2.1.2.2.2.1, .int .i64 d.2.2.2.2.2.1.2.2.2.2.1, .full 5]⟩, some ⟨false, [.seq .str 0 y12]⟩]) (fun (y6 : List ByteArray) (y11 : List ByteArray) => K (.exit 0) [.tv (.lf (.ptr 2 0)), .tv (.lf (.full 3)), .tv (.lf (.ptr 4 0))] [some ⟨d.2.1.1, [.seq (.int .u8) 0 d.2.1.2.1]⟩, some ⟨d.2.2.1.1, [.seq (.pair (.int .i64) .str) 0 d.2.2.1.2.1]⟩, some ⟨false, [.int .i64 d.2.2.2.1.2.1, .int .i64 d.2.2.2.1.2.2.1, .int .i64 d.2.2.2.1.2.2.2.1, .int .i64 d.2.2.2.1.2.2.2.2.1]⟩, some ⟨false, [.seq .str 0 y6]⟩, some ⟨false, [.int .i64 d.2.2.2.2.2.1.2.1, .int .i64 d.2.2.2.2.2.1.2.2.1, .int .i64 d.2.2.2.2.2.1.2.2.2.1, .int .i64 d.2.2.2.2.2.1.2.2.2.2.1, .full 5]⟩, some ⟨false, [.seq .str 0 y11]⟩]) k d.1.2.2.2.2.1 d.2.2.2.2.1.2.1 d.2.2.2.2.2.2.1.2.1)
noncomputable def LT8_1 (F : Nat) : Nat → Option LoopS := ltab [(8, G8_1_8 F F)]
theorem L8_1_8g (F k : Nat) (c26_1 : Int → Int → Int → Int → (Bool → Option Res) → Option Res) (c27_1 : Int → Int → Int → Int → (Bool → Option Res) → Option Res) (c28_1 : (Bool → Option Res) → Option Res) (c29_1 : Int → Int → Int → Int → List Int → (List ByteArray → Option Res) → Option Res) (c30_9738 : Int → Int → Int → Int → List ByteArray → (Option Res) → (Option Res) → (Option Res) → (List ByteArray → Option Res) → Option Res) (c40_1 : Int → ByteArray → Int → Int → Int → Int → List ByteArray → (Int → List ByteArray → Option Res) → Option Res) (c41_1 : List ByteArray → List ByteArray → (Bool → Option Res) → Option Res) (c42_1 : Int → Int → Int → Int → List ByteArray → (List ByteArray → Option Res) → Option Res) (c43_1 : Int → Int → Int → Int → List ByteArray → (List Int → Option Res) → Option Res)  (l8 : List Int → List (Int × ByteArray) → Int → Int → Int → Int → Int → Int → Int → Int → (List ByteArray → List ByteArray → Option Res) → (List ByteArray → List ByteArray → Option Res) → Nat → Int → List ByteArray → List ByteArray → Option Res) (X8 : LoopS) (d : sh8_1_l8.den) (K : KL) : (fun (v9 : List Int) (v10 : List (Int × ByteArray)) (v11 : Int) (v12 : Int) (v13 : Int) (v14 : Int) (v16 : Int) (v17 : Int) (v18 : Int) (v19 : Int) (K0 : (List ByteArray → List ByteArray → Option Res)) (K1 : (List ByteArray → List ByteArray → Option Res)) (k : Nat) (v8 : Int) (v15 : List ByteArray) (v20 : List ByteArray) => cond (decide (v8 < ((v10.length : Nat) : Int))) (cond (decide ((0 : Int) ≤ v8 ∧ v8 < ((v10.length : Nat) : Int))) (cond (decide (0 + v8.toNat < v10.length)) (cond (decide ((0 : Int) ≤ v8 ∧ v8 < ((v10.length : Nat) : Int))) (cond (decide (0 + v8.toNat < v10.length)) (c40_1 ((v10.getD (0 + v8.toNat) (0, ByteArray.empty)).1) ((v10.getD (0 + v8.toNat) (0, ByteArray.empty)).2) v16 v17 v18 v19 v20 (fun x21 x22 => cond (x21 == 0) (cond (decide ((v10.getD (0 + v8.toNat) (0, ByteArray.empty)).1 < 0)) (K0 v15 x22) (cond (decide ((v10.getD (0 + v8.toNat) (0, ByteArray.empty)).1 ≥ ((v15.length : Nat) : Int))) (K0 v15 x22) (cond (decide ((0 : Int) ≤ v8 ∧ v8 < ((v10.length : Nat) : Int))) (cond (decide (0 + v8.toNat < v10.length)) (cond (decide ((0 : Int) ≤ (v10.getD (0 + v8.toNat) (0, ByteArray.empty)).1 ∧ (v10.getD (0 + v8.toNat) (0, ByteArray.empty)).1 < ((v15.length : Nat) : Int))) (cond (decide (0 + (((v10.getD (0 + v8.toNat) (0, ByteArray.empty)).1).toNat) < v15.length)) (l8 v9 v10 v11 v12 v13 v14 v16 v17 v18 v19 K0 K1 k (IntKind.i64.wrap (v8 + 1)) (v15.set (0 + (((v10.getD (0 + v8.toNat) (0, ByteArray.empty)).1).toNat)) ((v10.getD (0 + v8.toNat) (0, ByteArray.empty)).2)) x22) none) none) none) none))) (l8 v9 v10 v11 v12 v13 v14 v16 v17 v18 v19 K0 K1 k (IntKind.i64.wrap (v8 + 1)) v15 x22)) ) none) none) none) none) (K1 v15 v20)) d.2.1.2.1 d.2.2.1.2.1 d.2.2.2.1.2.1 d.2.2.2.1.2.2.1 d.2.2.2.1.2.2.2.1 d.2.2.2.1.2.2.2.2.1 d.2.2.2.2.2.1.2.1 d.2.2.2.2.2.1.2.2.1 d.2.2.2.2.2.1.2.2.2.1 d.2.2.2.2.2.1.2.2.2.2.1 (fun (y7 : List ByteArray) (y12 : List ByteArray) => K .ret [.tv (.lf (.bool false))] [some ⟨d.2.1.1, [.seq (.int .u8) 0 d.2.1.2.1]⟩, some ⟨d.2.2.1.1, [.seq (.pair (.int .i64) .str) 0 d.2.2.1.2.1]⟩, some ⟨false, [.int .i64 d.2.2.2.1.2.1, .int .i64 d.2.2.2.1.2.2.1, .int .i64 d.2.2.2.1.2.2.2.1, .int .i64 d.2.2.2.1.2.2.2.2.1]⟩, some ⟨false, [.seq .str 0 y7]⟩, some ⟨false, [.int .i64 d.2.2.2.2.2.1.2.1, .int .i64 d.2.2.2.2.2.1.2.2.1, .int .i64 d.2.2.2.2.2.1.2.2.2.1, .int .i64 d.2.2.2.2.2.1.2.2.2.2.1, .full 5]⟩, some ⟨false, [.seq .str 0 y12]⟩]) (fun (y6 : List ByteArray) (y11 : List ByteArray) => K (.exit 0) [.tv (.lf (.ptr 2 0)), .tv (.lf (.full 3)), .tv (.lf (.ptr 4 0))] [some ⟨d.2.1.1, [.seq (.int .u8) 0 d.2.1.2.1]⟩, some ⟨d.2.2.1.1, [.seq (.pair (.int .i64) .str) 0 d.2.2.1.2.1]⟩, some ⟨false, [.int .i64 d.2.2.2.1.2.1, .int .i64 d.2.2.2.1.2.2.1, .int .i64 d.2.2.2.1.2.2.2.1, .int .i64 d.2.2.2.1.2.2.2.2.1]⟩, some ⟨false, [.seq .str 0 y6]⟩, some ⟨false, [.int .i64 d.2.2.2.2.2.1.2.1, .int .i64 d.2.2.2.2.2.1.2.2.1, .int .i64 d.2.2.2.2.2.1.2.2.2.1, .int .i64 d.2.2.2.2.2.1.2.2.2.2.1, .full 5]⟩, some ⟨false, [.seq .str 0 y11]⟩]) k d.1.2.2.2.2.1 d.2.2.2.2.1.2.1 d.2.2.2.2.2.2.1.2.1 = roundOf Try.prog (tab [(26, (mkS sh26_1 (fun d K => c26_1 d.1.1.1 d.1.1.2.1 d.1.1.2.2.1 d.1.1.2.2.2.1 (fun (y0 : Bool) => K [.lf (.bool y0)] [])) noS)), (27, (mkS sh27_1 (fun d K => c27_1 d.1.1.1 d.1.1.2.1 d.1.1.2.2.1 d.1.1.2.2.2.1 (fun (y0 : Bool) => K [.lf (.bool y0)] [])) noS)), (28, (mkS sh28_1 (fun d K => c28_1 (fun (y0 : Bool) => K [.lf (.bool y0)] [])) noS)), (29, (mkS sh29_1 (fun d K => c29_1 d.1.1.1 d.1.1.2.1 d.1.1.2.2.1 d.1.1.2.2.2.1 d.2.1.2.1 (fun (y1 : List ByteArray) => K [.lf (.full 1)] [some ⟨d.2.1.1, [.seq (.int .u8) 0 d.2.1.2.1]⟩, some ⟨false, [.seq .str 0 y1]⟩])) noS)), (30, (mkS sh30_9738 (fun d K => c30_9738 d.1.1.1 d.1.1.2.1 d.1.1.2.2.1 d.1.1.2.2.2.1 d.2.1.2.1 (K [.lf (.nilp), .lf (.int .i64 12)] [some ⟨d.2.1.1, [.seq .str 0 d.2.1.2.1]⟩]) (K [.lf (.nilp), .lf (.int .i64 8)] [some ⟨d.2.1.1, [.seq .str 0 d.2.1.2.1]⟩]) (K [.lf (.nilp), .lf (.int .i64 4)] [some ⟨d.2.1.1, [.seq .str 0 d.2.1.2.1]⟩]) (fun (y6 : List ByteArray) => K [.lf (.ptr 1 0), .lf (.int .i64 0)] [some ⟨d.2.1.1, [.seq .str 0 d.2.1.2.1]⟩, some ⟨false, [.int .i64 d.1.1.1, .int .i64 d.1.1.2.1, .int .i64 d.1.1.2.2.1, .int .i64 d.1.1.2.2.2.1, .full 2]⟩, some ⟨false, [.seq .str 0 y6]⟩])) noS)), (40, (mkS sh40_1 (fun d K => c40_1 d.1.2.1 d.1.2.2.1 d.2.1.2.1 d.2.1.2.2.1 d.2.1.2.2.2.1 d.2.1.2.2.2.2.1 d.2.2.1.2.1 (fun (y0 : Int) (y5 : List ByteArray) => K [.lf (.int .i64 y0)] [some ⟨d.2.1.1, [.int .i64 d.2.1.2.1, .int .i64 d.2.1.2.2.1, .int .i64 d.2.1.2.2.2.1, .int .i64 d.2.1.2.2.2.2.1, .full 1]⟩, some ⟨false, [.seq .str 0 y5]⟩])) noS)), (41, (mkS sh41_1 (fun d K => c41_1 d.2.1.2.1 d.2.2.1.2.1 (fun (y0 : Bool) => K [.lf (.bool y0)] [some ⟨d.2.1.1, [.seq .str 0 d.2.1.2.1]⟩, some ⟨d.2.2.1.1, [.seq .str 0 d.2.2.1.2.1]⟩])) noS)), (42, (mkS sh42_1 (fun d K => c42_1 d.2.1.2.1 d.2.1.2.2.1 d.2.1.2.2.2.1 d.2.1.2.2.2.2.1 d.2.2.1.2.1 (fun (y5 : List ByteArray) => K [.lf (.full 2)] [some ⟨d.2.1.1, [.int .i64 d.2.1.2.1, .int .i64 d.2.1.2.2.1, .int .i64 d.2.1.2.2.2.1, .int .i64 d.2.1.2.2.2.2.1, .full 1]⟩, some ⟨d.2.2.1.1, [.seq .str 0 d.2.2.1.2.1]⟩, some ⟨false, [.seq .str 0 y5]⟩])) noS)), (43, (mkS sh43_1 (fun d K => c43_1 d.2.1.2.1 d.2.1.2.2.1 d.2.1.2.2.2.1 d.2.1.2.2.2.2.1 d.2.2.1.2.1 (fun (y5 : List Int) => K [.lf (.full 2)] [some ⟨d.2.1.1, [.int .i64 d.2.1.2.1, .int .i64 d.2.1.2.2.1, .int .i64 d.2.1.2.2.2.1, .int .i64 d.2.1.2.2.2.2.1, .full 1]⟩, some ⟨d.2.2.1.1, [.seq .str 0 d.2.2.1.2.1]⟩, some ⟨false, [.seq (.int .i64) 0 y5]⟩])) noS))]) 99 2 (ltab [(8, X8)]) (mkG sh8_1_l8 [2, 3, 7, 8, 10] (outT [(.exit 0, [3, 7, 8]), (.ret, [6])]) (fun d K => l8 d.2.1.2.1 d.2.2.1.2.1 d.2.2.2.1.2.1 d.2.2.2.1.2.2.1 d.2.2.2.1.2.2.2.1 d.2.2.2.1.2.2.2.2.1 d.2.2.2.2.2.1.2.1 d.2.2.2.2.2.1.2.2.1 d.2.2.2.2.2.1.2.2.2.1 d.2.2.2.2.2.1.2.2.2.2.1 (fun (y7 : List ByteArray) (y12 : List ByteArray) => K .ret [.tv (.lf (.bool false))] [some ⟨d.2.1.1, [.seq (.int .u8) 0 d.2.1.2.1]⟩, some ⟨d.2.2.1.1, [.seq (.pair (.int .i64) .str) 0 d.2.2.1.2.1]⟩, some ⟨false, [.int .i64 d.2.2.2.1.2.1, .int .i64 d.2.2.2.1.2.2.1, .int .i64 d.2.2.2.1.2.2.2.1, .int .i64 d.2.2.2.1.2.2.2.2.1]⟩, some ⟨false, [.seq .str 0 y7]⟩, some ⟨false, [.int .i64 d.2.2.2.2.2.1.2.1, .int .i64 d.2.2.2.2.2.1.2.2.1, .int .i64 d.2.2.2.2.2.1.2.2.2.1, .int .i64 d.2.2.2.2.2.1.2.2.2.2.1, .full 5]⟩, some ⟨false, [.seq .str 0 y12]⟩]) (fun (y6 : List ByteArray) (y11 : List ByteArray) => K (.exit 0) [.tv (.lf (.ptr 2 0)), .tv (.lf (.full 3)), .tv (.lf (.ptr 4 0))] [some ⟨d.2.1.1, [.seq (.int .u8) 0 d.2.1.2.1]⟩, some ⟨d.2.2.1.1, [.seq (.pair (.int .i64) .str) 0 d.2.2.1.2.1]⟩, some ⟨false, [.int .i64 d.2.2.2.1.2.1, .int .i64 d.2.2.2.1.2.2.1, .int .i64 d.2.2.2.1.2.2.2.1, .int .i64 d.2.2.2.1.2.2.2.2.1]⟩, some ⟨false, [.seq .str 0 y6]⟩, some ⟨false, [.int .i64 d.2.2.2.2.2.1.2.1, .int .i64 d.2.2.2.2.2.1.2.2.1, .int .i64 d.2.2.2.2.2.1.2.2.2.1, .int .i64 d.2.2.2.2.2.1.2.2.2.2.1, .full 5]⟩, some ⟨false, [.seq .str 0 y11]⟩]) k d.1.2.2.2.2.1 d.2.2.2.2.1.2.1 d.2.2.2.2.2.2.1.2.1)) b8_0 (encT sh8_1_l8.vs d.1) (encH sh8_1_l8.h d.2) K := by kernel_rfl
theorem L8_1_8 (F : Nat) : LoopOK Try.prog (T8_1 F) 99 2 (LT8_1 F) (G8_1_8 F F) b8_0 :=
  loopOK_of (s := sh8_1_l8) (live := [2, 3, 7, 8, 10]) (out := (outT [(.exit 0, [3, 7, 8]), (.ret, [6])])) (fun k d K => f8_1_l8 F d.2.1.2.1 d.2.2.1.2.1 d.2.2.2.1.2.1 d.2.2.2.1.2.2.1 d.2.2.2.1.2.2.2.1 d.2.2.2.1.2.2.2.2.1 d.2.2.2.2.2.1.2.1 d.2.2.2.2.2.1.2.2.1 d.2.2.2.2.2.1.2.2.2.1 d.2.2.2.2.2.1.2.2.2.2.1 (fun (y7 : List ByteArray) (y12 : List ByteArray) => K .ret [.tv (.lf (.bool false))] [some ⟨d.2.1.1, [.seq (.int .u8) 0 d.2.1.2.1]⟩, some ⟨d.2.2.1.1, [.seq (.pair (.int .i64) .str) 0 d.2.2.1.2.1]⟩, some ⟨false, [.int .i64 d.2.2.2.1.2.1, .int .i64 d.2.2.2.1.2.2.1, .int .i64 d.2.2.2.1.2.2.2.1, .int .i64 d.2.2.2.1.2.2.2.2.1]⟩, some ⟨false, [.seq .str 0 y7]⟩, some ⟨false, [.int .i64 d.2.2.2.2.2.1.2.1, .int .i64 d.2.2.2.2.2.1.2.2.1, .int .i64 d.2.2.2.2.2.1.2.2.2.1, .int .i64 d.2.2.2.2.2.1.2.2.2.2.1, .full 5]⟩, some ⟨false, [.seq .str 0 y12]⟩]) (fun (y6 : List ByteArray) (y11 : List ByteArray) => K (.exit 0) [.tv (.lf (.ptr 2 0)), .tv (.lf (.full 3)), .tv (.lf (.ptr 4 0))] [some ⟨d.2.1.1, [.seq (.int .u8) 0 d.2.1.2.1]⟩, some ⟨d.2.2.1.1, [.seq (.pair (.int .i64) .str) 0 d.2.2.1.2.1]⟩, some ⟨false, [.int .i64 d.2.2.2.1.2.1, .int .i64 d.2.2.2.1.2.2.1, .int .i64 d.2.2.2.1.2.2.2.1, .int .i64 d.2.2.2.1.2.2.2.2.1]⟩, some ⟨false, [.seq .str 0 y6]⟩, some ⟨false, [.int .i64 d.2.2.2.2.2.1.2.1, .int .i64 d.2.2.2.2.2.1.2.2.1, .int .i64 d.2.2.2.2.2.1.2.2.2.1, .int .i64 d.2.2.2.2.2.1.2.2.2.2.1, .full 5]⟩, some ⟨false, [.seq .str 0 y11]⟩]) k d.1.2.2.2.2.1 d.2.2.2.2.1.2.1 d.2.2.2.2.2.2.1.2.1) F (fun d K => by kernel_rfl)  (fun k d K => Eq.mp (by kernel_rfl) (L8_1_8g F k (f26_1 F) (f27_1 F) (f28_1 F) (f29_1 F) (f30_9738 F) (f40_1 F) (f41_1 F) (f42_1 F) (f43_1 F)  (f8_1_l8 F) (G8_1_8 F F) d K))
theorem E8_1g (F : Nat) (c26_1 : Int → Int → Int → Int → (Bool → Option Res) → Option Res) (c27_1 : Int → Int → Int → Int → (Bool → Option Res) → Option Res) (c28_1 : (Bool → Option Res) → Option Res) (c29_1 : Int → Int → Int → Int → List Int → (List ByteArray → Option Res) → Option Res) (c30_9738 : Int → Int → Int → Int → List ByteArray → (Option Res) → (Option Res) → (Option Res) → (List ByteArray → Option Res) → Option Res) (c40_1 : Int → ByteArray → Int → Int → Int → Int → List ByteArray → (Int → List ByteArray → Option Res) → Option Res) (c41_1 : List ByteArray → List ByteArray → (Bool → Option Res) → Option Res) (c42_1 : Int → Int → Int → Int → List ByteArray → (List ByteArray → Option Res) → Option Res) (c43_1 : Int → Int → Int → Int → List ByteArray → (List Int → Option Res) → Option Res) (l8 : List Int → List (Int × ByteArray) → Int → Int → Int → Int → Int → Int → Int → Int → (List ByteArray → List ByteArray → Option Res) → (List ByteArray → List ByteArray → Option Res) → Nat → Int → List ByteArray → List ByteArray → Option Res)  (d : sh8_1.den) (K : KF) : evBody Try.prog (tab [(26, (mkS sh26_1 (fun d K => c26_1 d.1.1.1 d.1.1.2.1 d.1.1.2.2.1 d.1.1.2.2.2.1 (fun (y0 : Bool) => K [.lf (.bool y0)] [])) noS)), (27, (mkS sh27_1 (fun d K => c27_1 d.1.1.1 d.1.1.2.1 d.1.1.2.2.1 d.1.1.2.2.2.1 (fun (y0 : Bool) => K [.lf (.bool y0)] [])) noS)), (28, (mkS sh28_1 (fun d K => c28_1 (fun (y0 : Bool) => K [.lf (.bool y0)] [])) noS)), (29, (mkS sh29_1 (fun d K => c29_1 d.1.1.1 d.1.1.2.1 d.1.1.2.2.1 d.1.1.2.2.2.1 d.2.1.2.1 (fun (y1 : List ByteArray) => K [.lf (.full 1)] [some ⟨d.2.1.1, [.seq (.int .u8) 0 d.2.1.2.1]⟩, some ⟨false, [.seq .str 0 y1]⟩])) noS)), (30, (mkS sh30_9738 (fun d K => c30_9738 d.1.1.1 d.1.1.2.1 d.1.1.2.2.1 d.1.1.2.2.2.1 d.2.1.2.1 (K [.lf (.nilp), .lf (.int .i64 12)] [some ⟨d.2.1.1, [.seq .str 0 d.2.1.2.1]⟩]) (K [.lf (.nilp), .lf (.int .i64 8)] [some ⟨d.2.1.1, [.seq .str 0 d.2.1.2.1]⟩]) (K [.lf (.nilp), .lf (.int .i64 4)] [some ⟨d.2.1.1, [.seq .str 0 d.2.1.2.1]⟩]) (fun (y6 : List ByteArray) => K [.lf (.ptr 1 0), .lf (.int .i64 0)] [some ⟨d.2.1.1, [.seq .str 0 d.2.1.2.1]⟩, some ⟨false, [.int .i64 d.1.1.1, .int .i64 d.1.1.2.1, .int .i64 d.1.1.2.2.1, .int .i64 d.1.1.2.2.2.1, .full 2]⟩, some ⟨false, [.seq .str 0 y6]⟩])) noS)), (40, (mkS sh40_1 (fun d K => c40_1 d.1.2.1 d.1.2.2.1 d.2.1.2.1 d.2.1.2.2.1 d.2.1.2.2.2.1 d.2.1.2.2.2.2.1 d.2.2.1.2.1 (fun (y0 : Int) (y5 : List ByteArray) => K [.lf (.int .i64 y0)] [some ⟨d.2.1.1, [.int .i64 d.2.1.2.1, .int .i64 d.2.1.2.2.1, .int .i64 d.2.1.2.2.2.1, .int .i64 d.2.1.2.2.2.2.1, .full 1]⟩, some ⟨false, [.seq .str 0 y5]⟩])) noS)), (41, (mkS sh41_1 (fun d K => c41_1 d.2.1.2.1 d.2.2.1.2.1 (fun (y0 : Bool) => K [.lf (.bool y0)] [some ⟨d.2.1.1, [.seq .str 0 d.2.1.2.1]⟩, some ⟨d.2.2.1.1, [.seq .str 0 d.2.2.1.2.1]⟩])) noS)), (42, (mkS sh42_1 (fun d K => c42_1 d.2.1.2.1 d.2.1.2.2.1 d.2.1.2.2.2.1 d.2.1.2.2.2.2.1 d.2.2.1.2.1 (fun (y5 : List ByteArray) => K [.lf (.full 2)] [some ⟨d.2.1.1, [.int .i64 d.2.1.2.1, .int .i64 d.2.1.2.2.1, .int .i64 d.2.1.2.2.2.1, .int .i64 d.2.1.2.2.2.2.1, .full 1]⟩, some ⟨d.2.2.1.1, [.seq .str 0 d.2.2.1.2.1]⟩, some ⟨false, [.seq .str 0 y5]⟩])) noS)), (43, (mkS sh43_1 (fun d K => c43_1 d.2.1.2.1 d.2.1.2.2.1 d.2.1.2.2.2.1 d.2.1.2.2.2.2.1 d.2.2.1.2.1 (fun (y5 : List Int) => K [.lf (.full 2)] [some ⟨d.2.1.1, [.int .i64 d.2.1.2.1, .int .i64 d.2.1.2.2.1, .int .i64 d.2.1.2.2.2.1, .int .i64 d.2.1.2.2.2.2.1, .full 1]⟩, some ⟨d.2.2.1.1, [.seq .str 0 d.2.2.1.2.1]⟩, some ⟨false, [.seq (.int .i64) 0 y5]⟩])) noS))]) 99 2 (ltab [(8, mkG sh8_1_l8 [2, 3, 7, 8, 10] (outT [(.exit 0, [3, 7, 8]), (.ret, [6])]) (fun d K => l8 d.2.1.2.1 d.2.2.1.2.1 d.2.2.2.1.2.1 d.2.2.2.1.2.2.1 d.2.2.2.1.2.2.2.1 d.2.2.2.1.2.2.2.2.1 d.2.2.2.2.2.1.2.1 d.2.2.2.2.2.1.2.2.1 d.2.2.2.2.2.1.2.2.2.1 d.2.2.2.2.2.1.2.2.2.2.1 (fun (y7 : List ByteArray) (y12 : List ByteArray) => K .ret [.tv (.lf (.bool false))] [some ⟨d.2.1.1, [.seq (.int .u8) 0 d.2.1.2.1]⟩, some ⟨d.2.2.1.1, [.seq (.pair (.int .i64) .str) 0 d.2.2.1.2.1]⟩, some ⟨false, [.int .i64 d.2.2.2.1.2.1, .int .i64 d.2.2.2.1.2.2.1, .int .i64 d.2.2.2.1.2.2.2.1, .int .i64 d.2.2.2.1.2.2.2.2.1]⟩, some ⟨false, [.seq .str 0 y7]⟩, some ⟨false, [.int .i64 d.2.2.2.2.2.1.2.1, .int .i64 d.2.2.2.2.2.1.2.2.1, .int .i64 d.2.2.2.2.2.1.2.2.2.1, .int .i64 d.2.2.2.2.2.1.2.2.2.2.1, .full 5]⟩, some ⟨false, [.seq .str 0 y12]⟩]) (fun (y6 : List ByteArray) (y11 : List ByteArray) => K (.exit 0) [.tv (.lf (.ptr 2 0)), .tv (.lf (.full 3)), .tv (.lf (.ptr 4 0))] [some ⟨d.2.1.1, [.seq (.int .u8) 0 d.2.1.2.1]⟩, some ⟨d.2.2.1.1, [.seq (.pair (.int .i64) .str) 0 d.2.2.1.2.1]⟩, some ⟨false, [.int .i64 d.2.2.2.1.2.1, .int .i64 d.2.2.2.1.2.2.1, .int .i64 d.2.2.2.1.2.2.2.1, .int .i64 d.2.2.2.1.2.2.2.2.1]⟩, some ⟨false, [.seq .str 0 y6]⟩, some ⟨false, [.int .i64 d.2.2.2.2.2.1.2.1, .int .i64 d.2.2.2.2.2.1.2.2.1, .int .i64 d.2.2.2.2.2.1.2.2.2.1, .int .i64 d.2.2.2.2.2.1.2.2.2.2.1, .full 5]⟩, some ⟨false, [.seq .str 0 y11]⟩]) F d.1.2.2.2.2.1 d.2.2.2.2.1.2.1 d.2.2.2.2.2.2.1.2.1))]) code8 Try.f8.results.toList (encT sh8_1.vs d.1) (encH sh8_1.h d.2) K = (fun (a1 : Int) (a2 : Int) (a3 : Int) (a4 : Int) (a5 : List Int) (a6 : List (Int × ByteArray)) (K0 : (Bool → Option Res)) => c26_1 a1 a2 a3 a4 (fun x1 => cond (!x1) (c28_1  (fun x2 => K0 x2) ) (c27_1 a1 a2 a3 a4 (fun x3 => cond (!x3) (c28_1  (fun x4 => K0 x4) ) (cond (decide (((a6.length : Nat) : Int) > 30)) (c28_1  (fun x5 => K0 x5) ) (c29_1 a1 a2 a3 a4 a5 (fun x6 => c30_9738 a1 a2 a3 a4 x6 (K0 false) (K0 false) (K0 false) (fun x7 => l8 a5 a6 a1 a2 a3 a4 a1 a2 a3 a4 (fun x23 x24 => K0 false) (fun x25 x26 => c30_9738 a1 a2 a3 a4 x25 (K0 false) (K0 false) (K0 false) (fun x27 => c42_1 a1 a2 a3 a4 x26 (fun x28 => c42_1 a1 a2 a3 a4 x27 (fun x29 => c41_1 x28 x29 (fun x30 => cond x30 (c43_1 a1 a2 a3 a4 x26 (fun x31 => cond (((x31.length : Nat) : Int) == 0) (c28_1  (fun x32 => K0 x32) ) (K0 false)) ) (K0 false)) ) ) ) ) F 0 x6 x7) ) ))) )) ) d.1.1.1 d.1.1.2.1 d.1.1.2.2.1 d.1.1.2.2.2.1 d.2.1.2.1 d.2.2.1.2.1 (fun (y0 : Bool) => K [.lf (.bool y0)] [some ⟨d.2.1.1, [.seq (.int .u8) 0 d.2.1.2.1]⟩, some ⟨d.2.2.1.1, [.seq (.pair (.int .i64) .str) 0 d.2.2.1.2.1]⟩]) := by kernel_rfl
theorem E8_1 (F : Nat) (d : sh8_1.den) (K : KF) : evBody Try.prog (T8_1 F) 99 2 (LT8_1 F) code8 Try.f8.results.toList (encT sh8_1.vs d.1) (encH sh8_1.h d.2) K = f8_1 F d.1.1.1 d.1.1.2.1 d.1.1.2.2.1 d.1.1.2.2.2.1 d.2.1.2.1 d.2.2.1.2.1 (fun (y0 : Bool) => K [.lf (.bool y0)] [some ⟨d.2.1.1, [.seq (.int .u8) 0 d.2.1.2.1]⟩, some ⟨d.2.2.1.1, [.seq (.pair (.int .i64) .str) 0 d.2.2.1.2.1]⟩]) := Eq.mp (by kernel_rfl) (E8_1g F (f26_1 F) (f27_1 F) (f28_1 F) (f29_1 F) (f30_9738 F) (f40_1 F) (f41_1 F) (f42_1 F) (f43_1 F) (f8_1_l8 F)  d K)
theorem S8_1_ok (F : Nat) (o : Summ) (ho : SoundFn Try.prog 8 o) : SoundFn Try.prog 8 (S8_1 F o) :=
  soundFn_of (fn := Try.f8) (c := code8) (by kernel_rfl) (tab_cons (S26_1_ok F _ (noS_sound enter26)) (tab_cons (S27_1_ok F _ (noS_sound enter27)) (tab_cons (S28_1_ok F _ (noS_sound enter28)) (tab_cons (S29_1_ok F _ (noS_sound enter29)) (tab_cons (S30_9738_ok F _ (noS_sound enter30)) (tab_cons (S40_1_ok F _ (noS_sound enter40)) (tab_cons (S41_1_ok F _ (noS_sound enter41)) (tab_cons (S42_1_ok F _ (noS_sound enter42)) (tab_cons (S43_1_ok F _ (noS_sound enter43)) tab_nil))))))))) (by kernel_rfl) (by kernel_rfl) ho (by rw [loops8]; exact (loopsOK_cons (by kernel_rfl) (L8_1_8 F) loopsOK_nil)) (by rw [scopes8]; exact scopesOK_nil) (E8_1 F)
end Go.Proofs.Ytjlolgpbidfmeaa.X
end

section
/- A row's arguments, opened as typed values: slices, which are lent for reading. -/
namespace Go.Proofs.Ytjlolgpbidfmeaa.Ev
open Go Go.RowKit
set_option linter.unusedVariables false

theorem pick_list {α : Type} {n : Nat} {R : Nat → α → Prop} (h : ∀ i, i < n → ∃ z, R i z) : ∃ l : List α, l.length = n ∧ ∀ i z, l[i]? = some z → R i z := by
  induction n with
  | zero => exact ⟨[], rfl, fun i z h => by simp at h⟩
  | succ n ih =>
    obtain ⟨l, h1, h2⟩ := ih fun i hi => h i (by omega)
    obtain ⟨z, hz⟩ := h n (by omega)
    refine ⟨l ++ [z], by simp [h1], fun i y hy => ?_⟩
    by_cases hi : i < n
    · rw [List.getElem?_append_left (by omega)] at hy; exact h2 i y hy
    · rw [List.getElem?_append_right (by omega)] at hy
      have : i = n := by
        have := (List.getElem?_eq_some_iff.1 hy).1
        simp at this; omega
      subst this
      rw [h1, Nat.sub_self] at hy
      cases hy; exact hz

theorem addr_add2 (a : Addr) (x y : Nat) : (a.add x).add y = a.add (x + y) := by
  unfold Addr.add
  by_cases hx : x = 0
  · subst hx; simp
  · by_cases hy : y = 0
    · subst hy; simp
    · simp [hx, hy, Nat.add_assoc]
theorem addr_add {a : Addr} (h : a.spot = none) (q : Nat) : a.add q = ⟨a.block, a.off + q, none⟩ := by
  cases a; simp only at h; subst h
  unfold Addr.add
  split
  · rename_i h; subst h; simp
  · simp

/-- What is known of an object that an argument shows. -/
structure Shown (w : World) (k : EK) (l : List k.den) (g : Gh) (v : Value) : Prop where
  len : l.length ≤ maxLen
  wf : ∀ x ∈ l, wfE k x
  obj : ∀ m, ObRel m g w ⟨true, [.seq k 0 l]⟩
  blk : ∀ b, g.addr = some b → b.1 < w.heap.size
  rel : ∀ (m : GM) id, m[id]? = some g → LRel m (.full id) v

theorem ghOf_ln (b : Option (Nat × Nat)) (sz : Nat) (k : EK) (l : List k.den) : (ghOf b sz [.seq k 0 l]).ln 0 = l.length ∧ (ghOf b sz [.seq k 0 l]).ew 0 = k.w := by
  obtain ⟨h1, h2⟩ := ghOf_seq b sz [.seq k 0 l] 0 k 0 l [] (drop0 _)
  exact ⟨h1.symm, h2.symm⟩

theorem shown_none (w : World) (k : EK) {a : Option Addr} : Shown w k [] (ghOf none 0 [.seq k 0 []]) (.slice a 0 0) := by
  refine ⟨Nat.zero_le _, fun x hx => (by cases hx), fun m => ⟨ghOf_seq _ _ _, [], ⟨[], [], rfl, ⟨.inl rfl, rfl⟩, rfl⟩, .inl ⟨rfl, rfl⟩⟩, fun b hb => (by cases hb), fun m id hid => ?_⟩
  exact ⟨_, hid, _, a, 0, hid, by rw [(ghOf_ln none 0 k []).1]; rfl, by rw [(ghOf_ln none 0 k []).1]; simp, fun c h => (by cases h), by rw [(ghOf_ln none 0 k []).1]; simp, .inl rfl⟩

section
variable {P : Program} {H : Type} {enc : TypeId × Value → H} {w : World} {held : Bool}

theorem open_slice {e t : TypeId} {sl : List SL} {k : EK} (conv : denL sl → k.den) (ht : P.underlying t = some (.slice e)) (hs : slOf P 8 e = some sl) (hc : P.cellsOf e = k.w) (hconv : ∀ y, k.of1 (encL sl y) = some (conv y))
    (hwf : ∀ y, wfL sl y → wfE k (conv y)) {r : Reach} {b0 : Nat} {v : Value} {d : DataW H} {ps : List MemPlace} (hv : Value.okWide P w r b0 t v) (h : DataW.Trod enc P w 0 (fun _ => true) held t v d ps) :
    ∃ (l : List k.den) (g : Gh), Shown w k l g v := by
  obtain ⟨a0, n0, c0, rfl⟩ := Go.WideShapes.okWide_slice ht hv
  obtain ⟨fuel, hf⟩ := h
  have hcells : (Value.slice a0 n0 c0).cells.toList = [.slice a0 n0 c0] := rfl
  rw [hcells] at hf
  rcases DataW.trod_slice ht hf with ⟨h1, _⟩ | ⟨a, len, cap, elems, rest, n, _, h1, hx, hb, hle, hmax, hlen, hel, hsp, _⟩
  · cases h1
    exact ⟨[], _, shown_none w k⟩
  · simp only [List.cons.injEq, Value.slice.injEq, and_true] at h1
    obtain ⟨rfl, rfl, rfl⟩ := h1
    obtain ⟨hrl, hr⟩ := hsp rfl
    by_cases hcap : c0 = 0
    · subst hcap
      have : n0 = 0 := by omega
      subst this
      exact ⟨[], _, shown_none w k⟩
    have each : ∀ i, i < c0 → ∃ z : k.den, wfE k z ∧ ∀ j, j < k.w → w.cell? (a.add (i * k.w + j)) = (k.cv z)[j]? := by
      intro i hi
      obtain ⟨y, hy⟩ : ∃ y, (w.cells? 0 (a.add (i * P.cellsOf e)) (P.cellsOf e)).bind (DataW.trod enc P w 0 (fun _ => true) held n e) = some y := by
        by_cases hil : i < n0
        · exact ⟨_, (hel i hil).trans (List.getElem?_eq_getElem (by omega))⟩
        · have h2 := hr (i - n0) (by omega)
          rw [show n0 + (i - n0) = i by omega] at h2
          exact ⟨_, h2.trans (List.getElem?_eq_getElem (by omega))⟩
      rw [hc, Option.bind_eq_some_iff] at hy
      obtain ⟨cs, hcs, hy⟩ := hy
      obtain ⟨d', o1, o2, _⟩ := slOf_open (m := []) 8 e sl n cs _ hs hy
      have hcv := of1_cells k (hconv d') o1
      obtain ⟨_, _, hget⟩ := World.cells?_some hcs
      refine ⟨conv d', hwf d' o2, fun j hj => ?_⟩
      have := hget j hj
      rw [hcv] at this
      rw [← this]
      have e9 : (a.add (i * k.w)).add j = a.add (i * k.w + j) := addr_add2 a _ _
      first | rw [e9] | rw [hc, e9]
    obtain ⟨l, hl1, hl2⟩ := pick_list (n := n0) (R := fun i z => wfE k z ∧ ∀ j, j < k.w → w.cell? (a.add (i * k.w + j)) = (k.cv z)[j]?) fun i hi => each i (by omega)
    have hwp := EK.w_pos k
    have cellOf : ∀ q, q < c0 * k.w → ∃ u, w.cell? (a.add q) = some u := by
      intro q hq
      have hdiv : q / k.w < c0 := Nat.div_lt_of_lt_mul (by rw [Nat.mul_comm]; exact hq)
      obtain ⟨z, _, hz⟩ := each (q / k.w) hdiv
      have h3 := hz (q % k.w) (Nat.mod_lt _ hwp)
      rw [Nat.mul_comm, Nat.div_add_mod] at h3
      have : q % k.w < (k.cv z).length := by rw [cv_length]; exact Nat.mod_lt _ hwp
      rw [List.getElem?_eq_getElem this] at h3
      exact ⟨_, h3⟩
    have hpos : 0 < c0 * k.w := Nat.mul_pos (by omega) hwp
    obtain ⟨blk, ty, fr, hblk, hspot, hget⟩ : ∃ blk ty fr, w.heap[a.block]? = some (.cells blk ty fr) ∧ a.spot = none ∧ ∀ q, w.cell? (a.add q) = blk[a.off + q]? := by
      obtain ⟨u, hu⟩ := cellOf 0 hpos
      rw [show a.add 0 = a by simp [Addr.add]] at hu
      unfold World.cell? at hu
      split at hu
      · rename_i c ty fr hh
        have hh' : w.heap[a.block]? = some (.cells c ty fr) := hh
        split at hu
        · cases hu
        · rename_i hsn
          have hsn' : a.spot = none := by
            cases hq : a.spot with
            | none => rfl
            | some _ => exact absurd (by simp [hq]) hsn
          refine ⟨c, ty, fr, hh', hsn', fun q => ?_⟩
          rw [addr_add hsn' q]
          unfold World.cell?
          simp only [hh']
          rfl
      · cases hu
    have hsize : a.off + c0 * k.w ≤ blk.size := by
      obtain ⟨u, hu⟩ := cellOf (c0 * k.w - 1) (by omega)
      rw [hget] at hu
      have := (Array.getElem?_eq_some_iff.1 hu).1
      omega
    obtain ⟨g1, g2⟩ := ghOf_ln (some (a.block, a.off)) blk.size k l
    have haddr : a = at_ (a.block, a.off) 0 := by
      cases a; simp only at hspot; subst hspot; simp [at_]
    have hcl : (cvs k l).length = n0 * k.w := by rw [cvs_length, hl1]
    have hmul : n0 * k.w ≤ c0 * k.w := Nat.mul_le_mul_right _ hle
    refine ⟨l, ghOf (some (a.block, a.off)) blk.size [.seq k 0 l], by omega, fun x hx => ?_, fun m => ⟨ghOf_seq _ _ _, cvs k l, ⟨cvs k l, [], (List.append_nil _).symm, ⟨.inl rfl, rfl⟩, rfl⟩, .inr ⟨(a.block, a.off), blk, ty, fr, rfl, hblk, rfl, ?_, fun j hj => ?_, fun h0 => by cases h0⟩⟩, fun b hb => ?_, fun m id hid => ?_⟩
    · obtain ⟨i, hi⟩ := List.getElem?_of_mem hx
      exact (hl2 i x hi).1
    · rw [hcl]; simp only [ghOf]; omega
    · rw [hcl] at hj
      have hdiv : j / k.w < n0 := Nat.div_lt_of_lt_mul (by rw [Nat.mul_comm]; exact hj)
      have hmod := Nat.mod_lt j hwp
      have h4 := (hl2 (j / k.w) (l.getD (j / k.w) k.zero) (by rw [List.getD_eq_getElem?_getD, List.getElem?_eq_getElem (by omega)]; rfl)).2 (j % k.w) hmod
      have h5 := cvs_getD k l (j / k.w) (by omega) (j % k.w) hmod
      rw [Nat.mul_comm, Nat.div_add_mod] at h4 h5
      rw [hget] at h4
      rw [h5]; exact h4
    · cases hb; exact (Array.getElem?_eq_some_iff.1 hblk).1
    · refine ⟨_, hid, _, some a, c0, hid, by rw [g1, hl1], by rw [g1]; omega, fun c h => (by cases h), by rw [g1]; simp, .inr ⟨(a.block, a.off), rfl, ?_, ?_⟩⟩
      · simp only [Nat.zero_mul, Nat.add_zero]; rw [← haddr]
      · rw [g2]; simp only [ghOf, Nat.zero_add, Nat.add_zero]; omega

/-- Arguments that are lent. -/
theorem inv_shown {m : GM} {h : Heap} (hl : m.length = h.length) (hq : ∀ (i : Nat) ob g, hget h i = some ob → m[i]? = some g → ob.ro = true ∧ ObRel m g w ob ∧ ∀ b, g.addr = some b → b.1 < w.heap.size) :
    Inv ⟨w, fun _ => False⟩ m h w :=
  ⟨hl, fun id ob g h1 h2 => (hq id ob g h1 h2).2.1, fun id ob g b h1 h2 h3 => by rw [(hq id ob g h1 h2).1]; exact ⟨fun h => h, (hq id ob g h1 h2).2.2 b h3⟩,
   fun i j oi oj gi gj b c _ h1 h2 h3 _ h5 h6 => (by rw [(hq i oi gi h1 h5).1] at h3; cases h3), Str.refl w, Nat.le_refl _, fun _ _ _ => rfl⟩

theorem inv_cons {m : GM} {h : Heap} {k : EK} {l : List k.den} {g : Gh} {v : Value} (hi : Inv ⟨w, fun _ => False⟩ m h w) (hro : ∀ (i : Nat) ob, hget h i = some ob → ob.ro = true) (hs : Shown w k l g v) :
    Inv ⟨w, fun _ => False⟩ (m ++ [g]) (h ++ [some ⟨true, [.seq k 0 l]⟩]) w ∧ (∀ (i : Nat) ob, hget (h ++ [some ⟨true, [.seq k 0 l]⟩]) i = some ob → ob.ro = true) ∧ LRel (m ++ [g]) (.full h.length) v := by
  have hro' : ∀ (i : Nat) ob, hget (h ++ [some ⟨true, [.seq k 0 l]⟩]) i = some ob → ob.ro = true := by
    intro i ob h1
    rcases hget_app h1 with ⟨_, h2⟩ | ⟨_, h2⟩
    · exact hro i ob h2
    · cases h2; rfl
  refine ⟨inv_shown (by simp [hi.len]) fun i ob g' h1 h2 => ⟨hro' i ob h1, ?_⟩, hro', ?_⟩
  · rcases hget_app h1 with ⟨hlt, h3⟩ | ⟨rfl, h3⟩
    · have h4 := gm_app_old (by rw [hi.len]; exact hlt) h2
      obtain ⟨o1, cs, o2, o3⟩ := hi.obs i ob g' h3 h4
      exact ⟨⟨o1, cs, o2.mono (pre_append _ _), o3⟩, fun b hb => hi.block_lt h3 h4 hb⟩
    · cases h3
      have : (m ++ [g])[h.length]? = some g := by rw [← hi.len]; exact gm_app_new
      rw [this] at h2; cases h2
      exact ⟨hs.obj _, hs.blk⟩
  · exact hs.rel _ _ (by rw [← hi.len]; exact gm_app_new)

end
end Go.Proofs.Ytjlolgpbidfmeaa.Ev
end

section
/- SHA-256: blocks; bytes that come in parts; the digest. -/
namespace Go.Proofs.Ytjlolgpbidfmeaa.X
open Go Go.Proofs.Ytjlolgpbidfmeaa.Ev
set_option linter.unusedVariables false

def sS1 (e : Int) : Int := ixor .u32 (ixor .u32 (rot e 6) (rot e 11)) (rot e 25)
def sS0 (a : Int) : Int := ixor .u32 (ixor .u32 (rot a 2) (rot a 13)) (rot a 22)
def t1 (e f g h k w : Int) : Int := IntKind.u32.wrap (IntKind.u32.wrap (IntKind.u32.wrap (IntKind.u32.wrap (h + sS1 e) + ixor .u32 (iand .u32 e f) (iand .u32 (ixor .u32 4294967295 e) g)) + k) + w)
def t2 (a b c : Int) : Int := IntKind.u32.wrap (sS0 a + ixor .u32 (ixor .u32 (iand .u32 a b) (iand .u32 a c)) (iand .u32 b c))

def stp (v : List Int) (k w : Int) : List Int := match v with
  | [a, b, c, d, e, f, g, h] => [IntKind.u32.wrap (t1 e f g h k w + t2 a b c), a, b, c, IntKind.u32.wrap (d + t1 e f g h k w), e, f, g]
  | v => v

def rds (kk ww : List Int) : Nat → Nat → List Int → List Int
  | 0, _, v => v
  | m + 1, i, v => rds kk ww m (i + 1) (stp v (kk.getD i 0) (ww.getD i 0))

def fin8 (s v : List Int) : List Int := match s, v with
  | [a, b, c, d, e, f, g, h], [a', b', c', d', e', f', g', h'] => [IntKind.u32.wrap (a' + a), IntKind.u32.wrap (b' + b), IntKind.u32.wrap (c' + c), IntKind.u32.wrap (d' + d), IntKind.u32.wrap (e' + e), IntKind.u32.wrap (f' + f), IntKind.u32.wrap (g' + g), IntKind.u32.wrap (h' + h)]
  | _, _ => []

def eight (s : List Int) : Prop := ∃ a b c d e f g h, s = [a, b, c, d, e, f, g, h]
theorem eight_of {s : List Int} (h : s.length = 8) : eight s := by
  match s, h with
  | [a, b, c, d, e, f, g, h], _ => exact ⟨a, b, c, d, e, f, g, h, rfl⟩

theorem stp_eight {v : List Int} (h : eight v) (k w : Int) : eight (stp v k w) := by
  obtain ⟨a, b, c, d, e, f, g, h, rfl⟩ := h
  exact ⟨_, _, _, _, _, _, _, _, rfl⟩
theorem rds_eight {kk ww : List Int} : ∀ (m i : Nat) {v : List Int}, eight v → eight (rds kk ww m i v)
  | 0, _, v, h => h
  | m + 1, i, v, h => rds_eight m (i + 1) (stp_eight h _ _)

/-- The numbers behind a block. -/
def blk (s b : List Int) : List Int := fin8 s (rds k64 (wds b) 64 0 s)
theorem blk_eight {s : List Int} (b : List Int) (h : eight s) : eight (blk s b) := by
  have h2 := rds_eight (kk := k64) (ww := wds b) 64 0 h
  obtain ⟨a, b', c, d, e, f, g, h, rfl⟩ := h
  obtain ⟨a', b'', c', d', e', f', g', h', h3⟩ := h2
  unfold blk
  rw [h3]
  exact ⟨_, _, _, _, _, _, _, _, rfl⟩

theorem k64_len : k64.length = 64 := rfl

theorem rdP {β : Type} {F : Nat} {b s z ww : List Int} {K : List Int → Option β} (hw : ww.length = 64) : ∀ (m i k : Nat) (v : List Int), eight v → i + m = 64 → m < k →
    f132_0_l3 F b s z k64 ww K k (i : Int) v = K (rds k64 ww m i v)
  | 0, i, k, v, he, hi, hk => by
    obtain ⟨k, rfl⟩ : ∃ j, k = j + 1 := ⟨k - 1, by omega⟩
    simp only [f132_0_l3]
    rw [cf (by omega)]; rfl
  | m + 1, i, k, v, he, hi, hk => by
    obtain ⟨k, rfl⟩ : ∃ j, k = j + 1 := ⟨k - 1, by omega⟩
    have e4 : IntKind.i64.wrap ((i : Int) + 1) = ((i + 1 : Nat) : Int) := by rw [w64 (by omega) (by omega)]; omega
    have ih := rdP (F := F) (b := b) (s := s) (z := z) (K := K) hw m (i + 1) k _ (stp_eight he (k64.getD i 0) (ww.getD i 0)) (by omega) (by omega)
    obtain ⟨va, vb, vc, vd, ve, vf, vg, vh, rfl⟩ := he
    simp only [f132_0_l3, e4, hw, Int.toNat_natCast]
    have q0 : i < k64.length := by rw [k64_len]; omega
    rw [ct (by omega), ct (by simp), ct (by simp), ct (by simp), ct (by simp), ct (by simp), ct (by simp), ct (by simp), ct (by simp), ct (by simp), ct (by omega), ct q0, ct (by omega), ct (by omega),
      turnP (by omega) (by omega), turnP (by omega) (by omega), turnP (by omega) (by omega), turnP (by omega) (by omega), turnP (by omega) (by omega), turnP (by omega) (by omega)]
    rw [ct (by simp), ct (by simp), ct (by simp)]
    exact ih

def adds (s : List Int) : Nat → Nat → List Int → List Int
  | 0, _, v => v
  | m + 1, i, v => adds s m (i + 1) (v.set i (IntKind.u32.wrap (v.getD i 0 + s.getD i 0)))

theorem addP {β : Type} {F : Nat} {b z s : List Int} {K : List Int → Option β} (hs : s.length = 8) : ∀ (m i k : Nat) (v : List Int), v.length = 8 → i + m = 8 → m < k →
    f132_0_l14 F b s z K k (i : Int) v = K (adds s m i v)
  | 0, i, k, v, he, hi, hk => by
    obtain ⟨k, rfl⟩ : ∃ j, k = j + 1 := ⟨k - 1, by omega⟩
    simp only [f132_0_l14]
    rw [cf (by omega)]; rfl
  | m + 1, i, k, v, he, hi, hk => by
    obtain ⟨k, rfl⟩ : ∃ j, k = j + 1 := ⟨k - 1, by omega⟩
    have e4 : IntKind.i64.wrap ((i : Int) + 1) = ((i + 1 : Nat) : Int) := by rw [w64 (by omega) (by omega)]; omega
    simp only [f132_0_l14, e4, hs, he, Int.toNat_natCast]
    rw [ct (by omega), ct (by omega), ct (by omega), ct (by omega), ct (by omega), ct (by omega), ct (by omega)]
    exact addP hs m (i + 1) k _ (by simp [he]) (by omega) (by omega)

theorem fnP {β : Type} {F : Nat} {b z s v : List Int} {K : List Int → Option β} (hF : 9 ≤ F) (hs : eight s) (hv : eight v) : f132_0_l14 F b s z K F 0 v = K (fin8 s v) := by
  obtain ⟨a, b', c, d, e, f, g, h, rfl⟩ := hs
  obtain ⟨va, vb, vc, vd, ve, vf, vg, vh, rfl⟩ := hv
  exact addP rfl 8 0 F _ rfl (by omega) (by omega)

theorem blkP {β : Type} {F : Nat} {s b : List Int} {K : List Int → Option β} (hF : 100 ≤ F) (hs : eight s) (hb : 64 ≤ b.length) : f132_1 F s b K = K (blk s b) := by
  simp only [f132_1]
  rw [ct ⟨hF, hb⟩]
  simp only [f132_0]
  have h1 := rdP (F := F) (b := b) (s := s) (z := [0, 0, 0, 0, 0, 0, 0, 0]) (K := fun x14 => f132_0_l14 F b s [0, 0, 0, 0, 0, 0, 0, 0] (fun x20 => K x20) F 0 x14) (wds_len b) 64 0 F s hs (by omega) (by omega)
  rw [show ((0 : Nat) : Int) = 0 from rfl] at h1
  rw [h1, fnP (by omega) hs (rds_eight 64 0 hs)]
  rfl

theorem rdR {β : Type} {F : Nat} {b s z ww : List Int} {K : Int → Int → Int → Int → Int → Int → Int → Int → Option β} {K' : List Int → Option β} (hK : ∀ a b c d e f g h, K a b c d e f g h = K' [a, b, c, d, e, f, g, h]) (hw : ww.length = 64) : ∀ (m i k : Nat) (va vb vc vd ve vf vg vh : Int), i + m = 64 → m < k →
    f117_1_l21 F k64 b s z ww K k va vb vc vd ve vf vg vh (i : Int) = K' (rds k64 ww m i [va, vb, vc, vd, ve, vf, vg, vh])
  | 0, i, k, va, vb, vc, vd, ve, vf, vg, vh, hi, hk => by
    obtain ⟨k, rfl⟩ : ∃ j, k = j + 1 := ⟨k - 1, by omega⟩
    simp only [f117_1_l21]
    rw [cf (by omega), hK]; rfl
  | m + 1, i, k, va, vb, vc, vd, ve, vf, vg, vh, hi, hk => by
    obtain ⟨k, rfl⟩ : ∃ j, k = j + 1 := ⟨k - 1, by omega⟩
    have e4 : IntKind.i64.wrap ((i : Int) + 1) = ((i + 1 : Nat) : Int) := by rw [w64 (by omega) (by omega)]; omega
    have q0 : i < k64.length := by rw [k64_len]; omega
    simp only [f117_1_l21, e4, hw, Int.toNat_natCast, Nat.zero_add]
    rw [ct (by omega), ct (by omega), ct q0, ct (by omega), ct (by omega),
      turnR (by omega) (by omega), turnR (by omega) (by omega), turnR (by omega) (by omega), turnR (by omega) (by omega), turnR (by omega) (by omega), turnR (by omega) (by omega)]
    exact rdR hK hw m (i + 1) k _ _ _ _ _ _ _ _ (by omega) (by omega)

theorem blkR {β : Type} {F : Nat} {s b : List Int} {K : List Int → Option β} (hF : 100 ≤ F) (hs : eight s) (hb : 64 ≤ b.length) : f117_1 F s k64 b K = K (blk s b) := by
  simp only [f117_1]
  rw [show ([0, 0, 0, 0, 0, 0, 0, 0, 0, 0, 0, 0, 0, 0, 0, 0, 0, 0, 0, 0, 0, 0, 0, 0, 0, 0, 0, 0, 0, 0, 0, 0, 0, 0, 0, 0, 0, 0, 0, 0, 0, 0, 0, 0, 0, 0, 0, 0, 0, 0, 0, 0, 0, 0, 0, 0, 0, 0, 0, 0, 0, 0, 0, 0] : List Int) = List.replicate 64 0 from rfl]
  have h0 := ldR (F := F) (b := b) (z := [0, 0, 0, 0, 0, 0, 0, 0]) (s := s) (y := k64) (K := fun x7 => f117_1_l7 F k64 b s [0, 0, 0, 0, 0, 0, 0, 0] (fun x18 => cond (decide (0 < s.length)) (cond (decide (1 < s.length)) (cond (decide (2 < s.length)) (cond (decide (3 < s.length)) (cond (decide (4 < s.length)) (cond (decide (5 < s.length)) (cond (decide (6 < s.length)) (cond (decide (7 < s.length)) (f117_1_l21 F k64 b s [0, 0, 0, 0, 0, 0, 0, 0] x18 (fun x39 x40 x41 x42 x43 x44 x45 x46 => cond (decide (0 < s.length)) (cond (decide (1 < s.length)) (cond (decide (2 < s.length)) (cond (decide (3 < s.length)) (cond (decide (4 < s.length)) (cond (decide (5 < s.length)) (cond (decide (6 < s.length)) (cond (decide (7 < s.length)) (K [IntKind.u32.wrap ((s.getD 0 0) + x39), IntKind.u32.wrap ((s.getD 1 0) + x40), IntKind.u32.wrap ((s.getD 2 0) + x41), IntKind.u32.wrap ((s.getD 3 0) + x42), IntKind.u32.wrap ((s.getD 4 0) + x43), IntKind.u32.wrap ((s.getD 5 0) + x44), IntKind.u32.wrap ((s.getD 6 0) + x45), IntKind.u32.wrap ((s.getD 7 0) + x46)]) none) none) none) none) none) none) none) none) F (s.getD 0 0) (s.getD 1 0) (s.getD 2 0) (s.getD 3 0) (s.getD 4 0) (s.getD 5 0) (s.getD 6 0) (s.getD 7 0) 0) none) none) none) none) none) none) none) none) F 16 x7) hb 16 0 F (List.replicate 64 0) (by omega) (by omega) (by simp)
  rw [show ((0 : Nat) : Int) = 0 from rfl] at h0
  rw [h0]
  rw [show (16 : Int) = ((16 : Nat) : Int) from rfl, exR 48 16 F _ (by omega) (by omega) (by omega) (by rw [ldr_len]; simp)]
  obtain ⟨a, b', c, d, e, f, g, h, rfl⟩ := hs
  have hw := wds_len b
  unfold blk
  unfold wds at hw ⊢
  rw [ct (by simp), ct (by simp), ct (by simp), ct (by simp), ct (by simp), ct (by simp), ct (by simp), ct (by simp)]
  have h1 := rdR (F := F) (b := b) (s := [a, b', c, d, e, f, g, h]) (z := [0, 0, 0, 0, 0, 0, 0, 0]) (K' := fun v => K (fin8 [a, b', c, d, e, f, g, h] v)) (K := fun x39 x40 x41 x42 x43 x44 x45 x46 =>
    K [IntKind.u32.wrap (a + x39), IntKind.u32.wrap (b' + x40), IntKind.u32.wrap (c + x41), IntKind.u32.wrap (d + x42), IntKind.u32.wrap (e + x43), IntKind.u32.wrap (f + x44), IntKind.u32.wrap (g + x45), IntKind.u32.wrap (h + x46)])
    (fun x1 x2 x3 x4 x5 x6 x7 x8 => by simp only [fin8]; rw [Int.add_comm a, Int.add_comm b', Int.add_comm c, Int.add_comm d, Int.add_comm e, Int.add_comm f, Int.add_comm g, Int.add_comm h]) hw 64 0 F a b' c d e f g h (by omega) (by omega)
  rw [show ((0 : Nat) : Int) = 0 from rfl] at h1
  exact h1

end Go.Proofs.Ytjlolgpbidfmeaa.X
end

section
/- SHA-256: bytes that come in parts, and the digest: the code's and the document's are one. -/
namespace Go.Proofs.Ytjlolgpbidfmeaa.X
open Go Go.Proofs.Ytjlolgpbidfmeaa.Ev
set_option linter.unusedVariables false

def cmpN : Nat → List Int → List Int → List Int × List Int
  | 0, s, l => (s, l)
  | q + 1, s, l => cmpN q (blk s (l.take 64)) (l.drop 64)

theorem cmpN_add : ∀ (q r : Nat) (s l : List Int), cmpN (q + r) s l = cmpN r (cmpN q s l).1 (cmpN q s l).2
  | 0, r, s, l => by simp [cmpN]
  | q + 1, r, s, l => by
    rw [show q + 1 + r = (q + r) + 1 by omega]
    simp only [cmpN]
    exact cmpN_add q r _ _
theorem cmpN_app : ∀ (q : Nat) (s l t : List Int), 64 * q ≤ l.length → cmpN q s (l ++ t) = ((cmpN q s l).1, (cmpN q s l).2 ++ t)
  | 0, s, l, t, _ => rfl
  | q + 1, s, l, t, h => by
    simp only [cmpN]
    rw [List.take_append_of_le_length (by omega), List.drop_append_of_le_length (by omega)]
    exact cmpN_app q _ _ t (by simp; omega)
theorem cmpN_len : ∀ (q : Nat) (s l : List Int), (cmpN q s l).2.length = l.length - 64 * q
  | 0, s, l => by simp [cmpN]
  | q + 1, s, l => by simp only [cmpN]; rw [cmpN_len q]; simp; omega
theorem cmpN_eight : ∀ (q : Nat) {s : List Int} (l : List Int), eight s → eight (cmpN q s l).1
  | 0, s, l, h => h
  | q + 1, s, l, h => cmpN_eight q _ (blk_eight _ h)

theorem writeL {β : Type} {F : Nat} {n : Int} {b : List Int} {K : List Int → List Int → Option β} (hF : 100 ≤ F) : ∀ (q k : Nat) (s l : List Int), eight s → l.length / 64 = q → q < k → l.length ≤ 70368744177664 →
    f113_1_l3 F n b K k s l = K (cmpN q s l).1 (cmpN q s l).2
  | 0, k, s, l, he, hq, hk, hl => by
    obtain ⟨k, rfl⟩ : ∃ j, k = j + 1 := ⟨k - 1, by omega⟩
    simp only [f113_1_l3]
    rw [cf (by omega)]; rfl
  | q + 1, k, s, l, he, hq, hk, hl => by
    obtain ⟨k, rfl⟩ : ∃ j, k = j + 1 := ⟨k - 1, by omega⟩
    have h64 : 64 ≤ l.length := by omega
    have e1 : (l.drop 64).take ((((l.length : Nat) : Int) - 64).toNat) = l.drop 64 := List.take_of_length_le (by simp; omega)
    simp only [f113_1_l3, e1, List.drop_zero, List.nil_append]
    rw [ct (by omega), ct (by omega), blkP hF he (by simp; omega), ct (by omega), ct (by simp; omega)]
    exact writeL hF q k _ _ (blk_eight _ he) (by simp; omega) (by omega) (by simp; omega)

def byt (n : Int) (j : Nat) : Int := IntKind.u8.wrap (ishr .u64 n ((8 * j : Nat) : Int))
/-- A number's eight bytes, the highest first. -/
def bes (n : Int) : Nat → List Int
  | 0 => []
  | m + 1 => byt n m :: bes n m

def setB (n : Int) : Nat → Nat → List Int → List Int
  | 0, _, xs => xs
  | m + 1, i, xs => setB n m (i + 1) (xs.set (7 - i) (byt n i))

theorem setB_len (n : Int) : ∀ m i xs, (setB n m i xs).length = xs.length
  | 0, _, _ => rfl
  | m + 1, i, xs => by rw [setB, setB_len n m]; simp
theorem setB_eq (n : Int) {xs : List Int} (h : xs.length = 8) : setB n 8 0 xs = bes n 8 := by
  match xs, h with
  | [a, b, c, d, e, f, g, h], _ => rfl

theorem bitsL {β : Type} {F L cp : Nat} {n : Int} {s w : List Int} {y : Int} {K : List Int → Option β} {A C : List Int} (hA : A.length + 8 = L) (hL : L ≤ 128) : ∀ (m i k : Nat) (xs : List Int), i + m = 8 → m < k → xs.length = 8 →
    f114_1_l10 F 0 L cp n s y w K k (i : Int) (A ++ (xs ++ C)) = K (A ++ (setB n m i xs ++ C))
  | 0, i, k, xs, hi, hk, hx => by
    obtain ⟨k, rfl⟩ : ∃ j, k = j + 1 := ⟨k - 1, by omega⟩
    simp only [f114_1_l10]
    rw [cf (by omega)]; rfl
  | m + 1, i, k, xs, hi, hk, hx => by
    obtain ⟨k, rfl⟩ : ∃ j, k = j + 1 := ⟨k - 1, by omega⟩
    have e1 : IntKind.i64.wrap (8 * (i : Int)) = ((8 * i : Nat) : Int) := by rw [w64 (by omega) (by omega)]; omega
    have e2 : IntKind.i64.wrap (IntKind.i64.wrap (((L : Nat) : Int) - 1) - (i : Int)) = ((A.length + (7 - i) : Nat) : Int) := by rw [w64 (x := ((L : Nat) : Int) - 1) (by omega) (by omega), w64 (by omega) (by omega)]; omega
    have e4 : IntKind.i64.wrap ((i : Int) + 1) = ((i + 1 : Nat) : Int) := by rw [w64 (by omega) (by omega)]; omega
    have e5 : (A ++ (xs ++ C)).set (A.length + (7 - i)) (byt n i) = A ++ (xs.set (7 - i) (byt n i) ++ C) := by
      rw [List.set_append_right _ _ (by omega), List.set_append_left _ _ (by omega)]
      congr 2
      rw [show A.length + (7 - i) - A.length = 7 - i by omega]
    have e6 : (A ++ (xs ++ C)).length = A.length + 8 + C.length := by simp [hx]; omega
    simp only [f114_1_l10, e1, e2, e4, Int.toNat_natCast, Nat.zero_add]
    rw [ct (by omega), cf (by omega), ct (by omega), ct (by omega)]
    rw [show IntKind.u8.wrap (ishr .u64 n ((8 * i : Nat) : Int)) = byt n i from rfl, e5]
    exact bitsL hA hL m (i + 1) k _ (by omega) (by omega) (by simp [hx])

theorem getD_take {l : List Int} {n i : Nat} (h : i < n) : (l.take n).getD i 0 = l.getD i 0 := by
  rw [List.getD_eq_getElem?_getD, List.getD_eq_getElem?_getD, List.getElem?_take_of_lt h]

theorem word_take {b : List Int} {i : Nat} (h : i < 16) : word (b.take 64) i = word b i := by
  simp only [word]
  rw [getD_take (by omega), getD_take (by omega), getD_take (by omega), getD_take (by omega)]

theorem ldr_take {b : List Int} : ∀ (m i : Nat) (acc : List Int), i + m = 16 → ldr (b.take 64) m i acc = ldr b m i acc
  | 0, i, acc, h => rfl
  | m + 1, i, acc, h => by simp only [ldr]; rw [word_take (by omega), ldr_take m (i + 1) _ (by omega)]

theorem blk_take (s b : List Int) : blk s (b.take 64) = blk s b := by
  simp only [blk, wds]; rw [ldr_take 16 0 _ (by omega)]

theorem lastL {β : Type} {F : Nat} {s0 w buf : List Int} {y : Int} {K : List Int → Option β} (hF : 100 ≤ F) : ∀ (r k lo cp : Nat) (s : List Int), eight s → r < k → r ≤ 2 → lo + 64 * r ≤ buf.length → 64 * r ≤ cp →
    f114_1_l15 F s0 y w buf K k lo (64 * r) cp s = K (cmpN r s ((buf.drop lo).take (64 * r))).1
  | 0, k, lo, cp, s, he, hk, hr, hb, hc => by
    obtain ⟨k, rfl⟩ : ∃ j, k = j + 1 := ⟨k - 1, by omega⟩
    simp only [f114_1_l15]
    rw [cf (by omega)]; rfl
  | r + 1, k, lo, cp, s, he, hk, hr, hb, hc => by
    obtain ⟨k, rfl⟩ : ∃ j, k = j + 1 := ⟨k - 1, by omega⟩
    have e1 : (((64 * (r + 1) : Nat) : Int) - 64).toNat = 64 * r := by omega
    simp only [f114_1_l15, e1]
    rw [ct (by omega), blkP hF he (by simp; omega), ct (by omega)]
    rw [lastL hF r k (lo + 64) (cp - 64) _ (blk_eight _ he) (by omega) (by omega) (by omega) (by omega)]
    simp only [cmpN]
    rw [blk_take, List.drop_take, List.drop_drop, show 64 * (r + 1) - 64 = 64 * r by omega]

def outs (s : List Int) : Nat → Nat → List Int → List Int
  | 0, _, acc => acc
  | m + 1, i, acc => outs s m (i + 1) (acc ++ [IntKind.u8.wrap (ishr .u32 (s.getD i 0) 24), IntKind.u8.wrap (ishr .u32 (s.getD i 0) 16), IntKind.u8.wrap (ishr .u32 (s.getD i 0) 8), IntKind.u8.wrap (s.getD i 0)])

theorem outP {β : Type} {F : Nat} {s s0 w : List Int} {y : Int} {K : List Int → Option β} : ∀ (m i k : Nat) (acc : List Int), i + m = 8 → m < k → acc.length ≤ 4 * i →
    f114_1_l20 F s s0 y w K k (i : Int) acc = K (outs s m i acc)
  | 0, i, k, acc, hi, hk, ha => by
    obtain ⟨k, rfl⟩ : ∃ j, k = j + 1 := ⟨k - 1, by omega⟩
    simp only [f114_1_l20]
    rw [cf (by omega)]; rfl
  | m + 1, i, k, acc, hi, hk, ha => by
    obtain ⟨k, rfl⟩ : ∃ j, k = j + 1 := ⟨k - 1, by omega⟩
    have e4 : IntKind.i64.wrap ((i : Int) + 1) = ((i + 1 : Nat) : Int) := by rw [w64 (by omega) (by omega)]; omega
    simp only [f114_1_l20, e4, Int.toNat_natCast]
    rw [ct (by omega), ct (by omega), ct (by omega)]
    exact outP m (i + 1) k _ (by omega) (by omega) (by simp; omega)

theorem outR {β : Type} {F : Nat} {s b : List Int} {K : List Int → Option β} (hs : s.length = 8) : ∀ (m i k : Nat) (acc : List Int), i + m = 8 → m < k → acc.length ≤ 4 * i →
    f69_1_l19 F b s K k (i : Int) acc = K (outs s m i acc)
  | 0, i, k, acc, hi, hk, ha => by
    obtain ⟨k, rfl⟩ : ∃ j, k = j + 1 := ⟨k - 1, by omega⟩
    simp only [f69_1_l19]
    rw [cf (by omega)]; rfl
  | m + 1, i, k, acc, hi, hk, ha => by
    obtain ⟨k, rfl⟩ : ∃ j, k = j + 1 := ⟨k - 1, by omega⟩
    have e4 : IntKind.i64.wrap ((i : Int) + 1) = ((i + 1 : Nat) : Int) := by rw [w64 (by omega) (by omega)]; omega
    simp only [f69_1_l19, e4, Int.toNat_natCast, hs]
    rw [ct (by omega), ct (by omega), ct (by omega), ct (by omega), ct (by omega), ct (by omega), ct (by omega), ct (by omega), ct (by omega), ct (by omega)]
    exact outR hs m (i + 1) k _ (by omega) (by omega) (by simp; omega)

/-- The numbers ahead of all blocks. -/
def ini : List Int := [1779033703, 3144134277, 1013904242, 2773480762, 1359893119, 2600822924, 528734635, 1541459225]
theorem ini_eight : eight ini := ⟨_, _, _, _, _, _, _, _, rfl⟩

/-- How many bytes 0 stand behind the first one that is laid on. -/
def zs (n : Nat) : Nat := if n % 64 < 56 then 55 - n % 64 else 119 - n % 64
/-- What is laid on behind n bytes. -/
def pad (n : Nat) : List Int := [128] ++ (List.replicate (zs n) 0 ++ bes ((8 * n : Nat) : Int) 8)
def blks (n : Nat) : Nat := if n % 64 < 56 then 1 else 2
theorem pad_len (n : Nat) : (pad n).length = 1 + zs n + 8 := by simp [pad, bes]; omega

/-- The digest of bytes. -/
def dig (b : List Int) : ByteArray := ofInts (outs (cmpN (b.length / 64 + blks b.length) ini (b ++ pad b.length)).1 8 0 [])

theorem zeroL {β : Type} {F : Nat} {b : List Int} {K : List Int → Option β} : ∀ (m k : Nat) (acc : List Int), (acc.length + m) % 64 = 56 → m < 64 → m < k → acc.length + m ≤ 1000000 →
    f69_1_l4 F b K k acc = K (acc ++ List.replicate m 0)
  | 0, k, acc, hm, h6, hk, ha => by
    obtain ⟨k, rfl⟩ : ∃ j, k = j + 1 := ⟨k - 1, by omega⟩
    have : ((((acc.length : Nat) : Int).tmod 64) != 56) = false := by
      rw [show (64 : Int) = ((64 : Nat) : Int) from rfl, tmod_nn, show acc.length % 64 = 56 by omega]; rfl
    simp only [f69_1_l4, this, cond_false, List.replicate_zero, List.append_nil]
  | m + 1, k, acc, hm, h6, hk, ha => by
    obtain ⟨k, rfl⟩ : ∃ j, k = j + 1 := ⟨k - 1, by omega⟩
    have : ((((acc.length : Nat) : Int).tmod 64) != 56) = true := by
      rw [show (64 : Int) = ((64 : Nat) : Int) from rfl, tmod_nn]
      have h0 : ¬ (acc.length % 64 = 56) := by omega
      rw [bne_iff_ne]; intro h1; exact h0 (by exact_mod_cast h1)
    simp only [f69_1_l4, this, cond_true]
    have hl1 : (acc ++ [(0 : Int)]).length = acc.length + 1 := by simp
    rw [ct (by omega), zeroL m k (acc ++ [0]) (by rw [hl1]; omega) (by omega) (by omega) (by rw [hl1]; omega), List.append_assoc]
    rfl

theorem besL {β : Type} {F : Nat} {n : Int} {b : List Int} {K : List Int → Option β} : ∀ (m k : Nat) (acc : List Int), m ≤ 8 → m < k → acc.length ≤ 1000000 - m →
    f69_1_l8 F n b K k ((m : Int) - 1) acc = K (acc ++ bes n m)
  | 0, k, acc, hm, hk, ha => by
    obtain ⟨k, rfl⟩ : ∃ j, k = j + 1 := ⟨k - 1, by omega⟩
    simp only [f69_1_l8]
    rw [cf (by omega)]; simp [bes]
  | m + 1, k, acc, hm, hk, ha => by
    obtain ⟨k, rfl⟩ : ∃ j, k = j + 1 := ⟨k - 1, by omega⟩
    have e1 : IntKind.i64.wrap (8 * (((m + 1 : Nat) : Int) - 1)) = ((8 * m : Nat) : Int) := by rw [w64 (by omega) (by omega)]; omega
    have e2 : IntKind.u64.wrap ((8 * m : Nat) : Int) = ((8 * m : Nat) : Int) := wu64 (by omega) (by omega)
    have e3 : IntKind.i64.wrap ((((m + 1 : Nat) : Int) - 1) - 1) = (m : Int) - 1 := by rw [w64 (by omega) (by omega)]; omega
    simp only [f69_1_l8, e1, e2, e3]
    rw [ct (by omega), cf (by omega), ct (by omega), besL m k _ (by omega) (by omega) (by simp; omega), List.append_assoc]
    rfl

theorem blocksL {β : Type} {F : Nat} {b all : List Int} {K : List Int → Option β} (hF : 100 ≤ F) (hall : all.length ≤ 1000000) : ∀ (q k at_ : Nat) (h : List Int), eight h → at_ + 64 * q = all.length → q < k →
    f69_1_l14 F b all k64 K k (at_ : Int) h = K (cmpN q h (all.drop at_)).1
  | 0, k, at_, h, he, hq, hk => by
    obtain ⟨k, rfl⟩ : ∃ j, k = j + 1 := ⟨k - 1, by omega⟩
    have e1 : IntKind.i64.wrap ((at_ : Int) + 64) = ((at_ + 64 : Nat) : Int) := by rw [w64 (by omega) (by omega)]; omega
    simp only [f69_1_l14, e1]
    rw [cf (by omega)]; rfl
  | q + 1, k, at_, h, he, hq, hk => by
    obtain ⟨k, rfl⟩ : ∃ j, k = j + 1 := ⟨k - 1, by omega⟩
    have e1 : IntKind.i64.wrap ((at_ : Int) + 64) = ((at_ + 64 : Nat) : Int) := by rw [w64 (by omega) (by omega)]; omega
    have e2 : (((at_ + 64 : Nat) : Int) - (at_ : Int)).toNat = 64 := by omega
    simp only [f69_1_l14, e1, e2, Nat.zero_add, Int.toNat_natCast]
    rw [ct (by omega), ct (by omega), blkR hF he (by simp; omega), blocksL hF hall q k (at_ + 64) _ (blk_eight _ he) (by omega) (by omega)]
    simp only [cmpN]
    rw [List.drop_drop]

theorem sumR {β : Type} {F : Nat} {b : List Int} {K : ByteArray → Option β} (hb : b.length ≤ 100000) (hF : 2000 ≤ F) : f69_1 F b K = K (dig b) := by
  have e1 : IntKind.u64.wrap ((b.length : Nat) : Int) = ((b.length : Nat) : Int) := wu64 (by omega) (by omega)
  have e2 : IntKind.u64.wrap (((b.length : Nat) : Int) * 8) = ((8 * b.length : Nat) : Int) := by rw [wu64 (by omega) (by omega)]; omega
  have hz : zs b.length < 64 ∧ (b.length + 1 + zs b.length) % 64 = 56 := by unfold zs; split <;> omega
  have hpl := pad_len b.length
  have hbl : (b ++ pad b.length).length = 64 * (b.length / 64 + blks b.length) := by
    rw [List.length_append, hpl]; unfold zs blks; split <;> omega
  simp only [f69_1, e1, e2]
  rw [ct (by omega), ct (by omega), zeroL (zs b.length) F _ (by simp; omega) (by omega) (by omega) (by simp; omega)]
  have h8 := besL (F := F) (n := ((8 * b.length : Nat) : Int)) (b := b) (K := fun x8 => f115_1 F fun x9 => f116_1 F fun x10 => f69_1_l14 F b x8 x10 (fun x17 => f69_1_l19 F b x17 (fun x22 => K (ofInts x22)) F 0 []) F 0 x9) 8 F (b ++ [128] ++ List.replicate (zs b.length) 0) (by omega) (by omega) (by simp; omega)
  rw [show ((8 : Nat) : Int) - 1 = 7 from rfl] at h8
  rw [h8]
  rw [show b ++ [128] ++ List.replicate (zs b.length) 0 ++ bes ((8 * b.length : Nat) : Int) 8 = b ++ pad b.length by simp [pad]]
  simp only [f115_1, f116_1]
  have hB := blocksL (F := F) (b := b) (all := b ++ pad b.length) (K := fun x17 => f69_1_l19 F b x17 (fun x22 => K (ofInts x22)) F 0 []) (by omega) (by rw [hbl]; unfold blks; split <;> omega)
    (b.length / 64 + blks b.length) F 0 ini ini_eight (by omega) (by unfold blks; split <;> omega)
  rw [show ((0 : Nat) : Int) = 0 from rfl, List.drop_zero] at hB
  refine hB.trans ?_
  obtain ⟨a, b', c, d, e, f, g, h, hx⟩ := cmpN_eight (b.length / 64 + blks b.length) (b ++ pad b.length) ini_eight
  have := outR (F := F) (s := (cmpN (b.length / 64 + blks b.length) ini (b ++ pad b.length)).1) (b := b) (K := fun x22 => K (ofInts x22)) (by rw [hx]; rfl) 8 0 F [] (by omega) (by omega) (by simp)
  exact this

/-- What a hash has behind all these bytes. -/
def HS (all s : List Int) (n : Int) (w : List Int) : Prop := s = (cmpN (all.length / 64) ini all).1 ∧ w = (cmpN (all.length / 64) ini all).2 ∧ n = ((all.length : Nat) : Int)

theorem HS_eight {all s w : List Int} {n : Int} (h : HS all s n w) : eight s := by rw [h.1]; exact cmpN_eight _ _ ini_eight
theorem HS_len {all s w : List Int} {n : Int} (h : HS all s n w) : w.length = all.length % 64 := by rw [h.2.1, cmpN_len]; omega

theorem HS_nil : HS [] ini 0 [] := ⟨rfl, rfl, rfl⟩

theorem HS_app {all s w b : List Int} {n : Int} (h : HS all s n w) : cmpN ((w ++ b).length / 64) s (w ++ b) = cmpN ((all ++ b).length / 64) ini (all ++ b) := by
  have hl := HS_len h
  have : (all ++ b).length / 64 = all.length / 64 + (w ++ b).length / 64 := by simp only [List.length_append, hl]; omega
  rw [this, cmpN_add, cmpN_app (all.length / 64) ini all b (by omega), ← h.1, ← h.2.1]

/-- Some more bytes. -/
theorem writeP {β : Type} {F : Nat} {all s w b : List Int} {n : Int} {K : List Int → Int → List Int → Option β} (hF : 2000 ≤ F) (h : HS all s n w) (hb : (all ++ b).length ≤ 100000) :
    ∃ s' w', HS (all ++ b) s' (((all ++ b).length : Nat) : Int) w' ∧ f113_1 F s n w b K = K s' (((all ++ b).length : Nat) : Int) w' := by
  have hl := HS_len h
  have hab : (all ++ b).length = all.length + b.length := by simp
  refine ⟨_, _, ⟨rfl, rfl, rfl⟩, ?_⟩
  have e1 : IntKind.u64.wrap ((b.length : Nat) : Int) = ((b.length : Nat) : Int) := wu64 (by omega) (by omega)
  have e2 : IntKind.u64.wrap (n + ((b.length : Nat) : Int)) = (((all ++ b).length : Nat) : Int) := by rw [h.2.2, wu64 (by omega) (by omega)]; simp
  simp only [f113_1, e1, e2]
  rw [ct (by omega), writeL (by omega) ((w ++ b).length / 64) F s (w ++ b) (HS_eight h) rfl (by simp; omega) (by simp; omega), HS_app h]

/-- The digest of all that came. -/
theorem sumP {β : Type} {F : Nat} {all s w : List Int} {n : Int} {K : ByteArray → Option β} (hF : 2000 ≤ F) (h : HS all s n w) (hb : all.length ≤ 100000) : f114_1 F s n w K = K (dig all) := by
  have hl := HS_len h
  have he := HS_eight h
  have e2 : IntKind.u64.wrap (8 * n) = ((8 * all.length : Nat) : Int) := by rw [h.2.2, wu64 (by omega) (by omega)]; omega
  have e3 : min w.length 64 = w.length := by omega
  have e4 : w.take 64 = w := List.take_of_length_le (by omega)
  have hbuf : ((List.replicate 128 (0 : Int)).take 0 ++ (w.take 64 ++ (List.replicate 128 0).drop (0 + (min w.length 64)))).set (0 + (((min w.length 64 : Nat) : Int).toNat)) 128 = w ++ ([128] ++ List.replicate (127 - w.length) 0) := by
    rw [e3, e4, Int.toNat_natCast, List.take_zero, List.nil_append, Nat.zero_add, List.set_append_right _ _ (by omega), Nat.sub_self, List.drop_replicate, show 128 - w.length = (127 - w.length) + 1 by omega, List.replicate_succ, List.set_cons_zero]
    rfl
  have hlen0 : ((List.replicate 128 (0 : Int)).take 0 ++ (w.take 64 ++ (List.replicate 128 0).drop (0 + (min w.length 64)))).length = 128 := by
    rw [e3, e4]; simp; omega
  have hall : cmpN (all.length / 64 + blks all.length) ini (all ++ pad all.length) = cmpN (blks all.length) s (w ++ pad all.length) := by
    rw [cmpN_add, cmpN_app _ _ _ _ (by omega), ← h.1, ← h.2.1]
  have fin : ∀ s', eight s' → f114_1_l20 F s' s n w (fun x27 => K (ofInts x27)) F 0 [] = K (ofInts (outs s' 8 0 [])) := fun s' _ =>
    outP (F := F) (s := s') (s0 := s) (w := w) (y := n) (K := fun x27 => K (ofInts x27)) 8 0 F [] (by omega) (by omega) (by simp)
  simp only [f114_1, hbuf]
  rw [ct (by omega), ct (by rw [hlen0]; omega), e2]
  unfold dig
  rw [hall]
  by_cases hw : w.length < 56
  · rw [cf (by omega)]
    have hbk : blks all.length = 1 := by unfold blks; rw [if_pos (by omega)]
    have hzs : zs all.length = 55 - w.length := by unfold zs; rw [if_pos (by omega), hl]
    have hsplit : w ++ ([128] ++ List.replicate (127 - w.length) 0) = (w ++ ([128] ++ List.replicate (zs all.length) 0)) ++ (List.replicate 8 0 ++ List.replicate 64 0) := by
      rw [hzs, show 127 - w.length = (55 - w.length) + (8 + 64) by omega, ← List.replicate_append_replicate, ← List.replicate_append_replicate]
      simp
    rw [hsplit]
    have hb1 := bitsL (F := F) (L := 64) (cp := 128) (n := ((8 * all.length : Nat) : Int)) (s := s) (w := w) (y := n) (A := w ++ ([128] ++ List.replicate (zs all.length) 0)) (C := List.replicate 64 0)
      (K := fun x28 => f114_1_l15 F s n w x28 (fun x29 => f114_1_l20 F x29 s n w (fun x30 => K (ofInts x30)) F 0 []) F 0 64 128 s) (by simp [hzs]; omega) (by omega) 8 0 F (List.replicate 8 0) (by omega) (by omega) (by simp)
    rw [show ((0 : Nat) : Int) = 0 from rfl] at hb1
    refine hb1.trans ?_
    rw [setB_eq _ (by simp)]
    have hpre : (w ++ ([128] ++ List.replicate (zs all.length) 0)) ++ (bes ((8 * all.length : Nat) : Int) 8 ++ List.replicate 64 0) = (w ++ pad all.length) ++ List.replicate 64 0 := by simp [pad]
    rw [hpre]
    have hpl : (w ++ pad all.length).length = 64 := by rw [List.length_append, pad_len, hzs]; omega
    have hL := lastL (F := F) (s0 := s) (w := w) (y := n) (buf := (w ++ pad all.length) ++ List.replicate 64 0) (K := fun x29 => f114_1_l20 F x29 s n w (fun x30 => K (ofInts x30)) F 0 []) (by omega) 1 F 0 128 s he (by omega) (by omega) (by rw [List.length_append, hpl]; simp) (by omega)
    refine hL.trans ?_
    rw [List.drop_zero, List.take_append_of_le_length (by omega), List.take_of_length_le (by omega), fin _ (cmpN_eight _ _ he), hbk]
  · rw [ct (by omega)]
    have hbk : blks all.length = 2 := by unfold blks; rw [if_neg (by omega)]
    have hzs : zs all.length = 119 - w.length := by unfold zs; rw [if_neg (by omega), hl]
    have hsplit : w ++ ([128] ++ List.replicate (127 - w.length) 0) = (w ++ ([128] ++ List.replicate (zs all.length) 0)) ++ (List.replicate 8 0 ++ []) := by
      rw [hzs, show 127 - w.length = (119 - w.length) + 8 by omega, ← List.replicate_append_replicate]
      simp
    rw [hsplit]
    have hb1 := bitsL (F := F) (L := 128) (cp := 128) (n := ((8 * all.length : Nat) : Int)) (s := s) (w := w) (y := n) (A := w ++ ([128] ++ List.replicate (zs all.length) 0)) (C := [])
      (K := fun x28 => f114_1_l15 F s n w x28 (fun x29 => f114_1_l20 F x29 s n w (fun x30 => K (ofInts x30)) F 0 []) F 0 128 128 s) (by simp [hzs]; omega) (by omega) 8 0 F (List.replicate 8 0) (by omega) (by omega) (by simp)
    rw [show ((0 : Nat) : Int) = 0 from rfl] at hb1
    refine hb1.trans ?_
    rw [setB_eq _ (by simp)]
    have hpre : (w ++ ([128] ++ List.replicate (zs all.length) 0)) ++ (bes ((8 * all.length : Nat) : Int) 8 ++ []) = w ++ pad all.length := by simp [pad]
    rw [hpre]
    have hpl : (w ++ pad all.length).length = 128 := by rw [List.length_append, pad_len, hzs]; omega
    have hL := lastL (F := F) (s0 := s) (w := w) (y := n) (buf := w ++ pad all.length) (K := fun x29 => f114_1_l20 F x29 s n w (fun x30 => K (ofInts x30)) F 0 []) (by omega) 2 F 0 128 s he (by omega) (by omega) (by rw [hpl]; omega) (by omega)
    refine hL.trans ?_
    rw [List.drop_zero, List.take_of_length_le (by omega), fin _ (cmpN_eight _ _ he), hbk]

end Go.Proofs.Ytjlolgpbidfmeaa.X
end

section
namespace Go.Proofs.Ytjlolgpbidfmeaa.X
open Go Go.Proofs.Ytjlolgpbidfmeaa.Ev Go.Proofs
set_option linter.unusedVariables false
/-! pentimentoref07.Levels -/
noncomputable def f84_1_l5 {β : Type} (F : Nat) (v3 : Int) (v4 : Int) (v5 : Int) (v6 : Int) (K0 : List Int → Option β) : Nat → Int → List Int → Option β
  | 0, _, _ => none
  | k + 1, v2, v7 => cond (decide (v2 > 1)) (cond (decide (v4 = 0)) none (cond (decide ((v7.length + 1) * 8 ≤ 70368744177664)) (f84_1_l5 F v3 v4 v5 v6 K0 k (IntKind.i64.wrap ((IntKind.i64.wrap ((IntKind.i64.wrap (v2 + v4)) - 1)).tdiv v4)) (v7 ++ [IntKind.i64.wrap ((IntKind.i64.wrap ((IntKind.i64.wrap (v2 + v4)) - 1)).tdiv v4)])) none)) (K0 v7)
noncomputable def f84_1 {β : Type} (F : Nat) (a1 : Int) (a2 : Int) (a3 : Int) (a4 : Int) (K0 : List Int → Option β) : Option β := f27_1 F a1 a2 a3 a4 (fun x1 => cond (!x1) (K0 []) (f84_1_l5 F a1 a2 a3 a4 (fun x8 => K0 x8) F a1 [a1])) 
def sh84_1 : Sh := ⟨[.agg [.int .i64, .int .i64, .int .i64, .int .i64]], []⟩
noncomputable def S84_1 (F : Nat) (o : Summ) : Summ := mkS sh84_1 (fun d K => f84_1 F d.1.1.1 d.1.1.2.1 d.1.1.2.2.1 d.1.1.2.2.2.1 (fun (y0 : List Int) => K [.lf (.full 0)] [some ⟨false, [.seq (.int .i64) 0 y0]⟩])) o
noncomputable def code84 : Code := bodyOf Try.f84
noncomputable def b84_0 : Code := cB (cB (cR (cL (cR (cR (cR (code84)))))))
theorem scopes84 : scopesOf code84 = [] := by kernel_rfl
theorem loops84 : loopsOf code84 = [b84_0] := by kernel_rfl
theorem enter84 : ∀ args w, (callFunc 84 args).run Try.prog w = .ok (.enter 84 args) w := enter_of (fn := Try.f84) (by kernel_rfl) (by kernel_rfl) (by kernel_rfl)
noncomputable def T84_1 (F : Nat) : FuncId → Option Summ := tab [(27, (S27_1 F noS))]
def sh84_1_l5 : Sh := ⟨[.lf (.ptr 0 0), .lf (.full 1), .lf (.int .i64)], [some ⟨some false, [.int .i64, .int .i64, .int .i64, .int .i64]⟩, some ⟨some false, [.seq (.int .i64) 0]⟩]⟩
noncomputable def G84_1_5 (F k : Nat) : LoopS := mkG sh84_1_l5 [1, 3, 4] (outT [(.exit 0, [3])]) (fun d K => f84_1_l5 F d.2.1.2.1 d.2.1.2.2.1 d.2.1.2.2.2.1 d.2.1.2.2.2.2.1 (fun (y4 : List Int) => K (.exit 0) [.tv (.lf (.full 1))] [some ⟨false, [.int .i64 d.2.1.2.1, .int .i64 d.2.1.2.2.1, .int .i64 d.2.1.2.2.2.1, .int .i64 d.2.1.2.2.2.2.1]⟩, some ⟨false, [.seq (.int .i64) 0 y4]⟩]) k d.1.2.2.1 d.2.2.1.2.1)
noncomputable def LT84_1 (F : Nat) : Nat → Option LoopS := ltab [(5, G84_1_5 F F)]
theorem L84_1_5g (F k : Nat) (c27_1 : Int → Int → Int → Int → (Bool → Option Res) → Option Res)  (l5 : Int → Int → Int → Int → (List Int → Option Res) → Nat → Int → List Int → Option Res) (X5 : LoopS) (d : sh84_1_l5.den) (K : KL) : (fun (v3 : Int) (v4 : Int) (v5 : Int) (v6 : Int) (K0 : (List Int → Option Res)) (k : Nat) (v2 : Int) (v7 : List Int) => cond (decide (v2 > 1)) (cond (decide (v4 = 0)) none (cond (decide ((v7.length + 1) * 8 ≤ 70368744177664)) (l5 v3 v4 v5 v6 K0 k (IntKind.i64.wrap ((IntKind.i64.wrap ((IntKind.i64.wrap (v2 + v4)) - 1)).tdiv v4)) (v7 ++ [IntKind.i64.wrap ((IntKind.i64.wrap ((IntKind.i64.wrap (v2 + v4)) - 1)).tdiv v4)])) none)) (K0 v7)) d.2.1.2.1 d.2.1.2.2.1 d.2.1.2.2.2.1 d.2.1.2.2.2.2.1 (fun (y4 : List Int) => K (.exit 0) [.tv (.lf (.full 1))] [some ⟨false, [.int .i64 d.2.1.2.1, .int .i64 d.2.1.2.2.1, .int .i64 d.2.1.2.2.2.1, .int .i64 d.2.1.2.2.2.2.1]⟩, some ⟨false, [.seq (.int .i64) 0 y4]⟩]) k d.1.2.2.1 d.2.2.1.2.1 = roundOf Try.prog (tab [(27, (mkS sh27_1 (fun d K => c27_1 d.1.1.1 d.1.1.2.1 d.1.1.2.2.1 d.1.1.2.2.2.1 (fun (y0 : Bool) => K [.lf (.bool y0)] [])) noS))]) 28 0 (ltab [(5, X5)]) (mkG sh84_1_l5 [1, 3, 4] (outT [(.exit 0, [3])]) (fun d K => l5 d.2.1.2.1 d.2.1.2.2.1 d.2.1.2.2.2.1 d.2.1.2.2.2.2.1 (fun (y4 : List Int) => K (.exit 0) [.tv (.lf (.full 1))] [some ⟨false, [.int .i64 d.2.1.2.1, .int .i64 d.2.1.2.2.1, .int .i64 d.2.1.2.2.2.1, .int .i64 d.2.1.2.2.2.2.1]⟩, some ⟨false, [.seq (.int .i64) 0 y4]⟩]) k d.1.2.2.1 d.2.2.1.2.1)) b84_0 (encT sh84_1_l5.vs d.1) (encH sh84_1_l5.h d.2) K := by kernel_rfl
theorem L84_1_5 (F : Nat) : LoopOK Try.prog (T84_1 F) 28 0 (LT84_1 F) (G84_1_5 F F) b84_0 :=
  loopOK_of (s := sh84_1_l5) (live := [1, 3, 4]) (out := (outT [(.exit 0, [3])])) (fun k d K => f84_1_l5 F d.2.1.2.1 d.2.1.2.2.1 d.2.1.2.2.2.1 d.2.1.2.2.2.2.1 (fun (y4 : List Int) => K (.exit 0) [.tv (.lf (.full 1))] [some ⟨false, [.int .i64 d.2.1.2.1, .int .i64 d.2.1.2.2.1, .int .i64 d.2.1.2.2.2.1, .int .i64 d.2.1.2.2.2.2.1]⟩, some ⟨false, [.seq (.int .i64) 0 y4]⟩]) k d.1.2.2.1 d.2.2.1.2.1) F (fun d K => by kernel_rfl)  (fun k d K => Eq.mp (by kernel_rfl) (L84_1_5g F k (f27_1 F)  (f84_1_l5 F) (G84_1_5 F F) d K))
theorem E84_1g (F : Nat) (c27_1 : Int → Int → Int → Int → (Bool → Option Res) → Option Res) (l5 : Int → Int → Int → Int → (List Int → Option Res) → Nat → Int → List Int → Option Res)  (d : sh84_1.den) (K : KF) : evBody Try.prog (tab [(27, (mkS sh27_1 (fun d K => c27_1 d.1.1.1 d.1.1.2.1 d.1.1.2.2.1 d.1.1.2.2.2.1 (fun (y0 : Bool) => K [.lf (.bool y0)] [])) noS))]) 28 0 (ltab [(5, mkG sh84_1_l5 [1, 3, 4] (outT [(.exit 0, [3])]) (fun d K => l5 d.2.1.2.1 d.2.1.2.2.1 d.2.1.2.2.2.1 d.2.1.2.2.2.2.1 (fun (y4 : List Int) => K (.exit 0) [.tv (.lf (.full 1))] [some ⟨false, [.int .i64 d.2.1.2.1, .int .i64 d.2.1.2.2.1, .int .i64 d.2.1.2.2.2.1, .int .i64 d.2.1.2.2.2.2.1]⟩, some ⟨false, [.seq (.int .i64) 0 y4]⟩]) F d.1.2.2.1 d.2.2.1.2.1))]) code84 Try.f84.results.toList (encT sh84_1.vs d.1) (encH sh84_1.h d.2) K = (fun (a1 : Int) (a2 : Int) (a3 : Int) (a4 : Int) (K0 : (List Int → Option Res)) => c27_1 a1 a2 a3 a4 (fun x1 => cond (!x1) (K0 []) (l5 a1 a2 a3 a4 (fun x8 => K0 x8) F a1 [a1])) ) d.1.1.1 d.1.1.2.1 d.1.1.2.2.1 d.1.1.2.2.2.1 (fun (y0 : List Int) => K [.lf (.full 0)] [some ⟨false, [.seq (.int .i64) 0 y0]⟩]) := by kernel_rfl
theorem E84_1 (F : Nat) (d : sh84_1.den) (K : KF) : evBody Try.prog (T84_1 F) 28 0 (LT84_1 F) code84 Try.f84.results.toList (encT sh84_1.vs d.1) (encH sh84_1.h d.2) K = f84_1 F d.1.1.1 d.1.1.2.1 d.1.1.2.2.1 d.1.1.2.2.2.1 (fun (y0 : List Int) => K [.lf (.full 0)] [some ⟨false, [.seq (.int .i64) 0 y0]⟩]) := Eq.mp (by kernel_rfl) (E84_1g F (f27_1 F) (f84_1_l5 F)  d K)
theorem S84_1_ok (F : Nat) (o : Summ) (ho : SoundFn Try.prog 84 o) : SoundFn Try.prog 84 (S84_1 F o) :=
  soundFn_of (fn := Try.f84) (c := code84) (by kernel_rfl) (tab_cons (S27_1_ok F _ (noS_sound enter27)) tab_nil) (by kernel_rfl) (by kernel_rfl) ho (by rw [loops84]; exact (loopsOK_cons (by kernel_rfl) (L84_1_5 F) loopsOK_nil)) (by rw [scopes84]; exact scopesOK_nil) (E84_1 F)
end Go.Proofs.Ytjlolgpbidfmeaa.X
end

section
namespace Go.Proofs.Ytjlolgpbidfmeaa.X
open Go Go.Proofs.Ytjlolgpbidfmeaa.Ev Go.Proofs
set_option linter.unusedVariables false
/-! pentimentoref07.Nodes -/
noncomputable def f89_1_l4 {β : Type} (F : Nat) (v4 : List Int) (K0 : Int → Option β) : Nat → Int → Int → Option β
  | 0, _, _ => none
  | k + 1, v2, v3 => cond (decide (v3 < ((v4.length : Nat) : Int))) (cond (decide ((0 : Int) ≤ v3 ∧ v3 < ((v4.length : Nat) : Int))) (cond (decide (0 + v3.toNat < v4.length)) (f89_1_l4 F v4 K0 k (IntKind.i64.wrap (v2 + (v4.getD (0 + v3.toNat) 0))) (IntKind.i64.wrap (v3 + 1))) none) none) (K0 v2)
noncomputable def f89_1 {β : Type} (F : Nat) (a1 : Int) (a2 : Int) (a3 : Int) (a4 : Int) (K0 : Int → Option β) : Option β := f84_1 F a1 a2 a3 a4 (fun x1 => f89_1_l4 F x1 (fun x5 => K0 x5) F 0 0) 
def sh89_1 : Sh := ⟨[.agg [.int .i64, .int .i64, .int .i64, .int .i64]], []⟩
noncomputable def S89_1 (F : Nat) (o : Summ) : Summ := mkS sh89_1 (fun d K => f89_1 F d.1.1.1 d.1.1.2.1 d.1.1.2.2.1 d.1.1.2.2.2.1 (fun (y0 : Int) => K [.lf (.int .i64 y0)] [])) o
noncomputable def code89 : Code := bodyOf Try.f89
noncomputable def b89_0 : Code := cB (cB (cR (cL (cR (cR (cR (code89)))))))
theorem scopes89 : scopesOf code89 = [] := by kernel_rfl
theorem loops89 : loopsOf code89 = [b89_0] := by kernel_rfl
theorem enter89 : ∀ args w, (callFunc 89 args).run Try.prog w = .ok (.enter 89 args) w := enter_of (fn := Try.f89) (by kernel_rfl) (by kernel_rfl) (by kernel_rfl)
noncomputable def T89_1 (F : Nat) : FuncId → Option Summ := tab [(84, (S84_1 F noS))]
def sh89_1_l4 : Sh := ⟨[.lf (.int .i64), .lf (.full 0), .lf (.int .i64)], [some ⟨some false, [.seq (.int .i64) 0]⟩]⟩
noncomputable def G89_1_4 (F k : Nat) : LoopS := mkG sh89_1_l4 [3, 4, 5] (outT [(.exit 0, [3])]) (fun d K => f89_1_l4 F d.2.1.2.1 (fun (y0 : Int) => K (.exit 0) [.tv (.lf (.int .i64 y0))] [some ⟨false, [.seq (.int .i64) 0 d.2.1.2.1]⟩]) k d.1.1 d.1.2.2.1)
noncomputable def LT89_1 (F : Nat) : Nat → Option LoopS := ltab [(4, G89_1_4 F F)]
theorem L89_1_4g (F k : Nat) (c84_1 : Int → Int → Int → Int → (List Int → Option Res) → Option Res)  (l4 : List Int → (Int → Option Res) → Nat → Int → Int → Option Res) (X4 : LoopS) (d : sh89_1_l4.den) (K : KL) : (fun (v4 : List Int) (K0 : (Int → Option Res)) (k : Nat) (v2 : Int) (v3 : Int) => cond (decide (v3 < ((v4.length : Nat) : Int))) (cond (decide ((0 : Int) ≤ v3 ∧ v3 < ((v4.length : Nat) : Int))) (cond (decide (0 + v3.toNat < v4.length)) (l4 v4 K0 k (IntKind.i64.wrap (v2 + (v4.getD (0 + v3.toNat) 0))) (IntKind.i64.wrap (v3 + 1))) none) none) (K0 v2)) d.2.1.2.1 (fun (y0 : Int) => K (.exit 0) [.tv (.lf (.int .i64 y0))] [some ⟨false, [.seq (.int .i64) 0 d.2.1.2.1]⟩]) k d.1.1 d.1.2.2.1 = roundOf Try.prog (tab [(84, (mkS sh84_1 (fun d K => c84_1 d.1.1.1 d.1.1.2.1 d.1.1.2.2.1 d.1.1.2.2.2.1 (fun (y0 : List Int) => K [.lf (.full 0)] [some ⟨false, [.seq (.int .i64) 0 y0]⟩])) noS))]) 21 0 (ltab [(4, X4)]) (mkG sh89_1_l4 [3, 4, 5] (outT [(.exit 0, [3])]) (fun d K => l4 d.2.1.2.1 (fun (y0 : Int) => K (.exit 0) [.tv (.lf (.int .i64 y0))] [some ⟨false, [.seq (.int .i64) 0 d.2.1.2.1]⟩]) k d.1.1 d.1.2.2.1)) b89_0 (encT sh89_1_l4.vs d.1) (encH sh89_1_l4.h d.2) K := by kernel_rfl
theorem L89_1_4 (F : Nat) : LoopOK Try.prog (T89_1 F) 21 0 (LT89_1 F) (G89_1_4 F F) b89_0 :=
  loopOK_of (s := sh89_1_l4) (live := [3, 4, 5]) (out := (outT [(.exit 0, [3])])) (fun k d K => f89_1_l4 F d.2.1.2.1 (fun (y0 : Int) => K (.exit 0) [.tv (.lf (.int .i64 y0))] [some ⟨false, [.seq (.int .i64) 0 d.2.1.2.1]⟩]) k d.1.1 d.1.2.2.1) F (fun d K => by kernel_rfl)  (fun k d K => Eq.mp (by kernel_rfl) (L89_1_4g F k (f84_1 F)  (f89_1_l4 F) (G89_1_4 F F) d K))
theorem E89_1g (F : Nat) (c84_1 : Int → Int → Int → Int → (List Int → Option Res) → Option Res) (l4 : List Int → (Int → Option Res) → Nat → Int → Int → Option Res)  (d : sh89_1.den) (K : KF) : evBody Try.prog (tab [(84, (mkS sh84_1 (fun d K => c84_1 d.1.1.1 d.1.1.2.1 d.1.1.2.2.1 d.1.1.2.2.2.1 (fun (y0 : List Int) => K [.lf (.full 0)] [some ⟨false, [.seq (.int .i64) 0 y0]⟩])) noS))]) 21 0 (ltab [(4, mkG sh89_1_l4 [3, 4, 5] (outT [(.exit 0, [3])]) (fun d K => l4 d.2.1.2.1 (fun (y0 : Int) => K (.exit 0) [.tv (.lf (.int .i64 y0))] [some ⟨false, [.seq (.int .i64) 0 d.2.1.2.1]⟩]) F d.1.1 d.1.2.2.1))]) code89 Try.f89.results.toList (encT sh89_1.vs d.1) (encH sh89_1.h d.2) K = (fun (a1 : Int) (a2 : Int) (a3 : Int) (a4 : Int) (K0 : (Int → Option Res)) => c84_1 a1 a2 a3 a4 (fun x1 => l4 x1 (fun x5 => K0 x5) F 0 0) ) d.1.1.1 d.1.1.2.1 d.1.1.2.2.1 d.1.1.2.2.2.1 (fun (y0 : Int) => K [.lf (.int .i64 y0)] []) := by kernel_rfl
theorem E89_1 (F : Nat) (d : sh89_1.den) (K : KF) : evBody Try.prog (T89_1 F) 21 0 (LT89_1 F) code89 Try.f89.results.toList (encT sh89_1.vs d.1) (encH sh89_1.h d.2) K = f89_1 F d.1.1.1 d.1.1.2.1 d.1.1.2.2.1 d.1.1.2.2.2.1 (fun (y0 : Int) => K [.lf (.int .i64 y0)] []) := Eq.mp (by kernel_rfl) (E89_1g F (f84_1 F) (f89_1_l4 F)  d K)
theorem S89_1_ok (F : Nat) (o : Summ) (ho : SoundFn Try.prog 89 o) : SoundFn Try.prog 89 (S89_1 F o) :=
  soundFn_of (fn := Try.f89) (c := code89) (by kernel_rfl) (tab_cons (S84_1_ok F _ (noS_sound enter84)) tab_nil) (by kernel_rfl) (by kernel_rfl) ho (by rw [loops89]; exact (loopsOK_cons (by kernel_rfl) (L89_1_4 F) loopsOK_nil)) (by rw [scopes89]; exact scopesOK_nil) (E89_1 F)
end Go.Proofs.Ytjlolgpbidfmeaa.X
end

section
/- Trees' shapes: levels and numbers of nodes; any seat. -/
namespace Go.Proofs.Ytjlolgpbidfmeaa.X
open Go Go.Proofs.Ytjlolgpbidfmeaa.Ev
set_option linter.unusedVariables false

def lv : Nat → Int → Int → List Int
  | 0, _, _ => []
  | k + 1, n, f => if n > 1 then ((n + f - 1) / f) :: lv k ((n + f - 1) / f) f else []

theorem step_eq {n f : Int} (hf : 2 ≤ f ∧ f ≤ 4) (h1 : 1 < n) (h2 : n ≤ 128) :
    IntKind.i64.wrap ((IntKind.i64.wrap ((IntKind.i64.wrap (n + f)) - 1)).tdiv f) = (n + f - 1) / f ∧ 1 ≤ (n + f - 1) / f ∧ (n + f - 1) / f < n := by
  rw [w64 (x := n + f) (by omega) (by omega), w64 (x := n + f - 1) (by omega) (by omega), Int.tdiv_eq_ediv_of_nonneg (by omega)]
  have : f = 2 ∨ f = 3 ∨ f = 4 := by omega
  rcases this with rfl | rfl | rfl
  · rw [w64 (by omega) (by omega)]; omega
  · rw [w64 (by omega) (by omega)]; omega
  · rw [w64 (by omega) (by omega)]; omega

theorem lev48 {β : Type} {F : Nat} {x f c u : Int} (hf : 2 ≤ f ∧ f ≤ 4) {K : List Int → Option β} : ∀ (k : Nat) (n : Int) (acc : List Int), 1 ≤ n → n ≤ 128 → n < k → (acc.length : Int) + n ≤ 2000 →
    f124_1_l5 F x f c u K k n acc = K (acc ++ lv k n f)
  | 0, n, acc, h1, h2, h3, h4 => by omega
  | k + 1, n, acc, h1, h2, h3, h4 => by
    simp only [f124_1_l5, lv]
    by_cases hn : n > 1
    · obtain ⟨e, g1, g2⟩ := step_eq hf hn h2
      rw [e]
      have h0 : ¬ f = 0 := by omega
      have hl : (acc.length + 1) * 8 ≤ 70368744177664 := by omega
      simp only [hn, h0, hl, decide_true, decide_false, cond_true, cond_false, if_true]
      rw [lev48 hf k _ _ g1 (by omega) (by omega) (by simp; omega)]
      simp
    · simp [hn]

theorem lev49 {β : Type} {F : Nat} {x f c u : Int} (hf : 2 ≤ f ∧ f ≤ 4) {K : List Int → Option β} : ∀ (k : Nat) (n : Int) (acc : List Int), 1 ≤ n → n ≤ 128 → n < k → (acc.length : Int) + n ≤ 2000 →
    f84_1_l5 F x f c u K k n acc = K (acc ++ lv k n f)
  | 0, n, acc, h1, h2, h3, h4 => by omega
  | k + 1, n, acc, h1, h2, h3, h4 => by
    simp only [f84_1_l5, lv]
    by_cases hn : n > 1
    · obtain ⟨e, g1, g2⟩ := step_eq hf hn h2
      rw [e]
      have h0 : ¬ f = 0 := by omega
      have hl : (acc.length + 1) * 8 ≤ 70368744177664 := by omega
      simp only [hn, h0, hl, decide_true, decide_false, cond_true, cond_false, if_true]
      rw [lev49 hf k _ _ g1 (by omega) (by omega) (by simp; omega)]
      simp
    · simp [hn]

theorem lv_ok {f : Int} (hf : 2 ≤ f ∧ f ≤ 4) : ∀ (k : Nat) (n : Int), 1 ≤ n → n ≤ 128 → ((lv k n f).length : Int) < n ∧ ∀ y ∈ lv k n f, 1 ≤ y ∧ y ≤ 128
  | 0, n, h1, h2 => by simp [lv]; omega
  | k + 1, n, h1, h2 => by
    simp only [lv]
    by_cases hn : n > 1
    · obtain ⟨e, g1, g2⟩ := step_eq hf hn h2
      obtain ⟨q1, q2⟩ := lv_ok hf k _ g1 (by omega)
      rw [if_pos hn]
      refine ⟨by simp; omega, fun y hy => ?_⟩
      rcases List.mem_cons.1 hy with rfl | hy
      · omega
      · exact q2 y hy
    · rw [if_neg hn]; simp; omega

/-- The geometry can be. -/
def rt (n f c u : Int) : Prop := (1 ≤ n ∧ n ≤ 128) ∧ (2 ≤ f ∧ f ≤ 4) ∧ (0 ≤ c ∧ c ≤ 64) ∧ (1 ≤ u ∧ u ≤ 320)
instance (n f c u : Int) : Decidable (rt n f c u) := by unfold rt; infer_instance

theorem cnd {β : Type} {p q : Prop} [Decidable p] [Decidable q] {K : Bool → Option β} : cond (decide p) (K (decide q)) (K false) = K (decide (p ∧ q)) := by
  by_cases h : p <;> simp [h]

theorem within87 {β : Type} {F : Nat} {a b c : Int} {K : Bool → Option β} : f121_1 F a b c K = K (decide (a ≥ b ∧ a ≤ c)) := by
  simp only [f121_1, cnd]

theorem right46 {β : Type} {F : Nat} {n f c u : Int} {K : Bool → Option β} : f77_1 F n f c u K = K (decide (rt n f c u)) := by
  simp only [f77_1, within87, cnd]
  congr 1

theorem right47 {β : Type} {F : Nat} {n f c u : Int} {K : Bool → Option β} : f27_1 F n f c u K = K (decide (rt n f c u)) := by
  simp only [f27_1, cnd]
  congr 1
  exact decide_eq_decide.2 (by unfold rt; omega)

def levels (n f c u : Int) : List Int := if rt n f c u then n :: lv 20000 n f else []

theorem levels48 {β : Type} {n f c u : Int} {K : List Int → Option β} : f124_1 20000 n f c u K = K (levels n f c u) := by
  simp only [f124_1, right46, levels]
  by_cases h : rt n f c u
  · simp only [h, decide_true, Bool.not_true, cond_false, if_true]
    rw [lev48 h.2.1 20000 n [n] h.1.1 h.1.2 (by have := h.1.2; omega) (by have := h.1.2; simp; omega)]
    rfl
  · simp [h]

theorem levels49 {β : Type} {n f c u : Int} {K : List Int → Option β} : f84_1 20000 n f c u K = K (levels n f c u) := by
  simp only [f84_1, right47, levels]
  by_cases h : rt n f c u
  · simp only [h, decide_true, Bool.not_true, cond_false, if_true]
    rw [lev49 h.2.1 20000 n [n] h.1.1 h.1.2 (by have := h.1.2; omega) (by have := h.1.2; simp; omega)]
    rfl
  · simp [h]

theorem levels_ok (n f c u : Int) : (levels n f c u).length ≤ 128 ∧ ∀ y ∈ levels n f c u, 1 ≤ y ∧ y ≤ 128 := by
  unfold levels
  split
  · rename_i h
    obtain ⟨q1, q2⟩ := lv_ok h.2.1 20000 n h.1.1 h.1.2
    have := h.1
    refine ⟨by simp; omega, fun y hy => ?_⟩
    rcases List.mem_cons.1 hy with rfl | hy
    · omega
    · exact q2 y hy
  · simp

def sumI : List Int → Int
  | [] => 0
  | x :: r => x + sumI r

theorem sumI_ok : ∀ (l : List Int), (∀ y ∈ l, 1 ≤ y ∧ y ≤ 128) → (l.length : Int) ≤ sumI l ∧ sumI l ≤ 128 * l.length
  | [], _ => by simp [sumI]
  | x :: r, h => by
    obtain ⟨q1, q2⟩ := sumI_ok r fun y hy => h y (by simp [hy])
    have := h x (by simp)
    simp only [sumI, List.length_cons]
    omega

theorem sum50 {β : Type} {F : Nat} {K : Int → Option β} (l : List Int) (hl : l.length ≤ 128) (hy : ∀ y ∈ l, 1 ≤ y ∧ y ≤ 128) : ∀ (r : List Int) (i : Nat) (k : Nat) (s : Int), l.drop i = r → i ≤ l.length → r.length < k → 0 ≤ s → s ≤ 128 * i →
    f86_1_l3 F ((l.length : Nat) : Int) l K k s (i : Int) = K (s + sumI r)
  | [], i, k, s, hd, hi, hk, h0, h1 => by
    cases k with
    | zero => omega
    | succ k =>
      have : i = l.length := by
        have := congrArg List.length hd
        simp at this; omega
      subst this
      simp [f86_1_l3, sumI]
  | x :: r, i, k, s, hd, hi, hk, h0, h1 => by
    cases k with
    | zero => omega
    | succ k =>
      have hlen : l.length - i = r.length + 1 := by
        have := congrArg List.length hd
        simpa using this
      have hlt : i < l.length := by omega
      have hx : l[i]? = some x := by
        have := congrArg (·[0]?) hd
        simpa using this
      have hm := hy x (List.mem_of_getElem? hx)
      have hdr : l.drop (i + 1) = r := by
        rw [← List.drop_drop, hd]; rfl
      simp only [f86_1_l3]
      have e1 : decide ((i : Int) < ((l.length : Nat) : Int)) = true := by simp; omega
      have e2 : decide ((0 : Int) ≤ (i : Int) ∧ (i : Int) < ((l.length : Nat) : Int)) = true := by simp; omega
      have e3 : decide (0 + (i : Int).toNat < l.length) = true := by simp; omega
      have e4 : l.getD (0 + (i : Int).toNat) 0 = x := by
        rw [List.getD_eq_getElem?_getD]; simp [hx]
      rw [e1, e2, e3, e4, cond_true, cond_true, cond_true, w64 (by omega) (by omega), w64 (by omega) (by omega)]
      have := sum50 (F := F) (K := K) l hl hy r (i + 1) k (s + x) hdr (by omega) (by simpa using hk) (by omega) (by omega)
      rw [show ((i : Int) + 1) = ((i + 1 : Nat) : Int) by omega, this]
      congr 1
      simp only [sumI]; omega

theorem sum51 {β : Type} {F : Nat} {K : Int → Option β} (l : List Int) (hl : l.length ≤ 128) (hy : ∀ y ∈ l, 1 ≤ y ∧ y ≤ 128) : ∀ (r : List Int) (i : Nat) (k : Nat) (s : Int), l.drop i = r → i ≤ l.length → r.length < k → 0 ≤ s → s ≤ 128 * i →
    f89_1_l4 F l K k s (i : Int) = K (s + sumI r)
  | [], i, k, s, hd, hi, hk, h0, h1 => by
    cases k with
    | zero => omega
    | succ k =>
      have : i = l.length := by
        have := congrArg List.length hd
        simp at this; omega
      subst this
      simp [f89_1_l4, sumI]
  | x :: r, i, k, s, hd, hi, hk, h0, h1 => by
    cases k with
    | zero => omega
    | succ k =>
      have hlen : l.length - i = r.length + 1 := by
        have := congrArg List.length hd
        simpa using this
      have hlt : i < l.length := by omega
      have hx : l[i]? = some x := by
        have := congrArg (·[0]?) hd
        simpa using this
      have hm := hy x (List.mem_of_getElem? hx)
      have hdr : l.drop (i + 1) = r := by
        rw [← List.drop_drop, hd]; rfl
      simp only [f89_1_l4]
      have e1 : decide ((i : Int) < ((l.length : Nat) : Int)) = true := by simp; omega
      have e2 : decide ((0 : Int) ≤ (i : Int) ∧ (i : Int) < ((l.length : Nat) : Int)) = true := by simp; omega
      have e3 : decide (0 + (i : Int).toNat < l.length) = true := by simp; omega
      have e4 : l.getD (0 + (i : Int).toNat) 0 = x := by
        rw [List.getD_eq_getElem?_getD]; simp [hx]
      rw [e1, e2, e3, e4, cond_true, cond_true, cond_true, w64 (by omega) (by omega), w64 (by omega) (by omega)]
      have := sum51 (F := F) (K := K) l hl hy r (i + 1) k (s + x) hdr (by omega) (by simpa using hk) (by omega) (by omega)
      rw [show ((i : Int) + 1) = ((i + 1 : Nat) : Int) by omega, this]
      congr 1
      simp only [sumI]; omega

def nodes (n f c u : Int) : Int := sumI (levels n f c u)

theorem nodes_ok (n f c u : Int) : 0 ≤ nodes n f c u ∧ nodes n f c u ≤ 16384 ∧ (rt n f c u → 1 ≤ nodes n f c u) ∧ (¬ rt n f c u → nodes n f c u = 0) := by
  obtain ⟨h1, h2⟩ := levels_ok n f c u
  obtain ⟨h3, h4⟩ := sumI_ok _ h2
  unfold nodes
  refine ⟨by omega, by omega, fun h => ?_, fun h => by simp [levels, h, sumI]⟩
  have : 1 ≤ (levels n f c u).length := by simp [levels, h]
  omega

theorem nodes50 {β : Type} {n f c u : Int} {K : Int → Option β} : f86_1 20000 n f c u K = K (nodes n f c u) := by
  obtain ⟨h1, h2⟩ := levels_ok n f c u
  simp only [f86_1, levels48]
  have := sum50 (F := 20000) (K := K) (levels n f c u) h1 h2 _ 0 20000 0 rfl (by omega) (by simp; omega) (by omega) (by omega)
  simp only [List.drop_zero, Int.zero_add] at this
  exact this

theorem nodes51 {β : Type} {n f c u : Int} {K : Int → Option β} : f89_1 20000 n f c u K = K (nodes n f c u) := by
  obtain ⟨h1, h2⟩ := levels_ok n f c u
  simp only [f89_1, levels49]
  have := sum51 (F := 20000) (K := K) (levels n f c u) h1 h2 _ 0 20000 0 rfl (by omega) (by simp; omega) (by omega) (by omega)
  simp only [List.drop_zero, Int.zero_add] at this
  exact this


end Go.Proofs.Ytjlolgpbidfmeaa.X
end

section
namespace Go.Proofs.Ytjlolgpbidfmeaa.X
open Go Go.Proofs.Ytjlolgpbidfmeaa.Ev Go.Proofs
set_option linter.unusedVariables false
/-! pentimentoref07.Children -/
noncomputable def f85_1_l10 {β : Type} (F : Nat) (v10 : Int) (v11 : Int) (v12 : Int) (v13 : Int) (v15 : Int) (v16 : Int) (v17 : Int) (v18 : Int) (v19 : List Int) (K0 : List Int → Option β) : Nat → Int → List Int → Option β
  | 0, _, _ => none
  | k + 1, v14, v20 => cond (decide (v14 < v16)) (cond (decide ((0 : Int) ≤ v12 ∧ v12 < ((v19.length : Nat) : Int))) (cond (decide (0 + v12.toNat < v19.length)) (cond (decide (IntKind.i64.wrap ((IntKind.i64.wrap ((IntKind.i64.wrap (v10 - v13)) * v16)) + v14) < v19.getD (0 + v12.toNat) 0)) (cond (decide ((v20.length + 1) * 8 ≤ 70368744177664)) (f85_1_l10 F v10 v11 v12 v13 v15 v16 v17 v18 v19 K0 k (IntKind.i64.wrap (v14 + 1)) (v20 ++ [IntKind.i64.wrap (v11 + (IntKind.i64.wrap ((IntKind.i64.wrap ((IntKind.i64.wrap (v10 - v13)) * v16)) + v14)))])) none) (f85_1_l10 F v10 v11 v12 v13 v15 v16 v17 v18 v19 K0 k (IntKind.i64.wrap (v14 + 1)) v20)) none) none) (K0 v20)
noncomputable def f85_1_l4 {β : Type} (F : Nat) (v2 : Int) (v5 : Int) (v6 : Int) (v7 : Int) (v8 : Int) (v9 : List Int) (K0 : List Int → Option β) (K1 : Option β) : Nat → Int → Int → Option β
  | 0, _, _ => none
  | k + 1, v3, v4 => cond (decide (IntKind.i64.wrap (v4 + 1) < ((v9.length : Nat) : Int))) (cond (decide ((0 : Int) ≤ v4 ∧ v4 < ((v9.length : Nat) : Int))) (cond (decide (0 + v4.toNat < v9.length)) (cond (decide (v2 ≥ IntKind.i64.wrap (v3 + (v9.getD (0 + v4.toNat) 0)))) (cond (decide ((0 : Int) ≤ IntKind.i64.wrap (v4 + 1) ∧ IntKind.i64.wrap (v4 + 1) < ((v9.length : Nat) : Int))) (cond (decide (0 + ((IntKind.i64.wrap (v4 + 1)).toNat) < v9.length)) (cond (decide (v2 < IntKind.i64.wrap ((IntKind.i64.wrap (v3 + (v9.getD (0 + v4.toNat) 0))) + (v9.getD (0 + ((IntKind.i64.wrap (v4 + 1)).toNat)) 0)))) (f85_1_l10 F v2 v3 v4 (IntKind.i64.wrap (v3 + (v9.getD (0 + v4.toNat) 0))) v5 v6 v7 v8 v9 (fun x21 => K0 x21) F 0 []) (f85_1_l4 F v2 v5 v6 v7 v8 v9 K0 K1 k (IntKind.i64.wrap (v3 + (v9.getD (0 + v4.toNat) 0))) (IntKind.i64.wrap (v4 + 1)))) none) none) (f85_1_l4 F v2 v5 v6 v7 v8 v9 K0 K1 k (IntKind.i64.wrap (v3 + (v9.getD (0 + v4.toNat) 0))) (IntKind.i64.wrap (v4 + 1)))) none) none) (K1)
noncomputable def f85_1 {β : Type} (F : Nat) (a1 : Int) (a2 : Int) (a3 : Int) (a4 : Int) (a5 : Int) (K0 : List Int → Option β) : Option β := f84_1 F a1 a2 a3 a4 (fun x1 => f85_1_l4 F a5 a1 a2 a3 a4 x1 (fun x22 => K0 x22) (K0 []) F 0 0) 
def sh85_1 : Sh := ⟨[.agg [.int .i64, .int .i64, .int .i64, .int .i64], .lf (.int .i64)], []⟩
noncomputable def S85_1 (F : Nat) (o : Summ) : Summ := mkS sh85_1 (fun d K => f85_1 F d.1.1.1 d.1.1.2.1 d.1.1.2.2.1 d.1.1.2.2.2.1 d.1.2.1 (fun (y0 : List Int) => K [.lf (.full 0)] [some ⟨false, [.seq (.int .i64) 0 y0]⟩])) o
noncomputable def code85 : Code := bodyOf Try.f85
noncomputable def b85_0 : Code := cB (cB (cR (cL (cR (cR (cR (code85)))))))
noncomputable def b85_1 : Code := cB (cB (cR (cL (cR (cT (cR (cL (cR (cB (cL (cR (cB (cB (cR (cL (cR (cR (cR (code85)))))))))))))))))))
theorem scopes85 : scopesOf code85 = [] := by kernel_rfl
theorem loops85 : loopsOf code85 = [b85_0, b85_1] := by kernel_rfl
theorem enter85 : ∀ args w, (callFunc 85 args).run Try.prog w = .ok (.enter 85 args) w := enter_of (fn := Try.f85) (by kernel_rfl) (by kernel_rfl) (by kernel_rfl)
noncomputable def T85_1 (F : Nat) : FuncId → Option Summ := tab [(84, (S84_1 F noS))]
def sh85_1_l10 : Sh := ⟨[.lf (.int .i64), .lf (.ptr 0 0), .lf (.full 1), .lf (.int .i64), .lf (.int .i64), .lf (.int .i64), .lf (.full 2), .lf (.int .i64)], [some ⟨some false, [.int .i64, .int .i64, .int .i64, .int .i64]⟩, some ⟨some false, [.seq (.int .i64) 0]⟩, some ⟨some false, [.seq (.int .i64) 0]⟩]⟩
noncomputable def G85_1_10 (F k : Nat) : LoopS := mkG sh85_1_l10 [1, 2, 5, 6, 7, 8, 9, 10] (outT [(.exit 2, [9])]) (fun d K => f85_1_l10 F d.1.1 d.1.2.2.2.1 d.1.2.2.2.2.1 d.1.2.2.2.2.2.1 d.2.1.2.1 d.2.1.2.2.1 d.2.1.2.2.2.1 d.2.1.2.2.2.2.1 d.2.2.1.2.1 (fun (y5 : List Int) => K (.exit 2) [.tv (.lf (.full 2))] [some ⟨false, [.int .i64 d.2.1.2.1, .int .i64 d.2.1.2.2.1, .int .i64 d.2.1.2.2.2.1, .int .i64 d.2.1.2.2.2.2.1]⟩, some ⟨false, [.seq (.int .i64) 0 d.2.2.1.2.1]⟩, some ⟨false, [.seq (.int .i64) 0 y5]⟩]) k d.1.2.2.2.2.2.2.2.1 d.2.2.2.1.2.1)
def sh85_1_l4 : Sh := ⟨[.lf (.int .i64), .lf (.ptr 0 0), .lf (.full 1), .lf (.int .i64), .lf (.int .i64)], [some ⟨some false, [.int .i64, .int .i64, .int .i64, .int .i64]⟩, some ⟨some false, [.seq (.int .i64) 0]⟩]⟩
noncomputable def G85_1_4 (F k : Nat) : LoopS := mkG sh85_1_l4 [1, 2, 5, 6, 7] (outT [(.exit 0, []), (.ret, [4])]) (fun d K => f85_1_l4 F d.1.1 d.2.1.2.1 d.2.1.2.2.1 d.2.1.2.2.2.1 d.2.1.2.2.2.2.1 d.2.2.1.2.1 (fun (y5 : List Int) => K .ret [.tv (.lf (.full 2))] [some ⟨false, [.int .i64 d.2.1.2.1, .int .i64 d.2.1.2.2.1, .int .i64 d.2.1.2.2.2.1, .int .i64 d.2.1.2.2.2.2.1]⟩, some ⟨false, [.seq (.int .i64) 0 d.2.2.1.2.1]⟩, some ⟨false, [.seq (.int .i64) 0 y5]⟩]) (K (.exit 0) [] [some ⟨false, [.int .i64 d.2.1.2.1, .int .i64 d.2.1.2.2.1, .int .i64 d.2.1.2.2.2.1, .int .i64 d.2.1.2.2.2.2.1]⟩, some ⟨false, [.seq (.int .i64) 0 d.2.2.1.2.1]⟩]) k d.1.2.2.2.1 d.1.2.2.2.2.1)
noncomputable def LT85_1 (F : Nat) : Nat → Option LoopS := ltab [(10, G85_1_10 F F), (4, G85_1_4 F F)]
theorem L85_1_10g (F k : Nat) (c84_1 : Int → Int → Int → Int → (List Int → Option Res) → Option Res)  (l10 : Int → Int → Int → Int → Int → Int → Int → Int → List Int → (List Int → Option Res) → Nat → Int → List Int → Option Res) (X10 : LoopS) (X4 : LoopS) (d : sh85_1_l10.den) (K : KL) : (fun (v10 : Int) (v11 : Int) (v12 : Int) (v13 : Int) (v15 : Int) (v16 : Int) (v17 : Int) (v18 : Int) (v19 : List Int) (K0 : (List Int → Option Res)) (k : Nat) (v14 : Int) (v20 : List Int) => cond (decide (v14 < v16)) (cond (decide ((0 : Int) ≤ v12 ∧ v12 < ((v19.length : Nat) : Int))) (cond (decide (0 + v12.toNat < v19.length)) (cond (decide (IntKind.i64.wrap ((IntKind.i64.wrap ((IntKind.i64.wrap (v10 - v13)) * v16)) + v14) < v19.getD (0 + v12.toNat) 0)) (cond (decide ((v20.length + 1) * 8 ≤ 70368744177664)) (l10 v10 v11 v12 v13 v15 v16 v17 v18 v19 K0 k (IntKind.i64.wrap (v14 + 1)) (v20 ++ [IntKind.i64.wrap (v11 + (IntKind.i64.wrap ((IntKind.i64.wrap ((IntKind.i64.wrap (v10 - v13)) * v16)) + v14)))])) none) (l10 v10 v11 v12 v13 v15 v16 v17 v18 v19 K0 k (IntKind.i64.wrap (v14 + 1)) v20)) none) none) (K0 v20)) d.1.1 d.1.2.2.2.1 d.1.2.2.2.2.1 d.1.2.2.2.2.2.1 d.2.1.2.1 d.2.1.2.2.1 d.2.1.2.2.2.1 d.2.1.2.2.2.2.1 d.2.2.1.2.1 (fun (y5 : List Int) => K (.exit 2) [.tv (.lf (.full 2))] [some ⟨false, [.int .i64 d.2.1.2.1, .int .i64 d.2.1.2.2.1, .int .i64 d.2.1.2.2.2.1, .int .i64 d.2.1.2.2.2.2.1]⟩, some ⟨false, [.seq (.int .i64) 0 d.2.2.1.2.1]⟩, some ⟨false, [.seq (.int .i64) 0 y5]⟩]) k d.1.2.2.2.2.2.2.2.1 d.2.2.2.1.2.1 = roundOf Try.prog (tab [(84, (mkS sh84_1 (fun d K => c84_1 d.1.1.1 d.1.1.2.1 d.1.1.2.2.1 d.1.1.2.2.2.1 (fun (y0 : List Int) => K [.lf (.full 0)] [some ⟨false, [.seq (.int .i64) 0 y0]⟩])) noS))]) 69 0 (ltab [(10, X10), (4, X4)]) (mkG sh85_1_l10 [1, 2, 5, 6, 7, 8, 9, 10] (outT [(.exit 2, [9])]) (fun d K => l10 d.1.1 d.1.2.2.2.1 d.1.2.2.2.2.1 d.1.2.2.2.2.2.1 d.2.1.2.1 d.2.1.2.2.1 d.2.1.2.2.2.1 d.2.1.2.2.2.2.1 d.2.2.1.2.1 (fun (y5 : List Int) => K (.exit 2) [.tv (.lf (.full 2))] [some ⟨false, [.int .i64 d.2.1.2.1, .int .i64 d.2.1.2.2.1, .int .i64 d.2.1.2.2.2.1, .int .i64 d.2.1.2.2.2.2.1]⟩, some ⟨false, [.seq (.int .i64) 0 d.2.2.1.2.1]⟩, some ⟨false, [.seq (.int .i64) 0 y5]⟩]) k d.1.2.2.2.2.2.2.2.1 d.2.2.2.1.2.1)) b85_1 (encT sh85_1_l10.vs d.1) (encH sh85_1_l10.h d.2) K := by kernel_rfl
theorem L85_1_10 (F : Nat) : LoopOK Try.prog (T85_1 F) 69 0 (LT85_1 F) (G85_1_10 F F) b85_1 :=
  loopOK_of (s := sh85_1_l10) (live := [1, 2, 5, 6, 7, 8, 9, 10]) (out := (outT [(.exit 2, [9])])) (fun k d K => f85_1_l10 F d.1.1 d.1.2.2.2.1 d.1.2.2.2.2.1 d.1.2.2.2.2.2.1 d.2.1.2.1 d.2.1.2.2.1 d.2.1.2.2.2.1 d.2.1.2.2.2.2.1 d.2.2.1.2.1 (fun (y5 : List Int) => K (.exit 2) [.tv (.lf (.full 2))] [some ⟨false, [.int .i64 d.2.1.2.1, .int .i64 d.2.1.2.2.1, .int .i64 d.2.1.2.2.2.1, .int .i64 d.2.1.2.2.2.2.1]⟩, some ⟨false, [.seq (.int .i64) 0 d.2.2.1.2.1]⟩, some ⟨false, [.seq (.int .i64) 0 y5]⟩]) k d.1.2.2.2.2.2.2.2.1 d.2.2.2.1.2.1) F (fun d K => by kernel_rfl)  (fun k d K => Eq.mp (by kernel_rfl) (L85_1_10g F k (f84_1 F)  (f85_1_l10 F) (G85_1_10 F F) (G85_1_4 F F) d K))
theorem L85_1_4g (F k : Nat) (c84_1 : Int → Int → Int → Int → (List Int → Option Res) → Option Res) (l10 : Int → Int → Int → Int → Int → Int → Int → Int → List Int → (List Int → Option Res) → Nat → Int → List Int → Option Res) (l4 : Int → Int → Int → Int → Int → List Int → (List Int → Option Res) → (Option Res) → Nat → Int → Int → Option Res) (X4 : LoopS) (d : sh85_1_l4.den) (K : KL) : (fun (v2 : Int) (v5 : Int) (v6 : Int) (v7 : Int) (v8 : Int) (v9 : List Int) (K0 : (List Int → Option Res)) (K1 : (Option Res)) (k : Nat) (v3 : Int) (v4 : Int) => cond (decide (IntKind.i64.wrap (v4 + 1) < ((v9.length : Nat) : Int))) (cond (decide ((0 : Int) ≤ v4 ∧ v4 < ((v9.length : Nat) : Int))) (cond (decide (0 + v4.toNat < v9.length)) (cond (decide (v2 ≥ IntKind.i64.wrap (v3 + (v9.getD (0 + v4.toNat) 0)))) (cond (decide ((0 : Int) ≤ IntKind.i64.wrap (v4 + 1) ∧ IntKind.i64.wrap (v4 + 1) < ((v9.length : Nat) : Int))) (cond (decide (0 + ((IntKind.i64.wrap (v4 + 1)).toNat) < v9.length)) (cond (decide (v2 < IntKind.i64.wrap ((IntKind.i64.wrap (v3 + (v9.getD (0 + v4.toNat) 0))) + (v9.getD (0 + ((IntKind.i64.wrap (v4 + 1)).toNat)) 0)))) (l10 v2 v3 v4 (IntKind.i64.wrap (v3 + (v9.getD (0 + v4.toNat) 0))) v5 v6 v7 v8 v9 (fun x21 => K0 x21) F 0 []) (l4 v2 v5 v6 v7 v8 v9 K0 K1 k (IntKind.i64.wrap (v3 + (v9.getD (0 + v4.toNat) 0))) (IntKind.i64.wrap (v4 + 1)))) none) none) (l4 v2 v5 v6 v7 v8 v9 K0 K1 k (IntKind.i64.wrap (v3 + (v9.getD (0 + v4.toNat) 0))) (IntKind.i64.wrap (v4 + 1)))) none) none) (K1)) d.1.1 d.2.1.2.1 d.2.1.2.2.1 d.2.1.2.2.2.1 d.2.1.2.2.2.2.1 d.2.2.1.2.1 (fun (y5 : List Int) => K .ret [.tv (.lf (.full 2))] [some ⟨false, [.int .i64 d.2.1.2.1, .int .i64 d.2.1.2.2.1, .int .i64 d.2.1.2.2.2.1, .int .i64 d.2.1.2.2.2.2.1]⟩, some ⟨false, [.seq (.int .i64) 0 d.2.2.1.2.1]⟩, some ⟨false, [.seq (.int .i64) 0 y5]⟩]) (K (.exit 0) [] [some ⟨false, [.int .i64 d.2.1.2.1, .int .i64 d.2.1.2.2.1, .int .i64 d.2.1.2.2.2.1, .int .i64 d.2.1.2.2.2.2.1]⟩, some ⟨false, [.seq (.int .i64) 0 d.2.2.1.2.1]⟩]) k d.1.2.2.2.1 d.1.2.2.2.2.1 = roundOf Try.prog (tab [(84, (mkS sh84_1 (fun d K => c84_1 d.1.1.1 d.1.1.2.1 d.1.1.2.2.1 d.1.1.2.2.2.1 (fun (y0 : List Int) => K [.lf (.full 0)] [some ⟨false, [.seq (.int .i64) 0 y0]⟩])) noS))]) 69 0 (ltab [(10, mkG sh85_1_l10 [1, 2, 5, 6, 7, 8, 9, 10] (outT [(.exit 2, [9])]) (fun d K => l10 d.1.1 d.1.2.2.2.1 d.1.2.2.2.2.1 d.1.2.2.2.2.2.1 d.2.1.2.1 d.2.1.2.2.1 d.2.1.2.2.2.1 d.2.1.2.2.2.2.1 d.2.2.1.2.1 (fun (y5 : List Int) => K (.exit 2) [.tv (.lf (.full 2))] [some ⟨false, [.int .i64 d.2.1.2.1, .int .i64 d.2.1.2.2.1, .int .i64 d.2.1.2.2.2.1, .int .i64 d.2.1.2.2.2.2.1]⟩, some ⟨false, [.seq (.int .i64) 0 d.2.2.1.2.1]⟩, some ⟨false, [.seq (.int .i64) 0 y5]⟩]) F d.1.2.2.2.2.2.2.2.1 d.2.2.2.1.2.1)), (4, X4)]) (mkG sh85_1_l4 [1, 2, 5, 6, 7] (outT [(.exit 0, []), (.ret, [4])]) (fun d K => l4 d.1.1 d.2.1.2.1 d.2.1.2.2.1 d.2.1.2.2.2.1 d.2.1.2.2.2.2.1 d.2.2.1.2.1 (fun (y5 : List Int) => K .ret [.tv (.lf (.full 2))] [some ⟨false, [.int .i64 d.2.1.2.1, .int .i64 d.2.1.2.2.1, .int .i64 d.2.1.2.2.2.1, .int .i64 d.2.1.2.2.2.2.1]⟩, some ⟨false, [.seq (.int .i64) 0 d.2.2.1.2.1]⟩, some ⟨false, [.seq (.int .i64) 0 y5]⟩]) (K (.exit 0) [] [some ⟨false, [.int .i64 d.2.1.2.1, .int .i64 d.2.1.2.2.1, .int .i64 d.2.1.2.2.2.1, .int .i64 d.2.1.2.2.2.2.1]⟩, some ⟨false, [.seq (.int .i64) 0 d.2.2.1.2.1]⟩]) k d.1.2.2.2.1 d.1.2.2.2.2.1)) b85_0 (encT sh85_1_l4.vs d.1) (encH sh85_1_l4.h d.2) K := by kernel_rfl
theorem L85_1_4 (F : Nat) : LoopOK Try.prog (T85_1 F) 69 0 (LT85_1 F) (G85_1_4 F F) b85_0 :=
  loopOK_of (s := sh85_1_l4) (live := [1, 2, 5, 6, 7]) (out := (outT [(.exit 0, []), (.ret, [4])])) (fun k d K => f85_1_l4 F d.1.1 d.2.1.2.1 d.2.1.2.2.1 d.2.1.2.2.2.1 d.2.1.2.2.2.2.1 d.2.2.1.2.1 (fun (y5 : List Int) => K .ret [.tv (.lf (.full 2))] [some ⟨false, [.int .i64 d.2.1.2.1, .int .i64 d.2.1.2.2.1, .int .i64 d.2.1.2.2.2.1, .int .i64 d.2.1.2.2.2.2.1]⟩, some ⟨false, [.seq (.int .i64) 0 d.2.2.1.2.1]⟩, some ⟨false, [.seq (.int .i64) 0 y5]⟩]) (K (.exit 0) [] [some ⟨false, [.int .i64 d.2.1.2.1, .int .i64 d.2.1.2.2.1, .int .i64 d.2.1.2.2.2.1, .int .i64 d.2.1.2.2.2.2.1]⟩, some ⟨false, [.seq (.int .i64) 0 d.2.2.1.2.1]⟩]) k d.1.2.2.2.1 d.1.2.2.2.2.1) F (fun d K => by kernel_rfl)  (fun k d K => Eq.mp (by kernel_rfl) (L85_1_4g F k (f84_1 F) (f85_1_l10 F) (f85_1_l4 F) (G85_1_4 F F) d K))
theorem E85_1g (F : Nat) (c84_1 : Int → Int → Int → Int → (List Int → Option Res) → Option Res) (l4 : Int → Int → Int → Int → Int → List Int → (List Int → Option Res) → (Option Res) → Nat → Int → Int → Option Res) (X10 : LoopS) (d : sh85_1.den) (K : KF) : evBody Try.prog (tab [(84, (mkS sh84_1 (fun d K => c84_1 d.1.1.1 d.1.1.2.1 d.1.1.2.2.1 d.1.1.2.2.2.1 (fun (y0 : List Int) => K [.lf (.full 0)] [some ⟨false, [.seq (.int .i64) 0 y0]⟩])) noS))]) 69 0 (ltab [(10, X10), (4, mkG sh85_1_l4 [1, 2, 5, 6, 7] (outT [(.exit 0, []), (.ret, [4])]) (fun d K => l4 d.1.1 d.2.1.2.1 d.2.1.2.2.1 d.2.1.2.2.2.1 d.2.1.2.2.2.2.1 d.2.2.1.2.1 (fun (y5 : List Int) => K .ret [.tv (.lf (.full 2))] [some ⟨false, [.int .i64 d.2.1.2.1, .int .i64 d.2.1.2.2.1, .int .i64 d.2.1.2.2.2.1, .int .i64 d.2.1.2.2.2.2.1]⟩, some ⟨false, [.seq (.int .i64) 0 d.2.2.1.2.1]⟩, some ⟨false, [.seq (.int .i64) 0 y5]⟩]) (K (.exit 0) [] [some ⟨false, [.int .i64 d.2.1.2.1, .int .i64 d.2.1.2.2.1, .int .i64 d.2.1.2.2.2.1, .int .i64 d.2.1.2.2.2.2.1]⟩, some ⟨false, [.seq (.int .i64) 0 d.2.2.1.2.1]⟩]) F d.1.2.2.2.1 d.1.2.2.2.2.1))]) code85 Try.f85.results.toList (encT sh85_1.vs d.1) (encH sh85_1.h d.2) K = (fun (a1 : Int) (a2 : Int) (a3 : Int) (a4 : Int) (a5 : Int) (K0 : (List Int → Option Res)) => c84_1 a1 a2 a3 a4 (fun x1 => l4 a5 a1 a2 a3 a4 x1 (fun x22 => K0 x22) (K0 []) F 0 0) ) d.1.1.1 d.1.1.2.1 d.1.1.2.2.1 d.1.1.2.2.2.1 d.1.2.1 (fun (y0 : List Int) => K [.lf (.full 0)] [some ⟨false, [.seq (.int .i64) 0 y0]⟩]) := by kernel_rfl
theorem E85_1 (F : Nat) (d : sh85_1.den) (K : KF) : evBody Try.prog (T85_1 F) 69 0 (LT85_1 F) code85 Try.f85.results.toList (encT sh85_1.vs d.1) (encH sh85_1.h d.2) K = f85_1 F d.1.1.1 d.1.1.2.1 d.1.1.2.2.1 d.1.1.2.2.2.1 d.1.2.1 (fun (y0 : List Int) => K [.lf (.full 0)] [some ⟨false, [.seq (.int .i64) 0 y0]⟩]) := Eq.mp (by kernel_rfl) (E85_1g F (f84_1 F) (f85_1_l4 F) (G85_1_10 F F) d K)
theorem S85_1_ok (F : Nat) (o : Summ) (ho : SoundFn Try.prog 85 o) : SoundFn Try.prog 85 (S85_1 F o) :=
  soundFn_of (fn := Try.f85) (c := code85) (by kernel_rfl) (tab_cons (S84_1_ok F _ (noS_sound enter84)) tab_nil) (by kernel_rfl) (by kernel_rfl) ho (by rw [loops85]; exact (loopsOK_cons (by kernel_rfl) (L85_1_4 F) (loopsOK_cons (by kernel_rfl) (L85_1_10 F) loopsOK_nil))) (by rw [scopes85]; exact scopesOK_nil) (E85_1 F)
end Go.Proofs.Ytjlolgpbidfmeaa.X
end

section
/- Trees' shapes: parents and children over the list of the levels; any seat. -/
namespace Go.Proofs.Ytjlolgpbidfmeaa.X
open Go Go.Proofs.Ytjlolgpbidfmeaa.Ev
set_option linter.unusedVariables false

/-- Children of a node, by the levels from a number on. -/
def kids (f : Int) (from_ a q : Int) : Nat → List Int
  | 0 => []
  | k + 1 => kids f from_ a q k ++ (if q * f + k < a then [from_ + (q * f + k)] else [])

def chl (f : Int) (node : Int) : Int → List Int → List Int
  | s, a :: b :: r => if s + a ≤ node ∧ node < s + a + b then kids f s a (node - (s + a)) f.toNat else chl f node (s + a) (b :: r)
  | _, _ => []

def par (f : Int) (node : Int) : Int → List Int → Int
  | s, a :: b :: r => if s ≤ node ∧ node < s + a then s + a + (node - s) / f else par f node (s + a) (b :: r)
  | _, _ => -1

/-- Each level is the one below it, over f, rounded up; the last one is 1. -/
def chain (f : Int) : List Int → Prop
  | a :: b :: r => 1 < a ∧ b = (a + f - 1) / f ∧ chain f (b :: r)
  | [a] => a = 1
  | [] => True

theorem chain_lv {f : Int} (hf : 2 ≤ f ∧ f ≤ 4) : ∀ (k : Nat) (n : Int), 1 ≤ n → n ≤ 128 → n < k → chain f (n :: lv k n f)
  | 0, n, h1, h2, h3 => by omega
  | k + 1, n, h1, h2, h3 => by
    simp only [lv]
    by_cases hn : n > 1
    · obtain ⟨e, g1, g2⟩ := step_eq hf hn h2
      rw [if_pos hn]
      exact ⟨hn, rfl, chain_lv hf k _ g1 (by omega) (by omega)⟩
    · rw [if_neg hn]
      show n = 1
      omega

/-- The level of a node: its number in the list and the number of the first node there. -/
def lvl (node : Int) : Int → Nat → List Int → Option (Nat × Int)
  | s, i, a :: r => if s ≤ node ∧ node < s + a then some (i, s) else lvl node (s + a) (i + 1) r
  | _, _, [] => none

/-- What is at hand in the middle of a list. -/
theorem at_drop {l r : List Int} {x : Int} {i : Nat} (hd : l.drop i = x :: r) : i < l.length ∧ l.getD (0 + (i : Int).toNat) 0 = x ∧ l.drop (i + 1) = r := by
  have hlen : l.length - i = r.length + 1 := by
    have := congrArg List.length hd
    simpa using this
  have hx : l[i]? = some x := by
    have := congrArg (·[0]?) hd
    simpa using this
  refine ⟨by omega, ?_, ?_⟩
  · rw [List.getD_eq_getElem?_getD]; simp [hx]
  · rw [← List.drop_drop, hd]; rfl

theorem level88 {β : Type} {F : Nat} {node : Int} {K0 : Int → Int → Option β} {K1 : Option β} (l : List Int) (hl : l.length ≤ 128) (hy : ∀ y ∈ l, 1 ≤ y ∧ y ≤ 128) :
    ∀ (r : List Int) (i k : Nat) (s : Int), l.drop i = r → i ≤ l.length → r.length < k → 0 ≤ s → s ≤ 128 * i →
      f123_1_l3 F node ((l.length : Nat) : Int) l K0 K1 k s (i : Int) = match lvl node s i r with | some (j, t) => K0 (j : Int) t | none => K1
  | [], i, k, s, hd, hi, hk, h0, h1 => by
    cases k with
    | zero => omega
    | succ k =>
      have : i = l.length := by
        have := congrArg List.length hd
        simp at this; omega
      subst this
      simp [f123_1_l3, lvl]
  | x :: r, i, k, s, hd, hi, hk, h0, h1 => by
    cases k with
    | zero => omega
    | succ k =>
      obtain ⟨hlt, hx, hdr⟩ := at_drop hd
      have hm := hy x (by
        have : x ∈ l.drop i := by rw [hd]; simp
        exact List.mem_of_mem_drop this)
      simp only [f123_1_l3, within87]
      have e1 : decide ((i : Int) < ((l.length : Nat) : Int)) = true := by simp; omega
      have e2 : decide ((0 : Int) ≤ (i : Int) ∧ (i : Int) < ((l.length : Nat) : Int)) = true := by simp; omega
      have e3 : decide (0 + (i : Int).toNat < l.length) = true := by simp; omega
      rw [e1, e2, e3, hx, cond_true, cond_true, cond_true, w64 (x := s + x) (by omega) (by omega), w64 (x := s + x - 1) (by omega) (by omega), w64 (x := (i : Int) + 1) (by omega) (by omega)]
      simp only [lvl]
      by_cases hn : s ≤ node ∧ node < s + x
      · have e : decide (node ≥ s ∧ node ≤ s + x - 1) = true := by simp; omega
        rw [e, cond_true, if_pos hn]
      · have e : decide (node ≥ s ∧ node ≤ s + x - 1) = false := by simp; omega
        rw [e, cond_false, if_neg hn, show ((i : Int) + 1) = ((i + 1 : Nat) : Int) by omega]
        exact level88 l hl hy r (i + 1) k (s + x) hdr (by omega) (by simpa using hk) (by omega) (by omega)

/-- What is known of a level that was found. -/
theorem lvl_spec {node : Int} : ∀ (r : List Int) (s : Int) (i j : Nat) (t : Int), lvl node s i r = some (j, t) → ∃ p a q, r = p ++ a :: q ∧ j = i + p.length ∧ t = s + sumI p ∧ t ≤ node ∧ node < t + a
  | [], s, i, j, t, h => by simp [lvl] at h
  | x :: r, s, i, j, t, h => by
    simp only [lvl] at h
    split at h
    · rename_i hn
      simp only [Option.some.injEq, Prod.mk.injEq] at h
      obtain ⟨rfl, rfl⟩ := h
      exact ⟨[], x, r, rfl, by simp, by simp [sumI], hn.1, hn.2⟩
    · obtain ⟨p, a, q, h1, h2, h3, h4, h5⟩ := lvl_spec r _ _ _ _ h
      refine ⟨x :: p, a, q, by rw [h1]; rfl, by simp; omega, by simp only [sumI]; omega, h4, h5⟩

theorem lvl_none {node : Int} : ∀ (r : List Int) (s : Int) (i : Nat), (∀ y ∈ r, 1 ≤ y) → (lvl node s i r = none ↔ ¬ (s ≤ node ∧ node < s + sumI r))
  | [], s, i, h => by
    simp only [lvl, sumI, true_iff]
    omega
  | x :: r, s, i, h => by
    have h0 := h x (by simp)
    have h1 : 0 ≤ sumI r := by
      have : ∀ (l : List Int), (∀ y ∈ l, 1 ≤ y) → 0 ≤ sumI l := by
        intro l
        induction l with
        | nil => intro _; simp [sumI]
        | cons a l ih => intro hl; have := hl a (by simp); have := ih fun y hy => hl y (by simp [hy]); simp only [sumI]; omega
      exact this r fun y hy => h y (by simp [hy])
    simp only [lvl, sumI]
    split
    · simp; omega
    · rw [lvl_none r _ _ fun y hy => h y (by simp [hy])]
      omega

theorem kids_len (f from_ a q : Int) : ∀ k, (kids f from_ a q k).length ≤ k
  | 0 => by simp [kids]
  | k + 1 => by
    have := kids_len f from_ a q k
    simp only [kids, List.length_append]
    split <;> simp <;> omega

theorem mul_small {f q : Int} (hf : 2 ≤ f ∧ f ≤ 4) (hq : 0 ≤ q ∧ q < 128) : 0 ≤ q * f ∧ q * f < 512 := by
  have : f = 2 ∨ f = 3 ∨ f = 4 := by omega
  rcases this with rfl | rfl | rfl <;> omega

/-- The inner loop of the code's Children. -/
theorem kids58 {β : Type} {F : Nat} {node t below f n c u : Int} {K : List Int → Option β} (hf : 2 ≤ f ∧ f ≤ 4) (ht : 0 ≤ t ∧ t ≤ 16384) (hb : 1 ≤ below ∧ below ≤ 128) (hn : t ≤ node ∧ node < t + 128) :
    ∀ (m i k : Nat), (i : Int) + m = f → m < k → f83_1_l7 F node t below f n f c u K k (i : Int) (kids f (t - below) below (node - t) i) = K (kids f (t - below) below (node - t) f.toNat)
  | 0, i, k, hi, hk => by
    cases k with
    | zero => omega
    | succ k =>
      have e : decide ((i : Int) < f) = false := by simp; omega
      simp only [f83_1_l7, e, cond_false]
      rw [show f.toNat = i by omega]
  | m + 1, i, k, hi, hk => by
    cases k with
    | zero => omega
    | succ k =>
      have e : decide ((i : Int) < f) = true := by simp; omega
      obtain ⟨q1, q2⟩ := mul_small hf (q := node - t) (by omega)
      have hl := kids_len f (t - below) below (node - t) i
      have e8 : decide (((kids f (t - below) below (node - t) i).length + 1) * 8 ≤ 70368744177664) = true := by simp; omega
      simp only [f83_1_l7]
      rw [e, cond_true, w64 (x := node - t) (by omega) (by omega), w64 (x := (node - t) * f) (by omega) (by omega), w64 (x := (node - t) * f + i) (by omega) (by omega), w64 (x := (i : Int) + 1) (by omega) (by omega), w64 (x := t - below) (by omega) (by omega),
        w64 (x := t - below + ((node - t) * f + i)) (by omega) (by omega), e8, cond_true]
      have hk' : kids f (t - below) below (node - t) (i + 1) = kids f (t - below) below (node - t) i ++ (if (node - t) * f + (i : Int) < below then [t - below + ((node - t) * f + (i : Int))] else []) := rfl
      have := kids58 (F := F) (n := n) (c := c) (u := u) (K := K) hf ht hb hn m (i + 1) k (by omega) (by omega)
      rw [hk'] at this
      rw [show ((i : Int) + 1) = ((i + 1 : Nat) : Int) by omega]
      by_cases h : (node - t) * f + (i : Int) < below
      · simp only [h, decide_true, cond_true]
        rw [if_pos h] at this
        exact this
      · simp only [h, decide_false, cond_false]
        rw [if_neg h, List.append_nil] at this
        exact this

/-- The inner loop of the document's Children. -/
theorem kids59 {β : Type} {F : Nat} {node s above a f n c u : Int} {l : List Int} {j : Nat} {K : List Int → Option β} (hf : 2 ≤ f ∧ f ≤ 4) (ht : 0 ≤ s ∧ s ≤ 16384) (hj : j < l.length) (hlj : l.getD (0 + (j : Int).toNat) 0 = a)
    (hb : 1 ≤ a ∧ a ≤ 128) (hab : above = s + a) (hn : above ≤ node ∧ node < above + 128) :
    ∀ (m i k : Nat), (i : Int) + m = f → m < k → f85_1_l10 F node s (j : Int) above n f c u l K k (i : Int) (kids f s a (node - above) i) = K (kids f s a (node - above) f.toNat)
  | 0, i, k, hi, hk => by
    cases k with
    | zero => omega
    | succ k =>
      have e : decide ((i : Int) < f) = false := by simp; omega
      simp only [f85_1_l10, e, cond_false]
      rw [show f.toNat = i by omega]
  | m + 1, i, k, hi, hk => by
    cases k with
    | zero => omega
    | succ k =>
      have e : decide ((i : Int) < f) = true := by simp; omega
      obtain ⟨q1, q2⟩ := mul_small hf (q := node - above) (by omega)
      have hl := kids_len f s a (node - above) i
      have e8 : decide (((kids f s a (node - above) i).length + 1) * 8 ≤ 70368744177664) = true := by simp; omega
      have e2 : decide ((0 : Int) ≤ (j : Int) ∧ (j : Int) < ((l.length : Nat) : Int)) = true := by simp; omega
      have e3 : decide (0 + (j : Int).toNat < l.length) = true := by simp; omega
      simp only [f85_1_l10]
      rw [e, cond_true, e2, cond_true, e3, cond_true, hlj, w64 (x := node - above) (by omega) (by omega), w64 (x := (node - above) * f) (by omega) (by omega), w64 (x := (node - above) * f + i) (by omega) (by omega), w64 (x := (i : Int) + 1) (by omega) (by omega),
        w64 (x := s + ((node - above) * f + i)) (by omega) (by omega), e8, cond_true]
      have hk' : kids f s a (node - above) (i + 1) = kids f s a (node - above) i ++ (if (node - above) * f + (i : Int) < a then [s + ((node - above) * f + (i : Int))] else []) := rfl
      have := kids59 (F := F) (n := n) (c := c) (u := u) (K := K) hf ht hj hlj hb hab hn m (i + 1) k (by omega) (by omega)
      rw [hk'] at this
      rw [show ((i : Int) + 1) = ((i + 1 : Nat) : Int) by omega]
      by_cases h : (node - above) * f + (i : Int) < a
      · simp only [h, decide_true, cond_true]
        rw [if_pos h] at this
        exact this
      · simp only [h, decide_false, cond_false]
        rw [if_neg h, List.append_nil] at this
        exact this

/-- A node's children, by the list of the levels. -/
def chs (f node : Int) (L : List Int) : List Int := match lvl node 0 0 L with
  | some (j + 1, t) => kids f (t - L.getD j 0) (L.getD j 0) (node - t) f.toNat
  | _ => []

theorem level88' {β : Type} {n f c u node : Int} {K0 : Int → Int → Bool → Option β} : f123_1 20000 n f c u node K0 = match lvl node 0 0 (levels n f c u) with | some (j, t) => K0 (j : Int) t true | none => K0 0 0 false := by
  obtain ⟨h1, h2⟩ := levels_ok n f c u
  simp only [f123_1, levels48]
  have := level88 (F := 20000) (node := node) (K0 := fun x8 x9 => K0 x8 x9 true) (K1 := K0 0 0 false) (levels n f c u) h1 h2 _ 0 20000 0 rfl (by omega) (by simp; omega) (by omega) (by omega)
  simp only [List.drop_zero] at this
  exact this

theorem mem_getD {l : List Int} {j : Nat} (h : j < l.length) : l.getD j 0 ∈ l := by
  rw [List.getD_eq_getElem?_getD, List.getElem?_eq_getElem h]; simp

theorem chs58 {β : Type} {n f c u node : Int} {K : List Int → Option β} : f83_1 20000 n f c u node K = K (chs f node (levels n f c u)) := by
  obtain ⟨h1, h2⟩ := levels_ok n f c u
  simp only [f83_1, level88', levels48, chs]
  cases hl : lvl node 0 0 (levels n f c u) with
  | none => rfl
  | some q =>
    obtain ⟨j, t⟩ := q
    obtain ⟨p, a, r, e1, e2, e3, e4, e5⟩ := lvl_spec _ _ _ _ _ hl
    have hrt : rt n f c u := by
      by_cases h : rt n f c u
      · exact h
      · simp [levels, h] at e1
    cases j with
    | zero => simp
    | succ j =>
      have hlen : (levels n f c u).length = p.length + 1 + r.length := by rw [e1]; simp; omega
      have ha := h2 a (by rw [e1]; simp)
      have hp := sumI_ok p fun y hy => h2 y (by rw [e1]; simp [hy])
      have hj : j < (levels n f c u).length := by omega
      have hm := h2 _ (mem_getD hj)
      have x0 : (((j + 1 : Nat) : Int) == 0) = false := by simp; omega
      have x1 : IntKind.i64.wrap (((j + 1 : Nat) : Int) - 1) = (j : Int) := by rw [w64 (by omega) (by omega)]; omega
      have x2 : decide ((0 : Int) ≤ (j : Int) ∧ (j : Int) < (((levels n f c u).length : Nat) : Int)) = true := by simp; omega
      have x3 : decide (0 + (j : Int).toNat < (levels n f c u).length) = true := by simp; omega
      have x4 : (levels n f c u).getD (0 + (j : Int).toNat) 0 = (levels n f c u).getD j 0 := by simp
      simp only [Bool.not_true, cond_false, x0, x1, x2, x3, x4, cond_true]
      have := kids58 (F := 20000) (n := n) (c := c) (u := u) (K := K) (node := node) (t := t) (below := (levels n f c u).getD j 0) hrt.2.1 (by omega) hm (by omega) f.toNat 0 20000 (by have := hrt.2.1; omega) (by have := hrt.2.1; omega)
      simpa [kids] using this

end Go.Proofs.Ytjlolgpbidfmeaa.X
end

section
namespace Go.Proofs.Ytjlolgpbidfmeaa.X
open Go Go.Proofs.Ytjlolgpbidfmeaa.Ev Go.Proofs
set_option linter.unusedVariables false
/-! pentimentoref07.Root -/
noncomputable def f90_1 {β : Type} (F : Nat) (a1 : Int) (a2 : Int) (a3 : Int) (a4 : Int) (K0 : Int → Option β) : Option β := f89_1 F a1 a2 a3 a4 (fun x1 => K0 (if 0 > IntKind.i64.wrap (x1 - 1) then 0 else IntKind.i64.wrap (x1 - 1))) 
def sh90_1 : Sh := ⟨[.agg [.int .i64, .int .i64, .int .i64, .int .i64]], []⟩
noncomputable def S90_1 (F : Nat) (o : Summ) : Summ := mkS sh90_1 (fun d K => f90_1 F d.1.1.1 d.1.1.2.1 d.1.1.2.2.1 d.1.1.2.2.2.1 (fun (y0 : Int) => K [.lf (.int .i64 y0)] [])) o
noncomputable def code90 : Code := bodyOf Try.f90
theorem scopes90 : scopesOf code90 = [] := by kernel_rfl
theorem loops90 : loopsOf code90 = [] := by kernel_rfl
theorem enter90 : ∀ args w, (callFunc 90 args).run Try.prog w = .ok (.enter 90 args) w := enter_of (fn := Try.f90) (by kernel_rfl) (by kernel_rfl) (by kernel_rfl)
noncomputable def T90_1 (F : Nat) : FuncId → Option Summ := tab [(89, (S89_1 F noS))]
noncomputable def LT90_1 (F : Nat) : Nat → Option LoopS := ltab []
theorem E90_1g (F : Nat) (c89_1 : Int → Int → Int → Int → (Int → Option Res) → Option Res)   (d : sh90_1.den) (K : KF) : evBody Try.prog (tab [(89, (mkS sh89_1 (fun d K => c89_1 d.1.1.1 d.1.1.2.1 d.1.1.2.2.1 d.1.1.2.2.2.1 (fun (y0 : Int) => K [.lf (.int .i64 y0)] [])) noS))]) 7 0 (ltab []) code90 Try.f90.results.toList (encT sh90_1.vs d.1) (encH sh90_1.h d.2) K = (fun (a1 : Int) (a2 : Int) (a3 : Int) (a4 : Int) (K0 : (Int → Option Res)) => c89_1 a1 a2 a3 a4 (fun x1 => K0 (if 0 > IntKind.i64.wrap (x1 - 1) then 0 else IntKind.i64.wrap (x1 - 1))) ) d.1.1.1 d.1.1.2.1 d.1.1.2.2.1 d.1.1.2.2.2.1 (fun (y0 : Int) => K [.lf (.int .i64 y0)] []) := by kernel_rfl
theorem E90_1 (F : Nat) (d : sh90_1.den) (K : KF) : evBody Try.prog (T90_1 F) 7 0 (LT90_1 F) code90 Try.f90.results.toList (encT sh90_1.vs d.1) (encH sh90_1.h d.2) K = f90_1 F d.1.1.1 d.1.1.2.1 d.1.1.2.2.1 d.1.1.2.2.2.1 (fun (y0 : Int) => K [.lf (.int .i64 y0)] []) := Eq.mp (by kernel_rfl) (E90_1g F (f89_1 F)   d K)
theorem S90_1_ok (F : Nat) (o : Summ) (ho : SoundFn Try.prog 90 o) : SoundFn Try.prog 90 (S90_1 F o) :=
  soundFn_of (fn := Try.f90) (c := code90) (by kernel_rfl) (tab_cons (S89_1_ok F _ (noS_sound enter89)) tab_nil) (by kernel_rfl) (by kernel_rfl) ho (by rw [loops90]; exact loopsOK_nil) (by rw [scopes90]; exact scopesOK_nil) (E90_1 F)
end Go.Proofs.Ytjlolgpbidfmeaa.X
end

section
/- Trees' shapes: document and code reckon the same children; any seat. -/
namespace Go.Proofs.Ytjlolgpbidfmeaa.X
open Go Go.Proofs.Ytjlolgpbidfmeaa.Ev
set_option linter.unusedVariables false

theorem kids_mem0 {f s a q x : Int} : ∀ k : Nat, x ∈ kids f s a q k ↔ ∃ i : Nat, i < k ∧ q * f + i < a ∧ x = s + (q * f + i)
  | 0 => by simp [kids]
  | k + 1 => by
    simp only [kids, List.mem_append, kids_mem0 k]
    constructor
    · rintro (⟨i, h1, h2, h3⟩ | h)
      · exact ⟨i, by omega, h2, h3⟩
      · split at h
        · simp at h
          exact ⟨k, by omega, by assumption, h⟩
        · simp at h
    · rintro ⟨i, h1, h2, h3⟩
      by_cases hi : i = k
      · subst hi
        exact Or.inr (by rw [if_pos h2]; simp [h3])
      · exact Or.inl ⟨i, by omega, h2, h3⟩

theorem kids_mem {f s a q x : Int} (hf : 2 ≤ f ∧ f ≤ 4) (hq : 0 ≤ q) : x ∈ kids f s a q f.toNat ↔ s ≤ x ∧ x < s + a ∧ (x - s) / f = q := by
  rw [kids_mem0]
  have : f = 2 ∨ f = 3 ∨ f = 4 := by omega
  constructor
  · rintro ⟨i, h1, h2, h3⟩
    rcases this with rfl | rfl | rfl <;> simp at h1 <;> omega
  · rintro ⟨h1, h2, h3⟩
    refine ⟨((x - s) - q * f).toNat, ?_⟩
    rcases this with rfl | rfl | rfl <;> (simp only [Int.reduceToNat]; omega)

theorem kids_nodup {f s a q : Int} : ∀ k : Nat, (kids f s a q k).Pairwise (· < ·)
  | 0 => by simp [kids]
  | k + 1 => by
    simp only [kids]
    rw [List.pairwise_append]
    refine ⟨kids_nodup k, by split <;> simp, fun x hx y hy => ?_⟩
    obtain ⟨i, h1, h2, h3⟩ := (kids_mem0 k).1 hx
    split at hy
    · simp at hy; omega
    · simp at hy

def pos (L : List Int) : Prop := ∀ y ∈ L, 1 ≤ y ∧ y ≤ 128

theorem pos_tl {a : Int} {r : List Int} (h : pos (a :: r)) : (1 ≤ a ∧ a ≤ 128) ∧ pos r := ⟨h a (by simp), fun y hy => h y (by simp [hy])⟩

theorem sum_nn {L : List Int} (h : pos L) : 0 ≤ sumI L := by have := (sumI_ok L h).1; omega

theorem par_lt {f x : Int} : ∀ (L : List Int) (s : Int), pos L → x < s → par f x s L = -1
  | [], s, h, hx => rfl
  | [a], s, h, hx => rfl
  | a :: b :: r, s, h, hx => by
    have ha := (pos_tl h).1
    simp only [par]
    rw [if_neg (by omega)]
    exact par_lt (b :: r) _ (pos_tl h).2 (by omega)

theorem div_up {f a b y : Int} (hf : 2 ≤ f ∧ f ≤ 4) (hb : b = (a + f - 1) / f) (hy : 0 ≤ y ∧ y < a) : 0 ≤ y / f ∧ y / f < b := by
  have : f = 2 ∨ f = 3 ∨ f = 4 := by omega
  rcases this with rfl | rfl | rfl <;> omega

theorem par_bd {f x : Int} (hf : 2 ≤ f ∧ f ≤ 4) : ∀ (r : List Int) (a s : Int), pos (a :: r) → chain f (a :: r) → par f x s (a :: r) = -1 ∨ (s ≤ x ∧ x < par f x s (a :: r) ∧ s + a ≤ par f x s (a :: r) ∧ par f x s (a :: r) < s + sumI (a :: r))
  | [], a, s, h, hc => Or.inl rfl
  | b :: r, a, s, h, hc => by
    have ha := (pos_tl h).1
    have hb := (pos_tl (pos_tl h).2).1
    have hs := sum_nn (pos_tl (pos_tl h).2).2
    obtain ⟨h1, h2, h3⟩ := hc
    simp only [par]
    split
    · rename_i hx
      have := div_up (y := x - s) hf h2 (by omega)
      simp only [sumI]
      exact Or.inr (by omega)
    · rcases par_bd (x := x) hf r b (s + a) (pos_tl h).2 h3 with h4 | h4
      · exact Or.inl h4
      · refine Or.inr ?_
        simp only [sumI] at h4 ⊢
        omega

theorem mem_chl {f x k : Int} (hf : 2 ≤ f ∧ f ≤ 4) : ∀ (r : List Int) (a s : Int), pos (a :: r) → chain f (a :: r) → 0 ≤ s → 0 ≤ k → (x ∈ chl f k s (a :: r) ↔ par f x s (a :: r) = k)
  | [], a, s, h, hc, hs, hk => by simp [chl, par]; omega
  | b :: r, a, s, h, hc, hs, hk => by
    have ha := (pos_tl h).1
    have hb := (pos_tl (pos_tl h).2).1
    obtain ⟨h1, h2, h3⟩ := hc
    have hbd := par_bd (x := x) hf r b (s + a) (pos_tl h).2 h3
    have ih := mem_chl (x := x) (k := k) hf r b (s + a) (pos_tl h).2 h3 (by omega) hk
    simp only [par, chl]
    by_cases hq : s + a ≤ k ∧ k < s + a + b
    · rw [if_pos hq, kids_mem hf (by omega)]
      by_cases hx : s ≤ x ∧ x < s + a
      · rw [if_pos hx]; omega
      · rw [if_neg hx]; omega
    · rw [if_neg hq, ih]
      by_cases hx : s ≤ x ∧ x < s + a
      · rw [if_pos hx]
        have := div_up (y := x - s) hf h2 (by omega)
        have h0 := par_lt (f := f) (x := x) (b :: r) (s + a) (pos_tl h).2 (by omega)
        rw [h0]; omega
      · rw [if_neg hx]

theorem lvl_lt {x : Int} : ∀ (L : List Int) (s : Int) (i : Nat), pos L → x < s → lvl x s i L = none
  | [], _, _, _, _ => rfl
  | a :: r, s, i, h, hx => by
    have ha := (pos_tl h).1
    simp only [lvl]
    rw [if_neg (by omega)]
    exact lvl_lt r _ _ (pos_tl h).2 (by omega)

theorem chl_lvl {f x : Int} (L : List Int) : ∀ (r : List Int) (a s : Int) (i : Nat), L.drop i = a :: r →
    chl f x s (a :: r) = match lvl x (s + a) (i + 1) r with | some (j, t) => kids f (t - L.getD (j - 1) 0) (L.getD (j - 1) 0) (x - t) f.toNat | none => []
  | [], a, s, i, h => rfl
  | b :: r, a, s, i, h => by
    obtain ⟨h1, h2, h3⟩ := at_drop h
    have h4 : L.getD i 0 = a := by simpa using h2
    simp only [chl, lvl]
    by_cases hq : s + a ≤ x ∧ x < s + a + b
    · rw [if_pos hq, if_pos hq]
      simp only [Nat.add_sub_cancel, h4]
      rw [show s + a - a = s by omega]
    · rw [if_neg hq, if_neg hq]
      exact chl_lvl L r b (s + a) (i + 1) h3

theorem chs_chl {f x : Int} : ∀ L : List Int, pos L → chs f x L = chl f x 0 L
  | [], h => rfl
  | a :: r, h => by
    rw [chl_lvl (a :: r) r a 0 0 rfl]
    unfold chs
    simp only [lvl]
    by_cases hq : (0 : Int) ≤ x ∧ x < 0 + a
    · rw [if_pos hq, lvl_lt r _ _ (pos_tl h).2 (by omega)]
    · rw [if_neg hq]
      cases e : lvl x (0 + a) (0 + 1) r with
      | none => rfl
      | some v =>
        obtain ⟨j, t⟩ := v
        obtain ⟨p, a', q, e1, e2, e3, e4, e5⟩ := lvl_spec _ _ _ _ _ e
        cases j with
        | zero => omega
        | succ j => simp

theorem chs59l {β : Type} {x n f c u : Int} {K : List Int → Option β} (hf : 2 ≤ f ∧ f ≤ 4) {L : List Int} (hL : pos L) (hl : L.length ≤ 128) : ∀ (r : List Int) (i k : Nat) (s : Int), L.drop i = r → i ≤ L.length → r.length < k → 0 ≤ s → s ≤ 128 * i →
    f85_1_l4 20000 x n f c u L K (K []) k s (i : Int) = K (chl f x s r)
  | [], i, k, s, hd, hi, hk, h0, h1 => by
    cases k with
    | zero => omega
    | succ k =>
      have : i = L.length := by
        have := congrArg List.length hd
        simp at this; omega
      subst this
      simp only [f85_1_l4]
      rw [w64 (by omega) (by omega), cf (by omega)]
      rfl
  | [a], i, k, s, hd, hi, hk, h0, h1 => by
    cases k with
    | zero => omega
    | succ k =>
      have : i + 1 = L.length := by
        have := congrArg List.length hd
        simp at this; omega
      simp only [f85_1_l4]
      rw [w64 (by omega) (by omega), cf (by omega)]
      rfl
  | a :: b :: r, i, k, s, hd, hi, hk, h0, h1 => by
    cases k with
    | zero => omega
    | succ k =>
      obtain ⟨d1, d2, d3⟩ := at_drop hd
      obtain ⟨d4, d5, d6⟩ := at_drop d3
      have ha : 1 ≤ a ∧ a ≤ 128 := hL a (by
        have : a ∈ L.drop i := by rw [hd]; simp
        exact List.mem_of_mem_drop this)
      have hb : 1 ≤ b ∧ b ≤ 128 := hL b (by
        have : b ∈ L.drop (i + 1) := by rw [d3]; simp
        exact List.mem_of_mem_drop this)
      have e1 : IntKind.i64.wrap ((i : Int) + 1) = ((i + 1 : Nat) : Int) := by rw [w64 (by omega) (by omega)]; omega
      have ih := chs59l (x := x) (n := n) (c := c) (u := u) (K := K) hf hL hl (b :: r) (i + 1) k (s + a) d3 (by omega) (by simpa using hk) (by omega) (by omega)
      simp only [f85_1_l4]
      rw [e1, ct (by omega), ct (by omega), ct (by omega), d2, w64 (x := s + a) (by omega) (by omega)]
      simp only [chl]
      by_cases hq : x ≥ s + a
      · rw [ct hq, ct (by omega), ct (by omega), d5, w64 (x := s + a + b) (by omega) (by omega)]
        by_cases hq2 : x < s + a + b
        · rw [ct hq2, if_pos (by omega)]
          have := kids59 (F := 20000) (n := n) (c := c) (u := u) (K := K) (node := x) (s := s) (above := s + a) (a := a) (l := L) (j := i) hf (by omega) d1 d2 ha rfl (by omega) f.toNat 0 20000 (by omega) (by omega)
          simpa [kids] using this
        · rw [cf hq2, if_neg (by omega)]
          exact ih
      · rw [cf hq, if_neg (by omega)]
        exact ih

theorem lev_pos (n f c u : Int) : pos (levels n f c u) := (levels_ok n f c u).2

theorem levels_not {n f c u : Int} (h : ¬ rt n f c u) : levels n f c u = [] := by simp [levels, h]
theorem levels_cons {n f c u : Int} (h : rt n f c u) : ∃ r, levels n f c u = n :: r := ⟨_, by simp [levels, h]; rfl⟩

theorem lev_chain {n f c u : Int} : rt n f c u → chain f (levels n f c u) := fun h => by
  simp only [levels, h, if_true]
  have h1 := h.1
  exact chain_lv h.2.1 20000 n h1.1 h1.2 (by omega)

theorem nil59 {β : Type} {x n f c u : Int} {K : List Int → Option β} : ∀ k : Nat, 0 < k → f85_1_l4 20000 x n f c u [] K (K []) k 0 0 = K []
  | 0, h => by omega
  | k + 1, _ => by
    simp only [f85_1_l4]
    rw [w64 (by omega) (by omega), cf (by simp)]

theorem chs59 {β : Type} {n f c u x : Int} {K : List Int → Option β} : f85_1 20000 n f c u x K = K (chs f x (levels n f c u)) := by
  rw [chs_chl _ (lev_pos n f c u)]
  simp only [f85_1, levels49]
  by_cases h : rt n f c u
  · have := chs59l (x := x) (n := n) (c := c) (u := u) (K := K) h.2.1 (lev_pos n f c u) (levels_ok n f c u).1 _ 0 20000 0 rfl (by omega) (by have := (levels_ok n f c u).1; simp; omega) (by omega) (by omega)
    simpa using this
  · rw [levels_not h]
    exact nil59 20000 (by omega)

/-- The parent, by the levels. -/
def prn (n f c u x : Int) : Int := par f x 0 (levels n f c u)

theorem par_lvl {f x : Int} (hf : 2 ≤ f ∧ f ≤ 4) : ∀ (r : List Int) (a s : Int) (i : Nat), pos (a :: r) → chain f (a :: r) →
    par f x s (a :: r) = match lvl x s i (a :: r) with | some (j, t) => if x = s + sumI (a :: r) - 1 then -1 else t + (a :: r).getD (j - i) 0 + (x - t) / f | none => -1
  | [], a, s, i, h, hc => by
    have hc : a = 1 := hc
    subst hc
    have e1 : sumI [1] = 1 := rfl
    simp only [par, lvl]
    by_cases hx : s ≤ x ∧ x < s + 1
    · rw [if_pos hx]
      simp only
      rw [if_pos (by omega)]
    · rw [if_neg hx]
  | b :: r, a, s, i, h, hc => by
    have ha := (pos_tl h).1
    have hb := (pos_tl (pos_tl h).2).1
    have hs := sum_nn (pos_tl (pos_tl h).2).2
    obtain ⟨h1, h2, h3⟩ := hc
    rw [par, lvl]
    by_cases hx : s ≤ x ∧ x < s + a
    · have e1 : sumI (a :: b :: r) = a + (b + sumI r) := rfl
      rw [if_pos hx, if_pos hx]
      simp only
      rw [if_neg (by omega)]
      simp
    · rw [if_neg hx, if_neg hx, par_lvl hf r b (s + a) (i + 1) (pos_tl h).2 h3]
      cases e : lvl x (s + a) (i + 1) (b :: r) with
      | none => rfl
      | some v =>
        obtain ⟨j, t⟩ := v
        obtain ⟨p, a', q, e1, e2, e3, e4, e5⟩ := lvl_spec _ _ _ _ _ e
        simp only
        have g1 : s + sumI (a :: b :: r) - 1 = s + a + sumI (b :: r) - 1 := by simp only [sumI]; omega
        have g2 : (a :: b :: r).getD (j - i) 0 = (b :: r).getD (j - (i + 1)) 0 := by
          rw [show j - i = (j - (i + 1)) + 1 by omega]
          simp
        rw [g1, g2]

theorem chs_len (f x : Int) (L : List Int) : (chs f x L).length ≤ f.toNat := by
  unfold chs
  split
  · exact kids_len _ _ _ _ _
  · simp

theorem chs_mem {n f c u x k : Int} (h : rt n f c u) (hk : 0 ≤ k) : x ∈ chs f k (levels n f c u) ↔ prn n f c u x = k := by
  obtain ⟨r, hr⟩ := levels_cons h
  have hc := lev_chain h
  have hp := lev_pos n f c u
  rw [chs_chl _ hp, prn]
  rw [hr] at hc hp ⊢
  exact mem_chl h.2.1 r n 0 hp hc (by omega) hk

theorem prn_bd {n f c u x : Int} (h : rt n f c u) : prn n f c u x = -1 ∨ (0 ≤ x ∧ x < prn n f c u x ∧ n ≤ prn n f c u x ∧ prn n f c u x < nodes n f c u) := by
  obtain ⟨r, hr⟩ := levels_cons h
  have hc := lev_chain h
  have hp := lev_pos n f c u
  unfold nodes prn
  rw [hr] at hc hp ⊢
  have := par_bd (x := x) h.2.1 r n 0 hp hc
  omega

def root (n f c u : Int) : Int := if rt n f c u then nodes n f c u - 1 else 0

theorem root54 {β : Type} {n f c u : Int} {K : Int → Option β} : f81_1 20000 n f c u K = K (root n f c u) := by
  obtain ⟨n0, n1, n2, n3⟩ := nodes_ok n f c u
  simp only [f81_1, nodes50, root]
  rw [w64 (by omega) (by omega)]
  by_cases h : rt n f c u
  · have := n2 h
    rw [if_pos h]; congr 1; split <;> omega
  · rw [if_neg h, n3 h]; rfl

theorem root55 {β : Type} {n f c u : Int} {K : Int → Option β} : f90_1 20000 n f c u K = K (root n f c u) := by
  obtain ⟨n0, n1, n2, n3⟩ := nodes_ok n f c u
  simp only [f90_1, nodes51, root]
  rw [w64 (by omega) (by omega)]
  by_cases h : rt n f c u
  · have := n2 h
    rw [if_pos h]; congr 1; split <;> omega
  · rw [if_neg h, n3 h]; rfl

end Go.Proofs.Ytjlolgpbidfmeaa.X
end

section
/- Trees' shapes: which nodes have children; any seat. -/
namespace Go.Proofs.Ytjlolgpbidfmeaa.X
open Go Go.Proofs.Ytjlolgpbidfmeaa.Ev
set_option linter.unusedVariables false
theorem chl_ne {f k : Int} (hf : 2 ≤ f ∧ f ≤ 4) : ∀ (r : List Int) (a s : Int), pos (a :: r) → chain f (a :: r) → s + a ≤ k → k < s + sumI (a :: r) → chl f k s (a :: r) ≠ []
  | [], a, s, h, hc, h0, h1 => by
    have e1 : sumI [a] = a + 0 := rfl
    omega
  | b :: r, a, s, h, hc, h0, h1 => by
    obtain ⟨g1, g2, g3⟩ := hc
    have e1 : sumI (a :: b :: r) = a + sumI (b :: r) := rfl
    simp only [chl]
    by_cases hq : s + a ≤ k ∧ k < s + a + b
    · rw [if_pos hq]
      intro hn
      have hm := (kids_mem (f := f) (s := s) (a := a) (q := k - (s + a)) (x := s + (k - (s + a)) * f) hf (by omega)).2
      rw [hn] at hm
      have : f = 2 ∨ f = 3 ∨ f = 4 := by omega
      rcases this with rfl | rfl | rfl <;> exact List.not_mem_nil (hm (by omega))
    · rw [if_neg hq]
      exact chl_ne hf r b (s + a) (pos_tl h).2 g3 (by omega) (by omega)

theorem par_root {f x : Int} (hf : 2 ≤ f ∧ f ≤ 4) : ∀ (r : List Int) (a s : Int), pos (a :: r) → chain f (a :: r) → 0 ≤ s → s ≤ x → x < s + sumI (a :: r) → (par f x s (a :: r) = -1 ↔ x = s + sumI (a :: r) - 1)
  | [], a, s, h, hc, hs, h0, h1 => by
    have hc : a = 1 := hc
    subst hc
    have e1 : sumI [1] = 1 := rfl
    simp only [par, true_iff]
    omega
  | b :: r, a, s, h, hc, hs, h0, h1 => by
    have ha := (pos_tl h).1
    have hb := (pos_tl (pos_tl h).2).1
    have hn := sum_nn (pos_tl (pos_tl h).2).2
    have e1 : sumI (a :: b :: r) = a + sumI (b :: r) := rfl
    have e2 : sumI (b :: r) = b + sumI r := rfl
    obtain ⟨g1, g2, g3⟩ := hc
    simp only [par]
    by_cases hx : s ≤ x ∧ x < s + a
    · have hd := div_up (y := x - s) hf g2 (by omega)
      rw [if_pos hx]
      omega
    · rw [if_neg hx, par_root hf r b (s + a) (pos_tl h).2 g3 (by omega) (by omega) (by omega)]
      omega

theorem chs_empty {n f c u k : Int} (h : rt n f c u) (h0 : 0 ≤ k) (h1 : k < nodes n f c u) : (((chs f k (levels n f c u)).length : Int) == 0) = decide (k < n) := by
  by_cases hk : k < n
  · have : chs f k (levels n f c u) = [] := by
      apply List.eq_nil_iff_forall_not_mem.2
      intro x hx
      have := (chs_mem h h0).1 hx
      have := prn_bd (x := x) h
      omega
    simp [this, hk]
  · have : chs f k (levels n f c u) ≠ [] := by
      obtain ⟨r, hr⟩ := levels_cons h
      have hc := lev_chain h
      have hp := lev_pos n f c u
      unfold nodes at h1
      rw [chs_chl _ hp]
      rw [hr] at hc hp h1 ⊢
      exact chl_ne h.2.1 r n 0 hp hc (by omega) (by omega)
    have : (chs f k (levels n f c u)).length ≠ 0 := fun h => this (List.length_eq_zero_iff.1 h)
    simp only [hk, decide_false]
    simpa using this

theorem prn_root {n f c u x : Int} (h : rt n f c u) (h0 : 0 ≤ x) (h1 : x < nodes n f c u) : prn n f c u x = -1 ↔ x = nodes n f c u - 1 := by
  obtain ⟨r, hr⟩ := levels_cons h
  have hc := lev_chain h
  have hp := lev_pos n f c u
  unfold nodes at h1 ⊢
  unfold prn
  rw [hr] at hc hp h1 ⊢
  have := par_root (x := x) h.2.1 r n 0 hp hc (by omega) h0 (by omega)
  omega

theorem chs_sorted {n f c u k : Int} : (chs f k (levels n f c u)).Pairwise (· < ·) := by
  unfold chs
  split
  · exact kids_nodup _
  · exact List.Pairwise.nil

theorem n_le {n f c u : Int} (h : rt n f c u) : n ≤ nodes n f c u := by
  obtain ⟨r, hr⟩ := levels_cons h
  have hp := lev_pos n f c u
  unfold nodes
  rw [hr] at hp ⊢
  have := sum_nn (pos_tl hp).2
  simp only [sumI]; omega

theorem sum_up {f : Int} (hf : 2 ≤ f ∧ f ≤ 4) : ∀ (r : List Int) (a : Int), pos (a :: r) → chain f (a :: r) → sumI (a :: r) ≤ 3 * a - 2
  | [], a, h, hc => by
    have hc : a = 1 := hc
    subst hc
    decide
  | b :: r, a, h, hc => by
    obtain ⟨g1, g2, g3⟩ := hc
    have e1 : sumI (a :: b :: r) = a + sumI (b :: r) := rfl
    have ih := sum_up hf r b (pos_tl h).2 g3
    have : f = 2 ∨ f = 3 ∨ f = 4 := by omega
    rcases this with rfl | rfl | rfl <;> omega

theorem nodes_up {n f c u : Int} (h : rt n f c u) : nodes n f c u ≤ 384 := by
  obtain ⟨r, hr⟩ := levels_cons h
  have hc := lev_chain h
  have hp := lev_pos n f c u
  have h1 := h.1
  unfold nodes
  rw [hr] at hc hp ⊢
  have := sum_up h.2.1 r n hp hc
  omega

end Go.Proofs.Ytjlolgpbidfmeaa.X
end

section
/- Digests of sectors and of nodes: the code's and the document's are one. -/
namespace Go.Proofs.Ytjlolgpbidfmeaa.X
open Go Go.Proofs.Ytjlolgpbidfmeaa.Ev
set_option linter.unusedVariables false

theorem toInts_app (a b : ByteArray) : toInts (a ++ b) = toInts a ++ toInts b := by simp [toInts]
theorem toInts_len (a : ByteArray) : (toInts a).length = a.size := by simp [toInts]
theorem ofInts_size (l : List Int) : (ofInts l).size = l.length := by simp [ofInts, ByteArray.size]
theorem toInts_one (c : UInt8) : toInts ⟨#[c]⟩ = [(c.toNat : Int)] := rfl
theorem outs_len (s : List Int) : ∀ (m i : Nat) (acc : List Int), (outs s m i acc).length = acc.length + 4 * m
  | 0, i, acc => rfl
  | m + 1, i, acc => by simp only [outs]; rw [outs_len s m]; simp; omega
theorem dig_size (b : List Int) : (dig b).size = 32 := by simp [dig, ofInts_size, outs_len]

def leafD (s : ByteArray) : ByteArray := dig (0 :: toInts s)
def flat : List ByteArray → List Int
  | [] => []
  | x :: r => toInts x ++ flat r
def nodeD (l : List ByteArray) : ByteArray := dig (1 :: flat l)

theorem atB {l r : List ByteArray} {x : ByteArray} {i : Nat} (hd : l.drop i = x :: r) : i < l.length ∧ l.getD (0 + (i : Int).toNat) ByteArray.empty = x ∧ l.drop (i + 1) = r := by
  have hlen : l.length - i = r.length + 1 := by
    have := congrArg List.length hd
    simpa using this
  have hx : l[i]? = some x := by
    have := congrArg (·[0]?) hd
    simpa using this
  refine ⟨by omega, ?_, ?_⟩
  · rw [List.getD_eq_getElem?_getD]; simp [hx]
  · rw [← List.drop_drop, hd]; rfl

theorem nilB {l : List ByteArray} {i : Nat} (hd : l.drop i = []) (hi : i ≤ l.length) : i = l.length := by
  have := congrArg List.length hd
  simp at this; omega

theorem tagL {β : Type} {F : Nat} {l : List ByteArray} {K : List Int → Int → List Int → Option β} (hF : 2000 ≤ F) (hl : l.length ≤ 100000) : ∀ (r : List ByteArray) (i k : Nat) (all s w : List Int) (n : Int), l.drop i = r → i ≤ l.length → r.length < k → HS all s n w → (all ++ flat r).length ≤ 100000 →
    ∃ s' n' w', HS (all ++ flat r) s' n' w' ∧ f68_1_l4 F ((l.length : Nat) : Int) l K k (i : Int) s n w = K s' n' w'
  | [], i, k, all, s, w, n, hd, hi, hk, h, hb => by
    obtain ⟨k, rfl⟩ : ∃ j, k = j + 1 := ⟨k - 1, by omega⟩
    have := nilB hd hi
    refine ⟨s, n, w, by simpa [flat] using h, ?_⟩
    simp only [f68_1_l4]
    rw [cf (by omega)]
  | x :: r, i, k, all, s, w, n, hd, hi, hk, h, hb => by
    obtain ⟨k, rfl⟩ : ∃ j, k = j + 1 := ⟨k - 1, by omega⟩
    obtain ⟨d1, d2, d3⟩ := atB hd
    have hb2 : (all ++ toInts x).length ≤ 100000 := by simp [flat] at hb ⊢; omega
    simp only [f68_1_l4]
    rw [ct (by omega), ct (by omega), ct (by omega), d2, w64 (by omega) (by omega), show ((i : Int) + 1) = ((i + 1 : Nat) : Int) by omega]
    obtain ⟨s1, w1, h1, h2⟩ := writeP (F := F) (b := toInts x) (K := fun x12 x13 x14 => f68_1_l4 F ((l.length : Nat) : Int) l K k ((i + 1 : Nat) : Int) x12 x13 x14) hF h hb2
    obtain ⟨s2, n2, w2, h3, h4⟩ := tagL (K := K) hF hl r (i + 1) k (all ++ toInts x) s1 w1 _ d3 (by omega) (by simpa using hk) h1 (by simpa [flat] using hb)
    refine ⟨s2, n2, w2, by simpa [flat] using h3, ?_⟩
    rw [h2, h4]

theorem flat_len : ∀ l : List ByteArray, l.length ≤ 100000 → (∀ x ∈ l, x.size ≤ 100) → (flat l).length ≤ 100 * l.length
  | [], _, _ => by simp [flat]
  | x :: r, h, hx => by
    have := flat_len r (by simp at h; omega) fun y hy => hx y (by simp [hy])
    have h2 := hx x (by simp)
    simp only [flat, List.length_append, toInts_len, List.length_cons]
    omega

theorem tagged {β : Type} {F : Nat} {a : Int} {l : List ByteArray} {K : ByteArray → Option β} (hF : 2000 ≤ F) (hl : l.length ≤ 900) (hs : ∀ x ∈ l, x.size ≤ 100) : f68_1 F a l K = K (dig (a :: flat l)) := by
  have hb := flat_len l (by omega) hs
  simp only [f68_1, f112_1, f131_1]
  obtain ⟨s', w', h1, h2⟩ := writeP (F := F) (b := [a]) (K := fun x3 x4 x5 => f68_1_l4 F ((l.length : Nat) : Int) l (fun x15 x16 x17 => f114_1 F x15 x16 x17 fun x18 => K x18) F 0 x3 x4 x5) hF HS_nil (by simp)
  obtain ⟨s2, n2, w2, h3, h4⟩ := tagL (F := F) (l := l) (K := fun x15 x16 x17 => f114_1 F x15 x16 x17 fun x18 => K x18) hF (by omega) l 0 F ([] ++ [a]) s' w' _ rfl (by omega) (by omega) h1 (by simp; omega)
  refine h2.trans ?_
  refine h4.trans ?_
  rw [sumP hF h3 (by simp; omega)]
  rfl

theorem leafP {β : Type} {F : Nat} {x : ByteArray} {K : ByteArray → Option β} (hF : 2000 ≤ F) (hx : x.size ≤ 100) : f16_1 F x K = K (leafD x) := by
  simp only [f16_1]
  rw [tagged hF (by simp) (by simpa using hx)]
  simp [leafD, flat]

theorem leafR {β : Type} {F : Nat} {x : ByteArray} {K : ByteArray → Option β} (hF : 2000 ≤ F) (hx : x.size ≤ 100) : f17_1 F x K = K (leafD x) := by
  have h1 : (⟨#[0]⟩ : ByteArray).size = 1 := rfl
  simp only [f17_1]
  rw [ct (by omega), toInts_app, sumR (by simp [toInts_len, h1]; omega) hF]
  rfl

theorem nodeP {β : Type} {F : Nat} {l : List ByteArray} {K : ByteArray → Option β} (hF : 2000 ≤ F) (hl : l.length ≤ 900) (hs : ∀ x ∈ l, x.size ≤ 100) : f18_1 F l K = K (nodeD l) := by
  simp only [f18_1]
  rw [tagged hF hl hs]
  rfl

def cat : ByteArray → List ByteArray → ByteArray
  | s, [] => s
  | s, x :: r => cat (s ++ x) r

theorem cat_ints : ∀ (r : List ByteArray) (s : ByteArray), toInts (cat s r) = toInts s ++ flat r
  | [], s => by simp [cat, flat]
  | x :: r, s => by simp [cat, flat, cat_ints r, toInts_app]

theorem nodeL {β : Type} {F : Nat} {l : List ByteArray} {K : ByteArray → Option β} (hl : l.length ≤ 900) (hs : ∀ x ∈ l, x.size ≤ 100) : ∀ (r : List ByteArray) (i k : Nat) (s : ByteArray), l.drop i = r → i ≤ l.length → r.length < k → s.size ≤ 100 * i + 1 →
    f19_1_l3 F l K k s (i : Int) = K (cat s r)
  | [], i, k, s, hd, hi, hk, hb => by
    obtain ⟨k, rfl⟩ : ∃ j, k = j + 1 := ⟨k - 1, by omega⟩
    have := nilB hd hi
    simp only [f19_1_l3]
    rw [cf (by omega)]; rfl
  | x :: r, i, k, s, hd, hi, hk, hb => by
    obtain ⟨k, rfl⟩ : ∃ j, k = j + 1 := ⟨k - 1, by omega⟩
    obtain ⟨d1, d2, d3⟩ := atB hd
    have hx := hs x (by
      have : x ∈ l.drop i := by rw [hd]; simp
      exact List.mem_of_mem_drop this)
    simp only [f19_1_l3]
    rw [ct (by omega), ct (by omega), ct (by omega), d2, ct (by omega), w64 (by omega) (by omega), show ((i : Int) + 1) = ((i + 1 : Nat) : Int) by omega]
    exact nodeL hl hs r (i + 1) k _ d3 (by omega) (by simpa using hk) (by rw [ByteArray.size_append]; omega)

theorem nodeR {β : Type} {F : Nat} {l : List ByteArray} {K : ByteArray → Option β} (hF : 2000 ≤ F) (hl : l.length ≤ 900) (hs : ∀ x ∈ l, x.size ≤ 100) : f19_1 F l K = K (nodeD l) := by
  have hb := flat_len l (by omega) hs
  have h1 : (⟨#[1]⟩ : ByteArray).size = 1 := rfl
  have := nodeL (F := F) (K := fun x4 => f69_1 F (toInts x4) fun x5 => K x5) hl hs l 0 F ⟨#[1]⟩ rfl (by omega) (by omega) (by omega)
  simp only [f19_1]
  refine Eq.trans this ?_
  rw [cat_ints, sumR (by simp [toInts_len, h1]; omega) hF]
  rfl

end Go.Proofs.Ytjlolgpbidfmeaa.X
end

section
namespace Go.Proofs.Ytjlolgpbidfmeaa.X
open Go Go.Proofs.Ytjlolgpbidfmeaa.Ev Go.Proofs
set_option linter.unusedVariables false
/-! tree.From -/
noncomputable def f34_1 {β : Type} (F : Nat) (a1 : Int) (a2 : Int) (a3 : Int) (a4 : Int) (a5 : List ByteArray) (K0 : Int → Option β) (K1 : List ByteArray → Option β) : Option β := f77_1 F a1 a2 a3 a4 (fun x1 => cond (!x1) (K0 12) (f86_1 F a1 a2 a3 a4 (fun x2 => cond (((a5.length : Nat) : Int) != x2) (K0 8) (f78_1421 F a5 (fun x3 => cond x3 (K0 4) (f88_1 F a5 (fun x4 => K1 x4) )) )) )) 
def sh34_1 : Sh := ⟨[.agg [.int .i64, .int .i64, .int .i64, .int .i64], .lf (.full 0)], [some ⟨none, [.seq .str 0]⟩]⟩
noncomputable def S34_1 (F : Nat) (o : Summ) : Summ := mkS sh34_1 (fun d K => f34_1 F d.1.1.1 d.1.1.2.1 d.1.1.2.2.1 d.1.1.2.2.2.1 d.2.1.2.1 (fun (y0 : Int) => K [.lf (.nilp), .lf (.int .i64 y0)] [some ⟨d.2.1.1, [.seq .str 0 d.2.1.2.1]⟩]) (fun (y6 : List ByteArray) => K [.lf (.ptr 1 0), .lf (.int .i64 0)] [some ⟨d.2.1.1, [.seq .str 0 d.2.1.2.1]⟩, some ⟨false, [.int .i64 d.1.1.1, .int .i64 d.1.1.2.1, .int .i64 d.1.1.2.2.1, .int .i64 d.1.1.2.2.2.1, .full 2]⟩, some ⟨false, [.seq .str 0 y6]⟩])) o
noncomputable def code34 : Code := bodyOf Try.f34
theorem scopes34 : scopesOf code34 = [] := by kernel_rfl
theorem loops34 : loopsOf code34 = [] := by kernel_rfl
theorem enter34 : ∀ args w, (callFunc 34 args).run Try.prog w = .ok (.enter 34 args) w := enter_of (fn := Try.f34) (by kernel_rfl) (by kernel_rfl) (by kernel_rfl)
noncomputable def T34_1 (F : Nat) : FuncId → Option Summ := tab [(77, (S77_1 F noS)), (78, (S78_1421 F noS)), (86, (S86_1 F noS)), (88, (S88_1 F noS))]
noncomputable def LT34_1 (F : Nat) : Nat → Option LoopS := ltab []
theorem E34_1g (F : Nat) (c77_1 : Int → Int → Int → Int → (Bool → Option Res) → Option Res) (c78_1421 : List ByteArray → (Bool → Option Res) → Option Res) (c86_1 : Int → Int → Int → Int → (Int → Option Res) → Option Res) (c88_1 : List ByteArray → (List ByteArray → Option Res) → Option Res)   (d : sh34_1.den) (K : KF) : evBody Try.prog (tab [(77, (mkS sh77_1 (fun d K => c77_1 d.1.1.1 d.1.1.2.1 d.1.1.2.2.1 d.1.1.2.2.2.1 (fun (y0 : Bool) => K [.lf (.bool y0)] [])) noS)), (78, (mkS sh78_1421 (fun d K => c78_1421 d.2.1.2.1 (fun (y0 : Bool) => K [.lf (.bool y0)] [some ⟨d.2.1.1, [.seq .str 0 d.2.1.2.1]⟩])) noS)), (86, (mkS sh86_1 (fun d K => c86_1 d.1.1.1 d.1.1.2.1 d.1.1.2.2.1 d.1.1.2.2.2.1 (fun (y0 : Int) => K [.lf (.int .i64 y0)] [])) noS)), (88, (mkS sh88_1 (fun d K => c88_1 d.2.1.2.1 (fun (y1 : List ByteArray) => K [.lf (.full 1)] [some ⟨d.2.1.1, [.seq .str 0 d.2.1.2.1]⟩, some ⟨false, [.seq .str 0 y1]⟩])) noS))]) 24 1 (ltab []) code34 Try.f34.results.toList (encT sh34_1.vs d.1) (encH sh34_1.h d.2) K = (fun (a1 : Int) (a2 : Int) (a3 : Int) (a4 : Int) (a5 : List ByteArray) (K0 : (Int → Option Res)) (K1 : (List ByteArray → Option Res)) => c77_1 a1 a2 a3 a4 (fun x1 => cond (!x1) (K0 12) (c86_1 a1 a2 a3 a4 (fun x2 => cond (((a5.length : Nat) : Int) != x2) (K0 8) (c78_1421 a5 (fun x3 => cond x3 (K0 4) (c88_1 a5 (fun x4 => K1 x4) )) )) )) ) d.1.1.1 d.1.1.2.1 d.1.1.2.2.1 d.1.1.2.2.2.1 d.2.1.2.1 (fun (y0 : Int) => K [.lf (.nilp), .lf (.int .i64 y0)] [some ⟨d.2.1.1, [.seq .str 0 d.2.1.2.1]⟩]) (fun (y6 : List ByteArray) => K [.lf (.ptr 1 0), .lf (.int .i64 0)] [some ⟨d.2.1.1, [.seq .str 0 d.2.1.2.1]⟩, some ⟨false, [.int .i64 d.1.1.1, .int .i64 d.1.1.2.1, .int .i64 d.1.1.2.2.1, .int .i64 d.1.1.2.2.2.1, .full 2]⟩, some ⟨false, [.seq .str 0 y6]⟩]) := by kernel_rfl
theorem E34_1 (F : Nat) (d : sh34_1.den) (K : KF) : evBody Try.prog (T34_1 F) 24 1 (LT34_1 F) code34 Try.f34.results.toList (encT sh34_1.vs d.1) (encH sh34_1.h d.2) K = f34_1 F d.1.1.1 d.1.1.2.1 d.1.1.2.2.1 d.1.1.2.2.2.1 d.2.1.2.1 (fun (y0 : Int) => K [.lf (.nilp), .lf (.int .i64 y0)] [some ⟨d.2.1.1, [.seq .str 0 d.2.1.2.1]⟩]) (fun (y6 : List ByteArray) => K [.lf (.ptr 1 0), .lf (.int .i64 0)] [some ⟨d.2.1.1, [.seq .str 0 d.2.1.2.1]⟩, some ⟨false, [.int .i64 d.1.1.1, .int .i64 d.1.1.2.1, .int .i64 d.1.1.2.2.1, .int .i64 d.1.1.2.2.2.1, .full 2]⟩, some ⟨false, [.seq .str 0 y6]⟩]) := Eq.mp (by kernel_rfl) (E34_1g F (f77_1 F) (f78_1421 F) (f86_1 F) (f88_1 F)   d K)
theorem S34_1_ok (F : Nat) (o : Summ) (ho : SoundFn Try.prog 34 o) : SoundFn Try.prog 34 (S34_1 F o) :=
  soundFn_of (fn := Try.f34) (c := code34) (by kernel_rfl) (tab_cons (S77_1_ok F _ (noS_sound enter77)) (tab_cons (S78_1421_ok F _ (noS_sound enter78)) (tab_cons (S86_1_ok F _ (noS_sound enter86)) (tab_cons (S88_1_ok F _ (noS_sound enter88)) tab_nil)))) (by kernel_rfl) (by kernel_rfl) ho (by rw [loops34]; exact loopsOK_nil) (by rw [scopes34]; exact scopesOK_nil) (E34_1 F)
end Go.Proofs.Ytjlolgpbidfmeaa.X
end

section
namespace Go.Proofs.Ytjlolgpbidfmeaa.X
open Go Go.Proofs.Ytjlolgpbidfmeaa.Ev Go.Proofs
set_option linter.unusedVariables false
/-! pentimentoref05.Right -/
noncomputable def f91_1 {β : Type} (F : Nat) (a1 : ByteArray) (K0 : Bool → Option β) : Option β := K0 ((a1.size : Int) == 64)
def sh91_1 : Sh := ⟨[.lf (.str)], []⟩
noncomputable def S91_1 (F : Nat) (o : Summ) : Summ := mkS sh91_1 (fun d K => f91_1 F d.1.1 (fun (y0 : Bool) => K [.lf (.bool y0)] [])) o
noncomputable def code91 : Code := bodyOf Try.f91
theorem scopes91 : scopesOf code91 = [] := by kernel_rfl
theorem loops91 : loopsOf code91 = [] := by kernel_rfl
theorem enter91 : ∀ args w, (callFunc 91 args).run Try.prog w = .ok (.enter 91 args) w := enter_of (fn := Try.f91) (by kernel_rfl) (by kernel_rfl) (by kernel_rfl)
noncomputable def T91_1 (F : Nat) : FuncId → Option Summ := tab []
noncomputable def LT91_1 (F : Nat) : Nat → Option LoopS := ltab []
theorem E91_1g (F : Nat)    (d : sh91_1.den) (K : KF) : evBody Try.prog (tab []) 6 0 (ltab []) code91 Try.f91.results.toList (encT sh91_1.vs d.1) (encH sh91_1.h d.2) K = (fun (a1 : ByteArray) (K0 : (Bool → Option Res)) => K0 ((a1.size : Int) == 64)) d.1.1 (fun (y0 : Bool) => K [.lf (.bool y0)] []) := by kernel_rfl
theorem E91_1 (F : Nat) (d : sh91_1.den) (K : KF) : evBody Try.prog (T91_1 F) 6 0 (LT91_1 F) code91 Try.f91.results.toList (encT sh91_1.vs d.1) (encH sh91_1.h d.2) K = f91_1 F d.1.1 (fun (y0 : Bool) => K [.lf (.bool y0)] []) := Eq.mp (by kernel_rfl) (E91_1g F    d K)
theorem S91_1_ok (F : Nat) (o : Summ) (ho : SoundFn Try.prog 91 o) : SoundFn Try.prog 91 (S91_1 F o) :=
  soundFn_of (fn := Try.f91) (c := code91) (by kernel_rfl) tab_nil (by kernel_rfl) (by kernel_rfl) ho (by rw [loops91]; exact loopsOK_nil) (by rw [scopes91]; exact scopesOK_nil) (E91_1 F)
end Go.Proofs.Ytjlolgpbidfmeaa.X
end
