/- Merged: EvF98, EvF36, EvF84, EvF23, EvF99, EvF37, EvF144, EvF90, EvF164, EvF111, EvF91, EvF179, EvF131, EvF92, EvF85, EvF86, EvF24, EvF27, EvF93, EvF190, EvF147, EvF226, EvF215, EvF191, EvF148, EvF146, EvF94, EvF95, EvF31, EvF37v6206, EvF31v4108, Trm, TrimC, EvF127, EvF156, EvF180, EvF211, EvF181, EvF150, EvF96. -/
import Derived.Test.YtlgopekjjkdkiaaGreatDoorMUndoPlaysCard3
import Derived.Test.YtlgopekjjkdkiaaGreatDoorProg
import Derived.KernelRfl
import Derived.Shelf.Strings.SlTrimAscii
section
namespace Go.Proofs.YtlgopekjjkdkiaaGreatDoor.X
open Go Go.Proofs.YtlgopekjjkdkiaaGreatDoor.Ev Go.Proofs
set_option linter.unusedVariables false
set_option linter.unusedSectionVars false
/-! pentimentoref07.Levels -/
noncomputable def f98_1_l5 {β : Type} (F : Nat) (v3 : Int) (v4 : Int) (v5 : Int) (v6 : Int) (K0 : List Int → Option β) : Nat → Int → List Int → Option β
  | 0, _, _ => none
  | k + 1, v2, v7 => cond (decide (v2 > 1)) (cond (decide (v4 = 0)) none (cond (decide ((v7.length + 1) * 8 ≤ 70368744177664)) (f98_1_l5 F v3 v4 v5 v6 K0 k (IntKind.i64.wrap ((IntKind.i64.wrap ((IntKind.i64.wrap (v2 + v4)) - 1)).tdiv v4)) (v7 ++ [IntKind.i64.wrap ((IntKind.i64.wrap ((IntKind.i64.wrap (v2 + v4)) - 1)).tdiv v4)])) none)) (K0 v7)
noncomputable def f98_1 {β : Type} (F : Nat) (a1 : Int) (a2 : Int) (a3 : Int) (a4 : Int) (K0 : List Int → Option β) : Option β := f21_1 F a1 a2 a3 a4 (fun x1 => cond (!x1) (K0 []) (f98_1_l5 F a1 a2 a3 a4 (fun x8 => K0 x8) F a1 [a1])) 
variable [FZ]
def sh98_1 : Sh := ⟨[.agg [.int .i64, .int .i64, .int .i64, .int .i64]], []⟩
abbrev Y98_1 := Int → Int → Int → Int → (List Int → Option Res) → Option Res
noncomputable def A98_1 (g : Y98_1) (d : sh98_1.den) (K : KF) : Option Res := g d.1.1.1 d.1.1.2.1 d.1.1.2.2.1 d.1.1.2.2.2.1 (fun (y0 : List Int) => K [.lf (.full 0)] [some ⟨false, [.seq (.int .i64) 0 y0]⟩])
noncomputable def S98_1 (F : Nat) (o : Summ) : Summ := mkS sh98_1 (fun d K => A98_1 (f98_1 F) d K) o
noncomputable def code98 : Code := bodyOf Tryz.f98
noncomputable def b98_0 : Code := cB (cB (cR (cL (cR (cR (cR (code98)))))))
theorem scopes98 : scopesOf code98 = [] := by kernel_rfl
theorem ranges98 : rangesOf code98 = [] := by kernel_rfl
theorem loops98 : loopsOf code98 = [b98_0] := by kernel_rfl
theorem enter98 : ∀ args w, (callFunc 98 args).run Tryz.prog w = .ok (.enter 98 args) w := enter_of (fn := Tryz.f98) (by kernel_rfl) (by kernel_rfl) (by kernel_rfl)
noncomputable def T98_1 (F : Nat) : FuncId → Option Summ := tab [(21, (S21_1 F noS))]
noncomputable def TB98_1 (c21_1 : Y21_1) : FuncId → Option Summ := tab [(21, (mkS sh21_1 (fun d K => A21_1 c21_1 d K) noS))]
def sh98_1_l5 : Sh := ⟨[.lf (.ptr 0 0), .lf (.full 1), .lf (.int .i64)], [some ⟨some false, [.int .i64, .int .i64, .int .i64, .int .i64]⟩, some ⟨some false, [.seq (.int .i64) 0]⟩]⟩
abbrev Y98_1_l5 := Int → Int → Int → Int → (List Int → Option Res) → Nat → Int → List Int → Option Res
noncomputable def A98_1_l5 (g : Y98_1_l5) (k : Nat) (d : sh98_1_l5.den) (K : KL) : Option Res := g d.2.1.2.1 d.2.1.2.2.1 d.2.1.2.2.2.1 d.2.1.2.2.2.2.1 (fun (y4 : List Int) => K (.exit 0) [.tv (.lf (.full 1))] [some ⟨false, [.int .i64 d.2.1.2.1, .int .i64 d.2.1.2.2.1, .int .i64 d.2.1.2.2.2.1, .int .i64 d.2.1.2.2.2.2.1]⟩, some ⟨false, [.seq (.int .i64) 0 y4]⟩]) k d.1.2.2.1 d.2.2.1.2.1
noncomputable def G98_1_5 (F k : Nat) : LoopS := mkG sh98_1_l5 [1, 3, 4] (outT [(.exit 0, [3])]) (fun d K => A98_1_l5 (f98_1_l5 F) k d K) []
noncomputable def LT98_1 (F : Nat) : Nat → Option LoopS := ltab [(5, G98_1_5 F F)]
theorem L98_1_l5g (F k : Nat) (c21_1 : Y21_1)  (l5 : Y98_1_l5) (X5 : LoopS) (d : sh98_1_l5.den) (K : KL) : A98_1_l5 ((fun (v3 : Int) (v4 : Int) (v5 : Int) (v6 : Int) (K0 : (List Int → Option Res)) (k : Nat) (v2 : Int) (v7 : List Int) => cond (decide (v2 > 1)) (cond (decide (v4 = 0)) none (cond (decide ((v7.length + 1) * 8 ≤ 70368744177664)) (l5 v3 v4 v5 v6 K0 k (IntKind.i64.wrap ((IntKind.i64.wrap ((IntKind.i64.wrap (v2 + v4)) - 1)).tdiv v4)) (v7 ++ [IntKind.i64.wrap ((IntKind.i64.wrap ((IntKind.i64.wrap (v2 + v4)) - 1)).tdiv v4)])) none)) (K0 v7))) k d K = roundOf Tryz.prog (TB98_1 c21_1) (xw []) 28 0 (ltab [(5, X5)]) (mkG sh98_1_l5 [1, 3, 4] (outT [(.exit 0, [3])]) (fun d K => A98_1_l5 l5 k d K) []) b98_0 (encT sh98_1_l5.vs d.1) (encH sh98_1_l5.h d.2) K := by kernel_rfl
theorem L98_1_5 (F : Nat) : LoopOK Tryz.prog (T98_1 F) (xw []) 28 0 (LT98_1 F) (G98_1_5 F F) b98_0 :=
  loopOK_of (s := sh98_1_l5) (live := [1, 3, 4]) (out := (outT [(.exit 0, [3])])) (mv := []) (fun k d K => A98_1_l5 (f98_1_l5 F) k d K) F (fun d K => by kernel_rfl)  (fun k d K => Eq.mp (by kernel_rfl) (L98_1_l5g F k (f21_1 F)  (f98_1_l5 F) (G98_1_5 F F) d K))
theorem E98_1g (F : Nat) (c21_1 : Y21_1) (l5 : Y98_1_l5)  (d : sh98_1.den) (K : KF) : evBody Tryz.prog (TB98_1 c21_1) (xw []) 28 0 (ltab [(5, mkG sh98_1_l5 [1, 3, 4] (outT [(.exit 0, [3])]) (fun d K => A98_1_l5 l5 F d K) [])]) [] false code98 Tryz.f98.results.toList (encT sh98_1.vs d.1) (encH sh98_1.h d.2) K = A98_1 (fun (a1 : Int) (a2 : Int) (a3 : Int) (a4 : Int) (K0 : (List Int → Option Res)) => c21_1 a1 a2 a3 a4 (fun x1 => cond (!x1) (K0 []) (l5 a1 a2 a3 a4 (fun x8 => K0 x8) F a1 [a1])) ) d K := by kernel_rfl
theorem E98_1 (F : Nat) (d : sh98_1.den) (K : KF) : evBody Tryz.prog (T98_1 F) (xw []) 28 0 (LT98_1 F) [] false code98 Tryz.f98.results.toList (encT sh98_1.vs d.1) (encH sh98_1.h d.2) K = A98_1 (f98_1 F) d K := Eq.mp (by kernel_rfl) (E98_1g F (f21_1 F) (f98_1_l5 F)  d K)
theorem S98_1_ok (F : Nat) (o : Summ) (ho : SoundFn Tryz.prog 98 o) : SoundFn Tryz.prog 98 (S98_1 F o) :=
  soundFn_of (fn := Tryz.f98) (c := code98) rfl rfl (by kernel_rfl) (tab_cons (S21_1_ok F _ (noS_sound enter21)) tab_nil) (by kernel_rfl) (by kernel_rfl) ho (by rw [loops98]; exact (loopsOK_cons (by kernel_rfl) (L98_1_5 F) loopsOK_nil)) (by rw [scopes98]; exact scopesOK_nil) (by rw [ranges98]; exact rangesOK_nil)  (E98_1 F)
end Go.Proofs.YtlgopekjjkdkiaaGreatDoor.X
end

section
namespace Go.Proofs.YtlgopekjjkdkiaaGreatDoor.X
open Go Go.Proofs.YtlgopekjjkdkiaaGreatDoor.Ev Go.Proofs
set_option linter.unusedVariables false
set_option linter.unusedSectionVars false
/-! pentimentoref07.Nodes -/
noncomputable def f36_1_l4 {β : Type} (F : Nat) (v4 : List Int) (K0 : Int → Option β) : Nat → Int → Int → Option β
  | 0, _, _ => none
  | k + 1, v2, v3 => cond (decide (v3 < ((v4.length : Nat) : Int))) (cond (decide ((0 : Int) ≤ v3 ∧ v3 < ((v4.length : Nat) : Int))) (cond (decide (0 + v3.toNat < v4.length)) (f36_1_l4 F v4 K0 k (IntKind.i64.wrap (v2 + (v4.getD (0 + v3.toNat) 0))) (IntKind.i64.wrap (v3 + 1))) none) none) (K0 v2)
noncomputable def f36_1 {β : Type} (F : Nat) (a1 : Int) (a2 : Int) (a3 : Int) (a4 : Int) (K0 : Int → Option β) : Option β := f98_1 F a1 a2 a3 a4 (fun x1 => f36_1_l4 F x1 (fun x5 => K0 x5) F 0 0) 
variable [FZ]
def sh36_1 : Sh := ⟨[.agg [.int .i64, .int .i64, .int .i64, .int .i64]], []⟩
abbrev Y36_1 := Int → Int → Int → Int → (Int → Option Res) → Option Res
noncomputable def A36_1 (g : Y36_1) (d : sh36_1.den) (K : KF) : Option Res := g d.1.1.1 d.1.1.2.1 d.1.1.2.2.1 d.1.1.2.2.2.1 (fun (y0 : Int) => K [.lf (.int .i64 y0)] [])
noncomputable def S36_1 (F : Nat) (o : Summ) : Summ := mkS sh36_1 (fun d K => A36_1 (f36_1 F) d K) o
noncomputable def code36 : Code := bodyOf Tryz.f36
noncomputable def b36_0 : Code := cB (cB (cR (cL (cR (cR (cR (code36)))))))
theorem scopes36 : scopesOf code36 = [] := by kernel_rfl
theorem ranges36 : rangesOf code36 = [] := by kernel_rfl
theorem loops36 : loopsOf code36 = [b36_0] := by kernel_rfl
theorem enter36 : ∀ args w, (callFunc 36 args).run Tryz.prog w = .ok (.enter 36 args) w := enter_of (fn := Tryz.f36) (by kernel_rfl) (by kernel_rfl) (by kernel_rfl)
noncomputable def T36_1 (F : Nat) : FuncId → Option Summ := tab [(98, (S98_1 F noS))]
noncomputable def TB36_1 (c98_1 : Y98_1) : FuncId → Option Summ := tab [(98, (mkS sh98_1 (fun d K => A98_1 c98_1 d K) noS))]
def sh36_1_l4 : Sh := ⟨[.lf (.int .i64), .lf (.full 0), .lf (.int .i64)], [some ⟨some false, [.seq (.int .i64) 0]⟩]⟩
abbrev Y36_1_l4 := List Int → (Int → Option Res) → Nat → Int → Int → Option Res
noncomputable def A36_1_l4 (g : Y36_1_l4) (k : Nat) (d : sh36_1_l4.den) (K : KL) : Option Res := g d.2.1.2.1 (fun (y0 : Int) => K (.exit 0) [.tv (.lf (.int .i64 y0))] [some ⟨false, [.seq (.int .i64) 0 d.2.1.2.1]⟩]) k d.1.1 d.1.2.2.1
noncomputable def G36_1_4 (F k : Nat) : LoopS := mkG sh36_1_l4 [3, 4, 5] (outT [(.exit 0, [3])]) (fun d K => A36_1_l4 (f36_1_l4 F) k d K) []
noncomputable def LT36_1 (F : Nat) : Nat → Option LoopS := ltab [(4, G36_1_4 F F)]
theorem L36_1_l4g (F k : Nat) (c98_1 : Y98_1)  (l4 : Y36_1_l4) (X4 : LoopS) (d : sh36_1_l4.den) (K : KL) : A36_1_l4 ((fun (v4 : List Int) (K0 : (Int → Option Res)) (k : Nat) (v2 : Int) (v3 : Int) => cond (decide (v3 < ((v4.length : Nat) : Int))) (cond (decide ((0 : Int) ≤ v3 ∧ v3 < ((v4.length : Nat) : Int))) (cond (decide (0 + v3.toNat < v4.length)) (l4 v4 K0 k (IntKind.i64.wrap (v2 + (v4.getD (0 + v3.toNat) 0))) (IntKind.i64.wrap (v3 + 1))) none) none) (K0 v2))) k d K = roundOf Tryz.prog (TB36_1 c98_1) (xw []) 21 0 (ltab [(4, X4)]) (mkG sh36_1_l4 [3, 4, 5] (outT [(.exit 0, [3])]) (fun d K => A36_1_l4 l4 k d K) []) b36_0 (encT sh36_1_l4.vs d.1) (encH sh36_1_l4.h d.2) K := by kernel_rfl
theorem L36_1_4 (F : Nat) : LoopOK Tryz.prog (T36_1 F) (xw []) 21 0 (LT36_1 F) (G36_1_4 F F) b36_0 :=
  loopOK_of (s := sh36_1_l4) (live := [3, 4, 5]) (out := (outT [(.exit 0, [3])])) (mv := []) (fun k d K => A36_1_l4 (f36_1_l4 F) k d K) F (fun d K => by kernel_rfl)  (fun k d K => Eq.mp (by kernel_rfl) (L36_1_l4g F k (f98_1 F)  (f36_1_l4 F) (G36_1_4 F F) d K))
theorem E36_1g (F : Nat) (c98_1 : Y98_1) (l4 : Y36_1_l4)  (d : sh36_1.den) (K : KF) : evBody Tryz.prog (TB36_1 c98_1) (xw []) 21 0 (ltab [(4, mkG sh36_1_l4 [3, 4, 5] (outT [(.exit 0, [3])]) (fun d K => A36_1_l4 l4 F d K) [])]) [] false code36 Tryz.f36.results.toList (encT sh36_1.vs d.1) (encH sh36_1.h d.2) K = A36_1 (fun (a1 : Int) (a2 : Int) (a3 : Int) (a4 : Int) (K0 : (Int → Option Res)) => c98_1 a1 a2 a3 a4 (fun x1 => l4 x1 (fun x5 => K0 x5) F 0 0) ) d K := by kernel_rfl
theorem E36_1 (F : Nat) (d : sh36_1.den) (K : KF) : evBody Tryz.prog (T36_1 F) (xw []) 21 0 (LT36_1 F) [] false code36 Tryz.f36.results.toList (encT sh36_1.vs d.1) (encH sh36_1.h d.2) K = A36_1 (f36_1 F) d K := Eq.mp (by kernel_rfl) (E36_1g F (f98_1 F) (f36_1_l4 F)  d K)
theorem S36_1_ok (F : Nat) (o : Summ) (ho : SoundFn Tryz.prog 36 o) : SoundFn Tryz.prog 36 (S36_1 F o) :=
  soundFn_of (fn := Tryz.f36) (c := code36) rfl rfl (by kernel_rfl) (tab_cons (S98_1_ok F _ (noS_sound enter98)) tab_nil) (by kernel_rfl) (by kernel_rfl) ho (by rw [loops36]; exact (loopsOK_cons (by kernel_rfl) (L36_1_4 F) loopsOK_nil)) (by rw [scopes36]; exact scopesOK_nil) (by rw [ranges36]; exact rangesOK_nil)  (E36_1 F)
end Go.Proofs.YtlgopekjjkdkiaaGreatDoor.X
end

section
namespace Go.Proofs.YtlgopekjjkdkiaaGreatDoor.X
open Go Go.Proofs.YtlgopekjjkdkiaaGreatDoor.Ev Go.Proofs
set_option linter.unusedVariables false
set_option linter.unusedSectionVars false
/-! pentimentoref07.area -/
noncomputable def f84_1 {β : Type} (F : Nat) (a1 : Int) (a2 : Int) (a3 : Int) (a4 : Int) (a5 : Int) (K0 : Int → Option β) : Option β := cond (a5 == 0) (K0 (IntKind.i64.wrap (2 * a3))) (cond (a5 == 1) (K0 (IntKind.i64.wrap (2 * a4))) (K0 (-1)))
variable [FZ]
def sh84_1 : Sh := ⟨[.agg [.int .i64, .int .i64, .int .i64, .int .i64], .lf (.int .i64)], []⟩
abbrev Y84_1 := Int → Int → Int → Int → Int → (Int → Option Res) → Option Res
noncomputable def A84_1 (g : Y84_1) (d : sh84_1.den) (K : KF) : Option Res := g d.1.1.1 d.1.1.2.1 d.1.1.2.2.1 d.1.1.2.2.2.1 d.1.2.1 (fun (y0 : Int) => K [.lf (.int .i64 y0)] [])
noncomputable def S84_1 (F : Nat) (o : Summ) : Summ := mkS sh84_1 (fun d K => A84_1 (f84_1 F) d K) o
noncomputable def code84 : Code := bodyOf Tryz.f84
theorem scopes84 : scopesOf code84 = [] := by kernel_rfl
theorem ranges84 : rangesOf code84 = [] := by kernel_rfl
theorem loops84 : loopsOf code84 = [] := by kernel_rfl
theorem enter84 : ∀ args w, (callFunc 84 args).run Tryz.prog w = .ok (.enter 84 args) w := enter_of (fn := Tryz.f84) (by kernel_rfl) (by kernel_rfl) (by kernel_rfl)
noncomputable def T84_1 (F : Nat) : FuncId → Option Summ := tab []
noncomputable def TB84_1  : FuncId → Option Summ := tab []
noncomputable def LT84_1 (F : Nat) : Nat → Option LoopS := ltab []
theorem E84_1g (F : Nat)    (d : sh84_1.den) (K : KF) : evBody Tryz.prog TB84_1 (xw []) 15 0 (ltab []) [] false code84 Tryz.f84.results.toList (encT sh84_1.vs d.1) (encH sh84_1.h d.2) K = A84_1 (fun (a1 : Int) (a2 : Int) (a3 : Int) (a4 : Int) (a5 : Int) (K0 : (Int → Option Res)) => cond (a5 == 0) (K0 (IntKind.i64.wrap (2 * a3))) (cond (a5 == 1) (K0 (IntKind.i64.wrap (2 * a4))) (K0 (-1)))) d K := by kernel_rfl
theorem E84_1 (F : Nat) (d : sh84_1.den) (K : KF) : evBody Tryz.prog (T84_1 F) (xw []) 15 0 (LT84_1 F) [] false code84 Tryz.f84.results.toList (encT sh84_1.vs d.1) (encH sh84_1.h d.2) K = A84_1 (f84_1 F) d K := Eq.mp (by kernel_rfl) (E84_1g F    d K)
theorem S84_1_ok (F : Nat) (o : Summ) (ho : SoundFn Tryz.prog 84 o) : SoundFn Tryz.prog 84 (S84_1 F o) :=
  soundFn_of (fn := Tryz.f84) (c := code84) rfl rfl (by kernel_rfl) tab_nil (by kernel_rfl) (by kernel_rfl) ho (by rw [loops84]; exact loopsOK_nil) (by rw [scopes84]; exact scopesOK_nil) (by rw [ranges84]; exact rangesOK_nil)  (E84_1 F)
end Go.Proofs.YtlgopekjjkdkiaaGreatDoor.X
end

section
namespace Go.Proofs.YtlgopekjjkdkiaaGreatDoor.X
open Go Go.Proofs.YtlgopekjjkdkiaaGreatDoor.Ev Go.Proofs
set_option linter.unusedVariables false
set_option linter.unusedSectionVars false
/-! pentimentoref07.Size -/
noncomputable def f23_1 {β : Type} (F : Nat) (a1 : Int) (a2 : Int) (a3 : Int) (a4 : Int) (a5 : Int) (K0 : Int → Option β) : Option β := f84_1 F a1 a2 a3 a4 a5 (fun x1 => f21_1 F a1 a2 a3 a4 (fun x2 => cond (!x2) (K0 0) (cond (decide (x1 < 0)) (K0 0) (f36_1 F a1 a2 a3 a4 (fun x3 => K0 (IntKind.i64.wrap ((IntKind.i64.wrap ((IntKind.i64.wrap (6 + a1)) + x3)) + x1))) ))) ) 
variable [FZ]
def sh23_1 : Sh := ⟨[.agg [.int .i64, .int .i64, .int .i64, .int .i64], .lf (.int .i64)], []⟩
abbrev Y23_1 := Int → Int → Int → Int → Int → (Int → Option Res) → Option Res
noncomputable def A23_1 (g : Y23_1) (d : sh23_1.den) (K : KF) : Option Res := g d.1.1.1 d.1.1.2.1 d.1.1.2.2.1 d.1.1.2.2.2.1 d.1.2.1 (fun (y0 : Int) => K [.lf (.int .i64 y0)] [])
noncomputable def S23_1 (F : Nat) (o : Summ) : Summ := mkS sh23_1 (fun d K => A23_1 (f23_1 F) d K) o
noncomputable def code23 : Code := bodyOf Tryz.f23
theorem scopes23 : scopesOf code23 = [] := by kernel_rfl
theorem ranges23 : rangesOf code23 = [] := by kernel_rfl
theorem loops23 : loopsOf code23 = [] := by kernel_rfl
theorem enter23 : ∀ args w, (callFunc 23 args).run Tryz.prog w = .ok (.enter 23 args) w := enter_of (fn := Tryz.f23) (by kernel_rfl) (by kernel_rfl) (by kernel_rfl)
noncomputable def T23_1 (F : Nat) : FuncId → Option Summ := tab [(21, (S21_1 F noS)), (36, (S36_1 F noS)), (84, (S84_1 F noS))]
noncomputable def TB23_1 (c21_1 : Y21_1) (c36_1 : Y36_1) (c84_1 : Y84_1) : FuncId → Option Summ := tab [(21, (mkS sh21_1 (fun d K => A21_1 c21_1 d K) noS)), (36, (mkS sh36_1 (fun d K => A36_1 c36_1 d K) noS)), (84, (mkS sh84_1 (fun d K => A84_1 c84_1 d K) noS))]
noncomputable def LT23_1 (F : Nat) : Nat → Option LoopS := ltab []
theorem E23_1g (F : Nat) (c21_1 : Y21_1) (c36_1 : Y36_1) (c84_1 : Y84_1)   (d : sh23_1.den) (K : KF) : evBody Tryz.prog (TB23_1 c21_1 c36_1 c84_1) (xw []) 24 0 (ltab []) [] false code23 Tryz.f23.results.toList (encT sh23_1.vs d.1) (encH sh23_1.h d.2) K = A23_1 (fun (a1 : Int) (a2 : Int) (a3 : Int) (a4 : Int) (a5 : Int) (K0 : (Int → Option Res)) => c84_1 a1 a2 a3 a4 a5 (fun x1 => c21_1 a1 a2 a3 a4 (fun x2 => cond (!x2) (K0 0) (cond (decide (x1 < 0)) (K0 0) (c36_1 a1 a2 a3 a4 (fun x3 => K0 (IntKind.i64.wrap ((IntKind.i64.wrap ((IntKind.i64.wrap (6 + a1)) + x3)) + x1))) ))) ) ) d K := by kernel_rfl
theorem E23_1 (F : Nat) (d : sh23_1.den) (K : KF) : evBody Tryz.prog (T23_1 F) (xw []) 24 0 (LT23_1 F) [] false code23 Tryz.f23.results.toList (encT sh23_1.vs d.1) (encH sh23_1.h d.2) K = A23_1 (f23_1 F) d K := Eq.mp (by kernel_rfl) (E23_1g F (f21_1 F) (f36_1 F) (f84_1 F)   d K)
theorem S23_1_ok (F : Nat) (o : Summ) (ho : SoundFn Tryz.prog 23 o) : SoundFn Tryz.prog 23 (S23_1 F o) :=
  soundFn_of (fn := Tryz.f23) (c := code23) rfl rfl (by kernel_rfl) (tab_cons (S21_1_ok F _ (noS_sound enter21)) (tab_cons (S36_1_ok F _ (noS_sound enter36)) (tab_cons (S84_1_ok F _ (noS_sound enter84)) tab_nil))) (by kernel_rfl) (by kernel_rfl) ho (by rw [loops23]; exact loopsOK_nil) (by rw [scopes23]; exact scopesOK_nil) (by rw [ranges23]; exact rangesOK_nil)  (E23_1 F)
end Go.Proofs.YtlgopekjjkdkiaaGreatDoor.X
end

section
namespace Go.Proofs.YtlgopekjjkdkiaaGreatDoor.X
open Go Go.Proofs.YtlgopekjjkdkiaaGreatDoor.Ev Go.Proofs
set_option linter.unusedVariables false
set_option linter.unusedSectionVars false
/-! api.Put] -/
noncomputable def f99_1 {β : Type} (F : Nat) (a1 : List (Int × ByteArray)) (K0 : Option β) : Option β := K0
variable [FZ]
def sh99_1 : Sh := ⟨[.lf (.full 0)], [some ⟨none, [.seq (.pair (.int .i64) .str) 0]⟩]⟩
abbrev Y99_1 := List (Int × ByteArray) → (Option Res) → Option Res
noncomputable def A99_1 (g : Y99_1) (d : sh99_1.den) (K : KF) : Option Res := g d.2.1.2.1 (K [.lf (.clo 152 [1])] [some ⟨d.2.1.1, [.seq (.pair (.int .i64) .str) 0 d.2.1.2.1]⟩, some ⟨false, [.full 0]⟩])
noncomputable def S99_1 (F : Nat) (o : Summ) : Summ := mkS sh99_1 (fun d K => A99_1 (f99_1 F) d K) o
noncomputable def code99 : Code := bodyOf Tryz.f99
theorem scopes99 : scopesOf code99 = [] := by kernel_rfl
theorem ranges99 : rangesOf code99 = [] := by kernel_rfl
theorem loops99 : loopsOf code99 = [] := by kernel_rfl
theorem enter99 : ∀ args w, (callFunc 99 args).run Tryz.prog w = .ok (.enter 99 args) w := enter_of (fn := Tryz.f99) (by kernel_rfl) (by kernel_rfl) (by kernel_rfl)
noncomputable def T99_1 (F : Nat) : FuncId → Option Summ := tab []
noncomputable def TB99_1  : FuncId → Option Summ := tab []
noncomputable def LT99_1 (F : Nat) : Nat → Option LoopS := ltab []
theorem E99_1g (F : Nat)    (d : sh99_1.den) (K : KF) : evBody Tryz.prog TB99_1 (xw []) 4 1 (ltab []) [] false code99 Tryz.f99.results.toList (encT sh99_1.vs d.1) (encH sh99_1.h d.2) K = A99_1 (fun (a1 : List (Int × ByteArray)) (K0 : (Option Res)) => K0) d K := by kernel_rfl
theorem E99_1 (F : Nat) (d : sh99_1.den) (K : KF) : evBody Tryz.prog (T99_1 F) (xw []) 4 1 (LT99_1 F) [] false code99 Tryz.f99.results.toList (encT sh99_1.vs d.1) (encH sh99_1.h d.2) K = A99_1 (f99_1 F) d K := Eq.mp (by kernel_rfl) (E99_1g F    d K)
theorem S99_1_ok (F : Nat) (o : Summ) (ho : SoundFn Tryz.prog 99 o) : SoundFn Tryz.prog 99 (S99_1 F o) :=
  soundFn_of (fn := Tryz.f99) (c := code99) rfl rfl (by kernel_rfl) tab_nil (by kernel_rfl) (by kernel_rfl) ho (by rw [loops99]; exact loopsOK_nil) (by rw [scopes99]; exact scopesOK_nil) (by rw [ranges99]; exact rangesOK_nil)  (E99_1 F)
end Go.Proofs.YtlgopekjjkdkiaaGreatDoor.X
end

section
namespace Go.Proofs.YtlgopekjjkdkiaaGreatDoor.X
open Go Go.Proofs.YtlgopekjjkdkiaaGreatDoor.Ev Go.Proofs
set_option linter.unusedVariables false
set_option linter.unusedSectionVars false
/-! disk.Disk).Read -/
noncomputable def f37_1_r2000006_l1 {β : Type} (F : Nat) (v10 : Int) (v11 : Bool) (v12 : Int) (v13 : List ByteArray) (v14 : List (Int × ByteArray)) (v15 : Int) (v16 : ByteArray) (v17 : Int) (K0 : ByteArray → Int → ByteArray → Option β) (K1 : Option β) : Nat → Int → Option β
  | 0, _ => none
  | k + 1, v9 => cond (decide (v9 ≥ 0)) (cond (decide ((0 : Int) ≤ v9 ∧ v9 < ((v14.length : Nat) : Int))) (cond (decide (0 + v9.toNat < v14.length)) (cond (((v14.getD (0 + v9.toNat) (0, ByteArray.empty)).1) == v15) (K0 ((v14.getD (0 + v9.toNat) (0, ByteArray.empty)).2) ((v14.getD (0 + v9.toNat) (0, ByteArray.empty)).1) ((v14.getD (0 + v9.toNat) (0, ByteArray.empty)).2)) (f37_1_r2000006_l1 F v10 v11 v12 v13 v14 v15 v16 v17 K0 K1 k (IntKind.i64.wrap (v9 - 1)))) none) none) (K1)
noncomputable def f37_1_r2000006 {β : Type} (F : Nat) (v1 : Int) (v2 : Bool) (v3 : Int) (v4 : List ByteArray) (v5 : List (Int × ByteArray)) (v6 : Int) (v7 : ByteArray) (v8 : Int) (K0 : ByteArray → Int → ByteArray → Option β) (K1 : Option β) : Option β := f37_1_r2000006_l1 F v1 v2 v3 v4 v5 v6 v7 v8 (fun x18 x19 x20 => K0 x18 x19 x20) (K1) F (IntKind.i64.wrap (((v5.length : Nat) : Int) - 1))
noncomputable def f37_1 {β : Type} (F : Nat) (a1 : Int) (a2 : Int) (a3 : Bool) (a4 : Int) (a5 : List ByteArray) (a6 : List (Int × ByteArray)) (K0 : ByteArray → Int → Option β) : Option β := cond a3 (K0 ByteArray.empty 5) (f99_1 F a6 (f37_1_r2000006 F a2 a3 a4 a5 a6 a1 ByteArray.empty 0 (fun x21 x22 x23 => K0 x21 0) (f15_1 F a1 a2 a3 a4 a5 a6 (fun x24 x25 => K0 x24 x25) ) ) )
variable [FZ]
def sh37_1 : Sh := ⟨[.lf (.ptr 0 0), .lf (.int .i64)], [some ⟨none, [.full 1, .full 2, .int .i64, .bool, .int .i64]⟩, some ⟨none, [.seq .str 0]⟩, some ⟨none, [.seq (.pair (.int .i64) .str) 0]⟩]⟩
abbrev Y37_1 := Int → Int → Bool → Int → List ByteArray → List (Int × ByteArray) → (ByteArray → Int → Option Res) → Option Res
noncomputable def A37_1 (g : Y37_1) (d : sh37_1.den) (K : KF) : Option Res := g d.1.2.1 d.2.1.2.2.2.1 d.2.1.2.2.2.2.1 d.2.1.2.2.2.2.2.1 d.2.2.1.2.1 d.2.2.2.1.2.1 (fun (y0 : ByteArray) (y1 : Int) => K [.lf (.str y0), .lf (.int .i64 y1)] [some ⟨d.2.1.1, [.full 1, .full 2, .int .i64 d.2.1.2.2.2.1, .bool d.2.1.2.2.2.2.1, .int .i64 d.2.1.2.2.2.2.2.1]⟩, some ⟨d.2.2.1.1, [.seq .str 0 d.2.2.1.2.1]⟩, some ⟨d.2.2.2.1.1, [.seq (.pair (.int .i64) .str) 0 d.2.2.2.1.2.1]⟩])
noncomputable def S37_1 (F : Nat) (o : Summ) : Summ := mkS sh37_1 (fun d K => A37_1 (f37_1 F) d K) o
noncomputable def code37 : Code := bodyOf Tryz.f37
noncomputable def rg37_0 : Code := cB (cR (cL (cR (cR (code37)))))
theorem scopes37 : scopesOf code37 = [] := by kernel_rfl
theorem ranges37 : rangesOf code37 = [.rangeFunc (rgG rg37_0) (rgP rg37_0) (rgX rg37_0) (rgY rg37_0)] := by kernel_rfl
theorem loops37 : loopsOf code37 = [] := by kernel_rfl
theorem enter37 : ∀ args w, (callFunc 37 args).run Tryz.prog w = .ok (.enter 37 args) w := enter_of (fn := Tryz.f37) (by kernel_rfl) (by kernel_rfl) (by kernel_rfl)
noncomputable def T37_1 (F : Nat) : FuncId → Option Summ := tab [(15, (S15_1 F noS)), (99, (S99_1 F noS))]
noncomputable def TB37_1 (c15_1 : Y15_1) (c99_1 : Y99_1) : FuncId → Option Summ := tab [(15, (mkS sh15_1 (fun d K => A15_1 c15_1 d K) noS)), (99, (mkS sh99_1 (fun d K => A99_1 c99_1 d K) noS))]
def sh37_1_l2000006 : Sh := ⟨[.lf (.ptr 0 0), .lf (.ptr 3 0), .lf (.ptr 4 0), .lf (.ptr 5 0), .lf (.clo 152 [6])], [some ⟨none, [.full 1, .full 2, .int .i64, .bool, .int .i64]⟩, some ⟨none, [.seq .str 0]⟩, some ⟨none, [.seq (.pair (.int .i64) .str) 0]⟩, some ⟨some false, [.int .i64]⟩, some ⟨some false, [.str]⟩, some ⟨some false, [.int .i64]⟩, some ⟨some false, [.full 2]⟩]⟩
noncomputable def G37_1_2000006 (F k : Nat) : LoopS := mkG sh37_1_l2000006 [0, 3, 4, 5, 20] (outT [(.normal, [0, 3, 4, 5]), (.ret, [4, 5])]) (fun d K => f37_1_r2000006 F d.2.1.2.2.2.1 d.2.1.2.2.2.2.1 d.2.1.2.2.2.2.2.1 d.2.2.1.2.1 d.2.2.2.1.2.1 d.2.2.2.2.1.2.1 d.2.2.2.2.2.1.2.1 d.2.2.2.2.2.2.1.2.1 (fun (y6 : ByteArray) (y8 : Int) (y9 : ByteArray) => K .ret [.tv (.lf (.ptr 4 0)), .tv (.lf (.ptr 5 0))] [some ⟨d.2.1.1, [.full 1, .full 2, .int .i64 d.2.1.2.2.2.1, .bool d.2.1.2.2.2.2.1, .int .i64 d.2.1.2.2.2.2.2.1]⟩, some ⟨d.2.2.1.1, [.seq .str 0 d.2.2.1.2.1]⟩, some ⟨d.2.2.2.1.1, [.seq (.pair (.int .i64) .str) 0 d.2.2.2.1.2.1]⟩, some ⟨false, [.int .i64 d.2.2.2.2.1.2.1]⟩, some ⟨false, [.str y6]⟩, some ⟨false, [.int .i64 0]⟩, some ⟨false, [.full 2]⟩, none, none, none, none, some ⟨false, [.int .i64 y8, .str y9]⟩]) (K .normal [.tv (.lf (.ptr 0 0)), .tv (.lf (.ptr 3 0)), .tv (.lf (.ptr 4 0)), .tv (.lf (.ptr 5 0))] [some ⟨d.2.1.1, [.full 1, .full 2, .int .i64 d.2.1.2.2.2.1, .bool d.2.1.2.2.2.2.1, .int .i64 d.2.1.2.2.2.2.2.1]⟩, some ⟨d.2.2.1.1, [.seq .str 0 d.2.2.1.2.1]⟩, some ⟨d.2.2.2.1.1, [.seq (.pair (.int .i64) .str) 0 d.2.2.2.1.2.1]⟩, some ⟨false, [.int .i64 d.2.2.2.2.1.2.1]⟩, some ⟨false, [.str d.2.2.2.2.2.1.2.1]⟩, some ⟨false, [.int .i64 d.2.2.2.2.2.2.1.2.1]⟩, some ⟨false, [.full 2]⟩, none, none, none, none])) []
noncomputable def LT37_1 (F : Nat) : Nat → Option LoopS := ltab [(2000006, G37_1_2000006 F F)]
noncomputable def ic37_1_2000006 : Code := bodyOf Tryz.f152
noncomputable def ic37_1_2000006_b0 : Code := cB (cB (cR (ic37_1_2000006)))
theorem ic37_1_2000006_loops : loopsOf ic37_1_2000006 = [ic37_1_2000006_b0] := by kernel_rfl
theorem ic37_1_2000006_scopes : scopesOf ic37_1_2000006 = [] := by kernel_rfl
def sh37_1_r2000006_l1 : Sh := ⟨[.lf (.yld 7), .lf (.ptr 6 0), .lf (.int .i64)], [some ⟨none, [.full 1, .full 2, .int .i64, .bool, .int .i64]⟩, some ⟨none, [.seq .str 0]⟩, some ⟨none, [.seq (.pair (.int .i64) .str) 0]⟩, some ⟨some false, [.int .i64]⟩, some ⟨some false, [.str]⟩, some ⟨some false, [.int .i64]⟩, some ⟨some false, [.full 2]⟩, some ⟨some false, []⟩, none, none, some ⟨some false, []⟩]⟩
noncomputable def GI37_1_2000006_1 (F : Nat) (d : sh37_1_l2000006.den) (k : Nat) : LoopS := mkG sh37_1_r2000006_l1 [0, 1, 3] (outT [(.exit 0, []), (.ret, [])]) (fun e K => f37_1_r2000006_l1 F e.2.1.2.2.2.1 e.2.1.2.2.2.2.1 e.2.1.2.2.2.2.2.1 e.2.2.1.2.1 e.2.2.2.1.2.1 e.2.2.2.2.1.2.1 e.2.2.2.2.2.1.2.1 e.2.2.2.2.2.2.1.2.1 (fun (y6 : ByteArray) (y8 : Int) (y9 : ByteArray) => K .ret [] [some ⟨e.2.1.1, [.full 1, .full 2, .int .i64 e.2.1.2.2.2.1, .bool e.2.1.2.2.2.2.1, .int .i64 e.2.1.2.2.2.2.2.1]⟩, some ⟨e.2.2.1.1, [.seq .str 0 e.2.2.1.2.1]⟩, some ⟨e.2.2.2.1.1, [.seq (.pair (.int .i64) .str) 0 e.2.2.2.1.2.1]⟩, some ⟨false, [.int .i64 e.2.2.2.2.1.2.1]⟩, some ⟨false, [.str y6]⟩, some ⟨false, [.int .i64 0]⟩, some ⟨false, [.full 2]⟩, none, none, some ⟨false, []⟩, some ⟨false, []⟩, some ⟨false, [.int .i64 y8, .str y9]⟩]) (K (.exit 0) [] [some ⟨e.2.1.1, [.full 1, .full 2, .int .i64 e.2.1.2.2.2.1, .bool e.2.1.2.2.2.2.1, .int .i64 e.2.1.2.2.2.2.2.1]⟩, some ⟨e.2.2.1.1, [.seq .str 0 e.2.2.1.2.1]⟩, some ⟨e.2.2.2.1.1, [.seq (.pair (.int .i64) .str) 0 e.2.2.2.1.2.1]⟩, some ⟨false, [.int .i64 e.2.2.2.2.1.2.1]⟩, some ⟨false, [.str e.2.2.2.2.2.1.2.1]⟩, some ⟨false, [.int .i64 e.2.2.2.2.2.2.1.2.1]⟩, some ⟨false, [.full 2]⟩, some ⟨false, []⟩, none, none, some ⟨false, []⟩]) k e.1.2.2.1) []
noncomputable def it37_1_2000006 (F : Nat) (d : sh37_1_l2000006.den) : Nat → Option LoopS := ltab [(1, GI37_1_2000006_1 F d F)]
theorem L37_1_r2000006_l1g (F k : Nat) (d : sh37_1_l2000006.den) (c15_1 : Y15_1) (c99_1 : Y99_1)  (l1 : Int → Bool → Int → List ByteArray → List (Int × ByteArray) → Int → ByteArray → Int → (ByteArray → Int → ByteArray → Option Res) → (Option Res) → Nat → Int → Option Res) (X1 : LoopS) (e : sh37_1_r2000006_l1.den) (K : KL) : (fun (v10 : Int) (v11 : Bool) (v12 : Int) (v13 : List ByteArray) (v14 : List (Int × ByteArray)) (v15 : Int) (v16 : ByteArray) (v17 : Int) (K0 : (ByteArray → Int → ByteArray → Option Res)) (K1 : (Option Res)) (k : Nat) (v9 : Int) => cond (decide (v9 ≥ 0)) (cond (decide ((0 : Int) ≤ v9 ∧ v9 < ((v14.length : Nat) : Int))) (cond (decide (0 + v9.toNat < v14.length)) (cond (((v14.getD (0 + v9.toNat) (0, ByteArray.empty)).1) == v15) (K0 ((v14.getD (0 + v9.toNat) (0, ByteArray.empty)).2) ((v14.getD (0 + v9.toNat) (0, ByteArray.empty)).1) ((v14.getD (0 + v9.toNat) (0, ByteArray.empty)).2)) (l1 v10 v11 v12 v13 v14 v15 v16 v17 K0 K1 k (IntKind.i64.wrap (v9 - 1)))) none) none) (K1)) e.2.1.2.2.2.1 e.2.1.2.2.2.2.1 e.2.1.2.2.2.2.2.1 e.2.2.1.2.1 e.2.2.2.1.2.1 e.2.2.2.2.1.2.1 e.2.2.2.2.2.1.2.1 e.2.2.2.2.2.2.1.2.1 (fun (y6 : ByteArray) (y8 : Int) (y9 : ByteArray) => K .ret [] [some ⟨e.2.1.1, [.full 1, .full 2, .int .i64 e.2.1.2.2.2.1, .bool e.2.1.2.2.2.2.1, .int .i64 e.2.1.2.2.2.2.2.1]⟩, some ⟨e.2.2.1.1, [.seq .str 0 e.2.2.1.2.1]⟩, some ⟨e.2.2.2.1.1, [.seq (.pair (.int .i64) .str) 0 e.2.2.2.1.2.1]⟩, some ⟨false, [.int .i64 e.2.2.2.2.1.2.1]⟩, some ⟨false, [.str y6]⟩, some ⟨false, [.int .i64 0]⟩, some ⟨false, [.full 2]⟩, none, none, some ⟨false, []⟩, some ⟨false, []⟩, some ⟨false, [.int .i64 y8, .str y9]⟩]) (K (.exit 0) [] [some ⟨e.2.1.1, [.full 1, .full 2, .int .i64 e.2.1.2.2.2.1, .bool e.2.1.2.2.2.2.1, .int .i64 e.2.1.2.2.2.2.2.1]⟩, some ⟨e.2.2.1.1, [.seq .str 0 e.2.2.1.2.1]⟩, some ⟨e.2.2.2.1.1, [.seq (.pair (.int .i64) .str) 0 e.2.2.2.1.2.1]⟩, some ⟨false, [.int .i64 e.2.2.2.2.1.2.1]⟩, some ⟨false, [.str e.2.2.2.2.2.1.2.1]⟩, some ⟨false, [.int .i64 e.2.2.2.2.2.2.1.2.1]⟩, some ⟨false, [.full 2]⟩, some ⟨false, []⟩, none, none, some ⟨false, []⟩]) k e.1.2.2.1 = roundOf Tryz.prog (TB37_1 c15_1 c99_1) ⟨[], false, some (yieldOf Tryz.prog (TB37_1 c15_1 c99_1) [] 34 noLT (mkEnv 34 [0, 3, 4, 5, 20] (avsOf (encT sh37_1_l2000006.vs d.1))) (rgP rg37_0).toList (rgX rg37_0) (rgY rg37_0) .ret 7), noJn⟩ 19 11 (ltab [(1, X1)]) (mkG sh37_1_r2000006_l1 [0, 1, 3] (outT [(.exit 0, []), (.ret, [])]) (fun e K => l1 e.2.1.2.2.2.1 e.2.1.2.2.2.2.1 e.2.1.2.2.2.2.2.1 e.2.2.1.2.1 e.2.2.2.1.2.1 e.2.2.2.2.1.2.1 e.2.2.2.2.2.1.2.1 e.2.2.2.2.2.2.1.2.1 (fun (y6 : ByteArray) (y8 : Int) (y9 : ByteArray) => K .ret [] [some ⟨e.2.1.1, [.full 1, .full 2, .int .i64 e.2.1.2.2.2.1, .bool e.2.1.2.2.2.2.1, .int .i64 e.2.1.2.2.2.2.2.1]⟩, some ⟨e.2.2.1.1, [.seq .str 0 e.2.2.1.2.1]⟩, some ⟨e.2.2.2.1.1, [.seq (.pair (.int .i64) .str) 0 e.2.2.2.1.2.1]⟩, some ⟨false, [.int .i64 e.2.2.2.2.1.2.1]⟩, some ⟨false, [.str y6]⟩, some ⟨false, [.int .i64 0]⟩, some ⟨false, [.full 2]⟩, none, none, some ⟨false, []⟩, some ⟨false, []⟩, some ⟨false, [.int .i64 y8, .str y9]⟩]) (K (.exit 0) [] [some ⟨e.2.1.1, [.full 1, .full 2, .int .i64 e.2.1.2.2.2.1, .bool e.2.1.2.2.2.2.1, .int .i64 e.2.1.2.2.2.2.2.1]⟩, some ⟨e.2.2.1.1, [.seq .str 0 e.2.2.1.2.1]⟩, some ⟨e.2.2.2.1.1, [.seq (.pair (.int .i64) .str) 0 e.2.2.2.1.2.1]⟩, some ⟨false, [.int .i64 e.2.2.2.2.1.2.1]⟩, some ⟨false, [.str e.2.2.2.2.2.1.2.1]⟩, some ⟨false, [.int .i64 e.2.2.2.2.2.2.1.2.1]⟩, some ⟨false, [.full 2]⟩, some ⟨false, []⟩, none, none, some ⟨false, []⟩]) k e.1.2.2.1) []) ic37_1_2000006_b0 (encT sh37_1_r2000006_l1.vs e.1) (encH sh37_1_r2000006_l1.h e.2) K := by kernel_rfl
theorem LI37_1_2000006_1 (F : Nat) (d : sh37_1_l2000006.den) : LoopOK Tryz.prog (T37_1 F) ⟨[], false, some (yieldOf Tryz.prog (T37_1 F) [] 34 noLT (mkEnv 34 [0, 3, 4, 5, 20] (avsOf (encT sh37_1_l2000006.vs d.1))) (rgP rg37_0).toList (rgX rg37_0) (rgY rg37_0) .ret 7), noJn⟩ 19 11 (it37_1_2000006 F d) (GI37_1_2000006_1 F d F) ic37_1_2000006_b0 :=
  loopOK_of (s := sh37_1_r2000006_l1) (live := [0, 1, 3]) (out := (outT [(.exit 0, []), (.ret, [])])) (mv := []) (fun k e K => f37_1_r2000006_l1 F e.2.1.2.2.2.1 e.2.1.2.2.2.2.1 e.2.1.2.2.2.2.2.1 e.2.2.1.2.1 e.2.2.2.1.2.1 e.2.2.2.2.1.2.1 e.2.2.2.2.2.1.2.1 e.2.2.2.2.2.2.1.2.1 (fun (y6 : ByteArray) (y8 : Int) (y9 : ByteArray) => K .ret [] [some ⟨e.2.1.1, [.full 1, .full 2, .int .i64 e.2.1.2.2.2.1, .bool e.2.1.2.2.2.2.1, .int .i64 e.2.1.2.2.2.2.2.1]⟩, some ⟨e.2.2.1.1, [.seq .str 0 e.2.2.1.2.1]⟩, some ⟨e.2.2.2.1.1, [.seq (.pair (.int .i64) .str) 0 e.2.2.2.1.2.1]⟩, some ⟨false, [.int .i64 e.2.2.2.2.1.2.1]⟩, some ⟨false, [.str y6]⟩, some ⟨false, [.int .i64 0]⟩, some ⟨false, [.full 2]⟩, none, none, some ⟨false, []⟩, some ⟨false, []⟩, some ⟨false, [.int .i64 y8, .str y9]⟩]) (K (.exit 0) [] [some ⟨e.2.1.1, [.full 1, .full 2, .int .i64 e.2.1.2.2.2.1, .bool e.2.1.2.2.2.2.1, .int .i64 e.2.1.2.2.2.2.2.1]⟩, some ⟨e.2.2.1.1, [.seq .str 0 e.2.2.1.2.1]⟩, some ⟨e.2.2.2.1.1, [.seq (.pair (.int .i64) .str) 0 e.2.2.2.1.2.1]⟩, some ⟨false, [.int .i64 e.2.2.2.2.1.2.1]⟩, some ⟨false, [.str e.2.2.2.2.2.1.2.1]⟩, some ⟨false, [.int .i64 e.2.2.2.2.2.2.1.2.1]⟩, some ⟨false, [.full 2]⟩, some ⟨false, []⟩, none, none, some ⟨false, []⟩]) k e.1.2.2.1) F (fun e K => by kernel_rfl) (fun k e K => Eq.mp (by kernel_rfl) (L37_1_r2000006_l1g F k d (f15_1 F) (f99_1 F)  (f37_1_r2000006_l1 F) (GI37_1_2000006_1 F d F) e K))
theorem R37_1_2000006g (F : Nat) (c15_1 : Y15_1) (c99_1 : Y99_1) (l1 : Int → Bool → Int → List ByteArray → List (Int × ByteArray) → Int → ByteArray → Int → (ByteArray → Int → ByteArray → Option Res) → (Option Res) → Nat → Int → Option Res)  (d : sh37_1_l2000006.den) (K : KL) : (fun (v1 : Int) (v2 : Bool) (v3 : Int) (v4 : List ByteArray) (v5 : List (Int × ByteArray)) (v6 : Int) (v7 : ByteArray) (v8 : Int) (K0 : (ByteArray → Int → ByteArray → Option Res)) (K1 : (Option Res)) => l1 v1 v2 v3 v4 v5 v6 v7 v8 (fun x18 x19 x20 => K0 x18 x19 x20) (K1) F (IntKind.i64.wrap (((v5.length : Nat) : Int) - 1))) d.2.1.2.2.2.1 d.2.1.2.2.2.2.1 d.2.1.2.2.2.2.2.1 d.2.2.1.2.1 d.2.2.2.1.2.1 d.2.2.2.2.1.2.1 d.2.2.2.2.2.1.2.1 d.2.2.2.2.2.2.1.2.1 (fun (y6 : ByteArray) (y8 : Int) (y9 : ByteArray) => K .ret [.tv (.lf (.ptr 4 0)), .tv (.lf (.ptr 5 0))] [some ⟨d.2.1.1, [.full 1, .full 2, .int .i64 d.2.1.2.2.2.1, .bool d.2.1.2.2.2.2.1, .int .i64 d.2.1.2.2.2.2.2.1]⟩, some ⟨d.2.2.1.1, [.seq .str 0 d.2.2.1.2.1]⟩, some ⟨d.2.2.2.1.1, [.seq (.pair (.int .i64) .str) 0 d.2.2.2.1.2.1]⟩, some ⟨false, [.int .i64 d.2.2.2.2.1.2.1]⟩, some ⟨false, [.str y6]⟩, some ⟨false, [.int .i64 0]⟩, some ⟨false, [.full 2]⟩, none, none, none, none, some ⟨false, [.int .i64 y8, .str y9]⟩]) (K .normal [.tv (.lf (.ptr 0 0)), .tv (.lf (.ptr 3 0)), .tv (.lf (.ptr 4 0)), .tv (.lf (.ptr 5 0))] [some ⟨d.2.1.1, [.full 1, .full 2, .int .i64 d.2.1.2.2.2.1, .bool d.2.1.2.2.2.2.1, .int .i64 d.2.1.2.2.2.2.2.1]⟩, some ⟨d.2.2.1.1, [.seq .str 0 d.2.2.1.2.1]⟩, some ⟨d.2.2.2.1.1, [.seq (.pair (.int .i64) .str) 0 d.2.2.2.1.2.1]⟩, some ⟨false, [.int .i64 d.2.2.2.2.1.2.1]⟩, some ⟨false, [.str d.2.2.2.2.2.1.2.1]⟩, some ⟨false, [.int .i64 d.2.2.2.2.2.2.1.2.1]⟩, some ⟨false, [.full 2]⟩, none, none, none, none]) = rangeOf Tryz.prog (TB37_1 c15_1 c99_1) (xw []) 34 (mkG sh37_1_l2000006 [0, 3, 4, 5, 20] (outT [(.normal, [0, 3, 4, 5]), (.ret, [4, 5])]) (fun d K => none)) (rgG rg37_0) (rgP rg37_0).toList (rgX rg37_0) (rgY rg37_0) ⟨152, ic37_1_2000006, 19, (ltab [(1, mkG sh37_1_r2000006_l1 [0, 1, 3] (outT [(.exit 0, []), (.ret, [])]) (fun e K => l1 e.2.1.2.2.2.1 e.2.1.2.2.2.2.1 e.2.1.2.2.2.2.2.1 e.2.2.1.2.1 e.2.2.2.1.2.1 e.2.2.2.2.1.2.1 e.2.2.2.2.2.1.2.1 e.2.2.2.2.2.2.1.2.1 (fun (y6 : ByteArray) (y8 : Int) (y9 : ByteArray) => K .ret [] [some ⟨e.2.1.1, [.full 1, .full 2, .int .i64 e.2.1.2.2.2.1, .bool e.2.1.2.2.2.2.1, .int .i64 e.2.1.2.2.2.2.2.1]⟩, some ⟨e.2.2.1.1, [.seq .str 0 e.2.2.1.2.1]⟩, some ⟨e.2.2.2.1.1, [.seq (.pair (.int .i64) .str) 0 e.2.2.2.1.2.1]⟩, some ⟨false, [.int .i64 e.2.2.2.2.1.2.1]⟩, some ⟨false, [.str y6]⟩, some ⟨false, [.int .i64 0]⟩, some ⟨false, [.full 2]⟩, none, none, some ⟨false, []⟩, some ⟨false, []⟩, some ⟨false, [.int .i64 y8, .str y9]⟩]) (K (.exit 0) [] [some ⟨e.2.1.1, [.full 1, .full 2, .int .i64 e.2.1.2.2.2.1, .bool e.2.1.2.2.2.2.1, .int .i64 e.2.1.2.2.2.2.2.1]⟩, some ⟨e.2.2.1.1, [.seq .str 0 e.2.2.1.2.1]⟩, some ⟨e.2.2.2.1.1, [.seq (.pair (.int .i64) .str) 0 e.2.2.2.1.2.1]⟩, some ⟨false, [.int .i64 e.2.2.2.2.1.2.1]⟩, some ⟨false, [.str e.2.2.2.2.2.1.2.1]⟩, some ⟨false, [.int .i64 e.2.2.2.2.2.2.1.2.1]⟩, some ⟨false, [.full 2]⟩, some ⟨false, []⟩, none, none, some ⟨false, []⟩]) F e.1.2.2.1) [])]), []⟩ noLT .ret (encT sh37_1_l2000006.vs d.1) (encH sh37_1_l2000006.h d.2) K := by kernel_rfl
theorem R37_1_2000006 (F : Nat) : RangeOK Tryz.prog (xw []) 34 3 (G37_1_2000006 F F) (.rangeFunc (rgG rg37_0) (rgP rg37_0) (rgX rg37_0) (rgY rg37_0)) :=
  rangeOK_of (X := (xw [])) (jump := .ret) (fun h => by cases h) rfl rfl (by kernel_rfl) (tab_cons (S15_1_ok F _ (noS_sound enter15)) (tab_cons (S99_1_ok F _ (noS_sound enter99)) tab_nil)) (s := sh37_1_l2000006) (live := [0, 3, 4, 5, 20]) (out := (outT [(.normal, [0, 3, 4, 5]), (.ret, [4, 5])])) (fun d K => f37_1_r2000006 F d.2.1.2.2.2.1 d.2.1.2.2.2.2.1 d.2.1.2.2.2.2.2.1 d.2.2.1.2.1 d.2.2.2.1.2.1 d.2.2.2.2.1.2.1 d.2.2.2.2.2.1.2.1 d.2.2.2.2.2.2.1.2.1 (fun (y6 : ByteArray) (y8 : Int) (y9 : ByteArray) => K .ret [.tv (.lf (.ptr 4 0)), .tv (.lf (.ptr 5 0))] [some ⟨d.2.1.1, [.full 1, .full 2, .int .i64 d.2.1.2.2.2.1, .bool d.2.1.2.2.2.2.1, .int .i64 d.2.1.2.2.2.2.2.1]⟩, some ⟨d.2.2.1.1, [.seq .str 0 d.2.2.1.2.1]⟩, some ⟨d.2.2.2.1.1, [.seq (.pair (.int .i64) .str) 0 d.2.2.2.1.2.1]⟩, some ⟨false, [.int .i64 d.2.2.2.2.1.2.1]⟩, some ⟨false, [.str y6]⟩, some ⟨false, [.int .i64 0]⟩, some ⟨false, [.full 2]⟩, none, none, none, none, some ⟨false, [.int .i64 y8, .str y9]⟩]) (K .normal [.tv (.lf (.ptr 0 0)), .tv (.lf (.ptr 3 0)), .tv (.lf (.ptr 4 0)), .tv (.lf (.ptr 5 0))] [some ⟨d.2.1.1, [.full 1, .full 2, .int .i64 d.2.1.2.2.2.1, .bool d.2.1.2.2.2.2.1, .int .i64 d.2.1.2.2.2.2.2.1]⟩, some ⟨d.2.2.1.1, [.seq .str 0 d.2.2.1.2.1]⟩, some ⟨d.2.2.2.1.1, [.seq (.pair (.int .i64) .str) 0 d.2.2.2.1.2.1]⟩, some ⟨false, [.int .i64 d.2.2.2.2.1.2.1]⟩, some ⟨false, [.str d.2.2.2.2.2.1.2.1]⟩, some ⟨false, [.int .i64 d.2.2.2.2.2.2.1.2.1]⟩, some ⟨false, [.full 2]⟩, none, none, none, none])) (it37_1_2000006 F) (f := 152) (fn := Tryz.f152) (c := ic37_1_2000006) (wrI := []) (enter_of (fn := Tryz.f152) (by kernel_rfl) (by kernel_rfl) (by kernel_rfl)) (by kernel_rfl) (by kernel_rfl) (by kernel_rfl) (fun d K => Eq.mp (by kernel_rfl) (R37_1_2000006g F (f15_1 F) (f99_1 F) (f37_1_r2000006_l1 F)  d K)) (fun d => by rw [ic37_1_2000006_loops]; exact (loopsOK_cons (by kernel_rfl) (LI37_1_2000006_1 F d) loopsOK_nil)) (fun d => by rw [ic37_1_2000006_scopes]; exact scopesOK_nil) (by kernel_rfl)
theorem E37_1g (F : Nat) (c15_1 : Y15_1) (c99_1 : Y99_1) (l2000006 : Int → Bool → Int → List ByteArray → List (Int × ByteArray) → Int → ByteArray → Int → (ByteArray → Int → ByteArray → Option Res) → (Option Res) → Option Res)  (d : sh37_1.den) (K : KF) : evBody Tryz.prog (TB37_1 c15_1 c99_1) (xw []) 34 3 (ltab [(2000006, mkG sh37_1_l2000006 [0, 3, 4, 5, 20] (outT [(.normal, [0, 3, 4, 5]), (.ret, [4, 5])]) (fun d K => l2000006 d.2.1.2.2.2.1 d.2.1.2.2.2.2.1 d.2.1.2.2.2.2.2.1 d.2.2.1.2.1 d.2.2.2.1.2.1 d.2.2.2.2.1.2.1 d.2.2.2.2.2.1.2.1 d.2.2.2.2.2.2.1.2.1 (fun (y6 : ByteArray) (y8 : Int) (y9 : ByteArray) => K .ret [.tv (.lf (.ptr 4 0)), .tv (.lf (.ptr 5 0))] [some ⟨d.2.1.1, [.full 1, .full 2, .int .i64 d.2.1.2.2.2.1, .bool d.2.1.2.2.2.2.1, .int .i64 d.2.1.2.2.2.2.2.1]⟩, some ⟨d.2.2.1.1, [.seq .str 0 d.2.2.1.2.1]⟩, some ⟨d.2.2.2.1.1, [.seq (.pair (.int .i64) .str) 0 d.2.2.2.1.2.1]⟩, some ⟨false, [.int .i64 d.2.2.2.2.1.2.1]⟩, some ⟨false, [.str y6]⟩, some ⟨false, [.int .i64 0]⟩, some ⟨false, [.full 2]⟩, none, none, none, none, some ⟨false, [.int .i64 y8, .str y9]⟩]) (K .normal [.tv (.lf (.ptr 0 0)), .tv (.lf (.ptr 3 0)), .tv (.lf (.ptr 4 0)), .tv (.lf (.ptr 5 0))] [some ⟨d.2.1.1, [.full 1, .full 2, .int .i64 d.2.1.2.2.2.1, .bool d.2.1.2.2.2.2.1, .int .i64 d.2.1.2.2.2.2.2.1]⟩, some ⟨d.2.2.1.1, [.seq .str 0 d.2.2.1.2.1]⟩, some ⟨d.2.2.2.1.1, [.seq (.pair (.int .i64) .str) 0 d.2.2.2.1.2.1]⟩, some ⟨false, [.int .i64 d.2.2.2.2.1.2.1]⟩, some ⟨false, [.str d.2.2.2.2.2.1.2.1]⟩, some ⟨false, [.int .i64 d.2.2.2.2.2.2.1.2.1]⟩, some ⟨false, [.full 2]⟩, none, none, none, none])) [])]) [] false code37 Tryz.f37.results.toList (encT sh37_1.vs d.1) (encH sh37_1.h d.2) K = A37_1 (fun (a1 : Int) (a2 : Int) (a3 : Bool) (a4 : Int) (a5 : List ByteArray) (a6 : List (Int × ByteArray)) (K0 : (ByteArray → Int → Option Res)) => cond a3 (K0 ByteArray.empty 5) (c99_1 a6 (l2000006 a2 a3 a4 a5 a6 a1 ByteArray.empty 0 (fun x21 x22 x23 => K0 x21 0) (c15_1 a1 a2 a3 a4 a5 a6 (fun x24 x25 => K0 x24 x25) ) ) )) d K := by kernel_rfl
theorem E37_1 (F : Nat) (d : sh37_1.den) (K : KF) : evBody Tryz.prog (T37_1 F) (xw []) 34 3 (LT37_1 F) [] false code37 Tryz.f37.results.toList (encT sh37_1.vs d.1) (encH sh37_1.h d.2) K = A37_1 (f37_1 F) d K := Eq.mp (by kernel_rfl) (E37_1g F (f15_1 F) (f99_1 F) (f37_1_r2000006 F)  d K)
theorem S37_1_ok (F : Nat) (o : Summ) (ho : SoundFn Tryz.prog 37 o) : SoundFn Tryz.prog 37 (S37_1 F o) :=
  soundFn_of (fn := Tryz.f37) (c := code37) rfl rfl (by kernel_rfl) (tab_cons (S15_1_ok F _ (noS_sound enter15)) (tab_cons (S99_1_ok F _ (noS_sound enter99)) tab_nil)) (by kernel_rfl) (by kernel_rfl) ho (by rw [loops37]; exact loopsOK_nil) (by rw [scopes37]; exact scopesOK_nil) (by rw [ranges37]; exact (rangesOK_cons (by kernel_rfl) (R37_1_2000006 F) rangesOK_nil))  (E37_1 F)
end Go.Proofs.YtlgopekjjkdkiaaGreatDoor.X
end

section
namespace Go.Proofs.YtlgopekjjkdkiaaGreatDoor.X
open Go Go.Proofs.YtlgopekjjkdkiaaGreatDoor.Ev Go.Proofs
set_option linter.unusedVariables false
set_option linter.unusedSectionVars false
/-! geom.within -/
noncomputable def f144_1 {β : Type} (F : Nat) (a1 : Int) (a2 : Int) (a3 : Int) (K0 : Bool → Option β) : Option β := cond (decide (a1 ≥ a2)) (K0 (decide (a1 ≤ a3))) (K0 false)
variable [FZ]
def sh144_1 : Sh := ⟨[.lf (.int .i64), .lf (.int .i64), .lf (.int .i64)], []⟩
abbrev Y144_1 := Int → Int → Int → (Bool → Option Res) → Option Res
noncomputable def A144_1 (g : Y144_1) (d : sh144_1.den) (K : KF) : Option Res := g d.1.1 d.1.2.1 d.1.2.2.1 (fun (y0 : Bool) => K [.lf (.bool y0)] [])
noncomputable def S144_1 (F : Nat) (o : Summ) : Summ := mkS sh144_1 (fun d K => A144_1 (f144_1 F) d K) o
noncomputable def code144 : Code := bodyOf Tryz.f144
theorem scopes144 : scopesOf code144 = [] := by kernel_rfl
theorem ranges144 : rangesOf code144 = [] := by kernel_rfl
theorem loops144 : loopsOf code144 = [] := by kernel_rfl
theorem enter144 : ∀ args w, (callFunc 144 args).run Tryz.prog w = .ok (.enter 144 args) w := enter_of (fn := Tryz.f144) (by kernel_rfl) (by kernel_rfl) (by kernel_rfl)
noncomputable def T144_1 (F : Nat) : FuncId → Option Summ := tab []
noncomputable def TB144_1  : FuncId → Option Summ := tab []
noncomputable def LT144_1 (F : Nat) : Nat → Option LoopS := ltab []
theorem E144_1g (F : Nat)    (d : sh144_1.den) (K : KF) : evBody Tryz.prog TB144_1 (xw []) 15 0 (ltab []) [] false code144 Tryz.f144.results.toList (encT sh144_1.vs d.1) (encH sh144_1.h d.2) K = A144_1 (fun (a1 : Int) (a2 : Int) (a3 : Int) (K0 : (Bool → Option Res)) => cond (decide (a1 ≥ a2)) (K0 (decide (a1 ≤ a3))) (K0 false)) d K := by kernel_rfl
theorem E144_1 (F : Nat) (d : sh144_1.den) (K : KF) : evBody Tryz.prog (T144_1 F) (xw []) 15 0 (LT144_1 F) [] false code144 Tryz.f144.results.toList (encT sh144_1.vs d.1) (encH sh144_1.h d.2) K = A144_1 (f144_1 F) d K := Eq.mp (by kernel_rfl) (E144_1g F    d K)
theorem S144_1_ok (F : Nat) (o : Summ) (ho : SoundFn Tryz.prog 144 o) : SoundFn Tryz.prog 144 (S144_1 F o) :=
  soundFn_of (fn := Tryz.f144) (c := code144) rfl rfl (by kernel_rfl) tab_nil (by kernel_rfl) (by kernel_rfl) ho (by rw [loops144]; exact loopsOK_nil) (by rw [scopes144]; exact scopesOK_nil) (by rw [ranges144]; exact rangesOK_nil)  (E144_1 F)
end Go.Proofs.YtlgopekjjkdkiaaGreatDoor.X
end

section
namespace Go.Proofs.YtlgopekjjkdkiaaGreatDoor.X
open Go Go.Proofs.YtlgopekjjkdkiaaGreatDoor.Ev Go.Proofs
set_option linter.unusedVariables false
set_option linter.unusedSectionVars false
/-! geom.Right -/
noncomputable def f90_1 {β : Type} (F : Nat) (a1 : Int) (a2 : Int) (a3 : Int) (a4 : Int) (K0 : Bool → Option β) : Option β := f144_1 F a1 1 128 (fun x1 => cond x1 (f144_1 F a2 2 4 (fun x2 => cond x2 (f144_1 F a3 0 64 (fun x3 => cond x3 (f144_1 F a4 1 320 (fun x4 => K0 x4) ) (K0 false)) ) (K0 false)) ) (K0 false)) 
variable [FZ]
def sh90_1 : Sh := ⟨[.agg [.int .i64, .int .i64, .int .i64, .int .i64]], []⟩
abbrev Y90_1 := Int → Int → Int → Int → (Bool → Option Res) → Option Res
noncomputable def A90_1 (g : Y90_1) (d : sh90_1.den) (K : KF) : Option Res := g d.1.1.1 d.1.1.2.1 d.1.1.2.2.1 d.1.1.2.2.2.1 (fun (y0 : Bool) => K [.lf (.bool y0)] [])
noncomputable def S90_1 (F : Nat) (o : Summ) : Summ := mkS sh90_1 (fun d K => A90_1 (f90_1 F) d K) o
noncomputable def code90 : Code := bodyOf Tryz.f90
theorem scopes90 : scopesOf code90 = [] := by kernel_rfl
theorem ranges90 : rangesOf code90 = [] := by kernel_rfl
theorem loops90 : loopsOf code90 = [] := by kernel_rfl
theorem enter90 : ∀ args w, (callFunc 90 args).run Tryz.prog w = .ok (.enter 90 args) w := enter_of (fn := Tryz.f90) (by kernel_rfl) (by kernel_rfl) (by kernel_rfl)
noncomputable def T90_1 (F : Nat) : FuncId → Option Summ := tab [(144, (S144_1 F noS))]
noncomputable def TB90_1 (c144_1 : Y144_1) : FuncId → Option Summ := tab [(144, (mkS sh144_1 (fun d K => A144_1 c144_1 d K) noS))]
noncomputable def LT90_1 (F : Nat) : Nat → Option LoopS := ltab []
theorem E90_1g (F : Nat) (c144_1 : Y144_1)   (d : sh90_1.den) (K : KF) : evBody Tryz.prog (TB90_1 c144_1) (xw []) 21 0 (ltab []) [] false code90 Tryz.f90.results.toList (encT sh90_1.vs d.1) (encH sh90_1.h d.2) K = A90_1 (fun (a1 : Int) (a2 : Int) (a3 : Int) (a4 : Int) (K0 : (Bool → Option Res)) => c144_1 a1 1 128 (fun x1 => cond x1 (c144_1 a2 2 4 (fun x2 => cond x2 (c144_1 a3 0 64 (fun x3 => cond x3 (c144_1 a4 1 320 (fun x4 => K0 x4) ) (K0 false)) ) (K0 false)) ) (K0 false)) ) d K := by kernel_rfl
theorem E90_1 (F : Nat) (d : sh90_1.den) (K : KF) : evBody Tryz.prog (T90_1 F) (xw []) 21 0 (LT90_1 F) [] false code90 Tryz.f90.results.toList (encT sh90_1.vs d.1) (encH sh90_1.h d.2) K = A90_1 (f90_1 F) d K := Eq.mp (by kernel_rfl) (E90_1g F (f144_1 F)   d K)
theorem S90_1_ok (F : Nat) (o : Summ) (ho : SoundFn Tryz.prog 90 o) : SoundFn Tryz.prog 90 (S90_1 F o) :=
  soundFn_of (fn := Tryz.f90) (c := code90) rfl rfl (by kernel_rfl) (tab_cons (S144_1_ok F _ (noS_sound enter144)) tab_nil) (by kernel_rfl) (by kernel_rfl) ho (by rw [loops90]; exact loopsOK_nil) (by rw [scopes90]; exact scopesOK_nil) (by rw [ranges90]; exact rangesOK_nil)  (E90_1 F)
end Go.Proofs.YtlgopekjjkdkiaaGreatDoor.X
end

section
namespace Go.Proofs.YtlgopekjjkdkiaaGreatDoor.X
open Go Go.Proofs.YtlgopekjjkdkiaaGreatDoor.Ev Go.Proofs
set_option linter.unusedVariables false
set_option linter.unusedSectionVars false
/-! geom.Levels -/
noncomputable def f164_1_l5 {β : Type} (F : Nat) (v3 : Int) (v4 : Int) (v5 : Int) (v6 : Int) (K0 : List Int → Option β) : Nat → Int → List Int → Option β
  | 0, _, _ => none
  | k + 1, v2, v7 => cond (decide (v2 > 1)) (cond (decide (v4 = 0)) none (cond (decide ((v7.length + 1) * 8 ≤ 70368744177664)) (f164_1_l5 F v3 v4 v5 v6 K0 k (IntKind.i64.wrap ((IntKind.i64.wrap ((IntKind.i64.wrap (v2 + v4)) - 1)).tdiv v4)) (v7 ++ [IntKind.i64.wrap ((IntKind.i64.wrap ((IntKind.i64.wrap (v2 + v4)) - 1)).tdiv v4)])) none)) (K0 v7)
noncomputable def f164_1 {β : Type} (F : Nat) (a1 : Int) (a2 : Int) (a3 : Int) (a4 : Int) (K0 : List Int → Option β) : Option β := f90_1 F a1 a2 a3 a4 (fun x1 => cond (!x1) (K0 []) (f164_1_l5 F a1 a2 a3 a4 (fun x8 => K0 x8) F a1 [a1])) 
variable [FZ]
def sh164_1 : Sh := ⟨[.agg [.int .i64, .int .i64, .int .i64, .int .i64]], []⟩
abbrev Y164_1 := Int → Int → Int → Int → (List Int → Option Res) → Option Res
noncomputable def A164_1 (g : Y164_1) (d : sh164_1.den) (K : KF) : Option Res := g d.1.1.1 d.1.1.2.1 d.1.1.2.2.1 d.1.1.2.2.2.1 (fun (y0 : List Int) => K [.lf (.full 0)] [some ⟨false, [.seq (.int .i64) 0 y0]⟩])
noncomputable def S164_1 (F : Nat) (o : Summ) : Summ := mkS sh164_1 (fun d K => A164_1 (f164_1 F) d K) o
noncomputable def code164 : Code := bodyOf Tryz.f164
noncomputable def b164_0 : Code := cB (cB (cR (cL (cR (cR (cR (code164)))))))
theorem scopes164 : scopesOf code164 = [] := by kernel_rfl
theorem ranges164 : rangesOf code164 = [] := by kernel_rfl
theorem loops164 : loopsOf code164 = [b164_0] := by kernel_rfl
theorem enter164 : ∀ args w, (callFunc 164 args).run Tryz.prog w = .ok (.enter 164 args) w := enter_of (fn := Tryz.f164) (by kernel_rfl) (by kernel_rfl) (by kernel_rfl)
noncomputable def T164_1 (F : Nat) : FuncId → Option Summ := tab [(90, (S90_1 F noS))]
noncomputable def TB164_1 (c90_1 : Y90_1) : FuncId → Option Summ := tab [(90, (mkS sh90_1 (fun d K => A90_1 c90_1 d K) noS))]
def sh164_1_l5 : Sh := ⟨[.lf (.ptr 0 0), .lf (.full 1), .lf (.int .i64)], [some ⟨some false, [.int .i64, .int .i64, .int .i64, .int .i64]⟩, some ⟨some false, [.seq (.int .i64) 0]⟩]⟩
abbrev Y164_1_l5 := Int → Int → Int → Int → (List Int → Option Res) → Nat → Int → List Int → Option Res
noncomputable def A164_1_l5 (g : Y164_1_l5) (k : Nat) (d : sh164_1_l5.den) (K : KL) : Option Res := g d.2.1.2.1 d.2.1.2.2.1 d.2.1.2.2.2.1 d.2.1.2.2.2.2.1 (fun (y4 : List Int) => K (.exit 0) [.tv (.lf (.full 1))] [some ⟨false, [.int .i64 d.2.1.2.1, .int .i64 d.2.1.2.2.1, .int .i64 d.2.1.2.2.2.1, .int .i64 d.2.1.2.2.2.2.1]⟩, some ⟨false, [.seq (.int .i64) 0 y4]⟩]) k d.1.2.2.1 d.2.2.1.2.1
noncomputable def G164_1_5 (F k : Nat) : LoopS := mkG sh164_1_l5 [1, 3, 4] (outT [(.exit 0, [3])]) (fun d K => A164_1_l5 (f164_1_l5 F) k d K) []
noncomputable def LT164_1 (F : Nat) : Nat → Option LoopS := ltab [(5, G164_1_5 F F)]
theorem L164_1_l5g (F k : Nat) (c90_1 : Y90_1)  (l5 : Y164_1_l5) (X5 : LoopS) (d : sh164_1_l5.den) (K : KL) : A164_1_l5 ((fun (v3 : Int) (v4 : Int) (v5 : Int) (v6 : Int) (K0 : (List Int → Option Res)) (k : Nat) (v2 : Int) (v7 : List Int) => cond (decide (v2 > 1)) (cond (decide (v4 = 0)) none (cond (decide ((v7.length + 1) * 8 ≤ 70368744177664)) (l5 v3 v4 v5 v6 K0 k (IntKind.i64.wrap ((IntKind.i64.wrap ((IntKind.i64.wrap (v2 + v4)) - 1)).tdiv v4)) (v7 ++ [IntKind.i64.wrap ((IntKind.i64.wrap ((IntKind.i64.wrap (v2 + v4)) - 1)).tdiv v4)])) none)) (K0 v7))) k d K = roundOf Tryz.prog (TB164_1 c90_1) (xw []) 28 0 (ltab [(5, X5)]) (mkG sh164_1_l5 [1, 3, 4] (outT [(.exit 0, [3])]) (fun d K => A164_1_l5 l5 k d K) []) b164_0 (encT sh164_1_l5.vs d.1) (encH sh164_1_l5.h d.2) K := by kernel_rfl
theorem L164_1_5 (F : Nat) : LoopOK Tryz.prog (T164_1 F) (xw []) 28 0 (LT164_1 F) (G164_1_5 F F) b164_0 :=
  loopOK_of (s := sh164_1_l5) (live := [1, 3, 4]) (out := (outT [(.exit 0, [3])])) (mv := []) (fun k d K => A164_1_l5 (f164_1_l5 F) k d K) F (fun d K => by kernel_rfl)  (fun k d K => Eq.mp (by kernel_rfl) (L164_1_l5g F k (f90_1 F)  (f164_1_l5 F) (G164_1_5 F F) d K))
theorem E164_1g (F : Nat) (c90_1 : Y90_1) (l5 : Y164_1_l5)  (d : sh164_1.den) (K : KF) : evBody Tryz.prog (TB164_1 c90_1) (xw []) 28 0 (ltab [(5, mkG sh164_1_l5 [1, 3, 4] (outT [(.exit 0, [3])]) (fun d K => A164_1_l5 l5 F d K) [])]) [] false code164 Tryz.f164.results.toList (encT sh164_1.vs d.1) (encH sh164_1.h d.2) K = A164_1 (fun (a1 : Int) (a2 : Int) (a3 : Int) (a4 : Int) (K0 : (List Int → Option Res)) => c90_1 a1 a2 a3 a4 (fun x1 => cond (!x1) (K0 []) (l5 a1 a2 a3 a4 (fun x8 => K0 x8) F a1 [a1])) ) d K := by kernel_rfl
theorem E164_1 (F : Nat) (d : sh164_1.den) (K : KF) : evBody Tryz.prog (T164_1 F) (xw []) 28 0 (LT164_1 F) [] false code164 Tryz.f164.results.toList (encT sh164_1.vs d.1) (encH sh164_1.h d.2) K = A164_1 (f164_1 F) d K := Eq.mp (by kernel_rfl) (E164_1g F (f90_1 F) (f164_1_l5 F)  d K)
theorem S164_1_ok (F : Nat) (o : Summ) (ho : SoundFn Tryz.prog 164 o) : SoundFn Tryz.prog 164 (S164_1 F o) :=
  soundFn_of (fn := Tryz.f164) (c := code164) rfl rfl (by kernel_rfl) (tab_cons (S90_1_ok F _ (noS_sound enter90)) tab_nil) (by kernel_rfl) (by kernel_rfl) ho (by rw [loops164]; exact (loopsOK_cons (by kernel_rfl) (L164_1_5 F) loopsOK_nil)) (by rw [scopes164]; exact scopesOK_nil) (by rw [ranges164]; exact rangesOK_nil)  (E164_1 F)
end Go.Proofs.YtlgopekjjkdkiaaGreatDoor.X
end

section
namespace Go.Proofs.YtlgopekjjkdkiaaGreatDoor.X
open Go Go.Proofs.YtlgopekjjkdkiaaGreatDoor.Ev Go.Proofs
set_option linter.unusedVariables false
set_option linter.unusedSectionVars false
/-! geom.Nodes -/
noncomputable def f111_1_l3 {β : Type} (F : Nat) (v3 : Int) (v5 : List Int) (K0 : Int → Option β) : Nat → Int → Int → Option β
  | 0, _, _ => none
  | k + 1, v2, v4 => cond (decide (v4 < v3)) (cond (decide ((0 : Int) ≤ v4 ∧ v4 < ((v5.length : Nat) : Int))) (cond (decide (0 + v4.toNat < v5.length)) (f111_1_l3 F v3 v5 K0 k (IntKind.i64.wrap (v2 + (v5.getD (0 + v4.toNat) 0))) (IntKind.i64.wrap (v4 + 1))) none) none) (K0 v2)
noncomputable def f111_1 {β : Type} (F : Nat) (a1 : Int) (a2 : Int) (a3 : Int) (a4 : Int) (K0 : Int → Option β) : Option β := f164_1 F a1 a2 a3 a4 (fun x1 => f111_1_l3 F ((x1.length : Nat) : Int) x1 (fun x6 => K0 x6) F 0 0) 
variable [FZ]
def sh111_1 : Sh := ⟨[.agg [.int .i64, .int .i64, .int .i64, .int .i64]], []⟩
abbrev Y111_1 := Int → Int → Int → Int → (Int → Option Res) → Option Res
noncomputable def A111_1 (g : Y111_1) (d : sh111_1.den) (K : KF) : Option Res := g d.1.1.1 d.1.1.2.1 d.1.1.2.2.1 d.1.1.2.2.2.1 (fun (y0 : Int) => K [.lf (.int .i64 y0)] [])
noncomputable def S111_1 (F : Nat) (o : Summ) : Summ := mkS sh111_1 (fun d K => A111_1 (f111_1 F) d K) o
noncomputable def code111 : Code := bodyOf Tryz.f111
noncomputable def b111_0 : Code := cB (cB (cR (cL (cR (cR (code111))))))
theorem scopes111 : scopesOf code111 = [] := by kernel_rfl
theorem ranges111 : rangesOf code111 = [] := by kernel_rfl
theorem loops111 : loopsOf code111 = [b111_0] := by kernel_rfl
theorem enter111 : ∀ args w, (callFunc 111 args).run Tryz.prog w = .ok (.enter 111 args) w := enter_of (fn := Tryz.f111) (by kernel_rfl) (by kernel_rfl) (by kernel_rfl)
noncomputable def T111_1 (F : Nat) : FuncId → Option Summ := tab [(164, (S164_1 F noS))]
noncomputable def TB111_1 (c164_1 : Y164_1) : FuncId → Option Summ := tab [(164, (mkS sh164_1 (fun d K => A164_1 c164_1 d K) noS))]
def sh111_1_l3 : Sh := ⟨[.lf (.int .i64), .lf (.full 0), .lf (.int .i64), .lf (.int .i64)], [some ⟨some false, [.seq (.int .i64) 0]⟩]⟩
abbrev Y111_1_l3 := Int → List Int → (Int → Option Res) → Nat → Int → Int → Option Res
noncomputable def A111_1_l3 (g : Y111_1_l3) (k : Nat) (d : sh111_1_l3.den) (K : KL) : Option Res := g d.1.2.2.1 d.2.1.2.1 (fun (y0 : Int) => K (.exit 0) [.tv (.lf (.int .i64 y0))] [some ⟨false, [.seq (.int .i64) 0 d.2.1.2.1]⟩]) k d.1.1 d.1.2.2.2.1
noncomputable def G111_1_3 (F k : Nat) : LoopS := mkG sh111_1_l3 [3, 7, 8, 9] (outT [(.exit 0, [3])]) (fun d K => A111_1_l3 (f111_1_l3 F) k d K) []
noncomputable def LT111_1 (F : Nat) : Nat → Option LoopS := ltab [(3, G111_1_3 F F)]
theorem L111_1_l3g (F k : Nat) (c164_1 : Y164_1)  (l3 : Y111_1_l3) (X3 : LoopS) (d : sh111_1_l3.den) (K : KL) : A111_1_l3 ((fun (v3 : Int) (v5 : List Int) (K0 : (Int → Option Res)) (k : Nat) (v2 : Int) (v4 : Int) => cond (decide (v4 < v3)) (cond (decide ((0 : Int) ≤ v4 ∧ v4 < ((v5.length : Nat) : Int))) (cond (decide (0 + v4.toNat < v5.length)) (l3 v3 v5 K0 k (IntKind.i64.wrap (v2 + (v5.getD (0 + v4.toNat) 0))) (IntKind.i64.wrap (v4 + 1))) none) none) (K0 v2))) k d K = roundOf Tryz.prog (TB111_1 c164_1) (xw []) 18 0 (ltab [(3, X3)]) (mkG sh111_1_l3 [3, 7, 8, 9] (outT [(.exit 0, [3])]) (fun d K => A111_1_l3 l3 k d K) []) b111_0 (encT sh111_1_l3.vs d.1) (encH sh111_1_l3.h d.2) K := by kernel_rfl
theorem L111_1_3 (F : Nat) : LoopOK Tryz.prog (T111_1 F) (xw []) 18 0 (LT111_1 F) (G111_1_3 F F) b111_0 :=
  loopOK_of (s := sh111_1_l3) (live := [3, 7, 8, 9]) (out := (outT [(.exit 0, [3])])) (mv := []) (fun k d K => A111_1_l3 (f111_1_l3 F) k d K) F (fun d K => by kernel_rfl)  (fun k d K => Eq.mp (by kernel_rfl) (L111_1_l3g F k (f164_1 F)  (f111_1_l3 F) (G111_1_3 F F) d K))
theorem E111_1g (F : Nat) (c164_1 : Y164_1) (l3 : Y111_1_l3)  (d : sh111_1.den) (K : KF) : evBody Tryz.prog (TB111_1 c164_1) (xw []) 18 0 (ltab [(3, mkG sh111_1_l3 [3, 7, 8, 9] (outT [(.exit 0, [3])]) (fun d K => A111_1_l3 l3 F d K) [])]) [] false code111 Tryz.f111.results.toList (encT sh111_1.vs d.1) (encH sh111_1.h d.2) K = A111_1 (fun (a1 : Int) (a2 : Int) (a3 : Int) (a4 : Int) (K0 : (Int → Option Res)) => c164_1 a1 a2 a3 a4 (fun x1 => l3 ((x1.length : Nat) : Int) x1 (fun x6 => K0 x6) F 0 0) ) d K := by kernel_rfl
theorem E111_1 (F : Nat) (d : sh111_1.den) (K : KF) : evBody Tryz.prog (T111_1 F) (xw []) 18 0 (LT111_1 F) [] false code111 Tryz.f111.results.toList (encT sh111_1.vs d.1) (encH sh111_1.h d.2) K = A111_1 (f111_1 F) d K := Eq.mp (by kernel_rfl) (E111_1g F (f164_1 F) (f111_1_l3 F)  d K)
theorem S111_1_ok (F : Nat) (o : Summ) (ho : SoundFn Tryz.prog 111 o) : SoundFn Tryz.prog 111 (S111_1 F o) :=
  soundFn_of (fn := Tryz.f111) (c := code111) rfl rfl (by kernel_rfl) (tab_cons (S164_1_ok F _ (noS_sound enter164)) tab_nil) (by kernel_rfl) (by kernel_rfl) ho (by rw [loops111]; exact (loopsOK_cons (by kernel_rfl) (L111_1_3 F) loopsOK_nil)) (by rw [scopes111]; exact scopesOK_nil) (by rw [ranges111]; exact rangesOK_nil)  (E111_1 F)
end Go.Proofs.YtlgopekjjkdkiaaGreatDoor.X
end

section
namespace Go.Proofs.YtlgopekjjkdkiaaGreatDoor.X
open Go Go.Proofs.YtlgopekjjkdkiaaGreatDoor.Ev Go.Proofs
set_option linter.unusedVariables false
set_option linter.unusedSectionVars false
/-! undo.may -/
noncomputable def f91_1 {β : Type} (F : Nat) (a1 : Int) (a2 : Int) (a3 : Int) (a4 : Int) (a5 : Int) (K0 : Bool → Option β) : Option β := cond (decide (a5 ≥ 6)) (f111_1 F a1 a2 a3 a4 (fun x1 => K0 (decide (a5 < IntKind.i64.wrap ((IntKind.i64.wrap (6 + a1)) + x1)))) ) (K0 false)
variable [FZ]
def sh91_1 : Sh := ⟨[.agg [.int .i64, .int .i64, .int .i64, .int .i64], .lf (.int .i64)], []⟩
abbrev Y91_1 := Int → Int → Int → Int → Int → (Bool → Option Res) → Option Res
noncomputable def A91_1 (g : Y91_1) (d : sh91_1.den) (K : KF) : Option Res := g d.1.1.1 d.1.1.2.1 d.1.1.2.2.1 d.1.1.2.2.2.1 d.1.2.1 (fun (y0 : Bool) => K [.lf (.bool y0)] [])
noncomputable def S91_1 (F : Nat) (o : Summ) : Summ := mkS sh91_1 (fun d K => A91_1 (f91_1 F) d K) o
noncomputable def code91 : Code := bodyOf Tryz.f91
theorem scopes91 : scopesOf code91 = [] := by kernel_rfl
theorem ranges91 : rangesOf code91 = [] := by kernel_rfl
theorem loops91 : loopsOf code91 = [] := by kernel_rfl
theorem enter91 : ∀ args w, (callFunc 91 args).run Tryz.prog w = .ok (.enter 91 args) w := enter_of (fn := Tryz.f91) (by kernel_rfl) (by kernel_rfl) (by kernel_rfl)
noncomputable def T91_1 (F : Nat) : FuncId → Option Summ := tab [(111, (S111_1 F noS))]
noncomputable def TB91_1 (c111_1 : Y111_1) : FuncId → Option Summ := tab [(111, (mkS sh111_1 (fun d K => A111_1 c111_1 d K) noS))]
noncomputable def LT91_1 (F : Nat) : Nat → Option LoopS := ltab []
theorem E91_1g (F : Nat) (c111_1 : Y111_1)   (d : sh91_1.den) (K : KF) : evBody Tryz.prog (TB91_1 c111_1) (xw []) 17 0 (ltab []) [] false code91 Tryz.f91.results.toList (encT sh91_1.vs d.1) (encH sh91_1.h d.2) K = A91_1 (fun (a1 : Int) (a2 : Int) (a3 : Int) (a4 : Int) (a5 : Int) (K0 : (Bool → Option Res)) => cond (decide (a5 ≥ 6)) (c111_1 a1 a2 a3 a4 (fun x1 => K0 (decide (a5 < IntKind.i64.wrap ((IntKind.i64.wrap (6 + a1)) + x1)))) ) (K0 false)) d K := by kernel_rfl
theorem E91_1 (F : Nat) (d : sh91_1.den) (K : KF) : evBody Tryz.prog (T91_1 F) (xw []) 17 0 (LT91_1 F) [] false code91 Tryz.f91.results.toList (encT sh91_1.vs d.1) (encH sh91_1.h d.2) K = A91_1 (f91_1 F) d K := Eq.mp (by kernel_rfl) (E91_1g F (f111_1 F)   d K)
theorem S91_1_ok (F : Nat) (o : Summ) (ho : SoundFn Tryz.prog 91 o) : SoundFn Tryz.prog 91 (S91_1 F o) :=
  soundFn_of (fn := Tryz.f91) (c := code91) rfl rfl (by kernel_rfl) (tab_cons (S111_1_ok F _ (noS_sound enter111)) tab_nil) (by kernel_rfl) (by kernel_rfl) ho (by rw [loops91]; exact loopsOK_nil) (by rw [scopes91]; exact scopesOK_nil) (by rw [ranges91]; exact rangesOK_nil)  (E91_1 F)
end Go.Proofs.YtlgopekjjkdkiaaGreatDoor.X
end

section
namespace Go.Proofs.YtlgopekjjkdkiaaGreatDoor.X
open Go Go.Proofs.YtlgopekjjkdkiaaGreatDoor.Ev Go.Proofs
set_option linter.unusedVariables false
set_option linter.unusedSectionVars false
/-! geom.area -/
noncomputable def f179_1 {β : Type} (F : Nat) (a1 : Int) (a2 : Int) (a3 : Int) (a4 : Int) (a5 : Int) (K0 : Int → Bool → Option β) : Option β := cond (a5 == 0) (f90_1 F a1 a2 a3 a4 (fun x1 => K0 (IntKind.i64.wrap (2 * a3)) x1) ) (cond (a5 == 1) (f90_1 F a1 a2 a3 a4 (fun x2 => K0 (IntKind.i64.wrap (2 * a4)) x2) ) (K0 0 false))
variable [FZ]
def sh179_1 : Sh := ⟨[.agg [.int .i64, .int .i64, .int .i64, .int .i64], .lf (.int .i64)], []⟩
abbrev Y179_1 := Int → Int → Int → Int → Int → (Int → Bool → Option Res) → Option Res
noncomputable def A179_1 (g : Y179_1) (d : sh179_1.den) (K : KF) : Option Res := g d.1.1.1 d.1.1.2.1 d.1.1.2.2.1 d.1.1.2.2.2.1 d.1.2.1 (fun (y0 : Int) (y1 : Bool) => K [.lf (.int .i64 y0), .lf (.bool y1)] [])
noncomputable def S179_1 (F : Nat) (o : Summ) : Summ := mkS sh179_1 (fun d K => A179_1 (f179_1 F) d K) o
noncomputable def code179 : Code := bodyOf Tryz.f179
theorem scopes179 : scopesOf code179 = [] := by kernel_rfl
theorem ranges179 : rangesOf code179 = [] := by kernel_rfl
theorem loops179 : loopsOf code179 = [] := by kernel_rfl
theorem enter179 : ∀ args w, (callFunc 179 args).run Tryz.prog w = .ok (.enter 179 args) w := enter_of (fn := Tryz.f179) (by kernel_rfl) (by kernel_rfl) (by kernel_rfl)
noncomputable def T179_1 (F : Nat) : FuncId → Option Summ := tab [(90, (S90_1 F noS))]
noncomputable def TB179_1 (c90_1 : Y90_1) : FuncId → Option Summ := tab [(90, (mkS sh90_1 (fun d K => A90_1 c90_1 d K) noS))]
noncomputable def LT179_1 (F : Nat) : Nat → Option LoopS := ltab []
theorem E179_1g (F : Nat) (c90_1 : Y90_1)   (d : sh179_1.den) (K : KF) : evBody Tryz.prog (TB179_1 c90_1) (xw []) 21 0 (ltab []) [] false code179 Tryz.f179.results.toList (encT sh179_1.vs d.1) (encH sh179_1.h d.2) K = A179_1 (fun (a1 : Int) (a2 : Int) (a3 : Int) (a4 : Int) (a5 : Int) (K0 : (Int → Bool → Option Res)) => cond (a5 == 0) (c90_1 a1 a2 a3 a4 (fun x1 => K0 (IntKind.i64.wrap (2 * a3)) x1) ) (cond (a5 == 1) (c90_1 a1 a2 a3 a4 (fun x2 => K0 (IntKind.i64.wrap (2 * a4)) x2) ) (K0 0 false))) d K := by kernel_rfl
theorem E179_1 (F : Nat) (d : sh179_1.den) (K : KF) : evBody Tryz.prog (T179_1 F) (xw []) 21 0 (LT179_1 F) [] false code179 Tryz.f179.results.toList (encT sh179_1.vs d.1) (encH sh179_1.h d.2) K = A179_1 (f179_1 F) d K := Eq.mp (by kernel_rfl) (E179_1g F (f90_1 F)   d K)
theorem S179_1_ok (F : Nat) (o : Summ) (ho : SoundFn Tryz.prog 179 o) : SoundFn Tryz.prog 179 (S179_1 F o) :=
  soundFn_of (fn := Tryz.f179) (c := code179) rfl rfl (by kernel_rfl) (tab_cons (S90_1_ok F _ (noS_sound enter90)) tab_nil) (by kernel_rfl) (by kernel_rfl) ho (by rw [loops179]; exact loopsOK_nil) (by rw [scopes179]; exact scopesOK_nil) (by rw [ranges179]; exact rangesOK_nil)  (E179_1 F)
end Go.Proofs.YtlgopekjjkdkiaaGreatDoor.X
end

section
namespace Go.Proofs.YtlgopekjjkdkiaaGreatDoor.X
open Go Go.Proofs.YtlgopekjjkdkiaaGreatDoor.Ev Go.Proofs
set_option linter.unusedVariables false
set_option linter.unusedSectionVars false
/-! geom.Area -/
noncomputable def f131_1 {β : Type} (F : Nat) (a1 : Int) (a2 : Int) (a3 : Int) (a4 : Int) (a5 : Int) (a6 : Int) (K0 : Int → Option β) : Option β := f179_1 F a1 a2 a3 a4 a5 (fun x1 x2 => cond (!x2) (K0 (-1)) (f144_1 F a6 0 (IntKind.i64.wrap (x1 - 1)) (fun x3 => cond (!x3) (K0 (-1)) (f111_1 F a1 a2 a3 a4 (fun x4 => K0 (IntKind.i64.wrap ((IntKind.i64.wrap ((IntKind.i64.wrap (6 + a1)) + x4)) + a6))) )) )) 
variable [FZ]
def sh131_1 : Sh := ⟨[.agg [.int .i64, .int .i64, .int .i64, .int .i64], .lf (.int .i64), .lf (.int .i64)], []⟩
abbrev Y131_1 := Int → Int → Int → Int → Int → Int → (Int → Option Res) → Option Res
noncomputable def A131_1 (g : Y131_1) (d : sh131_1.den) (K : KF) : Option Res := g d.1.1.1 d.1.1.2.1 d.1.1.2.2.1 d.1.1.2.2.2.1 d.1.2.1 d.1.2.2.1 (fun (y0 : Int) => K [.lf (.int .i64 y0)] [])
noncomputable def S131_1 (F : Nat) (o : Summ) : Summ := mkS sh131_1 (fun d K => A131_1 (f131_1 F) d K) o
noncomputable def code131 : Code := bodyOf Tryz.f131
theorem scopes131 : scopesOf code131 = [] := by kernel_rfl
theorem ranges131 : rangesOf code131 = [] := by kernel_rfl
theorem loops131 : loopsOf code131 = [] := by kernel_rfl
theorem enter131 : ∀ args w, (callFunc 131 args).run Tryz.prog w = .ok (.enter 131 args) w := enter_of (fn := Tryz.f131) (by kernel_rfl) (by kernel_rfl) (by kernel_rfl)
noncomputable def T131_1 (F : Nat) : FuncId → Option Summ := tab [(111, (S111_1 F noS)), (144, (S144_1 F noS)), (179, (S179_1 F noS))]
noncomputable def TB131_1 (c111_1 : Y111_1) (c144_1 : Y144_1) (c179_1 : Y179_1) : FuncId → Option Summ := tab [(111, (mkS sh111_1 (fun d K => A111_1 c111_1 d K) noS)), (144, (mkS sh144_1 (fun d K => A144_1 c144_1 d K) noS)), (179, (mkS sh179_1 (fun d K => A179_1 c179_1 d K) noS))]
noncomputable def LT131_1 (F : Nat) : Nat → Option LoopS := ltab []
theorem E131_1g (F : Nat) (c111_1 : Y111_1) (c144_1 : Y144_1) (c179_1 : Y179_1)   (d : sh131_1.den) (K : KF) : evBody Tryz.prog (TB131_1 c111_1 c144_1 c179_1) (xw []) 32 0 (ltab []) [] false code131 Tryz.f131.results.toList (encT sh131_1.vs d.1) (encH sh131_1.h d.2) K = A131_1 (fun (a1 : Int) (a2 : Int) (a3 : Int) (a4 : Int) (a5 : Int) (a6 : Int) (K0 : (Int → Option Res)) => c179_1 a1 a2 a3 a4 a5 (fun x1 x2 => cond (!x2) (K0 (-1)) (c144_1 a6 0 (IntKind.i64.wrap (x1 - 1)) (fun x3 => cond (!x3) (K0 (-1)) (c111_1 a1 a2 a3 a4 (fun x4 => K0 (IntKind.i64.wrap ((IntKind.i64.wrap ((IntKind.i64.wrap (6 + a1)) + x4)) + a6))) )) )) ) d K := by kernel_rfl
theorem E131_1 (F : Nat) (d : sh131_1.den) (K : KF) : evBody Tryz.prog (T131_1 F) (xw []) 32 0 (LT131_1 F) [] false code131 Tryz.f131.results.toList (encT sh131_1.vs d.1) (encH sh131_1.h d.2) K = A131_1 (f131_1 F) d K := Eq.mp (by kernel_rfl) (E131_1g F (f111_1 F) (f144_1 F) (f179_1 F)   d K)
theorem S131_1_ok (F : Nat) (o : Summ) (ho : SoundFn Tryz.prog 131 o) : SoundFn Tryz.prog 131 (S131_1 F o) :=
  soundFn_of (fn := Tryz.f131) (c := code131) rfl rfl (by kernel_rfl) (tab_cons (S111_1_ok F _ (noS_sound enter111)) (tab_cons (S144_1_ok F _ (noS_sound enter144)) (tab_cons (S179_1_ok F _ (noS_sound enter179)) tab_nil))) (by kernel_rfl) (by kernel_rfl) ho (by rw [loops131]; exact loopsOK_nil) (by rw [scopes131]; exact scopesOK_nil) (by rw [ranges131]; exact rangesOK_nil)  (E131_1 F)
end Go.Proofs.YtlgopekjjkdkiaaGreatDoor.X
end

section
namespace Go.Proofs.YtlgopekjjkdkiaaGreatDoor.X
open Go Go.Proofs.YtlgopekjjkdkiaaGreatDoor.Ev Go.Proofs
set_option linter.unusedVariables false
set_option linter.unusedSectionVars false
/-! undo.area -/
noncomputable def f92_1 {β : Type} (F : Nat) (a1 : Int) (a2 : Int) (a3 : Int) (a4 : Int) (a5 : Int) (K0 : Int → Int → Option β) : Option β := f131_1 F a1 a2 a3 a4 1 (IntKind.i64.wrap (2 * a5)) (fun x1 => f131_1 F a1 a2 a3 a4 1 (IntKind.i64.wrap ((IntKind.i64.wrap (2 * a5)) + 1)) (fun x2 => K0 x1 x2) ) 
variable [FZ]
def sh92_1 : Sh := ⟨[.agg [.int .i64, .int .i64, .int .i64, .int .i64], .lf (.int .i64)], []⟩
abbrev Y92_1 := Int → Int → Int → Int → Int → (Int → Int → Option Res) → Option Res
noncomputable def A92_1 (g : Y92_1) (d : sh92_1.den) (K : KF) : Option Res := g d.1.1.1 d.1.1.2.1 d.1.1.2.2.1 d.1.1.2.2.2.1 d.1.2.1 (fun (y0 : Int) (y1 : Int) => K [.lf (.int .i64 y0), .lf (.int .i64 y1)] [])
noncomputable def S92_1 (F : Nat) (o : Summ) : Summ := mkS sh92_1 (fun d K => A92_1 (f92_1 F) d K) o
noncomputable def code92 : Code := bodyOf Tryz.f92
theorem scopes92 : scopesOf code92 = [] := by kernel_rfl
theorem ranges92 : rangesOf code92 = [] := by kernel_rfl
theorem loops92 : loopsOf code92 = [] := by kernel_rfl
theorem enter92 : ∀ args w, (callFunc 92 args).run Tryz.prog w = .ok (.enter 92 args) w := enter_of (fn := Tryz.f92) (by kernel_rfl) (by kernel_rfl) (by kernel_rfl)
noncomputable def T92_1 (F : Nat) : FuncId → Option Summ := tab [(131, (S131_1 F noS))]
noncomputable def TB92_1 (c131_1 : Y131_1) : FuncId → Option Summ := tab [(131, (mkS sh131_1 (fun d K => A131_1 c131_1 d K) noS))]
noncomputable def LT92_1 (F : Nat) : Nat → Option LoopS := ltab []
theorem E92_1g (F : Nat) (c131_1 : Y131_1)   (d : sh92_1.den) (K : KF) : evBody Tryz.prog (TB92_1 c131_1) (xw []) 15 0 (ltab []) [] false code92 Tryz.f92.results.toList (encT sh92_1.vs d.1) (encH sh92_1.h d.2) K = A92_1 (fun (a1 : Int) (a2 : Int) (a3 : Int) (a4 : Int) (a5 : Int) (K0 : (Int → Int → Option Res)) => c131_1 a1 a2 a3 a4 1 (IntKind.i64.wrap (2 * a5)) (fun x1 => c131_1 a1 a2 a3 a4 1 (IntKind.i64.wrap ((IntKind.i64.wrap (2 * a5)) + 1)) (fun x2 => K0 x1 x2) ) ) d K := by kernel_rfl
theorem E92_1 (F : Nat) (d : sh92_1.den) (K : KF) : evBody Tryz.prog (T92_1 F) (xw []) 15 0 (LT92_1 F) [] false code92 Tryz.f92.results.toList (encT sh92_1.vs d.1) (encH sh92_1.h d.2) K = A92_1 (f92_1 F) d K := Eq.mp (by kernel_rfl) (E92_1g F (f131_1 F)   d K)
theorem S92_1_ok (F : Nat) (o : Summ) (ho : SoundFn Tryz.prog 92 o) : SoundFn Tryz.prog 92 (S92_1 F o) :=
  soundFn_of (fn := Tryz.f92) (c := code92) rfl rfl (by kernel_rfl) (tab_cons (S131_1_ok F _ (noS_sound enter131)) tab_nil) (by kernel_rfl) (by kernel_rfl) ho (by rw [loops92]; exact loopsOK_nil) (by rw [scopes92]; exact scopesOK_nil) (by rw [ranges92]; exact rangesOK_nil)  (E92_1 F)
end Go.Proofs.YtlgopekjjkdkiaaGreatDoor.X
end

section
namespace Go.Proofs.YtlgopekjjkdkiaaGreatDoor.X
open Go Go.Proofs.YtlgopekjjkdkiaaGreatDoor.Ev Go.Proofs
set_option linter.unusedVariables false
set_option linter.unusedSectionVars false
/-! sector.Right -/
noncomputable def f85_1 {β : Type} (F : Nat) (a1 : ByteArray) (K0 : Bool → Option β) : Option β := K0 ((a1.size : Int) == 64)
variable [FZ]
def sh85_1 : Sh := ⟨[.lf (.str)], []⟩
abbrev Y85_1 := ByteArray → (Bool → Option Res) → Option Res
noncomputable def A85_1 (g : Y85_1) (d : sh85_1.den) (K : KF) : Option Res := g d.1.1 (fun (y0 : Bool) => K [.lf (.bool y0)] [])
noncomputable def S85_1 (F : Nat) (o : Summ) : Summ := mkS sh85_1 (fun d K => A85_1 (f85_1 F) d K) o
noncomputable def code85 : Code := bodyOf Tryz.f85
theorem scopes85 : scopesOf code85 = [] := by kernel_rfl
theorem ranges85 : rangesOf code85 = [] := by kernel_rfl
theorem loops85 : loopsOf code85 = [] := by kernel_rfl
theorem enter85 : ∀ args w, (callFunc 85 args).run Tryz.prog w = .ok (.enter 85 args) w := enter_of (fn := Tryz.f85) (by kernel_rfl) (by kernel_rfl) (by kernel_rfl)
noncomputable def T85_1 (F : Nat) : FuncId → Option Summ := tab []
noncomputable def TB85_1  : FuncId → Option Summ := tab []
noncomputable def LT85_1 (F : Nat) : Nat → Option LoopS := ltab []
theorem E85_1g (F : Nat)    (d : sh85_1.den) (K : KF) : evBody Tryz.prog TB85_1 (xw []) 6 0 (ltab []) [] false code85 Tryz.f85.results.toList (encT sh85_1.vs d.1) (encH sh85_1.h d.2) K = A85_1 (fun (a1 : ByteArray) (K0 : (Bool → Option Res)) => K0 ((a1.size : Int) == 64)) d K := by kernel_rfl
theorem E85_1 (F : Nat) (d : sh85_1.den) (K : KF) : evBody Tryz.prog (T85_1 F) (xw []) 6 0 (LT85_1 F) [] false code85 Tryz.f85.results.toList (encT sh85_1.vs d.1) (encH sh85_1.h d.2) K = A85_1 (f85_1 F) d K := Eq.mp (by kernel_rfl) (E85_1g F    d K)
theorem S85_1_ok (F : Nat) (o : Summ) (ho : SoundFn Tryz.prog 85 o) : SoundFn Tryz.prog 85 (S85_1 F o) :=
  soundFn_of (fn := Tryz.f85) (c := code85) rfl rfl (by kernel_rfl) tab_nil (by kernel_rfl) (by kernel_rfl) ho (by rw [loops85]; exact loopsOK_nil) (by rw [scopes85]; exact scopesOK_nil) (by rw [ranges85]; exact rangesOK_nil)  (E85_1 F)
end Go.Proofs.YtlgopekjjkdkiaaGreatDoor.X
end

section
namespace Go.Proofs.YtlgopekjjkdkiaaGreatDoor.X
open Go Go.Proofs.YtlgopekjjkdkiaaGreatDoor.Ev Go.Proofs
set_option linter.unusedVariables false
set_option linter.unusedSectionVars false
/-! disk.Disk).burn -/
noncomputable def f86_1 {β : Type} (F : Nat) (a1 : Int) (a2 : Bool) (a3 : Int) (a4 : List ByteArray) (a5 : List (Int × ByteArray)) (K0 : Bool → Int → Bool → Int → Option β) : Option β := cond (a1 == 0) (K0 false (-1) true a3) (cond (a1 == (-1)) (K0 true a1 a2 (IntKind.i64.wrap (a3 + 1))) (K0 true (IntKind.i64.wrap (a1 - 1)) a2 (IntKind.i64.wrap (a3 + 1))))
variable [FZ]
def sh86_1 : Sh := ⟨[.lf (.ptr 0 0)], [some ⟨some false, [.full 1, .full 2, .int .i64, .bool, .int .i64]⟩, some ⟨none, [.seq .str 0]⟩, some ⟨none, [.seq (.pair (.int .i64) .str) 0]⟩]⟩
abbrev Y86_1 := Int → Bool → Int → List ByteArray → List (Int × ByteArray) → (Bool → Int → Bool → Int → Option Res) → Option Res
noncomputable def A86_1 (g : Y86_1) (d : sh86_1.den) (K : KF) : Option Res := g d.2.1.2.2.2.1 d.2.1.2.2.2.2.1 d.2.1.2.2.2.2.2.1 d.2.2.1.2.1 d.2.2.2.1.2.1 (fun (y0 : Bool) (y1 : Int) (y2 : Bool) (y3 : Int) => K [.lf (.bool y0)] [some ⟨false, [.full 1, .full 2, .int .i64 y1, .bool y2, .int .i64 y3]⟩, some ⟨d.2.2.1.1, [.seq .str 0 d.2.2.1.2.1]⟩, some ⟨d.2.2.2.1.1, [.seq (.pair (.int .i64) .str) 0 d.2.2.2.1.2.1]⟩])
noncomputable def S86_1 (F : Nat) (o : Summ) : Summ := mkS sh86_1 (fun d K => A86_1 (f86_1 F) d K) o
noncomputable def code86 : Code := bodyOf Tryz.f86
theorem scopes86 : scopesOf code86 = [] := by kernel_rfl
theorem ranges86 : rangesOf code86 = [] := by kernel_rfl
theorem loops86 : loopsOf code86 = [] := by kernel_rfl
theorem enter86 : ∀ args w, (callFunc 86 args).run Tryz.prog w = .ok (.enter 86 args) w := enter_of (fn := Tryz.f86) (by kernel_rfl) (by kernel_rfl) (by kernel_rfl)
noncomputable def T86_1 (F : Nat) : FuncId → Option Summ := tab []
noncomputable def TB86_1  : FuncId → Option Summ := tab []
noncomputable def LT86_1 (F : Nat) : Nat → Option LoopS := ltab []
theorem E86_1g (F : Nat)    (d : sh86_1.den) (K : KF) : evBody Tryz.prog TB86_1 (xw []) 31 3 (ltab []) [] false code86 Tryz.f86.results.toList (encT sh86_1.vs d.1) (encH sh86_1.h d.2) K = A86_1 (fun (a1 : Int) (a2 : Bool) (a3 : Int) (a4 : List ByteArray) (a5 : List (Int × ByteArray)) (K0 : (Bool → Int → Bool → Int → Option Res)) => cond (a1 == 0) (K0 false (-1) true a3) (cond (a1 == (-1)) (K0 true a1 a2 (IntKind.i64.wrap (a3 + 1))) (K0 true (IntKind.i64.wrap (a1 - 1)) a2 (IntKind.i64.wrap (a3 + 1))))) d K := by kernel_rfl
theorem E86_1 (F : Nat) (d : sh86_1.den) (K : KF) : evBody Tryz.prog (T86_1 F) (xw []) 31 3 (LT86_1 F) [] false code86 Tryz.f86.results.toList (encT sh86_1.vs d.1) (encH sh86_1.h d.2) K = A86_1 (f86_1 F) d K := Eq.mp (by kernel_rfl) (E86_1g F    d K)
theorem S86_1_ok (F : Nat) (o : Summ) (ho : SoundFn Tryz.prog 86 o) : SoundFn Tryz.prog 86 (S86_1 F o) :=
  soundFn_of (fn := Tryz.f86) (c := code86) rfl rfl (by kernel_rfl) tab_nil (by kernel_rfl) (by kernel_rfl) ho (by rw [loops86]; exact loopsOK_nil) (by rw [scopes86]; exact scopesOK_nil) (by rw [ranges86]; exact rangesOK_nil)  (E86_1 F)
end Go.Proofs.YtlgopekjjkdkiaaGreatDoor.X
end

section
namespace Go.Proofs.YtlgopekjjkdkiaaGreatDoor.X
open Go Go.Proofs.YtlgopekjjkdkiaaGreatDoor.Ev Go.Proofs
set_option linter.unusedVariables false
set_option linter.unusedSectionVars false
/-! disk.Disk).Write -/
noncomputable def f24_1 {β : Type} (F : Nat) (a1 : Int) (a2 : ByteArray) (a3 : Int) (a4 : Bool) (a5 : Int) (a6 : List ByteArray) (a7 : List (Int × ByteArray)) (K0 : Int → Int → Bool → Int → List (Int × ByteArray) → Option β) : Option β := cond a4 (K0 5 a3 a4 a5 a7) (f77_1 F a1 a3 a4 a5 a6 a7 (fun x1 => cond (!x1) (K0 3 a3 a4 a5 a7) (f85_1 F a2 (fun x2 => cond (!x2) (K0 4 a3 a4 a5 a7) (f86_1 F a3 a4 a5 a6 a7 (fun x3 x4 x5 x6 => cond (!x3) (K0 5 x4 x5 x6 a7) (cond (decide ((a7.length + 1) * 24 ≤ 70368744177664)) (K0 0 x4 x5 x6 (a7 ++ [(a1, a2)])) none)) )) )) )
variable [FZ]
def sh24_1 : Sh := ⟨[.lf (.ptr 0 0), .lf (.int .i64), .lf (.str)], [some ⟨some false, [.full 1, .full 2, .int .i64, .bool, .int .i64]⟩, some ⟨none, [.seq .str 0]⟩, some ⟨some false, [.seq (.pair (.int .i64) .str) 0]⟩]⟩
abbrev Y24_1 := Int → ByteArray → Int → Bool → Int → List ByteArray → List (Int × ByteArray) → (Int → Int → Bool → Int → List (Int × ByteArray) → Option Res) → Option Res
noncomputable def A24_1 (g : Y24_1) (d : sh24_1.den) (K : KF) : Option Res := g d.1.2.1 d.1.2.2.1 d.2.1.2.2.2.1 d.2.1.2.2.2.2.1 d.2.1.2.2.2.2.2.1 d.2.2.1.2.1 d.2.2.2.1.2.1 (fun (y0 : Int) (y1 : Int) (y2 : Bool) (y3 : Int) (y5 : List (Int × ByteArray)) => K [.lf (.int .i64 y0)] [some ⟨false, [.full 1, .full 3, .int .i64 y1, .bool y2, .int .i64 y3]⟩, some ⟨d.2.2.1.1, [.seq .str 0 d.2.2.1.2.1]⟩, none, some ⟨false, [.seq (.pair (.int .i64) .str) 0 y5]⟩])
noncomputable def S24_1 (F : Nat) (o : Summ) : Summ := mkS sh24_1 (fun d K => A24_1 (f24_1 F) d K) o
noncomputable def code24 : Code := bodyOf Tryz.f24
theorem scopes24 : scopesOf code24 = [] := by kernel_rfl
theorem ranges24 : rangesOf code24 = [] := by kernel_rfl
theorem loops24 : loopsOf code24 = [] := by kernel_rfl
theorem enter24 : ∀ args w, (callFunc 24 args).run Tryz.prog w = .ok (.enter 24 args) w := enter_of (fn := Tryz.f24) (by kernel_rfl) (by kernel_rfl) (by kernel_rfl)
noncomputable def T24_1 (F : Nat) : FuncId → Option Summ := tab [(77, (S77_1 F noS)), (85, (S85_1 F noS)), (86, (S86_1 F noS))]
noncomputable def TB24_1 (c77_1 : Y77_1) (c85_1 : Y85_1) (c86_1 : Y86_1) : FuncId → Option Summ := tab [(77, (mkS sh77_1 (fun d K => A77_1 c77_1 d K) noS)), (85, (mkS sh85_1 (fun d K => A85_1 c85_1 d K) noS)), (86, (mkS sh86_1 (fun d K => A86_1 c86_1 d K) noS))]
noncomputable def LT24_1 (F : Nat) : Nat → Option LoopS := ltab []
theorem E24_1g (F : Nat) (c77_1 : Y77_1) (c85_1 : Y85_1) (c86_1 : Y86_1)   (d : sh24_1.den) (K : KF) : evBody Tryz.prog (TB24_1 c77_1 c85_1 c86_1) (xw []) 40 3 (ltab []) [2] false code24 Tryz.f24.results.toList (encT sh24_1.vs d.1) (encH sh24_1.h d.2) K = A24_1 (fun (a1 : Int) (a2 : ByteArray) (a3 : Int) (a4 : Bool) (a5 : Int) (a6 : List ByteArray) (a7 : List (Int × ByteArray)) (K0 : (Int → Int → Bool → Int → List (Int × ByteArray) → Option Res)) => cond a4 (K0 5 a3 a4 a5 a7) (c77_1 a1 a3 a4 a5 a6 a7 (fun x1 => cond (!x1) (K0 3 a3 a4 a5 a7) (c85_1 a2 (fun x2 => cond (!x2) (K0 4 a3 a4 a5 a7) (c86_1 a3 a4 a5 a6 a7 (fun x3 x4 x5 x6 => cond (!x3) (K0 5 x4 x5 x6 a7) (cond (decide ((a7.length + 1) * 24 ≤ 70368744177664)) (K0 0 x4 x5 x6 (a7 ++ [(a1, a2)])) none)) )) )) )) d K := by kernel_rfl
theorem E24_1 (F : Nat) (d : sh24_1.den) (K : KF) : evBody Tryz.prog (T24_1 F) (xw []) 40 3 (LT24_1 F) [2] false code24 Tryz.f24.results.toList (encT sh24_1.vs d.1) (encH sh24_1.h d.2) K = A24_1 (f24_1 F) d K := Eq.mp (by kernel_rfl) (E24_1g F (f77_1 F) (f85_1 F) (f86_1 F)   d K)
theorem S24_1_ok (F : Nat) (o : Summ) (ho : SoundFn Tryz.prog 24 o) : SoundFn Tryz.prog 24 (S24_1 F o) :=
  soundFn_of (fn := Tryz.f24) (c := code24) rfl rfl (by kernel_rfl) (tab_cons (S77_1_ok F _ (noS_sound enter77)) (tab_cons (S85_1_ok F _ (noS_sound enter85)) (tab_cons (S86_1_ok F _ (noS_sound enter86)) tab_nil))) (by kernel_rfl) (by kernel_rfl) ho (by rw [loops24]; exact loopsOK_nil) (by rw [scopes24]; exact scopesOK_nil) (by rw [ranges24]; exact rangesOK_nil)  (E24_1 F)
end Go.Proofs.YtlgopekjjkdkiaaGreatDoor.X
end

section
namespace Go.Proofs.YtlgopekjjkdkiaaGreatDoor.X
open Go Go.Proofs.YtlgopekjjkdkiaaGreatDoor.Ev Go.Proofs
set_option linter.unusedVariables false
set_option linter.unusedSectionVars false
/-! disk.Disk).Flush -/
noncomputable def f27_1_l6 {β : Type} (F : Nat) (v5 : Int) (v7 : Int) (v8 : Bool) (v9 : Int) (v11 : List (Int × ByteArray)) (K0 : List ByteArray → Option β) : Nat → Int → List ByteArray → Option β
  | 0, _, _ => none
  | k + 1, v6, v10 => cond (decide (v6 < v5)) (cond (decide ((0 : Int) ≤ v6 ∧ v6 < ((v11.length : Nat) : Int))) (cond (decide (0 + v6.toNat < v11.length)) (cond (decide ((0 : Int) ≤ (v11.getD (0 + v6.toNat) (0, ByteArray.empty)).1 ∧ (v11.getD (0 + v6.toNat) (0, ByteArray.empty)).1 < ((v10.length : Nat) : Int))) (cond (decide (0 + (((v11.getD (0 + v6.toNat) (0, ByteArray.empty)).1).toNat) < v10.length)) (f27_1_l6 F v5 v7 v8 v9 v11 K0 k (IntKind.i64.wrap (v6 + 1)) (v10.set (0 + (((v11.getD (0 + v6.toNat) (0, ByteArray.empty)).1).toNat)) ((v11.getD (0 + v6.toNat) (0, ByteArray.empty)).2))) none) none) none) none) (K0 v10)
noncomputable def f27_1 {β : Type} (F : Nat) (a1 : Int) (a2 : Bool) (a3 : Int) (a4 : List ByteArray) (a5 : List (Int × ByteArray)) (K0 : Int → Int → Bool → Int → List ByteArray → List (Int × ByteArray) → Option β) : Option β := cond a2 (K0 5 a1 a2 a3 a4 a5) (f86_1 F a1 a2 a3 a4 a5 (fun x1 x2 x3 x4 => cond (!x1) (K0 5 x2 x3 x4 a4 a5) (f27_1_l6 F ((a5.length : Nat) : Int) x2 x3 x4 a5 (fun x12 => K0 0 x2 x3 x4 x12 []) F 0 a4)) )
variable [FZ]
def sh27_1 : Sh := ⟨[.lf (.ptr 0 0)], [some ⟨some false, [.full 1, .full 2, .int .i64, .bool, .int .i64]⟩, some ⟨some false, [.seq .str 0]⟩, some ⟨some false, [.seq (.pair (.int .i64) .str) 0]⟩]⟩
abbrev Y27_1 := Int → Bool → Int → List ByteArray → List (Int × ByteArray) → (Int → Int → Bool → Int → List ByteArray → List (Int × ByteArray) → Option Res) → Option Res
noncomputable def A27_1 (g : Y27_1) (d : sh27_1.den) (K : KF) : Option Res := g d.2.1.2.2.2.1 d.2.1.2.2.2.2.1 d.2.1.2.2.2.2.2.1 d.2.2.1.2.1 d.2.2.2.1.2.1 (fun (y0 : Int) (y1 : Int) (y2 : Bool) (y3 : Int) (y4 : List ByteArray) (y5 : List (Int × ByteArray)) => K [.lf (.int .i64 y0)] [some ⟨false, [.full 1, .full 3, .int .i64 y1, .bool y2, .int .i64 y3]⟩, some ⟨false, [.seq .str 0 y4]⟩, none, some ⟨false, [.seq (.pair (.int .i64) .str) 0 y5]⟩])
noncomputable def S27_1 (F : Nat) (o : Summ) : Summ := mkS sh27_1 (fun d K => A27_1 (f27_1 F) d K) o
noncomputable def code27 : Code := bodyOf Tryz.f27
noncomputable def b27_0 : Code := cB (cB (cR (cL (cR (cR (code27))))))
theorem scopes27 : scopesOf code27 = [] := by kernel_rfl
theorem ranges27 : rangesOf code27 = [] := by kernel_rfl
theorem loops27 : loopsOf code27 = [b27_0] := by kernel_rfl
theorem enter27 : ∀ args w, (callFunc 27 args).run Tryz.prog w = .ok (.enter 27 args) w := enter_of (fn := Tryz.f27) (by kernel_rfl) (by kernel_rfl) (by kernel_rfl)
noncomputable def T27_1 (F : Nat) : FuncId → Option Summ := tab [(86, (S86_1 F noS))]
noncomputable def TB27_1 (c86_1 : Y86_1) : FuncId → Option Summ := tab [(86, (mkS sh86_1 (fun d K => A86_1 c86_1 d K) noS))]
def sh27_1_l6 : Sh := ⟨[.lf (.ptr 0 0), .lf (.full 2), .lf (.int .i64), .lf (.int .i64)], [some ⟨some false, [.full 1, .full 2, .int .i64, .bool, .int .i64]⟩, some ⟨some false, [.seq .str 0]⟩, some ⟨some false, [.seq (.pair (.int .i64) .str) 0]⟩]⟩
abbrev Y27_1_l6 := Int → Int → Bool → Int → List (Int × ByteArray) → (List ByteArray → Option Res) → Nat → Int → List ByteArray → Option Res
noncomputable def A27_1_l6 (g : Y27_1_l6) (k : Nat) (d : sh27_1_l6.den) (K : KL) : Option Res := g d.1.2.2.1 d.2.1.2.2.2.1 d.2.1.2.2.2.2.1 d.2.1.2.2.2.2.2.1 d.2.2.2.1.2.1 (fun (y3 : List ByteArray) => K (.exit 1) [.tv (.lf (.ptr 0 0))] [some ⟨false, [.full 1, .full 2, .int .i64 d.2.1.2.2.2.1, .bool d.2.1.2.2.2.2.1, .int .i64 d.2.1.2.2.2.2.2.1]⟩, some ⟨false, [.seq .str 0 y3]⟩, some ⟨false, [.seq (.pair (.int .i64) .str) 0 d.2.2.2.1.2.1]⟩]) k d.1.2.2.2.1 d.2.2.1.2.1
noncomputable def G27_1_6 (F k : Nat) : LoopS := mkG sh27_1_l6 [0, 21, 22, 23] (outT [(.exit 1, [0])]) (fun d K => A27_1_l6 (f27_1_l6 F) k d K) []
noncomputable def LT27_1 (F : Nat) : Nat → Option LoopS := ltab [(6, G27_1_6 F F)]
theorem L27_1_l6g (F k : Nat) (c86_1 : Y86_1)  (l6 : Y27_1_l6) (X6 : LoopS) (d : sh27_1_l6.den) (K : KL) : A27_1_l6 ((fun (v5 : Int) (v7 : Int) (v8 : Bool) (v9 : Int) (v11 : List (Int × ByteArray)) (K0 : (List ByteArray → Option Res)) (k : Nat) (v6 : Int) (v10 : List ByteArray) => cond (decide (v6 < v5)) (cond (decide ((0 : Int) ≤ v6 ∧ v6 < ((v11.length : Nat) : Int))) (cond (decide (0 + v6.toNat < v11.length)) (cond (decide ((0 : Int) ≤ (v11.getD (0 + v6.toNat) (0, ByteArray.empty)).1 ∧ (v11.getD (0 + v6.toNat) (0, ByteArray.empty)).1 < ((v10.length : Nat) : Int))) (cond (decide (0 + (((v11.getD (0 + v6.toNat) (0, ByteArray.empty)).1).toNat) < v10.length)) (l6 v5 v7 v8 v9 v11 K0 k (IntKind.i64.wrap (v6 + 1)) (v10.set (0 + (((v11.getD (0 + v6.toNat) (0, ByteArray.empty)).1).toNat)) ((v11.getD (0 + v6.toNat) (0, ByteArray.empty)).2))) none) none) none) none) (K0 v10))) k d K = roundOf Tryz.prog (TB27_1 c86_1) (xw []) 40 3 (ltab [(6, X6)]) (mkG sh27_1_l6 [0, 21, 22, 23] (outT [(.exit 1, [0])]) (fun d K => A27_1_l6 l6 k d K) []) b27_0 (encT sh27_1_l6.vs d.1) (encH sh27_1_l6.h d.2) K := by kernel_rfl
theorem L27_1_6 (F : Nat) : LoopOK Tryz.prog (T27_1 F) (xw []) 40 3 (LT27_1 F) (G27_1_6 F F) b27_0 :=
  loopOK_of (s := sh27_1_l6) (live := [0, 21, 22, 23]) (out := (outT [(.exit 1, [0])])) (mv := []) (fun k d K => A27_1_l6 (f27_1_l6 F) k d K) F (fun d K => by kernel_rfl)  (fun k d K => Eq.mp (by kernel_rfl) (L27_1_l6g F k (f86_1 F)  (f27_1_l6 F) (G27_1_6 F F) d K))
theorem E27_1g (F : Nat) (c86_1 : Y86_1) (l6 : Y27_1_l6)  (d : sh27_1.den) (K : KF) : evBody Tryz.prog (TB27_1 c86_1) (xw []) 40 3 (ltab [(6, mkG sh27_1_l6 [0, 21, 22, 23] (outT [(.exit 1, [0])]) (fun d K => A27_1_l6 l6 F d K) [])]) [2] false code27 Tryz.f27.results.toList (encT sh27_1.vs d.1) (encH sh27_1.h d.2) K = A27_1 (fun (a1 : Int) (a2 : Bool) (a3 : Int) (a4 : List ByteArray) (a5 : List (Int × ByteArray)) (K0 : (Int → Int → Bool → Int → List ByteArray → List (Int × ByteArray) → Option Res)) => cond a2 (K0 5 a1 a2 a3 a4 a5) (c86_1 a1 a2 a3 a4 a5 (fun x1 x2 x3 x4 => cond (!x1) (K0 5 x2 x3 x4 a4 a5) (l6 ((a5.length : Nat) : Int) x2 x3 x4 a5 (fun x12 => K0 0 x2 x3 x4 x12 []) F 0 a4)) )) d K := by kernel_rfl
theorem E27_1 (F : Nat) (d : sh27_1.den) (K : KF) : evBody Tryz.prog (T27_1 F) (xw []) 40 3 (LT27_1 F) [2] false code27 Tryz.f27.results.toList (encT sh27_1.vs d.1) (encH sh27_1.h d.2) K = A27_1 (f27_1 F) d K := Eq.mp (by kernel_rfl) (E27_1g F (f86_1 F) (f27_1_l6 F)  d K)
theorem S27_1_ok (F : Nat) (o : Summ) (ho : SoundFn Tryz.prog 27 o) : SoundFn Tryz.prog 27 (S27_1 F o) :=
  soundFn_of (fn := Tryz.f27) (c := code27) rfl rfl (by kernel_rfl) (tab_cons (S86_1_ok F _ (noS_sound enter86)) tab_nil) (by kernel_rfl) (by kernel_rfl) ho (by rw [loops27]; exact (loopsOK_cons (by kernel_rfl) (L27_1_6 F) loopsOK_nil)) (by rw [scopes27]; exact scopesOK_nil) (by rw [ranges27]; exact rangesOK_nil)  (E27_1 F)
end Go.Proofs.YtlgopekjjkdkiaaGreatDoor.X
end

section
namespace Go.Proofs.YtlgopekjjkdkiaaGreatDoor.X
open Go Go.Proofs.YtlgopekjjkdkiaaGreatDoor.Ev Go.Proofs
set_option linter.unusedVariables false
set_option linter.unusedSectionVars false
/-! undo.lay -/
noncomputable def f93_1 {β : Type} (F : Nat) (a1 : Int) (a2 : ByteArray) (a3 : Int) (a4 : Bool) (a5 : Int) (a6 : List ByteArray) (a7 : List (Int × ByteArray)) (K0 : Int → Int → Bool → Int → List ByteArray → List (Int × ByteArray) → Option β) : Option β := f24_1 F a1 a2 a3 a4 a5 a6 a7 (fun x1 x2 x3 x4 x5 => cond (x1 != 0) (K0 x1 x2 x3 x4 a6 x5) (f27_1 F x2 x3 x4 a6 x5 (fun x6 x7 x8 x9 x10 x11 => K0 x6 x7 x8 x9 x10 x11) )) 
variable [FZ]
def sh93_1 : Sh := ⟨[.lf (.ptr 0 0), .lf (.int .i64), .lf (.str)], [some ⟨some false, [.full 1, .full 2, .int .i64, .bool, .int .i64]⟩, some ⟨some false, [.seq .str 0]⟩, some ⟨some false, [.seq (.pair (.int .i64) .str) 0]⟩]⟩
abbrev Y93_1 := Int → ByteArray → Int → Bool → Int → List ByteArray → List (Int × ByteArray) → (Int → Int → Bool → Int → List ByteArray → List (Int × ByteArray) → Option Res) → Option Res
noncomputable def A93_1 (g : Y93_1) (d : sh93_1.den) (K : KF) : Option Res := g d.1.2.1 d.1.2.2.1 d.2.1.2.2.2.1 d.2.1.2.2.2.2.1 d.2.1.2.2.2.2.2.1 d.2.2.1.2.1 d.2.2.2.1.2.1 (fun (y0 : Int) (y1 : Int) (y2 : Bool) (y3 : Int) (y4 : List ByteArray) (y5 : List (Int × ByteArray)) => K [.lf (.int .i64 y0)] [some ⟨false, [.full 1, .full 3, .int .i64 y1, .bool y2, .int .i64 y3]⟩, some ⟨false, [.seq .str 0 y4]⟩, none, some ⟨false, [.seq (.pair (.int .i64) .str) 0 y5]⟩])
noncomputable def S93_1 (F : Nat) (o : Summ) : Summ := mkS sh93_1 (fun d K => A93_1 (f93_1 F) d K) o
noncomputable def code93 : Code := bodyOf Tryz.f93
theorem scopes93 : scopesOf code93 = [] := by kernel_rfl
theorem ranges93 : rangesOf code93 = [] := by kernel_rfl
theorem loops93 : loopsOf code93 = [] := by kernel_rfl
theorem enter93 : ∀ args w, (callFunc 93 args).run Tryz.prog w = .ok (.enter 93 args) w := enter_of (fn := Tryz.f93) (by kernel_rfl) (by kernel_rfl) (by kernel_rfl)
noncomputable def T93_1 (F : Nat) : FuncId → Option Summ := tab [(24, (S24_1 F noS)), (27, (S27_1 F noS))]
noncomputable def TB93_1 (c24_1 : Y24_1) (c27_1 : Y27_1) : FuncId → Option Summ := tab [(24, (mkS sh24_1 (fun d K => A24_1 c24_1 d K) noS)), (27, (mkS sh27_1 (fun d K => A27_1 c27_1 d K) noS))]
noncomputable def LT93_1 (F : Nat) : Nat → Option LoopS := ltab []
theorem E93_1g (F : Nat) (c24_1 : Y24_1) (c27_1 : Y27_1)   (d : sh93_1.den) (K : KF) : evBody Tryz.prog (TB93_1 c24_1 c27_1) (xw []) 17 3 (ltab []) [2] false code93 Tryz.f93.results.toList (encT sh93_1.vs d.1) (encH sh93_1.h d.2) K = A93_1 (fun (a1 : Int) (a2 : ByteArray) (a3 : Int) (a4 : Bool) (a5 : Int) (a6 : List ByteArray) (a7 : List (Int × ByteArray)) (K0 : (Int → Int → Bool → Int → List ByteArray → List (Int × ByteArray) → Option Res)) => c24_1 a1 a2 a3 a4 a5 a6 a7 (fun x1 x2 x3 x4 x5 => cond (x1 != 0) (K0 x1 x2 x3 x4 a6 x5) (c27_1 x2 x3 x4 a6 x5 (fun x6 x7 x8 x9 x10 x11 => K0 x6 x7 x8 x9 x10 x11) )) ) d K := by kernel_rfl
theorem E93_1 (F : Nat) (d : sh93_1.den) (K : KF) : evBody Tryz.prog (T93_1 F) (xw []) 17 3 (LT93_1 F) [2] false code93 Tryz.f93.results.toList (encT sh93_1.vs d.1) (encH sh93_1.h d.2) K = A93_1 (f93_1 F) d K := Eq.mp (by kernel_rfl) (E93_1g F (f24_1 F) (f27_1 F)   d K)
theorem S93_1_ok (F : Nat) (o : Summ) (ho : SoundFn Tryz.prog 93 o) : SoundFn Tryz.prog 93 (S93_1 F o) :=
  soundFn_of (fn := Tryz.f93) (c := code93) rfl rfl (by kernel_rfl) (tab_cons (S24_1_ok F _ (noS_sound enter24)) (tab_cons (S27_1_ok F _ (noS_sound enter27)) tab_nil)) (by kernel_rfl) (by kernel_rfl) ho (by rw [loops93]; exact loopsOK_nil) (by rw [scopes93]; exact scopesOK_nil) (by rw [ranges93]; exact rangesOK_nil)  (E93_1 F)
end Go.Proofs.YtlgopekjjkdkiaaGreatDoor.X
end

section
namespace Go.Proofs.YtlgopekjjkdkiaaGreatDoor.X
open Go Go.Proofs.YtlgopekjjkdkiaaGreatDoor.Ev Go.Proofs
set_option linter.unusedVariables false
set_option linter.unusedSectionVars false
/-! word.right -/
noncomputable def f190_1 {β : Type} (F : Nat) (a1 : Int) (K0 : Bool → Option β) : Option β := cond (decide (a1 ≥ 1)) (K0 (decide (a1 ≤ 8))) (K0 false)
variable [FZ]
def sh190_1 : Sh := ⟨[.lf (.int .i64)], []⟩
abbrev Y190_1 := Int → (Bool → Option Res) → Option Res
noncomputable def A190_1 (g : Y190_1) (d : sh190_1.den) (K : KF) : Option Res := g d.1.1 (fun (y0 : Bool) => K [.lf (.bool y0)] [])
noncomputable def S190_1 (F : Nat) (o : Summ) : Summ := mkS sh190_1 (fun d K => A190_1 (f190_1 F) d K) o
noncomputable def code190 : Code := bodyOf Tryz.f190
theorem scopes190 : scopesOf code190 = [] := by kernel_rfl
theorem ranges190 : rangesOf code190 = [] := by kernel_rfl
theorem loops190 : loopsOf code190 = [] := by kernel_rfl
theorem enter190 : ∀ args w, (callFunc 190 args).run Tryz.prog w = .ok (.enter 190 args) w := enter_of (fn := Tryz.f190) (by kernel_rfl) (by kernel_rfl) (by kernel_rfl)
noncomputable def T190_1 (F : Nat) : FuncId → Option Summ := tab []
noncomputable def TB190_1  : FuncId → Option Summ := tab []
noncomputable def LT190_1 (F : Nat) : Nat → Option LoopS := ltab []
theorem E190_1g (F : Nat)    (d : sh190_1.den) (K : KF) : evBody Tryz.prog TB190_1 (xw []) 9 0 (ltab []) [] false code190 Tryz.f190.results.toList (encT sh190_1.vs d.1) (encH sh190_1.h d.2) K = A190_1 (fun (a1 : Int) (K0 : (Bool → Option Res)) => cond (decide (a1 ≥ 1)) (K0 (decide (a1 ≤ 8))) (K0 false)) d K := by kernel_rfl
theorem E190_1 (F : Nat) (d : sh190_1.den) (K : KF) : evBody Tryz.prog (T190_1 F) (xw []) 9 0 (LT190_1 F) [] false code190 Tryz.f190.results.toList (encT sh190_1.vs d.1) (encH sh190_1.h d.2) K = A190_1 (f190_1 F) d K := Eq.mp (by kernel_rfl) (E190_1g F    d K)
theorem S190_1_ok (F : Nat) (o : Summ) (ho : SoundFn Tryz.prog 190 o) : SoundFn Tryz.prog 190 (S190_1 F o) :=
  soundFn_of (fn := Tryz.f190) (c := code190) rfl rfl (by kernel_rfl) tab_nil (by kernel_rfl) (by kernel_rfl) ho (by rw [loops190]; exact loopsOK_nil) (by rw [scopes190]; exact scopesOK_nil) (by rw [ranges190]; exact rangesOK_nil)  (E190_1 F)
end Go.Proofs.YtlgopekjjkdkiaaGreatDoor.X
end

section
namespace Go.Proofs.YtlgopekjjkdkiaaGreatDoor.X
open Go Go.Proofs.YtlgopekjjkdkiaaGreatDoor.Ev Go.Proofs
set_option linter.unusedVariables false
set_option linter.unusedSectionVars false
/-! word.Put -/
noncomputable def f147_1_l6 {β : Type} (F : Nat) (v2 : Int) (v4 : List Int) (K0 : List Int → Option β) : Nat → Int → List Int → Option β
  | 0, _, _ => none
  | k + 1, v3, v5 => cond (decide (v3 ≥ 0)) (cond (decide (v3 < 0)) none (cond (decide ((v5.length + 1) * 1 ≤ 70368744177664)) (f147_1_l6 F v2 v4 K0 k (IntKind.i64.wrap (v3 - 8)) (v5 ++ [IntKind.u8.wrap (ishr .u64 v2 v3)])) none)) (K0 v5)
noncomputable def f147_1 {β : Type} (F : Nat) (a1 : Int) (a2 : Int) (a3 : List Int) (K0 : List Int → Option β) : Option β := cond (decide ((0 : Int) ≤ (0 : Int) ∧ (0 : Int) ≤ IntKind.i64.wrap (((a3.length : Nat) : Int) + 8) ∧ IntKind.i64.wrap (((a3.length : Nat) : Int) + 8) ≤ 70368744177664 ∧ IntKind.i64.wrap (((a3.length : Nat) : Int) + 8) * 1 ≤ 70368744177664)) (cond (decide ((0 + a3.length) * 1 ≤ 70368744177664)) (f190_1 F a1 (fun x1 => cond (!x1) (K0 ((((List.replicate ((IntKind.i64.wrap (((a3.length : Nat) : Int) + 8)).toNat) 0).drop 0).take 0) ++ a3)) (f147_1_l6 F a2 a3 (fun x6 => K0 x6) F (IntKind.i64.wrap (8 * (IntKind.i64.wrap (a1 - 1)))) ((((List.replicate ((IntKind.i64.wrap (((a3.length : Nat) : Int) + 8)).toNat) 0).drop 0).take 0) ++ a3))) ) none) none
variable [FZ]
def sh147_1 : Sh := ⟨[.lf (.full 0), .lf (.int .i64), .lf (.int .u64)], [some ⟨none, [.seq (.int .u8) 0]⟩]⟩
abbrev Y147_1 := Int → Int → List Int → (List Int → Option Res) → Option Res
noncomputable def A147_1 (g : Y147_1) (d : sh147_1.den) (K : KF) : Option Res := g d.1.2.1 d.1.2.2.1 d.2.1.2.1 (fun (y1 : List Int) => K [.lf (.full 1)] [some ⟨d.2.1.1, [.seq (.int .u8) 0 d.2.1.2.1]⟩, some ⟨false, [.seq (.int .u8) 0 y1]⟩])
noncomputable def S147_1 (F : Nat) (o : Summ) : Summ := mkS sh147_1 (fun d K => A147_1 (f147_1 F) d K) o
noncomputable def code147 : Code := bodyOf Tryz.f147
noncomputable def b147_0 : Code := cB (cB (cR (cL (cR (cR (cR (cR (code147))))))))
theorem scopes147 : scopesOf code147 = [] := by kernel_rfl
theorem ranges147 : rangesOf code147 = [] := by kernel_rfl
theorem loops147 : loopsOf code147 = [b147_0] := by kernel_rfl
theorem enter147 : ∀ args w, (callFunc 147 args).run Tryz.prog w = .ok (.enter 147 args) w := enter_of (fn := Tryz.f147) (by kernel_rfl) (by kernel_rfl) (by kernel_rfl)
noncomputable def T147_1 (F : Nat) : FuncId → Option Summ := tab [(190, (S190_1 F noS))]
noncomputable def TB147_1 (c190_1 : Y190_1) : FuncId → Option Summ := tab [(190, (mkS sh190_1 (fun d K => A190_1 c190_1 d K) noS))]
def sh147_1_l6 : Sh := ⟨[.lf (.int .u64), .lf (.full 1), .lf (.int .i64)], [some ⟨none, [.seq (.int .u8) 0]⟩, some ⟨some false, [.seq (.int .u8) 0]⟩]⟩
abbrev Y147_1_l6 := Int → List Int → (List Int → Option Res) → Nat → Int → List Int → Option Res
noncomputable def A147_1_l6 (g : Y147_1_l6) (k : Nat) (d : sh147_1_l6.den) (K : KL) : Option Res := g d.1.1 d.2.1.2.1 (fun (y1 : List Int) => K (.exit 0) [.tv (.lf (.full 1))] [some ⟨d.2.1.1, [.seq (.int .u8) 0 d.2.1.2.1]⟩, some ⟨false, [.seq (.int .u8) 0 y1]⟩]) k d.1.2.2.1 d.2.2.1.2.1
noncomputable def G147_1_6 (F k : Nat) : LoopS := mkG sh147_1_l6 [2, 7, 8] (outT [(.exit 0, [7])]) (fun d K => A147_1_l6 (f147_1_l6 F) k d K) []
noncomputable def LT147_1 (F : Nat) : Nat → Option LoopS := ltab [(6, G147_1_6 F F)]
theorem L147_1_l6g (F k : Nat) (c190_1 : Y190_1)  (l6 : Y147_1_l6) (X6 : LoopS) (d : sh147_1_l6.den) (K : KL) : A147_1_l6 ((fun (v2 : Int) (v4 : List Int) (K0 : (List Int → Option Res)) (k : Nat) (v3 : Int) (v5 : List Int) => cond (decide (v3 ≥ 0)) (cond (decide (v3 < 0)) none (cond (decide ((v5.length + 1) * 1 ≤ 70368744177664)) (l6 v2 v4 K0 k (IntKind.i64.wrap (v3 - 8)) (v5 ++ [IntKind.u8.wrap (ishr .u64 v2 v3)])) none)) (K0 v5))) k d K = roundOf Tryz.prog (TB147_1 c190_1) (xw []) 35 1 (ltab [(6, X6)]) (mkG sh147_1_l6 [2, 7, 8] (outT [(.exit 0, [7])]) (fun d K => A147_1_l6 l6 k d K) []) b147_0 (encT sh147_1_l6.vs d.1) (encH sh147_1_l6.h d.2) K := by kernel_rfl
theorem L147_1_6 (F : Nat) : LoopOK Tryz.prog (T147_1 F) (xw []) 35 1 (LT147_1 F) (G147_1_6 F F) b147_0 :=
  loopOK_of (s := sh147_1_l6) (live := [2, 7, 8]) (out := (outT [(.exit 0, [7])])) (mv := []) (fun k d K => A147_1_l6 (f147_1_l6 F) k d K) F (fun d K => by kernel_rfl)  (fun k d K => Eq.mp (by kernel_rfl) (L147_1_l6g F k (f190_1 F)  (f147_1_l6 F) (G147_1_6 F F) d K))
theorem E147_1g (F : Nat) (c190_1 : Y190_1) (l6 : Y147_1_l6)  (d : sh147_1.den) (K : KF) : evBody Tryz.prog (TB147_1 c190_1) (xw []) 35 1 (ltab [(6, mkG sh147_1_l6 [2, 7, 8] (outT [(.exit 0, [7])]) (fun d K => A147_1_l6 l6 F d K) [])]) [] false code147 Tryz.f147.results.toList (encT sh147_1.vs d.1) (encH sh147_1.h d.2) K = A147_1 (fun (a1 : Int) (a2 : Int) (a3 : List Int) (K0 : (List Int → Option Res)) => cond (decide ((0 : Int) ≤ (0 : Int) ∧ (0 : Int) ≤ IntKind.i64.wrap (((a3.length : Nat) : Int) + 8) ∧ IntKind.i64.wrap (((a3.length : Nat) : Int) + 8) ≤ 70368744177664 ∧ IntKind.i64.wrap (((a3.length : Nat) : Int) + 8) * 1 ≤ 70368744177664)) (cond (decide ((0 + a3.length) * 1 ≤ 70368744177664)) (c190_1 a1 (fun x1 => cond (!x1) (K0 ((((List.replicate ((IntKind.i64.wrap (((a3.length : Nat) : Int) + 8)).toNat) 0).drop 0).take 0) ++ a3)) (l6 a2 a3 (fun x6 => K0 x6) F (IntKind.i64.wrap (8 * (IntKind.i64.wrap (a1 - 1)))) ((((List.replicate ((IntKind.i64.wrap (((a3.length : Nat) : Int) + 8)).toNat) 0).drop 0).take 0) ++ a3))) ) none) none) d K := by kernel_rfl
theorem E147_1 (F : Nat) (d : sh147_1.den) (K : KF) : evBody Tryz.prog (T147_1 F) (xw []) 35 1 (LT147_1 F) [] false code147 Tryz.f147.results.toList (encT sh147_1.vs d.1) (encH sh147_1.h d.2) K = A147_1 (f147_1 F) d K := Eq.mp (by kernel_rfl) (E147_1g F (f190_1 F) (f147_1_l6 F)  d K)
theorem S147_1_ok (F : Nat) (o : Summ) (ho : SoundFn Tryz.prog 147 o) : SoundFn Tryz.prog 147 (S147_1 F o) :=
  soundFn_of (fn := Tryz.f147) (c := code147) rfl rfl (by kernel_rfl) (tab_cons (S190_1_ok F _ (noS_sound enter190)) tab_nil) (by kernel_rfl) (by kernel_rfl) ho (by rw [loops147]; exact (loopsOK_cons (by kernel_rfl) (L147_1_6 F) loopsOK_nil)) (by rw [scopes147]; exact scopesOK_nil) (by rw [ranges147]; exact rangesOK_nil)  (E147_1 F)
end Go.Proofs.YtlgopekjjkdkiaaGreatDoor.X
end

section
namespace Go.Proofs.YtlgopekjjkdkiaaGreatDoor.X
open Go Go.Proofs.YtlgopekjjkdkiaaGreatDoor.Ev Go.Proofs
set_option linter.unusedVariables false
set_option linter.unusedSectionVars false
/-! crc.entry -/
noncomputable def f226_1_l2 {β : Type} (F : Nat)  (K0 : Int → Option β) : Nat → Int → Int → Option β
  | 0, _, _ => none
  | k + 1, v1, v2 => cond (decide (v2 < 8)) (cond ((iand .u32 v1 1) == 1) (f226_1_l2 F K0 k (ixor .u32 (ishr .u32 v1 1) 2197175160) (IntKind.i64.wrap (v2 + 1))) (f226_1_l2 F K0 k (ishr .u32 v1 1) (IntKind.i64.wrap (v2 + 1)))) (K0 v1)
noncomputable def f226_1 {β : Type} (F : Nat) (a1 : Int) (K0 : Int → Option β) : Option β := f226_1_l2 F  (fun x3 => K0 x3) F a1 0
variable [FZ]
def sh226_1 : Sh := ⟨[.lf (.int .u32)], []⟩
abbrev Y226_1 := Int → (Int → Option Res) → Option Res
noncomputable def A226_1 (g : Y226_1) (d : sh226_1.den) (K : KF) : Option Res := g d.1.1 (fun (y0 : Int) => K [.lf (.int .u32 y0)] [])
noncomputable def S226_1 (F : Nat) (o : Summ) : Summ := mkS sh226_1 (fun d K => A226_1 (f226_1 F) d K) o
noncomputable def code226 : Code := bodyOf Tryz.f226
noncomputable def b226_0 : Code := cB (cB (cR (cL (cR (code226)))))
theorem scopes226 : scopesOf code226 = [] := by kernel_rfl
theorem ranges226 : rangesOf code226 = [] := by kernel_rfl
theorem loops226 : loopsOf code226 = [b226_0] := by kernel_rfl
theorem enter226 : ∀ args w, (callFunc 226 args).run Tryz.prog w = .ok (.enter 226 args) w := enter_of (fn := Tryz.f226) (by kernel_rfl) (by kernel_rfl) (by kernel_rfl)
noncomputable def T226_1 (F : Nat) : FuncId → Option Summ := tab []
noncomputable def TB226_1  : FuncId → Option Summ := tab []
def sh226_1_l2 : Sh := ⟨[.lf (.int .u32), .lf (.int .i64)], []⟩
abbrev Y226_1_l2 := (Int → Option Res) → Nat → Int → Int → Option Res
noncomputable def A226_1_l2 (g : Y226_1_l2) (k : Nat) (d : sh226_1_l2.den) (K : KL) : Option Res := g (fun (y0 : Int) => K (.exit 0) [.tv (.lf (.int .u32 y0))] []) k d.1.1 d.1.2.1
noncomputable def G226_1_2 (F k : Nat) : LoopS := mkG sh226_1_l2 [0, 4] (outT [(.exit 0, [0])]) (fun d K => A226_1_l2 (f226_1_l2 F) k d K) []
noncomputable def LT226_1 (F : Nat) : Nat → Option LoopS := ltab [(2, G226_1_2 F F)]
theorem L226_1_l2g (F k : Nat)   (l2 : Y226_1_l2) (X2 : LoopS) (d : sh226_1_l2.den) (K : KL) : A226_1_l2 ((fun (K0 : (Int → Option Res)) (k : Nat) (v1 : Int) (v2 : Int) => cond (decide (v2 < 8)) (cond ((iand .u32 v1 1) == 1) (l2 K0 k (ixor .u32 (ishr .u32 v1 1) 2197175160) (IntKind.i64.wrap (v2 + 1))) (l2 K0 k (ishr .u32 v1 1) (IntKind.i64.wrap (v2 + 1)))) (K0 v1))) k d K = roundOf Tryz.prog TB226_1 (xw []) 16 0 (ltab [(2, X2)]) (mkG sh226_1_l2 [0, 4] (outT [(.exit 0, [0])]) (fun d K => A226_1_l2 l2 k d K) []) b226_0 (encT sh226_1_l2.vs d.1) (encH sh226_1_l2.h d.2) K := by kernel_rfl
theorem L226_1_2 (F : Nat) : LoopOK Tryz.prog (T226_1 F) (xw []) 16 0 (LT226_1 F) (G226_1_2 F F) b226_0 :=
  loopOK_of (s := sh226_1_l2) (live := [0, 4]) (out := (outT [(.exit 0, [0])])) (mv := []) (fun k d K => A226_1_l2 (f226_1_l2 F) k d K) F (fun d K => by kernel_rfl)  (fun k d K => Eq.mp (by kernel_rfl) (L226_1_l2g F k   (f226_1_l2 F) (G226_1_2 F F) d K))
theorem E226_1g (F : Nat)  (l2 : Y226_1_l2)  (d : sh226_1.den) (K : KF) : evBody Tryz.prog TB226_1 (xw []) 16 0 (ltab [(2, mkG sh226_1_l2 [0, 4] (outT [(.exit 0, [0])]) (fun d K => A226_1_l2 l2 F d K) [])]) [] false code226 Tryz.f226.results.toList (encT sh226_1.vs d.1) (encH sh226_1.h d.2) K = A226_1 (fun (a1 : Int) (K0 : (Int → Option Res)) => l2  (fun x3 => K0 x3) F a1 0) d K := by kernel_rfl
theorem E226_1 (F : Nat) (d : sh226_1.den) (K : KF) : evBody Tryz.prog (T226_1 F) (xw []) 16 0 (LT226_1 F) [] false code226 Tryz.f226.results.toList (encT sh226_1.vs d.1) (encH sh226_1.h d.2) K = A226_1 (f226_1 F) d K := Eq.mp (by kernel_rfl) (E226_1g F  (f226_1_l2 F)  d K)
theorem S226_1_ok (F : Nat) (o : Summ) (ho : SoundFn Tryz.prog 226 o) : SoundFn Tryz.prog 226 (S226_1 F o) :=
  soundFn_of (fn := Tryz.f226) (c := code226) rfl rfl (by kernel_rfl) tab_nil (by kernel_rfl) (by kernel_rfl) ho (by rw [loops226]; exact (loopsOK_cons (by kernel_rfl) (L226_1_2 F) loopsOK_nil)) (by rw [scopes226]; exact scopesOK_nil) (by rw [ranges226]; exact rangesOK_nil)  (E226_1 F)
end Go.Proofs.YtlgopekjjkdkiaaGreatDoor.X
end

section
namespace Go.Proofs.YtlgopekjjkdkiaaGreatDoor.X
open Go Go.Proofs.YtlgopekjjkdkiaaGreatDoor.Ev Go.Proofs
set_option linter.unusedVariables false
set_option linter.unusedSectionVars false
/-! crc.table -/
noncomputable def f215_1_l3 {β : Type} (F : Nat) (v2 : List Int) (K0 : List Int → Option β) : Nat → Int → List Int → Option β
  | 0, _, _ => none
  | k + 1, v1, v3 => cond (decide (v1 < 256)) (f226_1 F (IntKind.u32.wrap v1) (fun x4 => cond (decide ((0 : Int) ≤ v1 ∧ v1 < 256)) (cond (decide (v1.toNat < v3.length)) (f215_1_l3 F v2 K0 k (IntKind.i64.wrap (v1 + 1)) (v3.set v1.toNat x4)) none) none) ) (K0 v3)
noncomputable def f215_1 {β : Type} (F : Nat)  (K0 : List Int → Option β) : Option β := f215_1_l3 F [0, 0, 0, 0, 0, 0, 0, 0, 0, 0, 0, 0, 0, 0, 0, 0, 0, 0, 0, 0, 0, 0, 0, 0, 0, 0, 0, 0, 0, 0, 0, 0, 0, 0, 0, 0, 0, 0, 0, 0, 0, 0, 0, 0, 0, 0, 0, 0, 0, 0, 0, 0, 0, 0, 0, 0, 0, 0, 0, 0, 0, 0, 0, 0, 0, 0, 0, 0, 0, 0, 0, 0, 0, 0, 0, 0, 0, 0, 0, 0, 0, 0, 0, 0, 0, 0, 0, 0, 0, 0, 0, 0, 0, 0, 0, 0, 0, 0, 0, 0, 0, 0, 0, 0, 0, 0, 0, 0, 0, 0, 0, 0, 0, 0, 0, 0, 0, 0, 0, 0, 0, 0, 0, 0, 0, 0, 0, 0, 0, 0, 0, 0, 0, 0, 0, 0, 0, 0, 0, 0, 0, 0, 0, 0, 0, 0, 0, 0, 0, 0, 0, 0, 0, 0, 0, 0, 0, 0, 0, 0, 0, 0, 0, 0, 0, 0, 0, 0, 0, 0, 0, 0, 0, 0, 0, 0, 0, 0, 0, 0, 0, 0, 0, 0, 0, 0, 0, 0, 0, 0, 0, 0, 0, 0, 0, 0, 0, 0, 0, 0, 0, 0, 0, 0, 0, 0, 0, 0, 0, 0, 0, 0, 0, 0, 0, 0, 0, 0, 0, 0, 0, 0, 0, 0, 0, 0, 0, 0, 0, 0, 0, 0, 0, 0, 0, 0, 0, 0, 0, 0, 0, 0, 0, 0, 0, 0, 0, 0, 0, 0, 0, 0, 0, 0, 0, 0] (fun x5 => K0 x5) F 0 [0, 0, 0, 0, 0, 0, 0, 0, 0, 0, 0, 0, 0, 0, 0, 0, 0, 0, 0, 0, 0, 0, 0, 0, 0, 0, 0, 0, 0, 0, 0, 0, 0, 0, 0, 0, 0, 0, 0, 0, 0, 0, 0, 0, 0, 0, 0, 0, 0, 0, 0, 0, 0, 0, 0, 0, 0, 0, 0, 0, 0, 0, 0, 0, 0, 0, 0, 0, 0, 0, 0, 0, 0, 0, 0, 0, 0, 0, 0, 0, 0, 0, 0, 0, 0, 0, 0, 0, 0, 0, 0, 0, 0, 0, 0, 0, 0, 0, 0, 0, 0, 0, 0, 0, 0, 0, 0, 0, 0, 0, 0, 0, 0, 0, 0, 0, 0, 0, 0, 0, 0, 0, 0, 0, 0, 0, 0, 0, 0, 0, 0, 0, 0, 0, 0, 0, 0, 0, 0, 0, 0, 0, 0, 0, 0, 0, 0, 0, 0, 0, 0, 0, 0, 0, 0, 0, 0, 0, 0, 0, 0, 0, 0, 0, 0, 0, 0, 0, 0, 0, 0, 0, 0, 0, 0, 0, 0, 0, 0, 0, 0, 0, 0, 0, 0, 0, 0, 0, 0, 0, 0, 0, 0, 0, 0, 0, 0, 0, 0, 0, 0, 0, 0, 0, 0, 0, 0, 0, 0, 0, 0, 0, 0, 0, 0, 0, 0, 0, 0, 0, 0, 0, 0, 0, 0, 0, 0, 0, 0, 0, 0, 0, 0, 0, 0, 0, 0, 0, 0, 0, 0, 0, 0, 0, 0, 0, 0, 0, 0, 0, 0, 0, 0, 0, 0, 0]
variable [FZ]
def sh215_1 : Sh := ⟨[], []⟩
abbrev Y215_1 := (List Int → Option Res) → Option Res
noncomputable def A215_1 (g : Y215_1) (d : sh215_1.den) (K : KF) : Option Res := g (fun (y0 : List Int) => K [.agg [.seq (.int .u32) 256 y0]] [])
noncomputable def S215_1 (F : Nat) (o : Summ) : Summ := mkS sh215_1 (fun d K => A215_1 (f215_1 F) d K) o
noncomputable def code215 : Code := bodyOf Tryz.f215
noncomputable def b215_0 : Code := cB (cB (cR (cL (cR (cR (code215))))))
theorem scopes215 : scopesOf code215 = [] := by kernel_rfl
theorem ranges215 : rangesOf code215 = [] := by kernel_rfl
theorem loops215 : loopsOf code215 = [b215_0] := by kernel_rfl
theorem enter215 : ∀ args w, (callFunc 215 args).run Tryz.prog w = .ok (.enter 215 args) w := enter_of (fn := Tryz.f215) (by kernel_rfl) (by kernel_rfl) (by kernel_rfl)
noncomputable def T215_1 (F : Nat) : FuncId → Option Summ := tab [(226, (S226_1 F noS))]
noncomputable def TB215_1 (c226_1 : Y226_1) : FuncId → Option Summ := tab [(226, (mkS sh226_1 (fun d K => A226_1 c226_1 d K) noS))]
def sh215_1_l3 : Sh := ⟨[.lf (.ptr 0 0), .lf (.ptr 1 0), .lf (.int .i64)], [some ⟨some false, [.seq (.int .u32) 256]⟩, some ⟨some false, [.seq (.int .u32) 256]⟩]⟩
abbrev Y215_1_l3 := List Int → (List Int → Option Res) → Nat → Int → List Int → Option Res
noncomputable def A215_1_l3 (g : Y215_1_l3) (k : Nat) (d : sh215_1_l3.den) (K : KL) : Option Res := g d.2.1.2.1 (fun (y1 : List Int) => K (.exit 0) [.tv (.lf (.ptr 0 0)), .tv (.lf (.ptr 1 0))] [some ⟨false, [.seq (.int .u32) 256 d.2.1.2.1]⟩, some ⟨false, [.seq (.int .u32) 256 y1]⟩]) k d.1.2.2.1 d.2.2.1.2.1
noncomputable def G215_1_3 (F k : Nat) : LoopS := mkG sh215_1_l3 [0, 1, 3] (outT [(.exit 0, [0, 1])]) (fun d K => A215_1_l3 (f215_1_l3 F) k d K) []
noncomputable def LT215_1 (F : Nat) : Nat → Option LoopS := ltab [(3, G215_1_3 F F)]
theorem L215_1_l3g (F k : Nat) (c226_1 : Y226_1)  (l3 : Y215_1_l3) (X3 : LoopS) (d : sh215_1_l3.den) (K : KL) : A215_1_l3 ((fun (v2 : List Int) (K0 : (List Int → Option Res)) (k : Nat) (v1 : Int) (v3 : List Int) => cond (decide (v1 < 256)) (c226_1 (IntKind.u32.wrap v1) (fun x4 => cond (decide ((0 : Int) ≤ v1 ∧ v1 < 256)) (cond (decide (v1.toNat < v3.length)) (l3 v2 K0 k (IntKind.i64.wrap (v1 + 1)) (v3.set v1.toNat x4)) none) none) ) (K0 v3))) k d K = roundOf Tryz.prog (TB215_1 c226_1) (xw []) 13 0 (ltab [(3, X3)]) (mkG sh215_1_l3 [0, 1, 3] (outT [(.exit 0, [0, 1])]) (fun d K => A215_1_l3 l3 k d K) []) b215_0 (encT sh215_1_l3.vs d.1) (encH sh215_1_l3.h d.2) K := by kernel_rfl
theorem L215_1_3 (F : Nat) : LoopOK Tryz.prog (T215_1 F) (xw []) 13 0 (LT215_1 F) (G215_1_3 F F) b215_0 :=
  loopOK_of (s := sh215_1_l3) (live := [0, 1, 3]) (out := (outT [(.exit 0, [0, 1])])) (mv := []) (fun k d K => A215_1_l3 (f215_1_l3 F) k d K) F (fun d K => by kernel_rfl)  (fun k d K => Eq.mp (by kernel_rfl) (L215_1_l3g F k (f226_1 F)  (f215_1_l3 F) (G215_1_3 F F) d K))
theorem E215_1g (F : Nat) (c226_1 : Y226_1) (l3 : Y215_1_l3)  (d : sh215_1.den) (K : KF) : evBody Tryz.prog (TB215_1 c226_1) (xw []) 13 0 (ltab [(3, mkG sh215_1_l3 [0, 1, 3] (outT [(.exit 0, [0, 1])]) (fun d K => A215_1_l3 l3 F d K) [])]) [] false code215 Tryz.f215.results.toList (encT sh215_1.vs d.1) (encH sh215_1.h d.2) K = A215_1 (fun (K0 : (List Int → Option Res)) => l3 [0, 0, 0, 0, 0, 0, 0, 0, 0, 0, 0, 0, 0, 0, 0, 0, 0, 0, 0, 0, 0, 0, 0, 0, 0, 0, 0, 0, 0, 0, 0, 0, 0, 0, 0, 0, 0, 0, 0, 0, 0, 0, 0, 0, 0, 0, 0, 0, 0, 0, 0, 0, 0, 0, 0, 0, 0, 0, 0, 0, 0, 0, 0, 0, 0, 0, 0, 0, 0, 0, 0, 0, 0, 0, 0, 0, 0, 0, 0, 0, 0, 0, 0, 0, 0, 0, 0, 0, 0, 0, 0, 0, 0, 0, 0, 0, 0, 0, 0, 0, 0, 0, 0, 0, 0, 0, 0, 0, 0, 0, 0, 0, 0, 0, 0, 0, 0, 0, 0, 0, 0, 0, 0, 0, 0, 0, 0, 0, 0, 0, 0, 0, 0, 0, 0, 0, 0, 0, 0, 0, 0, 0, 0, 0, 0, 0, 0, 0, 0, 0, 0, 0, 0, 0, 0, 0, 0, 0, 0, 0, 0, 0, 0, 0, 0, 0, 0, 0, 0, 0, 0, 0, 0, 0, 0, 0, 0, 0, 0, 0, 0, 0, 0, 0, 0, 0, 0, 0, 0, 0, 0, 0, 0, 0, 0, 0, 0, 0, 0, 0, 0, 0, 0, 0, 0, 0, 0, 0, 0, 0, 0, 0, 0, 0, 0, 0, 0, 0, 0, 0, 0, 0, 0, 0, 0, 0, 0, 0, 0, 0, 0, 0, 0, 0, 0, 0, 0, 0, 0, 0, 0, 0, 0, 0, 0, 0, 0, 0, 0, 0, 0, 0, 0, 0, 0, 0] (fun x5 => K0 x5) F 0 [0, 0, 0, 0, 0, 0, 0, 0, 0, 0, 0, 0, 0, 0, 0, 0, 0, 0, 0, 0, 0, 0, 0, 0, 0, 0, 0, 0, 0, 0, 0, 0, 0, 0, 0, 0, 0, 0, 0, 0, 0, 0, 0, 0, 0, 0, 0, 0, 0, 0, 0, 0, 0, 0, 0, 0, 0, 0, 0, 0, 0, 0, 0, 0, 0, 0, 0, 0, 0, 0, 0, 0, 0, 0, 0, 0, 0, 0, 0, 0, 0, 0, 0, 0, 0, 0, 0, 0, 0, 0, 0, 0, 0, 0, 0, 0, 0, 0, 0, 0, 0, 0, 0, 0, 0, 0, 0, 0, 0, 0, 0, 0, 0, 0, 0, 0, 0, 0, 0, 0, 0, 0, 0, 0, 0, 0, 0, 0, 0, 0, 0, 0, 0, 0, 0, 0, 0, 0, 0, 0, 0, 0, 0, 0, 0, 0, 0, 0, 0, 0, 0, 0, 0, 0, 0, 0, 0, 0, 0, 0, 0, 0, 0, 0, 0, 0, 0, 0, 0, 0, 0, 0, 0, 0, 0, 0, 0, 0, 0, 0, 0, 0, 0, 0, 0, 0, 0, 0, 0, 0, 0, 0, 0, 0, 0, 0, 0, 0, 0, 0, 0, 0, 0, 0, 0, 0, 0, 0, 0, 0, 0, 0, 0, 0, 0, 0, 0, 0, 0, 0, 0, 0, 0, 0, 0, 0, 0, 0, 0, 0, 0, 0, 0, 0, 0, 0, 0, 0, 0, 0, 0, 0, 0, 0, 0, 0, 0, 0, 0, 0, 0, 0, 0, 0, 0, 0]) d K := by kernel_rfl
theorem E215_1 (F : Nat) (d : sh215_1.den) (K : KF) : evBody Tryz.prog (T215_1 F) (xw []) 13 0 (LT215_1 F) [] false code215 Tryz.f215.results.toList (encT sh215_1.vs d.1) (encH sh215_1.h d.2) K = A215_1 (f215_1 F) d K := Eq.mp (by kernel_rfl) (E215_1g F (f226_1 F) (f215_1_l3 F)  d K)
theorem S215_1_ok (F : Nat) (o : Summ) (ho : SoundFn Tryz.prog 215 o) : SoundFn Tryz.prog 215 (S215_1 F o) :=
  soundFn_of (fn := Tryz.f215) (c := code215) rfl rfl (by kernel_rfl) (tab_cons (S226_1_ok F _ (noS_sound enter226)) tab_nil) (by kernel_rfl) (by kernel_rfl) ho (by rw [loops215]; exact (loopsOK_cons (by kernel_rfl) (L215_1_3 F) loopsOK_nil)) (by rw [scopes215]; exact scopesOK_nil) (by rw [ranges215]; exact rangesOK_nil)  (E215_1 F)
end Go.Proofs.YtlgopekjjkdkiaaGreatDoor.X
end

section
namespace Go.Proofs.YtlgopekjjkdkiaaGreatDoor.X
open Go Go.Proofs.YtlgopekjjkdkiaaGreatDoor.Ev Go.Proofs
set_option linter.unusedVariables false
set_option linter.unusedSectionVars false
/-! crc.Add -/
noncomputable def f191_1_l4 {β : Type} (F : Nat) (v3 : Int) (v5 : List Int) (v6 : List Int) (K0 : Int → Option β) : Nat → Int → Int → Option β
  | 0, _, _ => none
  | k + 1, v2, v4 => cond (decide (v4 < v3)) (cond (decide ((0 : Int) ≤ v4 ∧ v4 < ((v5.length : Nat) : Int))) (cond (decide (0 + v4.toNat < v5.length)) (cond (decide ((0 : Int) ≤ ixor .u8 (IntKind.u8.wrap v2) (v5.getD (0 + v4.toNat) 0) ∧ ixor .u8 (IntKind.u8.wrap v2) (v5.getD (0 + v4.toNat) 0) < 256)) (cond (decide ((ixor .u8 (IntKind.u8.wrap v2) (v5.getD (0 + v4.toNat) 0)).toNat < v6.length)) (f191_1_l4 F v3 v5 v6 K0 k (ixor .u32 (ishr .u32 v2 8) (v6.getD ((ixor .u8 (IntKind.u8.wrap v2) (v5.getD (0 + v4.toNat) 0)).toNat) 0)) (IntKind.i64.wrap (v4 + 1))) none) none) none) none) (K0 v2)
noncomputable def f191_1 {β : Type} (F : Nat) (a1 : Int) (a2 : List Int) (K0 : Int → Option β) : Option β := f215_1 F  (fun x1 => f191_1_l4 F ((a2.length : Nat) : Int) a2 x1 (fun x7 => K0 (ixor .u32 4294967295 x7)) F (ixor .u32 4294967295 a1) 0) 
variable [FZ]
def sh191_1 : Sh := ⟨[.lf (.int .u32), .lf (.full 0)], [some ⟨none, [.seq (.int .u8) 0]⟩]⟩
abbrev Y191_1 := Int → List Int → (Int → Option Res) → Option Res
noncomputable def A191_1 (g : Y191_1) (d : sh191_1.den) (K : KF) : Option Res := g d.1.1 d.2.1.2.1 (fun (y0 : Int) => K [.lf (.int .u32 y0)] [some ⟨d.2.1.1, [.seq (.int .u8) 0 d.2.1.2.1]⟩])
noncomputable def S191_1 (F : Nat) (o : Summ) : Summ := mkS sh191_1 (fun d K => A191_1 (f191_1 F) d K) o
noncomputable def code191 : Code := bodyOf Tryz.f191
noncomputable def b191_0 : Code := cB (cB (cR (cL (cR (cR (cR (code191)))))))
theorem scopes191 : scopesOf code191 = [] := by kernel_rfl
theorem ranges191 : rangesOf code191 = [] := by kernel_rfl
theorem loops191 : loopsOf code191 = [b191_0] := by kernel_rfl
theorem enter191 : ∀ args w, (callFunc 191 args).run Tryz.prog w = .ok (.enter 191 args) w := enter_of (fn := Tryz.f191) (by kernel_rfl) (by kernel_rfl) (by kernel_rfl)
noncomputable def T191_1 (F : Nat) : FuncId → Option Summ := tab [(215, (S215_1 F noS))]
noncomputable def TB191_1 (c215_1 : Y215_1) : FuncId → Option Summ := tab [(215, (mkS sh215_1 (fun d K => A215_1 c215_1 d K) noS))]
def sh191_1_l4 : Sh := ⟨[.lf (.ptr 1 0), .lf (.int .u32), .lf (.full 0), .lf (.int .i64), .lf (.int .i64)], [some ⟨none, [.seq (.int .u8) 0]⟩, some ⟨some false, [.seq (.int .u32) 256]⟩]⟩
abbrev Y191_1_l4 := Int → List Int → List Int → (Int → Option Res) → Nat → Int → Int → Option Res
noncomputable def A191_1_l4 (g : Y191_1_l4) (k : Nat) (d : sh191_1_l4.den) (K : KL) : Option Res := g d.1.2.2.2.1 d.2.1.2.1 d.2.2.1.2.1 (fun (y0 : Int) => K (.exit 0) [.tv (.lf (.int .u32 y0))] [some ⟨d.2.1.1, [.seq (.int .u8) 0 d.2.1.2.1]⟩, some ⟨false, [.seq (.int .u32) 256 d.2.2.1.2.1]⟩]) k d.1.2.1 d.1.2.2.2.2.1
noncomputable def G191_1_4 (F k : Nat) : LoopS := mkG sh191_1_l4 [5, 6, 12, 13, 14] (outT [(.exit 0, [6])]) (fun d K => A191_1_l4 (f191_1_l4 F) k d K) []
noncomputable def LT191_1 (F : Nat) : Nat → Option LoopS := ltab [(4, G191_1_4 F F)]
theorem L191_1_l4g (F k : Nat) (c215_1 : Y215_1)  (l4 : Y191_1_l4) (X4 : LoopS) (d : sh191_1_l4.den) (K : KL) : A191_1_l4 ((fun (v3 : Int) (v5 : List Int) (v6 : List Int) (K0 : (Int → Option Res)) (k : Nat) (v2 : Int) (v4 : Int) => cond (decide (v4 < v3)) (cond (decide ((0 : Int) ≤ v4 ∧ v4 < ((v5.length : Nat) : Int))) (cond (decide (0 + v4.toNat < v5.length)) (cond (decide ((0 : Int) ≤ ixor .u8 (IntKind.u8.wrap v2) (v5.getD (0 + v4.toNat) 0) ∧ ixor .u8 (IntKind.u8.wrap v2) (v5.getD (0 + v4.toNat) 0) < 256)) (cond (decide ((ixor .u8 (IntKind.u8.wrap v2) (v5.getD (0 + v4.toNat) 0)).toNat < v6.length)) (l4 v3 v5 v6 K0 k (ixor .u32 (ishr .u32 v2 8) (v6.getD ((ixor .u8 (IntKind.u8.wrap v2) (v5.getD (0 + v4.toNat) 0)).toNat) 0)) (IntKind.i64.wrap (v4 + 1))) none) none) none) none) (K0 v2))) k d K = roundOf Tryz.prog (TB191_1 c215_1) (xw []) 30 1 (ltab [(4, X4)]) (mkG sh191_1_l4 [5, 6, 12, 13, 14] (outT [(.exit 0, [6])]) (fun d K => A191_1_l4 l4 k d K) []) b191_0 (encT sh191_1_l4.vs d.1) (encH sh191_1_l4.h d.2) K := by kernel_rfl
theorem L191_1_4 (F : Nat) : LoopOK Tryz.prog (T191_1 F) (xw []) 30 1 (LT191_1 F) (G191_1_4 F F) b191_0 :=
  loopOK_of (s := sh191_1_l4) (live := [5, 6, 12, 13, 14]) (out := (outT [(.exit 0, [6])])) (mv := []) (fun k d K => A191_1_l4 (f191_1_l4 F) k d K) F (fun d K => by kernel_rfl)  (fun k d K => Eq.mp (by kernel_rfl) (L191_1_l4g F k (f215_1 F)  (f191_1_l4 F) (G191_1_4 F F) d K))
theorem E191_1g (F : Nat) (c215_1 : Y215_1) (l4 : Y191_1_l4)  (d : sh191_1.den) (K : KF) : evBody Tryz.prog (TB191_1 c215_1) (xw []) 30 1 (ltab [(4, mkG sh191_1_l4 [5, 6, 12, 13, 14] (outT [(.exit 0, [6])]) (fun d K => A191_1_l4 l4 F d K) [])]) [] false code191 Tryz.f191.results.toList (encT sh191_1.vs d.1) (encH sh191_1.h d.2) K = A191_1 (fun (a1 : Int) (a2 : List Int) (K0 : (Int → Option Res)) => c215_1  (fun x1 => l4 ((a2.length : Nat) : Int) a2 x1 (fun x7 => K0 (ixor .u32 4294967295 x7)) F (ixor .u32 4294967295 a1) 0) ) d K := by kernel_rfl
theorem E191_1 (F : Nat) (d : sh191_1.den) (K : KF) : evBody Tryz.prog (T191_1 F) (xw []) 30 1 (LT191_1 F) [] false code191 Tryz.f191.results.toList (encT sh191_1.vs d.1) (encH sh191_1.h d.2) K = A191_1 (f191_1 F) d K := Eq.mp (by kernel_rfl) (E191_1g F (f215_1 F) (f191_1_l4 F)  d K)
theorem S191_1_ok (F : Nat) (o : Summ) (ho : SoundFn Tryz.prog 191 o) : SoundFn Tryz.prog 191 (S191_1 F o) :=
  soundFn_of (fn := Tryz.f191) (c := code191) rfl rfl (by kernel_rfl) (tab_cons (S215_1_ok F _ (noS_sound enter215)) tab_nil) (by kernel_rfl) (by kernel_rfl) ho (by rw [loops191]; exact (loopsOK_cons (by kernel_rfl) (L191_1_4 F) loopsOK_nil)) (by rw [scopes191]; exact scopesOK_nil) (by rw [ranges191]; exact rangesOK_nil)  (E191_1 F)
end Go.Proofs.YtlgopekjjkdkiaaGreatDoor.X
end

section
namespace Go.Proofs.YtlgopekjjkdkiaaGreatDoor.X
open Go Go.Proofs.YtlgopekjjkdkiaaGreatDoor.Ev Go.Proofs
set_option linter.unusedVariables false
set_option linter.unusedSectionVars false
/-! crc.Sum -/
noncomputable def f148_1 {β : Type} (F : Nat) (a1 : List Int) (K0 : Int → Option β) : Option β := f191_1 F 0 a1 (fun x1 => K0 x1) 
variable [FZ]
def sh148_1 : Sh := ⟨[.lf (.full 0)], [some ⟨none, [.seq (.int .u8) 0]⟩]⟩
abbrev Y148_1 := List Int → (Int → Option Res) → Option Res
noncomputable def A148_1 (g : Y148_1) (d : sh148_1.den) (K : KF) : Option Res := g d.2.1.2.1 (fun (y0 : Int) => K [.lf (.int .u32 y0)] [some ⟨d.2.1.1, [.seq (.int .u8) 0 d.2.1.2.1]⟩])
noncomputable def S148_1 (F : Nat) (o : Summ) : Summ := mkS sh148_1 (fun d K => A148_1 (f148_1 F) d K) o
noncomputable def code148 : Code := bodyOf Tryz.f148
theorem scopes148 : scopesOf code148 = [] := by kernel_rfl
theorem ranges148 : rangesOf code148 = [] := by kernel_rfl
theorem loops148 : loopsOf code148 = [] := by kernel_rfl
theorem enter148 : ∀ args w, (callFunc 148 args).run Tryz.prog w = .ok (.enter 148 args) w := enter_of (fn := Tryz.f148) (by kernel_rfl) (by kernel_rfl) (by kernel_rfl)
noncomputable def T148_1 (F : Nat) : FuncId → Option Summ := tab [(191, (S191_1 F noS))]
noncomputable def TB148_1 (c191_1 : Y191_1) : FuncId → Option Summ := tab [(191, (mkS sh191_1 (fun d K => A191_1 c191_1 d K) noS))]
noncomputable def LT148_1 (F : Nat) : Nat → Option LoopS := ltab []
theorem E148_1g (F : Nat) (c191_1 : Y191_1)   (d : sh148_1.den) (K : KF) : evBody Tryz.prog (TB148_1 c191_1) (xw []) 5 1 (ltab []) [] false code148 Tryz.f148.results.toList (encT sh148_1.vs d.1) (encH sh148_1.h d.2) K = A148_1 (fun (a1 : List Int) (K0 : (Int → Option Res)) => c191_1 0 a1 (fun x1 => K0 x1) ) d K := by kernel_rfl
theorem E148_1 (F : Nat) (d : sh148_1.den) (K : KF) : evBody Tryz.prog (T148_1 F) (xw []) 5 1 (LT148_1 F) [] false code148 Tryz.f148.results.toList (encT sh148_1.vs d.1) (encH sh148_1.h d.2) K = A148_1 (f148_1 F) d K := Eq.mp (by kernel_rfl) (E148_1g F (f191_1 F)   d K)
theorem S148_1_ok (F : Nat) (o : Summ) (ho : SoundFn Tryz.prog 148 o) : SoundFn Tryz.prog 148 (S148_1 F o) :=
  soundFn_of (fn := Tryz.f148) (c := code148) rfl rfl (by kernel_rfl) (tab_cons (S191_1_ok F _ (noS_sound enter191)) tab_nil) (by kernel_rfl) (by kernel_rfl) ho (by rw [loops148]; exact loopsOK_nil) (by rw [scopes148]; exact scopesOK_nil) (by rw [ranges148]; exact rangesOK_nil)  (E148_1 F)
end Go.Proofs.YtlgopekjjkdkiaaGreatDoor.X
end

section
namespace Go.Proofs.YtlgopekjjkdkiaaGreatDoor.X
open Go Go.Proofs.YtlgopekjjkdkiaaGreatDoor.Ev Go.Proofs
set_option linter.unusedVariables false
set_option linter.unusedSectionVars false
/-! rec.sum -/
noncomputable def f146_1 {β : Type} (F : Nat) (a1 : ByteArray) (K0 : ByteArray → Option β) : Option β := cond (decide ((0 : Int) ≤ (0 : Int) ∧ (0 : Int) ≤ (60 : Int) ∧ (60 : Int) ≤ (a1.size : Int))) (f148_1 F (toInts (a1.extract 0 60)) (fun x1 => f147_1 F 4 (IntKind.u64.wrap x1) [] (fun x2 => K0 (ofInts x2)) ) ) none
variable [FZ]
def sh146_1 : Sh := ⟨[.lf (.str)], []⟩
abbrev Y146_1 := ByteArray → (ByteArray → Option Res) → Option Res
noncomputable def A146_1 (g : Y146_1) (d : sh146_1.den) (K : KF) : Option Res := g d.1.1 (fun (y0 : ByteArray) => K [.lf (.str y0)] [])
noncomputable def S146_1 (F : Nat) (o : Summ) : Summ := mkS sh146_1 (fun d K => A146_1 (f146_1 F) d K) o
noncomputable def code146 : Code := bodyOf Tryz.f146
theorem scopes146 : scopesOf code146 = [] := by kernel_rfl
theorem ranges146 : rangesOf code146 = [] := by kernel_rfl
theorem loops146 : loopsOf code146 = [] := by kernel_rfl
theorem enter146 : ∀ args w, (callFunc 146 args).run Tryz.prog w = .ok (.enter 146 args) w := enter_of (fn := Tryz.f146) (by kernel_rfl) (by kernel_rfl) (by kernel_rfl)
noncomputable def T146_1 (F : Nat) : FuncId → Option Summ := tab [(147, (S147_1 F noS)), (148, (S148_1 F noS))]
noncomputable def TB146_1 (c147_1 : Y147_1) (c148_1 : Y148_1) : FuncId → Option Summ := tab [(147, (mkS sh147_1 (fun d K => A147_1 c147_1 d K) noS)), (148, (mkS sh148_1 (fun d K => A148_1 c148_1 d K) noS))]
noncomputable def LT146_1 (F : Nat) : Nat → Option LoopS := ltab []
theorem E146_1g (F : Nat) (c147_1 : Y147_1) (c148_1 : Y148_1)   (d : sh146_1.den) (K : KF) : evBody Tryz.prog (TB146_1 c147_1 c148_1) (xw []) 10 0 (ltab []) [] false code146 Tryz.f146.results.toList (encT sh146_1.vs d.1) (encH sh146_1.h d.2) K = A146_1 (fun (a1 : ByteArray) (K0 : (ByteArray → Option Res)) => cond (decide ((0 : Int) ≤ (0 : Int) ∧ (0 : Int) ≤ (60 : Int) ∧ (60 : Int) ≤ (a1.size : Int))) (c148_1 (toInts (a1.extract 0 60)) (fun x1 => c147_1 4 (IntKind.u64.wrap x1) [] (fun x2 => K0 (ofInts x2)) ) ) none) d K := by kernel_rfl
theorem E146_1 (F : Nat) (d : sh146_1.den) (K : KF) : evBody Tryz.prog (T146_1 F) (xw []) 10 0 (LT146_1 F) [] false code146 Tryz.f146.results.toList (encT sh146_1.vs d.1) (encH sh146_1.h d.2) K = A146_1 (f146_1 F) d K := Eq.mp (by kernel_rfl) (E146_1g F (f147_1 F) (f148_1 F)   d K)
theorem S146_1_ok (F : Nat) (o : Summ) (ho : SoundFn Tryz.prog 146 o) : SoundFn Tryz.prog 146 (S146_1 F o) :=
  soundFn_of (fn := Tryz.f146) (c := code146) rfl rfl (by kernel_rfl) (tab_cons (S147_1_ok F _ (noS_sound enter147)) (tab_cons (S148_1_ok F _ (noS_sound enter148)) tab_nil)) (by kernel_rfl) (by kernel_rfl) ho (by rw [loops146]; exact loopsOK_nil) (by rw [scopes146]; exact scopesOK_nil) (by rw [ranges146]; exact rangesOK_nil)  (E146_1 F)
end Go.Proofs.YtlgopekjjkdkiaaGreatDoor.X
end

section
namespace Go.Proofs.YtlgopekjjkdkiaaGreatDoor.X
open Go Go.Proofs.YtlgopekjjkdkiaaGreatDoor.Ev Go.Proofs
set_option linter.unusedVariables false
set_option linter.unusedSectionVars false
/-! rec.Make -/
noncomputable def f94_1 {β : Type} (F : Nat) (a1 : Int) (a2 : ByteArray) (K0 : ByteArray → Int → Option β) : Option β := cond (decide (a1 < 1)) (K0 ByteArray.empty 22) (cond (decide (a1 > 8)) (K0 ByteArray.empty 22) (cond (decide ((a2.size : Int) > 58)) (K0 ByteArray.empty 8) (cond (decide ((ofInts [IntKind.u8.wrap a1, IntKind.u8.wrap (a2.size : Int)]).size + a2.size ≤ 4611686018427387904)) (f145_1 F (⟨#[0]⟩ : ByteArray) (IntKind.i64.wrap (60 - (((ofInts [IntKind.u8.wrap a1, IntKind.u8.wrap (a2.size : Int)]) ++ a2).size : Int))) (fun x1 => cond (decide (((ofInts [IntKind.u8.wrap a1, IntKind.u8.wrap (a2.size : Int)]) ++ a2).size + x1.size ≤ 4611686018427387904)) (f146_1 F (((ofInts [IntKind.u8.wrap a1, IntKind.u8.wrap (a2.size : Int)]) ++ a2) ++ x1) (fun x2 => cond (decide ((((ofInts [IntKind.u8.wrap a1, IntKind.u8.wrap (a2.size : Int)]) ++ a2) ++ x1).size + x2.size ≤ 4611686018427387904)) (K0 ((((ofInts [IntKind.u8.wrap a1, IntKind.u8.wrap (a2.size : Int)]) ++ a2) ++ x1) ++ x2) 0) none) ) none) ) none)))
variable [FZ]
def sh94_1 : Sh := ⟨[.lf (.int .i64), .lf (.str)], []⟩
abbrev Y94_1 := Int → ByteArray → (ByteArray → Int → Option Res) → Option Res
noncomputable def A94_1 (g : Y94_1) (d : sh94_1.den) (K : KF) : Option Res := g d.1.1 d.1.2.1 (fun (y0 : ByteArray) (y1 : Int) => K [.lf (.str y0), .lf (.int .i64 y1)] [])
noncomputable def S94_1 (F : Nat) (o : Summ) : Summ := mkS sh94_1 (fun d K => A94_1 (f94_1 F) d K) o
noncomputable def code94 : Code := bodyOf Tryz.f94
theorem scopes94 : scopesOf code94 = [] := by kernel_rfl
theorem ranges94 : rangesOf code94 = [] := by kernel_rfl
theorem loops94 : loopsOf code94 = [] := by kernel_rfl
theorem enter94 : ∀ args w, (callFunc 94 args).run Tryz.prog w = .ok (.enter 94 args) w := enter_of (fn := Tryz.f94) (by kernel_rfl) (by kernel_rfl) (by kernel_rfl)
noncomputable def T94_1 (F : Nat) : FuncId → Option Summ := tab [(145, (S145_1 F noS)), (146, (S146_1 F noS))]
noncomputable def TB94_1 (c145_1 : ByteArray → Int → (ByteArray → Option Res) → Option Res) (c146_1 : Y146_1) : FuncId → Option Summ := tab [(145, (mkS sh145_1 (fun d K => c145_1 d.1.1 d.1.2.1 (fun (y0 : ByteArray) => K [.lf (.str y0)] [])) noS)), (146, (mkS sh146_1 (fun d K => A146_1 c146_1 d K) noS))]
noncomputable def LT94_1 (F : Nat) : Nat → Option LoopS := ltab []
theorem E94_1g (F : Nat) (c145_1 : ByteArray → Int → (ByteArray → Option Res) → Option Res) (c146_1 : Y146_1)   (d : sh94_1.den) (K : KF) : evBody Tryz.prog (TB94_1 c145_1 c146_1) (xw []) 37 0 (ltab []) [] false code94 Tryz.f94.results.toList (encT sh94_1.vs d.1) (encH sh94_1.h d.2) K = A94_1 (fun (a1 : Int) (a2 : ByteArray) (K0 : (ByteArray → Int → Option Res)) => cond (decide (a1 < 1)) (K0 ByteArray.empty 22) (cond (decide (a1 > 8)) (K0 ByteArray.empty 22) (cond (decide ((a2.size : Int) > 58)) (K0 ByteArray.empty 8) (cond (decide ((ofInts [IntKind.u8.wrap a1, IntKind.u8.wrap (a2.size : Int)]).size + a2.size ≤ 4611686018427387904)) (c145_1 (⟨#[0]⟩ : ByteArray) (IntKind.i64.wrap (60 - (((ofInts [IntKind.u8.wrap a1, IntKind.u8.wrap (a2.size : Int)]) ++ a2).size : Int))) (fun x1 => cond (decide (((ofInts [IntKind.u8.wrap a1, IntKind.u8.wrap (a2.size : Int)]) ++ a2).size + x1.size ≤ 4611686018427387904)) (c146_1 (((ofInts [IntKind.u8.wrap a1, IntKind.u8.wrap (a2.size : Int)]) ++ a2) ++ x1) (fun x2 => cond (decide ((((ofInts [IntKind.u8.wrap a1, IntKind.u8.wrap (a2.size : Int)]) ++ a2) ++ x1).size + x2.size ≤ 4611686018427387904)) (K0 ((((ofInts [IntKind.u8.wrap a1, IntKind.u8.wrap (a2.size : Int)]) ++ a2) ++ x1) ++ x2) 0) none) ) none) ) none)))) d K := by kernel_rfl
theorem E94_1 (F : Nat) (d : sh94_1.den) (K : KF) : evBody Tryz.prog (T94_1 F) (xw []) 37 0 (LT94_1 F) [] false code94 Tryz.f94.results.toList (encT sh94_1.vs d.1) (encH sh94_1.h d.2) K = A94_1 (f94_1 F) d K := Eq.mp (by kernel_rfl) (E94_1g F (f145_1 F) (f146_1 F)   d K)
theorem S94_1_ok (F : Nat) (o : Summ) (ho : SoundFn Tryz.prog 94 o) : SoundFn Tryz.prog 94 (S94_1 F o) :=
  soundFn_of (fn := Tryz.f94) (c := code94) rfl rfl (by kernel_rfl) (tab_cons (S145_1_ok F _ (noS_sound enter145)) (tab_cons (S146_1_ok F _ (noS_sound enter146)) tab_nil)) (by kernel_rfl) (by kernel_rfl) ho (by rw [loops94]; exact loopsOK_nil) (by rw [scopes94]; exact scopesOK_nil) (by rw [ranges94]; exact rangesOK_nil)  (E94_1 F)
end Go.Proofs.YtlgopekjjkdkiaaGreatDoor.X
end

section
namespace Go.Proofs.YtlgopekjjkdkiaaGreatDoor.X
open Go Go.Proofs.YtlgopekjjkdkiaaGreatDoor.Ev Go.Proofs
set_option linter.unusedVariables false
set_option linter.unusedSectionVars false
/-! undo.head -/
noncomputable def f95_1_l4 {β : Type} (F : Nat) (v4 : Int) (v7 : List Int) (K0 : List Int → Option β) : Nat → Int → List Int → Option β
  | 0, _, _ => none
  | k + 1, v5, v6 => cond (decide (v5 < v4)) (cond (decide ((0 : Int) ≤ v5 ∧ v5 < ((v7.length : Nat) : Int))) (cond (decide (0 + v5.toNat < v7.length)) (f147_1 F 4 (IntKind.u64.wrap (v7.getD (0 + v5.toNat) 0)) v6 (fun x8 => f95_1_l4 F v4 v7 K0 k (IntKind.i64.wrap (v5 + 1)) x8) ) none) none) (K0 v6)
noncomputable def f95_1 {β : Type} (F : Nat) (a1 : Int) (a2 : Int) (a3 : Int) (a4 : Int) (a5 : ByteArray) (K0 : ByteArray → Option β) : Option β := f147_1 F 8 a2 [] (fun x1 => f147_1 F 8 a3 x1 (fun x2 => f148_1 F (toInts a5) (fun x3 => f95_1_l4 F 3 [IntKind.u32.wrap a1, IntKind.u32.wrap a4, x3] (fun x9 => K0 (ofInts x9)) F 0 x2) ) ) 
variable [FZ]
def sh95_1 : Sh := ⟨[.lf (.int .i64), .agg [.int .u64, .int .u64, .int .i64, .str]], []⟩
abbrev Y95_1 := Int → Int → Int → Int → ByteArray → (ByteArray → Option Res) → Option Res
noncomputable def A95_1 (g : Y95_1) (d : sh95_1.den) (K : KF) : Option Res := g d.1.1 d.1.2.1.1 d.1.2.1.2.1 d.1.2.1.2.2.1 d.1.2.1.2.2.2.1 (fun (y0 : ByteArray) => K [.lf (.str y0)] [])
noncomputable def S95_1 (F : Nat) (o : Summ) : Summ := mkS sh95_1 (fun d K => A95_1 (f95_1 F) d K) o
noncomputable def code95 : Code := bodyOf Tryz.f95
noncomputable def b95_0 : Code := cB (cB (cR (cL (cR (cR (cR (code95)))))))
theorem scopes95 : scopesOf code95 = [] := by kernel_rfl
theorem ranges95 : rangesOf code95 = [] := by kernel_rfl
theorem loops95 : loopsOf code95 = [b95_0] := by kernel_rfl
theorem enter95 : ∀ args w, (callFunc 95 args).run Tryz.prog w = .ok (.enter 95 args) w := enter_of (fn := Tryz.f95) (by kernel_rfl) (by kernel_rfl) (by kernel_rfl)
noncomputable def T95_1 (F : Nat) : FuncId → Option Summ := tab [(147, (S147_1 F noS)), (148, (S148_1 F noS))]
noncomputable def TB95_1 (c147_1 : Y147_1) (c148_1 : Y148_1) : FuncId → Option Summ := tab [(147, (mkS sh147_1 (fun d K => A147_1 c147_1 d K) noS)), (148, (mkS sh148_1 (fun d K => A148_1 c148_1 d K) noS))]
def sh95_1_l4 : Sh := ⟨[.lf (.full 0), .lf (.full 1), .lf (.int .i64), .lf (.int .i64)], [some ⟨some false, [.seq (.int .u8) 0]⟩, some ⟨some false, [.seq (.int .u32) 0]⟩]⟩
abbrev Y95_1_l4 := Int → List Int → (List Int → Option Res) → Nat → Int → List Int → Option Res
noncomputable def A95_1_l4 (g : Y95_1_l4) (k : Nat) (d : sh95_1_l4.den) (K : KL) : Option Res := g d.1.2.2.1 d.2.2.1.2.1 (fun (y0 : List Int) => K (.exit 0) [.tv (.lf (.full 0))] [some ⟨false, [.seq (.int .u8) 0 y0]⟩, some ⟨false, [.seq (.int .u32) 0 d.2.2.1.2.1]⟩]) k d.1.2.2.2.1 d.2.1.2.1
noncomputable def G95_1_4 (F k : Nat) : LoopS := mkG sh95_1_l4 [5, 24, 25, 26] (outT [(.exit 0, [5])]) (fun d K => A95_1_l4 (f95_1_l4 F) k d K) []
noncomputable def LT95_1 (F : Nat) : Nat → Option LoopS := ltab [(4, G95_1_4 F F)]
theorem L95_1_l4g (F k : Nat) (c147_1 : Y147_1) (c148_1 : Y148_1)  (l4 : Y95_1_l4) (X4 : LoopS) (d : sh95_1_l4.den) (K : KL) : A95_1_l4 ((fun (v4 : Int) (v7 : List Int) (K0 : (List Int → Option Res)) (k : Nat) (v5 : Int) (v6 : List Int) => cond (decide (v5 < v4)) (cond (decide ((0 : Int) ≤ v5 ∧ v5 < ((v7.length : Nat) : Int))) (cond (decide (0 + v5.toNat < v7.length)) (c147_1 4 (IntKind.u64.wrap (v7.getD (0 + v5.toNat) 0)) v6 (fun x8 => l4 v4 v7 K0 k (IntKind.i64.wrap (v5 + 1)) x8) ) none) none) (K0 v6))) k d K = roundOf Tryz.prog (TB95_1 c147_1 c148_1) (xw []) 37 0 (ltab [(4, X4)]) (mkG sh95_1_l4 [5, 24, 25, 26] (outT [(.exit 0, [5])]) (fun d K => A95_1_l4 l4 k d K) []) b95_0 (encT sh95_1_l4.vs d.1) (encH sh95_1_l4.h d.2) K := by kernel_rfl
theorem L95_1_4 (F : Nat) : LoopOK Tryz.prog (T95_1 F) (xw []) 37 0 (LT95_1 F) (G95_1_4 F F) b95_0 :=
  loopOK_of (s := sh95_1_l4) (live := [5, 24, 25, 26]) (out := (outT [(.exit 0, [5])])) (mv := []) (fun k d K => A95_1_l4 (f95_1_l4 F) k d K) F (fun d K => by kernel_rfl)  (fun k d K => Eq.mp (by kernel_rfl) (L95_1_l4g F k (f147_1 F) (f148_1 F)  (f95_1_l4 F) (G95_1_4 F F) d K))
theorem E95_1g (F : Nat) (c147_1 : Y147_1) (c148_1 : Y148_1) (l4 : Y95_1_l4)  (d : sh95_1.den) (K : KF) : evBody Tryz.prog (TB95_1 c147_1 c148_1) (xw []) 37 0 (ltab [(4, mkG sh95_1_l4 [5, 24, 25, 26] (outT [(.exit 0, [5])]) (fun d K => A95_1_l4 l4 F d K) [])]) [] false code95 Tryz.f95.results.toList (encT sh95_1.vs d.1) (encH sh95_1.h d.2) K = A95_1 (fun (a1 : Int) (a2 : Int) (a3 : Int) (a4 : Int) (a5 : ByteArray) (K0 : (ByteArray → Option Res)) => c147_1 8 a2 [] (fun x1 => c147_1 8 a3 x1 (fun x2 => c148_1 (toInts a5) (fun x3 => l4 3 [IntKind.u32.wrap a1, IntKind.u32.wrap a4, x3] (fun x9 => K0 (ofInts x9)) F 0 x2) ) ) ) d K := by kernel_rfl
theorem E95_1 (F : Nat) (d : sh95_1.den) (K : KF) : evBody Tryz.prog (T95_1 F) (xw []) 37 0 (LT95_1 F) [] false code95 Tryz.f95.results.toList (encT sh95_1.vs d.1) (encH sh95_1.h d.2) K = A95_1 (f95_1 F) d K := Eq.mp (by kernel_rfl) (E95_1g F (f147_1 F) (f148_1 F) (f95_1_l4 F)  d K)
theorem S95_1_ok (F : Nat) (o : Summ) (ho : SoundFn Tryz.prog 95 o) : SoundFn Tryz.prog 95 (S95_1 F o) :=
  soundFn_of (fn := Tryz.f95) (c := code95) rfl rfl (by kernel_rfl) (tab_cons (S147_1_ok F _ (noS_sound enter147)) (tab_cons (S148_1_ok F _ (noS_sound enter148)) tab_nil)) (by kernel_rfl) (by kernel_rfl) ho (by rw [loops95]; exact (loopsOK_cons (by kernel_rfl) (L95_1_4 F) loopsOK_nil)) (by rw [scopes95]; exact scopesOK_nil) (by rw [ranges95]; exact rangesOK_nil)  (E95_1 F)
end Go.Proofs.YtlgopekjjkdkiaaGreatDoor.X
end

section
namespace Go.Proofs.YtlgopekjjkdkiaaGreatDoor.X
open Go Go.Proofs.YtlgopekjjkdkiaaGreatDoor.Ev Go.Proofs
set_option linter.unusedVariables false
set_option linter.unusedSectionVars false
/-! undo.Append -/
noncomputable def f31_1 {β : Type} (F : Nat) (a1 : Int) (a2 : Int) (a3 : Int) (a4 : Int) (a5 : Int) (a6 : Int) (a7 : Int) (a8 : Int) (a9 : Int) (a10 : Bool) (a11 : Int) (a12 : List ByteArray) (a13 : List (Int × ByteArray)) (K0 : Int → Int → Int → ByteArray → Int → Int → Bool → Int → List ByteArray → List (Int × ByteArray) → Option β) : Option β := f90_1 F a1 a2 a3 a4 (fun x1 => cond (!x1) (K0 0 0 0 ByteArray.empty 12 a9 a10 a11 a12 a13) (cond (decide (a5 < 0)) (K0 0 0 0 ByteArray.empty 11 a9 a10 a11 a12 a13) (cond (decide (a5 ≥ a4)) (K0 0 0 0 ByteArray.empty 11 a9 a10 a11 a12 a13) (f91_1 F a1 a2 a3 a4 a8 (fun x2 => cond (!x2) (K0 0 0 0 ByteArray.empty 3 a9 a10 a11 a12 a13) (f37_1 F a8 a9 a10 a11 a12 a13 (fun x3 x4 => cond (x4 != 0) (K0 0 0 0 ByteArray.empty x4 a9 a10 a11 a12 a13) (f92_1 F a1 a2 a3 a4 a5 (fun x5 x6 => f93_1 F x6 x3 a9 a10 a11 a12 a13 (fun x7 x8 x9 x10 x11 x12 => cond (x7 != 0) (K0 0 0 0 ByteArray.empty x7 x8 x9 x10 x11 x12) (f95_1 F a5 a6 a7 a8 x3 (fun x13 => f94_1 F 7 x13 (fun x14 x15 => cond (x15 != 0) (K0 0 0 0 ByteArray.empty x15 x8 x9 x10 x11 x12) (f93_1 F x5 x14 x8 x9 x10 x11 x12 (fun x16 x17 x18 x19 x20 x21 => cond (x16 != 0) (K0 0 0 0 ByteArray.empty x16 x17 x18 x19 x20 x21) (K0 a6 a7 a8 x3 0 x17 x18 x19 x20 x21)) )) ) )) ) )) )) )))) 
variable [FZ]
def sh31_1 : Sh := ⟨[.lf (.ptr 0 0), .agg [.int .i64, .int .i64, .int .i64, .int .i64], .lf (.int .i64), .lf (.int .u64), .lf (.int .u64), .lf (.int .i64)], [some ⟨some false, [.full 1, .full 2, .int .i64, .bool, .int .i64]⟩, some ⟨some false, [.seq .str 0]⟩, some ⟨some false, [.seq (.pair (.int .i64) .str) 0]⟩]⟩
abbrev Y31_1 := Int → Int → Int → Int → Int → Int → Int → Int → Int → Bool → Int → List ByteArray → List (Int × ByteArray) → (Int → Int → Int → ByteArray → Int → Int → Bool → Int → List ByteArray → List (Int × ByteArray) → Option Res) → Option Res
noncomputable def A31_1 (g : Y31_1) (d : sh31_1.den) (K : KF) : Option Res := g d.1.2.1.1 d.1.2.1.2.1 d.1.2.1.2.2.1 d.1.2.1.2.2.2.1 d.1.2.2.1 d.1.2.2.2.1 d.1.2.2.2.2.1 d.1.2.2.2.2.2.1 d.2.1.2.2.2.1 d.2.1.2.2.2.2.1 d.2.1.2.2.2.2.2.1 d.2.2.1.2.1 d.2.2.2.1.2.1 (fun (y0 : Int) (y1 : Int) (y2 : Int) (y3 : ByteArray) (y4 : Int) (y5 : Int) (y6 : Bool) (y7 : Int) (y8 : List ByteArray) (y9 : List (Int × ByteArray)) => K [.agg [.int .u64 y0, .int .u64 y1, .int .i64 y2, .str y3], .lf (.int .i64 y4)] [some ⟨false, [.full 1, .full 3, .int .i64 y5, .bool y6, .int .i64 y7]⟩, some ⟨false, [.seq .str 0 y8]⟩, none, some ⟨false, [.seq (.pair (.int .i64) .str) 0 y9]⟩])
noncomputable def S31_1 (F : Nat) (o : Summ) : Summ := mkS sh31_1 (fun d K => A31_1 (f31_1 F) d K) o
noncomputable def code31 : Code := bodyOf Tryz.f31
theorem scopes31 : scopesOf code31 = [] := by kernel_rfl
theorem ranges31 : rangesOf code31 = [] := by kernel_rfl
theorem loops31 : loopsOf code31 = [] := by kernel_rfl
theorem enter31 : ∀ args w, (callFunc 31 args).run Tryz.prog w = .ok (.enter 31 args) w := enter_of (fn := Tryz.f31) (by kernel_rfl) (by kernel_rfl) (by kernel_rfl)
noncomputable def T31_1 (F : Nat) : FuncId → Option Summ := tab [(37, (S37_1 F noS)), (90, (S90_1 F noS)), (91, (S91_1 F noS)), (92, (S92_1 F noS)), (93, (S93_1 F noS)), (94, (S94_1 F noS)), (95, (S95_1 F noS))]
noncomputable def TB31_1 (c37_1 : Y37_1) (c90_1 : Y90_1) (c91_1 : Y91_1) (c92_1 : Y92_1) (c93_1 : Y93_1) (c94_1 : Y94_1) (c95_1 : Y95_1) : FuncId → Option Summ := tab [(37, (mkS sh37_1 (fun d K => A37_1 c37_1 d K) noS)), (90, (mkS sh90_1 (fun d K => A90_1 c90_1 d K) noS)), (91, (mkS sh91_1 (fun d K => A91_1 c91_1 d K) noS)), (92, (mkS sh92_1 (fun d K => A92_1 c92_1 d K) noS)), (93, (mkS sh93_1 (fun d K => A93_1 c93_1 d K) noS)), (94, (mkS sh94_1 (fun d K => A94_1 c94_1 d K) noS)), (95, (mkS sh95_1 (fun d K => A95_1 c95_1 d K) noS))]
noncomputable def LT31_1 (F : Nat) : Nat → Option LoopS := ltab []
theorem E31_1g (F : Nat) (c37_1 : Y37_1) (c90_1 : Y90_1) (c91_1 : Y91_1) (c92_1 : Y92_1) (c93_1 : Y93_1) (c94_1 : Y94_1) (c95_1 : Y95_1)   (d : sh31_1.den) (K : KF) : evBody Tryz.prog (TB31_1 c37_1 c90_1 c91_1 c92_1 c93_1 c94_1 c95_1) (xw []) 92 3 (ltab []) [2] false code31 Tryz.f31.results.toList (encT sh31_1.vs d.1) (encH sh31_1.h d.2) K = A31_1 (fun (a1 : Int) (a2 : Int) (a3 : Int) (a4 : Int) (a5 : Int) (a6 : Int) (a7 : Int) (a8 : Int) (a9 : Int) (a10 : Bool) (a11 : Int) (a12 : List ByteArray) (a13 : List (Int × ByteArray)) (K0 : (Int → Int → Int → ByteArray → Int → Int → Bool → Int → List ByteArray → List (Int × ByteArray) → Option Res)) => c90_1 a1 a2 a3 a4 (fun x1 => cond (!x1) (K0 0 0 0 ByteArray.empty 12 a9 a10 a11 a12 a13) (cond (decide (a5 < 0)) (K0 0 0 0 ByteArray.empty 11 a9 a10 a11 a12 a13) (cond (decide (a5 ≥ a4)) (K0 0 0 0 ByteArray.empty 11 a9 a10 a11 a12 a13) (c91_1 a1 a2 a3 a4 a8 (fun x2 => cond (!x2) (K0 0 0 0 ByteArray.empty 3 a9 a10 a11 a12 a13) (c37_1 a8 a9 a10 a11 a12 a13 (fun x3 x4 => cond (x4 != 0) (K0 0 0 0 ByteArray.empty x4 a9 a10 a11 a12 a13) (c92_1 a1 a2 a3 a4 a5 (fun x5 x6 => c93_1 x6 x3 a9 a10 a11 a12 a13 (fun x7 x8 x9 x10 x11 x12 => cond (x7 != 0) (K0 0 0 0 ByteArray.empty x7 x8 x9 x10 x11 x12) (c95_1 a5 a6 a7 a8 x3 (fun x13 => c94_1 7 x13 (fun x14 x15 => cond (x15 != 0) (K0 0 0 0 ByteArray.empty x15 x8 x9 x10 x11 x12) (c93_1 x5 x14 x8 x9 x10 x11 x12 (fun x16 x17 x18 x19 x20 x21 => cond (x16 != 0) (K0 0 0 0 ByteArray.empty x16 x17 x18 x19 x20 x21) (K0 a6 a7 a8 x3 0 x17 x18 x19 x20 x21)) )) ) )) ) )) )) )))) ) d K := by kernel_rfl
theorem E31_1 (F : Nat) (d : sh31_1.den) (K : KF) : evBody Tryz.prog (T31_1 F) (xw []) 92 3 (LT31_1 F) [2] false code31 Tryz.f31.results.toList (encT sh31_1.vs d.1) (encH sh31_1.h d.2) K = A31_1 (f31_1 F) d K := Eq.mp (by kernel_rfl) (E31_1g F (f37_1 F) (f90_1 F) (f91_1 F) (f92_1 F) (f93_1 F) (f94_1 F) (f95_1 F)   d K)
theorem S31_1_ok (F : Nat) (o : Summ) (ho : SoundFn Tryz.prog 31 o) : SoundFn Tryz.prog 31 (S31_1 F o) :=
  soundFn_of (fn := Tryz.f31) (c := code31) rfl rfl (by kernel_rfl) (tab_cons (S37_1_ok F _ (noS_sound enter37)) (tab_cons (S90_1_ok F _ (noS_sound enter90)) (tab_cons (S91_1_ok F _ (noS_sound enter91)) (tab_cons (S92_1_ok F _ (noS_sound enter92)) (tab_cons (S93_1_ok F _ (noS_sound enter93)) (tab_cons (S94_1_ok F _ (noS_sound enter94)) (tab_cons (S95_1_ok F _ (noS_sound enter95)) tab_nil))))))) (by kernel_rfl) (by kernel_rfl) ho (by rw [loops31]; exact loopsOK_nil) (by rw [scopes31]; exact scopesOK_nil) (by rw [ranges31]; exact rangesOK_nil)  (E31_1 F)
end Go.Proofs.YtlgopekjjkdkiaaGreatDoor.X
end

section
namespace Go.Proofs.YtlgopekjjkdkiaaGreatDoor.X
open Go Go.Proofs.YtlgopekjjkdkiaaGreatDoor.Ev Go.Proofs
set_option linter.unusedVariables false
set_option linter.unusedSectionVars false
/-! disk.Disk).Read -/
noncomputable def f37_6206 {β : Type} (F : Nat) (a1 : Int) (K0 : Option β) : Option β := K0
variable [FZ]
def sh37_6206 : Sh := ⟨[.lf (.nilp), .lf (.int .i64)], []⟩
abbrev Y37_6206 := Int → (Option Res) → Option Res
noncomputable def A37_6206 (g : Y37_6206) (d : sh37_6206.den) (K : KF) : Option Res := g d.1.2.1 (K [.lf (.str ByteArray.empty), .lf (.int .i64 1)] [])
noncomputable def S37_6206 (F : Nat) (o : Summ) : Summ := mkS sh37_6206 (fun d K => A37_6206 (f37_6206 F) d K) o
noncomputable def T37_6206 (F : Nat) : FuncId → Option Summ := tab []
noncomputable def TB37_6206  : FuncId → Option Summ := tab []
noncomputable def LT37_6206 (F : Nat) : Nat → Option LoopS := ltab []
theorem E37_6206g (F : Nat)    (d : sh37_6206.den) (K : KF) : evBody Tryz.prog TB37_6206 (xw []) 34 0 (ltab []) [] false code37 Tryz.f37.results.toList (encT sh37_6206.vs d.1) (encH sh37_6206.h d.2) K = A37_6206 (fun (a1 : Int) (K0 : (Option Res)) => K0) d K := by kernel_rfl
theorem E37_6206 (F : Nat) (d : sh37_6206.den) (K : KF) : evBody Tryz.prog (T37_6206 F) (xw []) 34 0 (LT37_6206 F) [] false code37 Tryz.f37.results.toList (encT sh37_6206.vs d.1) (encH sh37_6206.h d.2) K = A37_6206 (f37_6206 F) d K := Eq.mp (by kernel_rfl) (E37_6206g F    d K)
theorem S37_6206_ok (F : Nat) (o : Summ) (ho : SoundFn Tryz.prog 37 o) : SoundFn Tryz.prog 37 (S37_6206 F o) :=
  soundFn_of (fn := Tryz.f37) (c := code37) rfl rfl (by kernel_rfl) tab_nil (by kernel_rfl) (by kernel_rfl) ho (by rw [loops37]; exact loopsOK_nil) (by rw [scopes37]; exact scopesOK_nil) (by rw [ranges37]; exact (rangesOK_skip (by kernel_rfl) rangesOK_nil))  (E37_6206 F)
end Go.Proofs.YtlgopekjjkdkiaaGreatDoor.X
end

section
namespace Go.Proofs.YtlgopekjjkdkiaaGreatDoor.X
open Go Go.Proofs.YtlgopekjjkdkiaaGreatDoor.Ev Go.Proofs
set_option linter.unusedVariables false
set_option linter.unusedSectionVars false
/-! undo.Append -/
noncomputable def f31_4108 {β : Type} (F : Nat) (a1 : Int) (a2 : Int) (a3 : Int) (a4 : Int) (a5 : Int) (a6 : Int) (a7 : Int) (a8 : Int) (K0 : Int → Option β) : Option β := f90_1 F a1 a2 a3 a4 (fun x1 => cond (!x1) (K0 12) (cond (decide (a5 < 0)) (K0 11) (cond (decide (a5 ≥ a4)) (K0 11) (f91_1 F a1 a2 a3 a4 a8 (fun x2 => cond (!x2) (K0 3) (f37_6206 F a8 (K0 1) )) )))) 
variable [FZ]
def sh31_4108 : Sh := ⟨[.lf (.nilp), .agg [.int .i64, .int .i64, .int .i64, .int .i64], .lf (.int .i64), .lf (.int .u64), .lf (.int .u64), .lf (.int .i64)], []⟩
abbrev Y31_4108 := Int → Int → Int → Int → Int → Int → Int → Int → (Int → Option Res) → Option Res
noncomputable def A31_4108 (g : Y31_4108) (d : sh31_4108.den) (K : KF) : Option Res := g d.1.2.1.1 d.1.2.1.2.1 d.1.2.1.2.2.1 d.1.2.1.2.2.2.1 d.1.2.2.1 d.1.2.2.2.1 d.1.2.2.2.2.1 d.1.2.2.2.2.2.1 (fun (y4 : Int) => K [.agg [.int .u64 0, .int .u64 0, .int .i64 0, .str ByteArray.empty], .lf (.int .i64 y4)] [])
noncomputable def S31_4108 (F : Nat) (o : Summ) : Summ := mkS sh31_4108 (fun d K => A31_4108 (f31_4108 F) d K) o
noncomputable def T31_4108 (F : Nat) : FuncId → Option Summ := tab [(37, (S37_6206 F noS)), (90, (S90_1 F noS)), (91, (S91_1 F noS))]
noncomputable def TB31_4108 (c37_6206 : Y37_6206) (c90_1 : Y90_1) (c91_1 : Y91_1) : FuncId → Option Summ := tab [(37, (mkS sh37_6206 (fun d K => A37_6206 c37_6206 d K) noS)), (90, (mkS sh90_1 (fun d K => A90_1 c90_1 d K) noS)), (91, (mkS sh91_1 (fun d K => A91_1 c91_1 d K) noS))]
noncomputable def LT31_4108 (F : Nat) : Nat → Option LoopS := ltab []
theorem E31_4108g (F : Nat) (c37_6206 : Y37_6206) (c90_1 : Y90_1) (c91_1 : Y91_1)   (d : sh31_4108.den) (K : KF) : evBody Tryz.prog (TB31_4108 c37_6206 c90_1 c91_1) (xw []) 92 0 (ltab []) [] false code31 Tryz.f31.results.toList (encT sh31_4108.vs d.1) (encH sh31_4108.h d.2) K = A31_4108 (fun (a1 : Int) (a2 : Int) (a3 : Int) (a4 : Int) (a5 : Int) (a6 : Int) (a7 : Int) (a8 : Int) (K0 : (Int → Option Res)) => c90_1 a1 a2 a3 a4 (fun x1 => cond (!x1) (K0 12) (cond (decide (a5 < 0)) (K0 11) (cond (decide (a5 ≥ a4)) (K0 11) (c91_1 a1 a2 a3 a4 a8 (fun x2 => cond (!x2) (K0 3) (c37_6206 a8 (K0 1) )) )))) ) d K := by kernel_rfl
theorem E31_4108 (F : Nat) (d : sh31_4108.den) (K : KF) : evBody Tryz.prog (T31_4108 F) (xw []) 92 0 (LT31_4108 F) [] false code31 Tryz.f31.results.toList (encT sh31_4108.vs d.1) (encH sh31_4108.h d.2) K = A31_4108 (f31_4108 F) d K := Eq.mp (by kernel_rfl) (E31_4108g F (f37_6206 F) (f90_1 F) (f91_1 F)   d K)
theorem S31_4108_ok (F : Nat) (o : Summ) (ho : SoundFn Tryz.prog 31 o) : SoundFn Tryz.prog 31 (S31_4108 F o) :=
  soundFn_of (fn := Tryz.f31) (c := code31) rfl rfl (by kernel_rfl) (tab_cons (S37_6206_ok F _ (noS_sound enter37)) (tab_cons (S90_1_ok F _ (noS_sound enter90)) (tab_cons (S91_1_ok F _ (noS_sound enter91)) tab_nil))) (by kernel_rfl) (by kernel_rfl) ho (by rw [loops31]; exact loopsOK_nil) (by rw [scopes31]; exact scopesOK_nil) (by rw [ranges31]; exact rangesOK_nil)  (E31_4108 F)
end Go.Proofs.YtlgopekjjkdkiaaGreatDoor.X
end

section
/- strings.Trim: the contract of the kit, at this program. -/
namespace Go.Proofs.YtlgopekjjkdkiaaGreatDoor.X
open Go Go.Proofs.YtlgopekjjkdkiaaGreatDoor.Ev Go.Proofs Go.Shelf Go.RowKit
set_option linter.unusedVariables false
def trmRen : Go.Shelf.Ren := ⟨fun x => match x with | 160 => 178 | 232 => 205 | 231 => 204 | 227 => 206 | 234 => 208 | 233 => 207 | 236 => 210 | 235 => 209 | 228 => 220 | 271 => 223 | 151 => 222 | 197 => 221 | 120 => 232 | 152 => 231 | 260 => 230 | 137 => 235 | 119 => 236 | 224 => 237 | 225 => 238 | 217 => 242 | 266 => 244 | n => n, fun x => match x with | 9 => 9 | 4 => 4 | 3 => 3 | 5 => 5 | 117 => 249 | 116 => 248 | 0 => 0 | 124 => 252 | 21 => 21 | 105 => 265 | 46 => 188 | 119 => 281 | 139 => 284 | 138 => 283 | n => n, fun x => match x with | 3 => 1 | 4 => 2 | n => n⟩
theorem trmLays : Lays.n160 Tryz.prog trmRen where
  mixed := by kernel_rfl
  f119 := Tryz.func236.trans (congrArg some (by kernel_rfl))
  f120 := Tryz.func232.trans (congrArg some (by kernel_rfl))
  f137 := Tryz.func235.trans (congrArg some (by kernel_rfl))
  f151 := Tryz.func222.trans (congrArg some (by kernel_rfl))
  f152 := Tryz.func231.trans (congrArg some (by kernel_rfl))
  f160 := Tryz.func178.trans (congrArg some (by kernel_rfl))
  f197 := Tryz.func221.trans (congrArg some (by kernel_rfl))
  f217 := Tryz.func242.trans (congrArg some (by kernel_rfl))
  f224 := Tryz.func237.trans (congrArg some (by kernel_rfl))
  f225 := Tryz.func238.trans (congrArg some (by kernel_rfl))
  f227 := Tryz.func206.trans (congrArg some (by kernel_rfl))
  f228 := Tryz.func220.trans (congrArg some (by kernel_rfl))
  f231 := Tryz.func204.trans (congrArg some (by kernel_rfl))
  f232 := Tryz.func205.trans (congrArg some (by kernel_rfl))
  f233 := Tryz.func207.trans (congrArg some (by kernel_rfl))
  f234 := Tryz.func208.trans (congrArg some (by kernel_rfl))
  f235 := Tryz.func209.trans (congrArg some (by kernel_rfl))
  f236 := Tryz.func210.trans (congrArg some (by kernel_rfl))
  f260 := Tryz.func230.trans (congrArg some (by kernel_rfl))
  f266 := Tryz.func244.trans (congrArg some (by kernel_rfl))
  f271 := Tryz.func223.trans (congrArg some (by kernel_rfl))
  t0 := Tryz.underlying0
  a0 := Tryz.isAgg0
  z0 := Tryz.sizeOf0
  v0 := Tryz.zeroValue0
  t3 := Tryz.underlying3
  a3 := Tryz.isAgg3
  z3 := Tryz.sizeOf3
  v3 := Tryz.zeroValue3
  t4 := Tryz.underlying4
  a4 := Tryz.isAgg4
  z4 := Tryz.sizeOf4
  v4 := Tryz.zeroValue4
  t5 := Tryz.underlying5
  a5 := Tryz.isAgg5
  z5 := Tryz.sizeOf5
  v5 := Tryz.zeroValue5
  t9 := Tryz.underlying9
  a9 := Tryz.isAgg9
  z9 := Tryz.sizeOf9
  v9 := Tryz.zeroValue9
  t21 := Tryz.underlying21
  a21 := Tryz.isAgg21
  z21 := Tryz.sizeOf21
  v21 := Tryz.zeroValue21
  t46 := Tryz.underlying188
  a46 := Tryz.isAgg188
  z46 := Tryz.sizeOf188
  v46 := Tryz.zeroValue188
  t105 := Tryz.underlying265
  a105 := Tryz.isAgg265
  z105 := Tryz.sizeOf265
  v105 := Tryz.zeroValue265
  t116 := Tryz.underlying248
  a116 := Tryz.isAgg248
  z116 := Tryz.sizeOf248
  t117 := Tryz.underlying249
  a117 := Tryz.isAgg249
  z117 := Tryz.sizeOf249
  v117 := Tryz.zeroValue249
  t119 := Tryz.underlying281
  a119 := Tryz.isAgg281
  z119 := Tryz.sizeOf281
  t124 := Tryz.underlying252
  a124 := Tryz.isAgg252
  z124 := Tryz.sizeOf252
  v124 := Tryz.zeroValue252
  t138 := Tryz.underlying283
  a138 := Tryz.isAgg283
  z138 := Tryz.sizeOf283
  v138 := Tryz.zeroValue283
  t139 := Tryz.underlying284
  a139 := Tryz.isAgg284
  z139 := Tryz.sizeOf284
  v139 := Tryz.zeroValue284
  g3 := by kernel_rfl
  g4 := by kernel_rfl
end Go.Proofs.YtlgopekjjkdkiaaGreatDoor.X
end

section
/- strings.Trim: its contract, as a typed function. -/
namespace Go.Proofs.YtlgopekjjkdkiaaGreatDoor.X
open Go Go.Proofs.YtlgopekjjkdkiaaGreatDoor.Ev Go.Proofs
set_option linter.unusedVariables false
set_option linter.unusedSimpArgs false
set_option linter.unusedSectionVars false
variable [FZ]

/-- A string without the bytes of a set at its ends. -/
noncomputable def trm (s cs : ByteArray) : ByteArray := ⟨(Lib.trimS s.data.toList cs.data.toList).toArray⟩
noncomputable def f178_1 {β : Type} (F : Nat) (a1 : ByteArray) (a2 : ByteArray) (K0 : ByteArray → Option β) : Option β :=
  cond (decide (a1.size ≤ 9223372036854775807 ∧ a2.size < 4294967281 ∧ a2.data.toList.all (fun b => decide (b.toNat < 128)) = true)) (K0 (trm a1 a2)) none
def sh178_1 : Sh := ⟨[.lf (.str), .lf (.str)], []⟩
noncomputable def S178_1 (F : Nat) (o : Summ) : Summ := mkS sh178_1 (fun d K => f178_1 F d.1.1 d.1.2.1 (fun (y0 : ByteArray) => K [.lf (.str y0)] [])) o
theorem enter178 : ∀ args w, (callFunc 178 args).run Tryz.prog w = .ok (.enter 178 args) w := enter_of (fn := Tryz.f178) (by kernel_rfl) (by kernel_rfl) (by kernel_rfl)
theorem trmNum : trmRen.f 160 = 178 := by kernel_rfl

theorem trmB {s cs : ByteArray} (h : s.size ≤ 9223372036854775807 ∧ cs.size < 4294967281 ∧ cs.data.toList.all (fun b => decide (b.toNat < 128)) = true) {K : KF} {r : Res} (he : K [.lf (.str (trm s cs))] [] = some r) :
    Contract Tryz.prog 178 [.lf (.str s), .lf (.str cs)] [] K r := by
  intro G m w cvs hw hgd hgh hi hx
  obtain ⟨v1, v2, rfl, h1, h2⟩ : ∃ v1 v2, cvs = [v1, v2] ∧ v1 = .string s ∧ v2 = .string cs := by
    match cvs, hx with
    | [v1, v2], ⟨h1, h2, _⟩ => exact ⟨v1, v2, rfl, h1, h2⟩
  subst h1 h2
  have := Any.strings_Trim_laid trmLays (by kernel_rfl) s cs w h.1 h.2.1 (ascii_of_all h.2.2)
  rw [trmNum] at this
  refine this.mono fun e w' ⟨h1, h2⟩ => ?_
  have hext : Ext w w' := ⟨⟨h2.os, h2.tape, h2.output⟩, h2.size, h2.block⟩
  exact ⟨_, _, he, _, [], h1, rfl, by rw [List.append_nil]; exact hi.ext hext⟩

theorem S178_1_ok (F : Nat) (o : Summ) (ho : SoundFn Tryz.prog 178 o) : SoundFn Tryz.prog 178 (S178_1 F o) := by
  refine ⟨ho.enter, fun vs h K r he => ?_⟩
  unfold S178_1 mkS at he
  split at he
  rotate_left
  · exact ho.ok vs h K r he
  rename_i dv dh ha hb'
  have e1 := decT_enc _ _ _ ha
  have e2 := decH_enc _ _ _ hb'
  obtain ⟨s, c, _⟩ := dv
  have e1 : vs = [.lf (.str s), .lf (.str c)] := e1
  have e2 : h = [] := e2
  subst e1
  subst e2
  have he : f178_1 F s c (fun (y0 : ByteArray) => K [.lf (.str y0)] []) = some r := he
  unfold f178_1 at he
  obtain ⟨h1, he⟩ := dec_of he
  exact trmB h1 he

end Go.Proofs.YtlgopekjjkdkiaaGreatDoor.X
end

section
namespace Go.Proofs.YtlgopekjjkdkiaaGreatDoor.X
open Go Go.Proofs.YtlgopekjjkdkiaaGreatDoor.Ev Go.Proofs
set_option linter.unusedVariables false
set_option linter.unusedSectionVars false
/-! rec.Kind -/
noncomputable def f127_1 {β : Type} (F : Nat) (a1 : ByteArray) (K0 : Int → Int → Option β) : Option β := f85_1 F a1 (fun x1 => cond (!x1) (K0 0 4) (cond (decide ((0 : Int) ≤ (60 : Int) ∧ (60 : Int) ≤ (a1.size : Int) ∧ (a1.size : Int) ≤ (a1.size : Int))) (f146_1 F a1 (fun x2 => cond (!(x2.toList == (a1.extract 60 ((a1.size : Int).toNat)).toList)) (K0 0 9) (cond (decide ((0 : Int) ≤ (0 : Int) ∧ (0 : Int) < (a1.size : Int))) (cond (decide ((0 : Int) ≤ (1 : Int) ∧ (1 : Int) < (a1.size : Int))) (cond (decide (IntKind.i64.wrap ((a1.data.getD 0 0).toNat : Int) < 1)) (K0 0 6) (cond (decide (IntKind.i64.wrap ((a1.data.getD 0 0).toNat : Int) > 8)) (K0 0 6) (cond (decide (IntKind.i64.wrap ((a1.data.getD 1 0).toNat : Int) > 58)) (K0 0 6) (cond (decide ((0 : Int) ≤ IntKind.i64.wrap (2 + (IntKind.i64.wrap ((a1.data.getD 1 0).toNat : Int))) ∧ IntKind.i64.wrap (2 + (IntKind.i64.wrap ((a1.data.getD 1 0).toNat : Int))) ≤ (60 : Int) ∧ (60 : Int) ≤ (a1.size : Int))) (f178_1 F (a1.extract ((IntKind.i64.wrap (2 + (IntKind.i64.wrap ((a1.data.getD 1 0).toNat : Int)))).toNat) 60) (⟨#[0]⟩ : ByteArray) (fun x3 => cond (!(x3.toList == ByteArray.empty.toList)) (K0 0 6) (K0 (IntKind.i64.wrap ((a1.data.getD 0 0).toNat : Int)) 0)) ) none)))) none) none)) ) none)) 
variable [FZ]
def sh127_1 : Sh := ⟨[.lf (.str)], []⟩
abbrev Y127_1 := ByteArray → (Int → Int → Option Res) → Option Res
noncomputable def A127_1 (g : Y127_1) (d : sh127_1.den) (K : KF) : Option Res := g d.1.1 (fun (y0 : Int) (y1 : Int) => K [.lf (.int .i64 y0), .lf (.int .i64 y1)] [])
noncomputable def S127_1 (F : Nat) (o : Summ) : Summ := mkS sh127_1 (fun d K => A127_1 (f127_1 F) d K) o
noncomputable def code127 : Code := bodyOf Tryz.f127
theorem scopes127 : scopesOf code127 = [] := by kernel_rfl
theorem ranges127 : rangesOf code127 = [] := by kernel_rfl
theorem loops127 : loopsOf code127 = [] := by kernel_rfl
theorem enter127 : ∀ args w, (callFunc 127 args).run Tryz.prog w = .ok (.enter 127 args) w := enter_of (fn := Tryz.f127) (by kernel_rfl) (by kernel_rfl) (by kernel_rfl)
noncomputable def T127_1 (F : Nat) : FuncId → Option Summ := tab [(85, (S85_1 F noS)), (146, (S146_1 F noS)), (178, (S178_1 F noS))]
noncomputable def TB127_1 (c85_1 : Y85_1) (c146_1 : Y146_1) (c178_1 : ByteArray → ByteArray → (ByteArray → Option Res) → Option Res) : FuncId → Option Summ := tab [(85, (mkS sh85_1 (fun d K => A85_1 c85_1 d K) noS)), (146, (mkS sh146_1 (fun d K => A146_1 c146_1 d K) noS)), (178, (mkS sh178_1 (fun d K => c178_1 d.1.1 d.1.2.1 (fun (y0 : ByteArray) => K [.lf (.str y0)] [])) noS))]
noncomputable def LT127_1 (F : Nat) : Nat → Option LoopS := ltab []
theorem E127_1g (F : Nat) (c85_1 : Y85_1) (c146_1 : Y146_1) (c178_1 : ByteArray → ByteArray → (ByteArray → Option Res) → Option Res)   (d : sh127_1.den) (K : KF) : evBody Tryz.prog (TB127_1 c85_1 c146_1 c178_1) (xw []) 41 0 (ltab []) [] false code127 Tryz.f127.results.toList (encT sh127_1.vs d.1) (encH sh127_1.h d.2) K = A127_1 (fun (a1 : ByteArray) (K0 : (Int → Int → Option Res)) => c85_1 a1 (fun x1 => cond (!x1) (K0 0 4) (cond (decide ((0 : Int) ≤ (60 : Int) ∧ (60 : Int) ≤ (a1.size : Int) ∧ (a1.size : Int) ≤ (a1.size : Int))) (c146_1 a1 (fun x2 => cond (!(x2.toList == (a1.extract 60 ((a1.size : Int).toNat)).toList)) (K0 0 9) (cond (decide ((0 : Int) ≤ (0 : Int) ∧ (0 : Int) < (a1.size : Int))) (cond (decide ((0 : Int) ≤ (1 : Int) ∧ (1 : Int) < (a1.size : Int))) (cond (decide (IntKind.i64.wrap ((a1.data.getD 0 0).toNat : Int) < 1)) (K0 0 6) (cond (decide (IntKind.i64.wrap ((a1.data.getD 0 0).toNat : Int) > 8)) (K0 0 6) (cond (decide (IntKind.i64.wrap ((a1.data.getD 1 0).toNat : Int) > 58)) (K0 0 6) (cond (decide ((0 : Int) ≤ IntKind.i64.wrap (2 + (IntKind.i64.wrap ((a1.data.getD 1 0).toNat : Int))) ∧ IntKind.i64.wrap (2 + (IntKind.i64.wrap ((a1.data.getD 1 0).toNat : Int))) ≤ (60 : Int) ∧ (60 : Int) ≤ (a1.size : Int))) (c178_1 (a1.extract ((IntKind.i64.wrap (2 + (IntKind.i64.wrap ((a1.data.getD 1 0).toNat : Int)))).toNat) 60) (⟨#[0]⟩ : ByteArray) (fun x3 => cond (!(x3.toList == ByteArray.empty.toList)) (K0 0 6) (K0 (IntKind.i64.wrap ((a1.data.getD 0 0).toNat : Int)) 0)) ) none)))) none) none)) ) none)) ) d K := by kernel_rfl
theorem E127_1 (F : Nat) (d : sh127_1.den) (K : KF) : evBody Tryz.prog (T127_1 F) (xw []) 41 0 (LT127_1 F) [] false code127 Tryz.f127.results.toList (encT sh127_1.vs d.1) (encH sh127_1.h d.2) K = A127_1 (f127_1 F) d K := Eq.mp (by kernel_rfl) (E127_1g F (f85_1 F) (f146_1 F) (f178_1 F)   d K)
theorem S127_1_ok (F : Nat) (o : Summ) (ho : SoundFn Tryz.prog 127 o) : SoundFn Tryz.prog 127 (S127_1 F o) :=
  soundFn_of (fn := Tryz.f127) (c := code127) rfl rfl (by kernel_rfl) (tab_cons (S85_1_ok F _ (noS_sound enter85)) (tab_cons (S146_1_ok F _ (noS_sound enter146)) (tab_cons (S178_1_ok F _ (noS_sound enter178)) tab_nil))) (by kernel_rfl) (by kernel_rfl) ho (by rw [loops127]; exact loopsOK_nil) (by rw [scopes127]; exact scopesOK_nil) (by rw [ranges127]; exact rangesOK_nil)  (E127_1 F)
end Go.Proofs.YtlgopekjjkdkiaaGreatDoor.X
end

section
namespace Go.Proofs.YtlgopekjjkdkiaaGreatDoor.X
open Go Go.Proofs.YtlgopekjjkdkiaaGreatDoor.Ev Go.Proofs
set_option linter.unusedVariables false
set_option linter.unusedSectionVars false
/-! rec.Open -/
noncomputable def f156_1 {β : Type} (F : Nat) (a1 : Int) (a2 : ByteArray) (K0 : ByteArray → Int → Option β) : Option β := f127_1 F a2 (fun x1 x2 => cond (x2 != 0) (K0 ByteArray.empty x2) (cond (x1 != a1) (K0 ByteArray.empty 22) (cond (decide ((0 : Int) ≤ (1 : Int) ∧ (1 : Int) < (a2.size : Int))) (cond (decide ((0 : Int) ≤ (2 : Int) ∧ (2 : Int) ≤ IntKind.i64.wrap (2 + (IntKind.i64.wrap ((a2.data.getD 1 0).toNat : Int))) ∧ IntKind.i64.wrap (2 + (IntKind.i64.wrap ((a2.data.getD 1 0).toNat : Int))) ≤ (a2.size : Int))) (K0 (a2.extract 2 ((IntKind.i64.wrap (2 + (IntKind.i64.wrap ((a2.data.getD 1 0).toNat : Int)))).toNat)) 0) none) none))) 
variable [FZ]
def sh156_1 : Sh := ⟨[.lf (.int .i64), .lf (.str)], []⟩
abbrev Y156_1 := Int → ByteArray → (ByteArray → Int → Option Res) → Option Res
noncomputable def A156_1 (g : Y156_1) (d : sh156_1.den) (K : KF) : Option Res := g d.1.1 d.1.2.1 (fun (y0 : ByteArray) (y1 : Int) => K [.lf (.str y0), .lf (.int .i64 y1)] [])
noncomputable def S156_1 (F : Nat) (o : Summ) : Summ := mkS sh156_1 (fun d K => A156_1 (f156_1 F) d K) o
noncomputable def code156 : Code := bodyOf Tryz.f156
theorem scopes156 : scopesOf code156 = [] := by kernel_rfl
theorem ranges156 : rangesOf code156 = [] := by kernel_rfl
theorem loops156 : loopsOf code156 = [] := by kernel_rfl
theorem enter156 : ∀ args w, (callFunc 156 args).run Tryz.prog w = .ok (.enter 156 args) w := enter_of (fn := Tryz.f156) (by kernel_rfl) (by kernel_rfl) (by kernel_rfl)
noncomputable def T156_1 (F : Nat) : FuncId → Option Summ := tab [(127, (S127_1 F noS))]
noncomputable def TB156_1 (c127_1 : Y127_1) : FuncId → Option Summ := tab [(127, (mkS sh127_1 (fun d K => A127_1 c127_1 d K) noS))]
noncomputable def LT156_1 (F : Nat) : Nat → Option LoopS := ltab []
theorem E156_1g (F : Nat) (c127_1 : Y127_1)   (d : sh156_1.den) (K : KF) : evBody Tryz.prog (TB156_1 c127_1) (xw []) 27 0 (ltab []) [] false code156 Tryz.f156.results.toList (encT sh156_1.vs d.1) (encH sh156_1.h d.2) K = A156_1 (fun (a1 : Int) (a2 : ByteArray) (K0 : (ByteArray → Int → Option Res)) => c127_1 a2 (fun x1 x2 => cond (x2 != 0) (K0 ByteArray.empty x2) (cond (x1 != a1) (K0 ByteArray.empty 22) (cond (decide ((0 : Int) ≤ (1 : Int) ∧ (1 : Int) < (a2.size : Int))) (cond (decide ((0 : Int) ≤ (2 : Int) ∧ (2 : Int) ≤ IntKind.i64.wrap (2 + (IntKind.i64.wrap ((a2.data.getD 1 0).toNat : Int))) ∧ IntKind.i64.wrap (2 + (IntKind.i64.wrap ((a2.data.getD 1 0).toNat : Int))) ≤ (a2.size : Int))) (K0 (a2.extract 2 ((IntKind.i64.wrap (2 + (IntKind.i64.wrap ((a2.data.getD 1 0).toNat : Int)))).toNat)) 0) none) none))) ) d K := by kernel_rfl
theorem E156_1 (F : Nat) (d : sh156_1.den) (K : KF) : evBody Tryz.prog (T156_1 F) (xw []) 27 0 (LT156_1 F) [] false code156 Tryz.f156.results.toList (encT sh156_1.vs d.1) (encH sh156_1.h d.2) K = A156_1 (f156_1 F) d K := Eq.mp (by kernel_rfl) (E156_1g F (f127_1 F)   d K)
theorem S156_1_ok (F : Nat) (o : Summ) (ho : SoundFn Tryz.prog 156 o) : SoundFn Tryz.prog 156 (S156_1 F o) :=
  soundFn_of (fn := Tryz.f156) (c := code156) rfl rfl (by kernel_rfl) (tab_cons (S127_1_ok F _ (noS_sound enter127)) tab_nil) (by kernel_rfl) (by kernel_rfl) ho (by rw [loops156]; exact loopsOK_nil) (by rw [scopes156]; exact scopesOK_nil) (by rw [ranges156]; exact rangesOK_nil)  (E156_1 F)
end Go.Proofs.YtlgopekjjkdkiaaGreatDoor.X
end

section
namespace Go.Proofs.YtlgopekjjkdkiaaGreatDoor.X
open Go Go.Proofs.YtlgopekjjkdkiaaGreatDoor.Ev Go.Proofs
set_option linter.unusedVariables false
set_option linter.unusedSectionVars false
/-! word.New -/
noncomputable def f180_1 {β : Type} (F : Nat) (a1 : List Int) (K0 : List Int → Option β) : Option β := cond (decide ((0 + a1.length) * 1 ≤ 70368744177664)) (K0 ([] ++ a1)) none
variable [FZ]
def sh180_1 : Sh := ⟨[.lf (.full 0)], [some ⟨none, [.seq (.int .u8) 0]⟩]⟩
abbrev Y180_1 := List Int → (List Int → Option Res) → Option Res
noncomputable def A180_1 (g : Y180_1) (d : sh180_1.den) (K : KF) : Option Res := g d.2.1.2.1 (fun (y2 : List Int) => K [.lf (.ptr 1 0)] [some ⟨d.2.1.1, [.seq (.int .u8) 0 d.2.1.2.1]⟩, some ⟨false, [.full 2, .int .i64 0]⟩, some ⟨false, [.seq (.int .u8) 0 y2]⟩])
noncomputable def S180_1 (F : Nat) (o : Summ) : Summ := mkS sh180_1 (fun d K => A180_1 (f180_1 F) d K) o
noncomputable def code180 : Code := bodyOf Tryz.f180
theorem scopes180 : scopesOf code180 = [] := by kernel_rfl
theorem ranges180 : rangesOf code180 = [] := by kernel_rfl
theorem loops180 : loopsOf code180 = [] := by kernel_rfl
theorem enter180 : ∀ args w, (callFunc 180 args).run Tryz.prog w = .ok (.enter 180 args) w := enter_of (fn := Tryz.f180) (by kernel_rfl) (by kernel_rfl) (by kernel_rfl)
noncomputable def T180_1 (F : Nat) : FuncId → Option Summ := tab []
noncomputable def TB180_1  : FuncId → Option Summ := tab []
noncomputable def LT180_1 (F : Nat) : Nat → Option LoopS := ltab []
theorem E180_1g (F : Nat)    (d : sh180_1.den) (K : KF) : evBody Tryz.prog TB180_1 (xw []) 8 1 (ltab []) [] false code180 Tryz.f180.results.toList (encT sh180_1.vs d.1) (encH sh180_1.h d.2) K = A180_1 (fun (a1 : List Int) (K0 : (List Int → Option Res)) => cond (decide ((0 + a1.length) * 1 ≤ 70368744177664)) (K0 ([] ++ a1)) none) d K := by kernel_rfl
theorem E180_1 (F : Nat) (d : sh180_1.den) (K : KF) : evBody Tryz.prog (T180_1 F) (xw []) 8 1 (LT180_1 F) [] false code180 Tryz.f180.results.toList (encT sh180_1.vs d.1) (encH sh180_1.h d.2) K = A180_1 (f180_1 F) d K := Eq.mp (by kernel_rfl) (E180_1g F    d K)
theorem S180_1_ok (F : Nat) (o : Summ) (ho : SoundFn Tryz.prog 180 o) : SoundFn Tryz.prog 180 (S180_1 F o) :=
  soundFn_of (fn := Tryz.f180) (c := code180) rfl rfl (by kernel_rfl) tab_nil (by kernel_rfl) (by kernel_rfl) ho (by rw [loops180]; exact loopsOK_nil) (by rw [scopes180]; exact scopesOK_nil) (by rw [ranges180]; exact rangesOK_nil)  (E180_1 F)
end Go.Proofs.YtlgopekjjkdkiaaGreatDoor.X
end

section
namespace Go.Proofs.YtlgopekjjkdkiaaGreatDoor.X
open Go Go.Proofs.YtlgopekjjkdkiaaGreatDoor.Ev Go.Proofs
set_option linter.unusedVariables false
set_option linter.unusedSectionVars false
/-! word.Get -/
noncomputable def f211_1_l7 {β : Type} (F : Nat) (v3 : Nat) (v4 : Nat) (v5 : Int) (v7 : List Int) (K0 : Int → Option β) : Nat → Int → Int → Option β
  | 0, _, _ => none
  | k + 1, v2, v6 => cond (decide (v6 < v5)) (cond (decide ((0 : Int) ≤ v6 ∧ v6 < ((v4 : Nat) : Int))) (cond (decide (v3 + v6.toNat < v7.length)) (f211_1_l7 F v3 v4 v5 v7 K0 k (ior .u64 (ishl .u64 v2 8) (IntKind.u64.wrap (v7.getD (v3 + v6.toNat) 0))) (IntKind.i64.wrap (v6 + 1))) none) none) (K0 v2)
noncomputable def f211_1 {β : Type} (F : Nat) (a1 : Int) (a2 : Int) (a3 : List Int) (K0 : Int → Int → Option β) : Option β := f190_1 F a2 (fun x1 => cond (!x1) (K0 0 2) (cond (decide (a1 < 0)) (K0 0 2) (cond (decide (a1 > ((a3.length : Nat) : Int))) (K0 0 7) (cond (decide (IntKind.i64.wrap (((a3.length : Nat) : Int) - a1) < a2)) (K0 0 7) (cond (decide ((0 : Int) ≤ a1 ∧ a1 ≤ IntKind.i64.wrap (a1 + a2) ∧ IntKind.i64.wrap (a1 + a2) ≤ ((a3.length : Nat) : Int))) (f211_1_l7 F (0 + a1.toNat) ((IntKind.i64.wrap (a1 + a2) - a1).toNat) (((IntKind.i64.wrap (a1 + a2) - a1).toNat : Nat) : Int) a3 (fun x8 => K0 x8 0) F 0 0) none))))) 
variable [FZ]
def sh211_1 : Sh := ⟨[.lf (.full 0), .lf (.int .i64), .lf (.int .i64)], [some ⟨none, [.seq (.int .u8) 0]⟩]⟩
abbrev Y211_1 := Int → Int → List Int → (Int → Int → Option Res) → Option Res
noncomputable def A211_1 (g : Y211_1) (d : sh211_1.den) (K : KF) : Option Res := g d.1.2.1 d.1.2.2.1 d.2.1.2.1 (fun (y0 : Int) (y1 : Int) => K [.lf (.int .u64 y0), .lf (.int .i64 y1)] [some ⟨d.2.1.1, [.seq (.int .u8) 0 d.2.1.2.1]⟩])
noncomputable def S211_1 (F : Nat) (o : Summ) : Summ := mkS sh211_1 (fun d K => A211_1 (f211_1 F) d K) o
noncomputable def code211 : Code := bodyOf Tryz.f211
noncomputable def b211_0 : Code := cB (cB (cR (cL (cR (cR (cR (code211)))))))
theorem scopes211 : scopesOf code211 = [] := by kernel_rfl
theorem ranges211 : rangesOf code211 = [] := by kernel_rfl
theorem loops211 : loopsOf code211 = [b211_0] := by kernel_rfl
theorem enter211 : ∀ args w, (callFunc 211 args).run Tryz.prog w = .ok (.enter 211 args) w := enter_of (fn := Tryz.f211) (by kernel_rfl) (by kernel_rfl) (by kernel_rfl)
noncomputable def T211_1 (F : Nat) : FuncId → Option Summ := tab [(190, (S190_1 F noS))]
noncomputable def TB211_1 (c190_1 : Y190_1) : FuncId → Option Summ := tab [(190, (mkS sh190_1 (fun d K => A190_1 c190_1 d K) noS))]
def sh211_1_l7 : Sh := ⟨[.lf (.int .u64), .lf (.slice 0 0), .lf (.int .i64), .lf (.int .i64)], [some ⟨none, [.seq (.int .u8) 0]⟩]⟩
abbrev Y211_1_l7 := Nat → Nat → Int → List Int → (Int → Option Res) → Nat → Int → Int → Option Res
noncomputable def A211_1_l7 (g : Y211_1_l7) (k : Nat) (d : sh211_1_l7.den) (K : KL) : Option Res := g d.1.2.1.1 d.1.2.1.2 d.1.2.2.1 d.2.1.2.1 (fun (y0 : Int) => K (.exit 1) [.tv (.lf (.int .u64 y0))] [some ⟨d.2.1.1, [.seq (.int .u8) 0 d.2.1.2.1]⟩]) k d.1.1 d.1.2.2.2.1
noncomputable def G211_1_7 (F k : Nat) : LoopS := mkG sh211_1_l7 [8, 37, 38, 39] (outT [(.exit 1, [8])]) (fun d K => A211_1_l7 (f211_1_l7 F) k d K) []
noncomputable def LT211_1 (F : Nat) : Nat → Option LoopS := ltab [(7, G211_1_7 F F)]
theorem L211_1_l7g (F k : Nat) (c190_1 : Y190_1)  (l7 : Y211_1_l7) (X7 : LoopS) (d : sh211_1_l7.den) (K : KL) : A211_1_l7 ((fun (v3 : Nat) (v4 : Nat) (v5 : Int) (v7 : List Int) (K0 : (Int → Option Res)) (k : Nat) (v2 : Int) (v6 : Int) => cond (decide (v6 < v5)) (cond (decide ((0 : Int) ≤ v6 ∧ v6 < ((v4 : Nat) : Int))) (cond (decide (v3 + v6.toNat < v7.length)) (l7 v3 v4 v5 v7 K0 k (ior .u64 (ishl .u64 v2 8) (IntKind.u64.wrap (v7.getD (v3 + v6.toNat) 0))) (IntKind.i64.wrap (v6 + 1))) none) none) (K0 v2))) k d K = roundOf Tryz.prog (TB211_1 c190_1) (xw []) 50 1 (ltab [(7, X7)]) (mkG sh211_1_l7 [8, 37, 38, 39] (outT [(.exit 1, [8])]) (fun d K => A211_1_l7 l7 k d K) []) b211_0 (encT sh211_1_l7.vs d.1) (encH sh211_1_l7.h d.2) K := by kernel_rfl
theorem L211_1_7 (F : Nat) : LoopOK Tryz.prog (T211_1 F) (xw []) 50 1 (LT211_1 F) (G211_1_7 F F) b211_0 :=
  loopOK_of (s := sh211_1_l7) (live := [8, 37, 38, 39]) (out := (outT [(.exit 1, [8])])) (mv := []) (fun k d K => A211_1_l7 (f211_1_l7 F) k d K) F (fun d K => by kernel_rfl)  (fun k d K => Eq.mp (by kernel_rfl) (L211_1_l7g F k (f190_1 F)  (f211_1_l7 F) (G211_1_7 F F) d K))
theorem E211_1g (F : Nat) (c190_1 : Y190_1) (l7 : Y211_1_l7)  (d : sh211_1.den) (K : KF) : evBody Tryz.prog (TB211_1 c190_1) (xw []) 50 1 (ltab [(7, mkG sh211_1_l7 [8, 37, 38, 39] (outT [(.exit 1, [8])]) (fun d K => A211_1_l7 l7 F d K) [])]) [] false code211 Tryz.f211.results.toList (encT sh211_1.vs d.1) (encH sh211_1.h d.2) K = A211_1 (fun (a1 : Int) (a2 : Int) (a3 : List Int) (K0 : (Int → Int → Option Res)) => c190_1 a2 (fun x1 => cond (!x1) (K0 0 2) (cond (decide (a1 < 0)) (K0 0 2) (cond (decide (a1 > ((a3.length : Nat) : Int))) (K0 0 7) (cond (decide (IntKind.i64.wrap (((a3.length : Nat) : Int) - a1) < a2)) (K0 0 7) (cond (decide ((0 : Int) ≤ a1 ∧ a1 ≤ IntKind.i64.wrap (a1 + a2) ∧ IntKind.i64.wrap (a1 + a2) ≤ ((a3.length : Nat) : Int))) (l7 (0 + a1.toNat) ((IntKind.i64.wrap (a1 + a2) - a1).toNat) (((IntKind.i64.wrap (a1 + a2) - a1).toNat : Nat) : Int) a3 (fun x8 => K0 x8 0) F 0 0) none))))) ) d K := by kernel_rfl
theorem E211_1 (F : Nat) (d : sh211_1.den) (K : KF) : evBody Tryz.prog (T211_1 F) (xw []) 50 1 (LT211_1 F) [] false code211 Tryz.f211.results.toList (encT sh211_1.vs d.1) (encH sh211_1.h d.2) K = A211_1 (f211_1 F) d K := Eq.mp (by kernel_rfl) (E211_1g F (f190_1 F) (f211_1_l7 F)  d K)
theorem S211_1_ok (F : Nat) (o : Summ) (ho : SoundFn Tryz.prog 211 o) : SoundFn Tryz.prog 211 (S211_1 F o) :=
  soundFn_of (fn := Tryz.f211) (c := code211) rfl rfl (by kernel_rfl) (tab_cons (S190_1_ok F _ (noS_sound enter190)) tab_nil) (by kernel_rfl) (by kernel_rfl) ho (by rw [loops211]; exact (loopsOK_cons (by kernel_rfl) (L211_1_7 F) loopsOK_nil)) (by rw [scopes211]; exact scopesOK_nil) (by rw [ranges211]; exact rangesOK_nil)  (E211_1 F)
end Go.Proofs.YtlgopekjjkdkiaaGreatDoor.X
end

section
namespace Go.Proofs.YtlgopekjjkdkiaaGreatDoor.X
open Go Go.Proofs.YtlgopekjjkdkiaaGreatDoor.Ev Go.Proofs
set_option linter.unusedVariables false
set_option linter.unusedSectionVars false
/-! word.Reader).Num -/
noncomputable def f181_1_l1000000 {β : Type} (F : Nat) (v3 : Int) (v4 : Int) (v5 : List Int) (K0 : Option β) : Nat → Option β
  | 0 => none
  | k + 1 => K0
noncomputable def f181_1 {β : Type} (F : Nat) (a1 : Int) (a2 : Int) (a3 : List Int) (K0 : Int → Int → List Int → Option β) : Option β := cond (a2 != 0) (K0 0 a2 a3) (f211_1 F 0 a1 a3 (fun x1 x2 => cond (x2 != 0) (f181_1_l1000000 F x2 a2 a3 (K0 0 x2 a3) F) (cond (decide ((0 : Int) ≤ a1 ∧ a1 ≤ ((a3.length : Nat) : Int) ∧ ((a3.length : Nat) : Int) ≤ ((a3.length : Nat) : Int))) (K0 x1 a2 ((a3.drop (0 + a1.toNat)).take ((((a3.length : Nat) : Int) - a1).toNat))) none)) )
variable [FZ]
def sh181_1 : Sh := ⟨[.lf (.ptr 0 0), .lf (.int .i64)], [some ⟨some false, [.full 1, .int .i64]⟩, some ⟨some false, [.seq (.int .u8) 0]⟩]⟩
abbrev Y181_1 := Int → Int → List Int → (Int → Int → List Int → Option Res) → Option Res
noncomputable def A181_1 (g : Y181_1) (d : sh181_1.den) (K : KF) : Option Res := g d.1.2.1 d.2.1.2.2.1 d.2.2.1.2.1 (fun (y0 : Int) (y1 : Int) (y2 : List Int) => K [.lf (.int .u64 y0)] [some ⟨false, [.full 2, .int .i64 y1]⟩, none, some ⟨false, [.seq (.int .u8) 0 y2]⟩])
noncomputable def S181_1 (F : Nat) (o : Summ) : Summ := mkS sh181_1 (fun d K => A181_1 (f181_1 F) d K) o
noncomputable def code181 : Code := bodyOf Tryz.f181
noncomputable def s181_0 : Code := cB (cR (code181))
noncomputable def r181_0 : Code := match findLabel s181_0 0 with | some c => c | none => .skip
theorem find181_0 : findLabel s181_0 0 = some r181_0 := by kernel_rfl
theorem rloops181_0 : loopsOf r181_0 = [] := by kernel_rfl
theorem rscopes181_0 : scopesOf r181_0 = [] := by kernel_rfl
theorem rranges181_0 : rangesOf r181_0 = [] := by kernel_rfl
theorem scopes181 : scopesOf code181 = [s181_0] := by kernel_rfl
theorem ranges181 : rangesOf code181 = [] := by kernel_rfl
theorem loops181 : loopsOf code181 = [] := by kernel_rfl
theorem enter181 : ∀ args w, (callFunc 181 args).run Tryz.prog w = .ok (.enter 181 args) w := enter_of (fn := Tryz.f181) (by kernel_rfl) (by kernel_rfl) (by kernel_rfl)
noncomputable def T181_1 (F : Nat) : FuncId → Option Summ := tab [(211, (S211_1 F noS))]
noncomputable def TB181_1 (c211_1 : Y211_1) : FuncId → Option Summ := tab [(211, (mkS sh211_1 (fun d K => A211_1 c211_1 d K) noS))]
def sh181_1_l1000000 : Sh := ⟨[.lf (.ptr 0 0), .lf (.int .i64)], [some ⟨some false, [.full 1, .int .i64]⟩, some ⟨some false, [.seq (.int .u8) 0]⟩]⟩
abbrev Y181_1_l1000000 := Int → Int → List Int → (Option Res) → Nat → Option Res
noncomputable def A181_1_l1000000 (g : Y181_1_l1000000) (k : Nat) (d : sh181_1_l1000000.den) (K : KL) : Option Res := g d.1.2.1 d.2.1.2.2.1 d.2.2.1.2.1 (K .ret [.tv (.lf (.int .u64 0))] [some ⟨false, [.full 1, .int .i64 d.1.2.1]⟩, some ⟨false, [.seq (.int .u8) 0 d.2.2.1.2.1]⟩]) k
noncomputable def G181_1_1000000 (F k : Nat) : LoopS := mkG sh181_1_l1000000 [0, 6] (outT [(.ret, [4])]) (fun d K => A181_1_l1000000 (f181_1_l1000000 F) k d K) []
noncomputable def LT181_1 (F : Nat) : Nat → Option LoopS := ltab [(1000000, G181_1_1000000 F F)]
theorem L181_1_l1000000g (F k : Nat) (c211_1 : Y211_1)  (l1000000 : Y181_1_l1000000) (X1000000 : LoopS) (d : sh181_1_l1000000.den) (K : KL) : A181_1_l1000000 ((fun (v3 : Int) (v4 : Int) (v5 : List Int) (K0 : (Option Res)) (k : Nat)  => K0)) k d K = passOf Tryz.prog (TB181_1 c211_1) (xw []) 41 2 (ltab [(1000000, X1000000)]) (mkG sh181_1_l1000000 [0, 6] (outT [(.ret, [4])]) (fun d K => A181_1_l1000000 l1000000 k d K) []) 0 r181_0 (encT sh181_1_l1000000.vs d.1) (encH sh181_1_l1000000.h d.2) K := by kernel_rfl
theorem L181_1_1000000 (F : Nat) : LabelOK Tryz.prog (T181_1 F) (xw []) 41 2 (LT181_1 F) (G181_1_1000000 F F) 0 s181_0 :=
  labelOK_of rfl (by kernel_rfl) (tab_cons (S211_1_ok F _ (noS_sound enter211)) tab_nil) (s := sh181_1_l1000000) (live := [0, 6]) (out := (outT [(.ret, [4])])) (mv := []) (fun k d K => A181_1_l1000000 (f181_1_l1000000 F) k d K) F find181_0 (fun d K => by kernel_rfl)  (fun k d K => Eq.mp (by kernel_rfl) (L181_1_l1000000g F k (f211_1 F)  (f181_1_l1000000 F) (G181_1_1000000 F F) d K)) (by rw [rloops181_0]; exact loopsOK_nil) (by rw [rscopes181_0]; exact scopesOK_nil) (by rw [rranges181_0]; exact rangesOK_nil)
theorem E181_1g (F : Nat) (c211_1 : Y211_1) (l1000000 : Y181_1_l1000000)  (d : sh181_1.den) (K : KF) : evBody Tryz.prog (TB181_1 c211_1) (xw []) 41 2 (ltab [(1000000, mkG sh181_1_l1000000 [0, 6] (outT [(.ret, [4])]) (fun d K => A181_1_l1000000 l1000000 F d K) [])]) [1] false code181 Tryz.f181.results.toList (encT sh181_1.vs d.1) (encH sh181_1.h d.2) K = A181_1 (fun (a1 : Int) (a2 : Int) (a3 : List Int) (K0 : (Int → Int → List Int → Option Res)) => cond (a2 != 0) (K0 0 a2 a3) (c211_1 0 a1 a3 (fun x1 x2 => cond (x2 != 0) (l1000000 x2 a2 a3 (K0 0 x2 a3) F) (cond (decide ((0 : Int) ≤ a1 ∧ a1 ≤ ((a3.length : Nat) : Int) ∧ ((a3.length : Nat) : Int) ≤ ((a3.length : Nat) : Int))) (K0 x1 a2 ((a3.drop (0 + a1.toNat)).take ((((a3.length : Nat) : Int) - a1).toNat))) none)) )) d K := by kernel_rfl
theorem E181_1 (F : Nat) (d : sh181_1.den) (K : KF) : evBody Tryz.prog (T181_1 F) (xw []) 41 2 (LT181_1 F) [1] false code181 Tryz.f181.results.toList (encT sh181_1.vs d.1) (encH sh181_1.h d.2) K = A181_1 (f181_1 F) d K := Eq.mp (by kernel_rfl) (E181_1g F (f211_1 F) (f181_1_l1000000 F)  d K)
theorem S181_1_ok (F : Nat) (o : Summ) (ho : SoundFn Tryz.prog 181 o) : SoundFn Tryz.prog 181 (S181_1 F o) :=
  soundFn_of (fn := Tryz.f181) (c := code181) rfl rfl (by kernel_rfl) (tab_cons (S211_1_ok F _ (noS_sound enter211)) tab_nil) (by kernel_rfl) (by kernel_rfl) ho (by rw [loops181]; exact loopsOK_nil) (by rw [scopes181]; exact (scopesOK_cons (by kernel_rfl) (by kernel_rfl) (L181_1_1000000 F) scopesOK_nil)) (by rw [ranges181]; exact rangesOK_nil)  (E181_1 F)
end Go.Proofs.YtlgopekjjkdkiaaGreatDoor.X
end

section
namespace Go.Proofs.YtlgopekjjkdkiaaGreatDoor.X
open Go Go.Proofs.YtlgopekjjkdkiaaGreatDoor.Ev Go.Proofs
set_option linter.unusedVariables false
set_option linter.unusedSectionVars false
/-! undo.read -/
noncomputable def f150_1 {β : Type} (F : Nat) (a1 : Int) (a2 : Int) (a3 : Int) (a4 : Int) (a5 : Int) (a6 : Int) (a7 : Int) (a8 : Int) (a9 : Int) (a10 : ByteArray) (a11 : Int) (a12 : Bool) (a13 : Int) (a14 : List ByteArray) (a15 : List (Int × ByteArray)) (K0 : Int → Int → Int → ByteArray → Bool → Int → Option β) : Option β := f92_1 F a1 a2 a3 a4 a5 (fun x1 x2 => f37_1 F x1 a11 a12 a13 a14 a15 (fun x3 x4 => cond (x4 != 0) (K0 0 0 0 ByteArray.empty false x4) (f156_1 F 7 x3 (fun x5 x6 => cond (x6 != 0) (K0 0 0 0 ByteArray.empty false 0) (cond ((x5.size : Int) != 28) (K0 0 0 0 ByteArray.empty false 0) (f180_1 F (toInts x5) (fun x7 => f181_1 F 8 0 x7 (fun x8 x9 x10 => f181_1 F 8 x9 x10 (fun x11 x12 x13 => f181_1 F 4 x12 x13 (fun x14 x15 x16 => f181_1 F 4 x15 x16 (fun x17 x18 x19 => f181_1 F 4 x18 x19 (fun x20 x21 x22 => cond (decide (a5 > 0)) (cond (x8 != a7) (cond (x14 != (IntKind.u64.wrap a5)) (K0 0 0 0 ByteArray.empty false 0) (f91_1 F a1 a2 a3 a4 (IntKind.i64.wrap x17) (fun x23 => cond (!x23) (K0 0 0 0 ByteArray.empty false 0) (cond (decide (x11 ≤ a6)) (K0 0 0 0 ByteArray.empty false 0) (K0 0 0 0 ByteArray.empty false 0))) )) (cond (x14 != (IntKind.u64.wrap a5)) (K0 0 0 0 ByteArray.empty false 0) (f91_1 F a1 a2 a3 a4 (IntKind.i64.wrap x17) (fun x24 => cond (!x24) (K0 0 0 0 ByteArray.empty false 0) (cond (decide (x11 ≤ a6)) (K0 0 0 0 ByteArray.empty false 0) (cond (x11 != a8) (K0 0 0 0 ByteArray.empty false 0) (f37_1 F x2 a11 a12 a13 a14 a15 (fun x25 x26 => cond (x26 == 0) (f148_1 F (toInts x25) (fun x27 => K0 x8 x11 (IntKind.i64.wrap x17) x25 (x27 == (IntKind.u32.wrap x20)) x26) ) (K0 x8 x11 (IntKind.i64.wrap x17) x25 false x26)) )))) ))) (cond (x14 != (IntKind.u64.wrap a5)) (K0 0 0 0 ByteArray.empty false 0) (f91_1 F a1 a2 a3 a4 (IntKind.i64.wrap x17) (fun x28 => cond (!x28) (K0 0 0 0 ByteArray.empty false 0) (cond (decide (x11 ≤ a6)) (K0 0 0 0 ByteArray.empty false 0) (f37_1 F x2 a11 a12 a13 a14 a15 (fun x29 x30 => cond (x30 == 0) (f148_1 F (toInts x29) (fun x31 => K0 x8 x11 (IntKind.i64.wrap x17) x29 (x31 == (IntKind.u32.wrap x20)) x30) ) (K0 x8 x11 (IntKind.i64.wrap x17) x29 false x30)) ))) ))) ) ) ) ) ) ))) )) ) 
variable [FZ]
def sh150_1 : Sh := ⟨[.lf (.ptr 0 0), .agg [.int .i64, .int .i64, .int .i64, .int .i64], .lf (.int .i64), .lf (.int .u64), .agg [.int .u64, .int .u64, .int .i64, .str]], [some ⟨none, [.full 1, .full 2, .int .i64, .bool, .int .i64]⟩, some ⟨none, [.seq .str 0]⟩, some ⟨none, [.seq (.pair (.int .i64) .str) 0]⟩]⟩
abbrev Y150_1 := Int → Int → Int → Int → Int → Int → Int → Int → Int → ByteArray → Int → Bool → Int → List ByteArray → List (Int × ByteArray) → (Int → Int → Int → ByteArray → Bool → Int → Option Res) → Option Res
noncomputable def A150_1 (g : Y150_1) (d : sh150_1.den) (K : KF) : Option Res := g d.1.2.1.1 d.1.2.1.2.1 d.1.2.1.2.2.1 d.1.2.1.2.2.2.1 d.1.2.2.1 d.1.2.2.2.1 d.1.2.2.2.2.1.1 d.1.2.2.2.2.1.2.1 d.1.2.2.2.2.1.2.2.1 d.1.2.2.2.2.1.2.2.2.1 d.2.1.2.2.2.1 d.2.1.2.2.2.2.1 d.2.1.2.2.2.2.2.1 d.2.2.1.2.1 d.2.2.2.1.2.1 (fun (y0 : Int) (y1 : Int) (y2 : Int) (y3 : ByteArray) (y4 : Bool) (y5 : Int) => K [.agg [.int .u64 y0, .int .u64 y1, .int .i64 y2, .str y3], .lf (.bool y4), .lf (.int .i64 y5)] [some ⟨d.2.1.1, [.full 1, .full 2, .int .i64 d.2.1.2.2.2.1, .bool d.2.1.2.2.2.2.1, .int .i64 d.2.1.2.2.2.2.2.1]⟩, some ⟨d.2.2.1.1, [.seq .str 0 d.2.2.1.2.1]⟩, some ⟨d.2.2.2.1.1, [.seq (.pair (.int .i64) .str) 0 d.2.2.2.1.2.1]⟩])
noncomputable def S150_1 (F : Nat) (o : Summ) : Summ := mkS sh150_1 (fun d K => A150_1 (f150_1 F) d K) o
noncomputable def code150 : Code := bodyOf Tryz.f150
theorem scopes150 : scopesOf code150 = [] := by kernel_rfl
theorem ranges150 : rangesOf code150 = [] := by kernel_rfl
theorem loops150 : loopsOf code150 = [] := by kernel_rfl
theorem enter150 : ∀ args w, (callFunc 150 args).run Tryz.prog w = .ok (.enter 150 args) w := enter_of (fn := Tryz.f150) (by kernel_rfl) (by kernel_rfl) (by kernel_rfl)
noncomputable def T150_1 (F : Nat) : FuncId → Option Summ := tab [(37, (S37_1 F noS)), (91, (S91_1 F noS)), (92, (S92_1 F noS)), (148, (S148_1 F noS)), (156, (S156_1 F noS)), (180, (S180_1 F noS)), (181, (S181_1 F noS))]
noncomputable def TB150_1 (c37_1 : Y37_1) (c91_1 : Y91_1) (c92_1 : Y92_1) (c148_1 : Y148_1) (c156_1 : Y156_1) (c180_1 : Y180_1) (c181_1 : Y181_1) : FuncId → Option Summ := tab [(37, (mkS sh37_1 (fun d K => A37_1 c37_1 d K) noS)), (91, (mkS sh91_1 (fun d K => A91_1 c91_1 d K) noS)), (92, (mkS sh92_1 (fun d K => A92_1 c92_1 d K) noS)), (148, (mkS sh148_1 (fun d K => A148_1 c148_1 d K) noS)), (156, (mkS sh156_1 (fun d K => A156_1 c156_1 d K) noS)), (180, (mkS sh180_1 (fun d K => A180_1 c180_1 d K) noS)), (181, (mkS sh181_1 (fun d K => A181_1 c181_1 d K) noS))]
noncomputable def LT150_1 (F : Nat) : Nat → Option LoopS := ltab []
theorem E150_1g (F : Nat) (c37_1 : Y37_1) (c91_1 : Y91_1) (c92_1 : Y92_1) (c148_1 : Y148_1) (c156_1 : Y156_1) (c180_1 : Y180_1) (c181_1 : Y181_1)   (d : sh150_1.den) (K : KF) : evBody Tryz.prog (TB150_1 c37_1 c91_1 c92_1 c148_1 c156_1 c180_1 c181_1) (xw []) 126 3 (ltab []) [] false code150 Tryz.f150.results.toList (encT sh150_1.vs d.1) (encH sh150_1.h d.2) K = A150_1 (fun (a1 : Int) (a2 : Int) (a3 : Int) (a4 : Int) (a5 : Int) (a6 : Int) (a7 : Int) (a8 : Int) (a9 : Int) (a10 : ByteArray) (a11 : Int) (a12 : Bool) (a13 : Int) (a14 : List ByteArray) (a15 : List (Int × ByteArray)) (K0 : (Int → Int → Int → ByteArray → Bool → Int → Option Res)) => c92_1 a1 a2 a3 a4 a5 (fun x1 x2 => c37_1 x1 a11 a12 a13 a14 a15 (fun x3 x4 => cond (x4 != 0) (K0 0 0 0 ByteArray.empty false x4) (c156_1 7 x3 (fun x5 x6 => cond (x6 != 0) (K0 0 0 0 ByteArray.empty false 0) (cond ((x5.size : Int) != 28) (K0 0 0 0 ByteArray.empty false 0) (c180_1 (toInts x5) (fun x7 => c181_1 8 0 x7 (fun x8 x9 x10 => c181_1 8 x9 x10 (fun x11 x12 x13 => c181_1 4 x12 x13 (fun x14 x15 x16 => c181_1 4 x15 x16 (fun x17 x18 x19 => c181_1 4 x18 x19 (fun x20 x21 x22 => cond (decide (a5 > 0)) (cond (x8 != a7) (cond (x14 != (IntKind.u64.wrap a5)) (K0 0 0 0 ByteArray.empty false 0) (c91_1 a1 a2 a3 a4 (IntKind.i64.wrap x17) (fun x23 => cond (!x23) (K0 0 0 0 ByteArray.empty false 0) (cond (decide (x11 ≤ a6)) (K0 0 0 0 ByteArray.empty false 0) (K0 0 0 0 ByteArray.empty false 0))) )) (cond (x14 != (IntKind.u64.wrap a5)) (K0 0 0 0 ByteArray.empty false 0) (c91_1 a1 a2 a3 a4 (IntKind.i64.wrap x17) (fun x24 => cond (!x24) (K0 0 0 0 ByteArray.empty false 0) (cond (decide (x11 ≤ a6)) (K0 0 0 0 ByteArray.empty false 0) (cond (x11 != a8) (K0 0 0 0 ByteArray.empty false 0) (c37_1 x2 a11 a12 a13 a14 a15 (fun x25 x26 => cond (x26 == 0) (c148_1 (toInts x25) (fun x27 => K0 x8 x11 (IntKind.i64.wrap x17) x25 (x27 == (IntKind.u32.wrap x20)) x26) ) (K0 x8 x11 (IntKind.i64.wrap x17) x25 false x26)) )))) ))) (cond (x14 != (IntKind.u64.wrap a5)) (K0 0 0 0 ByteArray.empty false 0) (c91_1 a1 a2 a3 a4 (IntKind.i64.wrap x17) (fun x28 => cond (!x28) (K0 0 0 0 ByteArray.empty false 0) (cond (decide (x11 ≤ a6)) (K0 0 0 0 ByteArray.empty false 0) (c37_1 x2 a11 a12 a13 a14 a15 (fun x29 x30 => cond (x30 == 0) (c148_1 (toInts x29) (fun x31 => K0 x8 x11 (IntKind.i64.wrap x17) x29 (x31 == (IntKind.u32.wrap x20)) x30) ) (K0 x8 x11 (IntKind.i64.wrap x17) x29 false x30)) ))) ))) ) ) ) ) ) ))) )) ) ) d K := by kernel_rfl
theorem E150_1 (F : Nat) (d : sh150_1.den) (K : KF) : evBody Tryz.prog (T150_1 F) (xw []) 126 3 (LT150_1 F) [] false code150 Tryz.f150.results.toList (encT sh150_1.vs d.1) (encH sh150_1.h d.2) K = A150_1 (f150_1 F) d K := Eq.mp (by kernel_rfl) (E150_1g F (f37_1 F) (f91_1 F) (f92_1 F) (f148_1 F) (f156_1 F) (f180_1 F) (f181_1 F)   d K)
theorem S150_1_ok (F : Nat) (o : Summ) (ho : SoundFn Tryz.prog 150 o) : SoundFn Tryz.prog 150 (S150_1 F o) :=
  soundFn_of (fn := Tryz.f150) (c := code150) rfl rfl (by kernel_rfl) (tab_cons (S37_1_ok F _ (noS_sound enter37)) (tab_cons (S91_1_ok F _ (noS_sound enter91)) (tab_cons (S92_1_ok F _ (noS_sound enter92)) (tab_cons (S148_1_ok F _ (noS_sound enter148)) (tab_cons (S156_1_ok F _ (noS_sound enter156)) (tab_cons (S180_1_ok F _ (noS_sound enter180)) (tab_cons (S181_1_ok F _ (noS_sound enter181)) tab_nil))))))) (by kernel_rfl) (by kernel_rfl) ho (by rw [loops150]; exact loopsOK_nil) (by rw [scopes150]; exact scopesOK_nil) (by rw [ranges150]; exact rangesOK_nil)  (E150_1 F)
end Go.Proofs.YtlgopekjjkdkiaaGreatDoor.X
end

section
namespace Go.Proofs.YtlgopekjjkdkiaaGreatDoor.X
open Go Go.Proofs.YtlgopekjjkdkiaaGreatDoor.Ev Go.Proofs
set_option linter.unusedVariables false
set_option linter.unusedSectionVars false
/-! undo.entries -/
noncomputable def f96_1 {β : Type} (F : Nat) (a1 : Int) (a2 : Int) (a3 : Int) (a4 : Int) (a5 : Int) (a6 : Int) (a7 : Bool) (a8 : Int) (a9 : List ByteArray) (a10 : List (Int × ByteArray)) (K0 : Option β) : Option β := K0
variable [FZ]
def sh96_1 : Sh := ⟨[.lf (.ptr 0 0), .agg [.int .i64, .int .i64, .int .i64, .int .i64], .lf (.int .u64)], [some ⟨none, [.full 1, .full 2, .int .i64, .bool, .int .i64]⟩, some ⟨none, [.seq .str 0]⟩, some ⟨none, [.seq (.pair (.int .i64) .str) 0]⟩]⟩
abbrev Y96_1 := Int → Int → Int → Int → Int → Int → Bool → Int → List ByteArray → List (Int × ByteArray) → (Option Res) → Option Res
noncomputable def A96_1 (g : Y96_1) (d : sh96_1.den) (K : KF) : Option Res := g d.1.2.1.1 d.1.2.1.2.1 d.1.2.1.2.2.1 d.1.2.1.2.2.2.1 d.1.2.2.1 d.2.1.2.2.2.1 d.2.1.2.2.2.2.1 d.2.1.2.2.2.2.2.1 d.2.2.1.2.1 d.2.2.2.1.2.1 (K [.lf (.clo 149 [3, 4, 5])] [some ⟨d.2.1.1, [.full 1, .full 2, .int .i64 d.2.1.2.2.2.1, .bool d.2.1.2.2.2.2.1, .int .i64 d.2.1.2.2.2.2.2.1]⟩, some ⟨d.2.2.1.1, [.seq .str 0 d.2.2.1.2.1]⟩, some ⟨d.2.2.2.1.1, [.seq (.pair (.int .i64) .str) 0 d.2.2.2.1.2.1]⟩, some ⟨false, [.int .i64 d.1.2.1.1, .int .i64 d.1.2.1.2.1, .int .i64 d.1.2.1.2.2.1, .int .i64 d.1.2.1.2.2.2.1]⟩, some ⟨false, [.ptr 0 0]⟩, some ⟨false, [.int .u64 d.1.2.2.1]⟩])
noncomputable def S96_1 (F : Nat) (o : Summ) : Summ := mkS sh96_1 (fun d K => A96_1 (f96_1 F) d K) o
noncomputable def code96 : Code := bodyOf Tryz.f96
theorem scopes96 : scopesOf code96 = [] := by kernel_rfl
theorem ranges96 : rangesOf code96 = [] := by kernel_rfl
theorem loops96 : loopsOf code96 = [] := by kernel_rfl
theorem enter96 : ∀ args w, (callFunc 96 args).run Tryz.prog w = .ok (.enter 96 args) w := enter_of (fn := Tryz.f96) (by kernel_rfl) (by kernel_rfl) (by kernel_rfl)
noncomputable def T96_1 (F : Nat) : FuncId → Option Summ := tab []
noncomputable def TB96_1  : FuncId → Option Summ := tab []
noncomputable def LT96_1 (F : Nat) : Nat → Option LoopS := ltab []
theorem E96_1g (F : Nat)    (d : sh96_1.den) (K : KF) : evBody Tryz.prog TB96_1 (xw []) 8 3 (ltab []) [] false code96 Tryz.f96.results.toList (encT sh96_1.vs d.1) (encH sh96_1.h d.2) K = A96_1 (fun (a1 : Int) (a2 : Int) (a3 : Int) (a4 : Int) (a5 : Int) (a6 : Int) (a7 : Bool) (a8 : Int) (a9 : List ByteArray) (a10 : List (Int × ByteArray)) (K0 : (Option Res)) => K0) d K := by kernel_rfl
theorem E96_1 (F : Nat) (d : sh96_1.den) (K : KF) : evBody Tryz.prog (T96_1 F) (xw []) 8 3 (LT96_1 F) [] false code96 Tryz.f96.results.toList (encT sh96_1.vs d.1) (encH sh96_1.h d.2) K = A96_1 (f96_1 F) d K := Eq.mp (by kernel_rfl) (E96_1g F    d K)
theorem S96_1_ok (F : Nat) (o : Summ) (ho : SoundFn Tryz.prog 96 o) : SoundFn Tryz.prog 96 (S96_1 F o) :=
  soundFn_of (fn := Tryz.f96) (c := code96) rfl rfl (by kernel_rfl) tab_nil (by kernel_rfl) (by kernel_rfl) ho (by rw [loops96]; exact loopsOK_nil) (by rw [scopes96]; exact scopesOK_nil) (by rw [ranges96]; exact rangesOK_nil)  (E96_1 F)
end Go.Proofs.YtlgopekjjkdkiaaGreatDoor.X
end
