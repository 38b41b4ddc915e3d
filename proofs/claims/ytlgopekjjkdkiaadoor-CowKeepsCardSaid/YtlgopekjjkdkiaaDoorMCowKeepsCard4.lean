/- Merged: EvF54, EvF33, EvF74, EvF55, EvF53, EvF65, EvS18, EvS19, Trm, TrimC, EvF75, EvF56, EvF57, EvF76, EvF58, EvF35, EvF13, EvF29v6206, EvF13v3384, EvF14, EvF5, EvF20, EvF41, EvF21, EvF22, EvF22v568, EvF62, EvF42, EvF23, Rep, RepC, EvF43, EvF24, EvF7, EvF25. -/
import Derived.Test.YtlgopekjjkdkiaaDoorMCowKeepsCard3
import Derived.Test.YtlgopekjjkdkiaaDoorProg
import Derived.KernelRfl
import Derived.ChangeArms
import Derived.OpenShut
import Derived.Below
import Derived.Carry
import Derived.ChangeShapes
import Derived.WideShapes
import Derived.Shelf.Strings.SlTrimAscii
import Derived.Shelf.Strings.Repeat
section
namespace Go.Proofs.YtlgopekjjkdkiaaDoor.X
open Go Go.Proofs.YtlgopekjjkdkiaaDoor.Ev Go.Proofs
set_option linter.unusedVariables false
set_option linter.unusedSectionVars false
/-! crc.Sum -/
noncomputable def f54_1 {β : Type} (F : Nat) (a1 : List Int) (K0 : Int → Option β) : Option β := f73_1 F 0 a1 (fun x1 => K0 x1) 
variable [FZ]
def sh54_1 : Sh := ⟨[.lf (.full 0)], [some ⟨none, [.seq (.int .u8) 0]⟩]⟩
noncomputable def S54_1 (F : Nat) (o : Summ) : Summ := mkS sh54_1 (fun d K => f54_1 F d.2.1.2.1 (fun (y0 : Int) => K [.lf (.int .u32 y0)] [some ⟨d.2.1.1, [.seq (.int .u8) 0 d.2.1.2.1]⟩])) o
noncomputable def code54 : Code := bodyOf Tryd.f54
theorem scopes54 : scopesOf code54 = [] := by kernel_rfl
theorem ranges54 : rangesOf code54 = [] := by kernel_rfl
theorem loops54 : loopsOf code54 = [] := by kernel_rfl
theorem enter54 : ∀ args w, (callFunc 54 args).run Tryd.prog w = .ok (.enter 54 args) w := enter_of (fn := Tryd.f54) (by kernel_rfl) (by kernel_rfl) (by kernel_rfl)
noncomputable def T54_1 (F : Nat) : FuncId → Option Summ := tab [(73, (S73_1 F noS))]
noncomputable def LT54_1 (F : Nat) : Nat → Option LoopS := ltab []
theorem E54_1g (F : Nat) (c73_1 : Int → List Int → (Int → Option Res) → Option Res)   (d : sh54_1.den) (K : KF) : evBody Tryd.prog (tab [(73, (mkS sh73_1 (fun d K => c73_1 d.1.1 d.2.1.2.1 (fun (y0 : Int) => K [.lf (.int .u32 y0)] [some ⟨d.2.1.1, [.seq (.int .u8) 0 d.2.1.2.1]⟩])) noS))]) (xw []) 5 1 (ltab []) [] code54 Tryd.f54.results.toList (encT sh54_1.vs d.1) (encH sh54_1.h d.2) K = (fun (a1 : List Int) (K0 : (Int → Option Res)) => c73_1 0 a1 (fun x1 => K0 x1) ) d.2.1.2.1 (fun (y0 : Int) => K [.lf (.int .u32 y0)] [some ⟨d.2.1.1, [.seq (.int .u8) 0 d.2.1.2.1]⟩]) := by kernel_rfl
theorem E54_1 (F : Nat) (d : sh54_1.den) (K : KF) : evBody Tryd.prog (T54_1 F) (xw []) 5 1 (LT54_1 F) [] code54 Tryd.f54.results.toList (encT sh54_1.vs d.1) (encH sh54_1.h d.2) K = f54_1 F d.2.1.2.1 (fun (y0 : Int) => K [.lf (.int .u32 y0)] [some ⟨d.2.1.1, [.seq (.int .u8) 0 d.2.1.2.1]⟩]) := Eq.mp (by kernel_rfl) (E54_1g F (f73_1 F)   d K)
theorem S54_1_ok (F : Nat) (o : Summ) (ho : SoundFn Tryd.prog 54 o) : SoundFn Tryd.prog 54 (S54_1 F o) :=
  soundFn_of (fn := Tryd.f54) (c := code54) rfl rfl (by kernel_rfl) (tab_cons (S73_1_ok F _ (noS_sound enter73)) tab_nil) (by kernel_rfl) (by kernel_rfl) ho (by rw [loops54]; exact loopsOK_nil) (by rw [scopes54]; exact scopesOK_nil) (by rw [ranges54]; exact rangesOK_nil) (E54_1 F)
end Go.Proofs.YtlgopekjjkdkiaaDoor.X
end

section
namespace Go.Proofs.YtlgopekjjkdkiaaDoor.X
open Go Go.Proofs.YtlgopekjjkdkiaaDoor.Ev Go.Proofs
set_option linter.unusedVariables false
set_option linter.unusedSectionVars false
/-! cow.of -/
noncomputable def f33_1 {β : Type} (F : Nat) (a1 : Int) (a2 : Int) (a3 : Int) (a4 : Int) (a5 : ByteArray) (K0 : Int → Int → Int → Option β) : Option β := f54_1 F (toInts a5) (fun x1 => K0 (IntKind.u64.wrap a1) (IntKind.u64.wrap a4) (IntKind.u64.wrap x1)) 
variable [FZ]
def sh33_1 : Sh := ⟨[.lf (.int .i64), .agg [.int .u64, .int .u64, .int .i64, .str]], []⟩
noncomputable def S33_1 (F : Nat) (o : Summ) : Summ := mkS sh33_1 (fun d K => f33_1 F d.1.1 d.1.2.1.1 d.1.2.1.2.1 d.1.2.1.2.2.1 d.1.2.1.2.2.2.1 (fun (y1 : Int) (y2 : Int) (y3 : Int) => K [.agg [.int .u64 d.1.2.1.2.1, .int .u64 y1, .int .u64 y2, .int .u64 y3]] [])) o
noncomputable def code33 : Code := bodyOf Tryd.f33
theorem scopes33 : scopesOf code33 = [] := by kernel_rfl
theorem ranges33 : rangesOf code33 = [] := by kernel_rfl
theorem loops33 : loopsOf code33 = [] := by kernel_rfl
theorem enter33 : ∀ args w, (callFunc 33 args).run Tryd.prog w = .ok (.enter 33 args) w := enter_of (fn := Tryd.f33) (by kernel_rfl) (by kernel_rfl) (by kernel_rfl)
noncomputable def T33_1 (F : Nat) : FuncId → Option Summ := tab [(54, (S54_1 F noS))]
noncomputable def LT33_1 (F : Nat) : Nat → Option LoopS := ltab []
theorem E33_1g (F : Nat) (c54_1 : List Int → (Int → Option Res) → Option Res)   (d : sh33_1.den) (K : KF) : evBody Tryd.prog (tab [(54, (mkS sh54_1 (fun d K => c54_1 d.2.1.2.1 (fun (y0 : Int) => K [.lf (.int .u32 y0)] [some ⟨d.2.1.1, [.seq (.int .u8) 0 d.2.1.2.1]⟩])) noS))]) (xw []) 18 0 (ltab []) [] code33 Tryd.f33.results.toList (encT sh33_1.vs d.1) (encH sh33_1.h d.2) K = (fun (a1 : Int) (a2 : Int) (a3 : Int) (a4 : Int) (a5 : ByteArray) (K0 : (Int → Int → Int → Option Res)) => c54_1 (toInts a5) (fun x1 => K0 (IntKind.u64.wrap a1) (IntKind.u64.wrap a4) (IntKind.u64.wrap x1)) ) d.1.1 d.1.2.1.1 d.1.2.1.2.1 d.1.2.1.2.2.1 d.1.2.1.2.2.2.1 (fun (y1 : Int) (y2 : Int) (y3 : Int) => K [.agg [.int .u64 d.1.2.1.2.1, .int .u64 y1, .int .u64 y2, .int .u64 y3]] []) := by kernel_rfl
theorem E33_1 (F : Nat) (d : sh33_1.den) (K : KF) : evBody Tryd.prog (T33_1 F) (xw []) 18 0 (LT33_1 F) [] code33 Tryd.f33.results.toList (encT sh33_1.vs d.1) (encH sh33_1.h d.2) K = f33_1 F d.1.1 d.1.2.1.1 d.1.2.1.2.1 d.1.2.1.2.2.1 d.1.2.1.2.2.2.1 (fun (y1 : Int) (y2 : Int) (y3 : Int) => K [.agg [.int .u64 d.1.2.1.2.1, .int .u64 y1, .int .u64 y2, .int .u64 y3]] []) := Eq.mp (by kernel_rfl) (E33_1g F (f54_1 F)   d K)
theorem S33_1_ok (F : Nat) (o : Summ) (ho : SoundFn Tryd.prog 33 o) : SoundFn Tryd.prog 33 (S33_1 F o) :=
  soundFn_of (fn := Tryd.f33) (c := code33) rfl rfl (by kernel_rfl) (tab_cons (S54_1_ok F _ (noS_sound enter54)) tab_nil) (by kernel_rfl) (by kernel_rfl) ho (by rw [loops33]; exact loopsOK_nil) (by rw [scopes33]; exact scopesOK_nil) (by rw [ranges33]; exact rangesOK_nil) (E33_1 F)
end Go.Proofs.YtlgopekjjkdkiaaDoor.X
end

section
namespace Go.Proofs.YtlgopekjjkdkiaaDoor.X
open Go Go.Proofs.YtlgopekjjkdkiaaDoor.Ev Go.Proofs
set_option linter.unusedVariables false
set_option linter.unusedSectionVars false
/-! word.right -/
noncomputable def f74_1 {β : Type} (F : Nat) (a1 : Int) (K0 : Bool → Option β) : Option β := cond (decide (a1 ≥ 1)) (K0 (decide (a1 ≤ 8))) (K0 false)
variable [FZ]
def sh74_1 : Sh := ⟨[.lf (.int .i64)], []⟩
noncomputable def S74_1 (F : Nat) (o : Summ) : Summ := mkS sh74_1 (fun d K => f74_1 F d.1.1 (fun (y0 : Bool) => K [.lf (.bool y0)] [])) o
noncomputable def code74 : Code := bodyOf Tryd.f74
theorem scopes74 : scopesOf code74 = [] := by kernel_rfl
theorem ranges74 : rangesOf code74 = [] := by kernel_rfl
theorem loops74 : loopsOf code74 = [] := by kernel_rfl
theorem enter74 : ∀ args w, (callFunc 74 args).run Tryd.prog w = .ok (.enter 74 args) w := enter_of (fn := Tryd.f74) (by kernel_rfl) (by kernel_rfl) (by kernel_rfl)
noncomputable def T74_1 (F : Nat) : FuncId → Option Summ := tab []
noncomputable def LT74_1 (F : Nat) : Nat → Option LoopS := ltab []
theorem E74_1g (F : Nat)    (d : sh74_1.den) (K : KF) : evBody Tryd.prog (tab []) (xw []) 9 0 (ltab []) [] code74 Tryd.f74.results.toList (encT sh74_1.vs d.1) (encH sh74_1.h d.2) K = (fun (a1 : Int) (K0 : (Bool → Option Res)) => cond (decide (a1 ≥ 1)) (K0 (decide (a1 ≤ 8))) (K0 false)) d.1.1 (fun (y0 : Bool) => K [.lf (.bool y0)] []) := by kernel_rfl
theorem E74_1 (F : Nat) (d : sh74_1.den) (K : KF) : evBody Tryd.prog (T74_1 F) (xw []) 9 0 (LT74_1 F) [] code74 Tryd.f74.results.toList (encT sh74_1.vs d.1) (encH sh74_1.h d.2) K = f74_1 F d.1.1 (fun (y0 : Bool) => K [.lf (.bool y0)] []) := Eq.mp (by kernel_rfl) (E74_1g F    d K)
theorem S74_1_ok (F : Nat) (o : Summ) (ho : SoundFn Tryd.prog 74 o) : SoundFn Tryd.prog 74 (S74_1 F o) :=
  soundFn_of (fn := Tryd.f74) (c := code74) rfl rfl (by kernel_rfl) tab_nil (by kernel_rfl) (by kernel_rfl) ho (by rw [loops74]; exact loopsOK_nil) (by rw [scopes74]; exact scopesOK_nil) (by rw [ranges74]; exact rangesOK_nil) (E74_1 F)
end Go.Proofs.YtlgopekjjkdkiaaDoor.X
end

section
namespace Go.Proofs.YtlgopekjjkdkiaaDoor.X
open Go Go.Proofs.YtlgopekjjkdkiaaDoor.Ev Go.Proofs
set_option linter.unusedVariables false
set_option linter.unusedSectionVars false
/-! word.Put -/
noncomputable def f55_1_l6 {β : Type} (F : Nat) (v2 : Int) (v4 : List Int) (K0 : List Int → Option β) : Nat → Int → List Int → Option β
  | 0, _, _ => none
  | k + 1, v3, v5 => cond (decide (v3 ≥ 0)) (cond (decide (v3 < 0)) none (cond (decide ((v5.length + 1) * 1 ≤ 70368744177664)) (f55_1_l6 F v2 v4 K0 k (IntKind.i64.wrap (v3 - 8)) (v5 ++ [IntKind.u8.wrap (ishr .u64 v2 v3)])) none)) (K0 v5)
noncomputable def f55_1 {β : Type} (F : Nat) (a1 : Int) (a2 : Int) (a3 : List Int) (K0 : List Int → Option β) : Option β := cond (decide ((0 : Int) ≤ (0 : Int) ∧ (0 : Int) ≤ IntKind.i64.wrap (((a3.length : Nat) : Int) + 8) ∧ IntKind.i64.wrap (((a3.length : Nat) : Int) + 8) ≤ 70368744177664 ∧ IntKind.i64.wrap (((a3.length : Nat) : Int) + 8) * 1 ≤ 70368744177664)) (cond (decide ((0 + a3.length) * 1 ≤ 70368744177664)) (f74_1 F a1 (fun x1 => cond (!x1) (K0 ((((List.replicate ((IntKind.i64.wrap (((a3.length : Nat) : Int) + 8)).toNat) 0).drop 0).take 0) ++ a3)) (f55_1_l6 F a2 a3 (fun x6 => K0 x6) F (IntKind.i64.wrap (8 * (IntKind.i64.wrap (a1 - 1)))) ((((List.replicate ((IntKind.i64.wrap (((a3.length : Nat) : Int) + 8)).toNat) 0).drop 0).take 0) ++ a3))) ) none) none
variable [FZ]
def sh55_1 : Sh := ⟨[.lf (.full 0), .lf (.int .i64), .lf (.int .u64)], [some ⟨none, [.seq (.int .u8) 0]⟩]⟩
noncomputable def S55_1 (F : Nat) (o : Summ) : Summ := mkS sh55_1 (fun d K => f55_1 F d.1.2.1 d.1.2.2.1 d.2.1.2.1 (fun (y1 : List Int) => K [.lf (.full 1)] [some ⟨d.2.1.1, [.seq (.int .u8) 0 d.2.1.2.1]⟩, some ⟨false, [.seq (.int .u8) 0 y1]⟩])) o
noncomputable def code55 : Code := bodyOf Tryd.f55
noncomputable def b55_0 : Code := cB (cB (cR (cL (cR (cR (cR (cR (code55))))))))
theorem scopes55 : scopesOf code55 = [] := by kernel_rfl
theorem ranges55 : rangesOf code55 = [] := by kernel_rfl
theorem loops55 : loopsOf code55 = [b55_0] := by kernel_rfl
theorem enter55 : ∀ args w, (callFunc 55 args).run Tryd.prog w = .ok (.enter 55 args) w := enter_of (fn := Tryd.f55) (by kernel_rfl) (by kernel_rfl) (by kernel_rfl)
noncomputable def T55_1 (F : Nat) : FuncId → Option Summ := tab [(74, (S74_1 F noS))]
def sh55_1_l6 : Sh := ⟨[.lf (.int .u64), .lf (.full 1), .lf (.int .i64)], [some ⟨none, [.seq (.int .u8) 0]⟩, some ⟨some false, [.seq (.int .u8) 0]⟩]⟩
noncomputable def G55_1_6 (F k : Nat) : LoopS := mkG sh55_1_l6 [2, 7, 8] (outT [(.exit 0, [7])]) (fun d K => f55_1_l6 F d.1.1 d.2.1.2.1 (fun (y1 : List Int) => K (.exit 0) [.tv (.lf (.full 1))] [some ⟨d.2.1.1, [.seq (.int .u8) 0 d.2.1.2.1]⟩, some ⟨false, [.seq (.int .u8) 0 y1]⟩]) k d.1.2.2.1 d.2.2.1.2.1) []
noncomputable def LT55_1 (F : Nat) : Nat → Option LoopS := ltab [(6, G55_1_6 F F)]
theorem L55_1_l6g (F k : Nat) (c74_1 : Int → (Bool → Option Res) → Option Res)  (l6 : Int → List Int → (List Int → Option Res) → Nat → Int → List Int → Option Res) (X6 : LoopS) (d : sh55_1_l6.den) (K : KL) : (fun (v2 : Int) (v4 : List Int) (K0 : (List Int → Option Res)) (k : Nat) (v3 : Int) (v5 : List Int) => cond (decide (v3 ≥ 0)) (cond (decide (v3 < 0)) none (cond (decide ((v5.length + 1) * 1 ≤ 70368744177664)) (l6 v2 v4 K0 k (IntKind.i64.wrap (v3 - 8)) (v5 ++ [IntKind.u8.wrap (ishr .u64 v2 v3)])) none)) (K0 v5)) d.1.1 d.2.1.2.1 (fun (y1 : List Int) => K (.exit 0) [.tv (.lf (.full 1))] [some ⟨d.2.1.1, [.seq (.int .u8) 0 d.2.1.2.1]⟩, some ⟨false, [.seq (.int .u8) 0 y1]⟩]) k d.1.2.2.1 d.2.2.1.2.1 = roundOf Tryd.prog (tab [(74, (mkS sh74_1 (fun d K => c74_1 d.1.1 (fun (y0 : Bool) => K [.lf (.bool y0)] [])) noS))]) (xw []) 35 1 (ltab [(6, X6)]) (mkG sh55_1_l6 [2, 7, 8] (outT [(.exit 0, [7])]) (fun d K => l6 d.1.1 d.2.1.2.1 (fun (y1 : List Int) => K (.exit 0) [.tv (.lf (.full 1))] [some ⟨d.2.1.1, [.seq (.int .u8) 0 d.2.1.2.1]⟩, some ⟨false, [.seq (.int .u8) 0 y1]⟩]) k d.1.2.2.1 d.2.2.1.2.1) []) b55_0 (encT sh55_1_l6.vs d.1) (encH sh55_1_l6.h d.2) K := by kernel_rfl
theorem L55_1_6 (F : Nat) : LoopOK Tryd.prog (T55_1 F) (xw []) 35 1 (LT55_1 F) (G55_1_6 F F) b55_0 :=
  loopOK_of (s := sh55_1_l6) (live := [2, 7, 8]) (out := (outT [(.exit 0, [7])])) (mv := []) (fun k d K => f55_1_l6 F d.1.1 d.2.1.2.1 (fun (y1 : List Int) => K (.exit 0) [.tv (.lf (.full 1))] [some ⟨d.2.1.1, [.seq (.int .u8) 0 d.2.1.2.1]⟩, some ⟨false, [.seq (.int .u8) 0 y1]⟩]) k d.1.2.2.1 d.2.2.1.2.1) F (fun d K => by kernel_rfl)  (fun k d K => Eq.mp (by kernel_rfl) (L55_1_l6g F k (f74_1 F)  (f55_1_l6 F) (G55_1_6 F F) d K))
theorem E55_1g (F : Nat) (c74_1 : Int → (Bool → Option Res) → Option Res) (l6 : Int → List Int → (List Int → Option Res) → Nat → Int → List Int → Option Res)  (d : sh55_1.den) (K : KF) : evBody Tryd.prog (tab [(74, (mkS sh74_1 (fun d K => c74_1 d.1.1 (fun (y0 : Bool) => K [.lf (.bool y0)] [])) noS))]) (xw []) 35 1 (ltab [(6, mkG sh55_1_l6 [2, 7, 8] (outT [(.exit 0, [7])]) (fun d K => l6 d.1.1 d.2.1.2.1 (fun (y1 : List Int) => K (.exit 0) [.tv (.lf (.full 1))] [some ⟨d.2.1.1, [.seq (.int .u8) 0 d.2.1.2.1]⟩, some ⟨false, [.seq (.int .u8) 0 y1]⟩]) F d.1.2.2.1 d.2.2.1.2.1) [])]) [] code55 Tryd.f55.results.toList (encT sh55_1.vs d.1) (encH sh55_1.h d.2) K = (fun (a1 : Int) (a2 : Int) (a3 : List Int) (K0 : (List Int → Option Res)) => cond (decide ((0 : Int) ≤ (0 : Int) ∧ (0 : Int) ≤ IntKind.i64.wrap (((a3.length : Nat) : Int) + 8) ∧ IntKind.i64.wrap (((a3.length : Nat) : Int) + 8) ≤ 70368744177664 ∧ IntKind.i64.wrap (((a3.length : Nat) : Int) + 8) * 1 ≤ 70368744177664)) (cond (decide ((0 + a3.length) * 1 ≤ 70368744177664)) (c74_1 a1 (fun x1 => cond (!x1) (K0 ((((List.replicate ((IntKind.i64.wrap (((a3.length : Nat) : Int) + 8)).toNat) 0).drop 0).take 0) ++ a3)) (l6 a2 a3 (fun x6 => K0 x6) F (IntKind.i64.wrap (8 * (IntKind.i64.wrap (a1 - 1)))) ((((List.replicate ((IntKind.i64.wrap (((a3.length : Nat) : Int) + 8)).toNat) 0).drop 0).take 0) ++ a3))) ) none) none) d.1.2.1 d.1.2.2.1 d.2.1.2.1 (fun (y1 : List Int) => K [.lf (.full 1)] [some ⟨d.2.1.1, [.seq (.int .u8) 0 d.2.1.2.1]⟩, some ⟨false, [.seq (.int .u8) 0 y1]⟩]) := by kernel_rfl
theorem E55_1 (F : Nat) (d : sh55_1.den) (K : KF) : evBody Tryd.prog (T55_1 F) (xw []) 35 1 (LT55_1 F) [] code55 Tryd.f55.results.toList (encT sh55_1.vs d.1) (encH sh55_1.h d.2) K = f55_1 F d.1.2.1 d.1.2.2.1 d.2.1.2.1 (fun (y1 : List Int) => K [.lf (.full 1)] [some ⟨d.2.1.1, [.seq (.int .u8) 0 d.2.1.2.1]⟩, some ⟨false, [.seq (.int .u8) 0 y1]⟩]) := Eq.mp (by kernel_rfl) (E55_1g F (f74_1 F) (f55_1_l6 F)  d K)
theorem S55_1_ok (F : Nat) (o : Summ) (ho : SoundFn Tryd.prog 55 o) : SoundFn Tryd.prog 55 (S55_1 F o) :=
  soundFn_of (fn := Tryd.f55) (c := code55) rfl rfl (by kernel_rfl) (tab_cons (S74_1_ok F _ (noS_sound enter74)) tab_nil) (by kernel_rfl) (by kernel_rfl) ho (by rw [loops55]; exact (loopsOK_cons (by kernel_rfl) (L55_1_6 F) loopsOK_nil)) (by rw [scopes55]; exact scopesOK_nil) (by rw [ranges55]; exact rangesOK_nil) (E55_1 F)
end Go.Proofs.YtlgopekjjkdkiaaDoor.X
end

section
namespace Go.Proofs.YtlgopekjjkdkiaaDoor.X
open Go Go.Proofs.YtlgopekjjkdkiaaDoor.Ev Go.Proofs
set_option linter.unusedVariables false
set_option linter.unusedSectionVars false
/-! rec.sum -/
noncomputable def f53_1 {β : Type} (F : Nat) (a1 : ByteArray) (K0 : ByteArray → Option β) : Option β := cond (decide ((0 : Int) ≤ (0 : Int) ∧ (0 : Int) ≤ (60 : Int) ∧ (60 : Int) ≤ (a1.size : Int))) (f54_1 F (toInts (a1.extract 0 60)) (fun x1 => f55_1 F 4 (IntKind.u64.wrap x1) [] (fun x2 => K0 (ofInts x2)) ) ) none
variable [FZ]
def sh53_1 : Sh := ⟨[.lf (.str)], []⟩
noncomputable def S53_1 (F : Nat) (o : Summ) : Summ := mkS sh53_1 (fun d K => f53_1 F d.1.1 (fun (y0 : ByteArray) => K [.lf (.str y0)] [])) o
noncomputable def code53 : Code := bodyOf Tryd.f53
theorem scopes53 : scopesOf code53 = [] := by kernel_rfl
theorem ranges53 : rangesOf code53 = [] := by kernel_rfl
theorem loops53 : loopsOf code53 = [] := by kernel_rfl
theorem enter53 : ∀ args w, (callFunc 53 args).run Tryd.prog w = .ok (.enter 53 args) w := enter_of (fn := Tryd.f53) (by kernel_rfl) (by kernel_rfl) (by kernel_rfl)
noncomputable def T53_1 (F : Nat) : FuncId → Option Summ := tab [(54, (S54_1 F noS)), (55, (S55_1 F noS))]
noncomputable def LT53_1 (F : Nat) : Nat → Option LoopS := ltab []
theorem E53_1g (F : Nat) (c54_1 : List Int → (Int → Option Res) → Option Res) (c55_1 : Int → Int → List Int → (List Int → Option Res) → Option Res)   (d : sh53_1.den) (K : KF) : evBody Tryd.prog (tab [(54, (mkS sh54_1 (fun d K => c54_1 d.2.1.2.1 (fun (y0 : Int) => K [.lf (.int .u32 y0)] [some ⟨d.2.1.1, [.seq (.int .u8) 0 d.2.1.2.1]⟩])) noS)), (55, (mkS sh55_1 (fun d K => c55_1 d.1.2.1 d.1.2.2.1 d.2.1.2.1 (fun (y1 : List Int) => K [.lf (.full 1)] [some ⟨d.2.1.1, [.seq (.int .u8) 0 d.2.1.2.1]⟩, some ⟨false, [.seq (.int .u8) 0 y1]⟩])) noS))]) (xw []) 10 0 (ltab []) [] code53 Tryd.f53.results.toList (encT sh53_1.vs d.1) (encH sh53_1.h d.2) K = (fun (a1 : ByteArray) (K0 : (ByteArray → Option Res)) => cond (decide ((0 : Int) ≤ (0 : Int) ∧ (0 : Int) ≤ (60 : Int) ∧ (60 : Int) ≤ (a1.size : Int))) (c54_1 (toInts (a1.extract 0 60)) (fun x1 => c55_1 4 (IntKind.u64.wrap x1) [] (fun x2 => K0 (ofInts x2)) ) ) none) d.1.1 (fun (y0 : ByteArray) => K [.lf (.str y0)] []) := by kernel_rfl
theorem E53_1 (F : Nat) (d : sh53_1.den) (K : KF) : evBody Tryd.prog (T53_1 F) (xw []) 10 0 (LT53_1 F) [] code53 Tryd.f53.results.toList (encT sh53_1.vs d.1) (encH sh53_1.h d.2) K = f53_1 F d.1.1 (fun (y0 : ByteArray) => K [.lf (.str y0)] []) := Eq.mp (by kernel_rfl) (E53_1g F (f54_1 F) (f55_1 F)   d K)
theorem S53_1_ok (F : Nat) (o : Summ) (ho : SoundFn Tryd.prog 53 o) : SoundFn Tryd.prog 53 (S53_1 F o) :=
  soundFn_of (fn := Tryd.f53) (c := code53) rfl rfl (by kernel_rfl) (tab_cons (S54_1_ok F _ (noS_sound enter54)) (tab_cons (S55_1_ok F _ (noS_sound enter55)) tab_nil)) (by kernel_rfl) (by kernel_rfl) ho (by rw [loops53]; exact loopsOK_nil) (by rw [scopes53]; exact scopesOK_nil) (by rw [ranges53]; exact rangesOK_nil) (E53_1 F)
end Go.Proofs.YtlgopekjjkdkiaaDoor.X
end

section
namespace Go.Proofs.YtlgopekjjkdkiaaDoor.X
open Go Go.Proofs.YtlgopekjjkdkiaaDoor.Ev Go.Proofs
set_option linter.unusedVariables false
set_option linter.unusedSectionVars false
/-! sector.Right -/
noncomputable def f65_1 {β : Type} (F : Nat) (a1 : ByteArray) (K0 : Bool → Option β) : Option β := K0 ((a1.size : Int) == 64)
variable [FZ]
def sh65_1 : Sh := ⟨[.lf (.str)], []⟩
noncomputable def S65_1 (F : Nat) (o : Summ) : Summ := mkS sh65_1 (fun d K => f65_1 F d.1.1 (fun (y0 : Bool) => K [.lf (.bool y0)] [])) o
noncomputable def code65 : Code := bodyOf Tryd.f65
theorem scopes65 : scopesOf code65 = [] := by kernel_rfl
theorem ranges65 : rangesOf code65 = [] := by kernel_rfl
theorem loops65 : loopsOf code65 = [] := by kernel_rfl
theorem enter65 : ∀ args w, (callFunc 65 args).run Tryd.prog w = .ok (.enter 65 args) w := enter_of (fn := Tryd.f65) (by kernel_rfl) (by kernel_rfl) (by kernel_rfl)
noncomputable def T65_1 (F : Nat) : FuncId → Option Summ := tab []
noncomputable def LT65_1 (F : Nat) : Nat → Option LoopS := ltab []
theorem E65_1g (F : Nat)    (d : sh65_1.den) (K : KF) : evBody Tryd.prog (tab []) (xw []) 6 0 (ltab []) [] code65 Tryd.f65.results.toList (encT sh65_1.vs d.1) (encH sh65_1.h d.2) K = (fun (a1 : ByteArray) (K0 : (Bool → Option Res)) => K0 ((a1.size : Int) == 64)) d.1.1 (fun (y0 : Bool) => K [.lf (.bool y0)] []) := by kernel_rfl
theorem E65_1 (F : Nat) (d : sh65_1.den) (K : KF) : evBody Tryd.prog (T65_1 F) (xw []) 6 0 (LT65_1 F) [] code65 Tryd.f65.results.toList (encT sh65_1.vs d.1) (encH sh65_1.h d.2) K = f65_1 F d.1.1 (fun (y0 : Bool) => K [.lf (.bool y0)] []) := Eq.mp (by kernel_rfl) (E65_1g F    d K)
theorem S65_1_ok (F : Nat) (o : Summ) (ho : SoundFn Tryd.prog 65 o) : SoundFn Tryd.prog 65 (S65_1 F o) :=
  soundFn_of (fn := Tryd.f65) (c := code65) rfl rfl (by kernel_rfl) tab_nil (by kernel_rfl) (by kernel_rfl) ho (by rw [loops65]; exact loopsOK_nil) (by rw [scopes65]; exact scopesOK_nil) (by rw [ranges65]; exact rangesOK_nil) (E65_1 F)
end Go.Proofs.YtlgopekjjkdkiaaDoor.X
end

section
/- A row's arguments, opened as typed values. -/
namespace Go.Proofs.YtlgopekjjkdkiaaDoor.Ev
open Go Go.RowKit
set_option linter.unusedVariables false
set_option linter.unusedSimpArgs false
set_option linter.unusedSectionVars false
variable [FZ]

def scK (P : Program) (e : TypeId) : Option EK := match P.underlying e with
  | some (.int k) => some (.int k)
  | some .bool => some .bool
  | some .string => some .str
  | _ => none

def scS (P : Program) (e : TypeId) : Option SK := match P.underlying e with
  | some (.int k) => some (.int k)
  | some .bool => some .bool
  | some .string => some .str
  | _ => none

def wfS : (q : SK) → q.den → Prop
  | .int k, n => (Lit.int k n).wf = true
  | .bool, _ => True
  | .str, s => s.size ≤ maxLen

def wfE : (k : EK) → k.den → Prop
  | .int k, n => (Lit.int k n).wf = true
  | .bool, _ => True
  | .str, s => s.size ≤ maxLen
  | .pair a b, p => wfE a p.1 ∧ wfE b p.2
  | .sl q, x => x.dat.length ≤ maxLen ∧ ∀ y ∈ x.dat, wfS q y

def wfD : (s : SL) → s.den → Prop
  | .int k, n => (Lit.int k n).wf = true
  | .str, s => s.size ≤ maxLen
  | .seq k n, l => l.length = n ∧ ∀ x ∈ l, wfE k x
  | .sl q, x => wfE (.sl q) x
  | _, _ => True

def wfL : (l : List SL) → denL l → Prop
  | [], _ => True
  | s :: r, d => wfD s d.1 ∧ wfL r d.2

def appD : (a b : List SL) → denL a → denL b → denL (a ++ b)
  | [], _, _, y => y
  | _ :: r, b, x, y => (x.1, appD r b x.2 y)

theorem encL_app : ∀ (a b : List SL) (x : denL a) (y : denL b), encL (a ++ b) (appD a b x y) = encL a x ++ encL b y
  | [], _, _, _ => rfl
  | s :: r, b, x, y => by
    show s.enc x.1 :: encL (r ++ b) (appD r b x.2 y) = s.enc x.1 :: (encL r x.2 ++ encL b y)
    rw [encL_app r b]

theorem wfL_app : ∀ (a b : List SL) (x : denL a) (y : denL b), wfL a x → wfL b y → wfL (a ++ b) (appD a b x y)
  | [], _, _, _, _, h => h
  | s :: r, b, x, y, hx, hy => ⟨hx.1, wfL_app r b x.2 y hx.2 hy⟩

section
variable (P : Program)

def slFs (g : TypeId → Option (List SL)) : Nat → List Field → Option (List SL × Nat)
  | off, [] => some ([], off)
  | off, f :: r => if f.offset = off then (match g f.type, slFs g (off + P.cellsOf f.type) r with
    | some a, some (b, n) => some (a ++ b, n)
    | _, _ => none) else none

def slOf : Nat → TypeId → Option (List SL)
  | 0, _ => none
  | f + 1, t => match P.underlying t with
    | some (.int k) => some [.int k]
    | some .bool => some [.bool]
    | some .string => some [.str]
    | some (.array n e) => match scK P e with
      | some k => if P.cellsOf e = 1 ∧ P.cellsOf t = n then some [.seq k n] else none
      | none => none
    | some (.struct fs) => match slFs P (slOf f) 0 fs.toList with
      | some (l, n) => if n = P.cellsOf t then some l else none
      | none => none
    | some (.slice e) => match scS P e with
      | some q => if P.cellsOf e = 1 then some [.sl q] else none
      | none => none
    | _ => none
end

theorem pick_list {α : Type} {n : Nat} {R : Nat → α → Prop} (h : ∀ i, i < n → ∃ z, R i z) : ∃ l : List α, l.length = n ∧ ∀ i z, l[i]? = some z → R i z := by
  induction n with
  | zero => exact ⟨[], rfl, fun i z h => by simp at h⟩
  | succ n ih =>
    obtain ⟨l, h1, h2⟩ := ih fun i hi => h i (by omega)
    obtain ⟨z, hz⟩ := h n (by omega)
    refine ⟨l ++ [z], by simp [h1], fun i y hy => ?_⟩
    by_cases hi : i < n
    · rw [List.getElem?_append_left (by omega)] at hy; exact h2 i y hy
    · rw [List.getElem?_append_right (by omega)] at hy
      have : i = n := by
        have := (List.getElem?_eq_some_iff.1 hy).1
        simp at this; omega
      subst this
      rw [h1, Nat.sub_self] at hy
      cases hy; exact hz

theorem addr_add2 (a : Addr) (x y : Nat) : (a.add x).add y = a.add (x + y) := by
  unfold Addr.add
  by_cases hx : x = 0
  · subst hx; simp
  · by_cases hy : y = 0
    · subst hy; simp
    · simp [hx, hy, Nat.add_assoc]
theorem addr_add {a : Addr} (h : a.spot = none) (q : Nat) : a.add q = ⟨a.block, a.off + q, none⟩ := by
  cases a; simp only at h; subst h
  unfold Addr.add
  split
  · rename_i h; subst h; simp
  · simp

/-- What is known of an object that an argument shows. -/
structure Shown (w : World) (k : EK) (l : List k.den) (g : Gh) (v : Value) : Prop where
  len : l.length ≤ maxLen
  wf : ∀ x ∈ l, wfE k x
  obj : ∀ m, ObRel m g w ⟨true, [.seq k 0 l]⟩
  blk : ∀ b, g.addr = some b → b.1 < w.heap.size
  rel : ∀ (m : GM) id, m[id]? = some g → LRel m (.full id) v

theorem ghOf_ln (b : Option (Nat × Nat)) (sz : Nat) (k : EK) (l : List k.den) : (ghOf b sz [.seq k 0 l]).ln 0 = l.length ∧ (ghOf b sz [.seq k 0 l]).ew 0 = k.w := by
  obtain ⟨h1, h2⟩ := ghOf_seq b sz [.seq k 0 l] 0 k 0 l [] (drop0 _)
  exact ⟨h1.symm, h2.symm⟩

theorem shown_none (w : World) (k : EK) {a : Option Addr} : Shown w k [] (ghOf none 0 [.seq k 0 []]) (.slice a 0 0) := by
  refine ⟨Nat.zero_le _, fun x hx => (by cases hx), fun m => ⟨ghOf_seq _ _ _, [], ⟨[], [], rfl, ⟨.inl rfl, rfl⟩, rfl⟩, .inl ⟨rfl, rfl⟩⟩, fun b hb => (by cases hb), fun m id hid => ?_⟩
  exact ⟨_, hid, _, a, 0, hid, by rw [(ghOf_ln none 0 k []).1]; rfl, by rw [(ghOf_ln none 0 k []).1]; simp, fun c h => (by cases h), by rw [(ghOf_ln none 0 k []).1]; simp, .inl rfl⟩

section
variable {P : Program} {H : Type} {enc : TypeId × Value → H} {w : World} {base : Nat} {spare : Nat → Bool} {held : Bool}

def Opn (m : GM) (sl : List SL) (cs : List Value) (ps : List MemPlace) : Prop := ∃ d : denL sl, OCells m (encL sl d) cs ∧ wfL sl d

theorem sc_open {e : TypeId} {k : EK} {fuel : Nat} {c : List Value} {x : DataW H × List MemPlace} (hk : scK P e = some k) (h : DataW.trod enc P w base spare held fuel e c = some x) :
    ∃ z : k.den, c = k.cv z ∧ wfE k z ∧ x.2 = [] := by
  unfold scK at hk
  split at hk
  · rename_i k' ht
    cases hk
    obtain ⟨n, rfl, rfl, hw⟩ := DataW.trod_int ht h
    exact ⟨n, rfl, hw, rfl⟩
  · rename_i ht
    cases hk
    obtain ⟨b, rfl, rfl⟩ := DataW.trod_bool ht h
    exact ⟨b, rfl, trivial, rfl⟩
  · rename_i ht
    cases hk
    obtain ⟨s, rfl, rfl, hs⟩ := DataW.trod_string ht h
    exact ⟨s, rfl, hs, rfl⟩
  · cases hk

theorem sc_list {e : TypeId} {k : EK} {fuel : Nat} (hk : scK P e = some k) : ∀ (n : Nat) (cs : List Value) (xs : List (DataW H × List MemPlace)), cs.length = n → xs.length = n →
    (∀ i, i < n → DataW.trod enc P w base spare held fuel e ((cs.drop i).take 1) = xs[i]?) → ∃ l : List k.den, cs = cvs k l ∧ l.length = n ∧ (∀ x ∈ l, wfE k x) ∧ xs.flatMap (·.2) = []
  | 0, cs, xs, hc, hx, _ => by
    have := List.eq_nil_of_length_eq_zero hc
    have h2 := List.eq_nil_of_length_eq_zero hx
    subst this; subst h2
    exact ⟨[], rfl, rfl, fun x hx => (by cases hx), rfl⟩
  | n + 1, [], xs, hc, hx, _ => by simp at hc
  | n + 1, c :: cs, [], hc, hx, _ => by simp at hx
  | n + 1, c :: cs, x :: xs, hc, hx, h => by
    have h0 := h 0 (by omega)
    simp only [List.drop_zero, List.take_succ_cons, List.take_zero, List.getElem?_cons_zero] at h0
    obtain ⟨z, hz, hw, hp⟩ := sc_open hk h0
    obtain ⟨l, h1, h2, h3, h4⟩ := sc_list hk n cs xs (by simpa using hc) (by simpa using hx) fun i hi => by simpa using h (i + 1) (by omega)
    refine ⟨z :: l, ?_, by simp [h2], fun y hy => ?_, by simp [hp, h4]⟩
    · rw [h1] ; simp only [cvs, ← hz]; rfl
    · rcases List.mem_cons.1 hy with rfl | hy
      · exact hw
      · exact h3 y hy

theorem slice_core {e t : TypeId} {k : EK} (ht : P.underlying t = some (.slice e)) (hc : P.cellsOf e = k.w) (el : ∀ n cs (x : DataW H × List MemPlace), DataW.trod enc P w 0 (fun _ => true) held n e cs = some x → ∃ z : k.den, cs = k.cv z ∧ wfE k z)
    {a0 : Option Addr} {n0 c0 fuel : Nat} {x : DataW H × List MemPlace} (hf : DataW.trod enc P w 0 (fun _ => true) held fuel t [.slice a0 n0 c0] = some x) :
    ∃ (l : List k.den) (g : Gh), Shown w k l g (.slice a0 n0 c0) := by
  rcases DataW.trod_slice ht hf with ⟨h1, _⟩ | ⟨a, len, cap, elems, rest, n, _, h1, hx, hb, hle, hmax, hlen, hel, hsp, _⟩
  · cases h1
    exact ⟨[], _, shown_none w k⟩
  · simp only [List.cons.injEq, Value.slice.injEq, and_true] at h1
    obtain ⟨rfl, rfl, rfl⟩ := h1
    obtain ⟨hrl, hr⟩ := hsp rfl
    by_cases hcap : c0 = 0
    · subst hcap
      have : n0 = 0 := by omega
      subst this
      exact ⟨[], _, shown_none w k⟩
    have each : ∀ i, i < c0 → ∃ z : k.den, wfE k z ∧ ∀ j, j < k.w → w.cell? (a.add (i * k.w + j)) = (k.cv z)[j]? := by
      intro i hi
      obtain ⟨y, hy⟩ : ∃ y, (w.cells? 0 (a.add (i * P.cellsOf e)) (P.cellsOf e)).bind (DataW.trod enc P w 0 (fun _ => true) held n e) = some y := by
        by_cases hil : i < n0
        · exact ⟨_, (hel i hil).trans (List.getElem?_eq_getElem (by omega))⟩
        · have h2 := hr (i - n0) (by omega)
          rw [show n0 + (i - n0) = i by omega] at h2
          exact ⟨_, h2.trans (List.getElem?_eq_getElem (by omega))⟩
      rw [hc, Option.bind_eq_some_iff] at hy
      obtain ⟨cs, hcs, hy⟩ := hy
      obtain ⟨z, hcv, hwz⟩ := el n cs _ hy
      obtain ⟨_, _, hget⟩ := World.cells?_some hcs
      refine ⟨z, hwz, fun j hj => ?_⟩
      have := hget j hj
      rw [hcv] at this
      rw [← this]
      have e9 : (a.add (i * k.w)).add j = a.add (i * k.w + j) := addr_add2 a _ _
      first | rw [e9] | rw [hc, e9]
    obtain ⟨l, hl1, hl2⟩ := pick_list (n := n0) (R := fun i z => wfE k z ∧ ∀ j, j < k.w → w.cell? (a.add (i * k.w + j)) = (k.cv z)[j]?) fun i hi => each i (by omega)
    have hwp := EK.w_pos k
    have cellOf : ∀ q, q < c0 * k.w → ∃ u, w.cell? (a.add q) = some u := by
      intro q hq
      have hdiv : q / k.w < c0 := Nat.div_lt_of_lt_mul (by rw [Nat.mul_comm]; exact hq)
      obtain ⟨z, _, hz⟩ := each (q / k.w) hdiv
      have h3 := hz (q % k.w) (Nat.mod_lt _ hwp)
      rw [Nat.mul_comm, Nat.div_add_mod] at h3
      have : q % k.w < (k.cv z).length := by rw [cv_length]; exact Nat.mod_lt _ hwp
      rw [List.getElem?_eq_getElem this] at h3
      exact ⟨_, h3⟩
    have hpos : 0 < c0 * k.w := Nat.mul_pos (by omega) hwp
    obtain ⟨blk, ty, fr, hblk, hspot, hget⟩ : ∃ blk ty fr, w.heap[a.block]? = some (.cells blk ty fr) ∧ a.spot = none ∧ ∀ q, w.cell? (a.add q) = blk[a.off + q]? := by
      obtain ⟨u, hu⟩ := cellOf 0 hpos
      rw [show a.add 0 = a by simp [Addr.add]] at hu
      unfold World.cell? at hu
      split at hu
      · rename_i c ty fr hh
        have hh' : w.heap[a.block]? = some (.cells c ty fr) := hh
        split at hu
        · cases hu
        · rename_i hsn
          have hsn' : a.spot = none := by
            cases hq : a.spot with
            | none => rfl
            | some _ => exact absurd (by simp [hq]) hsn
          refine ⟨c, ty, fr, hh', hsn', fun q => ?_⟩
          rw [addr_add hsn' q]
          unfold World.cell?
          simp only [hh']
          rfl
      · cases hu
    have hsize : a.off + c0 * k.w ≤ blk.size := by
      obtain ⟨u, hu⟩ := cellOf (c0 * k.w - 1) (by omega)
      rw [hget] at hu
      have := (Array.getElem?_eq_some_iff.1 hu).1
      omega
    obtain ⟨g1, g2⟩ := ghOf_ln (some (a.block, a.off)) blk.size k l
    have haddr : a = at_ (a.block, a.off) 0 := by
      cases a; simp only at hspot; subst hspot; simp [at_]
    have hcl : (cvs k l).length = n0 * k.w := by rw [cvs_length, hl1]
    have hmul : n0 * k.w ≤ c0 * k.w := Nat.mul_le_mul_right _ hle
    refine ⟨l, ghOf (some (a.block, a.off)) blk.size [.seq k 0 l], by omega, fun x hx => ?_, fun m => ⟨ghOf_seq _ _ _, cvs k l, ⟨cvs k l, [], (List.append_nil _).symm, ⟨.inl rfl, rfl⟩, rfl⟩, .inr ⟨(a.block, a.off), blk, ty, fr, rfl, hblk, rfl, ?_, fun j hj => ?_, fun h0 => by cases h0⟩⟩, fun b hb => ?_, fun m id hid => ?_⟩
    · obtain ⟨i, hi⟩ := List.getElem?_of_mem hx
      exact (hl2 i x hi).1
    · rw [hcl]; simp only [ghOf]; omega
    · rw [hcl] at hj
      have hdiv : j / k.w < n0 := Nat.div_lt_of_lt_mul (by rw [Nat.mul_comm]; exact hj)
      have hmod := Nat.mod_lt j hwp
      have h4 := (hl2 (j / k.w) (l.getD (j / k.w) k.zero) (by rw [List.getD_eq_getElem?_getD, List.getElem?_eq_getElem (by omega)]; rfl)).2 (j % k.w) hmod
      have h5 := cvs_getD k l (j / k.w) (by omega) (j % k.w) hmod
      rw [Nat.mul_comm, Nat.div_add_mod] at h4 h5
      rw [hget] at h4
      rw [h5]; exact h4
    · cases hb; exact (Array.getElem?_eq_some_iff.1 hblk).1
    · refine ⟨_, hid, _, some a, c0, hid, by rw [g1, hl1], by rw [g1]; omega, fun c h => (by cases h), by rw [g1]; simp, .inr ⟨(a.block, a.off), rfl, ?_, ?_⟩⟩
      · simp only [Nat.zero_mul, Nat.add_zero]; rw [← haddr]
      · rw [g2]; simp only [ghOf, Nat.zero_add, Nat.add_zero]; omega


/-- What an argument shows is memory that nothing turns. -/
theorem shown_fz {q : SK} {l : List q.ek.den} {g : Gh} {a0 : Option Addr} {n0 c0 : Nat} (h : Shown w q.ek l g (.slice a0 n0 c0)) : n0 = l.length ∧ FzW (Ctx.of w fun _ => False) a0 c0 (cvs q.ek l) := by
  have hrel := h.rel [g] 0 rfl
  obtain ⟨g1, hg1, g2, A, C, hg2, hv, hle, _, hln, hb⟩ := hrel
  cases hg1
  cases hg2
  cases hv
  obtain ⟨hsg, cs, hoc, hpl⟩ := h.obj []
  have hlen := (hsg 0 q.ek 0 l [] (drop0 _)).1
  have hew := (hsg 0 q.ek 0 l [] (drop0 _)).2
  obtain ⟨_, _, rfl, ⟨_, rfl⟩, rfl⟩ := hoc
  rw [List.append_nil] at hpl
  refine ⟨by rw [hlen], ?_⟩
  have hcl : (cvs q.ek l).length = l.length := by rw [cvs_length, ek_w, Nat.mul_one]
  rcases hb with hb | ⟨b, hb, hA, hsz⟩
  · refine .inl ⟨hb, ?_⟩
    have : l = [] := List.eq_nil_of_length_eq_zero (by omega)
    rw [this]; rfl
  · rcases hpl with ⟨_, h0⟩ | ⟨b', blk, t, fr, p1, p2, p3, p4, p5, _⟩
    · rw [hb] at h0; cases h0
    · rw [hb] at p1; cases p1
      rw [← hew, ek_w] at hsz
      refine .inr ⟨b, blk, t, fr, by rw [hA]; simp, p2, by omega, by omega, p5, fun h0 => h0⟩

theorem toL_inv (q : SK) (l : List q.ek.den) : ∃ d : List q.den, q.toL d = l := by
  cases q <;> exact ⟨l, rfl⟩

theorem wfS_toL {q : SK} {d : List q.den} (h : ∀ x ∈ q.toL d, wfE q.ek x) : ∀ x ∈ d, wfS q x := by
  cases q <;> exact h

theorem sc_ek {e : TypeId} {q : SK} (h : scS P e = some q) : scK P e = some q.ek := by
  unfold scS at h
  unfold scK
  split at h
  · rename_i k ht; cases h; simp only [ht]
  · rename_i ht; cases h; simp only [ht]
  · rename_i ht; cases h; simp only [ht]
  · cases h

theorem slFs_open {m : GM} {g : TypeId → Option (List SL)} {fuel : Nat} (ih : ∀ t sl cs (x : DataW H × List MemPlace), g t = some sl → DataW.trod enc P w base spare held fuel t cs = some x → Opn m sl cs x.2) :
    ∀ (fs : List Field) (off : Nat) (sl : List SL) (n : Nat) (cs : List Value) (xs : List (DataW H × List MemPlace)), slFs P g off fs = some (sl, n) → cs.length = n → xs.length = fs.length →
      (∀ (i : Nat) f, fs[i]? = some f → DataW.trod enc P w base spare held fuel f.type ((cs.drop f.offset).take (P.cellsOf f.type)) = xs[i]?) → Opn m sl (cs.drop off) (xs.flatMap (·.2))
  | [], off, sl, n, cs, xs, hs, hn, hx, _ => by
    simp only [slFs, Option.some.injEq, Prod.mk.injEq] at hs
    obtain ⟨rfl, rfl⟩ := hs
    have := List.eq_nil_of_length_eq_zero hx
    subst this
    exact ⟨(), by simp [encL, OCells, hn], trivial⟩
  | f :: fs, off, sl, n, cs, xs, hs, hn, hx, h => by
    simp only [slFs] at hs
    split at hs
    · rename_i hoff
      split at hs
      · rename_i a b n' ha hb
        simp only [Option.some.injEq, Prod.mk.injEq] at hs
        obtain ⟨rfl, rfl⟩ := hs
        cases xs with
        | nil => simp at hx
        | cons x xs =>
          have h0 := h 0 f rfl
          rw [hoff] at h0
          obtain ⟨d1, o1, w1⟩ := ih _ _ _ _ ha h0
          obtain ⟨d2, o2, w2⟩ := slFs_open ih fs _ _ _ cs xs hb hn (by simpa using hx) fun i f' hf => by simpa using h (i + 1) f' (by simpa using hf)
          refine ⟨appD _ _ d1 d2, ?_, wfL_app _ _ _ _ w1 w2⟩
          rw [encL_app]
          refine ocells_append.2 ⟨_, _, ?_, o1, o2⟩
          rw [← List.drop_drop, List.take_append_drop]
      · cases hs
    · cases hs

theorem slOf_open {m : GM} (hfz : ∀ a cap cs, FzW (Ctx.of w fun _ => False) a cap cs → FZ.ok a cap cs) : ∀ (f : Nat) (t : TypeId) (sl : List SL) (fuel : Nat) (cs : List Value) (x : DataW H × List MemPlace), slOf P f t = some sl →
    DataW.trod enc P w 0 (fun _ => true) held fuel t cs = some x → Opn m sl cs x.2
  | 0, t, sl, fuel, cs, x, hs, h => by simp [slOf] at hs
  | f + 1, t, sl, fuel, cs, x, hs, h => by
    simp only [slOf] at hs
    split at hs
    · rename_i k ht
      cases hs
      obtain ⟨n, rfl, rfl, hw⟩ := DataW.trod_int ht h
      exact ⟨(n, ()), ⟨[_], [], rfl, ⟨_, rfl, rfl⟩, rfl⟩, ⟨hw, trivial⟩⟩
    · rename_i ht
      cases hs
      obtain ⟨b, rfl, rfl⟩ := DataW.trod_bool ht h
      exact ⟨(b, ()), ⟨[_], [], rfl, ⟨_, rfl, rfl⟩, rfl⟩, ⟨trivial, trivial⟩⟩
    · rename_i ht
      cases hs
      obtain ⟨s, rfl, rfl, hw⟩ := DataW.trod_string ht h
      exact ⟨(s, ()), ⟨[_], [], rfl, ⟨_, rfl, rfl⟩, rfl⟩, ⟨hw, trivial⟩⟩
    · rename_i n e ht
      split at hs
      · rename_i k hk
        split at hs
        · rename_i h1
          cases hs
          obtain ⟨xs, mm, rfl, rfl, hc, hl, hall⟩ := DataW.trod_array ht h
          have hcn : cs.length = n := hc.trans h1.2
          obtain ⟨l, q1, q2, q3, q4⟩ := sc_list hk n cs xs hcn hl fun i hi => by
            have := hall i hi
            rw [h1.1, Nat.mul_one] at this
            exact this
          exact ⟨(l, ()), ⟨cs, [], by simp, ⟨.inr q2, q1⟩, rfl⟩, ⟨⟨q2, q3⟩, trivial⟩⟩
        · cases hs
      · cases hs
    · rename_i fs ht
      split at hs
      · rename_i l n hl
        split at hs
        · rename_i hn
          cases hs
          obtain ⟨xs, mm, rfl, rfl, hc, hx, hall⟩ := DataW.trod_struct ht h
          have := slFs_open (m := m) (fun t sl cs x hs h => slOf_open hfz f t sl mm cs x hs h) fs.toList 0 _ _ cs xs hl (hc.trans hn.symm) (by simpa using hx) fun i f' hf => hall i f' (by simpa using hf)
          simpa using this
        · cases hs
      · cases hs
    · rename_i e ht
      split at hs
      · rename_i q hq
        split at hs
        · rename_i h1
          cases hs
          have hv : ∃ a0 n0 c0, cs = [.slice a0 n0 c0] := by
            rcases DataW.trod_slice ht h with ⟨h2, _⟩ | ⟨a, len, cap, elems, rest, n, _, h2, _⟩
            · exact ⟨_, _, _, h2⟩
            · exact ⟨_, _, _, h2⟩
          obtain ⟨a0, n0, c0, rfl⟩ := hv
          obtain ⟨l, g, hsh⟩ := slice_core (k := q.ek) ht (h1.trans (ek_w q).symm) (fun n cs x hx => let ⟨z, z1, z2, _⟩ := sc_open (sc_ek hq) hx; ⟨z, z1, z2⟩) h
          obtain ⟨h3, h4⟩ := shown_fz hsh
          obtain ⟨dd, rfl⟩ := toL_inv q l
          rw [toL_cvs] at h4
          rw [toL_length] at h3
          refine ⟨(⟨a0, c0, dd, .inr (hfz _ _ _ h4)⟩, ()), ⟨[_], [], rfl, ⟨_, rfl, ?_⟩, rfl⟩, ⟨⟨?_, wfS_toL hsh.wf⟩, trivial⟩⟩
          · rw [h3]; rfl
          · have := hsh.len; rw [toL_length] at this; exact this
        · cases hs
      · cases hs
    · cases hs

/-- One argument without memory of its own, of several cells. -/
theorem arg_agg (hfz : ∀ a cap cs, FzW (Ctx.of w fun _ => False) a cap cs → FZ.ok a cap cs) {m : GM} {r : Reach} {b0 : Nat} {t : TypeId} {v : Value} {d : DataW H} {ps : List MemPlace} {sl : List SL} (hs : slOf P 8 t = some sl) (hag : isAggT P t = true) (hv : Value.okWide P w r b0 t v)
    (h : DataW.Trod enc P w 0 (fun _ => true) held t v d ps) : ∃ y : denL sl, TVRel m (.agg (encL sl y)) v ∧ wfL sl y := by
  obtain ⟨fuel, hf⟩ := h
  obtain ⟨y, h1, h2⟩ := slOf_open (m := m) hfz _ _ _ _ _ _ hs hf
  have : ∃ cs, v = .agg cs := by
    unfold isAggT at hag
    unfold Value.okWide at hv
    split at hag
    · rename_i fs ht
      rw [ht] at hv
      obtain ⟨cs, h, _⟩ := hv
      exact ⟨cs, h⟩
    · rename_i n e ht
      rw [ht] at hv
      obtain ⟨cs, h, _⟩ := hv
      exact ⟨cs, h⟩
    · cases hag
  obtain ⟨cs, rfl⟩ := this
  exact ⟨y, ⟨cs, rfl, h1⟩, h2⟩

theorem arg_int {r : Reach} {b0 : Nat} {t : TypeId} {k : IntKind} {v : Value} {d : DataW H} {ps : List MemPlace} (ht : P.underlying t = some (.int k)) (hv : Value.okWide P w r b0 t v)
    (h : DataW.Trod enc P w base spare held t v d ps) : ∃ n, v = .int k n ∧ (Lit.int k n).wf = true ∧ ps = [] := by
  obtain ⟨n, rfl⟩ := Go.WideShapes.okWide_int ht hv
  obtain ⟨fuel, hf⟩ := h
  obtain ⟨n', h1, h2, h3⟩ := DataW.trod_int ht hf
  simp [Value.cells] at h1
  subst h1
  exact ⟨n, rfl, h3, congrArg (·.2) h2⟩

theorem arg_bool {r : Reach} {b0 : Nat} {t : TypeId} {v : Value} {d : DataW H} {ps : List MemPlace} (ht : P.underlying t = some .bool) (hv : Value.okWide P w r b0 t v)
    (h : DataW.Trod enc P w base spare held t v d ps) : ∃ b, v = .bool b ∧ ps = [] := by
  obtain ⟨b, rfl⟩ := Go.WideShapes.okWide_bool ht hv
  obtain ⟨fuel, hf⟩ := h
  obtain ⟨b', h1, h2⟩ := DataW.trod_bool ht hf
  exact ⟨b, rfl, congrArg (·.2) h2⟩

theorem arg_str {r : Reach} {b0 : Nat} {t : TypeId} {v : Value} {d : DataW H} {ps : List MemPlace} (ht : P.underlying t = some .string) (hv : Value.okWide P w r b0 t v)
    (h : DataW.Trod enc P w base spare held t v d ps) : ∃ s, v = .string s ∧ s.size ≤ maxLen ∧ ps = [] := by
  obtain ⟨s, rfl⟩ := Go.WideShapes.okWide_string ht hv
  obtain ⟨fuel, hf⟩ := h
  obtain ⟨s', h1, h2, h3⟩ := DataW.trod_string ht hf
  simp [Value.cells] at h1
  subst h1
  exact ⟨s, rfl, h3, congrArg (·.2) h2⟩

theorem trodAll_below (hl : laidOutB P = true) {W W' : World} (hb : Below W.heap.size W W') : ∀ {ts : List TypeId} {vs : List Value} {ds : List (DataW H)} {ps : List MemPlace},
    (∀ t ∈ ts, P.readableRec t = true ∧ t < P.types.size) → DataW.TrodAll enc P W 0 (fun _ => true) true ts vs ds ps → (∀ x ∈ ps, x.block < W.heap.size) →
    DataW.TrodAll enc P W' 0 (fun b => decide (b < W.heap.size)) true ts vs ds ps
  | [], [], [], ps, _, h, _ => h
  | t :: ts, v :: vs, d :: ds, ps, hr, ⟨p, q, h1, h2, h3⟩, hlt => by
    subst h3
    exact ⟨p, q, Go.RowKit.Below.trod hl (hr t (by simp)).1 (hr t (by simp)).2 h1 hb (fun x hx => hlt x (by simp [hx])), trodAll_below hl hb (fun t ht => hr t (by simp [ht])) h2 (fun x hx => hlt x (by simp [hx])), rfl⟩
  | [], _ :: _, _, _, _, h, _ => h.elim
  | [], [], _ :: _, _, _, h, _ => h.elim
  | _ :: _, [], _, _, _, h, _ => h.elim
  | _ :: _, _ :: _, [], _, _, h, _ => h.elim

theorem Ext.below {w w' : World} (h : Ext w w') : Below w.heap.size w w' := ⟨h.str.1, h.str.2.1, h.str.2.2, h.size, fun k hk => h.block k hk⟩

/-- No objects. -/
theorem inv_nil (hfz : ∀ a cap cs, FZ.ok a cap cs → FzW (Ctx.of w fun _ => False) a cap cs) : Inv (Ctx.of w fun _ => False) [] [] w :=
  ⟨rfl, fun id ob g h => by simp [hget] at h, fun id ob g b h => by simp [hget] at h, fun i j oi oj gi gj b c _ h => by simp [hget] at h, Str.refl w, Nat.le_refl _, fun _ _ _ => rfl, hfz, fun x hx => by cases hx⟩

end
end Go.Proofs.YtlgopekjjkdkiaaDoor.Ev
end

section
/- A row's arguments, opened as typed values: slices, which are lent for reading. -/
namespace Go.Proofs.YtlgopekjjkdkiaaDoor.Ev
open Go Go.RowKit
set_option linter.unusedVariables false
set_option linter.unusedSimpArgs false
set_option linter.unusedSectionVars false
variable [FZ]

section
variable {P : Program} {H : Type} {enc : TypeId × Value → H} {w : World} {held : Bool}

theorem open_slice (hfz : ∀ a cap cs, FzW (Ctx.of w fun _ => False) a cap cs → FZ.ok a cap cs) {e t : TypeId} {sl : List SL} {k : EK} (conv : denL sl → k.den) (ht : P.underlying t = some (.slice e)) (hs : slOf P 8 e = some sl) (hc : P.cellsOf e = k.w) (hconv : ∀ y, k.of1 (encL sl y) = some (conv y))
    (hwf : ∀ y, wfL sl y → wfE k (conv y)) {r : Reach} {b0 : Nat} {v : Value} {d : DataW H} {ps : List MemPlace} (hv : Value.okWide P w r b0 t v) (h : DataW.Trod enc P w 0 (fun _ => true) held t v d ps) :
    ∃ (l : List k.den) (g : Gh), Shown w k l g v := by
  obtain ⟨a0, n0, c0, rfl⟩ := Go.WideShapes.okWide_slice ht hv
  obtain ⟨fuel, hf⟩ := h
  exact slice_core ht hc (fun n cs x hx => by
    obtain ⟨d', o1, o2⟩ := slOf_open (m := []) hfz 8 e sl n cs x hs hx
    exact ⟨conv d', of1_cells k (hconv d') o1, hwf d' o2⟩) hf

/-- Arguments that are lent. -/
theorem inv_shown {m : GM} {h : Heap} (hfz : ∀ a cap cs, FZ.ok a cap cs → FzW (Ctx.of w fun _ => False) a cap cs) (hl : m.length = h.length) (hq : ∀ (i : Nat) ob g, hget h i = some ob → m[i]? = some g → ob.ro = true ∧ ObRel m g w ob ∧ ∀ b, g.addr = some b → b.1 < w.heap.size) :
    Inv (Ctx.of w fun _ => False) m h w :=
  ⟨hl, fun id ob g h1 h2 => (hq id ob g h1 h2).2.1, fun id ob g b h1 h2 h3 => by rw [(hq id ob g h1 h2).1]; exact ⟨fun h => h, (hq id ob g h1 h2).2.2 b h3, trivial⟩,
   fun i j oi oj gi gj b c _ h1 h2 h3 _ h5 h6 => (by rw [(hq i oi gi h1 h5).1] at h3; cases h3), Str.refl w, Nat.le_refl _, fun _ _ _ => rfl, hfz, fun x hx => by cases hx⟩

theorem inv_cons {m : GM} {h : Heap} {k : EK} {l : List k.den} {g : Gh} {v : Value} (hi : Inv (Ctx.of w fun _ => False) m h w) (hro : ∀ (i : Nat) ob, hget h i = some ob → ob.ro = true) (hs : Shown w k l g v) :
    Inv (Ctx.of w fun _ => False) (m ++ [g]) (h ++ [some ⟨true, [.seq k 0 l]⟩]) w ∧ (∀ (i : Nat) ob, hget (h ++ [some ⟨true, [.seq k 0 l]⟩]) i = some ob → ob.ro = true) ∧ LRel (m ++ [g]) (.full h.length) v := by
  have hro' : ∀ (i : Nat) ob, hget (h ++ [some ⟨true, [.seq k 0 l]⟩]) i = some ob → ob.ro = true := by
    intro i ob h1
    rcases hget_app h1 with ⟨_, h2⟩ | ⟨_, h2⟩
    · exact hro i ob h2
    · cases h2; rfl
  refine ⟨inv_shown hi.fz (by simp [hi.len]) fun i ob g' h1 h2 => ⟨hro' i ob h1, ?_⟩, hro', ?_⟩
  · rcases hget_app h1 with ⟨hlt, h3⟩ | ⟨rfl, h3⟩
    · have h4 := gm_app_old (by rw [hi.len]; exact hlt) h2
      obtain ⟨o1, cs, o2, o3⟩ := hi.obs i ob g' h3 h4
      exact ⟨⟨o1, cs, o2.mono (pre_append _ _), o3⟩, fun b hb => hi.block_lt h3 h4 hb⟩
    · cases h3
      have : (m ++ [g])[h.length]? = some g := by rw [← hi.len]; exact gm_app_new
      rw [this] at h2; cases h2
      exact ⟨hs.obj _, hs.blk⟩
  · exact hs.rel _ _ (by rw [← hi.len]; exact gm_app_new)

end
end Go.Proofs.YtlgopekjjkdkiaaDoor.Ev
end

section
/- strings.Trim: the contract of the kit, at this program. -/
namespace Go.Proofs.YtlgopekjjkdkiaaDoor.X
open Go Go.Proofs.YtlgopekjjkdkiaaDoor.Ev Go.Proofs Go.Shelf Go.RowKit
set_option linter.unusedVariables false
def trmRen : Go.Shelf.Ren := ⟨fun x => match x with | 160 => 81 | 232 => 86 | 231 => 85 | 227 => 87 | 234 => 89 | 233 => 88 | 236 => 91 | 235 => 90 | 228 => 92 | 271 => 95 | 151 => 94 | 197 => 93 | 120 => 98 | 152 => 97 | 260 => 96 | 137 => 99 | 119 => 100 | 224 => 101 | 225 => 102 | 217 => 103 | 266 => 104 | n => n, fun x => match x with | 9 => 9 | 4 => 4 | 3 => 3 | 5 => 5 | 117 => 139 | 116 => 138 | 0 => 0 | 124 => 142 | 21 => 21 | 105 => 144 | 46 => 82 | 119 => 148 | 139 => 151 | 138 => 150 | n => n, fun x => match x with | 3 => 1 | 4 => 2 | n => n⟩
theorem trmLays : Lays.n160 Tryd.prog trmRen where
  mixed := by kernel_rfl
  f119 := Tryd.func100.trans (congrArg some (by kernel_rfl))
  f120 := Tryd.func98.trans (congrArg some (by kernel_rfl))
  f137 := Tryd.func99.trans (congrArg some (by kernel_rfl))
  f151 := Tryd.func94.trans (congrArg some (by kernel_rfl))
  f152 := Tryd.func97.trans (congrArg some (by kernel_rfl))
  f160 := Tryd.func81.trans (congrArg some (by kernel_rfl))
  f197 := Tryd.func93.trans (congrArg some (by kernel_rfl))
  f217 := Tryd.func103.trans (congrArg some (by kernel_rfl))
  f224 := Tryd.func101.trans (congrArg some (by kernel_rfl))
  f225 := Tryd.func102.trans (congrArg some (by kernel_rfl))
  f227 := Tryd.func87.trans (congrArg some (by kernel_rfl))
  f228 := Tryd.func92.trans (congrArg some (by kernel_rfl))
  f231 := Tryd.func85.trans (congrArg some (by kernel_rfl))
  f232 := Tryd.func86.trans (congrArg some (by kernel_rfl))
  f233 := Tryd.func88.trans (congrArg some (by kernel_rfl))
  f234 := Tryd.func89.trans (congrArg some (by kernel_rfl))
  f235 := Tryd.func90.trans (congrArg some (by kernel_rfl))
  f236 := Tryd.func91.trans (congrArg some (by kernel_rfl))
  f260 := Tryd.func96.trans (congrArg some (by kernel_rfl))
  f266 := Tryd.func104.trans (congrArg some (by kernel_rfl))
  f271 := Tryd.func95.trans (congrArg some (by kernel_rfl))
  t0 := Tryd.underlying0
  a0 := Tryd.isAgg0
  z0 := Tryd.sizeOf0
  v0 := Tryd.zeroValue0
  t3 := Tryd.underlying3
  a3 := Tryd.isAgg3
  z3 := Tryd.sizeOf3
  v3 := Tryd.zeroValue3
  t4 := Tryd.underlying4
  a4 := Tryd.isAgg4
  z4 := Tryd.sizeOf4
  v4 := Tryd.zeroValue4
  t5 := Tryd.underlying5
  a5 := Tryd.isAgg5
  z5 := Tryd.sizeOf5
  v5 := Tryd.zeroValue5
  t9 := Tryd.underlying9
  a9 := Tryd.isAgg9
  z9 := Tryd.sizeOf9
  v9 := Tryd.zeroValue9
  t21 := Tryd.underlying21
  a21 := Tryd.isAgg21
  z21 := Tryd.sizeOf21
  v21 := Tryd.zeroValue21
  t46 := Tryd.underlying82
  a46 := Tryd.isAgg82
  z46 := Tryd.sizeOf82
  v46 := Tryd.zeroValue82
  t105 := Tryd.underlying144
  a105 := Tryd.isAgg144
  z105 := Tryd.sizeOf144
  v105 := Tryd.zeroValue144
  t116 := Tryd.underlying138
  a116 := Tryd.isAgg138
  z116 := Tryd.sizeOf138
  t117 := Tryd.underlying139
  a117 := Tryd.isAgg139
  z117 := Tryd.sizeOf139
  v117 := Tryd.zeroValue139
  t119 := Tryd.underlying148
  a119 := Tryd.isAgg148
  z119 := Tryd.sizeOf148
  t124 := Tryd.underlying142
  a124 := Tryd.isAgg142
  z124 := Tryd.sizeOf142
  v124 := Tryd.zeroValue142
  t138 := Tryd.underlying150
  a138 := Tryd.isAgg150
  z138 := Tryd.sizeOf150
  v138 := Tryd.zeroValue150
  t139 := Tryd.underlying151
  a139 := Tryd.isAgg151
  z139 := Tryd.sizeOf151
  v139 := Tryd.zeroValue151
  g3 := by kernel_rfl
  g4 := by kernel_rfl
end Go.Proofs.YtlgopekjjkdkiaaDoor.X
end

section
/- strings.Trim: its contract, as a typed function. -/
namespace Go.Proofs.YtlgopekjjkdkiaaDoor.X
open Go Go.Proofs.YtlgopekjjkdkiaaDoor.Ev Go.Proofs
set_option linter.unusedVariables false
set_option linter.unusedSimpArgs false
set_option linter.unusedSectionVars false
variable [FZ]

/-- A string without the bytes of a set at its ends. -/
noncomputable def trm (s cs : ByteArray) : ByteArray := ⟨(Lib.trimS s.data.toList cs.data.toList).toArray⟩
noncomputable def f81_1 {β : Type} (F : Nat) (a1 : ByteArray) (a2 : ByteArray) (K0 : ByteArray → Option β) : Option β :=
  cond (decide (a1.size ≤ 9223372036854775807 ∧ a2.size < 4294967281 ∧ a2.data.toList.all (fun b => decide (b.toNat < 128)) = true)) (K0 (trm a1 a2)) none
def sh81_1 : Sh := ⟨[.lf (.str), .lf (.str)], []⟩
noncomputable def S81_1 (F : Nat) (o : Summ) : Summ := mkS sh81_1 (fun d K => f81_1 F d.1.1 d.1.2.1 (fun (y0 : ByteArray) => K [.lf (.str y0)] [])) o
theorem enter81 : ∀ args w, (callFunc 81 args).run Tryd.prog w = .ok (.enter 81 args) w := enter_of (fn := Tryd.f81) (by kernel_rfl) (by kernel_rfl) (by kernel_rfl)
theorem trmNum : trmRen.f 160 = 81 := by kernel_rfl

theorem trmB {s cs : ByteArray} (h : s.size ≤ 9223372036854775807 ∧ cs.size < 4294967281 ∧ cs.data.toList.all (fun b => decide (b.toNat < 128)) = true) {K : KF} {r : Res} (he : K [.lf (.str (trm s cs))] [] = some r) :
    Contract Tryd.prog 81 [.lf (.str s), .lf (.str cs)] [] K r := by
  intro G m w cvs hw hgd hgh hi hx
  obtain ⟨v1, v2, rfl, h1, h2⟩ : ∃ v1 v2, cvs = [v1, v2] ∧ v1 = .string s ∧ v2 = .string cs := by
    match cvs, hx with
    | [v1, v2], ⟨h1, h2, _⟩ => exact ⟨v1, v2, rfl, h1, h2⟩
  subst h1 h2
  have := Any.strings_Trim_laid trmLays (by kernel_rfl) s cs w h.1 h.2.1 (ascii_of_all h.2.2)
  rw [trmNum] at this
  refine this.mono fun e w' ⟨h1, h2⟩ => ?_
  have hext : Ext w w' := ⟨⟨h2.os, h2.tape, h2.output⟩, h2.size, h2.block⟩
  exact ⟨_, _, he, _, [], h1, rfl, by rw [List.append_nil]; exact hi.ext hext⟩

theorem S81_1_ok (F : Nat) (o : Summ) (ho : SoundFn Tryd.prog 81 o) : SoundFn Tryd.prog 81 (S81_1 F o) := by
  refine ⟨ho.enter, fun vs h K r he => ?_⟩
  unfold S81_1 mkS at he
  split at he
  rotate_left
  · exact ho.ok vs h K r he
  rename_i dv dh ha hb'
  have e1 := decT_enc _ _ _ ha
  have e2 := decH_enc _ _ _ hb'
  obtain ⟨s, c, _⟩ := dv
  have e1 : vs = [.lf (.str s), .lf (.str c)] := e1
  have e2 : h = [] := e2
  subst e1
  subst e2
  have he : f81_1 F s c (fun (y0 : ByteArray) => K [.lf (.str y0)] []) = some r := he
  unfold f81_1 at he
  obtain ⟨h1, he⟩ := dec_of he
  exact trmB h1 he

end Go.Proofs.YtlgopekjjkdkiaaDoor.X
end

section
namespace Go.Proofs.YtlgopekjjkdkiaaDoor.X
open Go Go.Proofs.YtlgopekjjkdkiaaDoor.Ev Go.Proofs
set_option linter.unusedVariables false
set_option linter.unusedSectionVars false
/-! rec.Kind -/
noncomputable def f75_1 {β : Type} (F : Nat) (a1 : ByteArray) (K0 : Int → Int → Option β) : Option β := f65_1 F a1 (fun x1 => cond (!x1) (K0 0 4) (cond (decide ((0 : Int) ≤ (60 : Int) ∧ (60 : Int) ≤ (a1.size : Int) ∧ (a1.size : Int) ≤ (a1.size : Int))) (f53_1 F a1 (fun x2 => cond (!(x2.toList == (a1.extract 60 ((a1.size : Int).toNat)).toList)) (K0 0 9) (cond (decide ((0 : Int) ≤ (0 : Int) ∧ (0 : Int) < (a1.size : Int))) (cond (decide ((0 : Int) ≤ (1 : Int) ∧ (1 : Int) < (a1.size : Int))) (cond (decide (IntKind.i64.wrap ((a1.data.getD 0 0).toNat : Int) < 1)) (K0 0 6) (cond (decide (IntKind.i64.wrap ((a1.data.getD 0 0).toNat : Int) > 8)) (K0 0 6) (cond (decide (IntKind.i64.wrap ((a1.data.getD 1 0).toNat : Int) > 58)) (K0 0 6) (cond (decide ((0 : Int) ≤ IntKind.i64.wrap (2 + (IntKind.i64.wrap ((a1.data.getD 1 0).toNat : Int))) ∧ IntKind.i64.wrap (2 + (IntKind.i64.wrap ((a1.data.getD 1 0).toNat : Int))) ≤ (60 : Int) ∧ (60 : Int) ≤ (a1.size : Int))) (f81_1 F (a1.extract ((IntKind.i64.wrap (2 + (IntKind.i64.wrap ((a1.data.getD 1 0).toNat : Int)))).toNat) 60) (⟨#[0]⟩ : ByteArray) (fun x3 => cond (!(x3.toList == ByteArray.empty.toList)) (K0 0 6) (K0 (IntKind.i64.wrap ((a1.data.getD 0 0).toNat : Int)) 0)) ) none)))) none) none)) ) none)) 
variable [FZ]
def sh75_1 : Sh := ⟨[.lf (.str)], []⟩
noncomputable def S75_1 (F : Nat) (o : Summ) : Summ := mkS sh75_1 (fun d K => f75_1 F d.1.1 (fun (y0 : Int) (y1 : Int) => K [.lf (.int .i64 y0), .lf (.int .i64 y1)] [])) o
noncomputable def code75 : Code := bodyOf Tryd.f75
theorem scopes75 : scopesOf code75 = [] := by kernel_rfl
theorem ranges75 : rangesOf code75 = [] := by kernel_rfl
theorem loops75 : loopsOf code75 = [] := by kernel_rfl
theorem enter75 : ∀ args w, (callFunc 75 args).run Tryd.prog w = .ok (.enter 75 args) w := enter_of (fn := Tryd.f75) (by kernel_rfl) (by kernel_rfl) (by kernel_rfl)
noncomputable def T75_1 (F : Nat) : FuncId → Option Summ := tab [(53, (S53_1 F noS)), (65, (S65_1 F noS)), (81, (S81_1 F noS))]
noncomputable def LT75_1 (F : Nat) : Nat → Option LoopS := ltab []
theorem E75_1g (F : Nat) (c53_1 : ByteArray → (ByteArray → Option Res) → Option Res) (c65_1 : ByteArray → (Bool → Option Res) → Option Res) (c81_1 : ByteArray → ByteArray → (ByteArray → Option Res) → Option Res)   (d : sh75_1.den) (K : KF) : evBody Tryd.prog (tab [(53, (mkS sh53_1 (fun d K => c53_1 d.1.1 (fun (y0 : ByteArray) => K [.lf (.str y0)] [])) noS)), (65, (mkS sh65_1 (fun d K => c65_1 d.1.1 (fun (y0 : Bool) => K [.lf (.bool y0)] [])) noS)), (81, (mkS sh81_1 (fun d K => c81_1 d.1.1 d.1.2.1 (fun (y0 : ByteArray) => K [.lf (.str y0)] [])) noS))]) (xw []) 41 0 (ltab []) [] code75 Tryd.f75.results.toList (encT sh75_1.vs d.1) (encH sh75_1.h d.2) K = (fun (a1 : ByteArray) (K0 : (Int → Int → Option Res)) => c65_1 a1 (fun x1 => cond (!x1) (K0 0 4) (cond (decide ((0 : Int) ≤ (60 : Int) ∧ (60 : Int) ≤ (a1.size : Int) ∧ (a1.size : Int) ≤ (a1.size : Int))) (c53_1 a1 (fun x2 => cond (!(x2.toList == (a1.extract 60 ((a1.size : Int).toNat)).toList)) (K0 0 9) (cond (decide ((0 : Int) ≤ (0 : Int) ∧ (0 : Int) < (a1.size : Int))) (cond (decide ((0 : Int) ≤ (1 : Int) ∧ (1 : Int) < (a1.size : Int))) (cond (decide (IntKind.i64.wrap ((a1.data.getD 0 0).toNat : Int) < 1)) (K0 0 6) (cond (decide (IntKind.i64.wrap ((a1.data.getD 0 0).toNat : Int) > 8)) (K0 0 6) (cond (decide (IntKind.i64.wrap ((a1.data.getD 1 0).toNat : Int) > 58)) (K0 0 6) (cond (decide ((0 : Int) ≤ IntKind.i64.wrap (2 + (IntKind.i64.wrap ((a1.data.getD 1 0).toNat : Int))) ∧ IntKind.i64.wrap (2 + (IntKind.i64.wrap ((a1.data.getD 1 0).toNat : Int))) ≤ (60 : Int) ∧ (60 : Int) ≤ (a1.size : Int))) (c81_1 (a1.extract ((IntKind.i64.wrap (2 + (IntKind.i64.wrap ((a1.data.getD 1 0).toNat : Int)))).toNat) 60) (⟨#[0]⟩ : ByteArray) (fun x3 => cond (!(x3.toList == ByteArray.empty.toList)) (K0 0 6) (K0 (IntKind.i64.wrap ((a1.data.getD 0 0).toNat : Int)) 0)) ) none)))) none) none)) ) none)) ) d.1.1 (fun (y0 : Int) (y1 : Int) => K [.lf (.int .i64 y0), .lf (.int .i64 y1)] []) := by kernel_rfl
theorem E75_1 (F : Nat) (d : sh75_1.den) (K : KF) : evBody Tryd.prog (T75_1 F) (xw []) 41 0 (LT75_1 F) [] code75 Tryd.f75.results.toList (encT sh75_1.vs d.1) (encH sh75_1.h d.2) K = f75_1 F d.1.1 (fun (y0 : Int) (y1 : Int) => K [.lf (.int .i64 y0), .lf (.int .i64 y1)] []) := Eq.mp (by kernel_rfl) (E75_1g F (f53_1 F) (f65_1 F) (f81_1 F)   d K)
theorem S75_1_ok (F : Nat) (o : Summ) (ho : SoundFn Tryd.prog 75 o) : SoundFn Tryd.prog 75 (S75_1 F o) :=
  soundFn_of (fn := Tryd.f75) (c := code75) rfl rfl (by kernel_rfl) (tab_cons (S53_1_ok F _ (noS_sound enter53)) (tab_cons (S65_1_ok F _ (noS_sound enter65)) (tab_cons (S81_1_ok F _ (noS_sound enter81)) tab_nil))) (by kernel_rfl) (by kernel_rfl) ho (by rw [loops75]; exact loopsOK_nil) (by rw [scopes75]; exact scopesOK_nil) (by rw [ranges75]; exact rangesOK_nil) (E75_1 F)
end Go.Proofs.YtlgopekjjkdkiaaDoor.X
end

section
namespace Go.Proofs.YtlgopekjjkdkiaaDoor.X
open Go Go.Proofs.YtlgopekjjkdkiaaDoor.Ev Go.Proofs
set_option linter.unusedVariables false
set_option linter.unusedSectionVars false
/-! rec.Open -/
noncomputable def f56_1 {β : Type} (F : Nat) (a1 : Int) (a2 : ByteArray) (K0 : ByteArray → Int → Option β) : Option β := f75_1 F a2 (fun x1 x2 => cond (x2 != 0) (K0 ByteArray.empty x2) (cond (x1 != a1) (K0 ByteArray.empty 22) (cond (decide ((0 : Int) ≤ (1 : Int) ∧ (1 : Int) < (a2.size : Int))) (cond (decide ((0 : Int) ≤ (2 : Int) ∧ (2 : Int) ≤ IntKind.i64.wrap (2 + (IntKind.i64.wrap ((a2.data.getD 1 0).toNat : Int))) ∧ IntKind.i64.wrap (2 + (IntKind.i64.wrap ((a2.data.getD 1 0).toNat : Int))) ≤ (a2.size : Int))) (K0 (a2.extract 2 ((IntKind.i64.wrap (2 + (IntKind.i64.wrap ((a2.data.getD 1 0).toNat : Int)))).toNat)) 0) none) none))) 
variable [FZ]
def sh56_1 : Sh := ⟨[.lf (.int .i64), .lf (.str)], []⟩
noncomputable def S56_1 (F : Nat) (o : Summ) : Summ := mkS sh56_1 (fun d K => f56_1 F d.1.1 d.1.2.1 (fun (y0 : ByteArray) (y1 : Int) => K [.lf (.str y0), .lf (.int .i64 y1)] [])) o
noncomputable def code56 : Code := bodyOf Tryd.f56
theorem scopes56 : scopesOf code56 = [] := by kernel_rfl
theorem ranges56 : rangesOf code56 = [] := by kernel_rfl
theorem loops56 : loopsOf code56 = [] := by kernel_rfl
theorem enter56 : ∀ args w, (callFunc 56 args).run Tryd.prog w = .ok (.enter 56 args) w := enter_of (fn := Tryd.f56) (by kernel_rfl) (by kernel_rfl) (by kernel_rfl)
noncomputable def T56_1 (F : Nat) : FuncId → Option Summ := tab [(75, (S75_1 F noS))]
noncomputable def LT56_1 (F : Nat) : Nat → Option LoopS := ltab []
theorem E56_1g (F : Nat) (c75_1 : ByteArray → (Int → Int → Option Res) → Option Res)   (d : sh56_1.den) (K : KF) : evBody Tryd.prog (tab [(75, (mkS sh75_1 (fun d K => c75_1 d.1.1 (fun (y0 : Int) (y1 : Int) => K [.lf (.int .i64 y0), .lf (.int .i64 y1)] [])) noS))]) (xw []) 27 0 (ltab []) [] code56 Tryd.f56.results.toList (encT sh56_1.vs d.1) (encH sh56_1.h d.2) K = (fun (a1 : Int) (a2 : ByteArray) (K0 : (ByteArray → Int → Option Res)) => c75_1 a2 (fun x1 x2 => cond (x2 != 0) (K0 ByteArray.empty x2) (cond (x1 != a1) (K0 ByteArray.empty 22) (cond (decide ((0 : Int) ≤ (1 : Int) ∧ (1 : Int) < (a2.size : Int))) (cond (decide ((0 : Int) ≤ (2 : Int) ∧ (2 : Int) ≤ IntKind.i64.wrap (2 + (IntKind.i64.wrap ((a2.data.getD 1 0).toNat : Int))) ∧ IntKind.i64.wrap (2 + (IntKind.i64.wrap ((a2.data.getD 1 0).toNat : Int))) ≤ (a2.size : Int))) (K0 (a2.extract 2 ((IntKind.i64.wrap (2 + (IntKind.i64.wrap ((a2.data.getD 1 0).toNat : Int)))).toNat)) 0) none) none))) ) d.1.1 d.1.2.1 (fun (y0 : ByteArray) (y1 : Int) => K [.lf (.str y0), .lf (.int .i64 y1)] []) := by kernel_rfl
theorem E56_1 (F : Nat) (d : sh56_1.den) (K : KF) : evBody Tryd.prog (T56_1 F) (xw []) 27 0 (LT56_1 F) [] code56 Tryd.f56.results.toList (encT sh56_1.vs d.1) (encH sh56_1.h d.2) K = f56_1 F d.1.1 d.1.2.1 (fun (y0 : ByteArray) (y1 : Int) => K [.lf (.str y0), .lf (.int .i64 y1)] []) := Eq.mp (by kernel_rfl) (E56_1g F (f75_1 F)   d K)
theorem S56_1_ok (F : Nat) (o : Summ) (ho : SoundFn Tryd.prog 56 o) : SoundFn Tryd.prog 56 (S56_1 F o) :=
  soundFn_of (fn := Tryd.f56) (c := code56) rfl rfl (by kernel_rfl) (tab_cons (S75_1_ok F _ (noS_sound enter75)) tab_nil) (by kernel_rfl) (by kernel_rfl) ho (by rw [loops56]; exact loopsOK_nil) (by rw [scopes56]; exact scopesOK_nil) (by rw [ranges56]; exact rangesOK_nil) (E56_1 F)
end Go.Proofs.YtlgopekjjkdkiaaDoor.X
end

section
namespace Go.Proofs.YtlgopekjjkdkiaaDoor.X
open Go Go.Proofs.YtlgopekjjkdkiaaDoor.Ev Go.Proofs
set_option linter.unusedVariables false
set_option linter.unusedSectionVars false
/-! word.New -/
noncomputable def f57_1 {β : Type} (F : Nat) (a1 : List Int) (K0 : List Int → Option β) : Option β := cond (decide ((0 + a1.length) * 1 ≤ 70368744177664)) (K0 ([] ++ a1)) none
variable [FZ]
def sh57_1 : Sh := ⟨[.lf (.full 0)], [some ⟨none, [.seq (.int .u8) 0]⟩]⟩
noncomputable def S57_1 (F : Nat) (o : Summ) : Summ := mkS sh57_1 (fun d K => f57_1 F d.2.1.2.1 (fun (y2 : List Int) => K [.lf (.ptr 1 0)] [some ⟨d.2.1.1, [.seq (.int .u8) 0 d.2.1.2.1]⟩, some ⟨false, [.full 2, .int .i64 0]⟩, some ⟨false, [.seq (.int .u8) 0 y2]⟩])) o
noncomputable def code57 : Code := bodyOf Tryd.f57
theorem scopes57 : scopesOf code57 = [] := by kernel_rfl
theorem ranges57 : rangesOf code57 = [] := by kernel_rfl
theorem loops57 : loopsOf code57 = [] := by kernel_rfl
theorem enter57 : ∀ args w, (callFunc 57 args).run Tryd.prog w = .ok (.enter 57 args) w := enter_of (fn := Tryd.f57) (by kernel_rfl) (by kernel_rfl) (by kernel_rfl)
noncomputable def T57_1 (F : Nat) : FuncId → Option Summ := tab []
noncomputable def LT57_1 (F : Nat) : Nat → Option LoopS := ltab []
theorem E57_1g (F : Nat)    (d : sh57_1.den) (K : KF) : evBody Tryd.prog (tab []) (xw []) 8 1 (ltab []) [] code57 Tryd.f57.results.toList (encT sh57_1.vs d.1) (encH sh57_1.h d.2) K = (fun (a1 : List Int) (K0 : (List Int → Option Res)) => cond (decide ((0 + a1.length) * 1 ≤ 70368744177664)) (K0 ([] ++ a1)) none) d.2.1.2.1 (fun (y2 : List Int) => K [.lf (.ptr 1 0)] [some ⟨d.2.1.1, [.seq (.int .u8) 0 d.2.1.2.1]⟩, some ⟨false, [.full 2, .int .i64 0]⟩, some ⟨false, [.seq (.int .u8) 0 y2]⟩]) := by kernel_rfl
theorem E57_1 (F : Nat) (d : sh57_1.den) (K : KF) : evBody Tryd.prog (T57_1 F) (xw []) 8 1 (LT57_1 F) [] code57 Tryd.f57.results.toList (encT sh57_1.vs d.1) (encH sh57_1.h d.2) K = f57_1 F d.2.1.2.1 (fun (y2 : List Int) => K [.lf (.ptr 1 0)] [some ⟨d.2.1.1, [.seq (.int .u8) 0 d.2.1.2.1]⟩, some ⟨false, [.full 2, .int .i64 0]⟩, some ⟨false, [.seq (.int .u8) 0 y2]⟩]) := Eq.mp (by kernel_rfl) (E57_1g F    d K)
theorem S57_1_ok (F : Nat) (o : Summ) (ho : SoundFn Tryd.prog 57 o) : SoundFn Tryd.prog 57 (S57_1 F o) :=
  soundFn_of (fn := Tryd.f57) (c := code57) rfl rfl (by kernel_rfl) tab_nil (by kernel_rfl) (by kernel_rfl) ho (by rw [loops57]; exact loopsOK_nil) (by rw [scopes57]; exact scopesOK_nil) (by rw [ranges57]; exact rangesOK_nil) (E57_1 F)
end Go.Proofs.YtlgopekjjkdkiaaDoor.X
end

section
namespace Go.Proofs.YtlgopekjjkdkiaaDoor.X
open Go Go.Proofs.YtlgopekjjkdkiaaDoor.Ev Go.Proofs
set_option linter.unusedVariables false
set_option linter.unusedSectionVars false
/-! word.Get -/
noncomputable def f76_1_l7 {β : Type} (F : Nat) (v3 : Nat) (v4 : Nat) (v5 : Int) (v7 : List Int) (K0 : Int → Option β) : Nat → Int → Int → Option β
  | 0, _, _ => none
  | k + 1, v2, v6 => cond (decide (v6 < v5)) (cond (decide ((0 : Int) ≤ v6 ∧ v6 < ((v4 : Nat) : Int))) (cond (decide (v3 + v6.toNat < v7.length)) (f76_1_l7 F v3 v4 v5 v7 K0 k (ior .u64 (ishl .u64 v2 8) (IntKind.u64.wrap (v7.getD (v3 + v6.toNat) 0))) (IntKind.i64.wrap (v6 + 1))) none) none) (K0 v2)
noncomputable def f76_1 {β : Type} (F : Nat) (a1 : Int) (a2 : Int) (a3 : List Int) (K0 : Int → Int → Option β) : Option β := f74_1 F a2 (fun x1 => cond (!x1) (K0 0 2) (cond (decide (a1 < 0)) (K0 0 2) (cond (decide (a1 > ((a3.length : Nat) : Int))) (K0 0 7) (cond (decide (IntKind.i64.wrap (((a3.length : Nat) : Int) - a1) < a2)) (K0 0 7) (cond (decide ((0 : Int) ≤ a1 ∧ a1 ≤ IntKind.i64.wrap (a1 + a2) ∧ IntKind.i64.wrap (a1 + a2) ≤ ((a3.length : Nat) : Int))) (f76_1_l7 F (0 + a1.toNat) ((IntKind.i64.wrap (a1 + a2) - a1).toNat) (((IntKind.i64.wrap (a1 + a2) - a1).toNat : Nat) : Int) a3 (fun x8 => K0 x8 0) F 0 0) none))))) 
variable [FZ]
def sh76_1 : Sh := ⟨[.lf (.full 0), .lf (.int .i64), .lf (.int .i64)], [some ⟨none, [.seq (.int .u8) 0]⟩]⟩
noncomputable def S76_1 (F : Nat) (o : Summ) : Summ := mkS sh76_1 (fun d K => f76_1 F d.1.2.1 d.1.2.2.1 d.2.1.2.1 (fun (y0 : Int) (y1 : Int) => K [.lf (.int .u64 y0), .lf (.int .i64 y1)] [some ⟨d.2.1.1, [.seq (.int .u8) 0 d.2.1.2.1]⟩])) o
noncomputable def code76 : Code := bodyOf Tryd.f76
noncomputable def b76_0 : Code := cB (cB (cR (cL (cR (cR (cR (code76)))))))
theorem scopes76 : scopesOf code76 = [] := by kernel_rfl
theorem ranges76 : rangesOf code76 = [] := by kernel_rfl
theorem loops76 : loopsOf code76 = [b76_0] := by kernel_rfl
theorem enter76 : ∀ args w, (callFunc 76 args).run Tryd.prog w = .ok (.enter 76 args) w := enter_of (fn := Tryd.f76) (by kernel_rfl) (by kernel_rfl) (by kernel_rfl)
noncomputable def T76_1 (F : Nat) : FuncId → Option Summ := tab [(74, (S74_1 F noS))]
def sh76_1_l7 : Sh := ⟨[.lf (.int .u64), .lf (.slice 0 0), .lf (.int .i64), .lf (.int .i64)], [some ⟨none, [.seq (.int .u8) 0]⟩]⟩
noncomputable def G76_1_7 (F k : Nat) : LoopS := mkG sh76_1_l7 [8, 37, 38, 39] (outT [(.exit 1, [8])]) (fun d K => f76_1_l7 F d.1.2.1.1 d.1.2.1.2 d.1.2.2.1 d.2.1.2.1 (fun (y0 : Int) => K (.exit 1) [.tv (.lf (.int .u64 y0))] [some ⟨d.2.1.1, [.seq (.int .u8) 0 d.2.1.2.1]⟩]) k d.1.1 d.1.2.2.2.1) []
noncomputable def LT76_1 (F : Nat) : Nat → Option LoopS := ltab [(7, G76_1_7 F F)]
theorem L76_1_l7g (F k : Nat) (c74_1 : Int → (Bool → Option Res) → Option Res)  (l7 : Nat → Nat → Int → List Int → (Int → Option Res) → Nat → Int → Int → Option Res) (X7 : LoopS) (d : sh76_1_l7.den) (K : KL) : (fun (v3 : Nat) (v4 : Nat) (v5 : Int) (v7 : List Int) (K0 : (Int → Option Res)) (k : Nat) (v2 : Int) (v6 : Int) => cond (decide (v6 < v5)) (cond (decide ((0 : Int) ≤ v6 ∧ v6 < ((v4 : Nat) : Int))) (cond (decide (v3 + v6.toNat < v7.length)) (l7 v3 v4 v5 v7 K0 k (ior .u64 (ishl .u64 v2 8) (IntKind.u64.wrap (v7.getD (v3 + v6.toNat) 0))) (IntKind.i64.wrap (v6 + 1))) none) none) (K0 v2)) d.1.2.1.1 d.1.2.1.2 d.1.2.2.1 d.2.1.2.1 (fun (y0 : Int) => K (.exit 1) [.tv (.lf (.int .u64 y0))] [some ⟨d.2.1.1, [.seq (.int .u8) 0 d.2.1.2.1]⟩]) k d.1.1 d.1.2.2.2.1 = roundOf Tryd.prog (tab [(74, (mkS sh74_1 (fun d K => c74_1 d.1.1 (fun (y0 : Bool) => K [.lf (.bool y0)] [])) noS))]) (xw []) 50 1 (ltab [(7, X7)]) (mkG sh76_1_l7 [8, 37, 38, 39] (outT [(.exit 1, [8])]) (fun d K => l7 d.1.2.1.1 d.1.2.1.2 d.1.2.2.1 d.2.1.2.1 (fun (y0 : Int) => K (.exit 1) [.tv (.lf (.int .u64 y0))] [some ⟨d.2.1.1, [.seq (.int .u8) 0 d.2.1.2.1]⟩]) k d.1.1 d.1.2.2.2.1) []) b76_0 (encT sh76_1_l7.vs d.1) (encH sh76_1_l7.h d.2) K := by kernel_rfl
theorem L76_1_7 (F : Nat) : LoopOK Tryd.prog (T76_1 F) (xw []) 50 1 (LT76_1 F) (G76_1_7 F F) b76_0 :=
  loopOK_of (s := sh76_1_l7) (live := [8, 37, 38, 39]) (out := (outT [(.exit 1, [8])])) (mv := []) (fun k d K => f76_1_l7 F d.1.2.1.1 d.1.2.1.2 d.1.2.2.1 d.2.1.2.1 (fun (y0 : Int) => K (.exit 1) [.tv (.lf (.int .u64 y0))] [some ⟨d.2.1.1, [.seq (.int .u8) 0 d.2.1.2.1]⟩]) k d.1.1 d.1.2.2.2.1) F (fun d K => by kernel_rfl)  (fun k d K => Eq.mp (by kernel_rfl) (L76_1_l7g F k (f74_1 F)  (f76_1_l7 F) (G76_1_7 F F) d K))
theorem E76_1g (F : Nat) (c74_1 : Int → (Bool → Option Res) → Option Res) (l7 : Nat → Nat → Int → List Int → (Int → Option Res) → Nat → Int → Int → Option Res)  (d : sh76_1.den) (K : KF) : evBody Tryd.prog (tab [(74, (mkS sh74_1 (fun d K => c74_1 d.1.1 (fun (y0 : Bool) => K [.lf (.bool y0)] [])) noS))]) (xw []) 50 1 (ltab [(7, mkG sh76_1_l7 [8, 37, 38, 39] (outT [(.exit 1, [8])]) (fun d K => l7 d.1.2.1.1 d.1.2.1.2 d.1.2.2.1 d.2.1.2.1 (fun (y0 : Int) => K (.exit 1) [.tv (.lf (.int .u64 y0))] [some ⟨d.2.1.1, [.seq (.int .u8) 0 d.2.1.2.1]⟩]) F d.1.1 d.1.2.2.2.1) [])]) [] code76 Tryd.f76.results.toList (encT sh76_1.vs d.1) (encH sh76_1.h d.2) K = (fun (a1 : Int) (a2 : Int) (a3 : List Int) (K0 : (Int → Int → Option Res)) => c74_1 a2 (fun x1 => cond (!x1) (K0 0 2) (cond (decide (a1 < 0)) (K0 0 2) (cond (decide (a1 > ((a3.length : Nat) : Int))) (K0 0 7) (cond (decide (IntKind.i64.wrap (((a3.length : Nat) : Int) - a1) < a2)) (K0 0 7) (cond (decide ((0 : Int) ≤ a1 ∧ a1 ≤ IntKind.i64.wrap (a1 + a2) ∧ IntKind.i64.wrap (a1 + a2) ≤ ((a3.length : Nat) : Int))) (l7 (0 + a1.toNat) ((IntKind.i64.wrap (a1 + a2) - a1).toNat) (((IntKind.i64.wrap (a1 + a2) - a1).toNat : Nat) : Int) a3 (fun x8 => K0 x8 0) F 0 0) none))))) ) d.1.2.1 d.1.2.2.1 d.2.1.2.1 (fun (y0 : Int) (y1 : Int) => K [.lf (.int .u64 y0), .lf (.int .i64 y1)] [some ⟨d.2.1.1, [.seq (.int .u8) 0 d.2.1.2.1]⟩]) := by kernel_rfl
theorem E76_1 (F : Nat) (d : sh76_1.den) (K : KF) : evBody Tryd.prog (T76_1 F) (xw []) 50 1 (LT76_1 F) [] code76 Tryd.f76.results.toList (encT sh76_1.vs d.1) (encH sh76_1.h d.2) K = f76_1 F d.1.2.1 d.1.2.2.1 d.2.1.2.1 (fun (y0 : Int) (y1 : Int) => K [.lf (.int .u64 y0), .lf (.int .i64 y1)] [some ⟨d.2.1.1, [.seq (.int .u8) 0 d.2.1.2.1]⟩]) := Eq.mp (by kernel_rfl) (E76_1g F (f74_1 F) (f76_1_l7 F)  d K)
theorem S76_1_ok (F : Nat) (o : Summ) (ho : SoundFn Tryd.prog 76 o) : SoundFn Tryd.prog 76 (S76_1 F o) :=
  soundFn_of (fn := Tryd.f76) (c := code76) rfl rfl (by kernel_rfl) (tab_cons (S74_1_ok F _ (noS_sound enter74)) tab_nil) (by kernel_rfl) (by kernel_rfl) ho (by rw [loops76]; exact (loopsOK_cons (by kernel_rfl) (L76_1_7 F) loopsOK_nil)) (by rw [scopes76]; exact scopesOK_nil) (by rw [ranges76]; exact rangesOK_nil) (E76_1 F)
end Go.Proofs.YtlgopekjjkdkiaaDoor.X
end

section
namespace Go.Proofs.YtlgopekjjkdkiaaDoor.X
open Go Go.Proofs.YtlgopekjjkdkiaaDoor.Ev Go.Proofs
set_option linter.unusedVariables false
set_option linter.unusedSectionVars false
/-! word.Reader).Num -/
noncomputable def f58_1_l1000000 {β : Type} (F : Nat) (v3 : Int) (v4 : Int) (v5 : List Int) (K0 : Option β) : Nat → Option β
  | 0 => none
  | k + 1 => K0
noncomputable def f58_1 {β : Type} (F : Nat) (a1 : Int) (a2 : Int) (a3 : List Int) (K0 : Int → Int → List Int → Option β) : Option β := cond (a2 != 0) (K0 0 a2 a3) (f76_1 F 0 a1 a3 (fun x1 x2 => cond (x2 != 0) (f58_1_l1000000 F x2 a2 a3 (K0 0 x2 a3) F) (cond (decide ((0 : Int) ≤ a1 ∧ a1 ≤ ((a3.length : Nat) : Int) ∧ ((a3.length : Nat) : Int) ≤ ((a3.length : Nat) : Int))) (K0 x1 a2 ((a3.drop (0 + a1.toNat)).take ((((a3.length : Nat) : Int) - a1).toNat))) none)) )
variable [FZ]
def sh58_1 : Sh := ⟨[.lf (.ptr 0 0), .lf (.int .i64)], [some ⟨some false, [.full 1, .int .i64]⟩, some ⟨some false, [.seq (.int .u8) 0]⟩]⟩
noncomputable def S58_1 (F : Nat) (o : Summ) : Summ := mkS sh58_1 (fun d K => f58_1 F d.1.2.1 d.2.1.2.2.1 d.2.2.1.2.1 (fun (y0 : Int) (y1 : Int) (y2 : List Int) => K [.lf (.int .u64 y0)] [some ⟨false, [.full 2, .int .i64 y1]⟩, none, some ⟨false, [.seq (.int .u8) 0 y2]⟩])) o
noncomputable def code58 : Code := bodyOf Tryd.f58
noncomputable def s58_0 : Code := cB (cR (code58))
noncomputable def r58_0 : Code := match findLabel s58_0 0 with | some c => c | none => .skip
theorem find58_0 : findLabel s58_0 0 = some r58_0 := by kernel_rfl
theorem rloops58_0 : loopsOf r58_0 = [] := by kernel_rfl
theorem rscopes58_0 : scopesOf r58_0 = [] := by kernel_rfl
theorem rranges58_0 : rangesOf r58_0 = [] := by kernel_rfl
theorem scopes58 : scopesOf code58 = [s58_0] := by kernel_rfl
theorem ranges58 : rangesOf code58 = [] := by kernel_rfl
theorem loops58 : loopsOf code58 = [] := by kernel_rfl
theorem enter58 : ∀ args w, (callFunc 58 args).run Tryd.prog w = .ok (.enter 58 args) w := enter_of (fn := Tryd.f58) (by kernel_rfl) (by kernel_rfl) (by kernel_rfl)
noncomputable def T58_1 (F : Nat) : FuncId → Option Summ := tab [(76, (S76_1 F noS))]
def sh58_1_l1000000 : Sh := ⟨[.lf (.ptr 0 0), .lf (.int .i64)], [some ⟨some false, [.full 1, .int .i64]⟩, some ⟨some false, [.seq (.int .u8) 0]⟩]⟩
noncomputable def G58_1_1000000 (F k : Nat) : LoopS := mkG sh58_1_l1000000 [0, 6] (outT [(.ret, [4])]) (fun d K => f58_1_l1000000 F d.1.2.1 d.2.1.2.2.1 d.2.2.1.2.1 (K .ret [.tv (.lf (.int .u64 0))] [some ⟨false, [.full 1, .int .i64 d.1.2.1]⟩, some ⟨false, [.seq (.int .u8) 0 d.2.2.1.2.1]⟩]) k) []
noncomputable def LT58_1 (F : Nat) : Nat → Option LoopS := ltab [(1000000, G58_1_1000000 F F)]
theorem L58_1_l1000000g (F k : Nat) (c76_1 : Int → Int → List Int → (Int → Int → Option Res) → Option Res)  (l1000000 : Int → Int → List Int → (Option Res) → Nat → Option Res) (X1000000 : LoopS) (d : sh58_1_l1000000.den) (K : KL) : (fun (v3 : Int) (v4 : Int) (v5 : List Int) (K0 : (Option Res)) (k : Nat)  => K0) d.1.2.1 d.2.1.2.2.1 d.2.2.1.2.1 (K .ret [.tv (.lf (.int .u64 0))] [some ⟨false, [.full 1, .int .i64 d.1.2.1]⟩, some ⟨false, [.seq (.int .u8) 0 d.2.2.1.2.1]⟩]) k = passOf Tryd.prog (tab [(76, (mkS sh76_1 (fun d K => c76_1 d.1.2.1 d.1.2.2.1 d.2.1.2.1 (fun (y0 : Int) (y1 : Int) => K [.lf (.int .u64 y0), .lf (.int .i64 y1)] [some ⟨d.2.1.1, [.seq (.int .u8) 0 d.2.1.2.1]⟩])) noS))]) (xw []) 41 2 (ltab [(1000000, X1000000)]) (mkG sh58_1_l1000000 [0, 6] (outT [(.ret, [4])]) (fun d K => l1000000 d.1.2.1 d.2.1.2.2.1 d.2.2.1.2.1 (K .ret [.tv (.lf (.int .u64 0))] [some ⟨false, [.full 1, .int .i64 d.1.2.1]⟩, some ⟨false, [.seq (.int .u8) 0 d.2.2.1.2.1]⟩]) k) []) 0 r58_0 (encT sh58_1_l1000000.vs d.1) (encH sh58_1_l1000000.h d.2) K := by kernel_rfl
theorem L58_1_1000000 (F : Nat) : LabelOK Tryd.prog (T58_1 F) (xw []) 41 2 (LT58_1 F) (G58_1_1000000 F F) 0 s58_0 :=
  labelOK_of rfl (by kernel_rfl) (tab_cons (S76_1_ok F _ (noS_sound enter76)) tab_nil) (s := sh58_1_l1000000) (live := [0, 6]) (out := (outT [(.ret, [4])])) (mv := []) (fun k d K => f58_1_l1000000 F d.1.2.1 d.2.1.2.2.1 d.2.2.1.2.1 (K .ret [.tv (.lf (.int .u64 0))] [some ⟨false, [.full 1, .int .i64 d.1.2.1]⟩, some ⟨false, [.seq (.int .u8) 0 d.2.2.1.2.1]⟩]) k) F find58_0 (fun d K => by kernel_rfl)  (fun k d K => Eq.mp (by kernel_rfl) (L58_1_l1000000g F k (f76_1 F)  (f58_1_l1000000 F) (G58_1_1000000 F F) d K)) (by rw [rloops58_0]; exact loopsOK_nil) (by rw [rscopes58_0]; exact scopesOK_nil) (by rw [rranges58_0]; exact rangesOK_nil)
theorem E58_1g (F : Nat) (c76_1 : Int → Int → List Int → (Int → Int → Option Res) → Option Res) (l1000000 : Int → Int → List Int → (Option Res) → Nat → Option Res)  (d : sh58_1.den) (K : KF) : evBody Tryd.prog (tab [(76, (mkS sh76_1 (fun d K => c76_1 d.1.2.1 d.1.2.2.1 d.2.1.2.1 (fun (y0 : Int) (y1 : Int) => K [.lf (.int .u64 y0), .lf (.int .i64 y1)] [some ⟨d.2.1.1, [.seq (.int .u8) 0 d.2.1.2.1]⟩])) noS))]) (xw []) 41 2 (ltab [(1000000, mkG sh58_1_l1000000 [0, 6] (outT [(.ret, [4])]) (fun d K => l1000000 d.1.2.1 d.2.1.2.2.1 d.2.2.1.2.1 (K .ret [.tv (.lf (.int .u64 0))] [some ⟨false, [.full 1, .int .i64 d.1.2.1]⟩, some ⟨false, [.seq (.int .u8) 0 d.2.2.1.2.1]⟩]) F) [])]) [1] code58 Tryd.f58.results.toList (encT sh58_1.vs d.1) (encH sh58_1.h d.2) K = (fun (a1 : Int) (a2 : Int) (a3 : List Int) (K0 : (Int → Int → List Int → Option Res)) => cond (a2 != 0) (K0 0 a2 a3) (c76_1 0 a1 a3 (fun x1 x2 => cond (x2 != 0) (l1000000 x2 a2 a3 (K0 0 x2 a3) F) (cond (decide ((0 : Int) ≤ a1 ∧ a1 ≤ ((a3.length : Nat) : Int) ∧ ((a3.length : Nat) : Int) ≤ ((a3.length : Nat) : Int))) (K0 x1 a2 ((a3.drop (0 + a1.toNat)).take ((((a3.length : Nat) : Int) - a1).toNat))) none)) )) d.1.2.1 d.2.1.2.2.1 d.2.2.1.2.1 (fun (y0 : Int) (y1 : Int) (y2 : List Int) => K [.lf (.int .u64 y0)] [some ⟨false, [.full 2, .int .i64 y1]⟩, none, some ⟨false, [.seq (.int .u8) 0 y2]⟩]) := by kernel_rfl
theorem E58_1 (F : Nat) (d : sh58_1.den) (K : KF) : evBody Tryd.prog (T58_1 F) (xw []) 41 2 (LT58_1 F) [1] code58 Tryd.f58.results.toList (encT sh58_1.vs d.1) (encH sh58_1.h d.2) K = f58_1 F d.1.2.1 d.2.1.2.2.1 d.2.2.1.2.1 (fun (y0 : Int) (y1 : Int) (y2 : List Int) => K [.lf (.int .u64 y0)] [some ⟨false, [.full 2, .int .i64 y1]⟩, none, some ⟨false, [.seq (.int .u8) 0 y2]⟩]) := Eq.mp (by kernel_rfl) (E58_1g F (f76_1 F) (f58_1_l1000000 F)  d K)
theorem S58_1_ok (F : Nat) (o : Summ) (ho : SoundFn Tryd.prog 58 o) : SoundFn Tryd.prog 58 (S58_1 F o) :=
  soundFn_of (fn := Tryd.f58) (c := code58) rfl rfl (by kernel_rfl) (tab_cons (S76_1_ok F _ (noS_sound enter76)) tab_nil) (by kernel_rfl) (by kernel_rfl) ho (by rw [loops58]; exact loopsOK_nil) (by rw [scopes58]; exact (scopesOK_cons (by kernel_rfl) (by kernel_rfl) (L58_1_1000000 F) scopesOK_nil)) (by rw [ranges58]; exact rangesOK_nil) (E58_1 F)
end Go.Proofs.YtlgopekjjkdkiaaDoor.X
end

section
namespace Go.Proofs.YtlgopekjjkdkiaaDoor.X
open Go Go.Proofs.YtlgopekjjkdkiaaDoor.Ev Go.Proofs
set_option linter.unusedVariables false
set_option linter.unusedSectionVars false
/-! cow.read -/
noncomputable def f35_1 {β : Type} (F : Nat) (a1 : ByteArray) (K0 : Int → Int → Int → Int → Bool → Option β) : Option β := f56_1 F 8 a1 (fun x1 x2 => f57_1 F (toInts x1) (fun x3 => f58_1 F 8 0 x3 (fun x4 x5 x6 => f58_1 F 4 x5 x6 (fun x7 x8 x9 => f58_1 F 4 x8 x9 (fun x10 x11 x12 => f58_1 F 4 x11 x12 (fun x13 x14 x15 => cond (x2 == 0) (K0 x4 x7 x10 x13 ((x1.size : Int) == 20)) (K0 x4 x7 x10 x13 false)) ) ) ) ) ) 
variable [FZ]
def sh35_1 : Sh := ⟨[.lf (.str)], []⟩
noncomputable def S35_1 (F : Nat) (o : Summ) : Summ := mkS sh35_1 (fun d K => f35_1 F d.1.1 (fun (y0 : Int) (y1 : Int) (y2 : Int) (y3 : Int) (y4 : Bool) => K [.agg [.int .u64 y0, .int .u64 y1, .int .u64 y2, .int .u64 y3], .lf (.bool y4)] [])) o
noncomputable def code35 : Code := bodyOf Tryd.f35
theorem scopes35 : scopesOf code35 = [] := by kernel_rfl
theorem ranges35 : rangesOf code35 = [] := by kernel_rfl
theorem loops35 : loopsOf code35 = [] := by kernel_rfl
theorem enter35 : ∀ args w, (callFunc 35 args).run Tryd.prog w = .ok (.enter 35 args) w := enter_of (fn := Tryd.f35) (by kernel_rfl) (by kernel_rfl) (by kernel_rfl)
noncomputable def T35_1 (F : Nat) : FuncId → Option Summ := tab [(56, (S56_1 F noS)), (57, (S57_1 F noS)), (58, (S58_1 F noS))]
noncomputable def LT35_1 (F : Nat) : Nat → Option LoopS := ltab []
theorem E35_1g (F : Nat) (c56_1 : Int → ByteArray → (ByteArray → Int → Option Res) → Option Res) (c57_1 : List Int → (List Int → Option Res) → Option Res) (c58_1 : Int → Int → List Int → (Int → Int → List Int → Option Res) → Option Res)   (d : sh35_1.den) (K : KF) : evBody Tryd.prog (tab [(56, (mkS sh56_1 (fun d K => c56_1 d.1.1 d.1.2.1 (fun (y0 : ByteArray) (y1 : Int) => K [.lf (.str y0), .lf (.int .i64 y1)] [])) noS)), (57, (mkS sh57_1 (fun d K => c57_1 d.2.1.2.1 (fun (y2 : List Int) => K [.lf (.ptr 1 0)] [some ⟨d.2.1.1, [.seq (.int .u8) 0 d.2.1.2.1]⟩, some ⟨false, [.full 2, .int .i64 0]⟩, some ⟨false, [.seq (.int .u8) 0 y2]⟩])) noS)), (58, (mkS sh58_1 (fun d K => c58_1 d.1.2.1 d.2.1.2.2.1 d.2.2.1.2.1 (fun (y0 : Int) (y1 : Int) (y2 : List Int) => K [.lf (.int .u64 y0)] [some ⟨false, [.full 2, .int .i64 y1]⟩, none, some ⟨false, [.seq (.int .u8) 0 y2]⟩])) noS))]) (xw []) 33 0 (ltab []) [] code35 Tryd.f35.results.toList (encT sh35_1.vs d.1) (encH sh35_1.h d.2) K = (fun (a1 : ByteArray) (K0 : (Int → Int → Int → Int → Bool → Option Res)) => c56_1 8 a1 (fun x1 x2 => c57_1 (toInts x1) (fun x3 => c58_1 8 0 x3 (fun x4 x5 x6 => c58_1 4 x5 x6 (fun x7 x8 x9 => c58_1 4 x8 x9 (fun x10 x11 x12 => c58_1 4 x11 x12 (fun x13 x14 x15 => cond (x2 == 0) (K0 x4 x7 x10 x13 ((x1.size : Int) == 20)) (K0 x4 x7 x10 x13 false)) ) ) ) ) ) ) d.1.1 (fun (y0 : Int) (y1 : Int) (y2 : Int) (y3 : Int) (y4 : Bool) => K [.agg [.int .u64 y0, .int .u64 y1, .int .u64 y2, .int .u64 y3], .lf (.bool y4)] []) := by kernel_rfl
theorem E35_1 (F : Nat) (d : sh35_1.den) (K : KF) : evBody Tryd.prog (T35_1 F) (xw []) 33 0 (LT35_1 F) [] code35 Tryd.f35.results.toList (encT sh35_1.vs d.1) (encH sh35_1.h d.2) K = f35_1 F d.1.1 (fun (y0 : Int) (y1 : Int) (y2 : Int) (y3 : Int) (y4 : Bool) => K [.agg [.int .u64 y0, .int .u64 y1, .int .u64 y2, .int .u64 y3], .lf (.bool y4)] []) := Eq.mp (by kernel_rfl) (E35_1g F (f56_1 F) (f57_1 F) (f58_1 F)   d K)
theorem S35_1_ok (F : Nat) (o : Summ) (ho : SoundFn Tryd.prog 35 o) : SoundFn Tryd.prog 35 (S35_1 F o) :=
  soundFn_of (fn := Tryd.f35) (c := code35) rfl rfl (by kernel_rfl) (tab_cons (S56_1_ok F _ (noS_sound enter56)) (tab_cons (S57_1_ok F _ (noS_sound enter57)) (tab_cons (S58_1_ok F _ (noS_sound enter58)) tab_nil))) (by kernel_rfl) (by kernel_rfl) ho (by rw [loops35]; exact loopsOK_nil) (by rw [scopes35]; exact scopesOK_nil) (by rw [ranges35]; exact rangesOK_nil) (E35_1 F)
end Go.Proofs.YtlgopekjjkdkiaaDoor.X
end

section
namespace Go.Proofs.YtlgopekjjkdkiaaDoor.X
open Go Go.Proofs.YtlgopekjjkdkiaaDoor.Ev Go.Proofs
set_option linter.unusedVariables false
set_option linter.unusedSectionVars false
/-! cow.Scan -/
noncomputable def f13_1_l5 {β : Type} (F : Nat) (v2 : Int) (v3 : Int) (v5 : Int) (v6 : Bool) (v7 : Int) (v8 : List ByteArray) (v9 : List (Int × ByteArray)) (v10 : Int) (v11 : Int) (v12 : Int) (v13 : Int) (K0 : Int → List (Int × (Int × (Int × ByteArray))) → Option β) (K1 : List (Int × (Int × (Int × ByteArray))) → Int → Int → Int → Int → Option β) (K2 : Int → List (Int × (Int × (Int × ByteArray))) → Int → Int → Int → Int → Int → ByteArray → Option β) (K3 : List (Int × (Int × (Int × ByteArray))) → Int → Int → Int → Int → Int → ByteArray → Option β) (K4 : List (Int × (Int × (Int × ByteArray))) → Option β) : Nat → Int → List (Int × (Int × (Int × ByteArray))) → Option β
  | 0, _, _ => none
  | k + 1, v4, v14 => cond (decide (v4 < v3)) (f31_1 F v10 v11 v12 v13 0 (IntKind.i64.wrap (2 * v4)) (fun x15 => f29_1 F x15 v5 v6 v7 v8 v9 (fun x16 x17 => cond (x17 != 0) (K0 x17 v14) (f35_1 F x16 (fun x18 x19 x20 x21 x22 => cond (!x22) (K1 v14 x18 x19 x20 x21) (cond (x18 != v2) (K1 v14 x18 x19 x20 x21) (cond (x19 != (IntKind.u64.wrap v4)) (K1 v14 x18 x19 x20 x21) (cond (decide (x20 ≥ IntKind.u64.wrap v10)) (K1 v14 x18 x19 x20 x21) (f31_1 F v10 v11 v12 v13 0 (IntKind.i64.wrap ((IntKind.i64.wrap (2 * v4)) + 1)) (fun x23 => f29_1 F x23 v5 v6 v7 v8 v9 (fun x24 x25 => cond (x25 != 0) (K2 x25 v14 x18 x19 x20 x21 (IntKind.i64.wrap x20) x24) (f33_1 F v4 0 v2 (IntKind.i64.wrap x20) x24 (fun x26 x27 x28 => cond (!((v2 == x18) && ((x26 == x19) && ((x27 == x20) && (x28 == x21))))) (K3 v14 x18 x19 x20 x21 (IntKind.i64.wrap x20) x24) (cond (decide ((v14.length + 1) * 40 ≤ 70368744177664)) (f13_1_l5 F v2 v3 v5 v6 v7 v8 v9 v10 v11 v12 v13 K0 K1 K2 K3 K4 k (IntKind.i64.wrap (v4 + 1)) (v14 ++ [(0, (v2, (IntKind.i64.wrap x20, x24)))])) none)) )) ) ))))) )) ) ) (K4 v14)
noncomputable def f13_1 {β : Type} (F : Nat) (a1 : Int) (a2 : Int) (a3 : Int) (a4 : Int) (a5 : Int) (a6 : Int) (a7 : Bool) (a8 : Int) (a9 : List ByteArray) (a10 : List (Int × ByteArray)) (K0 : Int → List (Int × (Int × (Int × ByteArray))) → Option β) : Option β := f27_1 F a1 a2 a3 a4 (fun x1 => cond (!x1) (K0 12 []) (f13_1_l5 F a5 a3 a6 a7 a8 a9 a10 a1 a2 a3 a4 (fun x29 x30 => K0 x29 []) (fun x31 x32 x33 x34 x35 => K0 0 x31) (fun x36 x37 x38 x39 x40 x41 x42 x43 => K0 x36 []) (fun x44 x45 x46 x47 x48 x49 x50 => K0 0 x44) (fun x51 => K0 0 x51) F 0 [])) 
variable [FZ]
def sh13_1 : Sh := ⟨[.lf (.ptr 0 0), .agg [.int .i64, .int .i64, .int .i64, .int .i64], .lf (.int .u64)], [some ⟨none, [.full 1, .full 2, .int .i64, .bool, .int .i64]⟩, some ⟨none, [.seq .str 0]⟩, some ⟨none, [.seq (.pair (.int .i64) .str) 0]⟩]⟩
noncomputable def S13_1 (F : Nat) (o : Summ) : Summ := mkS sh13_1 (fun d K => f13_1 F d.1.2.1.1 d.1.2.1.2.1 d.1.2.1.2.2.1 d.1.2.1.2.2.2.1 d.1.2.2.1 d.2.1.2.2.2.1 d.2.1.2.2.2.2.1 d.2.1.2.2.2.2.2.1 d.2.2.1.2.1 d.2.2.2.1.2.1 (fun (y0 : Int) (y6 : List (Int × (Int × (Int × ByteArray)))) => K [.lf (.full 3), .lf (.int .i64 y0)] [some ⟨d.2.1.1, [.full 1, .full 2, .int .i64 d.2.1.2.2.2.1, .bool d.2.1.2.2.2.2.1, .int .i64 d.2.1.2.2.2.2.2.1]⟩, some ⟨d.2.2.1.1, [.seq .str 0 d.2.2.1.2.1]⟩, some ⟨d.2.2.2.1.1, [.seq (.pair (.int .i64) .str) 0 d.2.2.2.1.2.1]⟩, some ⟨false, [.seq (.pair (.int .u64) (.pair (.int .u64) (.pair (.int .i64) .str))) 0 y6]⟩])) o
noncomputable def code13 : Code := bodyOf Tryd.f13
noncomputable def b13_0 : Code := cB (cB (cR (cL (cR (cR (cR (cB (cR (code13)))))))))
noncomputable def s13_0 : Code := cB (cR (code13))
noncomputable def r13_0 : Code := match findLabel s13_0 0 with | some c => c | none => .skip
theorem find13_0 : findLabel s13_0 0 = some r13_0 := by kernel_rfl
theorem rloops13_0 : loopsOf r13_0 = [b13_0] := by kernel_rfl
theorem rscopes13_0 : scopesOf r13_0 = [] := by kernel_rfl
theorem rranges13_0 : rangesOf r13_0 = [] := by kernel_rfl
theorem scopes13 : scopesOf code13 = [s13_0] := by kernel_rfl
theorem ranges13 : rangesOf code13 = [] := by kernel_rfl
theorem loops13 : loopsOf code13 = [b13_0] := by kernel_rfl
theorem enter13 : ∀ args w, (callFunc 13 args).run Tryd.prog w = .ok (.enter 13 args) w := enter_of (fn := Tryd.f13) (by kernel_rfl) (by kernel_rfl) (by kernel_rfl)
noncomputable def T13_1 (F : Nat) : FuncId → Option Summ := tab [(27, (S27_1 F noS)), (29, (S29_1 F noS)), (31, (S31_1 F noS)), (33, (S33_1 F noS)), (35, (S35_1 F noS))]
def sh13_1_l5 : Sh := ⟨[.lf (.ptr 0 0), .lf (.int .u64), .lf (.ptr 3 0), .lf (.full 4), .lf (.int .i64), .lf (.int .i64)], [some ⟨none, [.full 1, .full 2, .int .i64, .bool, .int .i64]⟩, some ⟨none, [.seq .str 0]⟩, some ⟨none, [.seq (.pair (.int .i64) .str) 0]⟩, some ⟨some false, [.int .i64, .int .i64, .int .i64, .int .i64]⟩, some ⟨some false, [.seq (.pair (.int .u64) (.pair (.int .u64) (.pair (.int .i64) .str))) 0]⟩]⟩
noncomputable def G13_1_5 (F k : Nat) : LoopS := mkG sh13_1_l5 [0, 2, 4, 8, 19, 20] (outT [(.exit 0, [8]), (.ret, [6, 7])]) (fun d K => f13_1_l5 F d.1.2.1 d.1.2.2.2.2.1 d.2.1.2.2.2.1 d.2.1.2.2.2.2.1 d.2.1.2.2.2.2.2.1 d.2.2.1.2.1 d.2.2.2.1.2.1 d.2.2.2.2.1.2.1 d.2.2.2.2.1.2.2.1 d.2.2.2.2.1.2.2.2.1 d.2.2.2.2.1.2.2.2.2.1 (fun (y0 : Int) (y10 : List (Int × (Int × (Int × ByteArray)))) => K .ret [.tv (.lf (.nils (some (.pair (.int .u64) (.pair (.int .u64) (.pair (.int .i64) .str)))))), .tv (.lf (.int .i64 y0))] [some ⟨d.2.1.1, [.full 1, .full 2, .int .i64 d.2.1.2.2.2.1, .bool d.2.1.2.2.2.2.1, .int .i64 d.2.1.2.2.2.2.2.1]⟩, some ⟨d.2.2.1.1, [.seq .str 0 d.2.2.1.2.1]⟩, some ⟨d.2.2.2.1.1, [.seq (.pair (.int .i64) .str) 0 d.2.2.2.1.2.1]⟩, some ⟨false, [.int .i64 d.2.2.2.2.1.2.1, .int .i64 d.2.2.2.2.1.2.2.1, .int .i64 d.2.2.2.2.1.2.2.2.1, .int .i64 d.2.2.2.2.1.2.2.2.2.1]⟩, some ⟨false, [.seq (.pair (.int .u64) (.pair (.int .u64) (.pair (.int .i64) .str))) 0 y10]⟩]) (fun (y9 : List (Int × (Int × (Int × ByteArray)))) (y10 : Int) (y11 : Int) (y12 : Int) (y13 : Int) => K (.exit 0) [.tv (.lf (.full 4))] [some ⟨d.2.1.1, [.full 1, .full 2, .int .i64 d.2.1.2.2.2.1, .bool d.2.1.2.2.2.2.1, .int .i64 d.2.1.2.2.2.2.2.1]⟩, some ⟨d.2.2.1.1, [.seq .str 0 d.2.2.1.2.1]⟩, some ⟨d.2.2.2.1.1, [.seq (.pair (.int .i64) .str) 0 d.2.2.2.1.2.1]⟩, some ⟨false, [.int .i64 d.2.2.2.2.1.2.1, .int .i64 d.2.2.2.2.1.2.2.1, .int .i64 d.2.2.2.2.1.2.2.2.1, .int .i64 d.2.2.2.2.1.2.2.2.2.1]⟩, some ⟨false, [.seq (.pair (.int .u64) (.pair (.int .u64) (.pair (.int .i64) .str))) 0 y9]⟩, some ⟨false, [.int .u64 y10, .int .u64 y11, .int .u64 y12, .int .u64 y13]⟩]) (fun (y0 : Int) (y10 : List (Int × (Int × (Int × ByteArray)))) (y11 : Int) (y12 : Int) (y13 : Int) (y14 : Int) (y17 : Int) (y18 : ByteArray) => K .ret [.tv (.lf (.nils (some (.pair (.int .u64) (.pair (.int .u64) (.pair (.int .i64) .str)))))), .tv (.lf (.int .i64 y0))] [some ⟨d.2.1.1, [.full 1, .full 2, .int .i64 d.2.1.2.2.2.1, .bool d.2.1.2.2.2.2.1, .int .i64 d.2.1.2.2.2.2.2.1]⟩, some ⟨d.2.2.1.1, [.seq .str 0 d.2.2.1.2.1]⟩, some ⟨d.2.2.2.1.1, [.seq (.pair (.int .i64) .str) 0 d.2.2.2.1.2.1]⟩, some ⟨false, [.int .i64 d.2.2.2.2.1.2.1, .int .i64 d.2.2.2.2.1.2.2.1, .int .i64 d.2.2.2.2.1.2.2.2.1, .int .i64 d.2.2.2.2.1.2.2.2.2.1]⟩, some ⟨false, [.seq (.pair (.int .u64) (.pair (.int .u64) (.pair (.int .i64) .str))) 0 y10]⟩, some ⟨false, [.int .u64 y11, .int .u64 y12, .int .u64 y13, .int .u64 y14]⟩, some ⟨false, [.int .u64 0, .int .u64 d.1.2.1, .int .i64 y17, .str y18]⟩]) (fun (y9 : List (Int × (Int × (Int × ByteArray)))) (y10 : Int) (y11 : Int) (y12 : Int) (y13 : Int) (y16 : Int) (y17 : ByteArray) => K (.exit 0) [.tv (.lf (.full 4))] [some ⟨d.2.1.1, [.full 1, .full 2, .int .i64 d.2.1.2.2.2.1, .bool d.2.1.2.2.2.2.1, .int .i64 d.2.1.2.2.2.2.2.1]⟩, some ⟨d.2.2.1.1, [.seq .str 0 d.2.2.1.2.1]⟩, some ⟨d.2.2.2.1.1, [.seq (.pair (.int .i64) .str) 0 d.2.2.2.1.2.1]⟩, some ⟨false, [.int .i64 d.2.2.2.2.1.2.1, .int .i64 d.2.2.2.2.1.2.2.1, .int .i64 d.2.2.2.2.1.2.2.2.1, .int .i64 d.2.2.2.2.1.2.2.2.2.1]⟩, some ⟨false, [.seq (.pair (.int .u64) (.pair (.int .u64) (.pair (.int .i64) .str))) 0 y9]⟩, some ⟨false, [.int .u64 y10, .int .u64 y11, .int .u64 y12, .int .u64 y13]⟩, some ⟨false, [.int .u64 0, .int .u64 d.1.2.1, .int .i64 y16, .str y17]⟩]) (fun (y9 : List (Int × (Int × (Int × ByteArray)))) => K (.exit 0) [.tv (.lf (.full 4))] [some ⟨d.2.1.1, [.full 1, .full 2, .int .i64 d.2.1.2.2.2.1, .bool d.2.1.2.2.2.2.1, .int .i64 d.2.1.2.2.2.2.2.1]⟩, some ⟨d.2.2.1.1, [.seq .str 0 d.2.2.1.2.1]⟩, some ⟨d.2.2.2.1.1, [.seq (.pair (.int .i64) .str) 0 d.2.2.2.1.2.1]⟩, some ⟨false, [.int .i64 d.2.2.2.2.1.2.1, .int .i64 d.2.2.2.2.1.2.2.1, .int .i64 d.2.2.2.2.1.2.2.2.1, .int .i64 d.2.2.2.2.1.2.2.2.2.1]⟩, some ⟨false, [.seq (.pair (.int .u64) (.pair (.int .u64) (.pair (.int .i64) .str))) 0 y9]⟩]) k d.1.2.2.2.2.2.1 d.2.2.2.2.2.1.2.1) []
noncomputable def LT13_1 (F : Nat) : Nat → Option LoopS := ltab [(5, G13_1_5 F F)]
theorem L13_1_l5g (F k : Nat) (c27_1 : Int → Int → Int → Int → (Bool → Option Res) → Option Res) (c29_1 : Int → Int → Bool → Int → List ByteArray → List (Int × ByteArray) → (ByteArray → Int → Option Res) → Option Res) (c31_1 : Int → Int → Int → Int → Int → Int → (Int → Option Res) → Option Res) (c33_1 : Int → Int → Int → Int → ByteArray → (Int → Int → Int → Option Res) → Option Res) (c35_1 : ByteArray → (Int → Int → Int → Int → Bool → Option Res) → Option Res)  (l5 : Int → Int → Int → Bool → Int → List ByteArray → List (Int × ByteArray) → Int → Int → Int → Int → (Int → List (Int × (Int × (Int × ByteArray))) → Option Res) → (List (Int × (Int × (Int × ByteArray))) → Int → Int → Int → Int → Option Res) → (Int → List (Int × (Int × (Int × ByteArray))) → Int → Int → Int → Int → Int → ByteArray → Option Res) → (List (Int × (Int × (Int × ByteArray))) → Int → Int → Int → Int → Int → ByteArray → Option Res) → (List (Int × (Int × (Int × ByteArray))) → Option Res) → Nat → Int → List (Int × (Int × (Int × ByteArray))) → Option Res) (X5 : LoopS) (d : sh13_1_l5.den) (K : KL) : (fun (v2 : Int) (v3 : Int) (v5 : Int) (v6 : Bool) (v7 : Int) (v8 : List ByteArray) (v9 : List (Int × ByteArray)) (v10 : Int) (v11 : Int) (v12 : Int) (v13 : Int) (K0 : (Int → List (Int × (Int × (Int × ByteArray))) → Option Res)) (K1 : (List (Int × (Int × (Int × ByteArray))) → Int → Int → Int → Int → Option Res)) (K2 : (Int → List (Int × (Int × (Int × ByteArray))) → Int → Int → Int → Int → Int → ByteArray → Option Res)) (K3 : (List (Int × (Int × (Int × ByteArray))) → Int → Int → Int → Int → Int → ByteArray → Option Res)) (K4 : (List (Int × (Int × (Int × ByteArray))) → Option Res)) (k : Nat) (v4 : Int) (v14 : List (Int × (Int × (Int × ByteArray)))) => cond (decide (v4 < v3)) (c31_1 v10 v11 v12 v13 0 (IntKind.i64.wrap (2 * v4)) (fun x15 => c29_1 x15 v5 v6 v7 v8 v9 (fun x16 x17 => cond (x17 != 0) (K0 x17 v14) (c35_1 x16 (fun x18 x19 x20 x21 x22 => cond (!x22) (K1 v14 x18 x19 x20 x21) (cond (x18 != v2) (K1 v14 x18 x19 x20 x21) (cond (x19 != (IntKind.u64.wrap v4)) (K1 v14 x18 x19 x20 x21) (cond (decide (x20 ≥ IntKind.u64.wrap v10)) (K1 v14 x18 x19 x20 x21) (c31_1 v10 v11 v12 v13 0 (IntKind.i64.wrap ((IntKind.i64.wrap (2 * v4)) + 1)) (fun x23 => c29_1 x23 v5 v6 v7 v8 v9 (fun x24 x25 => cond (x25 != 0) (K2 x25 v14 x18 x19 x20 x21 (IntKind.i64.wrap x20) x24) (c33_1 v4 0 v2 (IntKind.i64.wrap x20) x24 (fun x26 x27 x28 => cond (!((v2 == x18) && ((x26 == x19) && ((x27 == x20) && (x28 == x21))))) (K3 v14 x18 x19 x20 x21 (IntKind.i64.wrap x20) x24) (cond (decide ((v14.length + 1) * 40 ≤ 70368744177664)) (l5 v2 v3 v5 v6 v7 v8 v9 v10 v11 v12 v13 K0 K1 K2 K3 K4 k (IntKind.i64.wrap (v4 + 1)) (v14 ++ [(0, (v2, (IntKind.i64.wrap x20, x24)))])) none)) )) ) ))))) )) ) ) (K4 v14)) d.1.2.1 d.1.2.2.2.2.1 d.2.1.2.2.2.1 d.2.1.2.2.2.2.1 d.2.1.2.2.2.2.2.1 d.2.2.1.2.1 d.2.2.2.1.2.1 d.2.2.2.2.1.2.1 d.2.2.2.2.1.2.2.1 d.2.2.2.2.1.2.2.2.1 d.2.2.2.2.1.2.2.2.2.1 (fun (y0 : Int) (y10 : List (Int × (Int × (Int × ByteArray)))) => K .ret [.tv (.lf (.nils (some (.pair (.int .u64) (.pair (.int .u64) (.pair (.int .i64) .str)))))), .tv (.lf (.int .i64 y0))] [some ⟨d.2.1.1, [.full 1, .full 2, .int .i64 d.2.1.2.2.2.1, .bool d.2.1.2.2.2.2.1, .int .i64 d.2.1.2.2.2.2.2.1]⟩, some ⟨d.2.2.1.1, [.seq .str 0 d.2.2.1.2.1]⟩, some ⟨d.2.2.2.1.1, [.seq (.pair (.int .i64) .str) 0 d.2.2.2.1.2.1]⟩, some ⟨false, [.int .i64 d.2.2.2.2.1.2.1, .int .i64 d.2.2.2.2.1.2.2.1, .int .i64 d.2.2.2.2.1.2.2.2.1, .int .i64 d.2.2.2.2.1.2.2.2.2.1]⟩, some ⟨false, [.seq (.pair (.int .u64) (.pair (.int .u64) (.pair (.int .i64) .str))) 0 y10]⟩]) (fun (y9 : List (Int × (Int × (Int × ByteArray)))) (y10 : Int) (y11 : Int) (y12 : Int) (y13 : Int) => K (.exit 0) [.tv (.lf (.full 4))] [some ⟨d.2.1.1, [.full 1, .full 2, .int .i64 d.2.1.2.2.2.1, .bool d.2.1.2.2.2.2.1, .int .i64 d.2.1.2.2.2.2.2.1]⟩, some ⟨d.2.2.1.1, [.seq .str 0 d.2.2.1.2.1]⟩, some ⟨d.2.2.2.1.1, [.seq (.pair (.int .i64) .str) 0 d.2.2.2.1.2.1]⟩, some ⟨false, [.int .i64 d.2.2.2.2.1.2.1, .int .i64 d.2.2.2.2.1.2.2.1, .int .i64 d.2.2.2.2.1.2.2.2.1, .int .i64 d.2.2.2.2.1.2.2.2.2.1]⟩, some ⟨false, [.seq (.pair (.int .u64) (.pair (.int .u64) (.pair (.int .i64) .str))) 0 y9]⟩, some ⟨false, [.int .u64 y10, .int .u64 y11, .int .u64 y12, .int .u64 y13]⟩]) (fun (y0 : Int) (y10 : List (Int × (Int × (Int × ByteArray)))) (y11 : Int) (y12 : Int) (y13 : Int) (y14 : Int) (y17 : Int) (y18 : ByteArray) => K .ret [.tv (.lf (.nils (some (.pair (.int .u64) (.pair (.int .u64) (.pair (.int .i64) .str)))))), .tv (.lf (.int .i64 y0))] [some ⟨d.2.1.1, [.full 1, .full 2, .int .i64 d.2.1.2.2.2.1, .bool d.2.1.2.2.2.2.1, .int .i64 d.2.1.2.2.2.2.2.1]⟩, some ⟨d.2.2.1.1, [.seq .str 0 d.2.2.1.2.1]⟩, some ⟨d.2.2.2.1.1, [.seq (.pair (.int .i64) .str) 0 d.2.2.2.1.2.1]⟩, some ⟨false, [.int .i64 d.2.2.2.2.1.2.1, .int .i64 d.2.2.2.2.1.2.2.1, .int .i64 d.2.2.2.2.1.2.2.2.1, .int .i64 d.2.2.2.2.1.2.2.2.2.1]⟩, some ⟨false, [.seq (.pair (.int .u64) (.pair (.int .u64) (.pair (.int .i64) .str))) 0 y10]⟩, some ⟨false, [.int .u64 y11, .int .u64 y12, .int .u64 y13, .int .u64 y14]⟩, some ⟨false, [.int .u64 0, .int .u64 d.1.2.1, .int .i64 y17, .str y18]⟩]) (fun (y9 : List (Int × (Int × (Int × ByteArray)))) (y10 : Int) (y11 : Int) (y12 : Int) (y13 : Int) (y16 : Int) (y17 : ByteArray) => K (.exit 0) [.tv (.lf (.full 4))] [some ⟨d.2.1.1, [.full 1, .full 2, .int .i64 d.2.1.2.2.2.1, .bool d.2.1.2.2.2.2.1, .int .i64 d.2.1.2.2.2.2.2.1]⟩, some ⟨d.2.2.1.1, [.seq .str 0 d.2.2.1.2.1]⟩, some ⟨d.2.2.2.1.1, [.seq (.pair (.int .i64) .str) 0 d.2.2.2.1.2.1]⟩, some ⟨false, [.int .i64 d.2.2.2.2.1.2.1, .int .i64 d.2.2.2.2.1.2.2.1, .int .i64 d.2.2.2.2.1.2.2.2.1, .int .i64 d.2.2.2.2.1.2.2.2.2.1]⟩, some ⟨false, [.seq (.pair (.int .u64) (.pair (.int .u64) (.pair (.int .i64) .str))) 0 y9]⟩, some ⟨false, [.int .u64 y10, .int .u64 y11, .int .u64 y12, .int .u64 y13]⟩, some ⟨false, [.int .u64 0, .int .u64 d.1.2.1, .int .i64 y16, .str y17]⟩]) (fun (y9 : List (Int × (Int × (Int × ByteArray)))) => K (.exit 0) [.tv (.lf (.full 4))] [some ⟨d.2.1.1, [.full 1, .full 2, .int .i64 d.2.1.2.2.2.1, .bool d.2.1.2.2.2.2.1, .int .i64 d.2.1.2.2.2.2.2.1]⟩, some ⟨d.2.2.1.1, [.seq .str 0 d.2.2.1.2.1]⟩, some ⟨d.2.2.2.1.1, [.seq (.pair (.int .i64) .str) 0 d.2.2.2.1.2.1]⟩, some ⟨false, [.int .i64 d.2.2.2.2.1.2.1, .int .i64 d.2.2.2.2.1.2.2.1, .int .i64 d.2.2.2.2.1.2.2.2.1, .int .i64 d.2.2.2.2.1.2.2.2.2.1]⟩, some ⟨false, [.seq (.pair (.int .u64) (.pair (.int .u64) (.pair (.int .i64) .str))) 0 y9]⟩]) k d.1.2.2.2.2.2.1 d.2.2.2.2.2.1.2.1 = roundOf Tryd.prog (tab [(27, (mkS sh27_1 (fun d K => c27_1 d.1.1.1 d.1.1.2.1 d.1.1.2.2.1 d.1.1.2.2.2.1 (fun (y0 : Bool) => K [.lf (.bool y0)] [])) noS)), (29, (mkS sh29_1 (fun d K => c29_1 d.1.2.1 d.2.1.2.2.2.1 d.2.1.2.2.2.2.1 d.2.1.2.2.2.2.2.1 d.2.2.1.2.1 d.2.2.2.1.2.1 (fun (y0 : ByteArray) (y1 : Int) => K [.lf (.str y0), .lf (.int .i64 y1)] [some ⟨d.2.1.1, [.full 1, .full 2, .int .i64 d.2.1.2.2.2.1, .bool d.2.1.2.2.2.2.1, .int .i64 d.2.1.2.2.2.2.2.1]⟩, some ⟨d.2.2.1.1, [.seq .str 0 d.2.2.1.2.1]⟩, some ⟨d.2.2.2.1.1, [.seq (.pair (.int .i64) .str) 0 d.2.2.2.1.2.1]⟩])) noS)), (31, (mkS sh31_1 (fun d K => c31_1 d.1.1.1 d.1.1.2.1 d.1.1.2.2.1 d.1.1.2.2.2.1 d.1.2.1 d.1.2.2.1 (fun (y0 : Int) => K [.lf (.int .i64 y0)] [])) noS)), (33, (mkS sh33_1 (fun d K => c33_1 d.1.1 d.1.2.1.1 d.1.2.1.2.1 d.1.2.1.2.2.1 d.1.2.1.2.2.2.1 (fun (y1 : Int) (y2 : Int) (y3 : Int) => K [.agg [.int .u64 d.1.2.1.2.1, .int .u64 y1, .int .u64 y2, .int .u64 y3]] [])) noS)), (35, (mkS sh35_1 (fun d K => c35_1 d.1.1 (fun (y0 : Int) (y1 : Int) (y2 : Int) (y3 : Int) (y4 : Bool) => K [.agg [.int .u64 y0, .int .u64 y1, .int .u64 y2, .int .u64 y3], .lf (.bool y4)] [])) noS))]) (xw []) 93 3 (ltab [(5, X5)]) (mkG sh13_1_l5 [0, 2, 4, 8, 19, 20] (outT [(.exit 0, [8]), (.ret, [6, 7])]) (fun d K => l5 d.1.2.1 d.1.2.2.2.2.1 d.2.1.2.2.2.1 d.2.1.2.2.2.2.1 d.2.1.2.2.2.2.2.1 d.2.2.1.2.1 d.2.2.2.1.2.1 d.2.2.2.2.1.2.1 d.2.2.2.2.1.2.2.1 d.2.2.2.2.1.2.2.2.1 d.2.2.2.2.1.2.2.2.2.1 (fun (y0 : Int) (y10 : List (Int × (Int × (Int × ByteArray)))) => K .ret [.tv (.lf (.nils (some (.pair (.int .u64) (.pair (.int .u64) (.pair (.int .i64) .str)))))), .tv (.lf (.int .i64 y0))] [some ⟨d.2.1.1, [.full 1, .full 2, .int .i64 d.2.1.2.2.2.1, .bool d.2.1.2.2.2.2.1, .int .i64 d.2.1.2.2.2.2.2.1]⟩, some ⟨d.2.2.1.1, [.seq .str 0 d.2.2.1.2.1]⟩, some ⟨d.2.2.2.1.1, [.seq (.pair (.int .i64) .str) 0 d.2.2.2.1.2.1]⟩, some ⟨false, [.int .i64 d.2.2.2.2.1.2.1, .int .i64 d.2.2.2.2.1.2.2.1, .int .i64 d.2.2.2.2.1.2.2.2.1, .int .i64 d.2.2.2.2.1.2.2.2.2.1]⟩, some ⟨false, [.seq (.pair (.int .u64) (.pair (.int .u64) (.pair (.int .i64) .str))) 0 y10]⟩]) (fun (y9 : List (Int × (Int × (Int × ByteArray)))) (y10 : Int) (y11 : Int) (y12 : Int) (y13 : Int) => K (.exit 0) [.tv (.lf (.full 4))] [some ⟨d.2.1.1, [.full 1, .full 2, .int .i64 d.2.1.2.2.2.1, .bool d.2.1.2.2.2.2.1, .int .i64 d.2.1.2.2.2.2.2.1]⟩, some ⟨d.2.2.1.1, [.seq .str 0 d.2.2.1.2.1]⟩, some ⟨d.2.2.2.1.1, [.seq (.pair (.int .i64) .str) 0 d.2.2.2.1.2.1]⟩, some ⟨false, [.int .i64 d.2.2.2.2.1.2.1, .int .i64 d.2.2.2.2.1.2.2.1, .int .i64 d.2.2.2.2.1.2.2.2.1, .int .i64 d.2.2.2.2.1.2.2.2.2.1]⟩, some ⟨false, [.seq (.pair (.int .u64) (.pair (.int .u64) (.pair (.int .i64) .str))) 0 y9]⟩, some ⟨false, [.int .u64 y10, .int .u64 y11, .int .u64 y12, .int .u64 y13]⟩]) (fun (y0 : Int) (y10 : List (Int × (Int × (Int × ByteArray)))) (y11 : Int) (y12 : Int) (y13 : Int) (y14 : Int) (y17 : Int) (y18 : ByteArray) => K .ret [.tv (.lf (.nils (some (.pair (.int .u64) (.pair (.int .u64) (.pair (.int .i64) .str)))))), .tv (.lf (.int .i64 y0))] [some ⟨d.2.1.1, [.full 1, .full 2, .int .i64 d.2.1.2.2.2.1, .bool d.2.1.2.2.2.2.1, .int .i64 d.2.1.2.2.2.2.2.1]⟩, some ⟨d.2.2.1.1, [.seq .str 0 d.2.2.1.2.1]⟩, some ⟨d.2.2.2.1.1, [.seq (.pair (.int .i64) .str) 0 d.2.2.2.1.2.1]⟩, some ⟨false, [.int .i64 d.2.2.2.2.1.2.1, .int .i64 d.2.2.2.2.1.2.2.1, .int .i64 d.2.2.2.2.1.2.2.2.1, .int .i64 d.2.2.2.2.1.2.2.2.2.1]⟩, some ⟨false, [.seq (.pair (.int .u64) (.pair (.int .u64) (.pair (.int .i64) .str))) 0 y10]⟩, some ⟨false, [.int .u64 y11, .int .u64 y12, .int .u64 y13, .int .u64 y14]⟩, some ⟨false, [.int .u64 0, .int .u64 d.1.2.1, .int .i64 y17, .str y18]⟩]) (fun (y9 : List (Int × (Int × (Int × ByteArray)))) (y10 : Int) (y11 : Int) (y12 : Int) (y13 : Int) (y16 : Int) (y17 : ByteArray) => K (.exit 0) [.tv (.lf (.full 4))] [some ⟨d.2.1.1, [.full 1, .full 2, .int .i64 d.2.1.2.2.2.1, .bool d.2.1.2.2.2.2.1, .int .i64 d.2.1.2.2.2.2.2.1]⟩, some ⟨d.2.2.1.1, [.seq .str 0 d.2.2.1.2.1]⟩, some ⟨d.2.2.2.1.1, [.seq (.pair (.int .i64) .str) 0 d.2.2.2.1.2.1]⟩, some ⟨false, [.int .i64 d.2.2.2.2.1.2.1, .int .i64 d.2.2.2.2.1.2.2.1, .int .i64 d.2.2.2.2.1.2.2.2.1, .int .i64 d.2.2.2.2.1.2.2.2.2.1]⟩, some ⟨false, [.seq (.pair (.int .u64) (.pair (.int .u64) (.pair (.int .i64) .str))) 0 y9]⟩, some ⟨false, [.int .u64 y10, .int .u64 y11, .int .u64 y12, .int .u64 y13]⟩, some ⟨false, [.int .u64 0, .int .u64 d.1.2.1, .int .i64 y16, .str y17]⟩]) (fun (y9 : List (Int × (Int × (Int × ByteArray)))) => K (.exit 0) [.tv (.lf (.full 4))] [some ⟨d.2.1.1, [.full 1, .full 2, .int .i64 d.2.1.2.2.2.1, .bool d.2.1.2.2.2.2.1, .int .i64 d.2.1.2.2.2.2.2.1]⟩, some ⟨d.2.2.1.1, [.seq .str 0 d.2.2.1.2.1]⟩, some ⟨d.2.2.2.1.1, [.seq (.pair (.int .i64) .str) 0 d.2.2.2.1.2.1]⟩, some ⟨false, [.int .i64 d.2.2.2.2.1.2.1, .int .i64 d.2.2.2.2.1.2.2.1, .int .i64 d.2.2.2.2.1.2.2.2.1, .int .i64 d.2.2.2.2.1.2.2.2.2.1]⟩, some ⟨false, [.seq (.pair (.int .u64) (.pair (.int .u64) (.pair (.int .i64) .str))) 0 y9]⟩]) k d.1.2.2.2.2.2.1 d.2.2.2.2.2.1.2.1) []) b13_0 (encT sh13_1_l5.vs d.1) (encH sh13_1_l5.h d.2) K := by kernel_rfl
theorem L13_1_5 (F : Nat) : LoopOK Tryd.prog (T13_1 F) (xw []) 93 3 (LT13_1 F) (G13_1_5 F F) b13_0 :=
  loopOK_of (s := sh13_1_l5) (live := [0, 2, 4, 8, 19, 20]) (out := (outT [(.exit 0, [8]), (.ret, [6, 7])])) (mv := []) (fun k d K => f13_1_l5 F d.1.2.1 d.1.2.2.2.2.1 d.2.1.2.2.2.1 d.2.1.2.2.2.2.1 d.2.1.2.2.2.2.2.1 d.2.2.1.2.1 d.2.2.2.1.2.1 d.2.2.2.2.1.2.1 d.2.2.2.2.1.2.2.1 d.2.2.2.2.1.2.2.2.1 d.2.2.2.2.1.2.2.2.2.1 (fun (y0 : Int) (y10 : List (Int × (Int × (Int × ByteArray)))) => K .ret [.tv (.lf (.nils (some (.pair (.int .u64) (.pair (.int .u64) (.pair (.int .i64) .str)))))), .tv (.lf (.int .i64 y0))] [some ⟨d.2.1.1, [.full 1, .full 2, .int .i64 d.2.1.2.2.2.1, .bool d.2.1.2.2.2.2.1, .int .i64 d.2.1.2.2.2.2.2.1]⟩, some ⟨d.2.2.1.1, [.seq .str 0 d.2.2.1.2.1]⟩, some ⟨d.2.2.2.1.1, [.seq (.pair (.int .i64) .str) 0 d.2.2.2.1.2.1]⟩, some ⟨false, [.int .i64 d.2.2.2.2.1.2.1, .int .i64 d.2.2.2.2.1.2.2.1, .int .i64 d.2.2.2.2.1.2.2.2.1, .int .i64 d.2.2.2.2.1.2.2.2.2.1]⟩, some ⟨false, [.seq (.pair (.int .u64) (.pair (.int .u64) (.pair (.int .i64) .str))) 0 y10]⟩]) (fun (y9 : List (Int × (Int × (Int × ByteArray)))) (y10 : Int) (y11 : Int) (y12 : Int) (y13 : Int) => K (.exit 0) [.tv (.lf (.full 4))] [some ⟨d.2.1.1, [.full 1, .full 2, .int .i64 d.2.1.2.2.2.1, .bool d.2.1.2.2.2.2.1, .int .i64 d.2.1.2.2.2.2.2.1]⟩, some ⟨d.2.2.1.1, [.seq .str 0 d.2.2.1.2.1]⟩, some ⟨d.2.2.2.1.1, [.seq (.pair (.int .i64) .str) 0 d.2.2.2.1.2.1]⟩, some ⟨false, [.int .i64 d.2.2.2.2.1.2.1, .int .i64 d.2.2.2.2.1.2.2.1, .int .i64 d.2.2.2.2.1.2.2.2.1, .int .i64 d.2.2.2.2.1.2.2.2.2.1]⟩, some ⟨false, [.seq (.pair (.int .u64) (.pair (.int .u64) (.pair (.int .i64) .str))) 0 y9]⟩, some ⟨false, [.int .u64 y10, .int .u64 y11, .int .u64 y12, .int .u64 y13]⟩]) (fun (y0 : Int) (y10 : List (Int × (Int × (Int × ByteArray)))) (y11 : Int) (y12 : Int) (y13 : Int) (y14 : Int) (y17 : Int) (y18 : ByteArray) => K .ret [.tv (.lf (.nils (some (.pair (.int .u64) (.pair (.int .u64) (.pair (.int .i64) .str)))))), .tv (.lf (.int .i64 y0))] [some ⟨d.2.1.1, [.full 1, .full 2, .int .i64 d.2.1.2.2.2.1, .bool d.2.1.2.2.2.2.1, .int .i64 d.2.1.2.2.2.2.2.1]⟩, some ⟨d.2.2.1.1, [.seq .str 0 d.2.2.1.2.1]⟩, some ⟨d.2.2.2.1.1, [.seq (.pair (.int .i64) .str) 0 d.2.2.2.1.2.1]⟩, some ⟨false, [.int .i64 d.2.2.2.2.1.2.1, .int .i64 d.2.2.2.2.1.2.2.1, .int .i64 d.2.2.2.2.1.2.2.2.1, .int .i64 d.2.2.2.2.1.2.2.2.2.1]⟩, some ⟨false, [.seq (.pair (.int .u64) (.pair (.int .u64) (.pair (.int .i64) .str))) 0 y10]⟩, some ⟨false, [.int .u64 y11, .int .u64 y12, .int .u64 y13, .int .u64 y14]⟩, some ⟨false, [.int .u64 0, .int .u64 d.1.2.1, .int .i64 y17, .str y18]⟩]) (fun (y9 : List (Int × (Int × (Int × ByteArray)))) (y10 : Int) (y11 : Int) (y12 : Int) (y13 : Int) (y16 : Int) (y17 : ByteArray) => K (.exit 0) [.tv (.lf (.full 4))] [some ⟨d.2.1.1, [.full 1, .full 2, .int .i64 d.2.1.2.2.2.1, .bool d.2.1.2.2.2.2.1, .int .i64 d.2.1.2.2.2.2.2.1]⟩, some ⟨d.2.2.1.1, [.seq .str 0 d.2.2.1.2.1]⟩, some ⟨d.2.2.2.1.1, [.seq (.pair (.int .i64) .str) 0 d.2.2.2.1.2.1]⟩, some ⟨false, [.int .i64 d.2.2.2.2.1.2.1, .int .i64 d.2.2.2.2.1.2.2.1, .int .i64 d.2.2.2.2.1.2.2.2.1, .int .i64 d.2.2.2.2.1.2.2.2.2.1]⟩, some ⟨false, [.seq (.pair (.int .u64) (.pair (.int .u64) (.pair (.int .i64) .str))) 0 y9]⟩, some ⟨false, [.int .u64 y10, .int .u64 y11, .int .u64 y12, .int .u64 y13]⟩, some ⟨false, [.int .u64 0, .int .u64 d.1.2.1, .int .i64 y16, .str y17]⟩]) (fun (y9 : List (Int × (Int × (Int × ByteArray)))) => K (.exit 0) [.tv (.lf (.full 4))] [some ⟨d.2.1.1, [.full 1, .full 2, .int .i64 d.2.1.2.2.2.1, .bool d.2.1.2.2.2.2.1, .int .i64 d.2.1.2.2.2.2.2.1]⟩, some ⟨d.2.2.1.1, [.seq .str 0 d.2.2.1.2.1]⟩, some ⟨d.2.2.2.1.1, [.seq (.pair (.int .i64) .str) 0 d.2.2.2.1.2.1]⟩, some ⟨false, [.int .i64 d.2.2.2.2.1.2.1, .int .i64 d.2.2.2.2.1.2.2.1, .int .i64 d.2.2.2.2.1.2.2.2.1, .int .i64 d.2.2.2.2.1.2.2.2.2.1]⟩, some ⟨false, [.seq (.pair (.int .u64) (.pair (.int .u64) (.pair (.int .i64) .str))) 0 y9]⟩]) k d.1.2.2.2.2.2.1 d.2.2.2.2.2.1.2.1) F (fun d K => by kernel_rfl)  (fun k d K => Eq.mp (by kernel_rfl) (L13_1_l5g F k (f27_1 F) (f29_1 F) (f31_1 F) (f33_1 F) (f35_1 F)  (f13_1_l5 F) (G13_1_5 F F) d K))
theorem E13_1g (F : Nat) (c27_1 : Int → Int → Int → Int → (Bool → Option Res) → Option Res) (c29_1 : Int → Int → Bool → Int → List ByteArray → List (Int × ByteArray) → (ByteArray → Int → Option Res) → Option Res) (c31_1 : Int → Int → Int → Int → Int → Int → (Int → Option Res) → Option Res) (c33_1 : Int → Int → Int → Int → ByteArray → (Int → Int → Int → Option Res) → Option Res) (c35_1 : ByteArray → (Int → Int → Int → Int → Bool → Option Res) → Option Res) (l5 : Int → Int → Int → Bool → Int → List ByteArray → List (Int × ByteArray) → Int → Int → Int → Int → (Int → List (Int × (Int × (Int × ByteArray))) → Option Res) → (List (Int × (Int × (Int × ByteArray))) → Int → Int → Int → Int → Option Res) → (Int → List (Int × (Int × (Int × ByteArray))) → Int → Int → Int → Int → Int → ByteArray → Option Res) → (List (Int × (Int × (Int × ByteArray))) → Int → Int → Int → Int → Int → ByteArray → Option Res) → (List (Int × (Int × (Int × ByteArray))) → Option Res) → Nat → Int → List (Int × (Int × (Int × ByteArray))) → Option Res)  (d : sh13_1.den) (K : KF) : evBody Tryd.prog (tab [(27, (mkS sh27_1 (fun d K => c27_1 d.1.1.1 d.1.1.2.1 d.1.1.2.2.1 d.1.1.2.2.2.1 (fun (y0 : Bool) => K [.lf (.bool y0)] [])) noS)), (29, (mkS sh29_1 (fun d K => c29_1 d.1.2.1 d.2.1.2.2.2.1 d.2.1.2.2.2.2.1 d.2.1.2.2.2.2.2.1 d.2.2.1.2.1 d.2.2.2.1.2.1 (fun (y0 : ByteArray) (y1 : Int) => K [.lf (.str y0), .lf (.int .i64 y1)] [some ⟨d.2.1.1, [.full 1, .full 2, .int .i64 d.2.1.2.2.2.1, .bool d.2.1.2.2.2.2.1, .int .i64 d.2.1.2.2.2.2.2.1]⟩, some ⟨d.2.2.1.1, [.seq .str 0 d.2.2.1.2.1]⟩, some ⟨d.2.2.2.1.1, [.seq (.pair (.int .i64) .str) 0 d.2.2.2.1.2.1]⟩])) noS)), (31, (mkS sh31_1 (fun d K => c31_1 d.1.1.1 d.1.1.2.1 d.1.1.2.2.1 d.1.1.2.2.2.1 d.1.2.1 d.1.2.2.1 (fun (y0 : Int) => K [.lf (.int .i64 y0)] [])) noS)), (33, (mkS sh33_1 (fun d K => c33_1 d.1.1 d.1.2.1.1 d.1.2.1.2.1 d.1.2.1.2.2.1 d.1.2.1.2.2.2.1 (fun (y1 : Int) (y2 : Int) (y3 : Int) => K [.agg [.int .u64 d.1.2.1.2.1, .int .u64 y1, .int .u64 y2, .int .u64 y3]] [])) noS)), (35, (mkS sh35_1 (fun d K => c35_1 d.1.1 (fun (y0 : Int) (y1 : Int) (y2 : Int) (y3 : Int) (y4 : Bool) => K [.agg [.int .u64 y0, .int .u64 y1, .int .u64 y2, .int .u64 y3], .lf (.bool y4)] [])) noS))]) (xw []) 93 3 (ltab [(5, mkG sh13_1_l5 [0, 2, 4, 8, 19, 20] (outT [(.exit 0, [8]), (.ret, [6, 7])]) (fun d K => l5 d.1.2.1 d.1.2.2.2.2.1 d.2.1.2.2.2.1 d.2.1.2.2.2.2.1 d.2.1.2.2.2.2.2.1 d.2.2.1.2.1 d.2.2.2.1.2.1 d.2.2.2.2.1.2.1 d.2.2.2.2.1.2.2.1 d.2.2.2.2.1.2.2.2.1 d.2.2.2.2.1.2.2.2.2.1 (fun (y0 : Int) (y10 : List (Int × (Int × (Int × ByteArray)))) => K .ret [.tv (.lf (.nils (some (.pair (.int .u64) (.pair (.int .u64) (.pair (.int .i64) .str)))))), .tv (.lf (.int .i64 y0))] [some ⟨d.2.1.1, [.full 1, .full 2, .int .i64 d.2.1.2.2.2.1, .bool d.2.1.2.2.2.2.1, .int .i64 d.2.1.2.2.2.2.2.1]⟩, some ⟨d.2.2.1.1, [.seq .str 0 d.2.2.1.2.1]⟩, some ⟨d.2.2.2.1.1, [.seq (.pair (.int .i64) .str) 0 d.2.2.2.1.2.1]⟩, some ⟨false, [.int .i64 d.2.2.2.2.1.2.1, .int .i64 d.2.2.2.2.1.2.2.1, .int .i64 d.2.2.2.2.1.2.2.2.1, .int .i64 d.2.2.2.2.1.2.2.2.2.1]⟩, some ⟨false, [.seq (.pair (.int .u64) (.pair (.int .u64) (.pair (.int .i64) .str))) 0 y10]⟩]) (fun (y9 : List (Int × (Int × (Int × ByteArray)))) (y10 : Int) (y11 : Int) (y12 : Int) (y13 : Int) => K (.exit 0) [.tv (.lf (.full 4))] [some ⟨d.2.1.1, [.full 1, .full 2, .int .i64 d.2.1.2.2.2.1, .bool d.2.1.2.2.2.2.1, .int .i64 d.2.1.2.2.2.2.2.1]⟩, some ⟨d.2.2.1.1, [.seq .str 0 d.2.2.1.2.1]⟩, some ⟨d.2.2.2.1.1, [.seq (.pair (.int .i64) .str) 0 d.2.2.2.1.2.1]⟩, some ⟨false, [.int .i64 d.2.2.2.2.1.2.1, .int .i64 d.2.2.2.2.1.2.2.1, .int .i64 d.2.2.2.2.1.2.2.2.1, .int .i64 d.2.2.2.2.1.2.2.2.2.1]⟩, some ⟨false, [.seq (.pair (.int .u64) (.pair (.int .u64) (.pair (.int .i64) .str))) 0 y9]⟩, some ⟨false, [.int .u64 y10, .int .u64 y11, .int .u64 y12, .int .u64 y13]⟩]) (fun (y0 : Int) (y10 : List (Int × (Int × (Int × ByteArray)))) (y11 : Int) (y12 : Int) (y13 : Int) (y14 : Int) (y17 : Int) (y18 : ByteArray) => K .ret [.tv (.lf (.nils (some (.pair (.int .u64) (.pair (.int .u64) (.pair (.int .i64) .str)))))), .tv (.lf (.int .i64 y0))] [some ⟨d.2.1.1, [.full 1, .full 2, .int .i64 d.2.1.2.2.2.1, .bool d.2.1.2.2.2.2.1, .int .i64 d.2.1.2.2.2.2.2.1]⟩, some ⟨d.2.2.1.1, [.seq .str 0 d.2.2.1.2.1]⟩, some ⟨d.2.2.2.1.1, [.seq (.pair (.int .i64) .str) 0 d.2.2.2.1.2.1]⟩, some ⟨false, [.int .i64 d.2.2.2.2.1.2.1, .int .i64 d.2.2.2.2.1.2.2.1, .int .i64 d.2.2.2.2.1.2.2.2.1, .int .i64 d.2.2.2.2.1.2.2.2.2.1]⟩, some ⟨false, [.seq (.pair (.int .u64) (.pair (.int .u64) (.pair (.int .i64) .str))) 0 y10]⟩, some ⟨false, [.int .u64 y11, .int .u64 y12, .int .u64 y13, .int .u64 y14]⟩, some ⟨false, [.int .u64 0, .int .u64 d.1.2.1, .int .i64 y17, .str y18]⟩]) (fun (y9 : List (Int × (Int × (Int × ByteArray)))) (y10 : Int) (y11 : Int) (y12 : Int) (y13 : Int) (y16 : Int) (y17 : ByteArray) => K (.exit 0) [.tv (.lf (.full 4))] [some ⟨d.2.1.1, [.full 1, .full 2, .int .i64 d.2.1.2.2.2.1, .bool d.2.1.2.2.2.2.1, .int .i64 d.2.1.2.2.2.2.2.1]⟩, some ⟨d.2.2.1.1, [.seq .str 0 d.2.2.1.2.1]⟩, some ⟨d.2.2.2.1.1, [.seq (.pair (.int .i64) .str) 0 d.2.2.2.1.2.1]⟩, some ⟨false, [.int .i64 d.2.2.2.2.1.2.1, .int .i64 d.2.2.2.2.1.2.2.1, .int .i64 d.2.2.2.2.1.2.2.2.1, .int .i64 d.2.2.2.2.1.2.2.2.2.1]⟩, some ⟨false, [.seq (.pair (.int .u64) (.pair (.int .u64) (.pair (.int .i64) .str))) 0 y9]⟩, some ⟨false, [.int .u64 y10, .int .u64 y11, .int .u64 y12, .int .u64 y13]⟩, some ⟨false, [.int .u64 0, .int .u64 d.1.2.1, .int .i64 y16, .str y17]⟩]) (fun (y9 : List (Int × (Int × (Int × ByteArray)))) => K (.exit 0) [.tv (.lf (.full 4))] [some ⟨d.2.1.1, [.full 1, .full 2, .int .i64 d.2.1.2.2.2.1, .bool d.2.1.2.2.2.2.1, .int .i64 d.2.1.2.2.2.2.2.1]⟩, some ⟨d.2.2.1.1, [.seq .str 0 d.2.2.1.2.1]⟩, some ⟨d.2.2.2.1.1, [.seq (.pair (.int .i64) .str) 0 d.2.2.2.1.2.1]⟩, some ⟨false, [.int .i64 d.2.2.2.2.1.2.1, .int .i64 d.2.2.2.2.1.2.2.1, .int .i64 d.2.2.2.2.1.2.2.2.1, .int .i64 d.2.2.2.2.1.2.2.2.2.1]⟩, some ⟨false, [.seq (.pair (.int .u64) (.pair (.int .u64) (.pair (.int .i64) .str))) 0 y9]⟩]) F d.1.2.2.2.2.2.1 d.2.2.2.2.2.1.2.1) [])]) [] code13 Tryd.f13.results.toList (encT sh13_1.vs d.1) (encH sh13_1.h d.2) K = (fun (a1 : Int) (a2 : Int) (a3 : Int) (a4 : Int) (a5 : Int) (a6 : Int) (a7 : Bool) (a8 : Int) (a9 : List ByteArray) (a10 : List (Int × ByteArray)) (K0 : (Int → List (Int × (Int × (Int × ByteArray))) → Option Res)) => c27_1 a1 a2 a3 a4 (fun x1 => cond (!x1) (K0 12 []) (l5 a5 a3 a6 a7 a8 a9 a10 a1 a2 a3 a4 (fun x29 x30 => K0 x29 []) (fun x31 x32 x33 x34 x35 => K0 0 x31) (fun x36 x37 x38 x39 x40 x41 x42 x43 => K0 x36 []) (fun x44 x45 x46 x47 x48 x49 x50 => K0 0 x44) (fun x51 => K0 0 x51) F 0 [])) ) d.1.2.1.1 d.1.2.1.2.1 d.1.2.1.2.2.1 d.1.2.1.2.2.2.1 d.1.2.2.1 d.2.1.2.2.2.1 d.2.1.2.2.2.2.1 d.2.1.2.2.2.2.2.1 d.2.2.1.2.1 d.2.2.2.1.2.1 (fun (y0 : Int) (y6 : List (Int × (Int × (Int × ByteArray)))) => K [.lf (.full 3), .lf (.int .i64 y0)] [some ⟨d.2.1.1, [.full 1, .full 2, .int .i64 d.2.1.2.2.2.1, .bool d.2.1.2.2.2.2.1, .int .i64 d.2.1.2.2.2.2.2.1]⟩, some ⟨d.2.2.1.1, [.seq .str 0 d.2.2.1.2.1]⟩, some ⟨d.2.2.2.1.1, [.seq (.pair (.int .i64) .str) 0 d.2.2.2.1.2.1]⟩, some ⟨false, [.seq (.pair (.int .u64) (.pair (.int .u64) (.pair (.int .i64) .str))) 0 y6]⟩]) := by kernel_rfl
theorem E13_1 (F : Nat) (d : sh13_1.den) (K : KF) : evBody Tryd.prog (T13_1 F) (xw []) 93 3 (LT13_1 F) [] code13 Tryd.f13.results.toList (encT sh13_1.vs d.1) (encH sh13_1.h d.2) K = f13_1 F d.1.2.1.1 d.1.2.1.2.1 d.1.2.1.2.2.1 d.1.2.1.2.2.2.1 d.1.2.2.1 d.2.1.2.2.2.1 d.2.1.2.2.2.2.1 d.2.1.2.2.2.2.2.1 d.2.2.1.2.1 d.2.2.2.1.2.1 (fun (y0 : Int) (y6 : List (Int × (Int × (Int × ByteArray)))) => K [.lf (.full 3), .lf (.int .i64 y0)] [some ⟨d.2.1.1, [.full 1, .full 2, .int .i64 d.2.1.2.2.2.1, .bool d.2.1.2.2.2.2.1, .int .i64 d.2.1.2.2.2.2.2.1]⟩, some ⟨d.2.2.1.1, [.seq .str 0 d.2.2.1.2.1]⟩, some ⟨d.2.2.2.1.1, [.seq (.pair (.int .i64) .str) 0 d.2.2.2.1.2.1]⟩, some ⟨false, [.seq (.pair (.int .u64) (.pair (.int .u64) (.pair (.int .i64) .str))) 0 y6]⟩]) := Eq.mp (by kernel_rfl) (E13_1g F (f27_1 F) (f29_1 F) (f31_1 F) (f33_1 F) (f35_1 F) (f13_1_l5 F)  d K)
theorem S13_1_ok (F : Nat) (o : Summ) (ho : SoundFn Tryd.prog 13 o) : SoundFn Tryd.prog 13 (S13_1 F o) :=
  soundFn_of (fn := Tryd.f13) (c := code13) rfl rfl (by kernel_rfl) (tab_cons (S27_1_ok F _ (noS_sound enter27)) (tab_cons (S29_1_ok F _ (noS_sound enter29)) (tab_cons (S31_1_ok F _ (noS_sound enter31)) (tab_cons (S33_1_ok F _ (noS_sound enter33)) (tab_cons (S35_1_ok F _ (noS_sound enter35)) tab_nil))))) (by kernel_rfl) (by kernel_rfl) ho (by rw [loops13]; exact (loopsOK_cons (by kernel_rfl) (L13_1_5 F) loopsOK_nil)) (by rw [scopes13]; exact (scopesOK_skip (fun i hi => by cases hi; kernel_rfl) scopesOK_nil)) (by rw [ranges13]; exact rangesOK_nil) (E13_1 F)
end Go.Proofs.YtlgopekjjkdkiaaDoor.X
end

section
namespace Go.Proofs.YtlgopekjjkdkiaaDoor.X
open Go Go.Proofs.YtlgopekjjkdkiaaDoor.Ev Go.Proofs
set_option linter.unusedVariables false
set_option linter.unusedSectionVars false
/-! disk.Disk).Read -/
noncomputable def f29_6206 {β : Type} (F : Nat) (a1 : Int) (K0 : Option β) : Option β := K0
variable [FZ]
def sh29_6206 : Sh := ⟨[.lf (.nilp), .lf (.int .i64)], []⟩
noncomputable def S29_6206 (F : Nat) (o : Summ) : Summ := mkS sh29_6206 (fun d K => f29_6206 F d.1.2.1 (K [.lf (.str ByteArray.empty), .lf (.int .i64 1)] [])) o
noncomputable def T29_6206 (F : Nat) : FuncId → Option Summ := tab []
noncomputable def LT29_6206 (F : Nat) : Nat → Option LoopS := ltab []
theorem E29_6206g (F : Nat)    (d : sh29_6206.den) (K : KF) : evBody Tryd.prog (tab []) (xw []) 34 0 (ltab []) [] code29 Tryd.f29.results.toList (encT sh29_6206.vs d.1) (encH sh29_6206.h d.2) K = (fun (a1 : Int) (K0 : (Option Res)) => K0) d.1.2.1 (K [.lf (.str ByteArray.empty), .lf (.int .i64 1)] []) := by kernel_rfl
theorem E29_6206 (F : Nat) (d : sh29_6206.den) (K : KF) : evBody Tryd.prog (T29_6206 F) (xw []) 34 0 (LT29_6206 F) [] code29 Tryd.f29.results.toList (encT sh29_6206.vs d.1) (encH sh29_6206.h d.2) K = f29_6206 F d.1.2.1 (K [.lf (.str ByteArray.empty), .lf (.int .i64 1)] []) := Eq.mp (by kernel_rfl) (E29_6206g F    d K)
theorem S29_6206_ok (F : Nat) (o : Summ) (ho : SoundFn Tryd.prog 29 o) : SoundFn Tryd.prog 29 (S29_6206 F o) :=
  soundFn_of (fn := Tryd.f29) (c := code29) rfl rfl (by kernel_rfl) tab_nil (by kernel_rfl) (by kernel_rfl) ho (by rw [loops29]; exact loopsOK_nil) (by rw [scopes29]; exact scopesOK_nil) (by rw [ranges29]; exact (rangesOK_skip (by kernel_rfl) rangesOK_nil)) (E29_6206 F)
end Go.Proofs.YtlgopekjjkdkiaaDoor.X
end

section
namespace Go.Proofs.YtlgopekjjkdkiaaDoor.X
open Go Go.Proofs.YtlgopekjjkdkiaaDoor.Ev Go.Proofs
set_option linter.unusedVariables false
set_option linter.unusedSectionVars false
/-! cow.Scan -/
noncomputable def f13_3384_l5 {β : Type} (F : Nat) (v2 : Int) (v3 : Int) (v4 : Int) (v5 : Int) (v6 : Int) (v7 : Int) (v8 : Int) (v9 : List (Int × (Int × (Int × ByteArray)))) (K0 : Option β) (K1 : Option β) : Nat → Option β
  | 0 => none
  | k + 1 => cond (decide (v4 < v3)) (f31_1 F v5 v6 v7 v8 0 (IntKind.i64.wrap (2 * v4)) (fun x10 => f29_6206 F x10 (K0) ) ) (K1)
noncomputable def f13_3384 {β : Type} (F : Nat) (a1 : Int) (a2 : Int) (a3 : Int) (a4 : Int) (a5 : Int) (K0 : Int → List (Int × (Int × (Int × ByteArray))) → Option β) : Option β := f27_1 F a1 a2 a3 a4 (fun x1 => cond (!x1) (K0 12 []) (f13_3384_l5 F a5 a3 0 a1 a2 a3 a4 [] (K0 1 []) (K0 0 []) F)) 
variable [FZ]
def sh13_3384 : Sh := ⟨[.lf (.nilp), .agg [.int .i64, .int .i64, .int .i64, .int .i64], .lf (.int .u64)], []⟩
noncomputable def S13_3384 (F : Nat) (o : Summ) : Summ := mkS sh13_3384 (fun d K => f13_3384 F d.1.2.1.1 d.1.2.1.2.1 d.1.2.1.2.2.1 d.1.2.1.2.2.2.1 d.1.2.2.1 (fun (y0 : Int) (y1 : List (Int × (Int × (Int × ByteArray)))) => K [.lf (.full 0), .lf (.int .i64 y0)] [some ⟨false, [.seq (.pair (.int .u64) (.pair (.int .u64) (.pair (.int .i64) .str))) 0 y1]⟩])) o
noncomputable def T13_3384 (F : Nat) : FuncId → Option Summ := tab [(27, (S27_1 F noS)), (29, (S29_6206 F noS)), (31, (S31_1 F noS))]
def sh13_3384_l5 : Sh := ⟨[.lf (.nilp), .lf (.int .u64), .lf (.ptr 0 0), .lf (.full 1), .lf (.int .i64), .lf (.int .i64)], [some ⟨some false, [.int .i64, .int .i64, .int .i64, .int .i64]⟩, some ⟨some false, [.seq (.pair (.int .u64) (.pair (.int .u64) (.pair (.int .i64) .str))) 0]⟩]⟩
noncomputable def G13_3384_5 (F k : Nat) : LoopS := mkG sh13_3384_l5 [0, 2, 4, 8, 19, 20] (outT [(.exit 0, [8]), (.ret, [6, 7])]) (fun d K => f13_3384_l5 F d.1.2.1 d.1.2.2.2.2.1 d.1.2.2.2.2.2.1 d.2.1.2.1 d.2.1.2.2.1 d.2.1.2.2.2.1 d.2.1.2.2.2.2.1 d.2.2.1.2.1 (K .ret [.tv (.lf (.nils (some (.pair (.int .u64) (.pair (.int .u64) (.pair (.int .i64) .str)))))), .tv (.lf (.int .i64 1))] [some ⟨false, [.int .i64 d.2.1.2.1, .int .i64 d.2.1.2.2.1, .int .i64 d.2.1.2.2.2.1, .int .i64 d.2.1.2.2.2.2.1]⟩, some ⟨false, [.seq (.pair (.int .u64) (.pair (.int .u64) (.pair (.int .i64) .str))) 0 d.2.2.1.2.1]⟩]) (K (.exit 0) [.tv (.lf (.full 1))] [some ⟨false, [.int .i64 d.2.1.2.1, .int .i64 d.2.1.2.2.1, .int .i64 d.2.1.2.2.2.1, .int .i64 d.2.1.2.2.2.2.1]⟩, some ⟨false, [.seq (.pair (.int .u64) (.pair (.int .u64) (.pair (.int .i64) .str))) 0 d.2.2.1.2.1]⟩]) k) []
noncomputable def LT13_3384 (F : Nat) : Nat → Option LoopS := ltab [(5, G13_3384_5 F F)]
theorem L13_3384_l5g (F k : Nat) (c27_1 : Int → Int → Int → Int → (Bool → Option Res) → Option Res) (c29_6206 : Int → (Option Res) → Option Res) (c31_1 : Int → Int → Int → Int → Int → Int → (Int → Option Res) → Option Res)  (l5 : Int → Int → Int → Int → Int → Int → Int → List (Int × (Int × (Int × ByteArray))) → (Option Res) → (Option Res) → Nat → Option Res) (X5 : LoopS) (d : sh13_3384_l5.den) (K : KL) : (fun (v2 : Int) (v3 : Int) (v4 : Int) (v5 : Int) (v6 : Int) (v7 : Int) (v8 : Int) (v9 : List (Int × (Int × (Int × ByteArray)))) (K0 : (Option Res)) (K1 : (Option Res)) (k : Nat)  => cond (decide (v4 < v3)) (c31_1 v5 v6 v7 v8 0 (IntKind.i64.wrap (2 * v4)) (fun x10 => c29_6206 x10 (K0) ) ) (K1)) d.1.2.1 d.1.2.2.2.2.1 d.1.2.2.2.2.2.1 d.2.1.2.1 d.2.1.2.2.1 d.2.1.2.2.2.1 d.2.1.2.2.2.2.1 d.2.2.1.2.1 (K .ret [.tv (.lf (.nils (some (.pair (.int .u64) (.pair (.int .u64) (.pair (.int .i64) .str)))))), .tv (.lf (.int .i64 1))] [some ⟨false, [.int .i64 d.2.1.2.1, .int .i64 d.2.1.2.2.1, .int .i64 d.2.1.2.2.2.1, .int .i64 d.2.1.2.2.2.2.1]⟩, some ⟨false, [.seq (.pair (.int .u64) (.pair (.int .u64) (.pair (.int .i64) .str))) 0 d.2.2.1.2.1]⟩]) (K (.exit 0) [.tv (.lf (.full 1))] [some ⟨false, [.int .i64 d.2.1.2.1, .int .i64 d.2.1.2.2.1, .int .i64 d.2.1.2.2.2.1, .int .i64 d.2.1.2.2.2.2.1]⟩, some ⟨false, [.seq (.pair (.int .u64) (.pair (.int .u64) (.pair (.int .i64) .str))) 0 d.2.2.1.2.1]⟩]) k = roundOf Tryd.prog (tab [(27, (mkS sh27_1 (fun d K => c27_1 d.1.1.1 d.1.1.2.1 d.1.1.2.2.1 d.1.1.2.2.2.1 (fun (y0 : Bool) => K [.lf (.bool y0)] [])) noS)), (29, (mkS sh29_6206 (fun d K => c29_6206 d.1.2.1 (K [.lf (.str ByteArray.empty), .lf (.int .i64 1)] [])) noS)), (31, (mkS sh31_1 (fun d K => c31_1 d.1.1.1 d.1.1.2.1 d.1.1.2.2.1 d.1.1.2.2.2.1 d.1.2.1 d.1.2.2.1 (fun (y0 : Int) => K [.lf (.int .i64 y0)] [])) noS))]) (xw []) 93 0 (ltab [(5, X5)]) (mkG sh13_3384_l5 [0, 2, 4, 8, 19, 20] (outT [(.exit 0, [8]), (.ret, [6, 7])]) (fun d K => l5 d.1.2.1 d.1.2.2.2.2.1 d.1.2.2.2.2.2.1 d.2.1.2.1 d.2.1.2.2.1 d.2.1.2.2.2.1 d.2.1.2.2.2.2.1 d.2.2.1.2.1 (K .ret [.tv (.lf (.nils (some (.pair (.int .u64) (.pair (.int .u64) (.pair (.int .i64) .str)))))), .tv (.lf (.int .i64 1))] [some ⟨false, [.int .i64 d.2.1.2.1, .int .i64 d.2.1.2.2.1, .int .i64 d.2.1.2.2.2.1, .int .i64 d.2.1.2.2.2.2.1]⟩, some ⟨false, [.seq (.pair (.int .u64) (.pair (.int .u64) (.pair (.int .i64) .str))) 0 d.2.2.1.2.1]⟩]) (K (.exit 0) [.tv (.lf (.full 1))] [some ⟨false, [.int .i64 d.2.1.2.1, .int .i64 d.2.1.2.2.1, .int .i64 d.2.1.2.2.2.1, .int .i64 d.2.1.2.2.2.2.1]⟩, some ⟨false, [.seq (.pair (.int .u64) (.pair (.int .u64) (.pair (.int .i64) .str))) 0 d.2.2.1.2.1]⟩]) k) []) b13_0 (encT sh13_3384_l5.vs d.1) (encH sh13_3384_l5.h d.2) K := by kernel_rfl
theorem L13_3384_5 (F : Nat) : LoopOK Tryd.prog (T13_3384 F) (xw []) 93 0 (LT13_3384 F) (G13_3384_5 F F) b13_0 :=
  loopOK_of (s := sh13_3384_l5) (live := [0, 2, 4, 8, 19, 20]) (out := (outT [(.exit 0, [8]), (.ret, [6, 7])])) (mv := []) (fun k d K => f13_3384_l5 F d.1.2.1 d.1.2.2.2.2.1 d.1.2.2.2.2.2.1 d.2.1.2.1 d.2.1.2.2.1 d.2.1.2.2.2.1 d.2.1.2.2.2.2.1 d.2.2.1.2.1 (K .ret [.tv (.lf (.nils (some (.pair (.int .u64) (.pair (.int .u64) (.pair (.int .i64) .str)))))), .tv (.lf (.int .i64 1))] [some ⟨false, [.int .i64 d.2.1.2.1, .int .i64 d.2.1.2.2.1, .int .i64 d.2.1.2.2.2.1, .int .i64 d.2.1.2.2.2.2.1]⟩, some ⟨false, [.seq (.pair (.int .u64) (.pair (.int .u64) (.pair (.int .i64) .str))) 0 d.2.2.1.2.1]⟩]) (K (.exit 0) [.tv (.lf (.full 1))] [some ⟨false, [.int .i64 d.2.1.2.1, .int .i64 d.2.1.2.2.1, .int .i64 d.2.1.2.2.2.1, .int .i64 d.2.1.2.2.2.2.1]⟩, some ⟨false, [.seq (.pair (.int .u64) (.pair (.int .u64) (.pair (.int .i64) .str))) 0 d.2.2.1.2.1]⟩]) k) F (fun d K => by kernel_rfl)  (fun k d K => Eq.mp (by kernel_rfl) (L13_3384_l5g F k (f27_1 F) (f29_6206 F) (f31_1 F)  (f13_3384_l5 F) (G13_3384_5 F F) d K))
theorem E13_3384g (F : Nat) (c27_1 : Int → Int → Int → Int → (Bool → Option Res) → Option Res) (c29_6206 : Int → (Option Res) → Option Res) (c31_1 : Int → Int → Int → Int → Int → Int → (Int → Option Res) → Option Res) (l5 : Int → Int → Int → Int → Int → Int → Int → List (Int × (Int × (Int × ByteArray))) → (Option Res) → (Option Res) → Nat → Option Res)  (d : sh13_3384.den) (K : KF) : evBody Tryd.prog (tab [(27, (mkS sh27_1 (fun d K => c27_1 d.1.1.1 d.1.1.2.1 d.1.1.2.2.1 d.1.1.2.2.2.1 (fun (y0 : Bool) => K [.lf (.bool y0)] [])) noS)), (29, (mkS sh29_6206 (fun d K => c29_6206 d.1.2.1 (K [.lf (.str ByteArray.empty), .lf (.int .i64 1)] [])) noS)), (31, (mkS sh31_1 (fun d K => c31_1 d.1.1.1 d.1.1.2.1 d.1.1.2.2.1 d.1.1.2.2.2.1 d.1.2.1 d.1.2.2.1 (fun (y0 : Int) => K [.lf (.int .i64 y0)] [])) noS))]) (xw []) 93 0 (ltab [(5, mkG sh13_3384_l5 [0, 2, 4, 8, 19, 20] (outT [(.exit 0, [8]), (.ret, [6, 7])]) (fun d K => l5 d.1.2.1 d.1.2.2.2.2.1 d.1.2.2.2.2.2.1 d.2.1.2.1 d.2.1.2.2.1 d.2.1.2.2.2.1 d.2.1.2.2.2.2.1 d.2.2.1.2.1 (K .ret [.tv (.lf (.nils (some (.pair (.int .u64) (.pair (.int .u64) (.pair (.int .i64) .str)))))), .tv (.lf (.int .i64 1))] [some ⟨false, [.int .i64 d.2.1.2.1, .int .i64 d.2.1.2.2.1, .int .i64 d.2.1.2.2.2.1, .int .i64 d.2.1.2.2.2.2.1]⟩, some ⟨false, [.seq (.pair (.int .u64) (.pair (.int .u64) (.pair (.int .i64) .str))) 0 d.2.2.1.2.1]⟩]) (K (.exit 0) [.tv (.lf (.full 1))] [some ⟨false, [.int .i64 d.2.1.2.1, .int .i64 d.2.1.2.2.1, .int .i64 d.2.1.2.2.2.1, .int .i64 d.2.1.2.2.2.2.1]⟩, some ⟨false, [.seq (.pair (.int .u64) (.pair (.int .u64) (.pair (.int .i64) .str))) 0 d.2.2.1.2.1]⟩]) F) [])]) [] code13 Tryd.f13.results.toList (encT sh13_3384.vs d.1) (encH sh13_3384.h d.2) K = (fun (a1 : Int) (a2 : Int) (a3 : Int) (a4 : Int) (a5 : Int) (K0 : (Int → List (Int × (Int × (Int × ByteArray))) → Option Res)) => c27_1 a1 a2 a3 a4 (fun x1 => cond (!x1) (K0 12 []) (l5 a5 a3 0 a1 a2 a3 a4 [] (K0 1 []) (K0 0 []) F)) ) d.1.2.1.1 d.1.2.1.2.1 d.1.2.1.2.2.1 d.1.2.1.2.2.2.1 d.1.2.2.1 (fun (y0 : Int) (y1 : List (Int × (Int × (Int × ByteArray)))) => K [.lf (.full 0), .lf (.int .i64 y0)] [some ⟨false, [.seq (.pair (.int .u64) (.pair (.int .u64) (.pair (.int .i64) .str))) 0 y1]⟩]) := by kernel_rfl
theorem E13_3384 (F : Nat) (d : sh13_3384.den) (K : KF) : evBody Tryd.prog (T13_3384 F) (xw []) 93 0 (LT13_3384 F) [] code13 Tryd.f13.results.toList (encT sh13_3384.vs d.1) (encH sh13_3384.h d.2) K = f13_3384 F d.1.2.1.1 d.1.2.1.2.1 d.1.2.1.2.2.1 d.1.2.1.2.2.2.1 d.1.2.2.1 (fun (y0 : Int) (y1 : List (Int × (Int × (Int × ByteArray)))) => K [.lf (.full 0), .lf (.int .i64 y0)] [some ⟨false, [.seq (.pair (.int .u64) (.pair (.int .u64) (.pair (.int .i64) .str))) 0 y1]⟩]) := Eq.mp (by kernel_rfl) (E13_3384g F (f27_1 F) (f29_6206 F) (f31_1 F) (f13_3384_l5 F)  d K)
theorem S13_3384_ok (F : Nat) (o : Summ) (ho : SoundFn Tryd.prog 13 o) : SoundFn Tryd.prog 13 (S13_3384 F o) :=
  soundFn_of (fn := Tryd.f13) (c := code13) rfl rfl (by kernel_rfl) (tab_cons (S27_1_ok F _ (noS_sound enter27)) (tab_cons (S29_6206_ok F _ (noS_sound enter29)) (tab_cons (S31_1_ok F _ (noS_sound enter31)) tab_nil))) (by kernel_rfl) (by kernel_rfl) ho (by rw [loops13]; exact (loopsOK_cons (by kernel_rfl) (L13_3384_5 F) loopsOK_nil)) (by rw [scopes13]; exact (scopesOK_skip (fun i hi => by cases hi; kernel_rfl) scopesOK_nil)) (by rw [ranges13]; exact rangesOK_nil) (E13_3384 F)
end Go.Proofs.YtlgopekjjkdkiaaDoor.X
end

section
namespace Go.Proofs.YtlgopekjjkdkiaaDoor.X
open Go Go.Proofs.YtlgopekjjkdkiaaDoor.Ev Go.Proofs
set_option linter.unusedVariables false
set_option linter.unusedSectionVars false
/-! pentimentoref15.Entries -/
noncomputable def f14_1_l4 {β : Type} (F : Nat) (v2 : List (Int × (Int × (Int × ByteArray)))) (v3 : List (Int × (Int × (Int × ByteArray)))) (K0 : Option β) (K1 : Option β) : Nat → Int → Option β
  | 0, _ => none
  | k + 1, v1 => cond (decide (v1 < ((v2.length : Nat) : Int))) (cond (decide ((0 : Int) ≤ v1 ∧ v1 < ((v2.length : Nat) : Int))) (cond (decide (0 + v1.toNat < v2.length)) (cond (decide ((0 : Int) ≤ v1 ∧ v1 < ((v3.length : Nat) : Int))) (cond (decide (0 + v1.toNat < v3.length)) (cond (!((((v2.getD (0 + v1.toNat) (0, (0, (0, ByteArray.empty)))).1) == ((v3.getD (0 + v1.toNat) (0, (0, (0, ByteArray.empty)))).1)) && (((((v2.getD (0 + v1.toNat) (0, (0, (0, ByteArray.empty)))).2).1) == (((v3.getD (0 + v1.toNat) (0, (0, (0, ByteArray.empty)))).2).1)) && ((((((v2.getD (0 + v1.toNat) (0, (0, (0, ByteArray.empty)))).2).2).1) == ((((v3.getD (0 + v1.toNat) (0, (0, (0, ByteArray.empty)))).2).2).1)) && (((((v2.getD (0 + v1.toNat) (0, (0, (0, ByteArray.empty)))).2).2).2).toList == ((((v3.getD (0 + v1.toNat) (0, (0, (0, ByteArray.empty)))).2).2).2).toList))))) (K0) (f14_1_l4 F v2 v3 K0 K1 k (IntKind.i64.wrap (v1 + 1)))) none) none) none) none) (K1)
noncomputable def f14_1 {β : Type} (F : Nat) (a1 : List (Int × (Int × (Int × ByteArray)))) (a2 : List (Int × (Int × (Int × ByteArray)))) (K0 : Bool → Option β) : Option β := cond (((a1.length : Nat) : Int) != ((a2.length : Nat) : Int)) (K0 false) (f14_1_l4 F a1 a2 (K0 false) (K0 true) F 0)
variable [FZ]
def sh14_1 : Sh := ⟨[.lf (.full 0), .lf (.full 1)], [some ⟨none, [.seq (.pair (.int .u64) (.pair (.int .u64) (.pair (.int .i64) .str))) 0]⟩, some ⟨none, [.seq (.pair (.int .u64) (.pair (.int .u64) (.pair (.int .i64) .str))) 0]⟩]⟩
noncomputable def S14_1 (F : Nat) (o : Summ) : Summ := mkS sh14_1 (fun d K => f14_1 F d.2.1.2.1 d.2.2.1.2.1 (fun (y0 : Bool) => K [.lf (.bool y0)] [some ⟨d.2.1.1, [.seq (.pair (.int .u64) (.pair (.int .u64) (.pair (.int .i64) .str))) 0 d.2.1.2.1]⟩, some ⟨d.2.2.1.1, [.seq (.pair (.int .u64) (.pair (.int .u64) (.pair (.int .i64) .str))) 0 d.2.2.1.2.1]⟩])) o
noncomputable def code14 : Code := bodyOf Tryd.f14
noncomputable def b14_0 : Code := cB (cB (cR (cL (cR (cR (code14))))))
theorem scopes14 : scopesOf code14 = [] := by kernel_rfl
theorem ranges14 : rangesOf code14 = [] := by kernel_rfl
theorem loops14 : loopsOf code14 = [b14_0] := by kernel_rfl
theorem enter14 : ∀ args w, (callFunc 14 args).run Tryd.prog w = .ok (.enter 14 args) w := enter_of (fn := Tryd.f14) (by kernel_rfl) (by kernel_rfl) (by kernel_rfl)
noncomputable def T14_1 (F : Nat) : FuncId → Option Summ := tab []
def sh14_1_l4 : Sh := ⟨[.lf (.full 0), .lf (.full 1), .lf (.int .i64)], [some ⟨none, [.seq (.pair (.int .u64) (.pair (.int .u64) (.pair (.int .i64) .str))) 0]⟩, some ⟨none, [.seq (.pair (.int .u64) (.pair (.int .u64) (.pair (.int .i64) .str))) 0]⟩]⟩
noncomputable def G14_1_4 (F k : Nat) : LoopS := mkG sh14_1_l4 [0, 1, 5] (outT [(.exit 0, []), (.ret, [4])]) (fun d K => f14_1_l4 F d.2.1.2.1 d.2.2.1.2.1 (K .ret [.tv (.lf (.bool false))] [some ⟨d.2.1.1, [.seq (.pair (.int .u64) (.pair (.int .u64) (.pair (.int .i64) .str))) 0 d.2.1.2.1]⟩, some ⟨d.2.2.1.1, [.seq (.pair (.int .u64) (.pair (.int .u64) (.pair (.int .i64) .str))) 0 d.2.2.1.2.1]⟩]) (K (.exit 0) [] [some ⟨d.2.1.1, [.seq (.pair (.int .u64) (.pair (.int .u64) (.pair (.int .i64) .str))) 0 d.2.1.2.1]⟩, some ⟨d.2.2.1.1, [.seq (.pair (.int .u64) (.pair (.int .u64) (.pair (.int .i64) .str))) 0 d.2.2.1.2.1]⟩]) k d.1.2.2.1) []
noncomputable def LT14_1 (F : Nat) : Nat → Option LoopS := ltab [(4, G14_1_4 F F)]
theorem L14_1_l4g (F k : Nat)   (l4 : List (Int × (Int × (Int × ByteArray))) → List (Int × (Int × (Int × ByteArray))) → (Option Res) → (Option Res) → Nat → Int → Option Res) (X4 : LoopS) (d : sh14_1_l4.den) (K : KL) : (fun (v2 : List (Int × (Int × (Int × ByteArray)))) (v3 : List (Int × (Int × (Int × ByteArray)))) (K0 : (Option Res)) (K1 : (Option Res)) (k : Nat) (v1 : Int) => cond (decide (v1 < ((v2.length : Nat) : Int))) (cond (decide ((0 : Int) ≤ v1 ∧ v1 < ((v2.length : Nat) : Int))) (cond (decide (0 + v1.toNat < v2.length)) (cond (decide ((0 : Int) ≤ v1 ∧ v1 < ((v3.length : Nat) : Int))) (cond (decide (0 + v1.toNat < v3.length)) (cond (!((((v2.getD (0 + v1.toNat) (0, (0, (0, ByteArray.empty)))).1) == ((v3.getD (0 + v1.toNat) (0, (0, (0, ByteArray.empty)))).1)) && (((((v2.getD (0 + v1.toNat) (0, (0, (0, ByteArray.empty)))).2).1) == (((v3.getD (0 + v1.toNat) (0, (0, (0, ByteArray.empty)))).2).1)) && ((((((v2.getD (0 + v1.toNat) (0, (0, (0, ByteArray.empty)))).2).2).1) == ((((v3.getD (0 + v1.toNat) (0, (0, (0, ByteArray.empty)))).2).2).1)) && (((((v2.getD (0 + v1.toNat) (0, (0, (0, ByteArray.empty)))).2).2).2).toList == ((((v3.getD (0 + v1.toNat) (0, (0, (0, ByteArray.empty)))).2).2).2).toList))))) (K0) (l4 v2 v3 K0 K1 k (IntKind.i64.wrap (v1 + 1)))) none) none) none) none) (K1)) d.2.1.2.1 d.2.2.1.2.1 (K .ret [.tv (.lf (.bool false))] [some ⟨d.2.1.1, [.seq (.pair (.int .u64) (.pair (.int .u64) (.pair (.int .i64) .str))) 0 d.2.1.2.1]⟩, some ⟨d.2.2.1.1, [.seq (.pair (.int .u64) (.pair (.int .u64) (.pair (.int .i64) .str))) 0 d.2.2.1.2.1]⟩]) (K (.exit 0) [] [some ⟨d.2.1.1, [.seq (.pair (.int .u64) (.pair (.int .u64) (.pair (.int .i64) .str))) 0 d.2.1.2.1]⟩, some ⟨d.2.2.1.1, [.seq (.pair (.int .u64) (.pair (.int .u64) (.pair (.int .i64) .str))) 0 d.2.2.1.2.1]⟩]) k d.1.2.2.1 = roundOf Tryd.prog (tab []) (xw []) 26 2 (ltab [(4, X4)]) (mkG sh14_1_l4 [0, 1, 5] (outT [(.exit 0, []), (.ret, [4])]) (fun d K => l4 d.2.1.2.1 d.2.2.1.2.1 (K .ret [.tv (.lf (.bool false))] [some ⟨d.2.1.1, [.seq (.pair (.int .u64) (.pair (.int .u64) (.pair (.int .i64) .str))) 0 d.2.1.2.1]⟩, some ⟨d.2.2.1.1, [.seq (.pair (.int .u64) (.pair (.int .u64) (.pair (.int .i64) .str))) 0 d.2.2.1.2.1]⟩]) (K (.exit 0) [] [some ⟨d.2.1.1, [.seq (.pair (.int .u64) (.pair (.int .u64) (.pair (.int .i64) .str))) 0 d.2.1.2.1]⟩, some ⟨d.2.2.1.1, [.seq (.pair (.int .u64) (.pair (.int .u64) (.pair (.int .i64) .str))) 0 d.2.2.1.2.1]⟩]) k d.1.2.2.1) []) b14_0 (encT sh14_1_l4.vs d.1) (encH sh14_1_l4.h d.2) K := by kernel_rfl
theorem L14_1_4 (F : Nat) : LoopOK Tryd.prog (T14_1 F) (xw []) 26 2 (LT14_1 F) (G14_1_4 F F) b14_0 :=
  loopOK_of (s := sh14_1_l4) (live := [0, 1, 5]) (out := (outT [(.exit 0, []), (.ret, [4])])) (mv := []) (fun k d K => f14_1_l4 F d.2.1.2.1 d.2.2.1.2.1 (K .ret [.tv (.lf (.bool false))] [some ⟨d.2.1.1, [.seq (.pair (.int .u64) (.pair (.int .u64) (.pair (.int .i64) .str))) 0 d.2.1.2.1]⟩, some ⟨d.2.2.1.1, [.seq (.pair (.int .u64) (.pair (.int .u64) (.pair (.int .i64) .str))) 0 d.2.2.1.2.1]⟩]) (K (.exit 0) [] [some ⟨d.2.1.1, [.seq (.pair (.int .u64) (.pair (.int .u64) (.pair (.int .i64) .str))) 0 d.2.1.2.1]⟩, some ⟨d.2.2.1.1, [.seq (.pair (.int .u64) (.pair (.int .u64) (.pair (.int .i64) .str))) 0 d.2.2.1.2.1]⟩]) k d.1.2.2.1) F (fun d K => by kernel_rfl)  (fun k d K => Eq.mp (by kernel_rfl) (L14_1_l4g F k   (f14_1_l4 F) (G14_1_4 F F) d K))
theorem E14_1g (F : Nat)  (l4 : List (Int × (Int × (Int × ByteArray))) → List (Int × (Int × (Int × ByteArray))) → (Option Res) → (Option Res) → Nat → Int → Option Res)  (d : sh14_1.den) (K : KF) : evBody Tryd.prog (tab []) (xw []) 26 2 (ltab [(4, mkG sh14_1_l4 [0, 1, 5] (outT [(.exit 0, []), (.ret, [4])]) (fun d K => l4 d.2.1.2.1 d.2.2.1.2.1 (K .ret [.tv (.lf (.bool false))] [some ⟨d.2.1.1, [.seq (.pair (.int .u64) (.pair (.int .u64) (.pair (.int .i64) .str))) 0 d.2.1.2.1]⟩, some ⟨d.2.2.1.1, [.seq (.pair (.int .u64) (.pair (.int .u64) (.pair (.int .i64) .str))) 0 d.2.2.1.2.1]⟩]) (K (.exit 0) [] [some ⟨d.2.1.1, [.seq (.pair (.int .u64) (.pair (.int .u64) (.pair (.int .i64) .str))) 0 d.2.1.2.1]⟩, some ⟨d.2.2.1.1, [.seq (.pair (.int .u64) (.pair (.int .u64) (.pair (.int .i64) .str))) 0 d.2.2.1.2.1]⟩]) F d.1.2.2.1) [])]) [] code14 Tryd.f14.results.toList (encT sh14_1.vs d.1) (encH sh14_1.h d.2) K = (fun (a1 : List (Int × (Int × (Int × ByteArray)))) (a2 : List (Int × (Int × (Int × ByteArray)))) (K0 : (Bool → Option Res)) => cond (((a1.length : Nat) : Int) != ((a2.length : Nat) : Int)) (K0 false) (l4 a1 a2 (K0 false) (K0 true) F 0)) d.2.1.2.1 d.2.2.1.2.1 (fun (y0 : Bool) => K [.lf (.bool y0)] [some ⟨d.2.1.1, [.seq (.pair (.int .u64) (.pair (.int .u64) (.pair (.int .i64) .str))) 0 d.2.1.2.1]⟩, some ⟨d.2.2.1.1, [.seq (.pair (.int .u64) (.pair (.int .u64) (.pair (.int .i64) .str))) 0 d.2.2.1.2.1]⟩]) := by kernel_rfl
theorem E14_1 (F : Nat) (d : sh14_1.den) (K : KF) : evBody Tryd.prog (T14_1 F) (xw []) 26 2 (LT14_1 F) [] code14 Tryd.f14.results.toList (encT sh14_1.vs d.1) (encH sh14_1.h d.2) K = f14_1 F d.2.1.2.1 d.2.2.1.2.1 (fun (y0 : Bool) => K [.lf (.bool y0)] [some ⟨d.2.1.1, [.seq (.pair (.int .u64) (.pair (.int .u64) (.pair (.int .i64) .str))) 0 d.2.1.2.1]⟩, some ⟨d.2.2.1.1, [.seq (.pair (.int .u64) (.pair (.int .u64) (.pair (.int .i64) .str))) 0 d.2.2.1.2.1]⟩]) := Eq.mp (by kernel_rfl) (E14_1g F  (f14_1_l4 F)  d K)
theorem S14_1_ok (F : Nat) (o : Summ) (ho : SoundFn Tryd.prog 14 o) : SoundFn Tryd.prog 14 (S14_1 F o) :=
  soundFn_of (fn := Tryd.f14) (c := code14) rfl rfl (by kernel_rfl) tab_nil (by kernel_rfl) (by kernel_rfl) ho (by rw [loops14]; exact (loopsOK_cons (by kernel_rfl) (L14_1_4 F) loopsOK_nil)) (by rw [scopes14]; exact scopesOK_nil) (by rw [ranges14]; exact rangesOK_nil) (E14_1 F)
end Go.Proofs.YtlgopekjjkdkiaaDoor.X
end

section
namespace Go.Proofs.YtlgopekjjkdkiaaDoor.X
open Go Go.Proofs.YtlgopekjjkdkiaaDoor.Ev Go.Proofs
set_option linter.unusedVariables false
set_option linter.unusedSectionVars false
/-! pentimentoref07.Right -/
noncomputable def f5_1 {β : Type} (F : Nat) (a1 : Int) (a2 : Int) (a3 : Int) (a4 : Int) (K0 : Bool → Option β) : Option β := cond (decide (a1 ≥ 1)) (cond (decide (a1 ≤ 128)) (cond (decide (a2 ≥ 2)) (cond (decide (a2 ≤ 4)) (cond (decide (a3 ≥ 0)) (cond (decide (a3 ≤ 64)) (cond (decide (a4 ≥ 1)) (K0 (decide (a4 ≤ 320))) (K0 false)) (K0 false)) (K0 false)) (K0 false)) (K0 false)) (K0 false)) (K0 false)
variable [FZ]
def sh5_1 : Sh := ⟨[.agg [.int .i64, .int .i64, .int .i64, .int .i64]], []⟩
noncomputable def S5_1 (F : Nat) (o : Summ) : Summ := mkS sh5_1 (fun d K => f5_1 F d.1.1.1 d.1.1.2.1 d.1.1.2.2.1 d.1.1.2.2.2.1 (fun (y0 : Bool) => K [.lf (.bool y0)] [])) o
noncomputable def code5 : Code := bodyOf Tryd.f5
theorem scopes5 : scopesOf code5 = [] := by kernel_rfl
theorem ranges5 : rangesOf code5 = [] := by kernel_rfl
theorem loops5 : loopsOf code5 = [] := by kernel_rfl
theorem enter5 : ∀ args w, (callFunc 5 args).run Tryd.prog w = .ok (.enter 5 args) w := enter_of (fn := Tryd.f5) (by kernel_rfl) (by kernel_rfl) (by kernel_rfl)
noncomputable def T5_1 (F : Nat) : FuncId → Option Summ := tab []
noncomputable def LT5_1 (F : Nat) : Nat → Option LoopS := ltab []
theorem E5_1g (F : Nat)    (d : sh5_1.den) (K : KF) : evBody Tryd.prog (tab []) (xw []) 41 0 (ltab []) [] code5 Tryd.f5.results.toList (encT sh5_1.vs d.1) (encH sh5_1.h d.2) K = (fun (a1 : Int) (a2 : Int) (a3 : Int) (a4 : Int) (K0 : (Bool → Option Res)) => cond (decide (a1 ≥ 1)) (cond (decide (a1 ≤ 128)) (cond (decide (a2 ≥ 2)) (cond (decide (a2 ≤ 4)) (cond (decide (a3 ≥ 0)) (cond (decide (a3 ≤ 64)) (cond (decide (a4 ≥ 1)) (K0 (decide (a4 ≤ 320))) (K0 false)) (K0 false)) (K0 false)) (K0 false)) (K0 false)) (K0 false)) (K0 false)) d.1.1.1 d.1.1.2.1 d.1.1.2.2.1 d.1.1.2.2.2.1 (fun (y0 : Bool) => K [.lf (.bool y0)] []) := by kernel_rfl
theorem E5_1 (F : Nat) (d : sh5_1.den) (K : KF) : evBody Tryd.prog (T5_1 F) (xw []) 41 0 (LT5_1 F) [] code5 Tryd.f5.results.toList (encT sh5_1.vs d.1) (encH sh5_1.h d.2) K = f5_1 F d.1.1.1 d.1.1.2.1 d.1.1.2.2.1 d.1.1.2.2.2.1 (fun (y0 : Bool) => K [.lf (.bool y0)] []) := Eq.mp (by kernel_rfl) (E5_1g F    d K)
theorem S5_1_ok (F : Nat) (o : Summ) (ho : SoundFn Tryd.prog 5 o) : SoundFn Tryd.prog 5 (S5_1 F o) :=
  soundFn_of (fn := Tryd.f5) (c := code5) rfl rfl (by kernel_rfl) tab_nil (by kernel_rfl) (by kernel_rfl) ho (by rw [loops5]; exact loopsOK_nil) (by rw [scopes5]; exact scopesOK_nil) (by rw [ranges5]; exact rangesOK_nil) (E5_1 F)
end Go.Proofs.YtlgopekjjkdkiaaDoor.X
end

section
namespace Go.Proofs.YtlgopekjjkdkiaaDoor.X
open Go Go.Proofs.YtlgopekjjkdkiaaDoor.Ev Go.Proofs
set_option linter.unusedVariables false
set_option linter.unusedSectionVars false
/-! cow.Find -/
noncomputable def f20_1_l2 {β : Type} (F : Nat) (v1 : Int) (v2 : Int) (v4 : List (Int × (Int × (Int × ByteArray)))) (K0 : ByteArray → Int → Int → Int → ByteArray → Option β) (K1 : Option β) : Nat → Int → Option β
  | 0, _ => none
  | k + 1, v3 => cond (decide (v3 < v2)) (cond (decide ((0 : Int) ≤ v3 ∧ v3 < ((v4.length : Nat) : Int))) (cond (decide (0 + v3.toNat < v4.length)) (cond (((((v4.getD (0 + v3.toNat) (0, (0, (0, ByteArray.empty)))).2).2).1) == v1) (K0 ((((v4.getD (0 + v3.toNat) (0, (0, (0, ByteArray.empty)))).2).2).2) ((v4.getD (0 + v3.toNat) (0, (0, (0, ByteArray.empty)))).1) (((v4.getD (0 + v3.toNat) (0, (0, (0, ByteArray.empty)))).2).1) ((((v4.getD (0 + v3.toNat) (0, (0, (0, ByteArray.empty)))).2).2).1) ((((v4.getD (0 + v3.toNat) (0, (0, (0, ByteArray.empty)))).2).2).2)) (f20_1_l2 F v1 v2 v4 K0 K1 k (IntKind.i64.wrap (v3 + 1)))) none) none) (K1)
noncomputable def f20_1 {β : Type} (F : Nat) (a1 : Int) (a2 : List (Int × (Int × (Int × ByteArray)))) (K0 : ByteArray → Bool → Option β) : Option β := f20_1_l2 F a1 ((a2.length : Nat) : Int) a2 (fun x5 x6 x7 x8 x9 => K0 x5 true) (K0 ByteArray.empty false) F 0
variable [FZ]
def sh20_1 : Sh := ⟨[.lf (.full 0), .lf (.int .i64)], [some ⟨none, [.seq (.pair (.int .u64) (.pair (.int .u64) (.pair (.int .i64) .str))) 0]⟩]⟩
noncomputable def S20_1 (F : Nat) (o : Summ) : Summ := mkS sh20_1 (fun d K => f20_1 F d.1.2.1 d.2.1.2.1 (fun (y0 : ByteArray) (y1 : Bool) => K [.lf (.str y0), .lf (.bool y1)] [some ⟨d.2.1.1, [.seq (.pair (.int .u64) (.pair (.int .u64) (.pair (.int .i64) .str))) 0 d.2.1.2.1]⟩])) o
noncomputable def code20 : Code := bodyOf Tryd.f20
noncomputable def b20_0 : Code := cB (cB (cR (cL (cR (code20)))))
theorem scopes20 : scopesOf code20 = [] := by kernel_rfl
theorem ranges20 : rangesOf code20 = [] := by kernel_rfl
theorem loops20 : loopsOf code20 = [b20_0] := by kernel_rfl
theorem enter20 : ∀ args w, (callFunc 20 args).run Tryd.prog w = .ok (.enter 20 args) w := enter_of (fn := Tryd.f20) (by kernel_rfl) (by kernel_rfl) (by kernel_rfl)
noncomputable def T20_1 (F : Nat) : FuncId → Option Summ := tab []
def sh20_1_l2 : Sh := ⟨[.lf (.int .i64), .lf (.full 0), .lf (.int .i64), .lf (.int .i64)], [some ⟨none, [.seq (.pair (.int .u64) (.pair (.int .u64) (.pair (.int .i64) .str))) 0]⟩]⟩
noncomputable def G20_1_2 (F k : Nat) : LoopS := mkG sh20_1_l2 [1, 8, 9, 10] (outT [(.exit 0, []), (.ret, [4, 5])]) (fun d K => f20_1_l2 F d.1.1 d.1.2.2.1 d.2.1.2.1 (fun (y0 : ByteArray) (y3 : Int) (y4 : Int) (y5 : Int) (y6 : ByteArray) => K .ret [.tv (.lf (.str y0)), .tv (.lf (.bool true))] [some ⟨d.2.1.1, [.seq (.pair (.int .u64) (.pair (.int .u64) (.pair (.int .i64) .str))) 0 d.2.1.2.1]⟩, some ⟨false, [.int .u64 y3, .int .u64 y4, .int .i64 y5, .str y6]⟩]) (K (.exit 0) [] [some ⟨d.2.1.1, [.seq (.pair (.int .u64) (.pair (.int .u64) (.pair (.int .i64) .str))) 0 d.2.1.2.1]⟩]) k d.1.2.2.2.1) []
noncomputable def LT20_1 (F : Nat) : Nat → Option LoopS := ltab [(2, G20_1_2 F F)]
theorem L20_1_l2g (F k : Nat)   (l2 : Int → Int → List (Int × (Int × (Int × ByteArray))) → (ByteArray → Int → Int → Int → ByteArray → Option Res) → (Option Res) → Nat → Int → Option Res) (X2 : LoopS) (d : sh20_1_l2.den) (K : KL) : (fun (v1 : Int) (v2 : Int) (v4 : List (Int × (Int × (Int × ByteArray)))) (K0 : (ByteArray → Int → Int → Int → ByteArray → Option Res)) (K1 : (Option Res)) (k : Nat) (v3 : Int) => cond (decide (v3 < v2)) (cond (decide ((0 : Int) ≤ v3 ∧ v3 < ((v4.length : Nat) : Int))) (cond (decide (0 + v3.toNat < v4.length)) (cond (((((v4.getD (0 + v3.toNat) (0, (0, (0, ByteArray.empty)))).2).2).1) == v1) (K0 ((((v4.getD (0 + v3.toNat) (0, (0, (0, ByteArray.empty)))).2).2).2) ((v4.getD (0 + v3.toNat) (0, (0, (0, ByteArray.empty)))).1) (((v4.getD (0 + v3.toNat) (0, (0, (0, ByteArray.empty)))).2).1) ((((v4.getD (0 + v3.toNat) (0, (0, (0, ByteArray.empty)))).2).2).1) ((((v4.getD (0 + v3.toNat) (0, (0, (0, ByteArray.empty)))).2).2).2)) (l2 v1 v2 v4 K0 K1 k (IntKind.i64.wrap (v3 + 1)))) none) none) (K1)) d.1.1 d.1.2.2.1 d.2.1.2.1 (fun (y0 : ByteArray) (y3 : Int) (y4 : Int) (y5 : Int) (y6 : ByteArray) => K .ret [.tv (.lf (.str y0)), .tv (.lf (.bool true))] [some ⟨d.2.1.1, [.seq (.pair (.int .u64) (.pair (.int .u64) (.pair (.int .i64) .str))) 0 d.2.1.2.1]⟩, some ⟨false, [.int .u64 y3, .int .u64 y4, .int .i64 y5, .str y6]⟩]) (K (.exit 0) [] [some ⟨d.2.1.1, [.seq (.pair (.int .u64) (.pair (.int .u64) (.pair (.int .i64) .str))) 0 d.2.1.2.1]⟩]) k d.1.2.2.2.1 = roundOf Tryd.prog (tab []) (xw []) 21 1 (ltab [(2, X2)]) (mkG sh20_1_l2 [1, 8, 9, 10] (outT [(.exit 0, []), (.ret, [4, 5])]) (fun d K => l2 d.1.1 d.1.2.2.1 d.2.1.2.1 (fun (y0 : ByteArray) (y3 : Int) (y4 : Int) (y5 : Int) (y6 : ByteArray) => K .ret [.tv (.lf (.str y0)), .tv (.lf (.bool true))] [some ⟨d.2.1.1, [.seq (.pair (.int .u64) (.pair (.int .u64) (.pair (.int .i64) .str))) 0 d.2.1.2.1]⟩, some ⟨false, [.int .u64 y3, .int .u64 y4, .int .i64 y5, .str y6]⟩]) (K (.exit 0) [] [some ⟨d.2.1.1, [.seq (.pair (.int .u64) (.pair (.int .u64) (.pair (.int .i64) .str))) 0 d.2.1.2.1]⟩]) k d.1.2.2.2.1) []) b20_0 (encT sh20_1_l2.vs d.1) (encH sh20_1_l2.h d.2) K := by kernel_rfl
theorem L20_1_2 (F : Nat) : LoopOK Tryd.prog (T20_1 F) (xw []) 21 1 (LT20_1 F) (G20_1_2 F F) b20_0 :=
  loopOK_of (s := sh20_1_l2) (live := [1, 8, 9, 10]) (out := (outT [(.exit 0, []), (.ret, [4, 5])])) (mv := []) (fun k d K => f20_1_l2 F d.1.1 d.1.2.2.1 d.2.1.2.1 (fun (y0 : ByteArray) (y3 : Int) (y4 : Int) (y5 : Int) (y6 : ByteArray) => K .ret [.tv (.lf (.str y0)), .tv (.lf (.bool true))] [some ⟨d.2.1.1, [.seq (.pair (.int .u64) (.pair (.int .u64) (.pair (.int .i64) .str))) 0 d.2.1.2.1]⟩, some ⟨false, [.int .u64 y3, .int .u64 y4, .int .i64 y5, .str y6]⟩]) (K (.exit 0) [] [some ⟨d.2.1.1, [.seq (.pair (.int .u64) (.pair (.int .u64) (.pair (.int .i64) .str))) 0 d.2.1.2.1]⟩]) k d.1.2.2.2.1) F (fun d K => by kernel_rfl)  (fun k d K => Eq.mp (by kernel_rfl) (L20_1_l2g F k   (f20_1_l2 F) (G20_1_2 F F) d K))
theorem E20_1g (F : Nat)  (l2 : Int → Int → List (Int × (Int × (Int × ByteArray))) → (ByteArray → Int → Int → Int → ByteArray → Option Res) → (Option Res) → Nat → Int → Option Res)  (d : sh20_1.den) (K : KF) : evBody Tryd.prog (tab []) (xw []) 21 1 (ltab [(2, mkG sh20_1_l2 [1, 8, 9, 10] (outT [(.exit 0, []), (.ret, [4, 5])]) (fun d K => l2 d.1.1 d.1.2.2.1 d.2.1.2.1 (fun (y0 : ByteArray) (y3 : Int) (y4 : Int) (y5 : Int) (y6 : ByteArray) => K .ret [.tv (.lf (.str y0)), .tv (.lf (.bool true))] [some ⟨d.2.1.1, [.seq (.pair (.int .u64) (.pair (.int .u64) (.pair (.int .i64) .str))) 0 d.2.1.2.1]⟩, some ⟨false, [.int .u64 y3, .int .u64 y4, .int .i64 y5, .str y6]⟩]) (K (.exit 0) [] [some ⟨d.2.1.1, [.seq (.pair (.int .u64) (.pair (.int .u64) (.pair (.int .i64) .str))) 0 d.2.1.2.1]⟩]) F d.1.2.2.2.1) [])]) [] code20 Tryd.f20.results.toList (encT sh20_1.vs d.1) (encH sh20_1.h d.2) K = (fun (a1 : Int) (a2 : List (Int × (Int × (Int × ByteArray)))) (K0 : (ByteArray → Bool → Option Res)) => l2 a1 ((a2.length : Nat) : Int) a2 (fun x5 x6 x7 x8 x9 => K0 x5 true) (K0 ByteArray.empty false) F 0) d.1.2.1 d.2.1.2.1 (fun (y0 : ByteArray) (y1 : Bool) => K [.lf (.str y0), .lf (.bool y1)] [some ⟨d.2.1.1, [.seq (.pair (.int .u64) (.pair (.int .u64) (.pair (.int .i64) .str))) 0 d.2.1.2.1]⟩]) := by kernel_rfl
theorem E20_1 (F : Nat) (d : sh20_1.den) (K : KF) : evBody Tryd.prog (T20_1 F) (xw []) 21 1 (LT20_1 F) [] code20 Tryd.f20.results.toList (encT sh20_1.vs d.1) (encH sh20_1.h d.2) K = f20_1 F d.1.2.1 d.2.1.2.1 (fun (y0 : ByteArray) (y1 : Bool) => K [.lf (.str y0), .lf (.bool y1)] [some ⟨d.2.1.1, [.seq (.pair (.int .u64) (.pair (.int .u64) (.pair (.int .i64) .str))) 0 d.2.1.2.1]⟩]) := Eq.mp (by kernel_rfl) (E20_1g F  (f20_1_l2 F)  d K)
theorem S20_1_ok (F : Nat) (o : Summ) (ho : SoundFn Tryd.prog 20 o) : SoundFn Tryd.prog 20 (S20_1 F o) :=
  soundFn_of (fn := Tryd.f20) (c := code20) rfl rfl (by kernel_rfl) tab_nil (by kernel_rfl) (by kernel_rfl) ho (by rw [loops20]; exact (loopsOK_cons (by kernel_rfl) (L20_1_2 F) loopsOK_nil)) (by rw [scopes20]; exact scopesOK_nil) (by rw [ranges20]; exact rangesOK_nil) (E20_1 F)
end Go.Proofs.YtlgopekjjkdkiaaDoor.X
end

section
namespace Go.Proofs.YtlgopekjjkdkiaaDoor.X
open Go Go.Proofs.YtlgopekjjkdkiaaDoor.Ev Go.Proofs
set_option linter.unusedVariables false
set_option linter.unusedSectionVars false
/-! pentimentoref05.Fill -/
noncomputable def f41_1_l3 {β : Type} (F : Nat) (v1 : Int) (K0 : List Int → Option β) : Nat → Int → List Int → Option β
  | 0, _, _ => none
  | k + 1, v2, v3 => cond (decide (v2 < 64)) (cond (decide ((v3.length + 1) * 1 ≤ 70368744177664)) (f41_1_l3 F v1 K0 k (IntKind.i64.wrap (v2 + 1)) (v3 ++ [v1])) none) (K0 v3)
noncomputable def f41_1 {β : Type} (F : Nat) (a1 : Int) (K0 : ByteArray → Option β) : Option β := f41_1_l3 F a1 (fun x4 => K0 (ofInts x4)) F 0 []
variable [FZ]
def sh41_1 : Sh := ⟨[.lf (.int .u8)], []⟩
noncomputable def S41_1 (F : Nat) (o : Summ) : Summ := mkS sh41_1 (fun d K => f41_1 F d.1.1 (fun (y0 : ByteArray) => K [.lf (.str y0)] [])) o
noncomputable def code41 : Code := bodyOf Tryd.f41
noncomputable def b41_0 : Code := cB (cB (cR (cL (cR (cR (code41))))))
theorem scopes41 : scopesOf code41 = [] := by kernel_rfl
theorem ranges41 : rangesOf code41 = [] := by kernel_rfl
theorem loops41 : loopsOf code41 = [b41_0] := by kernel_rfl
theorem enter41 : ∀ args w, (callFunc 41 args).run Tryd.prog w = .ok (.enter 41 args) w := enter_of (fn := Tryd.f41) (by kernel_rfl) (by kernel_rfl) (by kernel_rfl)
noncomputable def T41_1 (F : Nat) : FuncId → Option Summ := tab []
def sh41_1_l3 : Sh := ⟨[.lf (.int .u8), .lf (.full 0), .lf (.int .i64)], [some ⟨some false, [.seq (.int .u8) 0]⟩]⟩
noncomputable def G41_1_3 (F k : Nat) : LoopS := mkG sh41_1_l3 [0, 3, 4] (outT [(.exit 0, [3])]) (fun d K => f41_1_l3 F d.1.1 (fun (y0 : List Int) => K (.exit 0) [.tv (.lf (.full 0))] [some ⟨false, [.seq (.int .u8) 0 y0]⟩]) k d.1.2.2.1 d.2.1.2.1) []
noncomputable def LT41_1 (F : Nat) : Nat → Option LoopS := ltab [(3, G41_1_3 F F)]
theorem L41_1_l3g (F k : Nat)   (l3 : Int → (List Int → Option Res) → Nat → Int → List Int → Option Res) (X3 : LoopS) (d : sh41_1_l3.den) (K : KL) : (fun (v1 : Int) (K0 : (List Int → Option Res)) (k : Nat) (v2 : Int) (v3 : List Int) => cond (decide (v2 < 64)) (cond (decide ((v3.length + 1) * 1 ≤ 70368744177664)) (l3 v1 K0 k (IntKind.i64.wrap (v2 + 1)) (v3 ++ [v1])) none) (K0 v3)) d.1.1 (fun (y0 : List Int) => K (.exit 0) [.tv (.lf (.full 0))] [some ⟨false, [.seq (.int .u8) 0 y0]⟩]) k d.1.2.2.1 d.2.1.2.1 = roundOf Tryd.prog (tab []) (xw []) 15 0 (ltab [(3, X3)]) (mkG sh41_1_l3 [0, 3, 4] (outT [(.exit 0, [3])]) (fun d K => l3 d.1.1 (fun (y0 : List Int) => K (.exit 0) [.tv (.lf (.full 0))] [some ⟨false, [.seq (.int .u8) 0 y0]⟩]) k d.1.2.2.1 d.2.1.2.1) []) b41_0 (encT sh41_1_l3.vs d.1) (encH sh41_1_l3.h d.2) K := by kernel_rfl
theorem L41_1_3 (F : Nat) : LoopOK Tryd.prog (T41_1 F) (xw []) 15 0 (LT41_1 F) (G41_1_3 F F) b41_0 :=
  loopOK_of (s := sh41_1_l3) (live := [0, 3, 4]) (out := (outT [(.exit 0, [3])])) (mv := []) (fun k d K => f41_1_l3 F d.1.1 (fun (y0 : List Int) => K (.exit 0) [.tv (.lf (.full 0))] [some ⟨false, [.seq (.int .u8) 0 y0]⟩]) k d.1.2.2.1 d.2.1.2.1) F (fun d K => by kernel_rfl)  (fun k d K => Eq.mp (by kernel_rfl) (L41_1_l3g F k   (f41_1_l3 F) (G41_1_3 F F) d K))
theorem E41_1g (F : Nat)  (l3 : Int → (List Int → Option Res) → Nat → Int → List Int → Option Res)  (d : sh41_1.den) (K : KF) : evBody Tryd.prog (tab []) (xw []) 15 0 (ltab [(3, mkG sh41_1_l3 [0, 3, 4] (outT [(.exit 0, [3])]) (fun d K => l3 d.1.1 (fun (y0 : List Int) => K (.exit 0) [.tv (.lf (.full 0))] [some ⟨false, [.seq (.int .u8) 0 y0]⟩]) F d.1.2.2.1 d.2.1.2.1) [])]) [] code41 Tryd.f41.results.toList (encT sh41_1.vs d.1) (encH sh41_1.h d.2) K = (fun (a1 : Int) (K0 : (ByteArray → Option Res)) => l3 a1 (fun x4 => K0 (ofInts x4)) F 0 []) d.1.1 (fun (y0 : ByteArray) => K [.lf (.str y0)] []) := by kernel_rfl
theorem E41_1 (F : Nat) (d : sh41_1.den) (K : KF) : evBody Tryd.prog (T41_1 F) (xw []) 15 0 (LT41_1 F) [] code41 Tryd.f41.results.toList (encT sh41_1.vs d.1) (encH sh41_1.h d.2) K = f41_1 F d.1.1 (fun (y0 : ByteArray) => K [.lf (.str y0)] []) := Eq.mp (by kernel_rfl) (E41_1g F  (f41_1_l3 F)  d K)
theorem S41_1_ok (F : Nat) (o : Summ) (ho : SoundFn Tryd.prog 41 o) : SoundFn Tryd.prog 41 (S41_1 F o) :=
  soundFn_of (fn := Tryd.f41) (c := code41) rfl rfl (by kernel_rfl) tab_nil (by kernel_rfl) (by kernel_rfl) ho (by rw [loops41]; exact (loopsOK_cons (by kernel_rfl) (L41_1_3 F) loopsOK_nil)) (by rw [scopes41]; exact scopesOK_nil) (by rw [ranges41]; exact rangesOK_nil) (E41_1 F)
end Go.Proofs.YtlgopekjjkdkiaaDoor.X
end

section
namespace Go.Proofs.YtlgopekjjkdkiaaDoor.X
open Go Go.Proofs.YtlgopekjjkdkiaaDoor.Ev Go.Proofs
set_option linter.unusedVariables false
set_option linter.unusedSectionVars false
/-! pentimentoref05.Zero -/
noncomputable def f21_1 {β : Type} (F : Nat)  (K0 : ByteArray → Option β) : Option β := f41_1 F 0 (fun x1 => K0 x1) 
variable [FZ]
def sh21_1 : Sh := ⟨[], []⟩
noncomputable def S21_1 (F : Nat) (o : Summ) : Summ := mkS sh21_1 (fun d K => f21_1 F (fun (y0 : ByteArray) => K [.lf (.str y0)] [])) o
noncomputable def code21 : Code := bodyOf Tryd.f21
theorem scopes21 : scopesOf code21 = [] := by kernel_rfl
theorem ranges21 : rangesOf code21 = [] := by kernel_rfl
theorem loops21 : loopsOf code21 = [] := by kernel_rfl
theorem enter21 : ∀ args w, (callFunc 21 args).run Tryd.prog w = .ok (.enter 21 args) w := enter_of (fn := Tryd.f21) (by kernel_rfl) (by kernel_rfl) (by kernel_rfl)
noncomputable def T21_1 (F : Nat) : FuncId → Option Summ := tab [(41, (S41_1 F noS))]
noncomputable def LT21_1 (F : Nat) : Nat → Option LoopS := ltab []
theorem E21_1g (F : Nat) (c41_1 : Int → (ByteArray → Option Res) → Option Res)   (d : sh21_1.den) (K : KF) : evBody Tryd.prog (tab [(41, (mkS sh41_1 (fun d K => c41_1 d.1.1 (fun (y0 : ByteArray) => K [.lf (.str y0)] [])) noS))]) (xw []) 2 0 (ltab []) [] code21 Tryd.f21.results.toList (encT sh21_1.vs d.1) (encH sh21_1.h d.2) K = (fun (K0 : (ByteArray → Option Res)) => c41_1 0 (fun x1 => K0 x1) ) (fun (y0 : ByteArray) => K [.lf (.str y0)] []) := by kernel_rfl
theorem E21_1 (F : Nat) (d : sh21_1.den) (K : KF) : evBody Tryd.prog (T21_1 F) (xw []) 2 0 (LT21_1 F) [] code21 Tryd.f21.results.toList (encT sh21_1.vs d.1) (encH sh21_1.h d.2) K = f21_1 F (fun (y0 : ByteArray) => K [.lf (.str y0)] []) := Eq.mp (by kernel_rfl) (E21_1g F (f41_1 F)   d K)
theorem S21_1_ok (F : Nat) (o : Summ) (ho : SoundFn Tryd.prog 21 o) : SoundFn Tryd.prog 21 (S21_1 F o) :=
  soundFn_of (fn := Tryd.f21) (c := code21) rfl rfl (by kernel_rfl) (tab_cons (S41_1_ok F _ (noS_sound enter41)) tab_nil) (by kernel_rfl) (by kernel_rfl) ho (by rw [loops21]; exact loopsOK_nil) (by rw [scopes21]; exact scopesOK_nil) (by rw [ranges21]; exact rangesOK_nil) (E21_1 F)
end Go.Proofs.YtlgopekjjkdkiaaDoor.X
end

section
namespace Go.Proofs.YtlgopekjjkdkiaaDoor.X
open Go Go.Proofs.YtlgopekjjkdkiaaDoor.Ev Go.Proofs
set_option linter.unusedVariables false
set_option linter.unusedSectionVars false
/-! disk.Disk).Done -/
noncomputable def f22_1 {β : Type} (F : Nat) (a1 : Int) (a2 : Bool) (a3 : Int) (a4 : List ByteArray) (a5 : List (Int × ByteArray)) (K0 : Option β) : Option β := K0
variable [FZ]
def sh22_1 : Sh := ⟨[.lf (.ptr 0 0)], [some ⟨none, [.full 1, .full 2, .int .i64, .bool, .int .i64]⟩, some ⟨none, [.seq .str 0]⟩, some ⟨none, [.seq (.pair (.int .i64) .str) 0]⟩]⟩
noncomputable def S22_1 (F : Nat) (o : Summ) : Summ := mkS sh22_1 (fun d K => f22_1 F d.2.1.2.2.2.1 d.2.1.2.2.2.2.1 d.2.1.2.2.2.2.2.1 d.2.2.1.2.1 d.2.2.2.1.2.1 (K [.lf (.int .i64 d.2.1.2.2.2.2.2.1)] [some ⟨d.2.1.1, [.full 1, .full 2, .int .i64 d.2.1.2.2.2.1, .bool d.2.1.2.2.2.2.1, .int .i64 d.2.1.2.2.2.2.2.1]⟩, some ⟨d.2.2.1.1, [.seq .str 0 d.2.2.1.2.1]⟩, some ⟨d.2.2.2.1.1, [.seq (.pair (.int .i64) .str) 0 d.2.2.2.1.2.1]⟩])) o
noncomputable def code22 : Code := bodyOf Tryd.f22
theorem scopes22 : scopesOf code22 = [] := by kernel_rfl
theorem ranges22 : rangesOf code22 = [] := by kernel_rfl
theorem loops22 : loopsOf code22 = [] := by kernel_rfl
theorem enter22 : ∀ args w, (callFunc 22 args).run Tryd.prog w = .ok (.enter 22 args) w := enter_of (fn := Tryd.f22) (by kernel_rfl) (by kernel_rfl) (by kernel_rfl)
noncomputable def T22_1 (F : Nat) : FuncId → Option Summ := tab []
noncomputable def LT22_1 (F : Nat) : Nat → Option LoopS := ltab []
theorem E22_1g (F : Nat)    (d : sh22_1.den) (K : KF) : evBody Tryd.prog (tab []) (xw []) 9 3 (ltab []) [] code22 Tryd.f22.results.toList (encT sh22_1.vs d.1) (encH sh22_1.h d.2) K = (fun (a1 : Int) (a2 : Bool) (a3 : Int) (a4 : List ByteArray) (a5 : List (Int × ByteArray)) (K0 : (Option Res)) => K0) d.2.1.2.2.2.1 d.2.1.2.2.2.2.1 d.2.1.2.2.2.2.2.1 d.2.2.1.2.1 d.2.2.2.1.2.1 (K [.lf (.int .i64 d.2.1.2.2.2.2.2.1)] [some ⟨d.2.1.1, [.full 1, .full 2, .int .i64 d.2.1.2.2.2.1, .bool d.2.1.2.2.2.2.1, .int .i64 d.2.1.2.2.2.2.2.1]⟩, some ⟨d.2.2.1.1, [.seq .str 0 d.2.2.1.2.1]⟩, some ⟨d.2.2.2.1.1, [.seq (.pair (.int .i64) .str) 0 d.2.2.2.1.2.1]⟩]) := by kernel_rfl
theorem E22_1 (F : Nat) (d : sh22_1.den) (K : KF) : evBody Tryd.prog (T22_1 F) (xw []) 9 3 (LT22_1 F) [] code22 Tryd.f22.results.toList (encT sh22_1.vs d.1) (encH sh22_1.h d.2) K = f22_1 F d.2.1.2.2.2.1 d.2.1.2.2.2.2.1 d.2.1.2.2.2.2.2.1 d.2.2.1.2.1 d.2.2.2.1.2.1 (K [.lf (.int .i64 d.2.1.2.2.2.2.2.1)] [some ⟨d.2.1.1, [.full 1, .full 2, .int .i64 d.2.1.2.2.2.1, .bool d.2.1.2.2.2.2.1, .int .i64 d.2.1.2.2.2.2.2.1]⟩, some ⟨d.2.2.1.1, [.seq .str 0 d.2.2.1.2.1]⟩, some ⟨d.2.2.2.1.1, [.seq (.pair (.int .i64) .str) 0 d.2.2.2.1.2.1]⟩]) := Eq.mp (by kernel_rfl) (E22_1g F    d K)
theorem S22_1_ok (F : Nat) (o : Summ) (ho : SoundFn Tryd.prog 22 o) : SoundFn Tryd.prog 22 (S22_1 F o) :=
  soundFn_of (fn := Tryd.f22) (c := code22) rfl rfl (by kernel_rfl) tab_nil (by kernel_rfl) (by kernel_rfl) ho (by rw [loops22]; exact loopsOK_nil) (by rw [scopes22]; exact scopesOK_nil) (by rw [ranges22]; exact rangesOK_nil) (E22_1 F)
end Go.Proofs.YtlgopekjjkdkiaaDoor.X
end

section
namespace Go.Proofs.YtlgopekjjkdkiaaDoor.X
open Go Go.Proofs.YtlgopekjjkdkiaaDoor.Ev Go.Proofs
set_option linter.unusedVariables false
set_option linter.unusedSectionVars false
/-! disk.Disk).Done -/
noncomputable def f22_568 {β : Type} (F : Nat)  (K0 : Option β) : Option β := K0
variable [FZ]
def sh22_568 : Sh := ⟨[.lf (.nilp)], []⟩
noncomputable def S22_568 (F : Nat) (o : Summ) : Summ := mkS sh22_568 (fun d K => f22_568 F (K [.lf (.int .i64 0)] [])) o
noncomputable def T22_568 (F : Nat) : FuncId → Option Summ := tab []
noncomputable def LT22_568 (F : Nat) : Nat → Option LoopS := ltab []
theorem E22_568g (F : Nat)    (d : sh22_568.den) (K : KF) : evBody Tryd.prog (tab []) (xw []) 9 0 (ltab []) [] code22 Tryd.f22.results.toList (encT sh22_568.vs d.1) (encH sh22_568.h d.2) K = (fun (K0 : (Option Res)) => K0) (K [.lf (.int .i64 0)] []) := by kernel_rfl
theorem E22_568 (F : Nat) (d : sh22_568.den) (K : KF) : evBody Tryd.prog (T22_568 F) (xw []) 9 0 (LT22_568 F) [] code22 Tryd.f22.results.toList (encT sh22_568.vs d.1) (encH sh22_568.h d.2) K = f22_568 F (K [.lf (.int .i64 0)] []) := Eq.mp (by kernel_rfl) (E22_568g F    d K)
theorem S22_568_ok (F : Nat) (o : Summ) (ho : SoundFn Tryd.prog 22 o) : SoundFn Tryd.prog 22 (S22_568 F o) :=
  soundFn_of (fn := Tryd.f22) (c := code22) rfl rfl (by kernel_rfl) tab_nil (by kernel_rfl) (by kernel_rfl) ho (by rw [loops22]; exact loopsOK_nil) (by rw [scopes22]; exact scopesOK_nil) (by rw [ranges22]; exact rangesOK_nil) (E22_568 F)
end Go.Proofs.YtlgopekjjkdkiaaDoor.X
end

section
namespace Go.Proofs.YtlgopekjjkdkiaaDoor.X
open Go Go.Proofs.YtlgopekjjkdkiaaDoor.Ev Go.Proofs
set_option linter.unusedVariables false
set_option linter.unusedSectionVars false
/-! bits.Mul64 -/
noncomputable def f62_1 {β : Type} (F : Nat) (a1 : Int) (a2 : Int) (K0 : Int → Int → Option β) : Option β := K0 (IntKind.u64.wrap ((IntKind.u64.wrap ((IntKind.u64.wrap ((ishr .u64 a1 32) * (ishr .u64 a2 32))) + (ishr .u64 (IntKind.u64.wrap ((IntKind.u64.wrap ((ishr .u64 a1 32) * (iand .u64 a2 4294967295))) + (ishr .u64 (IntKind.u64.wrap ((iand .u64 a1 4294967295) * (iand .u64 a2 4294967295))) 32))) 32))) + (ishr .u64 (IntKind.u64.wrap ((iand .u64 (IntKind.u64.wrap ((IntKind.u64.wrap ((ishr .u64 a1 32) * (iand .u64 a2 4294967295))) + (ishr .u64 (IntKind.u64.wrap ((iand .u64 a1 4294967295) * (iand .u64 a2 4294967295))) 32))) 4294967295) + (IntKind.u64.wrap ((iand .u64 a1 4294967295) * (ishr .u64 a2 32))))) 32))) (IntKind.u64.wrap (a1 * a2))
variable [FZ]
def sh62_1 : Sh := ⟨[.lf (.int .u64), .lf (.int .u64)], []⟩
noncomputable def S62_1 (F : Nat) (o : Summ) : Summ := mkS sh62_1 (fun d K => f62_1 F d.1.1 d.1.2.1 (fun (y0 : Int) (y1 : Int) => K [.lf (.int .u64 y0), .lf (.int .u64 y1)] [])) o
noncomputable def code62 : Code := bodyOf Tryd.f62
theorem scopes62 : scopesOf code62 = [] := by kernel_rfl
theorem ranges62 : rangesOf code62 = [] := by kernel_rfl
theorem loops62 : loopsOf code62 = [] := by kernel_rfl
theorem enter62 : ∀ args w, (callFunc 62 args).run Tryd.prog w = .ok (.enter 62 args) w := enter_of (fn := Tryd.f62) (by kernel_rfl) (by kernel_rfl) (by kernel_rfl)
noncomputable def T62_1 (F : Nat) : FuncId → Option Summ := tab []
noncomputable def LT62_1 (F : Nat) : Nat → Option LoopS := ltab []
theorem E62_1g (F : Nat)    (d : sh62_1.den) (K : KF) : evBody Tryd.prog (tab []) (xw []) 51 0 (ltab []) [] code62 Tryd.f62.results.toList (encT sh62_1.vs d.1) (encH sh62_1.h d.2) K = (fun (a1 : Int) (a2 : Int) (K0 : (Int → Int → Option Res)) => K0 (IntKind.u64.wrap ((IntKind.u64.wrap ((IntKind.u64.wrap ((ishr .u64 a1 32) * (ishr .u64 a2 32))) + (ishr .u64 (IntKind.u64.wrap ((IntKind.u64.wrap ((ishr .u64 a1 32) * (iand .u64 a2 4294967295))) + (ishr .u64 (IntKind.u64.wrap ((iand .u64 a1 4294967295) * (iand .u64 a2 4294967295))) 32))) 32))) + (ishr .u64 (IntKind.u64.wrap ((iand .u64 (IntKind.u64.wrap ((IntKind.u64.wrap ((ishr .u64 a1 32) * (iand .u64 a2 4294967295))) + (ishr .u64 (IntKind.u64.wrap ((iand .u64 a1 4294967295) * (iand .u64 a2 4294967295))) 32))) 4294967295) + (IntKind.u64.wrap ((iand .u64 a1 4294967295) * (ishr .u64 a2 32))))) 32))) (IntKind.u64.wrap (a1 * a2))) d.1.1 d.1.2.1 (fun (y0 : Int) (y1 : Int) => K [.lf (.int .u64 y0), .lf (.int .u64 y1)] []) := by kernel_rfl
theorem E62_1 (F : Nat) (d : sh62_1.den) (K : KF) : evBody Tryd.prog (T62_1 F) (xw []) 51 0 (LT62_1 F) [] code62 Tryd.f62.results.toList (encT sh62_1.vs d.1) (encH sh62_1.h d.2) K = f62_1 F d.1.1 d.1.2.1 (fun (y0 : Int) (y1 : Int) => K [.lf (.int .u64 y0), .lf (.int .u64 y1)] []) := Eq.mp (by kernel_rfl) (E62_1g F    d K)
theorem S62_1_ok (F : Nat) (o : Summ) (ho : SoundFn Tryd.prog 62 o) : SoundFn Tryd.prog 62 (S62_1 F o) :=
  soundFn_of (fn := Tryd.f62) (c := code62) rfl rfl (by kernel_rfl) tab_nil (by kernel_rfl) (by kernel_rfl) ho (by rw [loops62]; exact loopsOK_nil) (by rw [scopes62]; exact scopesOK_nil) (by rw [ranges62]; exact rangesOK_nil) (E62_1 F)
end Go.Proofs.YtlgopekjjkdkiaaDoor.X
end

section
namespace Go.Proofs.YtlgopekjjkdkiaaDoor.X
open Go Go.Proofs.YtlgopekjjkdkiaaDoor.Ev Go.Proofs
set_option linter.unusedVariables false
set_option linter.unusedSectionVars false
/-! bits.Mul -/
noncomputable def f42_1 {β : Type} (F : Nat) (a1 : Int) (a2 : Int) (K0 : Int → Int → Option β) : Option β := f62_1 F a1 a2 (fun x1 x2 => K0 x1 x2) 
variable [FZ]
def sh42_1 : Sh := ⟨[.lf (.int .u64), .lf (.int .u64)], []⟩
noncomputable def S42_1 (F : Nat) (o : Summ) : Summ := mkS sh42_1 (fun d K => f42_1 F d.1.1 d.1.2.1 (fun (y0 : Int) (y1 : Int) => K [.lf (.int .u64 y0), .lf (.int .u64 y1)] [])) o
noncomputable def code42 : Code := bodyOf Tryd.f42
theorem scopes42 : scopesOf code42 = [] := by kernel_rfl
theorem ranges42 : rangesOf code42 = [] := by kernel_rfl
theorem loops42 : loopsOf code42 = [] := by kernel_rfl
theorem enter42 : ∀ args w, (callFunc 42 args).run Tryd.prog w = .ok (.enter 42 args) w := enter_of (fn := Tryd.f42) (by kernel_rfl) (by kernel_rfl) (by kernel_rfl)
noncomputable def T42_1 (F : Nat) : FuncId → Option Summ := tab [(62, (S62_1 F noS))]
noncomputable def LT42_1 (F : Nat) : Nat → Option LoopS := ltab []
theorem E42_1g (F : Nat) (c62_1 : Int → Int → (Int → Int → Option Res) → Option Res)   (d : sh42_1.den) (K : KF) : evBody Tryd.prog (tab [(62, (mkS sh62_1 (fun d K => c62_1 d.1.1 d.1.2.1 (fun (y0 : Int) (y1 : Int) => K [.lf (.int .u64 y0), .lf (.int .u64 y1)] [])) noS))]) (xw []) 30 0 (ltab []) [] code42 Tryd.f42.results.toList (encT sh42_1.vs d.1) (encH sh42_1.h d.2) K = (fun (a1 : Int) (a2 : Int) (K0 : (Int → Int → Option Res)) => c62_1 a1 a2 (fun x1 x2 => K0 x1 x2) ) d.1.1 d.1.2.1 (fun (y0 : Int) (y1 : Int) => K [.lf (.int .u64 y0), .lf (.int .u64 y1)] []) := by kernel_rfl
theorem E42_1 (F : Nat) (d : sh42_1.den) (K : KF) : evBody Tryd.prog (T42_1 F) (xw []) 30 0 (LT42_1 F) [] code42 Tryd.f42.results.toList (encT sh42_1.vs d.1) (encH sh42_1.h d.2) K = f42_1 F d.1.1 d.1.2.1 (fun (y0 : Int) (y1 : Int) => K [.lf (.int .u64 y0), .lf (.int .u64 y1)] []) := Eq.mp (by kernel_rfl) (E42_1g F (f62_1 F)   d K)
theorem S42_1_ok (F : Nat) (o : Summ) (ho : SoundFn Tryd.prog 42 o) : SoundFn Tryd.prog 42 (S42_1 F o) :=
  soundFn_of (fn := Tryd.f42) (c := code42) rfl rfl (by kernel_rfl) (tab_cons (S62_1_ok F _ (noS_sound enter62)) tab_nil) (by kernel_rfl) (by kernel_rfl) ho (by rw [loops42]; exact loopsOK_nil) (by rw [scopes42]; exact scopesOK_nil) (by rw [ranges42]; exact rangesOK_nil) (E42_1 F)
end Go.Proofs.YtlgopekjjkdkiaaDoor.X
end

section
namespace Go.Proofs.YtlgopekjjkdkiaaDoor.X
open Go Go.Proofs.YtlgopekjjkdkiaaDoor.Ev Go.Proofs
set_option linter.unusedVariables false
set_option linter.unusedSectionVars false
/-! slices.Repeat[[]string,string] -/
noncomputable def f23_1_l8 {β : Type} (F : Nat) (v4 : List ByteArray) (K0 : List ByteArray → Option β) : Nat → Int → List ByteArray → Option β
  | 0, _, _ => none
  | k + 1, v3, v5 => cond (decide (v3 < ((v5.length : Nat) : Int))) (cond (decide ((0 : Int) ≤ v3 ∧ v3 ≤ ((v5.length : Nat) : Int) ∧ ((v5.length : Nat) : Int) ≤ ((v5.length : Nat) : Int))) (cond (decide ((0 : Int) ≤ (0 : Int) ∧ (0 : Int) ≤ v3 ∧ v3 ≤ ((v5.length : Nat) : Int))) (f23_1_l8 F v4 K0 k (IntKind.i64.wrap (v3 + ((min (((v5.drop 0).take ((v3 - 0).toNat)).length) ((((v5.length : Nat) : Int) - v3).toNat) : Nat) : Int))) (v5.take (0 + v3.toNat) ++ (((v5.drop 0).take ((v3 - 0).toNat)).take ((((v5.length : Nat) : Int) - v3).toNat) ++ v5.drop ((0 + v3.toNat) + (min (((v5.drop 0).take ((v3 - 0).toNat)).length) ((((v5.length : Nat) : Int) - v3).toNat)))))) none) none) (K0 v5)
noncomputable def f23_1 {β : Type} (F : Nat) (a1 : Int) (a2 : List ByteArray) (K0 : List ByteArray → Option β) : Option β := cond (decide (a1 < 0)) (none) (f42_1 F (IntKind.u64.wrap ((a2.length : Nat) : Int)) (IntKind.u64.wrap a1) (fun x1 x2 => cond (decide (x1 > 0)) (none) (cond (decide (x2 > 9223372036854775807)) (none) (cond (decide ((0 : Int) ≤ IntKind.i64.wrap x2 ∧ IntKind.i64.wrap x2 ≤ IntKind.i64.wrap x2 ∧ IntKind.i64.wrap x2 ≤ 70368744177664 ∧ IntKind.i64.wrap x2 * 16 ≤ 70368744177664)) (f23_1_l8 F a2 (fun x6 => K0 x6) F ((min a2.length ((List.replicate ((IntKind.i64.wrap x2).toNat) ByteArray.empty).length) : Nat) : Int) ((List.replicate ((IntKind.i64.wrap x2).toNat) ByteArray.empty).take 0 ++ (a2.take ((List.replicate ((IntKind.i64.wrap x2).toNat) ByteArray.empty).length) ++ (List.replicate ((IntKind.i64.wrap x2).toNat) ByteArray.empty).drop (0 + (min a2.length ((List.replicate ((IntKind.i64.wrap x2).toNat) ByteArray.empty).length)))))) none))) )
variable [FZ]
def sh23_1 : Sh := ⟨[.lf (.full 0), .lf (.int .i64)], [some ⟨none, [.seq .str 0]⟩]⟩
noncomputable def S23_1 (F : Nat) (o : Summ) : Summ := mkS sh23_1 (fun d K => f23_1 F d.1.2.1 d.2.1.2.1 (fun (y1 : List ByteArray) => K [.lf (.full 1)] [some ⟨d.2.1.1, [.seq .str 0 d.2.1.2.1]⟩, some ⟨false, [.seq .str 0 y1]⟩])) o
noncomputable def code23 : Code := bodyOf Tryd.f23
noncomputable def b23_0 : Code := cB (cB (cL (cR (cR (cR (cR (cR (cR (code23)))))))))
theorem scopes23 : scopesOf code23 = [] := by kernel_rfl
theorem ranges23 : rangesOf code23 = [] := by kernel_rfl
theorem loops23 : loopsOf code23 = [b23_0] := by kernel_rfl
theorem enter23 : ∀ args w, (callFunc 23 args).run Tryd.prog w = .ok (.enter 23 args) w := enter_of (fn := Tryd.f23) (by kernel_rfl) (by kernel_rfl) (by kernel_rfl)
noncomputable def T23_1 (F : Nat) : FuncId → Option Summ := tab [(42, (S42_1 F noS))]
def sh23_1_l8 : Sh := ⟨[.lf (.full 1), .lf (.int .i64)], [some ⟨none, [.seq .str 0]⟩, some ⟨some false, [.seq .str 0]⟩]⟩
noncomputable def G23_1_8 (F k : Nat) : LoopS := mkG sh23_1_l8 [7, 8] (outT [(.exit 0, [7])]) (fun d K => f23_1_l8 F d.2.1.2.1 (fun (y1 : List ByteArray) => K (.exit 0) [.tv (.lf (.full 1))] [some ⟨d.2.1.1, [.seq .str 0 d.2.1.2.1]⟩, some ⟨false, [.seq .str 0 y1]⟩]) k d.1.2.1 d.2.2.1.2.1) []
noncomputable def LT23_1 (F : Nat) : Nat → Option LoopS := ltab [(8, G23_1_8 F F)]
theorem L23_1_l8g (F k : Nat) (c42_1 : Int → Int → (Int → Int → Option Res) → Option Res)  (l8 : List ByteArray → (List ByteArray → Option Res) → Nat → Int → List ByteArray → Option Res) (X8 : LoopS) (d : sh23_1_l8.den) (K : KL) : (fun (v4 : List ByteArray) (K0 : (List ByteArray → Option Res)) (k : Nat) (v3 : Int) (v5 : List ByteArray) => cond (decide (v3 < ((v5.length : Nat) : Int))) (cond (decide ((0 : Int) ≤ v3 ∧ v3 ≤ ((v5.length : Nat) : Int) ∧ ((v5.length : Nat) : Int) ≤ ((v5.length : Nat) : Int))) (cond (decide ((0 : Int) ≤ (0 : Int) ∧ (0 : Int) ≤ v3 ∧ v3 ≤ ((v5.length : Nat) : Int))) (l8 v4 K0 k (IntKind.i64.wrap (v3 + ((min (((v5.drop 0).take ((v3 - 0).toNat)).length) ((((v5.length : Nat) : Int) - v3).toNat) : Nat) : Int))) (v5.take (0 + v3.toNat) ++ (((v5.drop 0).take ((v3 - 0).toNat)).take ((((v5.length : Nat) : Int) - v3).toNat) ++ v5.drop ((0 + v3.toNat) + (min (((v5.drop 0).take ((v3 - 0).toNat)).length) ((((v5.length : Nat) : Int) - v3).toNat)))))) none) none) (K0 v5)) d.2.1.2.1 (fun (y1 : List ByteArray) => K (.exit 0) [.tv (.lf (.full 1))] [some ⟨d.2.1.1, [.seq .str 0 d.2.1.2.1]⟩, some ⟨false, [.seq .str 0 y1]⟩]) k d.1.2.1 d.2.2.1.2.1 = roundOf Tryd.prog (tab [(42, (mkS sh42_1 (fun d K => c42_1 d.1.1 d.1.2.1 (fun (y0 : Int) (y1 : Int) => K [.lf (.int .u64 y0), .lf (.int .u64 y1)] [])) noS))]) (xw []) 48 1 (ltab [(8, X8)]) (mkG sh23_1_l8 [7, 8] (outT [(.exit 0, [7])]) (fun d K => l8 d.2.1.2.1 (fun (y1 : List ByteArray) => K (.exit 0) [.tv (.lf (.full 1))] [some ⟨d.2.1.1, [.seq .str 0 d.2.1.2.1]⟩, some ⟨false, [.seq .str 0 y1]⟩]) k d.1.2.1 d.2.2.1.2.1) []) b23_0 (encT sh23_1_l8.vs d.1) (encH sh23_1_l8.h d.2) K := by kernel_rfl
theorem L23_1_8 (F : Nat) : LoopOK Tryd.prog (T23_1 F) (xw []) 48 1 (LT23_1 F) (G23_1_8 F F) b23_0 :=
  loopOK_of (s := sh23_1_l8) (live := [7, 8]) (out := (outT [(.exit 0, [7])])) (mv := []) (fun k d K => f23_1_l8 F d.2.1.2.1 (fun (y1 : List ByteArray) => K (.exit 0) [.tv (.lf (.full 1))] [some ⟨d.2.1.1, [.seq .str 0 d.2.1.2.1]⟩, some ⟨false, [.seq .str 0 y1]⟩]) k d.1.2.1 d.2.2.1.2.1) F (fun d K => by kernel_rfl)  (fun k d K => Eq.mp (by kernel_rfl) (L23_1_l8g F k (f42_1 F)  (f23_1_l8 F) (G23_1_8 F F) d K))
theorem E23_1g (F : Nat) (c42_1 : Int → Int → (Int → Int → Option Res) → Option Res) (l8 : List ByteArray → (List ByteArray → Option Res) → Nat → Int → List ByteArray → Option Res)  (d : sh23_1.den) (K : KF) : evBody Tryd.prog (tab [(42, (mkS sh42_1 (fun d K => c42_1 d.1.1 d.1.2.1 (fun (y0 : Int) (y1 : Int) => K [.lf (.int .u64 y0), .lf (.int .u64 y1)] [])) noS))]) (xw []) 48 1 (ltab [(8, mkG sh23_1_l8 [7, 8] (outT [(.exit 0, [7])]) (fun d K => l8 d.2.1.2.1 (fun (y1 : List ByteArray) => K (.exit 0) [.tv (.lf (.full 1))] [some ⟨d.2.1.1, [.seq .str 0 d.2.1.2.1]⟩, some ⟨false, [.seq .str 0 y1]⟩]) F d.1.2.1 d.2.2.1.2.1) [])]) [] code23 Tryd.f23.results.toList (encT sh23_1.vs d.1) (encH sh23_1.h d.2) K = (fun (a1 : Int) (a2 : List ByteArray) (K0 : (List ByteArray → Option Res)) => cond (decide (a1 < 0)) (none) (c42_1 (IntKind.u64.wrap ((a2.length : Nat) : Int)) (IntKind.u64.wrap a1) (fun x1 x2 => cond (decide (x1 > 0)) (none) (cond (decide (x2 > 9223372036854775807)) (none) (cond (decide ((0 : Int) ≤ IntKind.i64.wrap x2 ∧ IntKind.i64.wrap x2 ≤ IntKind.i64.wrap x2 ∧ IntKind.i64.wrap x2 ≤ 70368744177664 ∧ IntKind.i64.wrap x2 * 16 ≤ 70368744177664)) (l8 a2 (fun x6 => K0 x6) F ((min a2.length ((List.replicate ((IntKind.i64.wrap x2).toNat) ByteArray.empty).length) : Nat) : Int) ((List.replicate ((IntKind.i64.wrap x2).toNat) ByteArray.empty).take 0 ++ (a2.take ((List.replicate ((IntKind.i64.wrap x2).toNat) ByteArray.empty).length) ++ (List.replicate ((IntKind.i64.wrap x2).toNat) ByteArray.empty).drop (0 + (min a2.length ((List.replicate ((IntKind.i64.wrap x2).toNat) ByteArray.empty).length)))))) none))) )) d.1.2.1 d.2.1.2.1 (fun (y1 : List ByteArray) => K [.lf (.full 1)] [some ⟨d.2.1.1, [.seq .str 0 d.2.1.2.1]⟩, some ⟨false, [.seq .str 0 y1]⟩]) := by kernel_rfl
theorem E23_1 (F : Nat) (d : sh23_1.den) (K : KF) : evBody Tryd.prog (T23_1 F) (xw []) 48 1 (LT23_1 F) [] code23 Tryd.f23.results.toList (encT sh23_1.vs d.1) (encH sh23_1.h d.2) K = f23_1 F d.1.2.1 d.2.1.2.1 (fun (y1 : List ByteArray) => K [.lf (.full 1)] [some ⟨d.2.1.1, [.seq .str 0 d.2.1.2.1]⟩, some ⟨false, [.seq .str 0 y1]⟩]) := Eq.mp (by kernel_rfl) (E23_1g F (f42_1 F) (f23_1_l8 F)  d K)
theorem S23_1_ok (F : Nat) (o : Summ) (ho : SoundFn Tryd.prog 23 o) : SoundFn Tryd.prog 23 (S23_1 F o) :=
  soundFn_of (fn := Tryd.f23) (c := code23) rfl rfl (by kernel_rfl) (tab_cons (S42_1_ok F _ (noS_sound enter42)) tab_nil) (by kernel_rfl) (by kernel_rfl) ho (by rw [loops23]; exact (loopsOK_cons (by kernel_rfl) (L23_1_8 F) loopsOK_nil)) (by rw [scopes23]; exact scopesOK_nil) (by rw [ranges23]; exact rangesOK_nil) (E23_1 F)
end Go.Proofs.YtlgopekjjkdkiaaDoor.X
end

section
/- strings.Repeat: the contract of the kit, at this program. -/
namespace Go.Proofs.YtlgopekjjkdkiaaDoor.X
open Go Go.Proofs.YtlgopekjjkdkiaaDoor.Ev Go.Proofs Go.Shelf Go.RowKit
set_option linter.unusedVariables false
def repRen : Go.Shelf.Ren := ⟨fun x => match x with | 105 => 52 | 212 => 42 | 99 => 68 | 165 => 69 | 166 => 70 | 170 => 71 | 169 => 72 | 263 => 61 | 264 => 62 | 206 => 77 | 240 => 78 | 241 => 79 | 276 => 82 | 277 => 83 | n => n, fun x => match x with | 9 => 9 | 3 => 3 | 4 => 4 | 20 => 20 | 0 => 0 | 46 => 82 | 109 => 83 | 5 => 5 | 72 => 116 | 76 => 119 | 51 => 96 | 146 => 106 | 53 => 25 | 148 => 108 | 70 => 114 | 37 => 93 | 75 => 118 | 127 => 128 | 164 => 132 | 80 => 54 | n => n, fun x => match x with  | n => n⟩
theorem repLays : Lays.n105 Tryd.prog repRen where
  mixed := by kernel_rfl
  f99 := Tryd.func68.trans (congrArg some (by kernel_rfl))
  f105 := Tryd.func52.trans (congrArg some (by kernel_rfl))
  f165 := Tryd.func69.trans (congrArg some (by kernel_rfl))
  f166 := Tryd.func70.trans (congrArg some (by kernel_rfl))
  f169 := Tryd.func72.trans (congrArg some (by kernel_rfl))
  f170 := Tryd.func71.trans (congrArg some (by kernel_rfl))
  f206 := Tryd.func77.trans (congrArg some (by kernel_rfl))
  f212 := Tryd.func42.trans (congrArg some (by kernel_rfl))
  f240 := Tryd.func78.trans (congrArg some (by kernel_rfl))
  f241 := Tryd.func79.trans (congrArg some (by kernel_rfl))
  f263 := Tryd.func61.trans (congrArg some (by kernel_rfl))
  f264 := Tryd.func62.trans (congrArg some (by kernel_rfl))
  f276 := Tryd.func82.trans (congrArg some (by kernel_rfl))
  f277 := Tryd.func83.trans (congrArg some (by kernel_rfl))
  t0 := Tryd.underlying0
  a0 := Tryd.isAgg0
  z0 := Tryd.sizeOf0
  v0 := Tryd.zeroValue0
  t3 := Tryd.underlying3
  a3 := Tryd.isAgg3
  z3 := Tryd.sizeOf3
  v3 := Tryd.zeroValue3
  t4 := Tryd.underlying4
  a4 := Tryd.isAgg4
  z4 := Tryd.sizeOf4
  v4 := Tryd.zeroValue4
  t5 := Tryd.underlying5
  a5 := Tryd.isAgg5
  z5 := Tryd.sizeOf5
  v5 := Tryd.zeroValue5
  t9 := Tryd.underlying9
  a9 := Tryd.isAgg9
  z9 := Tryd.sizeOf9
  v9 := Tryd.zeroValue9
  t20 := Tryd.underlying20
  a20 := Tryd.isAgg20
  z20 := Tryd.sizeOf20
  v20 := Tryd.zeroValue20
  t37 := Tryd.underlying93
  a37 := Tryd.isAgg93
  z37 := Tryd.sizeOf93
  v37 := Tryd.zeroValue93
  t46 := Tryd.underlying82
  a46 := Tryd.isAgg82
  z46 := Tryd.sizeOf82
  v46 := Tryd.zeroValue82
  t51 := Tryd.underlying96
  a51 := Tryd.isAgg96
  z51 := Tryd.sizeOf96
  v51 := Tryd.zeroValue96
  t53 := Tryd.underlying25
  a53 := Tryd.isAgg25
  z53 := Tryd.sizeOf25
  v53 := Tryd.zeroValue25
  t70 := Tryd.underlying114
  a70 := Tryd.isAgg114
  z70 := Tryd.sizeOf114
  v70 := Tryd.zeroValue114
  t72 := Tryd.underlying116
  a72 := Tryd.isAgg116
  z72 := Tryd.sizeOf116
  v72 := Tryd.zeroValue116
  t75 := Tryd.underlying118
  a75 := Tryd.isAgg118
  z75 := Tryd.sizeOf118
  v75 := Tryd.zeroValue118
  t76 := Tryd.underlying119
  a76 := Tryd.isAgg119
  z76 := Tryd.sizeOf119
  v76 := Tryd.zeroValue119
  t109 := Tryd.underlying83
  a109 := Tryd.isAgg83
  z109 := Tryd.sizeOf83
  v109 := Tryd.zeroValue83
  t127 := Tryd.underlying128
  a127 := Tryd.isAgg128
  z127 := Tryd.sizeOf128
  v127 := Tryd.zeroValue128
  t146 := Tryd.underlying106
  a146 := Tryd.isAgg106
  z146 := Tryd.sizeOf106
  v146 := Tryd.zeroValue106
  t148 := Tryd.underlying108
  a148 := Tryd.isAgg108
  z148 := Tryd.sizeOf108
  v148 := Tryd.zeroValue108
  t164 := Tryd.underlying132
  a164 := Tryd.isAgg132
  z164 := Tryd.sizeOf132
  v164 := Tryd.zeroValue132
theorem repExtra : Builder.Extra Tryd.prog repRen where
  sizeBuilder := by kernel_rfl
  liesBuilder := by kernel_rfl
  t5 := repLays.t5
  a5 := repLays.a5
  z5 := repLays.z5
  v5 := repLays.v5
  infoByte := by kernel_rfl
  cellsByte := by kernel_rfl
  sizeByte := by kernel_rfl
  neB5 := by decide
end Go.Proofs.YtlgopekjjkdkiaaDoor.X
end

section
/- strings.Repeat: its contract, as a typed function. -/
namespace Go.Proofs.YtlgopekjjkdkiaaDoor.X
open Go Go.Proofs.YtlgopekjjkdkiaaDoor.Ev Go.Proofs
set_option linter.unusedVariables false
set_option linter.unusedSimpArgs false
set_option linter.unusedSectionVars false
variable [FZ]

/-- So many copies of a string, one behind another. -/
noncomputable def rep (s : ByteArray) (n : Nat) : ByteArray := ⟨(Lib.repeatL s.data.toList n).toArray⟩
noncomputable def f52_1 {β : Type} (F : Nat) (a1 : ByteArray) (a2 : Int) (K0 : ByteArray → Option β) : Option β :=
  cond (decide (0 ≤ a2 ∧ a2 ≤ 9223372036854775807 ∧ a1.size * a2.toNat ≤ 140737488355328)) (K0 (rep a1 a2.toNat)) none
def sh52_1 : Sh := ⟨[.lf (.str), .lf (.int .i64)], []⟩
noncomputable def S52_1 (F : Nat) (o : Summ) : Summ := mkS sh52_1 (fun d K => f52_1 F d.1.1 d.1.2.1 (fun (y0 : ByteArray) => K [.lf (.str y0)] [])) o
theorem enter52 : ∀ args w, (callFunc 52 args).run Tryd.prog w = .ok (.enter 52 args) w := enter_of (fn := Tryd.f52) (by kernel_rfl) (by kernel_rfl) (by kernel_rfl)
theorem repNum : repRen.f 105 = 52 := by kernel_rfl

theorem repB {s : ByteArray} {c : Int} (h : 0 ≤ c ∧ c ≤ 9223372036854775807 ∧ s.size * c.toNat ≤ 140737488355328) {K : KF} {r : Res} (he : K [.lf (.str (rep s c.toNat))] [] = some r) :
    Contract Tryd.prog 52 [.lf (.str s), .lf (.int .i64 c)] [] K r := by
  intro G m w cvs hw hgd hgh hi hx
  obtain ⟨v1, v2, rfl, h1, h2⟩ : ∃ v1 v2, cvs = [v1, v2] ∧ v1 = .string s ∧ v2 = .int .i64 c := by
    match cvs, hx with
    | [v1, v2], ⟨h1, h2, _⟩ => exact ⟨v1, v2, rfl, h1, h2⟩
  subst h1 h2
  have := Any.strings_Repeat repLays repExtra s c.toNat w (by omega) h.2.2
  rw [repNum, show ((c.toNat : Nat) : Int) = c by omega] at this
  refine this.mono fun e w' ⟨h1, h2⟩ => ?_
  have hext : Ext w w' := ⟨⟨h2.os, h2.tape, h2.output⟩, h2.size, h2.block⟩
  exact ⟨_, _, he, _, [], h1, rfl, by rw [List.append_nil]; exact hi.ext hext⟩

theorem S52_1_ok (F : Nat) (o : Summ) (ho : SoundFn Tryd.prog 52 o) : SoundFn Tryd.prog 52 (S52_1 F o) := by
  refine ⟨ho.enter, fun vs h K r he => ?_⟩
  unfold S52_1 mkS at he
  split at he
  rotate_left
  · exact ho.ok vs h K r he
  rename_i dv dh ha hb'
  have e1 := decT_enc _ _ _ ha
  have e2 := decH_enc _ _ _ hb'
  obtain ⟨s, c, _⟩ := dv
  have e1 : vs = [.lf (.str s), .lf (.int .i64 c)] := e1
  have e2 : h = [] := e2
  subst e1
  subst e2
  have he : f52_1 F s c (fun (y0 : ByteArray) => K [.lf (.str y0)] []) = some r := he
  unfold f52_1 at he
  obtain ⟨h1, he⟩ := dec_of he
  exact repB h1 he

end Go.Proofs.YtlgopekjjkdkiaaDoor.X
end

section
namespace Go.Proofs.YtlgopekjjkdkiaaDoor.X
open Go Go.Proofs.YtlgopekjjkdkiaaDoor.Ev Go.Proofs
set_option linter.unusedVariables false
set_option linter.unusedSectionVars false
/-! sector.Fill -/
noncomputable def f43_1 {β : Type} (F : Nat) (a1 : Int) (K0 : ByteArray → Option β) : Option β := f52_1 F (ofInts [a1]) 64 (fun x1 => K0 x1) 
variable [FZ]
def sh43_1 : Sh := ⟨[.lf (.int .u8)], []⟩
noncomputable def S43_1 (F : Nat) (o : Summ) : Summ := mkS sh43_1 (fun d K => f43_1 F d.1.1 (fun (y0 : ByteArray) => K [.lf (.str y0)] [])) o
noncomputable def code43 : Code := bodyOf Tryd.f43
theorem scopes43 : scopesOf code43 = [] := by kernel_rfl
theorem ranges43 : rangesOf code43 = [] := by kernel_rfl
theorem loops43 : loopsOf code43 = [] := by kernel_rfl
theorem enter43 : ∀ args w, (callFunc 43 args).run Tryd.prog w = .ok (.enter 43 args) w := enter_of (fn := Tryd.f43) (by kernel_rfl) (by kernel_rfl) (by kernel_rfl)
noncomputable def T43_1 (F : Nat) : FuncId → Option Summ := tab [(52, (S52_1 F noS))]
noncomputable def LT43_1 (F : Nat) : Nat → Option LoopS := ltab []
theorem E43_1g (F : Nat) (c52_1 : ByteArray → Int → (ByteArray → Option Res) → Option Res)   (d : sh43_1.den) (K : KF) : evBody Tryd.prog (tab [(52, (mkS sh52_1 (fun d K => c52_1 d.1.1 d.1.2.1 (fun (y0 : ByteArray) => K [.lf (.str y0)] [])) noS))]) (xw []) 7 0 (ltab []) [] code43 Tryd.f43.results.toList (encT sh43_1.vs d.1) (encH sh43_1.h d.2) K = (fun (a1 : Int) (K0 : (ByteArray → Option Res)) => c52_1 (ofInts [a1]) 64 (fun x1 => K0 x1) ) d.1.1 (fun (y0 : ByteArray) => K [.lf (.str y0)] []) := by kernel_rfl
theorem E43_1 (F : Nat) (d : sh43_1.den) (K : KF) : evBody Tryd.prog (T43_1 F) (xw []) 7 0 (LT43_1 F) [] code43 Tryd.f43.results.toList (encT sh43_1.vs d.1) (encH sh43_1.h d.2) K = f43_1 F d.1.1 (fun (y0 : ByteArray) => K [.lf (.str y0)] []) := Eq.mp (by kernel_rfl) (E43_1g F (f52_1 F)   d K)
theorem S43_1_ok (F : Nat) (o : Summ) (ho : SoundFn Tryd.prog 43 o) : SoundFn Tryd.prog 43 (S43_1 F o) :=
  soundFn_of (fn := Tryd.f43) (c := code43) rfl rfl (by kernel_rfl) (tab_cons (S52_1_ok F _ (noS_sound enter52)) tab_nil) (by kernel_rfl) (by kernel_rfl) ho (by rw [loops43]; exact loopsOK_nil) (by rw [scopes43]; exact scopesOK_nil) (by rw [ranges43]; exact rangesOK_nil) (E43_1 F)
end Go.Proofs.YtlgopekjjkdkiaaDoor.X
end

section
namespace Go.Proofs.YtlgopekjjkdkiaaDoor.X
open Go Go.Proofs.YtlgopekjjkdkiaaDoor.Ev Go.Proofs
set_option linter.unusedVariables false
set_option linter.unusedSectionVars false
/-! sector.Zero -/
noncomputable def f24_1 {β : Type} (F : Nat)  (K0 : ByteArray → Option β) : Option β := f43_1 F 0 (fun x1 => K0 x1) 
variable [FZ]
def sh24_1 : Sh := ⟨[], []⟩
noncomputable def S24_1 (F : Nat) (o : Summ) : Summ := mkS sh24_1 (fun d K => f24_1 F (fun (y0 : ByteArray) => K [.lf (.str y0)] [])) o
noncomputable def code24 : Code := bodyOf Tryd.f24
theorem scopes24 : scopesOf code24 = [] := by kernel_rfl
theorem ranges24 : rangesOf code24 = [] := by kernel_rfl
theorem loops24 : loopsOf code24 = [] := by kernel_rfl
theorem enter24 : ∀ args w, (callFunc 24 args).run Tryd.prog w = .ok (.enter 24 args) w := enter_of (fn := Tryd.f24) (by kernel_rfl) (by kernel_rfl) (by kernel_rfl)
noncomputable def T24_1 (F : Nat) : FuncId → Option Summ := tab [(43, (S43_1 F noS))]
noncomputable def LT24_1 (F : Nat) : Nat → Option LoopS := ltab []
theorem E24_1g (F : Nat) (c43_1 : Int → (ByteArray → Option Res) → Option Res)   (d : sh24_1.den) (K : KF) : evBody Tryd.prog (tab [(43, (mkS sh43_1 (fun d K => c43_1 d.1.1 (fun (y0 : ByteArray) => K [.lf (.str y0)] [])) noS))]) (xw []) 2 0 (ltab []) [] code24 Tryd.f24.results.toList (encT sh24_1.vs d.1) (encH sh24_1.h d.2) K = (fun (K0 : (ByteArray → Option Res)) => c43_1 0 (fun x1 => K0 x1) ) (fun (y0 : ByteArray) => K [.lf (.str y0)] []) := by kernel_rfl
theorem E24_1 (F : Nat) (d : sh24_1.den) (K : KF) : evBody Tryd.prog (T24_1 F) (xw []) 2 0 (LT24_1 F) [] code24 Tryd.f24.results.toList (encT sh24_1.vs d.1) (encH sh24_1.h d.2) K = f24_1 F (fun (y0 : ByteArray) => K [.lf (.str y0)] []) := Eq.mp (by kernel_rfl) (E24_1g F (f43_1 F)   d K)
theorem S24_1_ok (F : Nat) (o : Summ) (ho : SoundFn Tryd.prog 24 o) : SoundFn Tryd.prog 24 (S24_1 F o) :=
  soundFn_of (fn := Tryd.f24) (c := code24) rfl rfl (by kernel_rfl) (tab_cons (S43_1_ok F _ (noS_sound enter43)) tab_nil) (by kernel_rfl) (by kernel_rfl) ho (by rw [loops24]; exact loopsOK_nil) (by rw [scopes24]; exact scopesOK_nil) (by rw [ranges24]; exact rangesOK_nil) (E24_1 F)
end Go.Proofs.YtlgopekjjkdkiaaDoor.X
end

section
namespace Go.Proofs.YtlgopekjjkdkiaaDoor.X
open Go Go.Proofs.YtlgopekjjkdkiaaDoor.Ev Go.Proofs
set_option linter.unusedVariables false
set_option linter.unusedSectionVars false
/-! disk.New -/
noncomputable def f7_1 {β : Type} (F : Nat) (a1 : Int) (K0 : Option β) (K1 : List ByteArray → List (Int × ByteArray) → Option β) : Option β := cond (decide (a1 < 1)) (K0) (cond (decide (a1 > 1200)) (K0) (f24_1 F  (fun x1 => f23_1 F a1 [x1] (fun x2 => K1 x2 []) ) ))
variable [FZ]
def sh7_1 : Sh := ⟨[.lf (.int .i64)], []⟩
noncomputable def S7_1 (F : Nat) (o : Summ) : Summ := mkS sh7_1 (fun d K => f7_1 F d.1.1 (K [.lf (.nilp), .lf (.int .i64 2)] []) (fun (y4 : List ByteArray) (y5 : List (Int × ByteArray)) => K [.lf (.ptr 0 0), .lf (.int .i64 0)] [some ⟨false, [.full 1, .full 2, .int .i64 (-1), .bool false, .int .i64 0]⟩, some ⟨false, [.seq .str 0 y4]⟩, some ⟨false, [.seq (.pair (.int .i64) .str) 0 y5]⟩])) o
noncomputable def code7 : Code := bodyOf Tryd.f7
theorem scopes7 : scopesOf code7 = [] := by kernel_rfl
theorem ranges7 : rangesOf code7 = [] := by kernel_rfl
theorem loops7 : loopsOf code7 = [] := by kernel_rfl
theorem enter7 : ∀ args w, (callFunc 7 args).run Tryd.prog w = .ok (.enter 7 args) w := enter_of (fn := Tryd.f7) (by kernel_rfl) (by kernel_rfl) (by kernel_rfl)
noncomputable def T7_1 (F : Nat) : FuncId → Option Summ := tab [(23, (S23_1 F noS)), (24, (S24_1 F noS))]
noncomputable def LT7_1 (F : Nat) : Nat → Option LoopS := ltab []
theorem E7_1g (F : Nat) (c23_1 : Int → List ByteArray → (List ByteArray → Option Res) → Option Res) (c24_1 : (ByteArray → Option Res) → Option Res)   (d : sh7_1.den) (K : KF) : evBody Tryd.prog (tab [(23, (mkS sh23_1 (fun d K => c23_1 d.1.2.1 d.2.1.2.1 (fun (y1 : List ByteArray) => K [.lf (.full 1)] [some ⟨d.2.1.1, [.seq .str 0 d.2.1.2.1]⟩, some ⟨false, [.seq .str 0 y1]⟩])) noS)), (24, (mkS sh24_1 (fun d K => c24_1 (fun (y0 : ByteArray) => K [.lf (.str y0)] [])) noS))]) (xw []) 16 0 (ltab []) [] code7 Tryd.f7.results.toList (encT sh7_1.vs d.1) (encH sh7_1.h d.2) K = (fun (a1 : Int) (K0 : (Option Res)) (K1 : (List ByteArray → List (Int × ByteArray) → Option Res)) => cond (decide (a1 < 1)) (K0) (cond (decide (a1 > 1200)) (K0) (c24_1  (fun x1 => c23_1 a1 [x1] (fun x2 => K1 x2 []) ) ))) d.1.1 (K [.lf (.nilp), .lf (.int .i64 2)] []) (fun (y4 : List ByteArray) (y5 : List (Int × ByteArray)) => K [.lf (.ptr 0 0), .lf (.int .i64 0)] [some ⟨false, [.full 1, .full 2, .int .i64 (-1), .bool false, .int .i64 0]⟩, some ⟨false, [.seq .str 0 y4]⟩, some ⟨false, [.seq (.pair (.int .i64) .str) 0 y5]⟩]) := by kernel_rfl
theorem E7_1 (F : Nat) (d : sh7_1.den) (K : KF) : evBody Tryd.prog (T7_1 F) (xw []) 16 0 (LT7_1 F) [] code7 Tryd.f7.results.toList (encT sh7_1.vs d.1) (encH sh7_1.h d.2) K = f7_1 F d.1.1 (K [.lf (.nilp), .lf (.int .i64 2)] []) (fun (y4 : List ByteArray) (y5 : List (Int × ByteArray)) => K [.lf (.ptr 0 0), .lf (.int .i64 0)] [some ⟨false, [.full 1, .full 2, .int .i64 (-1), .bool false, .int .i64 0]⟩, some ⟨false, [.seq .str 0 y4]⟩, some ⟨false, [.seq (.pair (.int .i64) .str) 0 y5]⟩]) := Eq.mp (by kernel_rfl) (E7_1g F (f23_1 F) (f24_1 F)   d K)
theorem S7_1_ok (F : Nat) (o : Summ) (ho : SoundFn Tryd.prog 7 o) : SoundFn Tryd.prog 7 (S7_1 F o) :=
  soundFn_of (fn := Tryd.f7) (c := code7) rfl rfl (by kernel_rfl) (tab_cons (S23_1_ok F _ (noS_sound enter23)) (tab_cons (S24_1_ok F _ (noS_sound enter24)) tab_nil)) (by kernel_rfl) (by kernel_rfl) ho (by rw [loops7]; exact loopsOK_nil) (by rw [scopes7]; exact scopesOK_nil) (by rw [ranges7]; exact rangesOK_nil) (E7_1 F)
end Go.Proofs.YtlgopekjjkdkiaaDoor.X
end

section
namespace Go.Proofs.YtlgopekjjkdkiaaDoor.X
open Go Go.Proofs.YtlgopekjjkdkiaaDoor.Ev Go.Proofs
set_option linter.unusedVariables false
set_option linter.unusedSectionVars false
/-! pentimentoref07.area -/
noncomputable def f25_1 {β : Type} (F : Nat) (a1 : Int) (a2 : Int) (a3 : Int) (a4 : Int) (a5 : Int) (K0 : Int → Option β) : Option β := cond (a5 == 0) (K0 (IntKind.i64.wrap (2 * a3))) (cond (a5 == 1) (K0 (IntKind.i64.wrap (2 * a4))) (K0 (-1)))
variable [FZ]
def sh25_1 : Sh := ⟨[.agg [.int .i64, .int .i64, .int .i64, .int .i64], .lf (.int .i64)], []⟩
noncomputable def S25_1 (F : Nat) (o : Summ) : Summ := mkS sh25_1 (fun d K => f25_1 F d.1.1.1 d.1.1.2.1 d.1.1.2.2.1 d.1.1.2.2.2.1 d.1.2.1 (fun (y0 : Int) => K [.lf (.int .i64 y0)] [])) o
noncomputable def code25 : Code := bodyOf Tryd.f25
theorem scopes25 : scopesOf code25 = [] := by kernel_rfl
theorem ranges25 : rangesOf code25 = [] := by kernel_rfl
theorem loops25 : loopsOf code25 = [] := by kernel_rfl
theorem enter25 : ∀ args w, (callFunc 25 args).run Tryd.prog w = .ok (.enter 25 args) w := enter_of (fn := Tryd.f25) (by kernel_rfl) (by kernel_rfl) (by kernel_rfl)
noncomputable def T25_1 (F : Nat) : FuncId → Option Summ := tab []
noncomputable def LT25_1 (F : Nat) : Nat → Option LoopS := ltab []
theorem E25_1g (F : Nat)    (d : sh25_1.den) (K : KF) : evBody Tryd.prog (tab []) (xw []) 15 0 (ltab []) [] code25 Tryd.f25.results.toList (encT sh25_1.vs d.1) (encH sh25_1.h d.2) K = (fun (a1 : Int) (a2 : Int) (a3 : Int) (a4 : Int) (a5 : Int) (K0 : (Int → Option Res)) => cond (a5 == 0) (K0 (IntKind.i64.wrap (2 * a3))) (cond (a5 == 1) (K0 (IntKind.i64.wrap (2 * a4))) (K0 (-1)))) d.1.1.1 d.1.1.2.1 d.1.1.2.2.1 d.1.1.2.2.2.1 d.1.2.1 (fun (y0 : Int) => K [.lf (.int .i64 y0)] []) := by kernel_rfl
theorem E25_1 (F : Nat) (d : sh25_1.den) (K : KF) : evBody Tryd.prog (T25_1 F) (xw []) 15 0 (LT25_1 F) [] code25 Tryd.f25.results.toList (encT sh25_1.vs d.1) (encH sh25_1.h d.2) K = f25_1 F d.1.1.1 d.1.1.2.1 d.1.1.2.2.1 d.1.1.2.2.2.1 d.1.2.1 (fun (y0 : Int) => K [.lf (.int .i64 y0)] []) := Eq.mp (by kernel_rfl) (E25_1g F    d K)
theorem S25_1_ok (F : Nat) (o : Summ) (ho : SoundFn Tryd.prog 25 o) : SoundFn Tryd.prog 25 (S25_1 F o) :=
  soundFn_of (fn := Tryd.f25) (c := code25) rfl rfl (by kernel_rfl) tab_nil (by kernel_rfl) (by kernel_rfl) ho (by rw [loops25]; exact loopsOK_nil) (by rw [scopes25]; exact scopesOK_nil) (by rw [ranges25]; exact rangesOK_nil) (E25_1 F)
end Go.Proofs.YtlgopekjjkdkiaaDoor.X
end
