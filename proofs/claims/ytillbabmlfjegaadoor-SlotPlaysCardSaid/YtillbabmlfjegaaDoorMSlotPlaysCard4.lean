/- Merged: EvF96, EvF55, EvF56, EvF23, EvF55v1385, EvF23v7107, Trm, TrimC, EvF15, EvF13, EvF49, EvF93, EvF51, EvF104, EvF30, EvF72, EvF97, EvF57, EvF27, EvF72v6206, EvF57v8586, EvF27v8586, EvF21, EvF82, EvF41, EvF28, EvF24, EvF25, EvF26, EvF31, EvF119, EvF81, EvF40, EvF113. -/
import Derived.Test.YtillbabmlfjegaaDoorMSlotPlaysCard3
import Derived.Test.YtillbabmlfjegaaDoorProg
import Derived.KernelRfl
import Derived.Shelf.Strings.SlTrimAscii
section
namespace Go.Proofs.YtillbabmlfjegaaDoor.X
open Go Go.Proofs.YtillbabmlfjegaaDoor.Ev Go.Proofs
set_option linter.unusedVariables false
set_option linter.unusedSectionVars false
/-! disk.Disk).burn -/
noncomputable def f96_1 {β : Type} (F : Nat) (a1 : Int) (a2 : Bool) (a3 : Int) (a4 : List ByteArray) (a5 : List (Int × ByteArray)) (K0 : Bool → Int → Bool → Int → Option β) : Option β := cond (a1 == 0) (K0 false (-1) true a3) (cond (a1 == (-1)) (K0 true a1 a2 (IntKind.i64.wrap (a3 + 1))) (K0 true (IntKind.i64.wrap (a1 - 1)) a2 (IntKind.i64.wrap (a3 + 1))))
variable [FZ]
def sh96_1 : Sh := ⟨[.lf (.ptr 0 0)], [some ⟨some false, [.full 1, .full 2, .int .i64, .bool, .int .i64]⟩, some ⟨none, [.seq .str 0]⟩, some ⟨none, [.seq (.pair (.int .i64) .str) 0]⟩]⟩
noncomputable def S96_1 (F : Nat) (o : Summ) : Summ := mkS sh96_1 (fun d K => f96_1 F d.2.1.2.2.2.1 d.2.1.2.2.2.2.1 d.2.1.2.2.2.2.2.1 d.2.2.1.2.1 d.2.2.2.1.2.1 (fun (y0 : Bool) (y1 : Int) (y2 : Bool) (y3 : Int) => K [.lf (.bool y0)] [some ⟨false, [.full 1, .full 2, .int .i64 y1, .bool y2, .int .i64 y3]⟩, some ⟨d.2.2.1.1, [.seq .str 0 d.2.2.1.2.1]⟩, some ⟨d.2.2.2.1.1, [.seq (.pair (.int .i64) .str) 0 d.2.2.2.1.2.1]⟩])) o
noncomputable def code96 : Code := bodyOf Tryd.f96
theorem scopes96 : scopesOf code96 = [] := by kernel_rfl
theorem ranges96 : rangesOf code96 = [] := by kernel_rfl
theorem loops96 : loopsOf code96 = [] := by kernel_rfl
theorem enter96 : ∀ args w, (callFunc 96 args).run Tryd.prog w = .ok (.enter 96 args) w := enter_of (fn := Tryd.f96) (by kernel_rfl) (by kernel_rfl) (by kernel_rfl)
noncomputable def T96_1 (F : Nat) : FuncId → Option Summ := tab []
noncomputable def LT96_1 (F : Nat) : Nat → Option LoopS := ltab []
theorem E96_1g (F : Nat)    (d : sh96_1.den) (K : KF) : evBody Tryd.prog (tab []) (xw []) 31 3 (ltab []) code96 Tryd.f96.results.toList (encT sh96_1.vs d.1) (encH sh96_1.h d.2) K = (fun (a1 : Int) (a2 : Bool) (a3 : Int) (a4 : List ByteArray) (a5 : List (Int × ByteArray)) (K0 : (Bool → Int → Bool → Int → Option Res)) => cond (a1 == 0) (K0 false (-1) true a3) (cond (a1 == (-1)) (K0 true a1 a2 (IntKind.i64.wrap (a3 + 1))) (K0 true (IntKind.i64.wrap (a1 - 1)) a2 (IntKind.i64.wrap (a3 + 1))))) d.2.1.2.2.2.1 d.2.1.2.2.2.2.1 d.2.1.2.2.2.2.2.1 d.2.2.1.2.1 d.2.2.2.1.2.1 (fun (y0 : Bool) (y1 : Int) (y2 : Bool) (y3 : Int) => K [.lf (.bool y0)] [some ⟨false, [.full 1, .full 2, .int .i64 y1, .bool y2, .int .i64 y3]⟩, some ⟨d.2.2.1.1, [.seq .str 0 d.2.2.1.2.1]⟩, some ⟨d.2.2.2.1.1, [.seq (.pair (.int .i64) .str) 0 d.2.2.2.1.2.1]⟩]) := by kernel_rfl
theorem E96_1 (F : Nat) (d : sh96_1.den) (K : KF) : evBody Tryd.prog (T96_1 F) (xw []) 31 3 (LT96_1 F) code96 Tryd.f96.results.toList (encT sh96_1.vs d.1) (encH sh96_1.h d.2) K = f96_1 F d.2.1.2.2.2.1 d.2.1.2.2.2.2.1 d.2.1.2.2.2.2.2.1 d.2.2.1.2.1 d.2.2.2.1.2.1 (fun (y0 : Bool) (y1 : Int) (y2 : Bool) (y3 : Int) => K [.lf (.bool y0)] [some ⟨false, [.full 1, .full 2, .int .i64 y1, .bool y2, .int .i64 y3]⟩, some ⟨d.2.2.1.1, [.seq .str 0 d.2.2.1.2.1]⟩, some ⟨d.2.2.2.1.1, [.seq (.pair (.int .i64) .str) 0 d.2.2.2.1.2.1]⟩]) := Eq.mp (by kernel_rfl) (E96_1g F    d K)
theorem S96_1_ok (F : Nat) (o : Summ) (ho : SoundFn Tryd.prog 96 o) : SoundFn Tryd.prog 96 (S96_1 F o) :=
  soundFn_of (fn := Tryd.f96) (c := code96) rfl rfl (by kernel_rfl) tab_nil (by kernel_rfl) (by kernel_rfl) ho (by rw [loops96]; exact loopsOK_nil) (by rw [scopes96]; exact scopesOK_nil) (by rw [ranges96]; exact rangesOK_nil) (E96_1 F)
end Go.Proofs.YtillbabmlfjegaaDoor.X
end

section
namespace Go.Proofs.YtillbabmlfjegaaDoor.X
open Go Go.Proofs.YtillbabmlfjegaaDoor.Ev Go.Proofs
set_option linter.unusedVariables false
set_option linter.unusedSectionVars false
/-! disk.Disk).Write -/
noncomputable def f55_1 {β : Type} (F : Nat) (a1 : Int) (a2 : ByteArray) (a3 : Int) (a4 : Bool) (a5 : Int) (a6 : List ByteArray) (a7 : List (Int × ByteArray)) (K0 : Int → Int → Bool → Int → Option β) (K1 : Int → Bool → Int → List (Int × ByteArray) → Option β) : Option β := cond a4 (K0 5 a3 a4 a5) (f65_1 F a1 a3 a4 a5 a6 a7 (fun x1 => cond (!x1) (K0 3 a3 a4 a5) (f43_1 F a2 (fun x2 => cond (!x2) (K0 4 a3 a4 a5) (f96_1 F a3 a4 a5 a6 a7 (fun x3 x4 x5 x6 => cond (!x3) (K0 5 x4 x5 x6) (cond (decide ((a7.length + 1) * 24 ≤ 70368744177664)) (K1 x4 x5 x6 (a7 ++ [(a1, a2)])) none)) )) )) )
variable [FZ]
def sh55_1 : Sh := ⟨[.lf (.ptr 0 0), .lf (.int .i64), .lf (.str)], [some ⟨some false, [.full 1, .full 2, .int .i64, .bool, .int .i64]⟩, some ⟨none, [.seq .str 0]⟩, some ⟨some false, [.seq (.pair (.int .i64) .str) 0]⟩]⟩
noncomputable def S55_1 (F : Nat) (o : Summ) : Summ := mkS sh55_1 (fun d K => f55_1 F d.1.2.1 d.1.2.2.1 d.2.1.2.2.2.1 d.2.1.2.2.2.2.1 d.2.1.2.2.2.2.2.1 d.2.2.1.2.1 d.2.2.2.1.2.1 (fun (y0 : Int) (y1 : Int) (y2 : Bool) (y3 : Int) => K [.lf (.int .i64 y0)] [some ⟨false, [.full 1, .full 2, .int .i64 y1, .bool y2, .int .i64 y3]⟩, some ⟨d.2.2.1.1, [.seq .str 0 d.2.2.1.2.1]⟩, some ⟨false, [.seq (.pair (.int .i64) .str) 0 d.2.2.2.1.2.1]⟩]) (fun (y1 : Int) (y2 : Bool) (y3 : Int) (y5 : List (Int × ByteArray)) => K [.lf (.int .i64 0)] [some ⟨false, [.full 1, .full 3, .int .i64 y1, .bool y2, .int .i64 y3]⟩, some ⟨d.2.2.1.1, [.seq .str 0 d.2.2.1.2.1]⟩, none, some ⟨false, [.seq (.pair (.int .i64) .str) 0 y5]⟩])) o
noncomputable def code55 : Code := bodyOf Tryd.f55
theorem scopes55 : scopesOf code55 = [] := by kernel_rfl
theorem ranges55 : rangesOf code55 = [] := by kernel_rfl
theorem loops55 : loopsOf code55 = [] := by kernel_rfl
theorem enter55 : ∀ args w, (callFunc 55 args).run Tryd.prog w = .ok (.enter 55 args) w := enter_of (fn := Tryd.f55) (by kernel_rfl) (by kernel_rfl) (by kernel_rfl)
noncomputable def T55_1 (F : Nat) : FuncId → Option Summ := tab [(43, (S43_1 F noS)), (65, (S65_1 F noS)), (96, (S96_1 F noS))]
noncomputable def LT55_1 (F : Nat) : Nat → Option LoopS := ltab []
theorem E55_1g (F : Nat) (c43_1 : ByteArray → (Bool → Option Res) → Option Res) (c65_1 : Int → Int → Bool → Int → List ByteArray → List (Int × ByteArray) → (Bool → Option Res) → Option Res) (c96_1 : Int → Bool → Int → List ByteArray → List (Int × ByteArray) → (Bool → Int → Bool → Int → Option Res) → Option Res)   (d : sh55_1.den) (K : KF) : evBody Tryd.prog (tab [(43, (mkS sh43_1 (fun d K => c43_1 d.1.1 (fun (y0 : Bool) => K [.lf (.bool y0)] [])) noS)), (65, (mkS sh65_1 (fun d K => c65_1 d.1.2.1 d.2.1.2.2.2.1 d.2.1.2.2.2.2.1 d.2.1.2.2.2.2.2.1 d.2.2.1.2.1 d.2.2.2.1.2.1 (fun (y0 : Bool) => K [.lf (.bool y0)] [some ⟨d.2.1.1, [.full 1, .full 2, .int .i64 d.2.1.2.2.2.1, .bool d.2.1.2.2.2.2.1, .int .i64 d.2.1.2.2.2.2.2.1]⟩, some ⟨d.2.2.1.1, [.seq .str 0 d.2.2.1.2.1]⟩, some ⟨d.2.2.2.1.1, [.seq (.pair (.int .i64) .str) 0 d.2.2.2.1.2.1]⟩])) noS)), (96, (mkS sh96_1 (fun d K => c96_1 d.2.1.2.2.2.1 d.2.1.2.2.2.2.1 d.2.1.2.2.2.2.2.1 d.2.2.1.2.1 d.2.2.2.1.2.1 (fun (y0 : Bool) (y1 : Int) (y2 : Bool) (y3 : Int) => K [.lf (.bool y0)] [some ⟨false, [.full 1, .full 2, .int .i64 y1, .bool y2, .int .i64 y3]⟩, some ⟨d.2.2.1.1, [.seq .str 0 d.2.2.1.2.1]⟩, some ⟨d.2.2.2.1.1, [.seq (.pair (.int .i64) .str) 0 d.2.2.2.1.2.1]⟩])) noS))]) (xw []) 40 3 (ltab []) code55 Tryd.f55.results.toList (encT sh55_1.vs d.1) (encH sh55_1.h d.2) K = (fun (a1 : Int) (a2 : ByteArray) (a3 : Int) (a4 : Bool) (a5 : Int) (a6 : List ByteArray) (a7 : List (Int × ByteArray)) (K0 : (Int → Int → Bool → Int → Option Res)) (K1 : (Int → Bool → Int → List (Int × ByteArray) → Option Res)) => cond a4 (K0 5 a3 a4 a5) (c65_1 a1 a3 a4 a5 a6 a7 (fun x1 => cond (!x1) (K0 3 a3 a4 a5) (c43_1 a2 (fun x2 => cond (!x2) (K0 4 a3 a4 a5) (c96_1 a3 a4 a5 a6 a7 (fun x3 x4 x5 x6 => cond (!x3) (K0 5 x4 x5 x6) (cond (decide ((a7.length + 1) * 24 ≤ 70368744177664)) (K1 x4 x5 x6 (a7 ++ [(a1, a2)])) none)) )) )) )) d.1.2.1 d.1.2.2.1 d.2.1.2.2.2.1 d.2.1.2.2.2.2.1 d.2.1.2.2.2.2.2.1 d.2.2.1.2.1 d.2.2.2.1.2.1 (fun (y0 : Int) (y1 : Int) (y2 : Bool) (y3 : Int) => K [.lf (.int .i64 y0)] [some ⟨false, [.full 1, .full 2, .int .i64 y1, .bool y2, .int .i64 y3]⟩, some ⟨d.2.2.1.1, [.seq .str 0 d.2.2.1.2.1]⟩, some ⟨false, [.seq (.pair (.int .i64) .str) 0 d.2.2.2.1.2.1]⟩]) (fun (y1 : Int) (y2 : Bool) (y3 : Int) (y5 : List (Int × ByteArray)) => K [.lf (.int .i64 0)] [some ⟨false, [.full 1, .full 3, .int .i64 y1, .bool y2, .int .i64 y3]⟩, some ⟨d.2.2.1.1, [.seq .str 0 d.2.2.1.2.1]⟩, none, some ⟨false, [.seq (.pair (.int .i64) .str) 0 y5]⟩]) := by kernel_rfl
theorem E55_1 (F : Nat) (d : sh55_1.den) (K : KF) : evBody Tryd.prog (T55_1 F) (xw []) 40 3 (LT55_1 F) code55 Tryd.f55.results.toList (encT sh55_1.vs d.1) (encH sh55_1.h d.2) K = f55_1 F d.1.2.1 d.1.2.2.1 d.2.1.2.2.2.1 d.2.1.2.2.2.2.1 d.2.1.2.2.2.2.2.1 d.2.2.1.2.1 d.2.2.2.1.2.1 (fun (y0 : Int) (y1 : Int) (y2 : Bool) (y3 : Int) => K [.lf (.int .i64 y0)] [some ⟨false, [.full 1, .full 2, .int .i64 y1, .bool y2, .int .i64 y3]⟩, some ⟨d.2.2.1.1, [.seq .str 0 d.2.2.1.2.1]⟩, some ⟨false, [.seq (.pair (.int .i64) .str) 0 d.2.2.2.1.2.1]⟩]) (fun (y1 : Int) (y2 : Bool) (y3 : Int) (y5 : List (Int × ByteArray)) => K [.lf (.int .i64 0)] [some ⟨false, [.full 1, .full 3, .int .i64 y1, .bool y2, .int .i64 y3]⟩, some ⟨d.2.2.1.1, [.seq .str 0 d.2.2.1.2.1]⟩, none, some ⟨false, [.seq (.pair (.int .i64) .str) 0 y5]⟩]) := Eq.mp (by kernel_rfl) (E55_1g F (f43_1 F) (f65_1 F) (f96_1 F)   d K)
theorem S55_1_ok (F : Nat) (o : Summ) (ho : SoundFn Tryd.prog 55 o) : SoundFn Tryd.prog 55 (S55_1 F o) :=
  soundFn_of (fn := Tryd.f55) (c := code55) rfl rfl (by kernel_rfl) (tab_cons (S43_1_ok F _ (noS_sound enter43)) (tab_cons (S65_1_ok F _ (noS_sound enter65)) (tab_cons (S96_1_ok F _ (noS_sound enter96)) tab_nil))) (by kernel_rfl) (by kernel_rfl) ho (by rw [loops55]; exact loopsOK_nil) (by rw [scopes55]; exact scopesOK_nil) (by rw [ranges55]; exact rangesOK_nil) (E55_1 F)
end Go.Proofs.YtillbabmlfjegaaDoor.X
end

section
namespace Go.Proofs.YtillbabmlfjegaaDoor.X
open Go Go.Proofs.YtillbabmlfjegaaDoor.Ev Go.Proofs
set_option linter.unusedVariables false
set_option linter.unusedSectionVars false
/-! disk.Disk).Flush -/
noncomputable def f56_1_l6 {β : Type} (F : Nat) (v5 : Int) (v7 : Int) (v8 : Bool) (v9 : Int) (v11 : List (Int × ByteArray)) (K0 : List ByteArray → Option β) : Nat → Int → List ByteArray → Option β
  | 0, _, _ => none
  | k + 1, v6, v10 => cond (decide (v6 < v5)) (cond (decide ((0 : Int) ≤ v6 ∧ v6 < ((v11.length : Nat) : Int))) (cond (decide (0 + v6.toNat < v11.length)) (cond (decide ((0 : Int) ≤ (v11.getD (0 + v6.toNat) (0, ByteArray.empty)).1 ∧ (v11.getD (0 + v6.toNat) (0, ByteArray.empty)).1 < ((v10.length : Nat) : Int))) (cond (decide (0 + (((v11.getD (0 + v6.toNat) (0, ByteArray.empty)).1).toNat) < v10.length)) (f56_1_l6 F v5 v7 v8 v9 v11 K0 k (IntKind.i64.wrap (v6 + 1)) (v10.set (0 + (((v11.getD (0 + v6.toNat) (0, ByteArray.empty)).1).toNat)) ((v11.getD (0 + v6.toNat) (0, ByteArray.empty)).2))) none) none) none) none) (K0 v10)
noncomputable def f56_1 {β : Type} (F : Nat) (a1 : Int) (a2 : Bool) (a3 : Int) (a4 : List ByteArray) (a5 : List (Int × ByteArray)) (K0 : Int → Bool → Int → Option β) (K1 : Int → Bool → Int → List ByteArray → List (Int × ByteArray) → Option β) : Option β := cond a2 (K0 a1 a2 a3) (f96_1 F a1 a2 a3 a4 a5 (fun x1 x2 x3 x4 => cond (!x1) (K0 x2 x3 x4) (f56_1_l6 F ((a5.length : Nat) : Int) x2 x3 x4 a5 (fun x12 => K1 x2 x3 x4 x12 []) F 0 a4)) )
variable [FZ]
def sh56_1 : Sh := ⟨[.lf (.ptr 0 0)], [some ⟨some false, [.full 1, .full 2, .int .i64, .bool, .int .i64]⟩, some ⟨some false, [.seq .str 0]⟩, some ⟨none, [.seq (.pair (.int .i64) .str) 0]⟩]⟩
noncomputable def S56_1 (F : Nat) (o : Summ) : Summ := mkS sh56_1 (fun d K => f56_1 F d.2.1.2.2.2.1 d.2.1.2.2.2.2.1 d.2.1.2.2.2.2.2.1 d.2.2.1.2.1 d.2.2.2.1.2.1 (fun (y1 : Int) (y2 : Bool) (y3 : Int) => K [.lf (.int .i64 5)] [some ⟨false, [.full 1, .full 2, .int .i64 y1, .bool y2, .int .i64 y3]⟩, some ⟨false, [.seq .str 0 d.2.2.1.2.1]⟩, some ⟨d.2.2.2.1.1, [.seq (.pair (.int .i64) .str) 0 d.2.2.2.1.2.1]⟩]) (fun (y1 : Int) (y2 : Bool) (y3 : Int) (y4 : List ByteArray) (y6 : List (Int × ByteArray)) => K [.lf (.int .i64 0)] [some ⟨false, [.full 1, .full 3, .int .i64 y1, .bool y2, .int .i64 y3]⟩, some ⟨false, [.seq .str 0 y4]⟩, some ⟨d.2.2.2.1.1, [.seq (.pair (.int .i64) .str) 0 d.2.2.2.1.2.1]⟩, some ⟨false, [.seq (.pair (.int .i64) .str) 0 y6]⟩])) o
noncomputable def code56 : Code := bodyOf Tryd.f56
noncomputable def b56_0 : Code := cB (cB (cR (cL (cR (cR (code56))))))
theorem scopes56 : scopesOf code56 = [] := by kernel_rfl
theorem ranges56 : rangesOf code56 = [] := by kernel_rfl
theorem loops56 : loopsOf code56 = [b56_0] := by kernel_rfl
theorem enter56 : ∀ args w, (callFunc 56 args).run Tryd.prog w = .ok (.enter 56 args) w := enter_of (fn := Tryd.f56) (by kernel_rfl) (by kernel_rfl) (by kernel_rfl)
noncomputable def T56_1 (F : Nat) : FuncId → Option Summ := tab [(96, (S96_1 F noS))]
def sh56_1_l6 : Sh := ⟨[.lf (.ptr 0 0), .lf (.full 2), .lf (.int .i64), .lf (.int .i64)], [some ⟨some false, [.full 1, .full 2, .int .i64, .bool, .int .i64]⟩, some ⟨some false, [.seq .str 0]⟩, some ⟨none, [.seq (.pair (.int .i64) .str) 0]⟩]⟩
noncomputable def G56_1_6 (F k : Nat) : LoopS := mkG sh56_1_l6 [0, 21, 22, 23] (outT [(.exit 1, [0])]) (fun d K => f56_1_l6 F d.1.2.2.1 d.2.1.2.2.2.1 d.2.1.2.2.2.2.1 d.2.1.2.2.2.2.2.1 d.2.2.2.1.2.1 (fun (y3 : List ByteArray) => K (.exit 1) [.tv (.lf (.ptr 0 0))] [some ⟨false, [.full 1, .full 2, .int .i64 d.2.1.2.2.2.1, .bool d.2.1.2.2.2.2.1, .int .i64 d.2.1.2.2.2.2.2.1]⟩, some ⟨false, [.seq .str 0 y3]⟩, some ⟨d.2.2.2.1.1, [.seq (.pair (.int .i64) .str) 0 d.2.2.2.1.2.1]⟩]) k d.1.2.2.2.1 d.2.2.1.2.1) []
noncomputable def LT56_1 (F : Nat) : Nat → Option LoopS := ltab [(6, G56_1_6 F F)]
theorem L56_1_l6g (F k : Nat) (c96_1 : Int → Bool → Int → List ByteArray → List (Int × ByteArray) → (Bool → Int → Bool → Int → Option Res) → Option Res)  (l6 : Int → Int → Bool → Int → List (Int × ByteArray) → (List ByteArray → Option Res) → Nat → Int → List ByteArray → Option Res) (X6 : LoopS) (d : sh56_1_l6.den) (K : KL) : (fun (v5 : Int) (v7 : Int) (v8 : Bool) (v9 : Int) (v11 : List (Int × ByteArray)) (K0 : (List ByteArray → Option Res)) (k : Nat) (v6 : Int) (v10 : List ByteArray) => cond (decide (v6 < v5)) (cond (decide ((0 : Int) ≤ v6 ∧ v6 < ((v11.length : Nat) : Int))) (cond (decide (0 + v6.toNat < v11.length)) (cond (decide ((0 : Int) ≤ (v11.getD (0 + v6.toNat) (0, ByteArray.empty)).1 ∧ (v11.getD (0 + v6.toNat) (0, ByteArray.empty)).1 < ((v10.length : Nat) : Int))) (cond (decide (0 + (((v11.getD (0 + v6.toNat) (0, ByteArray.empty)).1).toNat) < v10.length)) (l6 v5 v7 v8 v9 v11 K0 k (IntKind.i64.wrap (v6 + 1)) (v10.set (0 + (((v11.getD (0 + v6.toNat) (0, ByteArray.empty)).1).toNat)) ((v11.getD (0 + v6.toNat) (0, ByteArray.empty)).2))) none) none) none) none) (K0 v10)) d.1.2.2.1 d.2.1.2.2.2.1 d.2.1.2.2.2.2.1 d.2.1.2.2.2.2.2.1 d.2.2.2.1.2.1 (fun (y3 : List ByteArray) => K (.exit 1) [.tv (.lf (.ptr 0 0))] [some ⟨false, [.full 1, .full 2, .int .i64 d.2.1.2.2.2.1, .bool d.2.1.2.2.2.2.1, .int .i64 d.2.1.2.2.2.2.2.1]⟩, some ⟨false, [.seq .str 0 y3]⟩, some ⟨d.2.2.2.1.1, [.seq (.pair (.int .i64) .str) 0 d.2.2.2.1.2.1]⟩]) k d.1.2.2.2.1 d.2.2.1.2.1 = roundOf Tryd.prog (tab [(96, (mkS sh96_1 (fun d K => c96_1 d.2.1.2.2.2.1 d.2.1.2.2.2.2.1 d.2.1.2.2.2.2.2.1 d.2.2.1.2.1 d.2.2.2.1.2.1 (fun (y0 : Bool) (y1 : Int) (y2 : Bool) (y3 : Int) => K [.lf (.bool y0)] [some ⟨false, [.full 1, .full 2, .int .i64 y1, .bool y2, .int .i64 y3]⟩, some ⟨d.2.2.1.1, [.seq .str 0 d.2.2.1.2.1]⟩, some ⟨d.2.2.2.1.1, [.seq (.pair (.int .i64) .str) 0 d.2.2.2.1.2.1]⟩])) noS))]) (xw []) 40 3 (ltab [(6, X6)]) (mkG sh56_1_l6 [0, 21, 22, 23] (outT [(.exit 1, [0])]) (fun d K => l6 d.1.2.2.1 d.2.1.2.2.2.1 d.2.1.2.2.2.2.1 d.2.1.2.2.2.2.2.1 d.2.2.2.1.2.1 (fun (y3 : List ByteArray) => K (.exit 1) [.tv (.lf (.ptr 0 0))] [some ⟨false, [.full 1, .full 2, .int .i64 d.2.1.2.2.2.1, .bool d.2.1.2.2.2.2.1, .int .i64 d.2.1.2.2.2.2.2.1]⟩, some ⟨false, [.seq .str 0 y3]⟩, some ⟨d.2.2.2.1.1, [.seq (.pair (.int .i64) .str) 0 d.2.2.2.1.2.1]⟩]) k d.1.2.2.2.1 d.2.2.1.2.1) []) b56_0 (encT sh56_1_l6.vs d.1) (encH sh56_1_l6.h d.2) K := by kernel_rfl
theorem L56_1_6 (F : Nat) : LoopOK Tryd.prog (T56_1 F) (xw []) 40 3 (LT56_1 F) (G56_1_6 F F) b56_0 :=
  loopOK_of (s := sh56_1_l6) (live := [0, 21, 22, 23]) (out := (outT [(.exit 1, [0])])) (mv := []) (fun k d K => f56_1_l6 F d.1.2.2.1 d.2.1.2.2.2.1 d.2.1.2.2.2.2.1 d.2.1.2.2.2.2.2.1 d.2.2.2.1.2.1 (fun (y3 : List ByteArray) => K (.exit 1) [.tv (.lf (.ptr 0 0))] [some ⟨false, [.full 1, .full 2, .int .i64 d.2.1.2.2.2.1, .bool d.2.1.2.2.2.2.1, .int .i64 d.2.1.2.2.2.2.2.1]⟩, some ⟨false, [.seq .str 0 y3]⟩, some ⟨d.2.2.2.1.1, [.seq (.pair (.int .i64) .str) 0 d.2.2.2.1.2.1]⟩]) k d.1.2.2.2.1 d.2.2.1.2.1) F (fun d K => by kernel_rfl)  (fun k d K => Eq.mp (by kernel_rfl) (L56_1_l6g F k (f96_1 F)  (f56_1_l6 F) (G56_1_6 F F) d K))
theorem E56_1g (F : Nat) (c96_1 : Int → Bool → Int → List ByteArray → List (Int × ByteArray) → (Bool → Int → Bool → Int → Option Res) → Option Res) (l6 : Int → Int → Bool → Int → List (Int × ByteArray) → (List ByteArray → Option Res) → Nat → Int → List ByteArray → Option Res)  (d : sh56_1.den) (K : KF) : evBody Tryd.prog (tab [(96, (mkS sh96_1 (fun d K => c96_1 d.2.1.2.2.2.1 d.2.1.2.2.2.2.1 d.2.1.2.2.2.2.2.1 d.2.2.1.2.1 d.2.2.2.1.2.1 (fun (y0 : Bool) (y1 : Int) (y2 : Bool) (y3 : Int) => K [.lf (.bool y0)] [some ⟨false, [.full 1, .full 2, .int .i64 y1, .bool y2, .int .i64 y3]⟩, some ⟨d.2.2.1.1, [.seq .str 0 d.2.2.1.2.1]⟩, some ⟨d.2.2.2.1.1, [.seq (.pair (.int .i64) .str) 0 d.2.2.2.1.2.1]⟩])) noS))]) (xw []) 40 3 (ltab [(6, mkG sh56_1_l6 [0, 21, 22, 23] (outT [(.exit 1, [0])]) (fun d K => l6 d.1.2.2.1 d.2.1.2.2.2.1 d.2.1.2.2.2.2.1 d.2.1.2.2.2.2.2.1 d.2.2.2.1.2.1 (fun (y3 : List ByteArray) => K (.exit 1) [.tv (.lf (.ptr 0 0))] [some ⟨false, [.full 1, .full 2, .int .i64 d.2.1.2.2.2.1, .bool d.2.1.2.2.2.2.1, .int .i64 d.2.1.2.2.2.2.2.1]⟩, some ⟨false, [.seq .str 0 y3]⟩, some ⟨d.2.2.2.1.1, [.seq (.pair (.int .i64) .str) 0 d.2.2.2.1.2.1]⟩]) F d.1.2.2.2.1 d.2.2.1.2.1) [])]) code56 Tryd.f56.results.toList (encT sh56_1.vs d.1) (encH sh56_1.h d.2) K = (fun (a1 : Int) (a2 : Bool) (a3 : Int) (a4 : List ByteArray) (a5 : List (Int × ByteArray)) (K0 : (Int → Bool → Int → Option Res)) (K1 : (Int → Bool → Int → List ByteArray → List (Int × ByteArray) → Option Res)) => cond a2 (K0 a1 a2 a3) (c96_1 a1 a2 a3 a4 a5 (fun x1 x2 x3 x4 => cond (!x1) (K0 x2 x3 x4) (l6 ((a5.length : Nat) : Int) x2 x3 x4 a5 (fun x12 => K1 x2 x3 x4 x12 []) F 0 a4)) )) d.2.1.2.2.2.1 d.2.1.2.2.2.2.1 d.2.1.2.2.2.2.2.1 d.2.2.1.2.1 d.2.2.2.1.2.1 (fun (y1 : Int) (y2 : Bool) (y3 : Int) => K [.lf (.int .i64 5)] [some ⟨false, [.full 1, .full 2, .int .i64 y1, .bool y2, .int .i64 y3]⟩, some ⟨false, [.seq .str 0 d.2.2.1.2.1]⟩, some ⟨d.2.2.2.1.1, [.seq (.pair (.int .i64) .str) 0 d.2.2.2.1.2.1]⟩]) (fun (y1 : Int) (y2 : Bool) (y3 : Int) (y4 : List ByteArray) (y6 : List (Int × ByteArray)) => K [.lf (.int .i64 0)] [some ⟨false, [.full 1, .full 3, .int .i64 y1, .bool y2, .int .i64 y3]⟩, some ⟨false, [.seq .str 0 y4]⟩, some ⟨d.2.2.2.1.1, [.seq (.pair (.int .i64) .str) 0 d.2.2.2.1.2.1]⟩, some ⟨false, [.seq (.pair (.int .i64) .str) 0 y6]⟩]) := by kernel_rfl
theorem E56_1 (F : Nat) (d : sh56_1.den) (K : KF) : evBody Tryd.prog (T56_1 F) (xw []) 40 3 (LT56_1 F) code56 Tryd.f56.results.toList (encT sh56_1.vs d.1) (encH sh56_1.h d.2) K = f56_1 F d.2.1.2.2.2.1 d.2.1.2.2.2.2.1 d.2.1.2.2.2.2.2.1 d.2.2.1.2.1 d.2.2.2.1.2.1 (fun (y1 : Int) (y2 : Bool) (y3 : Int) => K [.lf (.int .i64 5)] [some ⟨false, [.full 1, .full 2, .int .i64 y1, .bool y2, .int .i64 y3]⟩, some ⟨false, [.seq .str 0 d.2.2.1.2.1]⟩, some ⟨d.2.2.2.1.1, [.seq (.pair (.int .i64) .str) 0 d.2.2.2.1.2.1]⟩]) (fun (y1 : Int) (y2 : Bool) (y3 : Int) (y4 : List ByteArray) (y6 : List (Int × ByteArray)) => K [.lf (.int .i64 0)] [some ⟨false, [.full 1, .full 3, .int .i64 y1, .bool y2, .int .i64 y3]⟩, some ⟨false, [.seq .str 0 y4]⟩, some ⟨d.2.2.2.1.1, [.seq (.pair (.int .i64) .str) 0 d.2.2.2.1.2.1]⟩, some ⟨false, [.seq (.pair (.int .i64) .str) 0 y6]⟩]) := Eq.mp (by kernel_rfl) (E56_1g F (f96_1 F) (f56_1_l6 F)  d K)
theorem S56_1_ok (F : Nat) (o : Summ) (ho : SoundFn Tryd.prog 56 o) : SoundFn Tryd.prog 56 (S56_1 F o) :=
  soundFn_of (fn := Tryd.f56) (c := code56) rfl rfl (by kernel_rfl) (tab_cons (S96_1_ok F _ (noS_sound enter96)) tab_nil) (by kernel_rfl) (by kernel_rfl) ho (by rw [loops56]; exact (loopsOK_cons (by kernel_rfl) (L56_1_6 F) loopsOK_nil)) (by rw [scopes56]; exact scopesOK_nil) (by rw [ranges56]; exact rangesOK_nil) (E56_1 F)
end Go.Proofs.YtillbabmlfjegaaDoor.X
end

section
namespace Go.Proofs.YtillbabmlfjegaaDoor.X
open Go Go.Proofs.YtillbabmlfjegaaDoor.Ev Go.Proofs
set_option linter.unusedVariables false
set_option linter.unusedSectionVars false
/-! slot.Save -/
noncomputable def f23_1 {β : Type} (F : Nat) (a1 : Int) (a2 : Int) (a3 : Int) (a4 : ByteArray) (a5 : Int) (a6 : Bool) (a7 : Int) (a8 : List ByteArray) (a9 : List (Int × ByteArray)) (K0 : Int → Int → Bool → Int → Option β) (K1 : Int → Bool → Int → List ByteArray → List (Int × ByteArray) → Option β) (K2 : Int → Int → Bool → Int → List ByteArray → List (Int × ByteArray) → Option β) : Option β := cond (decide (a1 < 0)) (K0 3 a5 a6 a7) (cond (decide (a1 > 1200)) (K0 3 a5 a6 a7) (cond (decide ((a4.size : Int) > 50)) (K0 8 a5 a6 a7) (f47_1 F 8 a3 [] (fun x1 => cond (decide ((ofInts x1).size + a4.size ≤ 4611686018427387904)) (f10_1 F a2 ((ofInts x1) ++ a4) (fun x2 x3 => cond (x3 != 0) (K0 x3 a5 a6 a7) (f55_1 F (IntKind.i64.wrap (a1 + (IntKind.i64.wrap (iand .u64 a3 1)))) x2 a5 a6 a7 a8 a9 (fun x4 x5 x6 x7 => cond (x4 != 0) (K0 x4 x5 x6 x7) (f56_1 F x5 x6 x7 a8 a9 (fun x8 x9 x10 => K0 5 x8 x9 x10) (fun x11 x12 x13 x14 x15 => K1 x11 x12 x13 x14 x15) )) (fun x16 x17 x18 x19 => f56_1 F x16 x17 x18 a8 x19 (fun x20 x21 x22 => K2 5 x20 x21 x22 a8 x19) (fun x23 x24 x25 x26 x27 => K2 0 x23 x24 x25 x26 x27) ) )) ) none) )))
variable [FZ]
def sh23_1 : Sh := ⟨[.lf (.ptr 0 0), .lf (.int .i64), .lf (.int .i64), .lf (.int .u64), .lf (.str)], [some ⟨some false, [.full 1, .full 2, .int .i64, .bool, .int .i64]⟩, some ⟨some false, [.seq .str 0]⟩, some ⟨some false, [.seq (.pair (.int .i64) .str) 0]⟩]⟩
noncomputable def S23_1 (F : Nat) (o : Summ) : Summ := mkS sh23_1 (fun d K => f23_1 F d.1.2.1 d.1.2.2.1 d.1.2.2.2.1 d.1.2.2.2.2.1 d.2.1.2.2.2.1 d.2.1.2.2.2.2.1 d.2.1.2.2.2.2.2.1 d.2.2.1.2.1 d.2.2.2.1.2.1 (fun (y0 : Int) (y1 : Int) (y2 : Bool) (y3 : Int) => K [.lf (.int .i64 y0)] [some ⟨false, [.full 1, .full 2, .int .i64 y1, .bool y2, .int .i64 y3]⟩, some ⟨false, [.seq .str 0 d.2.2.1.2.1]⟩, some ⟨false, [.seq (.pair (.int .i64) .str) 0 d.2.2.2.1.2.1]⟩]) (fun (y1 : Int) (y2 : Bool) (y3 : Int) (y4 : List ByteArray) (y6 : List (Int × ByteArray)) => K [.lf (.int .i64 0)] [some ⟨false, [.full 1, .full 3, .int .i64 y1, .bool y2, .int .i64 y3]⟩, some ⟨false, [.seq .str 0 y4]⟩, some ⟨false, [.seq (.pair (.int .i64) .str) 0 d.2.2.2.1.2.1]⟩, some ⟨false, [.seq (.pair (.int .i64) .str) 0 y6]⟩]) (fun (y0 : Int) (y1 : Int) (y2 : Bool) (y3 : Int) (y4 : List ByteArray) (y5 : List (Int × ByteArray)) => K [.lf (.int .i64 y0)] [some ⟨false, [.full 1, .full 3, .int .i64 y1, .bool y2, .int .i64 y3]⟩, some ⟨false, [.seq .str 0 y4]⟩, none, some ⟨false, [.seq (.pair (.int .i64) .str) 0 y5]⟩])) o
noncomputable def code23 : Code := bodyOf Tryd.f23
theorem scopes23 : scopesOf code23 = [] := by kernel_rfl
theorem ranges23 : rangesOf code23 = [] := by kernel_rfl
theorem loops23 : loopsOf code23 = [] := by kernel_rfl
theorem enter23 : ∀ args w, (callFunc 23 args).run Tryd.prog w = .ok (.enter 23 args) w := enter_of (fn := Tryd.f23) (by kernel_rfl) (by kernel_rfl) (by kernel_rfl)
noncomputable def T23_1 (F : Nat) : FuncId → Option Summ := tab [(10, (S10_1 F noS)), (47, (S47_1 F noS)), (55, (S55_1 F noS)), (56, (S56_1 F noS))]
noncomputable def LT23_1 (F : Nat) : Nat → Option LoopS := ltab []
theorem E23_1g (F : Nat) (c10_1 : Int → ByteArray → (ByteArray → Int → Option Res) → Option Res) (c47_1 : Int → Int → List Int → (List Int → Option Res) → Option Res) (c55_1 : Int → ByteArray → Int → Bool → Int → List ByteArray → List (Int × ByteArray) → (Int → Int → Bool → Int → Option Res) → (Int → Bool → Int → List (Int × ByteArray) → Option Res) → Option Res) (c56_1 : Int → Bool → Int → List ByteArray → List (Int × ByteArray) → (Int → Bool → Int → Option Res) → (Int → Bool → Int → List ByteArray → List (Int × ByteArray) → Option Res) → Option Res)   (d : sh23_1.den) (K : KF) : evBody Tryd.prog (tab [(10, (mkS sh10_1 (fun d K => c10_1 d.1.1 d.1.2.1 (fun (y0 : ByteArray) (y1 : Int) => K [.lf (.str y0), .lf (.int .i64 y1)] [])) noS)), (47, (mkS sh47_1 (fun d K => c47_1 d.1.2.1 d.1.2.2.1 d.2.1.2.1 (fun (y1 : List Int) => K [.lf (.full 1)] [some ⟨d.2.1.1, [.seq (.int .u8) 0 d.2.1.2.1]⟩, some ⟨false, [.seq (.int .u8) 0 y1]⟩])) noS)), (55, (mkS sh55_1 (fun d K => c55_1 d.1.2.1 d.1.2.2.1 d.2.1.2.2.2.1 d.2.1.2.2.2.2.1 d.2.1.2.2.2.2.2.1 d.2.2.1.2.1 d.2.2.2.1.2.1 (fun (y0 : Int) (y1 : Int) (y2 : Bool) (y3 : Int) => K [.lf (.int .i64 y0)] [some ⟨false, [.full 1, .full 2, .int .i64 y1, .bool y2, .int .i64 y3]⟩, some ⟨d.2.2.1.1, [.seq .str 0 d.2.2.1.2.1]⟩, some ⟨false, [.seq (.pair (.int .i64) .str) 0 d.2.2.2.1.2.1]⟩]) (fun (y1 : Int) (y2 : Bool) (y3 : Int) (y5 : List (Int × ByteArray)) => K [.lf (.int .i64 0)] [some ⟨false, [.full 1, .full 3, .int .i64 y1, .bool y2, .int .i64 y3]⟩, some ⟨d.2.2.1.1, [.seq .str 0 d.2.2.1.2.1]⟩, none, some ⟨false, [.seq (.pair (.int .i64) .str) 0 y5]⟩])) noS)), (56, (mkS sh56_1 (fun d K => c56_1 d.2.1.2.2.2.1 d.2.1.2.2.2.2.1 d.2.1.2.2.2.2.2.1 d.2.2.1.2.1 d.2.2.2.1.2.1 (fun (y1 : Int) (y2 : Bool) (y3 : Int) => K [.lf (.int .i64 5)] [some ⟨false, [.full 1, .full 2, .int .i64 y1, .bool y2, .int .i64 y3]⟩, some ⟨false, [.seq .str 0 d.2.2.1.2.1]⟩, some ⟨d.2.2.2.1.1, [.seq (.pair (.int .i64) .str) 0 d.2.2.2.1.2.1]⟩]) (fun (y1 : Int) (y2 : Bool) (y3 : Int) (y4 : List ByteArray) (y6 : List (Int × ByteArray)) => K [.lf (.int .i64 0)] [some ⟨false, [.full 1, .full 3, .int .i64 y1, .bool y2, .int .i64 y3]⟩, some ⟨false, [.seq .str 0 y4]⟩, some ⟨d.2.2.2.1.1, [.seq (.pair (.int .i64) .str) 0 d.2.2.2.1.2.1]⟩, some ⟨false, [.seq (.pair (.int .i64) .str) 0 y6]⟩])) noS))]) (xw []) 51 3 (ltab []) code23 Tryd.f23.results.toList (encT sh23_1.vs d.1) (encH sh23_1.h d.2) K = (fun (a1 : Int) (a2 : Int) (a3 : Int) (a4 : ByteArray) (a5 : Int) (a6 : Bool) (a7 : Int) (a8 : List ByteArray) (a9 : List (Int × ByteArray)) (K0 : (Int → Int → Bool → Int → Option Res)) (K1 : (Int → Bool → Int → List ByteArray → List (Int × ByteArray) → Option Res)) (K2 : (Int → Int → Bool → Int → List ByteArray → List (Int × ByteArray) → Option Res)) => cond (decide (a1 < 0)) (K0 3 a5 a6 a7) (cond (decide (a1 > 1200)) (K0 3 a5 a6 a7) (cond (decide ((a4.size : Int) > 50)) (K0 8 a5 a6 a7) (c47_1 8 a3 [] (fun x1 => cond (decide ((ofInts x1).size + a4.size ≤ 4611686018427387904)) (c10_1 a2 ((ofInts x1) ++ a4) (fun x2 x3 => cond (x3 != 0) (K0 x3 a5 a6 a7) (c55_1 (IntKind.i64.wrap (a1 + (IntKind.i64.wrap (iand .u64 a3 1)))) x2 a5 a6 a7 a8 a9 (fun x4 x5 x6 x7 => cond (x4 != 0) (K0 x4 x5 x6 x7) (c56_1 x5 x6 x7 a8 a9 (fun x8 x9 x10 => K0 5 x8 x9 x10) (fun x11 x12 x13 x14 x15 => K1 x11 x12 x13 x14 x15) )) (fun x16 x17 x18 x19 => c56_1 x16 x17 x18 a8 x19 (fun x20 x21 x22 => K2 5 x20 x21 x22 a8 x19) (fun x23 x24 x25 x26 x27 => K2 0 x23 x24 x25 x26 x27) ) )) ) none) )))) d.1.2.1 d.1.2.2.1 d.1.2.2.2.1 d.1.2.2.2.2.1 d.2.1.2.2.2.1 d.2.1.2.2.2.2.1 d.2.1.2.2.2.2.2.1 d.2.2.1.2.1 d.2.2.2.1.2.1 (fun (y0 : Int) (y1 : Int) (y2 : Bool) (y3 : Int) => K [.lf (.int .i64 y0)] [some ⟨false, [.full 1, .full 2, .int .i64 y1, .bool y2, .int .i64 y3]⟩, some ⟨false, [.seq .str 0 d.2.2.1.2.1]⟩, some ⟨false, [.seq (.pair (.int .i64) .str) 0 d.2.2.2.1.2.1]⟩]) (fun (y1 : Int) (y2 : Bool) (y3 : Int) (y4 : List ByteArray) (y6 : List (Int × ByteArray)) => K [.lf (.int .i64 0)] [some ⟨false, [.full 1, .full 3, .int .i64 y1, .bool y2, .int .i64 y3]⟩, some ⟨false, [.seq .str 0 y4]⟩, some ⟨false, [.seq (.pair (.int .i64) .str) 0 d.2.2.2.1.2.1]⟩, some ⟨false, [.seq (.pair (.int .i64) .str) 0 y6]⟩]) (fun (y0 : Int) (y1 : Int) (y2 : Bool) (y3 : Int) (y4 : List ByteArray) (y5 : List (Int × ByteArray)) => K [.lf (.int .i64 y0)] [some ⟨false, [.full 1, .full 3, .int .i64 y1, .bool y2, .int .i64 y3]⟩, some ⟨false, [.seq .str 0 y4]⟩, none, some ⟨false, [.seq (.pair (.int .i64) .str) 0 y5]⟩]) := by kernel_rfl
theorem E23_1 (F : Nat) (d : sh23_1.den) (K : KF) : evBody Tryd.prog (T23_1 F) (xw []) 51 3 (LT23_1 F) code23 Tryd.f23.results.toList (encT sh23_1.vs d.1) (encH sh23_1.h d.2) K = f23_1 F d.1.2.1 d.1.2.2.1 d.1.2.2.2.1 d.1.2.2.2.2.1 d.2.1.2.2.2.1 d.2.1.2.2.2.2.1 d.2.1.2.2.2.2.2.1 d.2.2.1.2.1 d.2.2.2.1.2.1 (fun (y0 : Int) (y1 : Int) (y2 : Bool) (y3 : Int) => K [.lf (.int .i64 y0)] [some ⟨false, [.full 1, .full 2, .int .i64 y1, .bool y2, .int .i64 y3]⟩, some ⟨false, [.seq .str 0 d.2.2.1.2.1]⟩, some ⟨false, [.seq (.pair (.int .i64) .str) 0 d.2.2.2.1.2.1]⟩]) (fun (y1 : Int) (y2 : Bool) (y3 : Int) (y4 : List ByteArray) (y6 : List (Int × ByteArray)) => K [.lf (.int .i64 0)] [some ⟨false, [.full 1, .full 3, .int .i64 y1, .bool y2, .int .i64 y3]⟩, some ⟨false, [.seq .str 0 y4]⟩, some ⟨false, [.seq (.pair (.int .i64) .str) 0 d.2.2.2.1.2.1]⟩, some ⟨false, [.seq (.pair (.int .i64) .str) 0 y6]⟩]) (fun (y0 : Int) (y1 : Int) (y2 : Bool) (y3 : Int) (y4 : List ByteArray) (y5 : List (Int × ByteArray)) => K [.lf (.int .i64 y0)] [some ⟨false, [.full 1, .full 3, .int .i64 y1, .bool y2, .int .i64 y3]⟩, some ⟨false, [.seq .str 0 y4]⟩, none, some ⟨false, [.seq (.pair (.int .i64) .str) 0 y5]⟩]) := Eq.mp (by kernel_rfl) (E23_1g F (f10_1 F) (f47_1 F) (f55_1 F) (f56_1 F)   d K)
theorem S23_1_ok (F : Nat) (o : Summ) (ho : SoundFn Tryd.prog 23 o) : SoundFn Tryd.prog 23 (S23_1 F o) :=
  soundFn_of (fn := Tryd.f23) (c := code23) rfl rfl (by kernel_rfl) (tab_cons (S10_1_ok F _ (noS_sound enter10)) (tab_cons (S47_1_ok F _ (noS_sound enter47)) (tab_cons (S55_1_ok F _ (noS_sound enter55)) (tab_cons (S56_1_ok F _ (noS_sound enter56)) tab_nil)))) (by kernel_rfl) (by kernel_rfl) ho (by rw [loops23]; exact loopsOK_nil) (by rw [scopes23]; exact scopesOK_nil) (by rw [ranges23]; exact rangesOK_nil) (E23_1 F)
end Go.Proofs.YtillbabmlfjegaaDoor.X
end

section
namespace Go.Proofs.YtillbabmlfjegaaDoor.X
open Go Go.Proofs.YtillbabmlfjegaaDoor.Ev Go.Proofs
set_option linter.unusedVariables false
set_option linter.unusedSectionVars false
/-! disk.Disk).Write -/
noncomputable def f55_1385 {β : Type} (F : Nat) (a1 : Int) (a2 : ByteArray) (K0 : Option β) : Option β := K0
variable [FZ]
def sh55_1385 : Sh := ⟨[.lf (.nilp), .lf (.int .i64), .lf (.str)], []⟩
noncomputable def S55_1385 (F : Nat) (o : Summ) : Summ := mkS sh55_1385 (fun d K => f55_1385 F d.1.2.1 d.1.2.2.1 (K [.lf (.int .i64 1)] [])) o
noncomputable def T55_1385 (F : Nat) : FuncId → Option Summ := tab []
noncomputable def LT55_1385 (F : Nat) : Nat → Option LoopS := ltab []
theorem E55_1385g (F : Nat)    (d : sh55_1385.den) (K : KF) : evBody Tryd.prog (tab []) (xw []) 40 0 (ltab []) code55 Tryd.f55.results.toList (encT sh55_1385.vs d.1) (encH sh55_1385.h d.2) K = (fun (a1 : Int) (a2 : ByteArray) (K0 : (Option Res)) => K0) d.1.2.1 d.1.2.2.1 (K [.lf (.int .i64 1)] []) := by kernel_rfl
theorem E55_1385 (F : Nat) (d : sh55_1385.den) (K : KF) : evBody Tryd.prog (T55_1385 F) (xw []) 40 0 (LT55_1385 F) code55 Tryd.f55.results.toList (encT sh55_1385.vs d.1) (encH sh55_1385.h d.2) K = f55_1385 F d.1.2.1 d.1.2.2.1 (K [.lf (.int .i64 1)] []) := Eq.mp (by kernel_rfl) (E55_1385g F    d K)
theorem S55_1385_ok (F : Nat) (o : Summ) (ho : SoundFn Tryd.prog 55 o) : SoundFn Tryd.prog 55 (S55_1385 F o) :=
  soundFn_of (fn := Tryd.f55) (c := code55) rfl rfl (by kernel_rfl) tab_nil (by kernel_rfl) (by kernel_rfl) ho (by rw [loops55]; exact loopsOK_nil) (by rw [scopes55]; exact scopesOK_nil) (by rw [ranges55]; exact rangesOK_nil) (E55_1385 F)
end Go.Proofs.YtillbabmlfjegaaDoor.X
end

section
namespace Go.Proofs.YtillbabmlfjegaaDoor.X
open Go Go.Proofs.YtillbabmlfjegaaDoor.Ev Go.Proofs
set_option linter.unusedVariables false
set_option linter.unusedSectionVars false
/-! slot.Save -/
noncomputable def f23_7107 {β : Type} (F : Nat) (a1 : Int) (a2 : Int) (a3 : Int) (a4 : ByteArray) (K0 : Int → Option β) : Option β := cond (decide (a1 < 0)) (K0 3) (cond (decide (a1 > 1200)) (K0 3) (cond (decide ((a4.size : Int) > 50)) (K0 8) (f47_1 F 8 a3 [] (fun x1 => cond (decide ((ofInts x1).size + a4.size ≤ 4611686018427387904)) (f10_1 F a2 ((ofInts x1) ++ a4) (fun x2 x3 => cond (x3 != 0) (K0 x3) (f55_1385 F (IntKind.i64.wrap (a1 + (IntKind.i64.wrap (iand .u64 a3 1)))) x2 (K0 1) )) ) none) )))
variable [FZ]
def sh23_7107 : Sh := ⟨[.lf (.nilp), .lf (.int .i64), .lf (.int .i64), .lf (.int .u64), .lf (.str)], []⟩
noncomputable def S23_7107 (F : Nat) (o : Summ) : Summ := mkS sh23_7107 (fun d K => f23_7107 F d.1.2.1 d.1.2.2.1 d.1.2.2.2.1 d.1.2.2.2.2.1 (fun (y0 : Int) => K [.lf (.int .i64 y0)] [])) o
noncomputable def T23_7107 (F : Nat) : FuncId → Option Summ := tab [(10, (S10_1 F noS)), (47, (S47_1 F noS)), (55, (S55_1385 F noS))]
noncomputable def LT23_7107 (F : Nat) : Nat → Option LoopS := ltab []
theorem E23_7107g (F : Nat) (c10_1 : Int → ByteArray → (ByteArray → Int → Option Res) → Option Res) (c47_1 : Int → Int → List Int → (List Int → Option Res) → Option Res) (c55_1385 : Int → ByteArray → (Option Res) → Option Res)   (d : sh23_7107.den) (K : KF) : evBody Tryd.prog (tab [(10, (mkS sh10_1 (fun d K => c10_1 d.1.1 d.1.2.1 (fun (y0 : ByteArray) (y1 : Int) => K [.lf (.str y0), .lf (.int .i64 y1)] [])) noS)), (47, (mkS sh47_1 (fun d K => c47_1 d.1.2.1 d.1.2.2.1 d.2.1.2.1 (fun (y1 : List Int) => K [.lf (.full 1)] [some ⟨d.2.1.1, [.seq (.int .u8) 0 d.2.1.2.1]⟩, some ⟨false, [.seq (.int .u8) 0 y1]⟩])) noS)), (55, (mkS sh55_1385 (fun d K => c55_1385 d.1.2.1 d.1.2.2.1 (K [.lf (.int .i64 1)] [])) noS))]) (xw []) 51 0 (ltab []) code23 Tryd.f23.results.toList (encT sh23_7107.vs d.1) (encH sh23_7107.h d.2) K = (fun (a1 : Int) (a2 : Int) (a3 : Int) (a4 : ByteArray) (K0 : (Int → Option Res)) => cond (decide (a1 < 0)) (K0 3) (cond (decide (a1 > 1200)) (K0 3) (cond (decide ((a4.size : Int) > 50)) (K0 8) (c47_1 8 a3 [] (fun x1 => cond (decide ((ofInts x1).size + a4.size ≤ 4611686018427387904)) (c10_1 a2 ((ofInts x1) ++ a4) (fun x2 x3 => cond (x3 != 0) (K0 x3) (c55_1385 (IntKind.i64.wrap (a1 + (IntKind.i64.wrap (iand .u64 a3 1)))) x2 (K0 1) )) ) none) )))) d.1.2.1 d.1.2.2.1 d.1.2.2.2.1 d.1.2.2.2.2.1 (fun (y0 : Int) => K [.lf (.int .i64 y0)] []) := by kernel_rfl
theorem E23_7107 (F : Nat) (d : sh23_7107.den) (K : KF) : evBody Tryd.prog (T23_7107 F) (xw []) 51 0 (LT23_7107 F) code23 Tryd.f23.results.toList (encT sh23_7107.vs d.1) (encH sh23_7107.h d.2) K = f23_7107 F d.1.2.1 d.1.2.2.1 d.1.2.2.2.1 d.1.2.2.2.2.1 (fun (y0 : Int) => K [.lf (.int .i64 y0)] []) := Eq.mp (by kernel_rfl) (E23_7107g F (f10_1 F) (f47_1 F) (f55_1385 F)   d K)
theorem S23_7107_ok (F : Nat) (o : Summ) (ho : SoundFn Tryd.prog 23 o) : SoundFn Tryd.prog 23 (S23_7107 F o) :=
  soundFn_of (fn := Tryd.f23) (c := code23) rfl rfl (by kernel_rfl) (tab_cons (S10_1_ok F _ (noS_sound enter10)) (tab_cons (S47_1_ok F _ (noS_sound enter47)) (tab_cons (S55_1385_ok F _ (noS_sound enter55)) tab_nil))) (by kernel_rfl) (by kernel_rfl) ho (by rw [loops23]; exact loopsOK_nil) (by rw [scopes23]; exact scopesOK_nil) (by rw [ranges23]; exact rangesOK_nil) (E23_7107 F)
end Go.Proofs.YtillbabmlfjegaaDoor.X
end

section
/- strings.Trim: the contract of the kit, at this program. -/
namespace Go.Proofs.YtillbabmlfjegaaDoor.X
open Go Go.Proofs.YtillbabmlfjegaaDoor.Ev Go.Proofs Go.Shelf Go.RowKit
set_option linter.unusedVariables false
def trmRen : Go.Shelf.Ren := ⟨fun x => match x with | 160 => 44 | 232 => 85 | 231 => 84 | 227 => 86 | 234 => 88 | 233 => 87 | 236 => 90 | 235 => 89 | 228 => 114 | 271 => 117 | 151 => 116 | 197 => 115 | 120 => 127 | 152 => 126 | 260 => 125 | 137 => 129 | 119 => 130 | 224 => 131 | 225 => 132 | 217 => 133 | 266 => 134 | n => n, fun x => match x with | 9 => 9 | 4 => 4 | 3 => 3 | 5 => 5 | 117 => 137 | 116 => 136 | 0 => 0 | 124 => 140 | 21 => 21 | 105 => 162 | 46 => 121 | 119 => 173 | 139 => 176 | 138 => 175 | n => n, fun x => match x with | 3 => 1 | 4 => 2 | n => n⟩
theorem trmLays : Lays.n160 Tryd.prog trmRen where
  mixed := by kernel_rfl
  f119 := Tryd.func130.trans (congrArg some (by kernel_rfl))
  f120 := Tryd.func127.trans (congrArg some (by kernel_rfl))
  f137 := Tryd.func129.trans (congrArg some (by kernel_rfl))
  f151 := Tryd.func116.trans (congrArg some (by kernel_rfl))
  f152 := Tryd.func126.trans (congrArg some (by kernel_rfl))
  f160 := Tryd.func44.trans (congrArg some (by kernel_rfl))
  f197 := Tryd.func115.trans (congrArg some (by kernel_rfl))
  f217 := Tryd.func133.trans (congrArg some (by kernel_rfl))
  f224 := Tryd.func131.trans (congrArg some (by kernel_rfl))
  f225 := Tryd.func132.trans (congrArg some (by kernel_rfl))
  f227 := Tryd.func86.trans (congrArg some (by kernel_rfl))
  f228 := Tryd.func114.trans (congrArg some (by kernel_rfl))
  f231 := Tryd.func84.trans (congrArg some (by kernel_rfl))
  f232 := Tryd.func85.trans (congrArg some (by kernel_rfl))
  f233 := Tryd.func87.trans (congrArg some (by kernel_rfl))
  f234 := Tryd.func88.trans (congrArg some (by kernel_rfl))
  f235 := Tryd.func89.trans (congrArg some (by kernel_rfl))
  f236 := Tryd.func90.trans (congrArg some (by kernel_rfl))
  f260 := Tryd.func125.trans (congrArg some (by kernel_rfl))
  f266 := Tryd.func134.trans (congrArg some (by kernel_rfl))
  f271 := Tryd.func117.trans (congrArg some (by kernel_rfl))
  t0 := Tryd.underlying0
  a0 := Tryd.isAgg0
  z0 := Tryd.sizeOf0
  v0 := Tryd.zeroValue0
  t3 := Tryd.underlying3
  a3 := Tryd.isAgg3
  z3 := Tryd.sizeOf3
  v3 := Tryd.zeroValue3
  t4 := Tryd.underlying4
  a4 := Tryd.isAgg4
  z4 := Tryd.sizeOf4
  v4 := Tryd.zeroValue4
  t5 := Tryd.underlying5
  a5 := Tryd.isAgg5
  z5 := Tryd.sizeOf5
  v5 := Tryd.zeroValue5
  t9 := Tryd.underlying9
  a9 := Tryd.isAgg9
  z9 := Tryd.sizeOf9
  v9 := Tryd.zeroValue9
  t21 := Tryd.underlying21
  a21 := Tryd.isAgg21
  z21 := Tryd.sizeOf21
  v21 := Tryd.zeroValue21
  t46 := Tryd.underlying121
  a46 := Tryd.isAgg121
  z46 := Tryd.sizeOf121
  v46 := Tryd.zeroValue121
  t105 := Tryd.underlying162
  a105 := Tryd.isAgg162
  z105 := Tryd.sizeOf162
  v105 := Tryd.zeroValue162
  t116 := Tryd.underlying136
  a116 := Tryd.isAgg136
  z116 := Tryd.sizeOf136
  t117 := Tryd.underlying137
  a117 := Tryd.isAgg137
  z117 := Tryd.sizeOf137
  v117 := Tryd.zeroValue137
  t119 := Tryd.underlying173
  a119 := Tryd.isAgg173
  z119 := Tryd.sizeOf173
  t124 := Tryd.underlying140
  a124 := Tryd.isAgg140
  z124 := Tryd.sizeOf140
  v124 := Tryd.zeroValue140
  t138 := Tryd.underlying175
  a138 := Tryd.isAgg175
  z138 := Tryd.sizeOf175
  v138 := Tryd.zeroValue175
  t139 := Tryd.underlying176
  a139 := Tryd.isAgg176
  z139 := Tryd.sizeOf176
  v139 := Tryd.zeroValue176
  g3 := by kernel_rfl
  g4 := by kernel_rfl
end Go.Proofs.YtillbabmlfjegaaDoor.X
end

section
/- strings.Trim: its contract, as a typed function. -/
namespace Go.Proofs.YtillbabmlfjegaaDoor.X
open Go Go.Proofs.YtillbabmlfjegaaDoor.Ev Go.Proofs
set_option linter.unusedVariables false
set_option linter.unusedSimpArgs false
set_option linter.unusedSectionVars false
variable [FZ]

/-- A string without the bytes of a set at its ends. -/
noncomputable def trm (s cs : ByteArray) : ByteArray := ⟨(Lib.trimS s.data.toList cs.data.toList).toArray⟩
noncomputable def f44_1 {β : Type} (F : Nat) (a1 : ByteArray) (a2 : ByteArray) (K0 : ByteArray → Option β) : Option β :=
  cond (decide (a1.size ≤ 9223372036854775807 ∧ a2.size < 4294967281 ∧ a2.data.toList.all (fun b => decide (b.toNat < 128)) = true)) (K0 (trm a1 a2)) none
def sh44_1 : Sh := ⟨[.lf (.str), .lf (.str)], []⟩
noncomputable def S44_1 (F : Nat) (o : Summ) : Summ := mkS sh44_1 (fun d K => f44_1 F d.1.1 d.1.2.1 (fun (y0 : ByteArray) => K [.lf (.str y0)] [])) o
theorem enter44 : ∀ args w, (callFunc 44 args).run Tryd.prog w = .ok (.enter 44 args) w := enter_of (fn := Tryd.f44) (by kernel_rfl) (by kernel_rfl) (by kernel_rfl)
theorem trmNum : trmRen.f 160 = 44 := by kernel_rfl

theorem trmB {s cs : ByteArray} (h : s.size ≤ 9223372036854775807 ∧ cs.size < 4294967281 ∧ cs.data.toList.all (fun b => decide (b.toNat < 128)) = true) {K : KF} {r : Res} (he : K [.lf (.str (trm s cs))] [] = some r) :
    Contract Tryd.prog 44 [.lf (.str s), .lf (.str cs)] [] K r := by
  intro G m w cvs hw hgd hgh hi hx
  obtain ⟨v1, v2, rfl, h1, h2⟩ : ∃ v1 v2, cvs = [v1, v2] ∧ v1 = .string s ∧ v2 = .string cs := by
    match cvs, hx with
    | [v1, v2], ⟨h1, h2, _⟩ => exact ⟨v1, v2, rfl, h1, h2⟩
  subst h1 h2
  have := Any.strings_Trim_laid trmLays (by kernel_rfl) s cs w h.1 h.2.1 (ascii_of_all h.2.2)
  rw [trmNum] at this
  refine this.mono fun e w' ⟨h1, h2⟩ => ?_
  have hext : Ext w w' := ⟨⟨h2.os, h2.tape, h2.output⟩, h2.size, h2.block⟩
  exact ⟨_, _, he, _, [], h1, rfl, by rw [List.append_nil]; exact hi.ext hext⟩

theorem S44_1_ok (F : Nat) (o : Summ) (ho : SoundFn Tryd.prog 44 o) : SoundFn Tryd.prog 44 (S44_1 F o) := by
  refine ⟨ho.enter, fun vs h K r he => ?_⟩
  unfold S44_1 mkS at he
  split at he
  rotate_left
  · exact ho.ok vs h K r he
  rename_i dv dh ha hb'
  have e1 := decT_enc _ _ _ ha
  have e2 := decH_enc _ _ _ hb'
  obtain ⟨s, c, _⟩ := dv
  have e1 : vs = [.lf (.str s), .lf (.str c)] := e1
  have e2 : h = [] := e2
  subst e1
  subst e2
  have he : f44_1 F s c (fun (y0 : ByteArray) => K [.lf (.str y0)] []) = some r := he
  unfold f44_1 at he
  obtain ⟨h1, he⟩ := dec_of he
  exact trmB h1 he

end Go.Proofs.YtillbabmlfjegaaDoor.X
end

section
namespace Go.Proofs.YtillbabmlfjegaaDoor.X
open Go Go.Proofs.YtillbabmlfjegaaDoor.Ev Go.Proofs
set_option linter.unusedVariables false
set_option linter.unusedSectionVars false
/-! rec.Kind -/
noncomputable def f15_1 {β : Type} (F : Nat) (a1 : ByteArray) (K0 : Int → Int → Option β) : Option β := f43_1 F a1 (fun x1 => cond (!x1) (K0 0 4) (cond (decide ((0 : Int) ≤ (60 : Int) ∧ (60 : Int) ≤ (a1.size : Int) ∧ (a1.size : Int) ≤ (a1.size : Int))) (f39_1 F a1 (fun x2 => cond (!(x2.toList == (a1.extract 60 ((a1.size : Int).toNat)).toList)) (K0 0 9) (cond (decide ((0 : Int) ≤ (0 : Int) ∧ (0 : Int) < (a1.size : Int))) (cond (decide ((0 : Int) ≤ (1 : Int) ∧ (1 : Int) < (a1.size : Int))) (cond (decide (IntKind.i64.wrap ((a1.data.getD 0 0).toNat : Int) < 1)) (K0 0 6) (cond (decide (IntKind.i64.wrap ((a1.data.getD 0 0).toNat : Int) > 8)) (K0 0 6) (cond (decide (IntKind.i64.wrap ((a1.data.getD 1 0).toNat : Int) > 58)) (K0 0 6) (cond (decide ((0 : Int) ≤ IntKind.i64.wrap (2 + (IntKind.i64.wrap ((a1.data.getD 1 0).toNat : Int))) ∧ IntKind.i64.wrap (2 + (IntKind.i64.wrap ((a1.data.getD 1 0).toNat : Int))) ≤ (60 : Int) ∧ (60 : Int) ≤ (a1.size : Int))) (f44_1 F (a1.extract ((IntKind.i64.wrap (2 + (IntKind.i64.wrap ((a1.data.getD 1 0).toNat : Int)))).toNat) 60) (⟨#[0]⟩ : ByteArray) (fun x3 => cond (!(x3.toList == ByteArray.empty.toList)) (K0 0 6) (K0 (IntKind.i64.wrap ((a1.data.getD 0 0).toNat : Int)) 0)) ) none)))) none) none)) ) none)) 
variable [FZ]
def sh15_1 : Sh := ⟨[.lf (.str)], []⟩
noncomputable def S15_1 (F : Nat) (o : Summ) : Summ := mkS sh15_1 (fun d K => f15_1 F d.1.1 (fun (y0 : Int) (y1 : Int) => K [.lf (.int .i64 y0), .lf (.int .i64 y1)] [])) o
noncomputable def code15 : Code := bodyOf Tryd.f15
theorem scopes15 : scopesOf code15 = [] := by kernel_rfl
theorem ranges15 : rangesOf code15 = [] := by kernel_rfl
theorem loops15 : loopsOf code15 = [] := by kernel_rfl
theorem enter15 : ∀ args w, (callFunc 15 args).run Tryd.prog w = .ok (.enter 15 args) w := enter_of (fn := Tryd.f15) (by kernel_rfl) (by kernel_rfl) (by kernel_rfl)
noncomputable def T15_1 (F : Nat) : FuncId → Option Summ := tab [(39, (S39_1 F noS)), (43, (S43_1 F noS)), (44, (S44_1 F noS))]
noncomputable def LT15_1 (F : Nat) : Nat → Option LoopS := ltab []
theorem E15_1g (F : Nat) (c39_1 : ByteArray → (ByteArray → Option Res) → Option Res) (c43_1 : ByteArray → (Bool → Option Res) → Option Res) (c44_1 : ByteArray → ByteArray → (ByteArray → Option Res) → Option Res)   (d : sh15_1.den) (K : KF) : evBody Tryd.prog (tab [(39, (mkS sh39_1 (fun d K => c39_1 d.1.1 (fun (y0 : ByteArray) => K [.lf (.str y0)] [])) noS)), (43, (mkS sh43_1 (fun d K => c43_1 d.1.1 (fun (y0 : Bool) => K [.lf (.bool y0)] [])) noS)), (44, (mkS sh44_1 (fun d K => c44_1 d.1.1 d.1.2.1 (fun (y0 : ByteArray) => K [.lf (.str y0)] [])) noS))]) (xw []) 41 0 (ltab []) code15 Tryd.f15.results.toList (encT sh15_1.vs d.1) (encH sh15_1.h d.2) K = (fun (a1 : ByteArray) (K0 : (Int → Int → Option Res)) => c43_1 a1 (fun x1 => cond (!x1) (K0 0 4) (cond (decide ((0 : Int) ≤ (60 : Int) ∧ (60 : Int) ≤ (a1.size : Int) ∧ (a1.size : Int) ≤ (a1.size : Int))) (c39_1 a1 (fun x2 => cond (!(x2.toList == (a1.extract 60 ((a1.size : Int).toNat)).toList)) (K0 0 9) (cond (decide ((0 : Int) ≤ (0 : Int) ∧ (0 : Int) < (a1.size : Int))) (cond (decide ((0 : Int) ≤ (1 : Int) ∧ (1 : Int) < (a1.size : Int))) (cond (decide (IntKind.i64.wrap ((a1.data.getD 0 0).toNat : Int) < 1)) (K0 0 6) (cond (decide (IntKind.i64.wrap ((a1.data.getD 0 0).toNat : Int) > 8)) (K0 0 6) (cond (decide (IntKind.i64.wrap ((a1.data.getD 1 0).toNat : Int) > 58)) (K0 0 6) (cond (decide ((0 : Int) ≤ IntKind.i64.wrap (2 + (IntKind.i64.wrap ((a1.data.getD 1 0).toNat : Int))) ∧ IntKind.i64.wrap (2 + (IntKind.i64.wrap ((a1.data.getD 1 0).toNat : Int))) ≤ (60 : Int) ∧ (60 : Int) ≤ (a1.size : Int))) (c44_1 (a1.extract ((IntKind.i64.wrap (2 + (IntKind.i64.wrap ((a1.data.getD 1 0).toNat : Int)))).toNat) 60) (⟨#[0]⟩ : ByteArray) (fun x3 => cond (!(x3.toList == ByteArray.empty.toList)) (K0 0 6) (K0 (IntKind.i64.wrap ((a1.data.getD 0 0).toNat : Int)) 0)) ) none)))) none) none)) ) none)) ) d.1.1 (fun (y0 : Int) (y1 : Int) => K [.lf (.int .i64 y0), .lf (.int .i64 y1)] []) := by kernel_rfl
theorem E15_1 (F : Nat) (d : sh15_1.den) (K : KF) : evBody Tryd.prog (T15_1 F) (xw []) 41 0 (LT15_1 F) code15 Tryd.f15.results.toList (encT sh15_1.vs d.1) (encH sh15_1.h d.2) K = f15_1 F d.1.1 (fun (y0 : Int) (y1 : Int) => K [.lf (.int .i64 y0), .lf (.int .i64 y1)] []) := Eq.mp (by kernel_rfl) (E15_1g F (f39_1 F) (f43_1 F) (f44_1 F)   d K)
theorem S15_1_ok (F : Nat) (o : Summ) (ho : SoundFn Tryd.prog 15 o) : SoundFn Tryd.prog 15 (S15_1 F o) :=
  soundFn_of (fn := Tryd.f15) (c := code15) rfl rfl (by kernel_rfl) (tab_cons (S39_1_ok F _ (noS_sound enter39)) (tab_cons (S43_1_ok F _ (noS_sound enter43)) (tab_cons (S44_1_ok F _ (noS_sound enter44)) tab_nil))) (by kernel_rfl) (by kernel_rfl) ho (by rw [loops15]; exact loopsOK_nil) (by rw [scopes15]; exact scopesOK_nil) (by rw [ranges15]; exact rangesOK_nil) (E15_1 F)
end Go.Proofs.YtillbabmlfjegaaDoor.X
end

section
namespace Go.Proofs.YtillbabmlfjegaaDoor.X
open Go Go.Proofs.YtillbabmlfjegaaDoor.Ev Go.Proofs
set_option linter.unusedVariables false
set_option linter.unusedSectionVars false
/-! rec.Open -/
noncomputable def f13_1 {β : Type} (F : Nat) (a1 : Int) (a2 : ByteArray) (K0 : ByteArray → Int → Option β) : Option β := f15_1 F a2 (fun x1 x2 => cond (x2 != 0) (K0 ByteArray.empty x2) (cond (x1 != a1) (K0 ByteArray.empty 22) (cond (decide ((0 : Int) ≤ (1 : Int) ∧ (1 : Int) < (a2.size : Int))) (cond (decide ((0 : Int) ≤ (2 : Int) ∧ (2 : Int) ≤ IntKind.i64.wrap (2 + (IntKind.i64.wrap ((a2.data.getD 1 0).toNat : Int))) ∧ IntKind.i64.wrap (2 + (IntKind.i64.wrap ((a2.data.getD 1 0).toNat : Int))) ≤ (a2.size : Int))) (K0 (a2.extract 2 ((IntKind.i64.wrap (2 + (IntKind.i64.wrap ((a2.data.getD 1 0).toNat : Int)))).toNat)) 0) none) none))) 
variable [FZ]
def sh13_1 : Sh := ⟨[.lf (.int .i64), .lf (.str)], []⟩
noncomputable def S13_1 (F : Nat) (o : Summ) : Summ := mkS sh13_1 (fun d K => f13_1 F d.1.1 d.1.2.1 (fun (y0 : ByteArray) (y1 : Int) => K [.lf (.str y0), .lf (.int .i64 y1)] [])) o
noncomputable def code13 : Code := bodyOf Tryd.f13
theorem scopes13 : scopesOf code13 = [] := by kernel_rfl
theorem ranges13 : rangesOf code13 = [] := by kernel_rfl
theorem loops13 : loopsOf code13 = [] := by kernel_rfl
theorem enter13 : ∀ args w, (callFunc 13 args).run Tryd.prog w = .ok (.enter 13 args) w := enter_of (fn := Tryd.f13) (by kernel_rfl) (by kernel_rfl) (by kernel_rfl)
noncomputable def T13_1 (F : Nat) : FuncId → Option Summ := tab [(15, (S15_1 F noS))]
noncomputable def LT13_1 (F : Nat) : Nat → Option LoopS := ltab []
theorem E13_1g (F : Nat) (c15_1 : ByteArray → (Int → Int → Option Res) → Option Res)   (d : sh13_1.den) (K : KF) : evBody Tryd.prog (tab [(15, (mkS sh15_1 (fun d K => c15_1 d.1.1 (fun (y0 : Int) (y1 : Int) => K [.lf (.int .i64 y0), .lf (.int .i64 y1)] [])) noS))]) (xw []) 27 0 (ltab []) code13 Tryd.f13.results.toList (encT sh13_1.vs d.1) (encH sh13_1.h d.2) K = (fun (a1 : Int) (a2 : ByteArray) (K0 : (ByteArray → Int → Option Res)) => c15_1 a2 (fun x1 x2 => cond (x2 != 0) (K0 ByteArray.empty x2) (cond (x1 != a1) (K0 ByteArray.empty 22) (cond (decide ((0 : Int) ≤ (1 : Int) ∧ (1 : Int) < (a2.size : Int))) (cond (decide ((0 : Int) ≤ (2 : Int) ∧ (2 : Int) ≤ IntKind.i64.wrap (2 + (IntKind.i64.wrap ((a2.data.getD 1 0).toNat : Int))) ∧ IntKind.i64.wrap (2 + (IntKind.i64.wrap ((a2.data.getD 1 0).toNat : Int))) ≤ (a2.size : Int))) (K0 (a2.extract 2 ((IntKind.i64.wrap (2 + (IntKind.i64.wrap ((a2.data.getD 1 0).toNat : Int)))).toNat)) 0) none) none))) ) d.1.1 d.1.2.1 (fun (y0 : ByteArray) (y1 : Int) => K [.lf (.str y0), .lf (.int .i64 y1)] []) := by kernel_rfl
theorem E13_1 (F : Nat) (d : sh13_1.den) (K : KF) : evBody Tryd.prog (T13_1 F) (xw []) 27 0 (LT13_1 F) code13 Tryd.f13.results.toList (encT sh13_1.vs d.1) (encH sh13_1.h d.2) K = f13_1 F d.1.1 d.1.2.1 (fun (y0 : ByteArray) (y1 : Int) => K [.lf (.str y0), .lf (.int .i64 y1)] []) := Eq.mp (by kernel_rfl) (E13_1g F (f15_1 F)   d K)
theorem S13_1_ok (F : Nat) (o : Summ) (ho : SoundFn Tryd.prog 13 o) : SoundFn Tryd.prog 13 (S13_1 F o) :=
  soundFn_of (fn := Tryd.f13) (c := code13) rfl rfl (by kernel_rfl) (tab_cons (S15_1_ok F _ (noS_sound enter15)) tab_nil) (by kernel_rfl) (by kernel_rfl) ho (by rw [loops13]; exact loopsOK_nil) (by rw [scopes13]; exact scopesOK_nil) (by rw [ranges13]; exact rangesOK_nil) (E13_1 F)
end Go.Proofs.YtillbabmlfjegaaDoor.X
end

section
namespace Go.Proofs.YtillbabmlfjegaaDoor.X
open Go Go.Proofs.YtillbabmlfjegaaDoor.Ev Go.Proofs
set_option linter.unusedVariables false
set_option linter.unusedSectionVars false
/-! word.New -/
noncomputable def f49_1 {β : Type} (F : Nat) (a1 : List Int) (K0 : List Int → Option β) : Option β := cond (decide ((0 + a1.length) * 1 ≤ 70368744177664)) (K0 ([] ++ a1)) none
variable [FZ]
def sh49_1 : Sh := ⟨[.lf (.full 0)], [some ⟨none, [.seq (.int .u8) 0]⟩]⟩
noncomputable def S49_1 (F : Nat) (o : Summ) : Summ := mkS sh49_1 (fun d K => f49_1 F d.2.1.2.1 (fun (y2 : List Int) => K [.lf (.ptr 1 0)] [some ⟨d.2.1.1, [.seq (.int .u8) 0 d.2.1.2.1]⟩, some ⟨false, [.full 2, .int .i64 0]⟩, some ⟨false, [.seq (.int .u8) 0 y2]⟩])) o
noncomputable def code49 : Code := bodyOf Tryd.f49
theorem scopes49 : scopesOf code49 = [] := by kernel_rfl
theorem ranges49 : rangesOf code49 = [] := by kernel_rfl
theorem loops49 : loopsOf code49 = [] := by kernel_rfl
theorem enter49 : ∀ args w, (callFunc 49 args).run Tryd.prog w = .ok (.enter 49 args) w := enter_of (fn := Tryd.f49) (by kernel_rfl) (by kernel_rfl) (by kernel_rfl)
noncomputable def T49_1 (F : Nat) : FuncId → Option Summ := tab []
noncomputable def LT49_1 (F : Nat) : Nat → Option LoopS := ltab []
theorem E49_1g (F : Nat)    (d : sh49_1.den) (K : KF) : evBody Tryd.prog (tab []) (xw []) 8 1 (ltab []) code49 Tryd.f49.results.toList (encT sh49_1.vs d.1) (encH sh49_1.h d.2) K = (fun (a1 : List Int) (K0 : (List Int → Option Res)) => cond (decide ((0 + a1.length) * 1 ≤ 70368744177664)) (K0 ([] ++ a1)) none) d.2.1.2.1 (fun (y2 : List Int) => K [.lf (.ptr 1 0)] [some ⟨d.2.1.1, [.seq (.int .u8) 0 d.2.1.2.1]⟩, some ⟨false, [.full 2, .int .i64 0]⟩, some ⟨false, [.seq (.int .u8) 0 y2]⟩]) := by kernel_rfl
theorem E49_1 (F : Nat) (d : sh49_1.den) (K : KF) : evBody Tryd.prog (T49_1 F) (xw []) 8 1 (LT49_1 F) code49 Tryd.f49.results.toList (encT sh49_1.vs d.1) (encH sh49_1.h d.2) K = f49_1 F d.2.1.2.1 (fun (y2 : List Int) => K [.lf (.ptr 1 0)] [some ⟨d.2.1.1, [.seq (.int .u8) 0 d.2.1.2.1]⟩, some ⟨false, [.full 2, .int .i64 0]⟩, some ⟨false, [.seq (.int .u8) 0 y2]⟩]) := Eq.mp (by kernel_rfl) (E49_1g F    d K)
theorem S49_1_ok (F : Nat) (o : Summ) (ho : SoundFn Tryd.prog 49 o) : SoundFn Tryd.prog 49 (S49_1 F o) :=
  soundFn_of (fn := Tryd.f49) (c := code49) rfl rfl (by kernel_rfl) tab_nil (by kernel_rfl) (by kernel_rfl) ho (by rw [loops49]; exact loopsOK_nil) (by rw [scopes49]; exact scopesOK_nil) (by rw [ranges49]; exact rangesOK_nil) (E49_1 F)
end Go.Proofs.YtillbabmlfjegaaDoor.X
end

section
namespace Go.Proofs.YtillbabmlfjegaaDoor.X
open Go Go.Proofs.YtillbabmlfjegaaDoor.Ev Go.Proofs
set_option linter.unusedVariables false
set_option linter.unusedSectionVars false
/-! word.Get -/
noncomputable def f93_1_l7 {β : Type} (F : Nat) (v3 : Nat) (v4 : Nat) (v5 : Int) (v7 : List Int) (K0 : Int → Option β) : Nat → Int → Int → Option β
  | 0, _, _ => none
  | k + 1, v2, v6 => cond (decide (v6 < v5)) (cond (decide ((0 : Int) ≤ v6 ∧ v6 < ((v4 : Nat) : Int))) (cond (decide (v3 + v6.toNat < v7.length)) (f93_1_l7 F v3 v4 v5 v7 K0 k (ior .u64 (ishl .u64 v2 8) (IntKind.u64.wrap (v7.getD (v3 + v6.toNat) 0))) (IntKind.i64.wrap (v6 + 1))) none) none) (K0 v2)
noncomputable def f93_1 {β : Type} (F : Nat) (a1 : Int) (a2 : Int) (a3 : List Int) (K0 : Int → Int → Option β) : Option β := f92_1 F a2 (fun x1 => cond (!x1) (K0 0 2) (cond (decide (a1 < 0)) (K0 0 2) (cond (decide (a1 > ((a3.length : Nat) : Int))) (K0 0 7) (cond (decide (IntKind.i64.wrap (((a3.length : Nat) : Int) - a1) < a2)) (K0 0 7) (cond (decide ((0 : Int) ≤ a1 ∧ a1 ≤ IntKind.i64.wrap (a1 + a2) ∧ IntKind.i64.wrap (a1 + a2) ≤ ((a3.length : Nat) : Int))) (f93_1_l7 F (0 + a1.toNat) ((IntKind.i64.wrap (a1 + a2) - a1).toNat) (((IntKind.i64.wrap (a1 + a2) - a1).toNat : Nat) : Int) a3 (fun x8 => K0 x8 0) F 0 0) none))))) 
variable [FZ]
def sh93_1 : Sh := ⟨[.lf (.full 0), .lf (.int .i64), .lf (.int .i64)], [some ⟨none, [.seq (.int .u8) 0]⟩]⟩
noncomputable def S93_1 (F : Nat) (o : Summ) : Summ := mkS sh93_1 (fun d K => f93_1 F d.1.2.1 d.1.2.2.1 d.2.1.2.1 (fun (y0 : Int) (y1 : Int) => K [.lf (.int .u64 y0), .lf (.int .i64 y1)] [some ⟨d.2.1.1, [.seq (.int .u8) 0 d.2.1.2.1]⟩])) o
noncomputable def code93 : Code := bodyOf Tryd.f93
noncomputable def b93_0 : Code := cB (cB (cR (cL (cR (cR (cR (code93)))))))
theorem scopes93 : scopesOf code93 = [] := by kernel_rfl
theorem ranges93 : rangesOf code93 = [] := by kernel_rfl
theorem loops93 : loopsOf code93 = [b93_0] := by kernel_rfl
theorem enter93 : ∀ args w, (callFunc 93 args).run Tryd.prog w = .ok (.enter 93 args) w := enter_of (fn := Tryd.f93) (by kernel_rfl) (by kernel_rfl) (by kernel_rfl)
noncomputable def T93_1 (F : Nat) : FuncId → Option Summ := tab [(92, (S92_1 F noS))]
def sh93_1_l7 : Sh := ⟨[.lf (.int .u64), .lf (.slice 0 0), .lf (.int .i64), .lf (.int .i64)], [some ⟨none, [.seq (.int .u8) 0]⟩]⟩
noncomputable def G93_1_7 (F k : Nat) : LoopS := mkG sh93_1_l7 [8, 37, 38, 39] (outT [(.exit 1, [8])]) (fun d K => f93_1_l7 F d.1.2.1.1 d.1.2.1.2 d.1.2.2.1 d.2.1.2.1 (fun (y0 : Int) => K (.exit 1) [.tv (.lf (.int .u64 y0))] [some ⟨d.2.1.1, [.seq (.int .u8) 0 d.2.1.2.1]⟩]) k d.1.1 d.1.2.2.2.1) []
noncomputable def LT93_1 (F : Nat) : Nat → Option LoopS := ltab [(7, G93_1_7 F F)]
theorem L93_1_l7g (F k : Nat) (c92_1 : Int → (Bool → Option Res) → Option Res)  (l7 : Nat → Nat → Int → List Int → (Int → Option Res) → Nat → Int → Int → Option Res) (X7 : LoopS) (d : sh93_1_l7.den) (K : KL) : (fun (v3 : Nat) (v4 : Nat) (v5 : Int) (v7 : List Int) (K0 : (Int → Option Res)) (k : Nat) (v2 : Int) (v6 : Int) => cond (decide (v6 < v5)) (cond (decide ((0 : Int) ≤ v6 ∧ v6 < ((v4 : Nat) : Int))) (cond (decide (v3 + v6.toNat < v7.length)) (l7 v3 v4 v5 v7 K0 k (ior .u64 (ishl .u64 v2 8) (IntKind.u64.wrap (v7.getD (v3 + v6.toNat) 0))) (IntKind.i64.wrap (v6 + 1))) none) none) (K0 v2)) d.1.2.1.1 d.1.2.1.2 d.1.2.2.1 d.2.1.2.1 (fun (y0 : Int) => K (.exit 1) [.tv (.lf (.int .u64 y0))] [some ⟨d.2.1.1, [.seq (.int .u8) 0 d.2.1.2.1]⟩]) k d.1.1 d.1.2.2.2.1 = roundOf Tryd.prog (tab [(92, (mkS sh92_1 (fun d K => c92_1 d.1.1 (fun (y0 : Bool) => K [.lf (.bool y0)] [])) noS))]) (xw []) 50 1 (ltab [(7, X7)]) (mkG sh93_1_l7 [8, 37, 38, 39] (outT [(.exit 1, [8])]) (fun d K => l7 d.1.2.1.1 d.1.2.1.2 d.1.2.2.1 d.2.1.2.1 (fun (y0 : Int) => K (.exit 1) [.tv (.lf (.int .u64 y0))] [some ⟨d.2.1.1, [.seq (.int .u8) 0 d.2.1.2.1]⟩]) k d.1.1 d.1.2.2.2.1) []) b93_0 (encT sh93_1_l7.vs d.1) (encH sh93_1_l7.h d.2) K := by kernel_rfl
theorem L93_1_7 (F : Nat) : LoopOK Tryd.prog (T93_1 F) (xw []) 50 1 (LT93_1 F) (G93_1_7 F F) b93_0 :=
  loopOK_of (s := sh93_1_l7) (live := [8, 37, 38, 39]) (out := (outT [(.exit 1, [8])])) (mv := []) (fun k d K => f93_1_l7 F d.1.2.1.1 d.1.2.1.2 d.1.2.2.1 d.2.1.2.1 (fun (y0 : Int) => K (.exit 1) [.tv (.lf (.int .u64 y0))] [some ⟨d.2.1.1, [.seq (.int .u8) 0 d.2.1.2.1]⟩]) k d.1.1 d.1.2.2.2.1) F (fun d K => by kernel_rfl)  (fun k d K => Eq.mp (by kernel_rfl) (L93_1_l7g F k (f92_1 F)  (f93_1_l7 F) (G93_1_7 F F) d K))
theorem E93_1g (F : Nat) (c92_1 : Int → (Bool → Option Res) → Option Res) (l7 : Nat → Nat → Int → List Int → (Int → Option Res) → Nat → Int → Int → Option Res)  (d : sh93_1.den) (K : KF) : evBody Tryd.prog (tab [(92, (mkS sh92_1 (fun d K => c92_1 d.1.1 (fun (y0 : Bool) => K [.lf (.bool y0)] [])) noS))]) (xw []) 50 1 (ltab [(7, mkG sh93_1_l7 [8, 37, 38, 39] (outT [(.exit 1, [8])]) (fun d K => l7 d.1.2.1.1 d.1.2.1.2 d.1.2.2.1 d.2.1.2.1 (fun (y0 : Int) => K (.exit 1) [.tv (.lf (.int .u64 y0))] [some ⟨d.2.1.1, [.seq (.int .u8) 0 d.2.1.2.1]⟩]) F d.1.1 d.1.2.2.2.1) [])]) code93 Tryd.f93.results.toList (encT sh93_1.vs d.1) (encH sh93_1.h d.2) K = (fun (a1 : Int) (a2 : Int) (a3 : List Int) (K0 : (Int → Int → Option Res)) => c92_1 a2 (fun x1 => cond (!x1) (K0 0 2) (cond (decide (a1 < 0)) (K0 0 2) (cond (decide (a1 > ((a3.length : Nat) : Int))) (K0 0 7) (cond (decide (IntKind.i64.wrap (((a3.length : Nat) : Int) - a1) < a2)) (K0 0 7) (cond (decide ((0 : Int) ≤ a1 ∧ a1 ≤ IntKind.i64.wrap (a1 + a2) ∧ IntKind.i64.wrap (a1 + a2) ≤ ((a3.length : Nat) : Int))) (l7 (0 + a1.toNat) ((IntKind.i64.wrap (a1 + a2) - a1).toNat) (((IntKind.i64.wrap (a1 + a2) - a1).toNat : Nat) : Int) a3 (fun x8 => K0 x8 0) F 0 0) none))))) ) d.1.2.1 d.1.2.2.1 d.2.1.2.1 (fun (y0 : Int) (y1 : Int) => K [.lf (.int .u64 y0), .lf (.int .i64 y1)] [some ⟨d.2.1.1, [.seq (.int .u8) 0 d.2.1.2.1]⟩]) := by kernel_rfl
theorem E93_1 (F : Nat) (d : sh93_1.den) (K : KF) : evBody Tryd.prog (T93_1 F) (xw []) 50 1 (LT93_1 F) code93 Tryd.f93.results.toList (encT sh93_1.vs d.1) (encH sh93_1.h d.2) K = f93_1 F d.1.2.1 d.1.2.2.1 d.2.1.2.1 (fun (y0 : Int) (y1 : Int) => K [.lf (.int .u64 y0), .lf (.int .i64 y1)] [some ⟨d.2.1.1, [.seq (.int .u8) 0 d.2.1.2.1]⟩]) := Eq.mp (by kernel_rfl) (E93_1g F (f92_1 F) (f93_1_l7 F)  d K)
theorem S93_1_ok (F : Nat) (o : Summ) (ho : SoundFn Tryd.prog 93 o) : SoundFn Tryd.prog 93 (S93_1 F o) :=
  soundFn_of (fn := Tryd.f93) (c := code93) rfl rfl (by kernel_rfl) (tab_cons (S92_1_ok F _ (noS_sound enter92)) tab_nil) (by kernel_rfl) (by kernel_rfl) ho (by rw [loops93]; exact (loopsOK_cons (by kernel_rfl) (L93_1_7 F) loopsOK_nil)) (by rw [scopes93]; exact scopesOK_nil) (by rw [ranges93]; exact rangesOK_nil) (E93_1 F)
end Go.Proofs.YtillbabmlfjegaaDoor.X
end

section
namespace Go.Proofs.YtillbabmlfjegaaDoor.X
open Go Go.Proofs.YtillbabmlfjegaaDoor.Ev Go.Proofs
set_option linter.unusedVariables false
set_option linter.unusedSectionVars false
/-! word.Reader).Num -/
noncomputable def f51_1_l1000000 {β : Type} (F : Nat) (v3 : Int) (v4 : Int) (v5 : List Int) (K0 : Option β) : Nat → Option β
  | 0 => none
  | k + 1 => K0
noncomputable def f51_1 {β : Type} (F : Nat) (a1 : Int) (a2 : Int) (a3 : List Int) (K0 : Int → Option β) (K1 : Int → List Int → Option β) : Option β := cond (a2 != 0) (K0 a2) (f93_1 F 0 a1 a3 (fun x1 x2 => cond (x2 != 0) (f51_1_l1000000 F x2 a2 a3 (K0 x2) F) (cond (decide ((0 : Int) ≤ a1 ∧ a1 ≤ ((a3.length : Nat) : Int) ∧ ((a3.length : Nat) : Int) ≤ ((a3.length : Nat) : Int))) (K1 x1 ((a3.drop (0 + a1.toNat)).take ((((a3.length : Nat) : Int) - a1).toNat))) none)) )
variable [FZ]
def sh51_1 : Sh := ⟨[.lf (.ptr 0 0), .lf (.int .i64)], [some ⟨some false, [.full 1, .int .i64]⟩, some ⟨some false, [.seq (.int .u8) 0]⟩]⟩
noncomputable def S51_1 (F : Nat) (o : Summ) : Summ := mkS sh51_1 (fun d K => f51_1 F d.1.2.1 d.2.1.2.2.1 d.2.2.1.2.1 (fun (y1 : Int) => K [.lf (.int .u64 0)] [some ⟨false, [.full 1, .int .i64 y1]⟩, some ⟨false, [.seq (.int .u8) 0 d.2.2.1.2.1]⟩]) (fun (y0 : Int) (y2 : List Int) => K [.lf (.int .u64 y0)] [some ⟨false, [.full 2, .int .i64 d.2.1.2.2.1]⟩, none, some ⟨false, [.seq (.int .u8) 0 y2]⟩])) o
noncomputable def code51 : Code := bodyOf Tryd.f51
noncomputable def s51_0 : Code := cB (cR (code51))
noncomputable def r51_0 : Code := match findLabel s51_0 0 with | some c => c | none => .skip
theorem find51_0 : findLabel s51_0 0 = some r51_0 := by kernel_rfl
theorem rloops51_0 : loopsOf r51_0 = [] := by kernel_rfl
theorem rscopes51_0 : scopesOf r51_0 = [] := by kernel_rfl
theorem rranges51_0 : rangesOf r51_0 = [] := by kernel_rfl
theorem scopes51 : scopesOf code51 = [s51_0] := by kernel_rfl
theorem ranges51 : rangesOf code51 = [] := by kernel_rfl
theorem loops51 : loopsOf code51 = [] := by kernel_rfl
theorem enter51 : ∀ args w, (callFunc 51 args).run Tryd.prog w = .ok (.enter 51 args) w := enter_of (fn := Tryd.f51) (by kernel_rfl) (by kernel_rfl) (by kernel_rfl)
noncomputable def T51_1 (F : Nat) : FuncId → Option Summ := tab [(93, (S93_1 F noS))]
def sh51_1_l1000000 : Sh := ⟨[.lf (.ptr 0 0), .lf (.int .i64)], [some ⟨some false, [.full 1, .int .i64]⟩, some ⟨some false, [.seq (.int .u8) 0]⟩]⟩
noncomputable def G51_1_1000000 (F k : Nat) : LoopS := mkG sh51_1_l1000000 [0, 6] (outT [(.ret, [4])]) (fun d K => f51_1_l1000000 F d.1.2.1 d.2.1.2.2.1 d.2.2.1.2.1 (K .ret [.tv (.lf (.int .u64 0))] [some ⟨false, [.full 1, .int .i64 d.1.2.1]⟩, some ⟨false, [.seq (.int .u8) 0 d.2.2.1.2.1]⟩]) k) []
noncomputable def LT51_1 (F : Nat) : Nat → Option LoopS := ltab [(1000000, G51_1_1000000 F F)]
theorem L51_1_l1000000g (F k : Nat) (c93_1 : Int → Int → List Int → (Int → Int → Option Res) → Option Res)  (l1000000 : Int → Int → List Int → (Option Res) → Nat → Option Res) (X1000000 : LoopS) (d : sh51_1_l1000000.den) (K : KL) : (fun (v3 : Int) (v4 : Int) (v5 : List Int) (K0 : (Option Res)) (k : Nat)  => K0) d.1.2.1 d.2.1.2.2.1 d.2.2.1.2.1 (K .ret [.tv (.lf (.int .u64 0))] [some ⟨false, [.full 1, .int .i64 d.1.2.1]⟩, some ⟨false, [.seq (.int .u8) 0 d.2.2.1.2.1]⟩]) k = passOf Tryd.prog (tab [(93, (mkS sh93_1 (fun d K => c93_1 d.1.2.1 d.1.2.2.1 d.2.1.2.1 (fun (y0 : Int) (y1 : Int) => K [.lf (.int .u64 y0), .lf (.int .i64 y1)] [some ⟨d.2.1.1, [.seq (.int .u8) 0 d.2.1.2.1]⟩])) noS))]) (xw []) 41 2 (ltab [(1000000, X1000000)]) (mkG sh51_1_l1000000 [0, 6] (outT [(.ret, [4])]) (fun d K => l1000000 d.1.2.1 d.2.1.2.2.1 d.2.2.1.2.1 (K .ret [.tv (.lf (.int .u64 0))] [some ⟨false, [.full 1, .int .i64 d.1.2.1]⟩, some ⟨false, [.seq (.int .u8) 0 d.2.2.1.2.1]⟩]) k) []) 0 r51_0 (encT sh51_1_l1000000.vs d.1) (encH sh51_1_l1000000.h d.2) K := by kernel_rfl
theorem L51_1_1000000 (F : Nat) : LabelOK Tryd.prog (T51_1 F) (xw []) 41 2 (LT51_1 F) (G51_1_1000000 F F) 0 s51_0 :=
  labelOK_of rfl (by kernel_rfl) (tab_cons (S93_1_ok F _ (noS_sound enter93)) tab_nil) (s := sh51_1_l1000000) (live := [0, 6]) (out := (outT [(.ret, [4])])) (mv := []) (fun k d K => f51_1_l1000000 F d.1.2.1 d.2.1.2.2.1 d.2.2.1.2.1 (K .ret [.tv (.lf (.int .u64 0))] [some ⟨false, [.full 1, .int .i64 d.1.2.1]⟩, some ⟨false, [.seq (.int .u8) 0 d.2.2.1.2.1]⟩]) k) F find51_0 (fun d K => by kernel_rfl)  (fun k d K => Eq.mp (by kernel_rfl) (L51_1_l1000000g F k (f93_1 F)  (f51_1_l1000000 F) (G51_1_1000000 F F) d K)) (by rw [rloops51_0]; exact loopsOK_nil) (by rw [rscopes51_0]; exact scopesOK_nil) (by rw [rranges51_0]; exact rangesOK_nil)
theorem E51_1g (F : Nat) (c93_1 : Int → Int → List Int → (Int → Int → Option Res) → Option Res) (l1000000 : Int → Int → List Int → (Option Res) → Nat → Option Res)  (d : sh51_1.den) (K : KF) : evBody Tryd.prog (tab [(93, (mkS sh93_1 (fun d K => c93_1 d.1.2.1 d.1.2.2.1 d.2.1.2.1 (fun (y0 : Int) (y1 : Int) => K [.lf (.int .u64 y0), .lf (.int .i64 y1)] [some ⟨d.2.1.1, [.seq (.int .u8) 0 d.2.1.2.1]⟩])) noS))]) (xw []) 41 2 (ltab [(1000000, mkG sh51_1_l1000000 [0, 6] (outT [(.ret, [4])]) (fun d K => l1000000 d.1.2.1 d.2.1.2.2.1 d.2.2.1.2.1 (K .ret [.tv (.lf (.int .u64 0))] [some ⟨false, [.full 1, .int .i64 d.1.2.1]⟩, some ⟨false, [.seq (.int .u8) 0 d.2.2.1.2.1]⟩]) F) [])]) code51 Tryd.f51.results.toList (encT sh51_1.vs d.1) (encH sh51_1.h d.2) K = (fun (a1 : Int) (a2 : Int) (a3 : List Int) (K0 : (Int → Option Res)) (K1 : (Int → List Int → Option Res)) => cond (a2 != 0) (K0 a2) (c93_1 0 a1 a3 (fun x1 x2 => cond (x2 != 0) (l1000000 x2 a2 a3 (K0 x2) F) (cond (decide ((0 : Int) ≤ a1 ∧ a1 ≤ ((a3.length : Nat) : Int) ∧ ((a3.length : Nat) : Int) ≤ ((a3.length : Nat) : Int))) (K1 x1 ((a3.drop (0 + a1.toNat)).take ((((a3.length : Nat) : Int) - a1).toNat))) none)) )) d.1.2.1 d.2.1.2.2.1 d.2.2.1.2.1 (fun (y1 : Int) => K [.lf (.int .u64 0)] [some ⟨false, [.full 1, .int .i64 y1]⟩, some ⟨false, [.seq (.int .u8) 0 d.2.2.1.2.1]⟩]) (fun (y0 : Int) (y2 : List Int) => K [.lf (.int .u64 y0)] [some ⟨false, [.full 2, .int .i64 d.2.1.2.2.1]⟩, none, some ⟨false, [.seq (.int .u8) 0 y2]⟩]) := by kernel_rfl
theorem E51_1 (F : Nat) (d : sh51_1.den) (K : KF) : evBody Tryd.prog (T51_1 F) (xw []) 41 2 (LT51_1 F) code51 Tryd.f51.results.toList (encT sh51_1.vs d.1) (encH sh51_1.h d.2) K = f51_1 F d.1.2.1 d.2.1.2.2.1 d.2.2.1.2.1 (fun (y1 : Int) => K [.lf (.int .u64 0)] [some ⟨false, [.full 1, .int .i64 y1]⟩, some ⟨false, [.seq (.int .u8) 0 d.2.2.1.2.1]⟩]) (fun (y0 : Int) (y2 : List Int) => K [.lf (.int .u64 y0)] [some ⟨false, [.full 2, .int .i64 d.2.1.2.2.1]⟩, none, some ⟨false, [.seq (.int .u8) 0 y2]⟩]) := Eq.mp (by kernel_rfl) (E51_1g F (f93_1 F) (f51_1_l1000000 F)  d K)
theorem S51_1_ok (F : Nat) (o : Summ) (ho : SoundFn Tryd.prog 51 o) : SoundFn Tryd.prog 51 (S51_1 F o) :=
  soundFn_of (fn := Tryd.f51) (c := code51) rfl rfl (by kernel_rfl) (tab_cons (S93_1_ok F _ (noS_sound enter93)) tab_nil) (by kernel_rfl) (by kernel_rfl) ho (by rw [loops51]; exact loopsOK_nil) (by rw [scopes51]; exact (scopesOK_cons (by kernel_rfl) (by kernel_rfl) (L51_1_1000000 F) scopesOK_nil)) (by rw [ranges51]; exact rangesOK_nil) (E51_1 F)
end Go.Proofs.YtillbabmlfjegaaDoor.X
end

section
namespace Go.Proofs.YtillbabmlfjegaaDoor.X
open Go Go.Proofs.YtillbabmlfjegaaDoor.Ev Go.Proofs
set_option linter.unusedVariables false
set_option linter.unusedSectionVars false
/-! api.Put] -/
noncomputable def f104_1 {β : Type} (F : Nat) (a1 : List (Int × ByteArray)) (K0 : Option β) : Option β := K0
variable [FZ]
def sh104_1 : Sh := ⟨[.lf (.full 0)], [some ⟨none, [.seq (.pair (.int .i64) .str) 0]⟩]⟩
noncomputable def S104_1 (F : Nat) (o : Summ) : Summ := mkS sh104_1 (fun d K => f104_1 F d.2.1.2.1 (K [.lf (.clo 121 [1])] [some ⟨d.2.1.1, [.seq (.pair (.int .i64) .str) 0 d.2.1.2.1]⟩, some ⟨false, [.full 0]⟩])) o
noncomputable def code104 : Code := bodyOf Tryd.f104
theorem scopes104 : scopesOf code104 = [] := by kernel_rfl
theorem ranges104 : rangesOf code104 = [] := by kernel_rfl
theorem loops104 : loopsOf code104 = [] := by kernel_rfl
theorem enter104 : ∀ args w, (callFunc 104 args).run Tryd.prog w = .ok (.enter 104 args) w := enter_of (fn := Tryd.f104) (by kernel_rfl) (by kernel_rfl) (by kernel_rfl)
noncomputable def T104_1 (F : Nat) : FuncId → Option Summ := tab []
noncomputable def LT104_1 (F : Nat) : Nat → Option LoopS := ltab []
theorem E104_1g (F : Nat)    (d : sh104_1.den) (K : KF) : evBody Tryd.prog (tab []) (xw []) 4 1 (ltab []) code104 Tryd.f104.results.toList (encT sh104_1.vs d.1) (encH sh104_1.h d.2) K = (fun (a1 : List (Int × ByteArray)) (K0 : (Option Res)) => K0) d.2.1.2.1 (K [.lf (.clo 121 [1])] [some ⟨d.2.1.1, [.seq (.pair (.int .i64) .str) 0 d.2.1.2.1]⟩, some ⟨false, [.full 0]⟩]) := by kernel_rfl
theorem E104_1 (F : Nat) (d : sh104_1.den) (K : KF) : evBody Tryd.prog (T104_1 F) (xw []) 4 1 (LT104_1 F) code104 Tryd.f104.results.toList (encT sh104_1.vs d.1) (encH sh104_1.h d.2) K = f104_1 F d.2.1.2.1 (K [.lf (.clo 121 [1])] [some ⟨d.2.1.1, [.seq (.pair (.int .i64) .str) 0 d.2.1.2.1]⟩, some ⟨false, [.full 0]⟩]) := Eq.mp (by kernel_rfl) (E104_1g F    d K)
theorem S104_1_ok (F : Nat) (o : Summ) (ho : SoundFn Tryd.prog 104 o) : SoundFn Tryd.prog 104 (S104_1 F o) :=
  soundFn_of (fn := Tryd.f104) (c := code104) rfl rfl (by kernel_rfl) tab_nil (by kernel_rfl) (by kernel_rfl) ho (by rw [loops104]; exact loopsOK_nil) (by rw [scopes104]; exact scopesOK_nil) (by rw [ranges104]; exact rangesOK_nil) (E104_1 F)
end Go.Proofs.YtillbabmlfjegaaDoor.X
end

section
namespace Go.Proofs.YtillbabmlfjegaaDoor.X
open Go Go.Proofs.YtillbabmlfjegaaDoor.Ev Go.Proofs
set_option linter.unusedVariables false
set_option linter.unusedSectionVars false
/-! disk.Disk).Kept -/
noncomputable def f30_1 {β : Type} (F : Nat) (a1 : Int) (a2 : Int) (a3 : Bool) (a4 : Int) (a5 : List ByteArray) (a6 : List (Int × ByteArray)) (K0 : ByteArray → Int → Option β) : Option β := f65_1 F a1 a2 a3 a4 a5 a6 (fun x1 => cond (!x1) (K0 ByteArray.empty 3) (cond (decide ((0 : Int) ≤ a1 ∧ a1 < ((a5.length : Nat) : Int))) (cond (decide (0 + a1.toNat < a5.length)) (K0 (a5.getD (0 + a1.toNat) ByteArray.empty) 0) none) none)) 
variable [FZ]
def sh30_1 : Sh := ⟨[.lf (.ptr 0 0), .lf (.int .i64)], [some ⟨none, [.full 1, .full 2, .int .i64, .bool, .int .i64]⟩, some ⟨none, [.seq .str 0]⟩, some ⟨none, [.seq (.pair (.int .i64) .str) 0]⟩]⟩
noncomputable def S30_1 (F : Nat) (o : Summ) : Summ := mkS sh30_1 (fun d K => f30_1 F d.1.2.1 d.2.1.2.2.2.1 d.2.1.2.2.2.2.1 d.2.1.2.2.2.2.2.1 d.2.2.1.2.1 d.2.2.2.1.2.1 (fun (y0 : ByteArray) (y1 : Int) => K [.lf (.str y0), .lf (.int .i64 y1)] [some ⟨d.2.1.1, [.full 1, .full 2, .int .i64 d.2.1.2.2.2.1, .bool d.2.1.2.2.2.2.1, .int .i64 d.2.1.2.2.2.2.2.1]⟩, some ⟨d.2.2.1.1, [.seq .str 0 d.2.2.1.2.1]⟩, some ⟨d.2.2.2.1.1, [.seq (.pair (.int .i64) .str) 0 d.2.2.2.1.2.1]⟩])) o
noncomputable def code30 : Code := bodyOf Tryd.f30
theorem scopes30 : scopesOf code30 = [] := by kernel_rfl
theorem ranges30 : rangesOf code30 = [] := by kernel_rfl
theorem loops30 : loopsOf code30 = [] := by kernel_rfl
theorem enter30 : ∀ args w, (callFunc 30 args).run Tryd.prog w = .ok (.enter 30 args) w := enter_of (fn := Tryd.f30) (by kernel_rfl) (by kernel_rfl) (by kernel_rfl)
noncomputable def T30_1 (F : Nat) : FuncId → Option Summ := tab [(65, (S65_1 F noS))]
noncomputable def LT30_1 (F : Nat) : Nat → Option LoopS := ltab []
theorem E30_1g (F : Nat) (c65_1 : Int → Int → Bool → Int → List ByteArray → List (Int × ByteArray) → (Bool → Option Res) → Option Res)   (d : sh30_1.den) (K : KF) : evBody Tryd.prog (tab [(65, (mkS sh65_1 (fun d K => c65_1 d.1.2.1 d.2.1.2.2.2.1 d.2.1.2.2.2.2.1 d.2.1.2.2.2.2.2.1 d.2.2.1.2.1 d.2.2.2.1.2.1 (fun (y0 : Bool) => K [.lf (.bool y0)] [some ⟨d.2.1.1, [.full 1, .full 2, .int .i64 d.2.1.2.2.2.1, .bool d.2.1.2.2.2.2.1, .int .i64 d.2.1.2.2.2.2.2.1]⟩, some ⟨d.2.2.1.1, [.seq .str 0 d.2.2.1.2.1]⟩, some ⟨d.2.2.2.1.1, [.seq (.pair (.int .i64) .str) 0 d.2.2.2.1.2.1]⟩])) noS))]) (xw []) 21 3 (ltab []) code30 Tryd.f30.results.toList (encT sh30_1.vs d.1) (encH sh30_1.h d.2) K = (fun (a1 : Int) (a2 : Int) (a3 : Bool) (a4 : Int) (a5 : List ByteArray) (a6 : List (Int × ByteArray)) (K0 : (ByteArray → Int → Option Res)) => c65_1 a1 a2 a3 a4 a5 a6 (fun x1 => cond (!x1) (K0 ByteArray.empty 3) (cond (decide ((0 : Int) ≤ a1 ∧ a1 < ((a5.length : Nat) : Int))) (cond (decide (0 + a1.toNat < a5.length)) (K0 (a5.getD (0 + a1.toNat) ByteArray.empty) 0) none) none)) ) d.1.2.1 d.2.1.2.2.2.1 d.2.1.2.2.2.2.1 d.2.1.2.2.2.2.2.1 d.2.2.1.2.1 d.2.2.2.1.2.1 (fun (y0 : ByteArray) (y1 : Int) => K [.lf (.str y0), .lf (.int .i64 y1)] [some ⟨d.2.1.1, [.full 1, .full 2, .int .i64 d.2.1.2.2.2.1, .bool d.2.1.2.2.2.2.1, .int .i64 d.2.1.2.2.2.2.2.1]⟩, some ⟨d.2.2.1.1, [.seq .str 0 d.2.2.1.2.1]⟩, some ⟨d.2.2.2.1.1, [.seq (.pair (.int .i64) .str) 0 d.2.2.2.1.2.1]⟩]) := by kernel_rfl
theorem E30_1 (F : Nat) (d : sh30_1.den) (K : KF) : evBody Tryd.prog (T30_1 F) (xw []) 21 3 (LT30_1 F) code30 Tryd.f30.results.toList (encT sh30_1.vs d.1) (encH sh30_1.h d.2) K = f30_1 F d.1.2.1 d.2.1.2.2.2.1 d.2.1.2.2.2.2.1 d.2.1.2.2.2.2.2.1 d.2.2.1.2.1 d.2.2.2.1.2.1 (fun (y0 : ByteArray) (y1 : Int) => K [.lf (.str y0), .lf (.int .i64 y1)] [some ⟨d.2.1.1, [.full 1, .full 2, .int .i64 d.2.1.2.2.2.1, .bool d.2.1.2.2.2.2.1, .int .i64 d.2.1.2.2.2.2.2.1]⟩, some ⟨d.2.2.1.1, [.seq .str 0 d.2.2.1.2.1]⟩, some ⟨d.2.2.2.1.1, [.seq (.pair (.int .i64) .str) 0 d.2.2.2.1.2.1]⟩]) := Eq.mp (by kernel_rfl) (E30_1g F (f65_1 F)   d K)
theorem S30_1_ok (F : Nat) (o : Summ) (ho : SoundFn Tryd.prog 30 o) : SoundFn Tryd.prog 30 (S30_1 F o) :=
  soundFn_of (fn := Tryd.f30) (c := code30) rfl rfl (by kernel_rfl) (tab_cons (S65_1_ok F _ (noS_sound enter65)) tab_nil) (by kernel_rfl) (by kernel_rfl) ho (by rw [loops30]; exact loopsOK_nil) (by rw [scopes30]; exact scopesOK_nil) (by rw [ranges30]; exact rangesOK_nil) (E30_1 F)
end Go.Proofs.YtillbabmlfjegaaDoor.X
end

section
namespace Go.Proofs.YtillbabmlfjegaaDoor.X
open Go Go.Proofs.YtillbabmlfjegaaDoor.Ev Go.Proofs
set_option linter.unusedVariables false
set_option linter.unusedSectionVars false
/-! disk.Disk).Read -/
noncomputable def f72_1_r2000006_l1 {β : Type} (F : Nat) (v10 : Int) (v11 : Bool) (v12 : Int) (v13 : List ByteArray) (v14 : List (Int × ByteArray)) (v15 : Int) (v16 : ByteArray) (v17 : Int) (K0 : ByteArray → Int → ByteArray → Option β) (K1 : Option β) : Nat → Int → Option β
  | 0, _ => none
  | k + 1, v9 => cond (decide (v9 ≥ 0)) (cond (decide ((0 : Int) ≤ v9 ∧ v9 < ((v14.length : Nat) : Int))) (cond (decide (0 + v9.toNat < v14.length)) (cond (((v14.getD (0 + v9.toNat) (0, ByteArray.empty)).1) == v15) (K0 ((v14.getD (0 + v9.toNat) (0, ByteArray.empty)).2) ((v14.getD (0 + v9.toNat) (0, ByteArray.empty)).1) ((v14.getD (0 + v9.toNat) (0, ByteArray.empty)).2)) (f72_1_r2000006_l1 F v10 v11 v12 v13 v14 v15 v16 v17 K0 K1 k (IntKind.i64.wrap (v9 - 1)))) none) none) (K1)
noncomputable def f72_1_r2000006 {β : Type} (F : Nat) (v1 : Int) (v2 : Bool) (v3 : Int) (v4 : List ByteArray) (v5 : List (Int × ByteArray)) (v6 : Int) (v7 : ByteArray) (v8 : Int) (K0 : ByteArray → Int → ByteArray → Option β) (K1 : Option β) : Option β := f72_1_r2000006_l1 F v1 v2 v3 v4 v5 v6 v7 v8 (fun x18 x19 x20 => K0 x18 x19 x20) (K1) F (IntKind.i64.wrap (((v5.length : Nat) : Int) - 1))
noncomputable def f72_1 {β : Type} (F : Nat) (a1 : Int) (a2 : Int) (a3 : Bool) (a4 : Int) (a5 : List ByteArray) (a6 : List (Int × ByteArray)) (K0 : ByteArray → Int → Option β) : Option β := cond a3 (K0 ByteArray.empty 5) (f104_1 F a6 (f72_1_r2000006 F a2 a3 a4 a5 a6 a1 ByteArray.empty 0 (fun x21 x22 x23 => K0 x21 0) (f30_1 F a1 a2 a3 a4 a5 a6 (fun x24 x25 => K0 x24 x25) ) ) )
variable [FZ]
def sh72_1 : Sh := ⟨[.lf (.ptr 0 0), .lf (.int .i64)], [some ⟨none, [.full 1, .full 2, .int .i64, .bool, .int .i64]⟩, some ⟨none, [.seq .str 0]⟩, some ⟨none, [.seq (.pair (.int .i64) .str) 0]⟩]⟩
noncomputable def S72_1 (F : Nat) (o : Summ) : Summ := mkS sh72_1 (fun d K => f72_1 F d.1.2.1 d.2.1.2.2.2.1 d.2.1.2.2.2.2.1 d.2.1.2.2.2.2.2.1 d.2.2.1.2.1 d.2.2.2.1.2.1 (fun (y0 : ByteArray) (y1 : Int) => K [.lf (.str y0), .lf (.int .i64 y1)] [some ⟨d.2.1.1, [.full 1, .full 2, .int .i64 d.2.1.2.2.2.1, .bool d.2.1.2.2.2.2.1, .int .i64 d.2.1.2.2.2.2.2.1]⟩, some ⟨d.2.2.1.1, [.seq .str 0 d.2.2.1.2.1]⟩, some ⟨d.2.2.2.1.1, [.seq (.pair (.int .i64) .str) 0 d.2.2.2.1.2.1]⟩])) o
noncomputable def code72 : Code := bodyOf Tryd.f72
noncomputable def rg72_0 : Code := cB (cR (cL (cR (cR (code72)))))
theorem scopes72 : scopesOf code72 = [] := by kernel_rfl
theorem ranges72 : rangesOf code72 = [.rangeFunc (rgG rg72_0) (rgP rg72_0) (rgX rg72_0) (rgY rg72_0)] := by kernel_rfl
theorem loops72 : loopsOf code72 = [] := by kernel_rfl
theorem enter72 : ∀ args w, (callFunc 72 args).run Tryd.prog w = .ok (.enter 72 args) w := enter_of (fn := Tryd.f72) (by kernel_rfl) (by kernel_rfl) (by kernel_rfl)
noncomputable def T72_1 (F : Nat) : FuncId → Option Summ := tab [(30, (S30_1 F noS)), (104, (S104_1 F noS))]
def sh72_1_l2000006 : Sh := ⟨[.lf (.ptr 0 0), .lf (.ptr 3 0), .lf (.ptr 4 0), .lf (.ptr 5 0), .lf (.clo 121 [6])], [some ⟨none, [.full 1, .full 2, .int .i64, .bool, .int .i64]⟩, some ⟨none, [.seq .str 0]⟩, some ⟨none, [.seq (.pair (.int .i64) .str) 0]⟩, some ⟨some false, [.int .i64]⟩, some ⟨some false, [.str]⟩, some ⟨some false, [.int .i64]⟩, some ⟨some false, [.full 2]⟩]⟩
noncomputable def G72_1_2000006 (F k : Nat) : LoopS := mkG sh72_1_l2000006 [0, 3, 4, 5, 20] (outT [(.normal, [0, 3, 4, 5]), (.ret, [4, 5])]) (fun d K => f72_1_r2000006 F d.2.1.2.2.2.1 d.2.1.2.2.2.2.1 d.2.1.2.2.2.2.2.1 d.2.2.1.2.1 d.2.2.2.1.2.1 d.2.2.2.2.1.2.1 d.2.2.2.2.2.1.2.1 d.2.2.2.2.2.2.1.2.1 (fun (y6 : ByteArray) (y8 : Int) (y9 : ByteArray) => K .ret [.tv (.lf (.ptr 4 0)), .tv (.lf (.ptr 5 0))] [some ⟨d.2.1.1, [.full 1, .full 2, .int .i64 d.2.1.2.2.2.1, .bool d.2.1.2.2.2.2.1, .int .i64 d.2.1.2.2.2.2.2.1]⟩, some ⟨d.2.2.1.1, [.seq .str 0 d.2.2.1.2.1]⟩, some ⟨d.2.2.2.1.1, [.seq (.pair (.int .i64) .str) 0 d.2.2.2.1.2.1]⟩, some ⟨false, [.int .i64 d.2.2.2.2.1.2.1]⟩, some ⟨false, [.str y6]⟩, some ⟨false, [.int .i64 0]⟩, some ⟨false, [.full 2]⟩, none, none, none, none, some ⟨false, [.int .i64 y8, .str y9]⟩]) (K .normal [.tv (.lf (.ptr 0 0)), .tv (.lf (.ptr 3 0)), .tv (.lf (.ptr 4 0)), .tv (.lf (.ptr 5 0))] [some ⟨d.2.1.1, [.full 1, .full 2, .int .i64 d.2.1.2.2.2.1, .bool d.2.1.2.2.2.2.1, .int .i64 d.2.1.2.2.2.2.2.1]⟩, some ⟨d.2.2.1.1, [.seq .str 0 d.2.2.1.2.1]⟩, some ⟨d.2.2.2.1.1, [.seq (.pair (.int .i64) .str) 0 d.2.2.2.1.2.1]⟩, some ⟨false, [.int .i64 d.2.2.2.2.1.2.1]⟩, some ⟨false, [.str d.2.2.2.2.2.1.2.1]⟩, some ⟨false, [.int .i64 d.2.2.2.2.2.2.1.2.1]⟩, some ⟨false, [.full 2]⟩, none, none, none, none])) []
noncomputable def LT72_1 (F : Nat) : Nat → Option LoopS := ltab [(2000006, G72_1_2000006 F F)]
noncomputable def ic72_1_2000006 : Code := bodyOf Tryd.f121
noncomputable def ic72_1_2000006_b0 : Code := cB (cB (cR (ic72_1_2000006)))
theorem ic72_1_2000006_loops : loopsOf ic72_1_2000006 = [ic72_1_2000006_b0] := by kernel_rfl
theorem ic72_1_2000006_scopes : scopesOf ic72_1_2000006 = [] := by kernel_rfl
def sh72_1_r2000006_l1 : Sh := ⟨[.lf (.yld 7), .lf (.ptr 6 0), .lf (.int .i64)], [some ⟨none, [.full 1, .full 2, .int .i64, .bool, .int .i64]⟩, some ⟨none, [.seq .str 0]⟩, some ⟨none, [.seq (.pair (.int .i64) .str) 0]⟩, some ⟨some false, [.int .i64]⟩, some ⟨some false, [.str]⟩, some ⟨some false, [.int .i64]⟩, some ⟨some false, [.full 2]⟩, some ⟨some false, []⟩, none, none, some ⟨some false, []⟩]⟩
noncomputable def GI72_1_2000006_1 (F : Nat) (d : sh72_1_l2000006.den) (k : Nat) : LoopS := mkG sh72_1_r2000006_l1 [0, 1, 3] (outT [(.exit 0, []), (.ret, [])]) (fun e K => f72_1_r2000006_l1 F e.2.1.2.2.2.1 e.2.1.2.2.2.2.1 e.2.1.2.2.2.2.2.1 e.2.2.1.2.1 e.2.2.2.1.2.1 e.2.2.2.2.1.2.1 e.2.2.2.2.2.1.2.1 e.2.2.2.2.2.2.1.2.1 (fun (y6 : ByteArray) (y8 : Int) (y9 : ByteArray) => K .ret [] [some ⟨e.2.1.1, [.full 1, .full 2, .int .i64 e.2.1.2.2.2.1, .bool e.2.1.2.2.2.2.1, .int .i64 e.2.1.2.2.2.2.2.1]⟩, some ⟨e.2.2.1.1, [.seq .str 0 e.2.2.1.2.1]⟩, some ⟨e.2.2.2.1.1, [.seq (.pair (.int .i64) .str) 0 e.2.2.2.1.2.1]⟩, some ⟨false, [.int .i64 e.2.2.2.2.1.2.1]⟩, some ⟨false, [.str y6]⟩, some ⟨false, [.int .i64 0]⟩, some ⟨false, [.full 2]⟩, none, none, some ⟨false, []⟩, some ⟨false, []⟩, some ⟨false, [.int .i64 y8, .str y9]⟩]) (K (.exit 0) [] [some ⟨e.2.1.1, [.full 1, .full 2, .int .i64 e.2.1.2.2.2.1, .bool e.2.1.2.2.2.2.1, .int .i64 e.2.1.2.2.2.2.2.1]⟩, some ⟨e.2.2.1.1, [.seq .str 0 e.2.2.1.2.1]⟩, some ⟨e.2.2.2.1.1, [.seq (.pair (.int .i64) .str) 0 e.2.2.2.1.2.1]⟩, some ⟨false, [.int .i64 e.2.2.2.2.1.2.1]⟩, some ⟨false, [.str e.2.2.2.2.2.1.2.1]⟩, some ⟨false, [.int .i64 e.2.2.2.2.2.2.1.2.1]⟩, some ⟨false, [.full 2]⟩, some ⟨false, []⟩, none, none, some ⟨false, []⟩]) k e.1.2.2.1) []
noncomputable def it72_1_2000006 (F : Nat) (d : sh72_1_l2000006.den) : Nat → Option LoopS := ltab [(1, GI72_1_2000006_1 F d F)]
theorem L72_1_r2000006_l1g (F k : Nat) (d : sh72_1_l2000006.den) (c30_1 : Int → Int → Bool → Int → List ByteArray → List (Int × ByteArray) → (ByteArray → Int → Option Res) → Option Res) (c104_1 : List (Int × ByteArray) → (Option Res) → Option Res)  (l1 : Int → Bool → Int → List ByteArray → List (Int × ByteArray) → Int → ByteArray → Int → (ByteArray → Int → ByteArray → Option Res) → (Option Res) → Nat → Int → Option Res) (X1 : LoopS) (e : sh72_1_r2000006_l1.den) (K : KL) : (fun (v10 : Int) (v11 : Bool) (v12 : Int) (v13 : List ByteArray) (v14 : List (Int × ByteArray)) (v15 : Int) (v16 : ByteArray) (v17 : Int) (K0 : (ByteArray → Int → ByteArray → Option Res)) (K1 : (Option Res)) (k : Nat) (v9 : Int) => cond (decide (v9 ≥ 0)) (cond (decide ((0 : Int) ≤ v9 ∧ v9 < ((v14.length : Nat) : Int))) (cond (decide (0 + v9.toNat < v14.length)) (cond (((v14.getD (0 + v9.toNat) (0, ByteArray.empty)).1) == v15) (K0 ((v14.getD (0 + v9.toNat) (0, ByteArray.empty)).2) ((v14.getD (0 + v9.toNat) (0, ByteArray.empty)).1) ((v14.getD (0 + v9.toNat) (0, ByteArray.empty)).2)) (l1 v10 v11 v12 v13 v14 v15 v16 v17 K0 K1 k (IntKind.i64.wrap (v9 - 1)))) none) none) (K1)) e.2.1.2.2.2.1 e.2.1.2.2.2.2.1 e.2.1.2.2.2.2.2.1 e.2.2.1.2.1 e.2.2.2.1.2.1 e.2.2.2.2.1.2.1 e.2.2.2.2.2.1.2.1 e.2.2.2.2.2.2.1.2.1 (fun (y6 : ByteArray) (y8 : Int) (y9 : ByteArray) => K .ret [] [some ⟨e.2.1.1, [.full 1, .full 2, .int .i64 e.2.1.2.2.2.1, .bool e.2.1.2.2.2.2.1, .int .i64 e.2.1.2.2.2.2.2.1]⟩, some ⟨e.2.2.1.1, [.seq .str 0 e.2.2.1.2.1]⟩, some ⟨e.2.2.2.1.1, [.seq (.pair (.int .i64) .str) 0 e.2.2.2.1.2.1]⟩, some ⟨false, [.int .i64 e.2.2.2.2.1.2.1]⟩, some ⟨false, [.str y6]⟩, some ⟨false, [.int .i64 0]⟩, some ⟨false, [.full 2]⟩, none, none, some ⟨false, []⟩, some ⟨false, []⟩, some ⟨false, [.int .i64 y8, .str y9]⟩]) (K (.exit 0) [] [some ⟨e.2.1.1, [.full 1, .full 2, .int .i64 e.2.1.2.2.2.1, .bool e.2.1.2.2.2.2.1, .int .i64 e.2.1.2.2.2.2.2.1]⟩, some ⟨e.2.2.1.1, [.seq .str 0 e.2.2.1.2.1]⟩, some ⟨e.2.2.2.1.1, [.seq (.pair (.int .i64) .str) 0 e.2.2.2.1.2.1]⟩, some ⟨false, [.int .i64 e.2.2.2.2.1.2.1]⟩, some ⟨false, [.str e.2.2.2.2.2.1.2.1]⟩, some ⟨false, [.int .i64 e.2.2.2.2.2.2.1.2.1]⟩, some ⟨false, [.full 2]⟩, some ⟨false, []⟩, none, none, some ⟨false, []⟩]) k e.1.2.2.1 = roundOf Tryd.prog (tab [(30, (mkS sh30_1 (fun d K => c30_1 d.1.2.1 d.2.1.2.2.2.1 d.2.1.2.2.2.2.1 d.2.1.2.2.2.2.2.1 d.2.2.1.2.1 d.2.2.2.1.2.1 (fun (y0 : ByteArray) (y1 : Int) => K [.lf (.str y0), .lf (.int .i64 y1)] [some ⟨d.2.1.1, [.full 1, .full 2, .int .i64 d.2.1.2.2.2.1, .bool d.2.1.2.2.2.2.1, .int .i64 d.2.1.2.2.2.2.2.1]⟩, some ⟨d.2.2.1.1, [.seq .str 0 d.2.2.1.2.1]⟩, some ⟨d.2.2.2.1.1, [.seq (.pair (.int .i64) .str) 0 d.2.2.2.1.2.1]⟩])) noS)), (104, (mkS sh104_1 (fun d K => c104_1 d.2.1.2.1 (K [.lf (.clo 121 [1])] [some ⟨d.2.1.1, [.seq (.pair (.int .i64) .str) 0 d.2.1.2.1]⟩, some ⟨false, [.full 0]⟩])) noS))]) ⟨[], false, some (yieldOf Tryd.prog (tab [(30, (mkS sh30_1 (fun d K => c30_1 d.1.2.1 d.2.1.2.2.2.1 d.2.1.2.2.2.2.1 d.2.1.2.2.2.2.2.1 d.2.2.1.2.1 d.2.2.2.1.2.1 (fun (y0 : ByteArray) (y1 : Int) => K [.lf (.str y0), .lf (.int .i64 y1)] [some ⟨d.2.1.1, [.full 1, .full 2, .int .i64 d.2.1.2.2.2.1, .bool d.2.1.2.2.2.2.1, .int .i64 d.2.1.2.2.2.2.2.1]⟩, some ⟨d.2.2.1.1, [.seq .str 0 d.2.2.1.2.1]⟩, some ⟨d.2.2.2.1.1, [.seq (.pair (.int .i64) .str) 0 d.2.2.2.1.2.1]⟩])) noS)), (104, (mkS sh104_1 (fun d K => c104_1 d.2.1.2.1 (K [.lf (.clo 121 [1])] [some ⟨d.2.1.1, [.seq (.pair (.int .i64) .str) 0 d.2.1.2.1]⟩, some ⟨false, [.full 0]⟩])) noS))]) [] 34 noLT (mkEnv 34 [0, 3, 4, 5, 20] (avsOf (encT sh72_1_l2000006.vs d.1))) (rgP rg72_0).toList (rgX rg72_0) (rgY rg72_0) .ret 7)⟩ 19 11 (ltab [(1, X1)]) (mkG sh72_1_r2000006_l1 [0, 1, 3] (outT [(.exit 0, []), (.ret, [])]) (fun e K => l1 e.2.1.2.2.2.1 e.2.1.2.2.2.2.1 e.2.1.2.2.2.2.2.1 e.2.2.1.2.1 e.2.2.2.1.2.1 e.2.2.2.2.1.2.1 e.2.2.2.2.2.1.2.1 e.2.2.2.2.2.2.1.2.1 (fun (y6 : ByteArray) (y8 : Int) (y9 : ByteArray) => K .ret [] [some ⟨e.2.1.1, [.full 1, .full 2, .int .i64 e.2.1.2.2.2.1, .bool e.2.1.2.2.2.2.1, .int .i64 e.2.1.2.2.2.2.2.1]⟩, some ⟨e.2.2.1.1, [.seq .str 0 e.2.2.1.2.1]⟩, some ⟨e.2.2.2.1.1, [.seq (.pair (.int .i64) .str) 0 e.2.2.2.1.2.1]⟩, some ⟨false, [.int .i64 e.2.2.2.2.1.2.1]⟩, some ⟨false, [.str y6]⟩, some ⟨false, [.int .i64 0]⟩, some ⟨false, [.full 2]⟩, none, none, some ⟨false, []⟩, some ⟨false, []⟩, some ⟨false, [.int .i64 y8, .str y9]⟩]) (K (.exit 0) [] [some ⟨e.2.1.1, [.full 1, .full 2, .int .i64 e.2.1.2.2.2.1, .bool e.2.1.2.2.2.2.1, .int .i64 e.2.1.2.2.2.2.2.1]⟩, some ⟨e.2.2.1.1, [.seq .str 0 e.2.2.1.2.1]⟩, some ⟨e.2.2.2.1.1, [.seq (.pair (.int .i64) .str) 0 e.2.2.2.1.2.1]⟩, some ⟨false, [.int .i64 e.2.2.2.2.1.2.1]⟩, some ⟨false, [.str e.2.2.2.2.2.1.2.1]⟩, some ⟨false, [.int .i64 e.2.2.2.2.2.2.1.2.1]⟩, some ⟨false, [.full 2]⟩, some ⟨false, []⟩, none, none, some ⟨false, []⟩]) k e.1.2.2.1) []) ic72_1_2000006_b0 (encT sh72_1_r2000006_l1.vs e.1) (encH sh72_1_r2000006_l1.h e.2) K := by kernel_rfl
theorem LI72_1_2000006_1 (F : Nat) (d : sh72_1_l2000006.den) : LoopOK Tryd.prog (T72_1 F) ⟨[], false, some (yieldOf Tryd.prog (T72_1 F) [] 34 noLT (mkEnv 34 [0, 3, 4, 5, 20] (avsOf (encT sh72_1_l2000006.vs d.1))) (rgP rg72_0).toList (rgX rg72_0) (rgY rg72_0) .ret 7)⟩ 19 11 (it72_1_2000006 F d) (GI72_1_2000006_1 F d F) ic72_1_2000006_b0 :=
  loopOK_of (s := sh72_1_r2000006_l1) (live := [0, 1, 3]) (out := (outT [(.exit 0, []), (.ret, [])])) (mv := []) (fun k e K => f72_1_r2000006_l1 F e.2.1.2.2.2.1 e.2.1.2.2.2.2.1 e.2.1.2.2.2.2.2.1 e.2.2.1.2.1 e.2.2.2.1.2.1 e.2.2.2.2.1.2.1 e.2.2.2.2.2.1.2.1 e.2.2.2.2.2.2.1.2.1 (fun (y6 : ByteArray) (y8 : Int) (y9 : ByteArray) => K .ret [] [some ⟨e.2.1.1, [.full 1, .full 2, .int .i64 e.2.1.2.2.2.1, .bool e.2.1.2.2.2.2.1, .int .i64 e.2.1.2.2.2.2.2.1]⟩, some ⟨e.2.2.1.1, [.seq .str 0 e.2.2.1.2.1]⟩, some ⟨e.2.2.2.1.1, [.seq (.pair (.int .i64) .str) 0 e.2.2.2.1.2.1]⟩, some ⟨false, [.int .i64 e.2.2.2.2.1.2.1]⟩, some ⟨false, [.str y6]⟩, some ⟨false, [.int .i64 0]⟩, some ⟨false, [.full 2]⟩, none, none, some ⟨false, []⟩, some ⟨false, []⟩, some ⟨false, [.int .i64 y8, .str y9]⟩]) (K (.exit 0) [] [some ⟨e.2.1.1, [.full 1, .full 2, .int .i64 e.2.1.2.2.2.1, .bool e.2.1.2.2.2.2.1, .int .i64 e.2.1.2.2.2.2.2.1]⟩, some ⟨e.2.2.1.1, [.seq .str 0 e.2.2.1.2.1]⟩, some ⟨e.2.2.2.1.1, [.seq (.pair (.int .i64) .str) 0 e.2.2.2.1.2.1]⟩, some ⟨false, [.int .i64 e.2.2.2.2.1.2.1]⟩, some ⟨false, [.str e.2.2.2.2.2.1.2.1]⟩, some ⟨false, [.int .i64 e.2.2.2.2.2.2.1.2.1]⟩, some ⟨false, [.full 2]⟩, some ⟨false, []⟩, none, none, some ⟨false, []⟩]) k e.1.2.2.1) F (fun e K => by kernel_rfl) (fun k e K => Eq.mp (by kernel_rfl) (L72_1_r2000006_l1g F k d (f30_1 F) (f104_1 F)  (f72_1_r2000006_l1 F) (GI72_1_2000006_1 F d F) e K))
theorem R72_1_2000006g (F : Nat) (c30_1 : Int → Int → Bool → Int → List ByteArray → List (Int × ByteArray) → (ByteArray → Int → Option Res) → Option Res) (c104_1 : List (Int × ByteArray) → (Option Res) → Option Res) (l1 : Int → Bool → Int → List ByteArray → List (Int × ByteArray) → Int → ByteArray → Int → (ByteArray → Int → ByteArray → Option Res) → (Option Res) → Nat → Int → Option Res)  (d : sh72_1_l2000006.den) (K : KL) : (fun (v1 : Int) (v2 : Bool) (v3 : Int) (v4 : List ByteArray) (v5 : List (Int × ByteArray)) (v6 : Int) (v7 : ByteArray) (v8 : Int) (K0 : (ByteArray → Int → ByteArray → Option Res)) (K1 : (Option Res)) => l1 v1 v2 v3 v4 v5 v6 v7 v8 (fun x18 x19 x20 => K0 x18 x19 x20) (K1) F (IntKind.i64.wrap (((v5.length : Nat) : Int) - 1))) d.2.1.2.2.2.1 d.2.1.2.2.2.2.1 d.2.1.2.2.2.2.2.1 d.2.2.1.2.1 d.2.2.2.1.2.1 d.2.2.2.2.1.2.1 d.2.2.2.2.2.1.2.1 d.2.2.2.2.2.2.1.2.1 (fun (y6 : ByteArray) (y8 : Int) (y9 : ByteArray) => K .ret [.tv (.lf (.ptr 4 0)), .tv (.lf (.ptr 5 0))] [some ⟨d.2.1.1, [.full 1, .full 2, .int .i64 d.2.1.2.2.2.1, .bool d.2.1.2.2.2.2.1, .int .i64 d.2.1.2.2.2.2.2.1]⟩, some ⟨d.2.2.1.1, [.seq .str 0 d.2.2.1.2.1]⟩, some ⟨d.2.2.2.1.1, [.seq (.pair (.int .i64) .str) 0 d.2.2.2.1.2.1]⟩, some ⟨false, [.int .i64 d.2.2.2.2.1.2.1]⟩, some ⟨false, [.str y6]⟩, some ⟨false, [.int .i64 0]⟩, some ⟨false, [.full 2]⟩, none, none, none, none, some ⟨false, [.int .i64 y8, .str y9]⟩]) (K .normal [.tv (.lf (.ptr 0 0)), .tv (.lf (.ptr 3 0)), .tv (.lf (.ptr 4 0)), .tv (.lf (.ptr 5 0))] [some ⟨d.2.1.1, [.full 1, .full 2, .int .i64 d.2.1.2.2.2.1, .bool d.2.1.2.2.2.2.1, .int .i64 d.2.1.2.2.2.2.2.1]⟩, some ⟨d.2.2.1.1, [.seq .str 0 d.2.2.1.2.1]⟩, some ⟨d.2.2.2.1.1, [.seq (.pair (.int .i64) .str) 0 d.2.2.2.1.2.1]⟩, some ⟨false, [.int .i64 d.2.2.2.2.1.2.1]⟩, some ⟨false, [.str d.2.2.2.2.2.1.2.1]⟩, some ⟨false, [.int .i64 d.2.2.2.2.2.2.1.2.1]⟩, some ⟨false, [.full 2]⟩, none, none, none, none]) = rangeOf Tryd.prog (tab [(30, (mkS sh30_1 (fun d K => c30_1 d.1.2.1 d.2.1.2.2.2.1 d.2.1.2.2.2.2.1 d.2.1.2.2.2.2.2.1 d.2.2.1.2.1 d.2.2.2.1.2.1 (fun (y0 : ByteArray) (y1 : Int) => K [.lf (.str y0), .lf (.int .i64 y1)] [some ⟨d.2.1.1, [.full 1, .full 2, .int .i64 d.2.1.2.2.2.1, .bool d.2.1.2.2.2.2.1, .int .i64 d.2.1.2.2.2.2.2.1]⟩, some ⟨d.2.2.1.1, [.seq .str 0 d.2.2.1.2.1]⟩, some ⟨d.2.2.2.1.1, [.seq (.pair (.int .i64) .str) 0 d.2.2.2.1.2.1]⟩])) noS)), (104, (mkS sh104_1 (fun d K => c104_1 d.2.1.2.1 (K [.lf (.clo 121 [1])] [some ⟨d.2.1.1, [.seq (.pair (.int .i64) .str) 0 d.2.1.2.1]⟩, some ⟨false, [.full 0]⟩])) noS))]) (xw []) 34 (mkG sh72_1_l2000006 [0, 3, 4, 5, 20] (outT [(.normal, [0, 3, 4, 5]), (.ret, [4, 5])]) (fun d K => none)) (rgG rg72_0) (rgP rg72_0).toList (rgX rg72_0) (rgY rg72_0) ⟨121, ic72_1_2000006, 19, (ltab [(1, mkG sh72_1_r2000006_l1 [0, 1, 3] (outT [(.exit 0, []), (.ret, [])]) (fun e K => l1 e.2.1.2.2.2.1 e.2.1.2.2.2.2.1 e.2.1.2.2.2.2.2.1 e.2.2.1.2.1 e.2.2.2.1.2.1 e.2.2.2.2.1.2.1 e.2.2.2.2.2.1.2.1 e.2.2.2.2.2.2.1.2.1 (fun (y6 : ByteArray) (y8 : Int) (y9 : ByteArray) => K .ret [] [some ⟨e.2.1.1, [.full 1, .full 2, .int .i64 e.2.1.2.2.2.1, .bool e.2.1.2.2.2.2.1, .int .i64 e.2.1.2.2.2.2.2.1]⟩, some ⟨e.2.2.1.1, [.seq .str 0 e.2.2.1.2.1]⟩, some ⟨e.2.2.2.1.1, [.seq (.pair (.int .i64) .str) 0 e.2.2.2.1.2.1]⟩, some ⟨false, [.int .i64 e.2.2.2.2.1.2.1]⟩, some ⟨false, [.str y6]⟩, some ⟨false, [.int .i64 0]⟩, some ⟨false, [.full 2]⟩, none, none, some ⟨false, []⟩, some ⟨false, []⟩, some ⟨false, [.int .i64 y8, .str y9]⟩]) (K (.exit 0) [] [some ⟨e.2.1.1, [.full 1, .full 2, .int .i64 e.2.1.2.2.2.1, .bool e.2.1.2.2.2.2.1, .int .i64 e.2.1.2.2.2.2.2.1]⟩, some ⟨e.2.2.1.1, [.seq .str 0 e.2.2.1.2.1]⟩, some ⟨e.2.2.2.1.1, [.seq (.pair (.int .i64) .str) 0 e.2.2.2.1.2.1]⟩, some ⟨false, [.int .i64 e.2.2.2.2.1.2.1]⟩, some ⟨false, [.str e.2.2.2.2.2.1.2.1]⟩, some ⟨false, [.int .i64 e.2.2.2.2.2.2.1.2.1]⟩, some ⟨false, [.full 2]⟩, some ⟨false, []⟩, none, none, some ⟨false, []⟩]) F e.1.2.2.1) [])]), []⟩ noLT .ret (encT sh72_1_l2000006.vs d.1) (encH sh72_1_l2000006.h d.2) K := by kernel_rfl
theorem R72_1_2000006 (F : Nat) : RangeOK Tryd.prog (xw []) 34 3 (G72_1_2000006 F F) (.rangeFunc (rgG rg72_0) (rgP rg72_0) (rgX rg72_0) (rgY rg72_0)) :=
  rangeOK_of (X := (xw [])) (jump := .ret) (fun h => by cases h) rfl rfl (by kernel_rfl) (tab_cons (S30_1_ok F _ (noS_sound enter30)) (tab_cons (S104_1_ok F _ (noS_sound enter104)) tab_nil)) (s := sh72_1_l2000006) (live := [0, 3, 4, 5, 20]) (out := (outT [(.normal, [0, 3, 4, 5]), (.ret, [4, 5])])) (fun d K => f72_1_r2000006 F d.2.1.2.2.2.1 d.2.1.2.2.2.2.1 d.2.1.2.2.2.2.2.1 d.2.2.1.2.1 d.2.2.2.1.2.1 d.2.2.2.2.1.2.1 d.2.2.2.2.2.1.2.1 d.2.2.2.2.2.2.1.2.1 (fun (y6 : ByteArray) (y8 : Int) (y9 : ByteArray) => K .ret [.tv (.lf (.ptr 4 0)), .tv (.lf (.ptr 5 0))] [some ⟨d.2.1.1, [.full 1, .full 2, .int .i64 d.2.1.2.2.2.1, .bool d.2.1.2.2.2.2.1, .int .i64 d.2.1.2.2.2.2.2.1]⟩, some ⟨d.2.2.1.1, [.seq .str 0 d.2.2.1.2.1]⟩, some ⟨d.2.2.2.1.1, [.seq (.pair (.int .i64) .str) 0 d.2.2.2.1.2.1]⟩, some ⟨false, [.int .i64 d.2.2.2.2.1.2.1]⟩, some ⟨false, [.str y6]⟩, some ⟨false, [.int .i64 0]⟩, some ⟨false, [.full 2]⟩, none, none, none, none, some ⟨false, [.int .i64 y8, .str y9]⟩]) (K .normal [.tv (.lf (.ptr 0 0)), .tv (.lf (.ptr 3 0)), .tv (.lf (.ptr 4 0)), .tv (.lf (.ptr 5 0))] [some ⟨d.2.1.1, [.full 1, .full 2, .int .i64 d.2.1.2.2.2.1, .bool d.2.1.2.2.2.2.1, .int .i64 d.2.1.2.2.2.2.2.1]⟩, some ⟨d.2.2.1.1, [.seq .str 0 d.2.2.1.2.1]⟩, some ⟨d.2.2.2.1.1, [.seq (.pair (.int .i64) .str) 0 d.2.2.2.1.2.1]⟩, some ⟨false, [.int .i64 d.2.2.2.2.1.2.1]⟩, some ⟨false, [.str d.2.2.2.2.2.1.2.1]⟩, some ⟨false, [.int .i64 d.2.2.2.2.2.2.1.2.1]⟩, some ⟨false, [.full 2]⟩, none, none, none, none])) (it72_1_2000006 F) (f := 121) (fn := Tryd.f121) (c := ic72_1_2000006) (wrI := []) (enter_of (fn := Tryd.f121) (by kernel_rfl) (by kernel_rfl) (by kernel_rfl)) (by kernel_rfl) (by kernel_rfl) (by kernel_rfl) (fun d K => Eq.mp (by kernel_rfl) (R72_1_2000006g F (f30_1 F) (f104_1 F) (f72_1_r2000006_l1 F)  d K)) (fun d => by rw [ic72_1_2000006_loops]; exact (loopsOK_cons (by kernel_rfl) (LI72_1_2000006_1 F d) loopsOK_nil)) (fun d => by rw [ic72_1_2000006_scopes]; exact scopesOK_nil) (by kernel_rfl)
theorem E72_1g (F : Nat) (c30_1 : Int → Int → Bool → Int → List ByteArray → List (Int × ByteArray) → (ByteArray → Int → Option Res) → Option Res) (c104_1 : List (Int × ByteArray) → (Option Res) → Option Res) (l2000006 : Int → Bool → Int → List ByteArray → List (Int × ByteArray) → Int → ByteArray → Int → (ByteArray → Int → ByteArray → Option Res) → (Option Res) → Option Res)  (d : sh72_1.den) (K : KF) : evBody Tryd.prog (tab [(30, (mkS sh30_1 (fun d K => c30_1 d.1.2.1 d.2.1.2.2.2.1 d.2.1.2.2.2.2.1 d.2.1.2.2.2.2.2.1 d.2.2.1.2.1 d.2.2.2.1.2.1 (fun (y0 : ByteArray) (y1 : Int) => K [.lf (.str y0), .lf (.int .i64 y1)] [some ⟨d.2.1.1, [.full 1, .full 2, .int .i64 d.2.1.2.2.2.1, .bool d.2.1.2.2.2.2.1, .int .i64 d.2.1.2.2.2.2.2.1]⟩, some ⟨d.2.2.1.1, [.seq .str 0 d.2.2.1.2.1]⟩, some ⟨d.2.2.2.1.1, [.seq (.pair (.int .i64) .str) 0 d.2.2.2.1.2.1]⟩])) noS)), (104, (mkS sh104_1 (fun d K => c104_1 d.2.1.2.1 (K [.lf (.clo 121 [1])] [some ⟨d.2.1.1, [.seq (.pair (.int .i64) .str) 0 d.2.1.2.1]⟩, some ⟨false, [.full 0]⟩])) noS))]) (xw []) 34 3 (ltab [(2000006, mkG sh72_1_l2000006 [0, 3, 4, 5, 20] (outT [(.normal, [0, 3, 4, 5]), (.ret, [4, 5])]) (fun d K => l2000006 d.2.1.2.2.2.1 d.2.1.2.2.2.2.1 d.2.1.2.2.2.2.2.1 d.2.2.1.2.1 d.2.2.2.1.2.1 d.2.2.2.2.1.2.1 d.2.2.2.2.2.1.2.1 d.2.2.2.2.2.2.1.2.1 (fun (y6 : ByteArray) (y8 : Int) (y9 : ByteArray) => K .ret [.tv (.lf (.ptr 4 0)), .tv (.lf (.ptr 5 0))] [some ⟨d.2.1.1, [.full 1, .full 2, .int .i64 d.2.1.2.2.2.1, .bool d.2.1.2.2.2.2.1, .int .i64 d.2.1.2.2.2.2.2.1]⟩, some ⟨d.2.2.1.1, [.seq .str 0 d.2.2.1.2.1]⟩, some ⟨d.2.2.2.1.1, [.seq (.pair (.int .i64) .str) 0 d.2.2.2.1.2.1]⟩, some ⟨false, [.int .i64 d.2.2.2.2.1.2.1]⟩, some ⟨false, [.str y6]⟩, some ⟨false, [.int .i64 0]⟩, some ⟨false, [.full 2]⟩, none, none, none, none, some ⟨false, [.int .i64 y8, .str y9]⟩]) (K .normal [.tv (.lf (.ptr 0 0)), .tv (.lf (.ptr 3 0)), .tv (.lf (.ptr 4 0)), .tv (.lf (.ptr 5 0))] [some ⟨d.2.1.1, [.full 1, .full 2, .int .i64 d.2.1.2.2.2.1, .bool d.2.1.2.2.2.2.1, .int .i64 d.2.1.2.2.2.2.2.1]⟩, some ⟨d.2.2.1.1, [.seq .str 0 d.2.2.1.2.1]⟩, some ⟨d.2.2.2.1.1, [.seq (.pair (.int .i64) .str) 0 d.2.2.2.1.2.1]⟩, some ⟨false, [.int .i64 d.2.2.2.2.1.2.1]⟩, some ⟨false, [.str d.2.2.2.2.2.1.2.1]⟩, some ⟨false, [.int .i64 d.2.2.2.2.2.2.1.2.1]⟩, some ⟨false, [.full 2]⟩, none, none, none, none])) [])]) code72 Tryd.f72.results.toList (encT sh72_1.vs d.1) (encH sh72_1.h d.2) K = (fun (a1 : Int) (a2 : Int) (a3 : Bool) (a4 : Int) (a5 : List ByteArray) (a6 : List (Int × ByteArray)) (K0 : (ByteArray → Int → Option Res)) => cond a3 (K0 ByteArray.empty 5) (c104_1 a6 (l2000006 a2 a3 a4 a5 a6 a1 ByteArray.empty 0 (fun x21 x22 x23 => K0 x21 0) (c30_1 a1 a2 a3 a4 a5 a6 (fun x24 x25 => K0 x24 x25) ) ) )) d.1.2.1 d.2.1.2.2.2.1 d.2.1.2.2.2.2.1 d.2.1.2.2.2.2.2.1 d.2.2.1.2.1 d.2.2.2.1.2.1 (fun (y0 : ByteArray) (y1 : Int) => K [.lf (.str y0), .lf (.int .i64 y1)] [some ⟨d.2.1.1, [.full 1, .full 2, .int .i64 d.2.1.2.2.2.1, .bool d.2.1.2.2.2.2.1, .int .i64 d.2.1.2.2.2.2.2.1]⟩, some ⟨d.2.2.1.1, [.seq .str 0 d.2.2.1.2.1]⟩, some ⟨d.2.2.2.1.1, [.seq (.pair (.int .i64) .str) 0 d.2.2.2.1.2.1]⟩]) := by kernel_rfl
theorem E72_1 (F : Nat) (d : sh72_1.den) (K : KF) : evBody Tryd.prog (T72_1 F) (xw []) 34 3 (LT72_1 F) code72 Tryd.f72.results.toList (encT sh72_1.vs d.1) (encH sh72_1.h d.2) K = f72_1 F d.1.2.1 d.2.1.2.2.2.1 d.2.1.2.2.2.2.1 d.2.1.2.2.2.2.2.1 d.2.2.1.2.1 d.2.2.2.1.2.1 (fun (y0 : ByteArray) (y1 : Int) => K [.lf (.str y0), .lf (.int .i64 y1)] [some ⟨d.2.1.1, [.full 1, .full 2, .int .i64 d.2.1.2.2.2.1, .bool d.2.1.2.2.2.2.1, .int .i64 d.2.1.2.2.2.2.2.1]⟩, some ⟨d.2.2.1.1, [.seq .str 0 d.2.2.1.2.1]⟩, some ⟨d.2.2.2.1.1, [.seq (.pair (.int .i64) .str) 0 d.2.2.2.1.2.1]⟩]) := Eq.mp (by kernel_rfl) (E72_1g F (f30_1 F) (f104_1 F) (f72_1_r2000006 F)  d K)
theorem S72_1_ok (F : Nat) (o : Summ) (ho : SoundFn Tryd.prog 72 o) : SoundFn Tryd.prog 72 (S72_1 F o) :=
  soundFn_of (fn := Tryd.f72) (c := code72) rfl rfl (by kernel_rfl) (tab_cons (S30_1_ok F _ (noS_sound enter30)) (tab_cons (S104_1_ok F _ (noS_sound enter104)) tab_nil)) (by kernel_rfl) (by kernel_rfl) ho (by rw [loops72]; exact loopsOK_nil) (by rw [scopes72]; exact scopesOK_nil) (by rw [ranges72]; exact (rangesOK_cons (by kernel_rfl) (R72_1_2000006 F) rangesOK_nil)) (E72_1 F)
end Go.Proofs.YtillbabmlfjegaaDoor.X
end

section
namespace Go.Proofs.YtillbabmlfjegaaDoor.X
open Go Go.Proofs.YtillbabmlfjegaaDoor.Ev Go.Proofs
set_option linter.unusedVariables false
set_option linter.unusedSectionVars false
/-! word.Reader).Why -/
noncomputable def f97_1 {β : Type} (F : Nat) (a1 : Int) (a2 : List Int) (K0 : Option β) : Option β := K0
variable [FZ]
def sh97_1 : Sh := ⟨[.lf (.ptr 0 0)], [some ⟨none, [.full 1, .int .i64]⟩, some ⟨none, [.seq (.int .u8) 0]⟩]⟩
noncomputable def S97_1 (F : Nat) (o : Summ) : Summ := mkS sh97_1 (fun d K => f97_1 F d.2.1.2.2.1 d.2.2.1.2.1 (K [.lf (.int .i64 d.2.1.2.2.1)] [some ⟨d.2.1.1, [.full 1, .int .i64 d.2.1.2.2.1]⟩, some ⟨d.2.2.1.1, [.seq (.int .u8) 0 d.2.2.1.2.1]⟩])) o
noncomputable def code97 : Code := bodyOf Tryd.f97
theorem scopes97 : scopesOf code97 = [] := by kernel_rfl
theorem ranges97 : rangesOf code97 = [] := by kernel_rfl
theorem loops97 : loopsOf code97 = [] := by kernel_rfl
theorem enter97 : ∀ args w, (callFunc 97 args).run Tryd.prog w = .ok (.enter 97 args) w := enter_of (fn := Tryd.f97) (by kernel_rfl) (by kernel_rfl) (by kernel_rfl)
noncomputable def T97_1 (F : Nat) : FuncId → Option Summ := tab []
noncomputable def LT97_1 (F : Nat) : Nat → Option LoopS := ltab []
theorem E97_1g (F : Nat)    (d : sh97_1.den) (K : KF) : evBody Tryd.prog (tab []) (xw []) 9 2 (ltab []) code97 Tryd.f97.results.toList (encT sh97_1.vs d.1) (encH sh97_1.h d.2) K = (fun (a1 : Int) (a2 : List Int) (K0 : (Option Res)) => K0) d.2.1.2.2.1 d.2.2.1.2.1 (K [.lf (.int .i64 d.2.1.2.2.1)] [some ⟨d.2.1.1, [.full 1, .int .i64 d.2.1.2.2.1]⟩, some ⟨d.2.2.1.1, [.seq (.int .u8) 0 d.2.2.1.2.1]⟩]) := by kernel_rfl
theorem E97_1 (F : Nat) (d : sh97_1.den) (K : KF) : evBody Tryd.prog (T97_1 F) (xw []) 9 2 (LT97_1 F) code97 Tryd.f97.results.toList (encT sh97_1.vs d.1) (encH sh97_1.h d.2) K = f97_1 F d.2.1.2.2.1 d.2.2.1.2.1 (K [.lf (.int .i64 d.2.1.2.2.1)] [some ⟨d.2.1.1, [.full 1, .int .i64 d.2.1.2.2.1]⟩, some ⟨d.2.2.1.1, [.seq (.int .u8) 0 d.2.2.1.2.1]⟩]) := Eq.mp (by kernel_rfl) (E97_1g F    d K)
theorem S97_1_ok (F : Nat) (o : Summ) (ho : SoundFn Tryd.prog 97 o) : SoundFn Tryd.prog 97 (S97_1 F o) :=
  soundFn_of (fn := Tryd.f97) (c := code97) rfl rfl (by kernel_rfl) tab_nil (by kernel_rfl) (by kernel_rfl) ho (by rw [loops97]; exact loopsOK_nil) (by rw [scopes97]; exact scopesOK_nil) (by rw [ranges97]; exact rangesOK_nil) (E97_1 F)
end Go.Proofs.YtillbabmlfjegaaDoor.X
end

section
namespace Go.Proofs.YtillbabmlfjegaaDoor.X
open Go Go.Proofs.YtillbabmlfjegaaDoor.Ev Go.Proofs
set_option linter.unusedVariables false
set_option linter.unusedSectionVars false
/-! slot.read -/
noncomputable def f57_1 {β : Type} (F : Nat) (a1 : Int) (a2 : Int) (a3 : Int) (a4 : Bool) (a5 : Int) (a6 : List ByteArray) (a7 : List (Int × ByteArray)) (K0 : Bool → Int → ByteArray → Int → Option β) : Option β := f72_1 F a1 a3 a4 a5 a6 a7 (fun x1 x2 => cond (x2 != 0) (K0 false 0 ByteArray.empty x2) (f13_1 F a2 x1 (fun x3 x4 => f49_1 F (toInts x3) (fun x5 => f51_1 F 8 0 x5 (fun x6 => cond (x4 != 0) (K0 false 0 ByteArray.empty 0) (f97_1 F x6 x5 (cond (x6 != 0) (K0 false 0 ByteArray.empty 0) (cond (decide ((0 : Int) ≤ (8 : Int) ∧ (8 : Int) ≤ (x3.size : Int) ∧ (x3.size : Int) ≤ (x3.size : Int))) (K0 true 0 (x3.extract 8 ((x3.size : Int).toNat)) 0) none)) )) (fun x7 x8 => cond (x4 != 0) (K0 false 0 ByteArray.empty 0) (f97_1 F 0 x8 (cond (decide ((0 : Int) ≤ (8 : Int) ∧ (8 : Int) ≤ (x3.size : Int) ∧ (x3.size : Int) ≤ (x3.size : Int))) (K0 true x7 (x3.extract 8 ((x3.size : Int).toNat)) 0) none) )) ) ) )) 
variable [FZ]
def sh57_1 : Sh := ⟨[.lf (.ptr 0 0), .lf (.int .i64), .lf (.int .i64)], [some ⟨none, [.full 1, .full 2, .int .i64, .bool, .int .i64]⟩, some ⟨none, [.seq .str 0]⟩, some ⟨none, [.seq (.pair (.int .i64) .str) 0]⟩]⟩
noncomputable def S57_1 (F : Nat) (o : Summ) : Summ := mkS sh57_1 (fun d K => f57_1 F d.1.2.1 d.1.2.2.1 d.2.1.2.2.2.1 d.2.1.2.2.2.2.1 d.2.1.2.2.2.2.2.1 d.2.2.1.2.1 d.2.2.2.1.2.1 (fun (y0 : Bool) (y1 : Int) (y2 : ByteArray) (y3 : Int) => K [.agg [.bool y0, .int .u64 y1, .str y2], .lf (.int .i64 y3)] [some ⟨d.2.1.1, [.full 1, .full 2, .int .i64 d.2.1.2.2.2.1, .bool d.2.1.2.2.2.2.1, .int .i64 d.2.1.2.2.2.2.2.1]⟩, some ⟨d.2.2.1.1, [.seq .str 0 d.2.2.1.2.1]⟩, some ⟨d.2.2.2.1.1, [.seq (.pair (.int .i64) .str) 0 d.2.2.2.1.2.1]⟩])) o
noncomputable def code57 : Code := bodyOf Tryd.f57
theorem scopes57 : scopesOf code57 = [] := by kernel_rfl
theorem ranges57 : rangesOf code57 = [] := by kernel_rfl
theorem loops57 : loopsOf code57 = [] := by kernel_rfl
theorem enter57 : ∀ args w, (callFunc 57 args).run Tryd.prog w = .ok (.enter 57 args) w := enter_of (fn := Tryd.f57) (by kernel_rfl) (by kernel_rfl) (by kernel_rfl)
noncomputable def T57_1 (F : Nat) : FuncId → Option Summ := tab [(13, (S13_1 F noS)), (49, (S49_1 F noS)), (51, (S51_1 F noS)), (72, (S72_1 F noS)), (97, (S97_1 F noS))]
noncomputable def LT57_1 (F : Nat) : Nat → Option LoopS := ltab []
theorem E57_1g (F : Nat) (c13_1 : Int → ByteArray → (ByteArray → Int → Option Res) → Option Res) (c49_1 : List Int → (List Int → Option Res) → Option Res) (c51_1 : Int → Int → List Int → (Int → Option Res) → (Int → List Int → Option Res) → Option Res) (c72_1 : Int → Int → Bool → Int → List ByteArray → List (Int × ByteArray) → (ByteArray → Int → Option Res) → Option Res) (c97_1 : Int → List Int → (Option Res) → Option Res)   (d : sh57_1.den) (K : KF) : evBody Tryd.prog (tab [(13, (mkS sh13_1 (fun d K => c13_1 d.1.1 d.1.2.1 (fun (y0 : ByteArray) (y1 : Int) => K [.lf (.str y0), .lf (.int .i64 y1)] [])) noS)), (49, (mkS sh49_1 (fun d K => c49_1 d.2.1.2.1 (fun (y2 : List Int) => K [.lf (.ptr 1 0)] [some ⟨d.2.1.1, [.seq (.int .u8) 0 d.2.1.2.1]⟩, some ⟨false, [.full 2, .int .i64 0]⟩, some ⟨false, [.seq (.int .u8) 0 y2]⟩])) noS)), (51, (mkS sh51_1 (fun d K => c51_1 d.1.2.1 d.2.1.2.2.1 d.2.2.1.2.1 (fun (y1 : Int) => K [.lf (.int .u64 0)] [some ⟨false, [.full 1, .int .i64 y1]⟩, some ⟨false, [.seq (.int .u8) 0 d.2.2.1.2.1]⟩]) (fun (y0 : Int) (y2 : List Int) => K [.lf (.int .u64 y0)] [some ⟨false, [.full 2, .int .i64 d.2.1.2.2.1]⟩, none, some ⟨false, [.seq (.int .u8) 0 y2]⟩])) noS)), (72, (mkS sh72_1 (fun d K => c72_1 d.1.2.1 d.2.1.2.2.2.1 d.2.1.2.2.2.2.1 d.2.1.2.2.2.2.2.1 d.2.2.1.2.1 d.2.2.2.1.2.1 (fun (y0 : ByteArray) (y1 : Int) => K [.lf (.str y0), .lf (.int .i64 y1)] [some ⟨d.2.1.1, [.full 1, .full 2, .int .i64 d.2.1.2.2.2.1, .bool d.2.1.2.2.2.2.1, .int .i64 d.2.1.2.2.2.2.2.1]⟩, some ⟨d.2.2.1.1, [.seq .str 0 d.2.2.1.2.1]⟩, some ⟨d.2.2.2.1.1, [.seq (.pair (.int .i64) .str) 0 d.2.2.2.1.2.1]⟩])) noS)), (97, (mkS sh97_1 (fun d K => c97_1 d.2.1.2.2.1 d.2.2.1.2.1 (K [.lf (.int .i64 d.2.1.2.2.1)] [some ⟨d.2.1.1, [.full 1, .int .i64 d.2.1.2.2.1]⟩, some ⟨d.2.2.1.1, [.seq (.int .u8) 0 d.2.2.1.2.1]⟩])) noS))]) (xw []) 47 3 (ltab []) code57 Tryd.f57.results.toList (encT sh57_1.vs d.1) (encH sh57_1.h d.2) K = (fun (a1 : Int) (a2 : Int) (a3 : Int) (a4 : Bool) (a5 : Int) (a6 : List ByteArray) (a7 : List (Int × ByteArray)) (K0 : (Bool → Int → ByteArray → Int → Option Res)) => c72_1 a1 a3 a4 a5 a6 a7 (fun x1 x2 => cond (x2 != 0) (K0 false 0 ByteArray.empty x2) (c13_1 a2 x1 (fun x3 x4 => c49_1 (toInts x3) (fun x5 => c51_1 8 0 x5 (fun x6 => cond (x4 != 0) (K0 false 0 ByteArray.empty 0) (c97_1 x6 x5 (cond (x6 != 0) (K0 false 0 ByteArray.empty 0) (cond (decide ((0 : Int) ≤ (8 : Int) ∧ (8 : Int) ≤ (x3.size : Int) ∧ (x3.size : Int) ≤ (x3.size : Int))) (K0 true 0 (x3.extract 8 ((x3.size : Int).toNat)) 0) none)) )) (fun x7 x8 => cond (x4 != 0) (K0 false 0 ByteArray.empty 0) (c97_1 0 x8 (cond (decide ((0 : Int) ≤ (8 : Int) ∧ (8 : Int) ≤ (x3.size : Int) ∧ (x3.size : Int) ≤ (x3.size : Int))) (K0 true x7 (x3.extract 8 ((x3.size : Int).toNat)) 0) none) )) ) ) )) ) d.1.2.1 d.1.2.2.1 d.2.1.2.2.2.1 d.2.1.2.2.2.2.1 d.2.1.2.2.2.2.2.1 d.2.2.1.2.1 d.2.2.2.1.2.1 (fun (y0 : Bool) (y1 : Int) (y2 : ByteArray) (y3 : Int) => K [.agg [.bool y0, .int .u64 y1, .str y2], .lf (.int .i64 y3)] [some ⟨d.2.1.1, [.full 1, .full 2, .int .i64 d.2.1.2.2.2.1, .bool d.2.1.2.2.2.2.1, .int .i64 d.2.1.2.2.2.2.2.1]⟩, some ⟨d.2.2.1.1, [.seq .str 0 d.2.2.1.2.1]⟩, some ⟨d.2.2.2.1.1, [.seq (.pair (.int .i64) .str) 0 d.2.2.2.1.2.1]⟩]) := by kernel_rfl
theorem E57_1 (F : Nat) (d : sh57_1.den) (K : KF) : evBody Tryd.prog (T57_1 F) (xw []) 47 3 (LT57_1 F) code57 Tryd.f57.results.toList (encT sh57_1.vs d.1) (encH sh57_1.h d.2) K = f57_1 F d.1.2.1 d.1.2.2.1 d.2.1.2.2.2.1 d.2.1.2.2.2.2.1 d.2.1.2.2.2.2.2.1 d.2.2.1.2.1 d.2.2.2.1.2.1 (fun (y0 : Bool) (y1 : Int) (y2 : ByteArray) (y3 : Int) => K [.agg [.bool y0, .int .u64 y1, .str y2], .lf (.int .i64 y3)] [some ⟨d.2.1.1, [.full 1, .full 2, .int .i64 d.2.1.2.2.2.1, .bool d.2.1.2.2.2.2.1, .int .i64 d.2.1.2.2.2.2.2.1]⟩, some ⟨d.2.2.1.1, [.seq .str 0 d.2.2.1.2.1]⟩, some ⟨d.2.2.2.1.1, [.seq (.pair (.int .i64) .str) 0 d.2.2.2.1.2.1]⟩]) := Eq.mp (by kernel_rfl) (E57_1g F (f13_1 F) (f49_1 F) (f51_1 F) (f72_1 F) (f97_1 F)   d K)
theorem S57_1_ok (F : Nat) (o : Summ) (ho : SoundFn Tryd.prog 57 o) : SoundFn Tryd.prog 57 (S57_1 F o) :=
  soundFn_of (fn := Tryd.f57) (c := code57) rfl rfl (by kernel_rfl) (tab_cons (S13_1_ok F _ (noS_sound enter13)) (tab_cons (S49_1_ok F _ (noS_sound enter49)) (tab_cons (S51_1_ok F _ (noS_sound enter51)) (tab_cons (S72_1_ok F _ (noS_sound enter72)) (tab_cons (S97_1_ok F _ (noS_sound enter97)) tab_nil))))) (by kernel_rfl) (by kernel_rfl) ho (by rw [loops57]; exact loopsOK_nil) (by rw [scopes57]; exact scopesOK_nil) (by rw [ranges57]; exact rangesOK_nil) (E57_1 F)
end Go.Proofs.YtillbabmlfjegaaDoor.X
end

section
namespace Go.Proofs.YtillbabmlfjegaaDoor.X
open Go Go.Proofs.YtillbabmlfjegaaDoor.Ev Go.Proofs
set_option linter.unusedVariables false
set_option linter.unusedSectionVars false
/-! slot.Load -/
noncomputable def f27_1 {β : Type} (F : Nat) (a1 : Int) (a2 : Int) (a3 : Int) (a4 : Bool) (a5 : Int) (a6 : List ByteArray) (a7 : List (Int × ByteArray)) (K0 : Int → ByteArray → Int → Option β) : Option β := f57_1 F (if 1200 < a1 then 1200 else a1) a2 a3 a4 a5 a6 a7 (fun x1 x2 x3 x4 => cond (x4 != 0) (K0 0 ByteArray.empty x4) (f57_1 F (IntKind.i64.wrap ((if 1200 < a1 then 1200 else a1) + 1)) a2 a3 a4 a5 a6 a7 (fun x5 x6 x7 x8 => cond (x8 != 0) (K0 0 ByteArray.empty x8) (cond ((x1 == false) && ((x2 == 0) && (x3.toList == ByteArray.empty.toList))) (cond ((x5 == false) && ((x6 == 0) && (x7.toList == ByteArray.empty.toList))) (K0 0 ByteArray.empty 10) (cond (!x1) (K0 x6 x7 0) (cond x5 (cond (decide (x6 > x2)) (K0 x6 x7 0) (K0 x2 x3 0)) (K0 x2 x3 0)))) (cond (!x1) (K0 x6 x7 0) (cond x5 (cond (decide (x6 > x2)) (K0 x6 x7 0) (K0 x2 x3 0)) (K0 x2 x3 0))))) )) 
variable [FZ]
def sh27_1 : Sh := ⟨[.lf (.ptr 0 0), .lf (.int .i64), .lf (.int .i64)], [some ⟨none, [.full 1, .full 2, .int .i64, .bool, .int .i64]⟩, some ⟨none, [.seq .str 0]⟩, some ⟨none, [.seq (.pair (.int .i64) .str) 0]⟩]⟩
noncomputable def S27_1 (F : Nat) (o : Summ) : Summ := mkS sh27_1 (fun d K => f27_1 F d.1.2.1 d.1.2.2.1 d.2.1.2.2.2.1 d.2.1.2.2.2.2.1 d.2.1.2.2.2.2.2.1 d.2.2.1.2.1 d.2.2.2.1.2.1 (fun (y0 : Int) (y1 : ByteArray) (y2 : Int) => K [.lf (.int .u64 y0), .lf (.str y1), .lf (.int .i64 y2)] [some ⟨d.2.1.1, [.full 1, .full 2, .int .i64 d.2.1.2.2.2.1, .bool d.2.1.2.2.2.2.1, .int .i64 d.2.1.2.2.2.2.2.1]⟩, some ⟨d.2.2.1.1, [.seq .str 0 d.2.2.1.2.1]⟩, some ⟨d.2.2.2.1.1, [.seq (.pair (.int .i64) .str) 0 d.2.2.2.1.2.1]⟩])) o
noncomputable def code27 : Code := bodyOf Tryd.f27
theorem scopes27 : scopesOf code27 = [] := by kernel_rfl
theorem ranges27 : rangesOf code27 = [] := by kernel_rfl
theorem loops27 : loopsOf code27 = [] := by kernel_rfl
theorem enter27 : ∀ args w, (callFunc 27 args).run Tryd.prog w = .ok (.enter 27 args) w := enter_of (fn := Tryd.f27) (by kernel_rfl) (by kernel_rfl) (by kernel_rfl)
noncomputable def T27_1 (F : Nat) : FuncId → Option Summ := tab [(57, (S57_1 F noS))]
noncomputable def LT27_1 (F : Nat) : Nat → Option LoopS := ltab []
theorem E27_1g (F : Nat) (c57_1 : Int → Int → Int → Bool → Int → List ByteArray → List (Int × ByteArray) → (Bool → Int → ByteArray → Int → Option Res) → Option Res)   (d : sh27_1.den) (K : KF) : evBody Tryd.prog (tab [(57, (mkS sh57_1 (fun d K => c57_1 d.1.2.1 d.1.2.2.1 d.2.1.2.2.2.1 d.2.1.2.2.2.2.1 d.2.1.2.2.2.2.2.1 d.2.2.1.2.1 d.2.2.2.1.2.1 (fun (y0 : Bool) (y1 : Int) (y2 : ByteArray) (y3 : Int) => K [.agg [.bool y0, .int .u64 y1, .str y2], .lf (.int .i64 y3)] [some ⟨d.2.1.1, [.full 1, .full 2, .int .i64 d.2.1.2.2.2.1, .bool d.2.1.2.2.2.2.1, .int .i64 d.2.1.2.2.2.2.2.1]⟩, some ⟨d.2.2.1.1, [.seq .str 0 d.2.2.1.2.1]⟩, some ⟨d.2.2.2.1.1, [.seq (.pair (.int .i64) .str) 0 d.2.2.2.1.2.1]⟩])) noS))]) (xw []) 65 3 (ltab []) code27 Tryd.f27.results.toList (encT sh27_1.vs d.1) (encH sh27_1.h d.2) K = (fun (a1 : Int) (a2 : Int) (a3 : Int) (a4 : Bool) (a5 : Int) (a6 : List ByteArray) (a7 : List (Int × ByteArray)) (K0 : (Int → ByteArray → Int → Option Res)) => c57_1 (if 1200 < a1 then 1200 else a1) a2 a3 a4 a5 a6 a7 (fun x1 x2 x3 x4 => cond (x4 != 0) (K0 0 ByteArray.empty x4) (c57_1 (IntKind.i64.wrap ((if 1200 < a1 then 1200 else a1) + 1)) a2 a3 a4 a5 a6 a7 (fun x5 x6 x7 x8 => cond (x8 != 0) (K0 0 ByteArray.empty x8) (cond ((x1 == false) && ((x2 == 0) && (x3.toList == ByteArray.empty.toList))) (cond ((x5 == false) && ((x6 == 0) && (x7.toList == ByteArray.empty.toList))) (K0 0 ByteArray.empty 10) (cond (!x1) (K0 x6 x7 0) (cond x5 (cond (decide (x6 > x2)) (K0 x6 x7 0) (K0 x2 x3 0)) (K0 x2 x3 0)))) (cond (!x1) (K0 x6 x7 0) (cond x5 (cond (decide (x6 > x2)) (K0 x6 x7 0) (K0 x2 x3 0)) (K0 x2 x3 0))))) )) ) d.1.2.1 d.1.2.2.1 d.2.1.2.2.2.1 d.2.1.2.2.2.2.1 d.2.1.2.2.2.2.2.1 d.2.2.1.2.1 d.2.2.2.1.2.1 (fun (y0 : Int) (y1 : ByteArray) (y2 : Int) => K [.lf (.int .u64 y0), .lf (.str y1), .lf (.int .i64 y2)] [some ⟨d.2.1.1, [.full 1, .full 2, .int .i64 d.2.1.2.2.2.1, .bool d.2.1.2.2.2.2.1, .int .i64 d.2.1.2.2.2.2.2.1]⟩, some ⟨d.2.2.1.1, [.seq .str 0 d.2.2.1.2.1]⟩, some ⟨d.2.2.2.1.1, [.seq (.pair (.int .i64) .str) 0 d.2.2.2.1.2.1]⟩]) := by kernel_rfl
theorem E27_1 (F : Nat) (d : sh27_1.den) (K : KF) : evBody Tryd.prog (T27_1 F) (xw []) 65 3 (LT27_1 F) code27 Tryd.f27.results.toList (encT sh27_1.vs d.1) (encH sh27_1.h d.2) K = f27_1 F d.1.2.1 d.1.2.2.1 d.2.1.2.2.2.1 d.2.1.2.2.2.2.1 d.2.1.2.2.2.2.2.1 d.2.2.1.2.1 d.2.2.2.1.2.1 (fun (y0 : Int) (y1 : ByteArray) (y2 : Int) => K [.lf (.int .u64 y0), .lf (.str y1), .lf (.int .i64 y2)] [some ⟨d.2.1.1, [.full 1, .full 2, .int .i64 d.2.1.2.2.2.1, .bool d.2.1.2.2.2.2.1, .int .i64 d.2.1.2.2.2.2.2.1]⟩, some ⟨d.2.2.1.1, [.seq .str 0 d.2.2.1.2.1]⟩, some ⟨d.2.2.2.1.1, [.seq (.pair (.int .i64) .str) 0 d.2.2.2.1.2.1]⟩]) := Eq.mp (by kernel_rfl) (E27_1g F (f57_1 F)   d K)
theorem S27_1_ok (F : Nat) (o : Summ) (ho : SoundFn Tryd.prog 27 o) : SoundFn Tryd.prog 27 (S27_1 F o) :=
  soundFn_of (fn := Tryd.f27) (c := code27) rfl rfl (by kernel_rfl) (tab_cons (S57_1_ok F _ (noS_sound enter57)) tab_nil) (by kernel_rfl) (by kernel_rfl) ho (by rw [loops27]; exact loopsOK_nil) (by rw [scopes27]; exact scopesOK_nil) (by rw [ranges27]; exact rangesOK_nil) (E27_1 F)
end Go.Proofs.YtillbabmlfjegaaDoor.X
end

section
namespace Go.Proofs.YtillbabmlfjegaaDoor.X
open Go Go.Proofs.YtillbabmlfjegaaDoor.Ev Go.Proofs
set_option linter.unusedVariables false
set_option linter.unusedSectionVars false
/-! disk.Disk).Read -/
noncomputable def f72_6206 {β : Type} (F : Nat) (a1 : Int) (K0 : Option β) : Option β := K0
variable [FZ]
def sh72_6206 : Sh := ⟨[.lf (.nilp), .lf (.int .i64)], []⟩
noncomputable def S72_6206 (F : Nat) (o : Summ) : Summ := mkS sh72_6206 (fun d K => f72_6206 F d.1.2.1 (K [.lf (.str ByteArray.empty), .lf (.int .i64 1)] [])) o
noncomputable def T72_6206 (F : Nat) : FuncId → Option Summ := tab []
noncomputable def LT72_6206 (F : Nat) : Nat → Option LoopS := ltab []
theorem E72_6206g (F : Nat)    (d : sh72_6206.den) (K : KF) : evBody Tryd.prog (tab []) (xw []) 34 0 (ltab []) code72 Tryd.f72.results.toList (encT sh72_6206.vs d.1) (encH sh72_6206.h d.2) K = (fun (a1 : Int) (K0 : (Option Res)) => K0) d.1.2.1 (K [.lf (.str ByteArray.empty), .lf (.int .i64 1)] []) := by kernel_rfl
theorem E72_6206 (F : Nat) (d : sh72_6206.den) (K : KF) : evBody Tryd.prog (T72_6206 F) (xw []) 34 0 (LT72_6206 F) code72 Tryd.f72.results.toList (encT sh72_6206.vs d.1) (encH sh72_6206.h d.2) K = f72_6206 F d.1.2.1 (K [.lf (.str ByteArray.empty), .lf (.int .i64 1)] []) := Eq.mp (by kernel_rfl) (E72_6206g F    d K)
theorem S72_6206_ok (F : Nat) (o : Summ) (ho : SoundFn Tryd.prog 72 o) : SoundFn Tryd.prog 72 (S72_6206 F o) :=
  soundFn_of (fn := Tryd.f72) (c := code72) rfl rfl (by kernel_rfl) tab_nil (by kernel_rfl) (by kernel_rfl) ho (by rw [loops72]; exact loopsOK_nil) (by rw [scopes72]; exact scopesOK_nil) (by rw [ranges72]; exact (rangesOK_skip (by kernel_rfl) rangesOK_nil)) (E72_6206 F)
end Go.Proofs.YtillbabmlfjegaaDoor.X
end

section
namespace Go.Proofs.YtillbabmlfjegaaDoor.X
open Go Go.Proofs.YtillbabmlfjegaaDoor.Ev Go.Proofs
set_option linter.unusedVariables false
set_option linter.unusedSectionVars false
/-! slot.read -/
noncomputable def f57_8586 {β : Type} (F : Nat) (a1 : Int) (a2 : Int) (K0 : Option β) : Option β := f72_6206 F a1 (K0) 
variable [FZ]
def sh57_8586 : Sh := ⟨[.lf (.nilp), .lf (.int .i64), .lf (.int .i64)], []⟩
noncomputable def S57_8586 (F : Nat) (o : Summ) : Summ := mkS sh57_8586 (fun d K => f57_8586 F d.1.2.1 d.1.2.2.1 (K [.agg [.bool false, .int .u64 0, .str ByteArray.empty], .lf (.int .i64 1)] [])) o
noncomputable def T57_8586 (F : Nat) : FuncId → Option Summ := tab [(72, (S72_6206 F noS))]
noncomputable def LT57_8586 (F : Nat) : Nat → Option LoopS := ltab []
theorem E57_8586g (F : Nat) (c72_6206 : Int → (Option Res) → Option Res)   (d : sh57_8586.den) (K : KF) : evBody Tryd.prog (tab [(72, (mkS sh72_6206 (fun d K => c72_6206 d.1.2.1 (K [.lf (.str ByteArray.empty), .lf (.int .i64 1)] [])) noS))]) (xw []) 47 0 (ltab []) code57 Tryd.f57.results.toList (encT sh57_8586.vs d.1) (encH sh57_8586.h d.2) K = (fun (a1 : Int) (a2 : Int) (K0 : (Option Res)) => c72_6206 a1 (K0) ) d.1.2.1 d.1.2.2.1 (K [.agg [.bool false, .int .u64 0, .str ByteArray.empty], .lf (.int .i64 1)] []) := by kernel_rfl
theorem E57_8586 (F : Nat) (d : sh57_8586.den) (K : KF) : evBody Tryd.prog (T57_8586 F) (xw []) 47 0 (LT57_8586 F) code57 Tryd.f57.results.toList (encT sh57_8586.vs d.1) (encH sh57_8586.h d.2) K = f57_8586 F d.1.2.1 d.1.2.2.1 (K [.agg [.bool false, .int .u64 0, .str ByteArray.empty], .lf (.int .i64 1)] []) := Eq.mp (by kernel_rfl) (E57_8586g F (f72_6206 F)   d K)
theorem S57_8586_ok (F : Nat) (o : Summ) (ho : SoundFn Tryd.prog 57 o) : SoundFn Tryd.prog 57 (S57_8586 F o) :=
  soundFn_of (fn := Tryd.f57) (c := code57) rfl rfl (by kernel_rfl) (tab_cons (S72_6206_ok F _ (noS_sound enter72)) tab_nil) (by kernel_rfl) (by kernel_rfl) ho (by rw [loops57]; exact loopsOK_nil) (by rw [scopes57]; exact scopesOK_nil) (by rw [ranges57]; exact rangesOK_nil) (E57_8586 F)
end Go.Proofs.YtillbabmlfjegaaDoor.X
end

section
namespace Go.Proofs.YtillbabmlfjegaaDoor.X
open Go Go.Proofs.YtillbabmlfjegaaDoor.Ev Go.Proofs
set_option linter.unusedVariables false
set_option linter.unusedSectionVars false
/-! slot.Load -/
noncomputable def f27_8586 {β : Type} (F : Nat) (a1 : Int) (a2 : Int) (K0 : Option β) : Option β := f57_8586 F (if 1200 < a1 then 1200 else a1) a2 (K0) 
variable [FZ]
def sh27_8586 : Sh := ⟨[.lf (.nilp), .lf (.int .i64), .lf (.int .i64)], []⟩
noncomputable def S27_8586 (F : Nat) (o : Summ) : Summ := mkS sh27_8586 (fun d K => f27_8586 F d.1.2.1 d.1.2.2.1 (K [.lf (.int .u64 0), .lf (.str ByteArray.empty), .lf (.int .i64 1)] [])) o
noncomputable def T27_8586 (F : Nat) : FuncId → Option Summ := tab [(57, (S57_8586 F noS))]
noncomputable def LT27_8586 (F : Nat) : Nat → Option LoopS := ltab []
theorem E27_8586g (F : Nat) (c57_8586 : Int → Int → (Option Res) → Option Res)   (d : sh27_8586.den) (K : KF) : evBody Tryd.prog (tab [(57, (mkS sh57_8586 (fun d K => c57_8586 d.1.2.1 d.1.2.2.1 (K [.agg [.bool false, .int .u64 0, .str ByteArray.empty], .lf (.int .i64 1)] [])) noS))]) (xw []) 65 0 (ltab []) code27 Tryd.f27.results.toList (encT sh27_8586.vs d.1) (encH sh27_8586.h d.2) K = (fun (a1 : Int) (a2 : Int) (K0 : (Option Res)) => c57_8586 (if 1200 < a1 then 1200 else a1) a2 (K0) ) d.1.2.1 d.1.2.2.1 (K [.lf (.int .u64 0), .lf (.str ByteArray.empty), .lf (.int .i64 1)] []) := by kernel_rfl
theorem E27_8586 (F : Nat) (d : sh27_8586.den) (K : KF) : evBody Tryd.prog (T27_8586 F) (xw []) 65 0 (LT27_8586 F) code27 Tryd.f27.results.toList (encT sh27_8586.vs d.1) (encH sh27_8586.h d.2) K = f27_8586 F d.1.2.1 d.1.2.2.1 (K [.lf (.int .u64 0), .lf (.str ByteArray.empty), .lf (.int .i64 1)] []) := Eq.mp (by kernel_rfl) (E27_8586g F (f57_8586 F)   d K)
theorem S27_8586_ok (F : Nat) (o : Summ) (ho : SoundFn Tryd.prog 27 o) : SoundFn Tryd.prog 27 (S27_8586 F o) :=
  soundFn_of (fn := Tryd.f27) (c := code27) rfl rfl (by kernel_rfl) (tab_cons (S57_8586_ok F _ (noS_sound enter57)) tab_nil) (by kernel_rfl) (by kernel_rfl) ho (by rw [loops27]; exact loopsOK_nil) (by rw [scopes27]; exact scopesOK_nil) (by rw [ranges27]; exact rangesOK_nil) (E27_8586 F)
end Go.Proofs.YtillbabmlfjegaaDoor.X
end

section
namespace Go.Proofs.YtillbabmlfjegaaDoor.X
open Go Go.Proofs.YtillbabmlfjegaaDoor.Ev Go.Proofs
set_option linter.unusedVariables false
set_option linter.unusedSectionVars false
/-! pentimentolaw09.known -/
noncomputable def f21_1 {β : Type} (F : Nat)  (K0 : Bool → Option β) : Option β := f22_1 F 4 (f27_8586 F 1 2 (f23_7107 F 1 2 1 (⟨#[120]⟩ : ByteArray) (fun x1 => f23_7107 F 1 2 2 (⟨#[121, 122]⟩ : ByteArray) (fun x2 => f27_8586 F 1 2 (K0 false) ) ) ) ) (fun x3 x4 => f27_1 F 1 2 (-1) false 0 x3 x4 (fun x5 x6 x7 => f23_1 F 1 2 1 (⟨#[120]⟩ : ByteArray) (-1) false 0 x3 x4 (fun x8 x9 x10 x11 => f23_1 F 1 2 2 (⟨#[121, 122]⟩ : ByteArray) x9 x10 x11 x3 x4 (fun x12 x13 x14 x15 => f27_1 F 1 2 x13 x14 x15 x3 x4 (fun x16 x17 x18 => cond (x7 == 10) (cond (x8 == 0) (cond (x12 == 0) (cond (x16 == 2) (cond (x17.toList == (⟨#[121, 122]⟩ : ByteArray).toList) (K0 (x18 == 0)) (K0 false)) (K0 false)) (K0 false)) (K0 false)) (K0 false)) ) (fun x19 x20 x21 x22 x23 => f27_1 F 1 2 x19 x20 x21 x22 x23 (fun x24 x25 x26 => cond (x7 == 10) (cond (x8 == 0) (cond (x24 == 2) (cond (x25.toList == (⟨#[121, 122]⟩ : ByteArray).toList) (K0 (x26 == 0)) (K0 false)) (K0 false)) (K0 false)) (K0 false)) ) (fun x27 x28 x29 x30 x31 x32 => f27_1 F 1 2 x28 x29 x30 x31 x32 (fun x33 x34 x35 => cond (x7 == 10) (cond (x8 == 0) (cond (x27 == 0) (cond (x33 == 2) (cond (x34.toList == (⟨#[121, 122]⟩ : ByteArray).toList) (K0 (x35 == 0)) (K0 false)) (K0 false)) (K0 false)) (K0 false)) (K0 false)) ) ) (fun x36 x37 x38 x39 x40 => f23_1 F 1 2 2 (⟨#[121, 122]⟩ : ByteArray) x36 x37 x38 x39 x40 (fun x41 x42 x43 x44 => f27_1 F 1 2 x42 x43 x44 x39 x40 (fun x45 x46 x47 => cond (x7 == 10) (cond (x41 == 0) (cond (x45 == 2) (cond (x46.toList == (⟨#[121, 122]⟩ : ByteArray).toList) (K0 (x47 == 0)) (K0 false)) (K0 false)) (K0 false)) (K0 false)) ) (fun x48 x49 x50 x51 x52 => f27_1 F 1 2 x48 x49 x50 x51 x52 (fun x53 x54 x55 => cond (x7 == 10) (cond (x53 == 2) (cond (x54.toList == (⟨#[121, 122]⟩ : ByteArray).toList) (K0 (x55 == 0)) (K0 false)) (K0 false)) (K0 false)) ) (fun x56 x57 x58 x59 x60 x61 => f27_1 F 1 2 x57 x58 x59 x60 x61 (fun x62 x63 x64 => cond (x7 == 10) (cond (x56 == 0) (cond (x62 == 2) (cond (x63.toList == (⟨#[121, 122]⟩ : ByteArray).toList) (K0 (x64 == 0)) (K0 false)) (K0 false)) (K0 false)) (K0 false)) ) ) (fun x65 x66 x67 x68 x69 x70 => f23_1 F 1 2 2 (⟨#[121, 122]⟩ : ByteArray) x66 x67 x68 x69 x70 (fun x71 x72 x73 x74 => f27_1 F 1 2 x72 x73 x74 x69 x70 (fun x75 x76 x77 => cond (x7 == 10) (cond (x65 == 0) (cond (x71 == 0) (cond (x75 == 2) (cond (x76.toList == (⟨#[121, 122]⟩ : ByteArray).toList) (K0 (x77 == 0)) (K0 false)) (K0 false)) (K0 false)) (K0 false)) (K0 false)) ) (fun x78 x79 x80 x81 x82 => f27_1 F 1 2 x78 x79 x80 x81 x82 (fun x83 x84 x85 => cond (x7 == 10) (cond (x65 == 0) (cond (x83 == 2) (cond (x84.toList == (⟨#[121, 122]⟩ : ByteArray).toList) (K0 (x85 == 0)) (K0 false)) (K0 false)) (K0 false)) (K0 false)) ) (fun x86 x87 x88 x89 x90 x91 => f27_1 F 1 2 x87 x88 x89 x90 x91 (fun x92 x93 x94 => cond (x7 == 10) (cond (x65 == 0) (cond (x86 == 0) (cond (x92 == 2) (cond (x93.toList == (⟨#[121, 122]⟩ : ByteArray).toList) (K0 (x94 == 0)) (K0 false)) (K0 false)) (K0 false)) (K0 false)) (K0 false)) ) ) ) ) 
variable [FZ]
def sh21_1 : Sh := ⟨[], []⟩
noncomputable def S21_1 (F : Nat) (o : Summ) : Summ := mkS sh21_1 (fun d K => f21_1 F (fun (y0 : Bool) => K [.lf (.bool y0)] [])) o
noncomputable def code21 : Code := bodyOf Tryd.f21
theorem scopes21 : scopesOf code21 = [] := by kernel_rfl
theorem ranges21 : rangesOf code21 = [] := by kernel_rfl
theorem loops21 : loopsOf code21 = [] := by kernel_rfl
theorem enter21 : ∀ args w, (callFunc 21 args).run Tryd.prog w = .ok (.enter 21 args) w := enter_of (fn := Tryd.f21) (by kernel_rfl) (by kernel_rfl) (by kernel_rfl)
noncomputable def T21_1 (F : Nat) : FuncId → Option Summ := tab [(22, (S22_1 F noS)), (23, (S23_1 F (S23_7107 F noS))), (27, (S27_1 F (S27_8586 F noS)))]
noncomputable def LT21_1 (F : Nat) : Nat → Option LoopS := ltab []
theorem E21_1g (F : Nat) (c22_1 : Int → (Option Res) → (List ByteArray → List (Int × ByteArray) → Option Res) → Option Res) (c23_1 : Int → Int → Int → ByteArray → Int → Bool → Int → List ByteArray → List (Int × ByteArray) → (Int → Int → Bool → Int → Option Res) → (Int → Bool → Int → List ByteArray → List (Int × ByteArray) → Option Res) → (Int → Int → Bool → Int → List ByteArray → List (Int × ByteArray) → Option Res) → Option Res) (c23_7107 : Int → Int → Int → ByteArray → (Int → Option Res) → Option Res) (c27_1 : Int → Int → Int → Bool → Int → List ByteArray → List (Int × ByteArray) → (Int → ByteArray → Int → Option Res) → Option Res) (c27_8586 : Int → Int → (Option Res) → Option Res)   (d : sh21_1.den) (K : KF) : evBody Tryd.prog (tab [(22, (mkS sh22_1 (fun d K => c22_1 d.1.1 (K [.lf (.nilp), .lf (.int .i64 2)] []) (fun (y4 : List ByteArray) (y5 : List (Int × ByteArray)) => K [.lf (.ptr 0 0), .lf (.int .i64 0)] [some ⟨false, [.full 1, .full 2, .int .i64 (-1), .bool false, .int .i64 0]⟩, some ⟨false, [.seq .str 0 y4]⟩, some ⟨false, [.seq (.pair (.int .i64) .str) 0 y5]⟩])) noS)), (23, (mkS sh23_1 (fun d K => c23_1 d.1.2.1 d.1.2.2.1 d.1.2.2.2.1 d.1.2.2.2.2.1 d.2.1.2.2.2.1 d.2.1.2.2.2.2.1 d.2.1.2.2.2.2.2.1 d.2.2.1.2.1 d.2.2.2.1.2.1 (fun (y0 : Int) (y1 : Int) (y2 : Bool) (y3 : Int) => K [.lf (.int .i64 y0)] [some ⟨false, [.full 1, .full 2, .int .i64 y1, .bool y2, .int .i64 y3]⟩, some ⟨false, [.seq .str 0 d.2.2.1.2.1]⟩, some ⟨false, [.seq (.pair (.int .i64) .str) 0 d.2.2.2.1.2.1]⟩]) (fun (y1 : Int) (y2 : Bool) (y3 : Int) (y4 : List ByteArray) (y6 : List (Int × ByteArray)) => K [.lf (.int .i64 0)] [some ⟨false, [.full 1, .full 3, .int .i64 y1, .bool y2, .int .i64 y3]⟩, some ⟨false, [.seq .str 0 y4]⟩, some ⟨false, [.seq (.pair (.int .i64) .str) 0 d.2.2.2.1.2.1]⟩, some ⟨false, [.seq (.pair (.int .i64) .str) 0 y6]⟩]) (fun (y0 : Int) (y1 : Int) (y2 : Bool) (y3 : Int) (y4 : List ByteArray) (y5 : List (Int × ByteArray)) => K [.lf (.int .i64 y0)] [some ⟨false, [.full 1, .full 3, .int .i64 y1, .bool y2, .int .i64 y3]⟩, some ⟨false, [.seq .str 0 y4]⟩, none, some ⟨false, [.seq (.pair (.int .i64) .str) 0 y5]⟩])) (mkS sh23_7107 (fun d K => c23_7107 d.1.2.1 d.1.2.2.1 d.1.2.2.2.1 d.1.2.2.2.2.1 (fun (y0 : Int) => K [.lf (.int .i64 y0)] [])) noS))), (27, (mkS sh27_1 (fun d K => c27_1 d.1.2.1 d.1.2.2.1 d.2.1.2.2.2.1 d.2.1.2.2.2.2.1 d.2.1.2.2.2.2.2.1 d.2.2.1.2.1 d.2.2.2.1.2.1 (fun (y0 : Int) (y1 : ByteArray) (y2 : Int) => K [.lf (.int .u64 y0), .lf (.str y1), .lf (.int .i64 y2)] [some ⟨d.2.1.1, [.full 1, .full 2, .int .i64 d.2.1.2.2.2.1, .bool d.2.1.2.2.2.2.1, .int .i64 d.2.1.2.2.2.2.2.1]⟩, some ⟨d.2.2.1.1, [.seq .str 0 d.2.2.1.2.1]⟩, some ⟨d.2.2.2.1.1, [.seq (.pair (.int .i64) .str) 0 d.2.2.2.1.2.1]⟩])) (mkS sh27_8586 (fun d K => c27_8586 d.1.2.1 d.1.2.2.1 (K [.lf (.int .u64 0), .lf (.str ByteArray.empty), .lf (.int .i64 1)] [])) noS)))]) (xw []) 53 0 (ltab []) code21 Tryd.f21.results.toList (encT sh21_1.vs d.1) (encH sh21_1.h d.2) K = (fun (K0 : (Bool → Option Res)) => c22_1 4 (c27_8586 1 2 (c23_7107 1 2 1 (⟨#[120]⟩ : ByteArray) (fun x1 => c23_7107 1 2 2 (⟨#[121, 122]⟩ : ByteArray) (fun x2 => c27_8586 1 2 (K0 false) ) ) ) ) (fun x3 x4 => c27_1 1 2 (-1) false 0 x3 x4 (fun x5 x6 x7 => c23_1 1 2 1 (⟨#[120]⟩ : ByteArray) (-1) false 0 x3 x4 (fun x8 x9 x10 x11 => c23_1 1 2 2 (⟨#[121, 122]⟩ : ByteArray) x9 x10 x11 x3 x4 (fun x12 x13 x14 x15 => c27_1 1 2 x13 x14 x15 x3 x4 (fun x16 x17 x18 => cond (x7 == 10) (cond (x8 == 0) (cond (x12 == 0) (cond (x16 == 2) (cond (x17.toList == (⟨#[121, 122]⟩ : ByteArray).toList) (K0 (x18 == 0)) (K0 false)) (K0 false)) (K0 false)) (K0 false)) (K0 false)) ) (fun x19 x20 x21 x22 x23 => c27_1 1 2 x19 x20 x21 x22 x23 (fun x24 x25 x26 => cond (x7 == 10) (cond (x8 == 0) (cond (x24 == 2) (cond (x25.toList == (⟨#[121, 122]⟩ : ByteArray).toList) (K0 (x26 == 0)) (K0 false)) (K0 false)) (K0 false)) (K0 false)) ) (fun x27 x28 x29 x30 x31 x32 => c27_1 1 2 x28 x29 x30 x31 x32 (fun x33 x34 x35 => cond (x7 == 10) (cond (x8 == 0) (cond (x27 == 0) (cond (x33 == 2) (cond (x34.toList == (⟨#[121, 122]⟩ : ByteArray).toList) (K0 (x35 == 0)) (K0 false)) (K0 false)) (K0 false)) (K0 false)) (K0 false)) ) ) (fun x36 x37 x38 x39 x40 => c23_1 1 2 2 (⟨#[121, 122]⟩ : ByteArray) x36 x37 x38 x39 x40 (fun x41 x42 x43 x44 => c27_1 1 2 x42 x43 x44 x39 x40 (fun x45 x46 x47 => cond (x7 == 10) (cond (x41 == 0) (cond (x45 == 2) (cond (x46.toList == (⟨#[121, 122]⟩ : ByteArray).toList) (K0 (x47 == 0)) (K0 false)) (K0 false)) (K0 false)) (K0 false)) ) (fun x48 x49 x50 x51 x52 => c27_1 1 2 x48 x49 x50 x51 x52 (fun x53 x54 x55 => cond (x7 == 10) (cond (x53 == 2) (cond (x54.toList == (⟨#[121, 122]⟩ : ByteArray).toList) (K0 (x55 == 0)) (K0 false)) (K0 false)) (K0 false)) ) (fun x56 x57 x58 x59 x60 x61 => c27_1 1 2 x57 x58 x59 x60 x61 (fun x62 x63 x64 => cond (x7 == 10) (cond (x56 == 0) (cond (x62 == 2) (cond (x63.toList == (⟨#[121, 122]⟩ : ByteArray).toList) (K0 (x64 == 0)) (K0 false)) (K0 false)) (K0 false)) (K0 false)) ) ) (fun x65 x66 x67 x68 x69 x70 => c23_1 1 2 2 (⟨#[121, 122]⟩ : ByteArray) x66 x67 x68 x69 x70 (fun x71 x72 x73 x74 => c27_1 1 2 x72 x73 x74 x69 x70 (fun x75 x76 x77 => cond (x7 == 10) (cond (x65 == 0) (cond (x71 == 0) (cond (x75 == 2) (cond (x76.toList == (⟨#[121, 122]⟩ : ByteArray).toList) (K0 (x77 == 0)) (K0 false)) (K0 false)) (K0 false)) (K0 false)) (K0 false)) ) (fun x78 x79 x80 x81 x82 => c27_1 1 2 x78 x79 x80 x81 x82 (fun x83 x84 x85 => cond (x7 == 10) (cond (x65 == 0) (cond (x83 == 2) (cond (x84.toList == (⟨#[121, 122]⟩ : ByteArray).toList) (K0 (x85 == 0)) (K0 false)) (K0 false)) (K0 false)) (K0 false)) ) (fun x86 x87 x88 x89 x90 x91 => c27_1 1 2 x87 x88 x89 x90 x91 (fun x92 x93 x94 => cond (x7 == 10) (cond (x65 == 0) (cond (x86 == 0) (cond (x92 == 2) (cond (x93.toList == (⟨#[121, 122]⟩ : ByteArray).toList) (K0 (x94 == 0)) (K0 false)) (K0 false)) (K0 false)) (K0 false)) (K0 false)) ) ) ) ) ) (fun (y0 : Bool) => K [.lf (.bool y0)] []) := by kernel_rfl
theorem E21_1 (F : Nat) (d : sh21_1.den) (K : KF) : evBody Tryd.prog (T21_1 F) (xw []) 53 0 (LT21_1 F) code21 Tryd.f21.results.toList (encT sh21_1.vs d.1) (encH sh21_1.h d.2) K = f21_1 F (fun (y0 : Bool) => K [.lf (.bool y0)] []) := Eq.mp (by kernel_rfl) (E21_1g F (f22_1 F) (f23_1 F) (f23_7107 F) (f27_1 F) (f27_8586 F)   d K)
theorem S21_1_ok (F : Nat) (o : Summ) (ho : SoundFn Tryd.prog 21 o) : SoundFn Tryd.prog 21 (S21_1 F o) :=
  soundFn_of (fn := Tryd.f21) (c := code21) rfl rfl (by kernel_rfl) (tab_cons (S22_1_ok F _ (noS_sound enter22)) (tab_cons (S23_1_ok F _ (S23_7107_ok F _ (noS_sound enter23))) (tab_cons (S27_1_ok F _ (S27_8586_ok F _ (noS_sound enter27))) tab_nil))) (by kernel_rfl) (by kernel_rfl) ho (by rw [loops21]; exact loopsOK_nil) (by rw [scopes21]; exact scopesOK_nil) (by rw [ranges21]; exact rangesOK_nil) (E21_1 F)
end Go.Proofs.YtillbabmlfjegaaDoor.X
end

section
namespace Go.Proofs.YtillbabmlfjegaaDoor.X
open Go Go.Proofs.YtillbabmlfjegaaDoor.Ev Go.Proofs
set_option linter.unusedVariables false
set_option linter.unusedSectionVars false
/-! pentimentoref05.Fill -/
noncomputable def f82_1_l3 {β : Type} (F : Nat) (v1 : Int) (K0 : List Int → Option β) : Nat → Int → List Int → Option β
  | 0, _, _ => none
  | k + 1, v2, v3 => cond (decide (v2 < 64)) (cond (decide ((v3.length + 1) * 1 ≤ 70368744177664)) (f82_1_l3 F v1 K0 k (IntKind.i64.wrap (v2 + 1)) (v3 ++ [v1])) none) (K0 v3)
noncomputable def f82_1 {β : Type} (F : Nat) (a1 : Int) (K0 : ByteArray → Option β) : Option β := f82_1_l3 F a1 (fun x4 => K0 (ofInts x4)) F 0 []
variable [FZ]
def sh82_1 : Sh := ⟨[.lf (.int .u8)], []⟩
noncomputable def S82_1 (F : Nat) (o : Summ) : Summ := mkS sh82_1 (fun d K => f82_1 F d.1.1 (fun (y0 : ByteArray) => K [.lf (.str y0)] [])) o
noncomputable def code82 : Code := bodyOf Tryd.f82
noncomputable def b82_0 : Code := cB (cB (cR (cL (cR (cR (code82))))))
theorem scopes82 : scopesOf code82 = [] := by kernel_rfl
theorem ranges82 : rangesOf code82 = [] := by kernel_rfl
theorem loops82 : loopsOf code82 = [b82_0] := by kernel_rfl
theorem enter82 : ∀ args w, (callFunc 82 args).run Tryd.prog w = .ok (.enter 82 args) w := enter_of (fn := Tryd.f82) (by kernel_rfl) (by kernel_rfl) (by kernel_rfl)
noncomputable def T82_1 (F : Nat) : FuncId → Option Summ := tab []
def sh82_1_l3 : Sh := ⟨[.lf (.int .u8), .lf (.full 0), .lf (.int .i64)], [some ⟨some false, [.seq (.int .u8) 0]⟩]⟩
noncomputable def G82_1_3 (F k : Nat) : LoopS := mkG sh82_1_l3 [0, 3, 4] (outT [(.exit 0, [3])]) (fun d K => f82_1_l3 F d.1.1 (fun (y0 : List Int) => K (.exit 0) [.tv (.lf (.full 0))] [some ⟨false, [.seq (.int .u8) 0 y0]⟩]) k d.1.2.2.1 d.2.1.2.1) []
noncomputable def LT82_1 (F : Nat) : Nat → Option LoopS := ltab [(3, G82_1_3 F F)]
theorem L82_1_l3g (F k : Nat)   (l3 : Int → (List Int → Option Res) → Nat → Int → List Int → Option Res) (X3 : LoopS) (d : sh82_1_l3.den) (K : KL) : (fun (v1 : Int) (K0 : (List Int → Option Res)) (k : Nat) (v2 : Int) (v3 : List Int) => cond (decide (v2 < 64)) (cond (decide ((v3.length + 1) * 1 ≤ 70368744177664)) (l3 v1 K0 k (IntKind.i64.wrap (v2 + 1)) (v3 ++ [v1])) none) (K0 v3)) d.1.1 (fun (y0 : List Int) => K (.exit 0) [.tv (.lf (.full 0))] [some ⟨false, [.seq (.int .u8) 0 y0]⟩]) k d.1.2.2.1 d.2.1.2.1 = roundOf Tryd.prog (tab []) (xw []) 15 0 (ltab [(3, X3)]) (mkG sh82_1_l3 [0, 3, 4] (outT [(.exit 0, [3])]) (fun d K => l3 d.1.1 (fun (y0 : List Int) => K (.exit 0) [.tv (.lf (.full 0))] [some ⟨false, [.seq (.int .u8) 0 y0]⟩]) k d.1.2.2.1 d.2.1.2.1) []) b82_0 (encT sh82_1_l3.vs d.1) (encH sh82_1_l3.h d.2) K := by kernel_rfl
theorem L82_1_3 (F : Nat) : LoopOK Tryd.prog (T82_1 F) (xw []) 15 0 (LT82_1 F) (G82_1_3 F F) b82_0 :=
  loopOK_of (s := sh82_1_l3) (live := [0, 3, 4]) (out := (outT [(.exit 0, [3])])) (mv := []) (fun k d K => f82_1_l3 F d.1.1 (fun (y0 : List Int) => K (.exit 0) [.tv (.lf (.full 0))] [some ⟨false, [.seq (.int .u8) 0 y0]⟩]) k d.1.2.2.1 d.2.1.2.1) F (fun d K => by kernel_rfl)  (fun k d K => Eq.mp (by kernel_rfl) (L82_1_l3g F k   (f82_1_l3 F) (G82_1_3 F F) d K))
theorem E82_1g (F : Nat)  (l3 : Int → (List Int → Option Res) → Nat → Int → List Int → Option Res)  (d : sh82_1.den) (K : KF) : evBody Tryd.prog (tab []) (xw []) 15 0 (ltab [(3, mkG sh82_1_l3 [0, 3, 4] (outT [(.exit 0, [3])]) (fun d K => l3 d.1.1 (fun (y0 : List Int) => K (.exit 0) [.tv (.lf (.full 0))] [some ⟨false, [.seq (.int .u8) 0 y0]⟩]) F d.1.2.2.1 d.2.1.2.1) [])]) code82 Tryd.f82.results.toList (encT sh82_1.vs d.1) (encH sh82_1.h d.2) K = (fun (a1 : Int) (K0 : (ByteArray → Option Res)) => l3 a1 (fun x4 => K0 (ofInts x4)) F 0 []) d.1.1 (fun (y0 : ByteArray) => K [.lf (.str y0)] []) := by kernel_rfl
theorem E82_1 (F : Nat) (d : sh82_1.den) (K : KF) : evBody Tryd.prog (T82_1 F) (xw []) 15 0 (LT82_1 F) code82 Tryd.f82.results.toList (encT sh82_1.vs d.1) (encH sh82_1.h d.2) K = f82_1 F d.1.1 (fun (y0 : ByteArray) => K [.lf (.str y0)] []) := Eq.mp (by kernel_rfl) (E82_1g F  (f82_1_l3 F)  d K)
theorem S82_1_ok (F : Nat) (o : Summ) (ho : SoundFn Tryd.prog 82 o) : SoundFn Tryd.prog 82 (S82_1 F o) :=
  soundFn_of (fn := Tryd.f82) (c := code82) rfl rfl (by kernel_rfl) tab_nil (by kernel_rfl) (by kernel_rfl) ho (by rw [loops82]; exact (loopsOK_cons (by kernel_rfl) (L82_1_3 F) loopsOK_nil)) (by rw [scopes82]; exact scopesOK_nil) (by rw [ranges82]; exact rangesOK_nil) (E82_1 F)
end Go.Proofs.YtillbabmlfjegaaDoor.X
end

section
namespace Go.Proofs.YtillbabmlfjegaaDoor.X
open Go Go.Proofs.YtillbabmlfjegaaDoor.Ev Go.Proofs
set_option linter.unusedVariables false
set_option linter.unusedSectionVars false
/-! pentimentoref05.Zero -/
noncomputable def f41_1 {β : Type} (F : Nat)  (K0 : ByteArray → Option β) : Option β := f82_1 F 0 (fun x1 => K0 x1) 
variable [FZ]
def sh41_1 : Sh := ⟨[], []⟩
noncomputable def S41_1 (F : Nat) (o : Summ) : Summ := mkS sh41_1 (fun d K => f41_1 F (fun (y0 : ByteArray) => K [.lf (.str y0)] [])) o
noncomputable def code41 : Code := bodyOf Tryd.f41
theorem scopes41 : scopesOf code41 = [] := by kernel_rfl
theorem ranges41 : rangesOf code41 = [] := by kernel_rfl
theorem loops41 : loopsOf code41 = [] := by kernel_rfl
theorem enter41 : ∀ args w, (callFunc 41 args).run Tryd.prog w = .ok (.enter 41 args) w := enter_of (fn := Tryd.f41) (by kernel_rfl) (by kernel_rfl) (by kernel_rfl)
noncomputable def T41_1 (F : Nat) : FuncId → Option Summ := tab [(82, (S82_1 F noS))]
noncomputable def LT41_1 (F : Nat) : Nat → Option LoopS := ltab []
theorem E41_1g (F : Nat) (c82_1 : Int → (ByteArray → Option Res) → Option Res)   (d : sh41_1.den) (K : KF) : evBody Tryd.prog (tab [(82, (mkS sh82_1 (fun d K => c82_1 d.1.1 (fun (y0 : ByteArray) => K [.lf (.str y0)] [])) noS))]) (xw []) 2 0 (ltab []) code41 Tryd.f41.results.toList (encT sh41_1.vs d.1) (encH sh41_1.h d.2) K = (fun (K0 : (ByteArray → Option Res)) => c82_1 0 (fun x1 => K0 x1) ) (fun (y0 : ByteArray) => K [.lf (.str y0)] []) := by kernel_rfl
theorem E41_1 (F : Nat) (d : sh41_1.den) (K : KF) : evBody Tryd.prog (T41_1 F) (xw []) 2 0 (LT41_1 F) code41 Tryd.f41.results.toList (encT sh41_1.vs d.1) (encH sh41_1.h d.2) K = f41_1 F (fun (y0 : ByteArray) => K [.lf (.str y0)] []) := Eq.mp (by kernel_rfl) (E41_1g F (f82_1 F)   d K)
theorem S41_1_ok (F : Nat) (o : Summ) (ho : SoundFn Tryd.prog 41 o) : SoundFn Tryd.prog 41 (S41_1 F o) :=
  soundFn_of (fn := Tryd.f41) (c := code41) rfl rfl (by kernel_rfl) (tab_cons (S82_1_ok F _ (noS_sound enter82)) tab_nil) (by kernel_rfl) (by kernel_rfl) ho (by rw [loops41]; exact loopsOK_nil) (by rw [scopes41]; exact scopesOK_nil) (by rw [ranges41]; exact rangesOK_nil) (E41_1 F)
end Go.Proofs.YtillbabmlfjegaaDoor.X
end

section
namespace Go.Proofs.YtillbabmlfjegaaDoor.X
open Go Go.Proofs.YtillbabmlfjegaaDoor.Ev Go.Proofs
set_option linter.unusedVariables false
set_option linter.unusedSectionVars false
/-! pentimentoref06.New -/
noncomputable def f28_1_l5 {β : Type} (F : Nat) (v1 : Int) (v3 : Int) (v4 : Bool) (v5 : Int) (v7 : List (Int × ByteArray)) (K0 : List ByteArray → Option β) : Nat → Int → List ByteArray → Option β
  | 0, _, _ => none
  | k + 1, v2, v6 => cond (decide (v2 < v1)) (f41_1 F  (fun x8 => cond (decide ((v6.length + 1) * 16 ≤ 70368744177664)) (f28_1_l5 F v1 v3 v4 v5 v7 K0 k (IntKind.i64.wrap (v2 + 1)) (v6 ++ [x8])) none) ) (K0 v6)
noncomputable def f28_1 {β : Type} (F : Nat) (a1 : Int) (K0 : Option β) (K1 : List ByteArray → List (Int × ByteArray) → Option β) : Option β := cond (decide (a1 < 1)) (K0) (cond (decide (a1 > 1200)) (K0) (f28_1_l5 F a1 (-1) false 0 [] (fun x9 => K1 x9 []) F 0 []))
variable [FZ]
def sh28_1 : Sh := ⟨[.lf (.int .i64)], []⟩
noncomputable def S28_1 (F : Nat) (o : Summ) : Summ := mkS sh28_1 (fun d K => f28_1 F d.1.1 (K [.lf (.nilp), .lf (.int .i64 2)] []) (fun (y4 : List ByteArray) (y5 : List (Int × ByteArray)) => K [.lf (.ptr 0 0), .lf (.int .i64 0)] [some ⟨false, [.full 1, .full 2, .int .i64 (-1), .bool false, .int .i64 0]⟩, some ⟨false, [.seq .str 0 y4]⟩, some ⟨false, [.seq (.pair (.int .i64) .str) 0 y5]⟩])) o
noncomputable def code28 : Code := bodyOf Tryd.f28
noncomputable def b28_0 : Code := cB (cB (cR (cL (cR (cR (cR (code28)))))))
theorem scopes28 : scopesOf code28 = [] := by kernel_rfl
theorem ranges28 : rangesOf code28 = [] := by kernel_rfl
theorem loops28 : loopsOf code28 = [b28_0] := by kernel_rfl
theorem enter28 : ∀ args w, (callFunc 28 args).run Tryd.prog w = .ok (.enter 28 args) w := enter_of (fn := Tryd.f28) (by kernel_rfl) (by kernel_rfl) (by kernel_rfl)
noncomputable def T28_1 (F : Nat) : FuncId → Option Summ := tab [(41, (S41_1 F noS))]
def sh28_1_l5 : Sh := ⟨[.lf (.int .i64), .lf (.ptr 0 0), .lf (.int .i64)], [some ⟨some false, [.full 1, .full 2, .int .i64, .bool, .int .i64]⟩, some ⟨some false, [.seq .str 0]⟩, some ⟨some false, [.seq (.pair (.int .i64) .str) 0]⟩]⟩
noncomputable def G28_1_5 (F k : Nat) : LoopS := mkG sh28_1_l5 [0, 4, 5] (outT [(.exit 0, [4])]) (fun d K => f28_1_l5 F d.1.1 d.2.1.2.2.2.1 d.2.1.2.2.2.2.1 d.2.1.2.2.2.2.2.1 d.2.2.2.1.2.1 (fun (y3 : List ByteArray) => K (.exit 0) [.tv (.lf (.ptr 0 0))] [some ⟨false, [.full 1, .full 2, .int .i64 d.2.1.2.2.2.1, .bool d.2.1.2.2.2.2.1, .int .i64 d.2.1.2.2.2.2.2.1]⟩, some ⟨false, [.seq .str 0 y3]⟩, some ⟨false, [.seq (.pair (.int .i64) .str) 0 d.2.2.2.1.2.1]⟩]) k d.1.2.2.1 d.2.2.1.2.1) []
noncomputable def LT28_1 (F : Nat) : Nat → Option LoopS := ltab [(5, G28_1_5 F F)]
theorem L28_1_l5g (F k : Nat) (c41_1 : (ByteArray → Option Res) → Option Res)  (l5 : Int → Int → Bool → Int → List (Int × ByteArray) → (List ByteArray → Option Res) → Nat → Int → List ByteArray → Option Res) (X5 : LoopS) (d : sh28_1_l5.den) (K : KL) : (fun (v1 : Int) (v3 : Int) (v4 : Bool) (v5 : Int) (v7 : List (Int × ByteArray)) (K0 : (List ByteArray → Option Res)) (k : Nat) (v2 : Int) (v6 : List ByteArray) => cond (decide (v2 < v1)) (c41_1  (fun x8 => cond (decide ((v6.length + 1) * 16 ≤ 70368744177664)) (l5 v1 v3 v4 v5 v7 K0 k (IntKind.i64.wrap (v2 + 1)) (v6 ++ [x8])) none) ) (K0 v6)) d.1.1 d.2.1.2.2.2.1 d.2.1.2.2.2.2.1 d.2.1.2.2.2.2.2.1 d.2.2.2.1.2.1 (fun (y3 : List ByteArray) => K (.exit 0) [.tv (.lf (.ptr 0 0))] [some ⟨false, [.full 1, .full 2, .int .i64 d.2.1.2.2.2.1, .bool d.2.1.2.2.2.2.1, .int .i64 d.2.1.2.2.2.2.2.1]⟩, some ⟨false, [.seq .str 0 y3]⟩, some ⟨false, [.seq (.pair (.int .i64) .str) 0 d.2.2.2.1.2.1]⟩]) k d.1.2.2.1 d.2.2.1.2.1 = roundOf Tryd.prog (tab [(41, (mkS sh41_1 (fun d K => c41_1 (fun (y0 : ByteArray) => K [.lf (.str y0)] [])) noS))]) (xw []) 30 0 (ltab [(5, X5)]) (mkG sh28_1_l5 [0, 4, 5] (outT [(.exit 0, [4])]) (fun d K => l5 d.1.1 d.2.1.2.2.2.1 d.2.1.2.2.2.2.1 d.2.1.2.2.2.2.2.1 d.2.2.2.1.2.1 (fun (y3 : List ByteArray) => K (.exit 0) [.tv (.lf (.ptr 0 0))] [some ⟨false, [.full 1, .full 2, .int .i64 d.2.1.2.2.2.1, .bool d.2.1.2.2.2.2.1, .int .i64 d.2.1.2.2.2.2.2.1]⟩, some ⟨false, [.seq .str 0 y3]⟩, some ⟨false, [.seq (.pair (.int .i64) .str) 0 d.2.2.2.1.2.1]⟩]) k d.1.2.2.1 d.2.2.1.2.1) []) b28_0 (encT sh28_1_l5.vs d.1) (encH sh28_1_l5.h d.2) K := by kernel_rfl
theorem L28_1_5 (F : Nat) : LoopOK Tryd.prog (T28_1 F) (xw []) 30 0 (LT28_1 F) (G28_1_5 F F) b28_0 :=
  loopOK_of (s := sh28_1_l5) (live := [0, 4, 5]) (out := (outT [(.exit 0, [4])])) (mv := []) (fun k d K => f28_1_l5 F d.1.1 d.2.1.2.2.2.1 d.2.1.2.2.2.2.1 d.2.1.2.2.2.2.2.1 d.2.2.2.1.2.1 (fun (y3 : List ByteArray) => K (.exit 0) [.tv (.lf (.ptr 0 0))] [some ⟨false, [.full 1, .full 2, .int .i64 d.2.1.2.2.2.1, .bool d.2.1.2.2.2.2.1, .int .i64 d.2.1.2.2.2.2.2.1]⟩, some ⟨false, [.seq .str 0 y3]⟩, some ⟨false, [.seq (.pair (.int .i64) .str) 0 d.2.2.2.1.2.1]⟩]) k d.1.2.2.1 d.2.2.1.2.1) F (fun d K => by kernel_rfl)  (fun k d K => Eq.mp (by kernel_rfl) (L28_1_l5g F k (f41_1 F)  (f28_1_l5 F) (G28_1_5 F F) d K))
theorem E28_1g (F : Nat) (c41_1 : (ByteArray → Option Res) → Option Res) (l5 : Int → Int → Bool → Int → List (Int × ByteArray) → (List ByteArray → Option Res) → Nat → Int → List ByteArray → Option Res)  (d : sh28_1.den) (K : KF) : evBody Tryd.prog (tab [(41, (mkS sh41_1 (fun d K => c41_1 (fun (y0 : ByteArray) => K [.lf (.str y0)] [])) noS))]) (xw []) 30 0 (ltab [(5, mkG sh28_1_l5 [0, 4, 5] (outT [(.exit 0, [4])]) (fun d K => l5 d.1.1 d.2.1.2.2.2.1 d.2.1.2.2.2.2.1 d.2.1.2.2.2.2.2.1 d.2.2.2.1.2.1 (fun (y3 : List ByteArray) => K (.exit 0) [.tv (.lf (.ptr 0 0))] [some ⟨false, [.full 1, .full 2, .int .i64 d.2.1.2.2.2.1, .bool d.2.1.2.2.2.2.1, .int .i64 d.2.1.2.2.2.2.2.1]⟩, some ⟨false, [.seq .str 0 y3]⟩, some ⟨false, [.seq (.pair (.int .i64) .str) 0 d.2.2.2.1.2.1]⟩]) F d.1.2.2.1 d.2.2.1.2.1) [])]) code28 Tryd.f28.results.toList (encT sh28_1.vs d.1) (encH sh28_1.h d.2) K = (fun (a1 : Int) (K0 : (Option Res)) (K1 : (List ByteArray → List (Int × ByteArray) → Option Res)) => cond (decide (a1 < 1)) (K0) (cond (decide (a1 > 1200)) (K0) (l5 a1 (-1) false 0 [] (fun x9 => K1 x9 []) F 0 []))) d.1.1 (K [.lf (.nilp), .lf (.int .i64 2)] []) (fun (y4 : List ByteArray) (y5 : List (Int × ByteArray)) => K [.lf (.ptr 0 0), .lf (.int .i64 0)] [some ⟨false, [.full 1, .full 2, .int .i64 (-1), .bool false, .int .i64 0]⟩, some ⟨false, [.seq .str 0 y4]⟩, some ⟨false, [.seq (.pair (.int .i64) .str) 0 y5]⟩]) := by kernel_rfl
theorem E28_1 (F : Nat) (d : sh28_1.den) (K : KF) : evBody Tryd.prog (T28_1 F) (xw []) 30 0 (LT28_1 F) code28 Tryd.f28.results.toList (encT sh28_1.vs d.1) (encH sh28_1.h d.2) K = f28_1 F d.1.1 (K [.lf (.nilp), .lf (.int .i64 2)] []) (fun (y4 : List ByteArray) (y5 : List (Int × ByteArray)) => K [.lf (.ptr 0 0), .lf (.int .i64 0)] [some ⟨false, [.full 1, .full 2, .int .i64 (-1), .bool false, .int .i64 0]⟩, some ⟨false, [.seq .str 0 y4]⟩, some ⟨false, [.seq (.pair (.int .i64) .str) 0 y5]⟩]) := Eq.mp (by kernel_rfl) (E28_1g F (f41_1 F) (f28_1_l5 F)  d K)
theorem S28_1_ok (F : Nat) (o : Summ) (ho : SoundFn Tryd.prog 28 o) : SoundFn Tryd.prog 28 (S28_1 F o) :=
  soundFn_of (fn := Tryd.f28) (c := code28) rfl rfl (by kernel_rfl) (tab_cons (S41_1_ok F _ (noS_sound enter41)) tab_nil) (by kernel_rfl) (by kernel_rfl) ho (by rw [loops28]; exact (loopsOK_cons (by kernel_rfl) (L28_1_5 F) loopsOK_nil)) (by rw [scopes28]; exact scopesOK_nil) (by rw [ranges28]; exact rangesOK_nil) (E28_1 F)
end Go.Proofs.YtillbabmlfjegaaDoor.X
end

section
namespace Go.Proofs.YtillbabmlfjegaaDoor.X
open Go Go.Proofs.YtillbabmlfjegaaDoor.Ev Go.Proofs
set_option linter.unusedVariables false
set_option linter.unusedSectionVars false
/-! disk.Disk).Fuse -/
noncomputable def f24_1 {β : Type} (F : Nat) (a1 : Int) (a2 : Int) (a3 : Bool) (a4 : Int) (a5 : List ByteArray) (a6 : List (Int × ByteArray)) (K0 : Int → Option β) : Option β := K0 (if (-1) > a1 then (-1) else a1)
variable [FZ]
def sh24_1 : Sh := ⟨[.lf (.ptr 0 0), .lf (.int .i64)], [some ⟨some false, [.full 1, .full 2, .int .i64, .bool, .int .i64]⟩, some ⟨none, [.seq .str 0]⟩, some ⟨none, [.seq (.pair (.int .i64) .str) 0]⟩]⟩
noncomputable def S24_1 (F : Nat) (o : Summ) : Summ := mkS sh24_1 (fun d K => f24_1 F d.1.2.1 d.2.1.2.2.2.1 d.2.1.2.2.2.2.1 d.2.1.2.2.2.2.2.1 d.2.2.1.2.1 d.2.2.2.1.2.1 (fun (y0 : Int) => K [] [some ⟨false, [.full 1, .full 2, .int .i64 y0, .bool d.2.1.2.2.2.2.1, .int .i64 d.2.1.2.2.2.2.2.1]⟩, some ⟨d.2.2.1.1, [.seq .str 0 d.2.2.1.2.1]⟩, some ⟨d.2.2.2.1.1, [.seq (.pair (.int .i64) .str) 0 d.2.2.2.1.2.1]⟩])) o
noncomputable def code24 : Code := bodyOf Tryd.f24
theorem scopes24 : scopesOf code24 = [] := by kernel_rfl
theorem ranges24 : rangesOf code24 = [] := by kernel_rfl
theorem loops24 : loopsOf code24 = [] := by kernel_rfl
theorem enter24 : ∀ args w, (callFunc 24 args).run Tryd.prog w = .ok (.enter 24 args) w := enter_of (fn := Tryd.f24) (by kernel_rfl) (by kernel_rfl) (by kernel_rfl)
noncomputable def T24_1 (F : Nat) : FuncId → Option Summ := tab []
noncomputable def LT24_1 (F : Nat) : Nat → Option LoopS := ltab []
theorem E24_1g (F : Nat)    (d : sh24_1.den) (K : KF) : evBody Tryd.prog (tab []) (xw []) 11 3 (ltab []) code24 Tryd.f24.results.toList (encT sh24_1.vs d.1) (encH sh24_1.h d.2) K = (fun (a1 : Int) (a2 : Int) (a3 : Bool) (a4 : Int) (a5 : List ByteArray) (a6 : List (Int × ByteArray)) (K0 : (Int → Option Res)) => K0 (if (-1) > a1 then (-1) else a1)) d.1.2.1 d.2.1.2.2.2.1 d.2.1.2.2.2.2.1 d.2.1.2.2.2.2.2.1 d.2.2.1.2.1 d.2.2.2.1.2.1 (fun (y0 : Int) => K [] [some ⟨false, [.full 1, .full 2, .int .i64 y0, .bool d.2.1.2.2.2.2.1, .int .i64 d.2.1.2.2.2.2.2.1]⟩, some ⟨d.2.2.1.1, [.seq .str 0 d.2.2.1.2.1]⟩, some ⟨d.2.2.2.1.1, [.seq (.pair (.int .i64) .str) 0 d.2.2.2.1.2.1]⟩]) := by kernel_rfl
theorem E24_1 (F : Nat) (d : sh24_1.den) (K : KF) : evBody Tryd.prog (T24_1 F) (xw []) 11 3 (LT24_1 F) code24 Tryd.f24.results.toList (encT sh24_1.vs d.1) (encH sh24_1.h d.2) K = f24_1 F d.1.2.1 d.2.1.2.2.2.1 d.2.1.2.2.2.2.1 d.2.1.2.2.2.2.2.1 d.2.2.1.2.1 d.2.2.2.1.2.1 (fun (y0 : Int) => K [] [some ⟨false, [.full 1, .full 2, .int .i64 y0, .bool d.2.1.2.2.2.2.1, .int .i64 d.2.1.2.2.2.2.2.1]⟩, some ⟨d.2.2.1.1, [.seq .str 0 d.2.2.1.2.1]⟩, some ⟨d.2.2.2.1.1, [.seq (.pair (.int .i64) .str) 0 d.2.2.2.1.2.1]⟩]) := Eq.mp (by kernel_rfl) (E24_1g F    d K)
theorem S24_1_ok (F : Nat) (o : Summ) (ho : SoundFn Tryd.prog 24 o) : SoundFn Tryd.prog 24 (S24_1 F o) :=
  soundFn_of (fn := Tryd.f24) (c := code24) rfl rfl (by kernel_rfl) tab_nil (by kernel_rfl) (by kernel_rfl) ho (by rw [loops24]; exact loopsOK_nil) (by rw [scopes24]; exact scopesOK_nil) (by rw [ranges24]; exact rangesOK_nil) (E24_1 F)
end Go.Proofs.YtillbabmlfjegaaDoor.X
end

section
namespace Go.Proofs.YtillbabmlfjegaaDoor.X
open Go Go.Proofs.YtillbabmlfjegaaDoor.Ev Go.Proofs
set_option linter.unusedVariables false
set_option linter.unusedSectionVars false
/-! disk.Disk).Crash -/
noncomputable def f25_1_l2 {β : Type} (F : Nat) (v1 : Int) (v3 : Int) (v4 : Bool) (v5 : Int) (v7 : List (Int × ByteArray)) (v8 : List Bool) (K0 : List ByteArray → Option β) : Nat → Int → List ByteArray → Option β
  | 0, _, _ => none
  | k + 1, v2, v6 => cond (decide (v2 < v1)) (cond (decide ((0 : Int) ≤ v2 ∧ v2 < ((v7.length : Nat) : Int))) (cond (decide (0 + v2.toNat < v7.length)) (cond (decide (v2 < ((v8.length : Nat) : Int))) (cond (decide ((0 : Int) ≤ v2 ∧ v2 < ((v8.length : Nat) : Int))) (cond (decide (0 + v2.toNat < v8.length)) (cond (v8.getD (0 + v2.toNat) false) (cond (decide ((0 : Int) ≤ (v7.getD (0 + v2.toNat) (0, ByteArray.empty)).1 ∧ (v7.getD (0 + v2.toNat) (0, ByteArray.empty)).1 < ((v6.length : Nat) : Int))) (cond (decide (0 + (((v7.getD (0 + v2.toNat) (0, ByteArray.empty)).1).toNat) < v6.length)) (f25_1_l2 F v1 v3 v4 v5 v7 v8 K0 k (IntKind.i64.wrap (v2 + 1)) (v6.set (0 + (((v7.getD (0 + v2.toNat) (0, ByteArray.empty)).1).toNat)) ((v7.getD (0 + v2.toNat) (0, ByteArray.empty)).2))) none) none) (f25_1_l2 F v1 v3 v4 v5 v7 v8 K0 k (IntKind.i64.wrap (v2 + 1)) v6)) none) none) (f25_1_l2 F v1 v3 v4 v5 v7 v8 K0 k (IntKind.i64.wrap (v2 + 1)) v6)) none) none) (K0 v6)
noncomputable def f25_1 {β : Type} (F : Nat) (a1 : Int) (a2 : Bool) (a3 : Int) (a4 : List ByteArray) (a5 : List (Int × ByteArray)) (a6 : List Bool) (K0 : List ByteArray → List (Int × ByteArray) → Option β) : Option β := f25_1_l2 F ((a5.length : Nat) : Int) a1 a2 a3 a5 a6 (fun x9 => K0 x9 []) F 0 a4
variable [FZ]
def sh25_1 : Sh := ⟨[.lf (.ptr 0 0), .lf (.full 3)], [some ⟨some false, [.full 1, .full 2, .int .i64, .bool, .int .i64]⟩, some ⟨some false, [.seq .str 0]⟩, some ⟨none, [.seq (.pair (.int .i64) .str) 0]⟩, some ⟨none, [.seq .bool 0]⟩]⟩
noncomputable def S25_1 (F : Nat) (o : Summ) : Summ := mkS sh25_1 (fun d K => f25_1 F d.2.1.2.2.2.1 d.2.1.2.2.2.2.1 d.2.1.2.2.2.2.2.1 d.2.2.1.2.1 d.2.2.2.1.2.1 d.2.2.2.2.1.2.1 (fun (y3 : List ByteArray) (y6 : List (Int × ByteArray)) => K [] [some ⟨false, [.full 1, .full 4, .int .i64 (-1), .bool true, .int .i64 d.2.1.2.2.2.2.2.1]⟩, some ⟨false, [.seq .str 0 y3]⟩, some ⟨d.2.2.2.1.1, [.seq (.pair (.int .i64) .str) 0 d.2.2.2.1.2.1]⟩, some ⟨d.2.2.2.2.1.1, [.seq .bool 0 d.2.2.2.2.1.2.1]⟩, some ⟨false, [.seq (.pair (.int .i64) .str) 0 y6]⟩])) o
noncomputable def code25 : Code := bodyOf Tryd.f25
noncomputable def b25_0 : Code := cB (cB (cR (cL (cR (code25)))))
theorem scopes25 : scopesOf code25 = [] := by kernel_rfl
theorem ranges25 : rangesOf code25 = [] := by kernel_rfl
theorem loops25 : loopsOf code25 = [b25_0] := by kernel_rfl
theorem enter25 : ∀ args w, (callFunc 25 args).run Tryd.prog w = .ok (.enter 25 args) w := enter_of (fn := Tryd.f25) (by kernel_rfl) (by kernel_rfl) (by kernel_rfl)
noncomputable def T25_1 (F : Nat) : FuncId → Option Summ := tab []
def sh25_1_l2 : Sh := ⟨[.lf (.ptr 0 0), .lf (.full 3), .lf (.full 2), .lf (.int .i64), .lf (.int .i64)], [some ⟨some false, [.full 1, .full 2, .int .i64, .bool, .int .i64]⟩, some ⟨some false, [.seq .str 0]⟩, some ⟨none, [.seq (.pair (.int .i64) .str) 0]⟩, some ⟨none, [.seq .bool 0]⟩]⟩
noncomputable def G25_1_2 (F k : Nat) : LoopS := mkG sh25_1_l2 [0, 1, 11, 12, 13] (outT [(.exit 0, [0])]) (fun d K => f25_1_l2 F d.1.2.2.2.1 d.2.1.2.2.2.1 d.2.1.2.2.2.2.1 d.2.1.2.2.2.2.2.1 d.2.2.2.1.2.1 d.2.2.2.2.1.2.1 (fun (y3 : List ByteArray) => K (.exit 0) [.tv (.lf (.ptr 0 0))] [some ⟨false, [.full 1, .full 2, .int .i64 d.2.1.2.2.2.1, .bool d.2.1.2.2.2.2.1, .int .i64 d.2.1.2.2.2.2.2.1]⟩, some ⟨false, [.seq .str 0 y3]⟩, some ⟨d.2.2.2.1.1, [.seq (.pair (.int .i64) .str) 0 d.2.2.2.1.2.1]⟩, some ⟨d.2.2.2.2.1.1, [.seq .bool 0 d.2.2.2.2.1.2.1]⟩]) k d.1.2.2.2.2.1 d.2.2.1.2.1) []
noncomputable def LT25_1 (F : Nat) : Nat → Option LoopS := ltab [(2, G25_1_2 F F)]
theorem L25_1_l2g (F k : Nat)   (l2 : Int → Int → Bool → Int → List (Int × ByteArray) → List Bool → (List ByteArray → Option Res) → Nat → Int → List ByteArray → Option Res) (X2 : LoopS) (d : sh25_1_l2.den) (K : KL) : (fun (v1 : Int) (v3 : Int) (v4 : Bool) (v5 : Int) (v7 : List (Int × ByteArray)) (v8 : List Bool) (K0 : (List ByteArray → Option Res)) (k : Nat) (v2 : Int) (v6 : List ByteArray) => cond (decide (v2 < v1)) (cond (decide ((0 : Int) ≤ v2 ∧ v2 < ((v7.length : Nat) : Int))) (cond (decide (0 + v2.toNat < v7.length)) (cond (decide (v2 < ((v8.length : Nat) : Int))) (cond (decide ((0 : Int) ≤ v2 ∧ v2 < ((v8.length : Nat) : Int))) (cond (decide (0 + v2.toNat < v8.length)) (cond (v8.getD (0 + v2.toNat) false) (cond (decide ((0 : Int) ≤ (v7.getD (0 + v2.toNat) (0, ByteArray.empty)).1 ∧ (v7.getD (0 + v2.toNat) (0, ByteArray.empty)).1 < ((v6.length : Nat) : Int))) (cond (decide (0 + (((v7.getD (0 + v2.toNat) (0, ByteArray.empty)).1).toNat) < v6.length)) (l2 v1 v3 v4 v5 v7 v8 K0 k (IntKind.i64.wrap (v2 + 1)) (v6.set (0 + (((v7.getD (0 + v2.toNat) (0, ByteArray.empty)).1).toNat)) ((v7.getD (0 + v2.toNat) (0, ByteArray.empty)).2))) none) none) (l2 v1 v3 v4 v5 v7 v8 K0 k (IntKind.i64.wrap (v2 + 1)) v6)) none) none) (l2 v1 v3 v4 v5 v7 v8 K0 k (IntKind.i64.wrap (v2 + 1)) v6)) none) none) (K0 v6)) d.1.2.2.2.1 d.2.1.2.2.2.1 d.2.1.2.2.2.2.1 d.2.1.2.2.2.2.2.1 d.2.2.2.1.2.1 d.2.2.2.2.1.2.1 (fun (y3 : List ByteArray) => K (.exit 0) [.tv (.lf (.ptr 0 0))] [some ⟨false, [.full 1, .full 2, .int .i64 d.2.1.2.2.2.1, .bool d.2.1.2.2.2.2.1, .int .i64 d.2.1.2.2.2.2.2.1]⟩, some ⟨false, [.seq .str 0 y3]⟩, some ⟨d.2.2.2.1.1, [.seq (.pair (.int .i64) .str) 0 d.2.2.2.1.2.1]⟩, some ⟨d.2.2.2.2.1.1, [.seq .bool 0 d.2.2.2.2.1.2.1]⟩]) k d.1.2.2.2.2.1 d.2.2.1.2.1 = roundOf Tryd.prog (tab []) (xw []) 47 4 (ltab [(2, X2)]) (mkG sh25_1_l2 [0, 1, 11, 12, 13] (outT [(.exit 0, [0])]) (fun d K => l2 d.1.2.2.2.1 d.2.1.2.2.2.1 d.2.1.2.2.2.2.1 d.2.1.2.2.2.2.2.1 d.2.2.2.1.2.1 d.2.2.2.2.1.2.1 (fun (y3 : List ByteArray) => K (.exit 0) [.tv (.lf (.ptr 0 0))] [some ⟨false, [.full 1, .full 2, .int .i64 d.2.1.2.2.2.1, .bool d.2.1.2.2.2.2.1, .int .i64 d.2.1.2.2.2.2.2.1]⟩, some ⟨false, [.seq .str 0 y3]⟩, some ⟨d.2.2.2.1.1, [.seq (.pair (.int .i64) .str) 0 d.2.2.2.1.2.1]⟩, some ⟨d.2.2.2.2.1.1, [.seq .bool 0 d.2.2.2.2.1.2.1]⟩]) k d.1.2.2.2.2.1 d.2.2.1.2.1) []) b25_0 (encT sh25_1_l2.vs d.1) (encH sh25_1_l2.h d.2) K := by kernel_rfl
theorem L25_1_2 (F : Nat) : LoopOK Tryd.prog (T25_1 F) (xw []) 47 4 (LT25_1 F) (G25_1_2 F F) b25_0 :=
  loopOK_of (s := sh25_1_l2) (live := [0, 1, 11, 12, 13]) (out := (outT [(.exit 0, [0])])) (mv := []) (fun k d K => f25_1_l2 F d.1.2.2.2.1 d.2.1.2.2.2.1 d.2.1.2.2.2.2.1 d.2.1.2.2.2.2.2.1 d.2.2.2.1.2.1 d.2.2.2.2.1.2.1 (fun (y3 : List ByteArray) => K (.exit 0) [.tv (.lf (.ptr 0 0))] [some ⟨false, [.full 1, .full 2, .int .i64 d.2.1.2.2.2.1, .bool d.2.1.2.2.2.2.1, .int .i64 d.2.1.2.2.2.2.2.1]⟩, some ⟨false, [.seq .str 0 y3]⟩, some ⟨d.2.2.2.1.1, [.seq (.pair (.int .i64) .str) 0 d.2.2.2.1.2.1]⟩, some ⟨d.2.2.2.2.1.1, [.seq .bool 0 d.2.2.2.2.1.2.1]⟩]) k d.1.2.2.2.2.1 d.2.2.1.2.1) F (fun d K => by kernel_rfl)  (fun k d K => Eq.mp (by kernel_rfl) (L25_1_l2g F k   (f25_1_l2 F) (G25_1_2 F F) d K))
theorem E25_1g (F : Nat)  (l2 : Int → Int → Bool → Int → List (Int × ByteArray) → List Bool → (List ByteArray → Option Res) → Nat → Int → List ByteArray → Option Res)  (d : sh25_1.den) (K : KF) : evBody Tryd.prog (tab []) (xw []) 47 4 (ltab [(2, mkG sh25_1_l2 [0, 1, 11, 12, 13] (outT [(.exit 0, [0])]) (fun d K => l2 d.1.2.2.2.1 d.2.1.2.2.2.1 d.2.1.2.2.2.2.1 d.2.1.2.2.2.2.2.1 d.2.2.2.1.2.1 d.2.2.2.2.1.2.1 (fun (y3 : List ByteArray) => K (.exit 0) [.tv (.lf (.ptr 0 0))] [some ⟨false, [.full 1, .full 2, .int .i64 d.2.1.2.2.2.1, .bool d.2.1.2.2.2.2.1, .int .i64 d.2.1.2.2.2.2.2.1]⟩, some ⟨false, [.seq .str 0 y3]⟩, some ⟨d.2.2.2.1.1, [.seq (.pair (.int .i64) .str) 0 d.2.2.2.1.2.1]⟩, some ⟨d.2.2.2.2.1.1, [.seq .bool 0 d.2.2.2.2.1.2.1]⟩]) F d.1.2.2.2.2.1 d.2.2.1.2.1) [])]) code25 Tryd.f25.results.toList (encT sh25_1.vs d.1) (encH sh25_1.h d.2) K = (fun (a1 : Int) (a2 : Bool) (a3 : Int) (a4 : List ByteArray) (a5 : List (Int × ByteArray)) (a6 : List Bool) (K0 : (List ByteArray → List (Int × ByteArray) → Option Res)) => l2 ((a5.length : Nat) : Int) a1 a2 a3 a5 a6 (fun x9 => K0 x9 []) F 0 a4) d.2.1.2.2.2.1 d.2.1.2.2.2.2.1 d.2.1.2.2.2.2.2.1 d.2.2.1.2.1 d.2.2.2.1.2.1 d.2.2.2.2.1.2.1 (fun (y3 : List ByteArray) (y6 : List (Int × ByteArray)) => K [] [some ⟨false, [.full 1, .full 4, .int .i64 (-1), .bool true, .int .i64 d.2.1.2.2.2.2.2.1]⟩, some ⟨false, [.seq .str 0 y3]⟩, some ⟨d.2.2.2.1.1, [.seq (.pair (.int .i64) .str) 0 d.2.2.2.1.2.1]⟩, some ⟨d.2.2.2.2.1.1, [.seq .bool 0 d.2.2.2.2.1.2.1]⟩, some ⟨false, [.seq (.pair (.int .i64) .str) 0 y6]⟩]) := by kernel_rfl
theorem E25_1 (F : Nat) (d : sh25_1.den) (K : KF) : evBody Tryd.prog (T25_1 F) (xw []) 47 4 (LT25_1 F) code25 Tryd.f25.results.toList (encT sh25_1.vs d.1) (encH sh25_1.h d.2) K = f25_1 F d.2.1.2.2.2.1 d.2.1.2.2.2.2.1 d.2.1.2.2.2.2.2.1 d.2.2.1.2.1 d.2.2.2.1.2.1 d.2.2.2.2.1.2.1 (fun (y3 : List ByteArray) (y6 : List (Int × ByteArray)) => K [] [some ⟨false, [.full 1, .full 4, .int .i64 (-1), .bool true, .int .i64 d.2.1.2.2.2.2.2.1]⟩, some ⟨false, [.seq .str 0 y3]⟩, some ⟨d.2.2.2.1.1, [.seq (.pair (.int .i64) .str) 0 d.2.2.2.1.2.1]⟩, some ⟨d.2.2.2.2.1.1, [.seq .bool 0 d.2.2.2.2.1.2.1]⟩, some ⟨false, [.seq (.pair (.int .i64) .str) 0 y6]⟩]) := Eq.mp (by kernel_rfl) (E25_1g F  (f25_1_l2 F)  d K)
theorem S25_1_ok (F : Nat) (o : Summ) (ho : SoundFn Tryd.prog 25 o) : SoundFn Tryd.prog 25 (S25_1 F o) :=
  soundFn_of (fn := Tryd.f25) (c := code25) rfl rfl (by kernel_rfl) tab_nil (by kernel_rfl) (by kernel_rfl) ho (by rw [loops25]; exact (loopsOK_cons (by kernel_rfl) (L25_1_2 F) loopsOK_nil)) (by rw [scopes25]; exact scopesOK_nil) (by rw [ranges25]; exact rangesOK_nil) (E25_1 F)
end Go.Proofs.YtillbabmlfjegaaDoor.X
end

section
namespace Go.Proofs.YtillbabmlfjegaaDoor.X
open Go Go.Proofs.YtillbabmlfjegaaDoor.Ev Go.Proofs
set_option linter.unusedVariables false
set_option linter.unusedSectionVars false
/-! disk.Disk).Up -/
noncomputable def f26_1 {β : Type} (F : Nat) (a1 : Int) (a2 : Bool) (a3 : Int) (a4 : List ByteArray) (a5 : List (Int × ByteArray)) (K0 : Option β) (K1 : List (Int × ByteArray) → Option β) : Option β := cond (!a2) (K0) (K1 [])
variable [FZ]
def sh26_1 : Sh := ⟨[.lf (.ptr 0 0)], [some ⟨some false, [.full 1, .full 2, .int .i64, .bool, .int .i64]⟩, some ⟨none, [.seq .str 0]⟩, some ⟨none, [.seq (.pair (.int .i64) .str) 0]⟩]⟩
noncomputable def S26_1 (F : Nat) (o : Summ) : Summ := mkS sh26_1 (fun d K => f26_1 F d.2.1.2.2.2.1 d.2.1.2.2.2.2.1 d.2.1.2.2.2.2.2.1 d.2.2.1.2.1 d.2.2.2.1.2.1 (K [.lf (.int .i64 21)] [some ⟨false, [.full 1, .full 2, .int .i64 d.2.1.2.2.2.1, .bool d.2.1.2.2.2.2.1, .int .i64 d.2.1.2.2.2.2.2.1]⟩, some ⟨d.2.2.1.1, [.seq .str 0 d.2.2.1.2.1]⟩, some ⟨d.2.2.2.1.1, [.seq (.pair (.int .i64) .str) 0 d.2.2.2.1.2.1]⟩]) (fun (y6 : List (Int × ByteArray)) => K [.lf (.int .i64 0)] [some ⟨false, [.full 1, .full 3, .int .i64 (-1), .bool false, .int .i64 d.2.1.2.2.2.2.2.1]⟩, some ⟨d.2.2.1.1, [.seq .str 0 d.2.2.1.2.1]⟩, some ⟨d.2.2.2.1.1, [.seq (.pair (.int .i64) .str) 0 d.2.2.2.1.2.1]⟩, some ⟨false, [.seq (.pair (.int .i64) .str) 0 y6]⟩])) o
noncomputable def code26 : Code := bodyOf Tryd.f26
theorem scopes26 : scopesOf code26 = [] := by kernel_rfl
theorem ranges26 : rangesOf code26 = [] := by kernel_rfl
theorem loops26 : loopsOf code26 = [] := by kernel_rfl
theorem enter26 : ∀ args w, (callFunc 26 args).run Tryd.prog w = .ok (.enter 26 args) w := enter_of (fn := Tryd.f26) (by kernel_rfl) (by kernel_rfl) (by kernel_rfl)
noncomputable def T26_1 (F : Nat) : FuncId → Option Summ := tab []
noncomputable def LT26_1 (F : Nat) : Nat → Option LoopS := ltab []
theorem E26_1g (F : Nat)    (d : sh26_1.den) (K : KF) : evBody Tryd.prog (tab []) (xw []) 21 3 (ltab []) code26 Tryd.f26.results.toList (encT sh26_1.vs d.1) (encH sh26_1.h d.2) K = (fun (a1 : Int) (a2 : Bool) (a3 : Int) (a4 : List ByteArray) (a5 : List (Int × ByteArray)) (K0 : (Option Res)) (K1 : (List (Int × ByteArray) → Option Res)) => cond (!a2) (K0) (K1 [])) d.2.1.2.2.2.1 d.2.1.2.2.2.2.1 d.2.1.2.2.2.2.2.1 d.2.2.1.2.1 d.2.2.2.1.2.1 (K [.lf (.int .i64 21)] [some ⟨false, [.full 1, .full 2, .int .i64 d.2.1.2.2.2.1, .bool d.2.1.2.2.2.2.1, .int .i64 d.2.1.2.2.2.2.2.1]⟩, some ⟨d.2.2.1.1, [.seq .str 0 d.2.2.1.2.1]⟩, some ⟨d.2.2.2.1.1, [.seq (.pair (.int .i64) .str) 0 d.2.2.2.1.2.1]⟩]) (fun (y6 : List (Int × ByteArray)) => K [.lf (.int .i64 0)] [some ⟨false, [.full 1, .full 3, .int .i64 (-1), .bool false, .int .i64 d.2.1.2.2.2.2.2.1]⟩, some ⟨d.2.2.1.1, [.seq .str 0 d.2.2.1.2.1]⟩, some ⟨d.2.2.2.1.1, [.seq (.pair (.int .i64) .str) 0 d.2.2.2.1.2.1]⟩, some ⟨false, [.seq (.pair (.int .i64) .str) 0 y6]⟩]) := by kernel_rfl
theorem E26_1 (F : Nat) (d : sh26_1.den) (K : KF) : evBody Tryd.prog (T26_1 F) (xw []) 21 3 (LT26_1 F) code26 Tryd.f26.results.toList (encT sh26_1.vs d.1) (encH sh26_1.h d.2) K = f26_1 F d.2.1.2.2.2.1 d.2.1.2.2.2.2.1 d.2.1.2.2.2.2.2.1 d.2.2.1.2.1 d.2.2.2.1.2.1 (K [.lf (.int .i64 21)] [some ⟨false, [.full 1, .full 2, .int .i64 d.2.1.2.2.2.1, .bool d.2.1.2.2.2.2.1, .int .i64 d.2.1.2.2.2.2.2.1]⟩, some ⟨d.2.2.1.1, [.seq .str 0 d.2.2.1.2.1]⟩, some ⟨d.2.2.2.1.1, [.seq (.pair (.int .i64) .str) 0 d.2.2.2.1.2.1]⟩]) (fun (y6 : List (Int × ByteArray)) => K [.lf (.int .i64 0)] [some ⟨false, [.full 1, .full 3, .int .i64 (-1), .bool false, .int .i64 d.2.1.2.2.2.2.2.1]⟩, some ⟨d.2.2.1.1, [.seq .str 0 d.2.2.1.2.1]⟩, some ⟨d.2.2.2.1.1, [.seq (.pair (.int .i64) .str) 0 d.2.2.2.1.2.1]⟩, some ⟨false, [.seq (.pair (.int .i64) .str) 0 y6]⟩]) := Eq.mp (by kernel_rfl) (E26_1g F    d K)
theorem S26_1_ok (F : Nat) (o : Summ) (ho : SoundFn Tryd.prog 26 o) : SoundFn Tryd.prog 26 (S26_1 F o) :=
  soundFn_of (fn := Tryd.f26) (c := code26) rfl rfl (by kernel_rfl) tab_nil (by kernel_rfl) (by kernel_rfl) ho (by rw [loops26]; exact loopsOK_nil) (by rw [scopes26]; exact scopesOK_nil) (by rw [ranges26]; exact rangesOK_nil) (E26_1 F)
end Go.Proofs.YtillbabmlfjegaaDoor.X
end

section
namespace Go.Proofs.YtillbabmlfjegaaDoor.X
open Go Go.Proofs.YtillbabmlfjegaaDoor.Ev Go.Proofs
set_option linter.unusedVariables false
set_option linter.unusedSectionVars false
/-! pentimentoref06.Disk).Kept -/
noncomputable def f31_1 {β : Type} (F : Nat) (a1 : Int) (a2 : Int) (a3 : Bool) (a4 : Int) (a5 : List ByteArray) (a6 : List (Int × ByteArray)) (K0 : ByteArray → Int → Option β) : Option β := cond (decide (a1 < 0)) (K0 ByteArray.empty 3) (cond (decide (a1 ≥ ((a5.length : Nat) : Int))) (K0 ByteArray.empty 3) (cond (decide ((0 : Int) ≤ a1 ∧ a1 < ((a5.length : Nat) : Int))) (cond (decide (0 + a1.toNat < a5.length)) (K0 (a5.getD (0 + a1.toNat) ByteArray.empty) 0) none) none))
variable [FZ]
def sh31_1 : Sh := ⟨[.lf (.ptr 0 0), .lf (.int .i64)], [some ⟨none, [.full 1, .full 2, .int .i64, .bool, .int .i64]⟩, some ⟨none, [.seq .str 0]⟩, some ⟨none, [.seq (.pair (.int .i64) .str) 0]⟩]⟩
noncomputable def S31_1 (F : Nat) (o : Summ) : Summ := mkS sh31_1 (fun d K => f31_1 F d.1.2.1 d.2.1.2.2.2.1 d.2.1.2.2.2.2.1 d.2.1.2.2.2.2.2.1 d.2.2.1.2.1 d.2.2.2.1.2.1 (fun (y0 : ByteArray) (y1 : Int) => K [.lf (.str y0), .lf (.int .i64 y1)] [some ⟨d.2.1.1, [.full 1, .full 2, .int .i64 d.2.1.2.2.2.1, .bool d.2.1.2.2.2.2.1, .int .i64 d.2.1.2.2.2.2.2.1]⟩, some ⟨d.2.2.1.1, [.seq .str 0 d.2.2.1.2.1]⟩, some ⟨d.2.2.2.1.1, [.seq (.pair (.int .i64) .str) 0 d.2.2.2.1.2.1]⟩])) o
noncomputable def code31 : Code := bodyOf Tryd.f31
theorem scopes31 : scopesOf code31 = [] := by kernel_rfl
theorem ranges31 : rangesOf code31 = [] := by kernel_rfl
theorem loops31 : loopsOf code31 = [] := by kernel_rfl
theorem enter31 : ∀ args w, (callFunc 31 args).run Tryd.prog w = .ok (.enter 31 args) w := enter_of (fn := Tryd.f31) (by kernel_rfl) (by kernel_rfl) (by kernel_rfl)
noncomputable def T31_1 (F : Nat) : FuncId → Option Summ := tab []
noncomputable def LT31_1 (F : Nat) : Nat → Option LoopS := ltab []
theorem E31_1g (F : Nat)    (d : sh31_1.den) (K : KF) : evBody Tryd.prog (tab []) (xw []) 24 3 (ltab []) code31 Tryd.f31.results.toList (encT sh31_1.vs d.1) (encH sh31_1.h d.2) K = (fun (a1 : Int) (a2 : Int) (a3 : Bool) (a4 : Int) (a5 : List ByteArray) (a6 : List (Int × ByteArray)) (K0 : (ByteArray → Int → Option Res)) => cond (decide (a1 < 0)) (K0 ByteArray.empty 3) (cond (decide (a1 ≥ ((a5.length : Nat) : Int))) (K0 ByteArray.empty 3) (cond (decide ((0 : Int) ≤ a1 ∧ a1 < ((a5.length : Nat) : Int))) (cond (decide (0 + a1.toNat < a5.length)) (K0 (a5.getD (0 + a1.toNat) ByteArray.empty) 0) none) none))) d.1.2.1 d.2.1.2.2.2.1 d.2.1.2.2.2.2.1 d.2.1.2.2.2.2.2.1 d.2.2.1.2.1 d.2.2.2.1.2.1 (fun (y0 : ByteArray) (y1 : Int) => K [.lf (.str y0), .lf (.int .i64 y1)] [some ⟨d.2.1.1, [.full 1, .full 2, .int .i64 d.2.1.2.2.2.1, .bool d.2.1.2.2.2.2.1, .int .i64 d.2.1.2.2.2.2.2.1]⟩, some ⟨d.2.2.1.1, [.seq .str 0 d.2.2.1.2.1]⟩, some ⟨d.2.2.2.1.1, [.seq (.pair (.int .i64) .str) 0 d.2.2.2.1.2.1]⟩]) := by kernel_rfl
theorem E31_1 (F : Nat) (d : sh31_1.den) (K : KF) : evBody Tryd.prog (T31_1 F) (xw []) 24 3 (LT31_1 F) code31 Tryd.f31.results.toList (encT sh31_1.vs d.1) (encH sh31_1.h d.2) K = f31_1 F d.1.2.1 d.2.1.2.2.2.1 d.2.1.2.2.2.2.1 d.2.1.2.2.2.2.2.1 d.2.2.1.2.1 d.2.2.2.1.2.1 (fun (y0 : ByteArray) (y1 : Int) => K [.lf (.str y0), .lf (.int .i64 y1)] [some ⟨d.2.1.1, [.full 1, .full 2, .int .i64 d.2.1.2.2.2.1, .bool d.2.1.2.2.2.2.1, .int .i64 d.2.1.2.2.2.2.2.1]⟩, some ⟨d.2.2.1.1, [.seq .str 0 d.2.2.1.2.1]⟩, some ⟨d.2.2.2.1.1, [.seq (.pair (.int .i64) .str) 0 d.2.2.2.1.2.1]⟩]) := Eq.mp (by kernel_rfl) (E31_1g F    d K)
theorem S31_1_ok (F : Nat) (o : Summ) (ho : SoundFn Tryd.prog 31 o) : SoundFn Tryd.prog 31 (S31_1 F o) :=
  soundFn_of (fn := Tryd.f31) (c := code31) rfl rfl (by kernel_rfl) tab_nil (by kernel_rfl) (by kernel_rfl) ho (by rw [loops31]; exact loopsOK_nil) (by rw [scopes31]; exact scopesOK_nil) (by rw [ranges31]; exact rangesOK_nil) (E31_1 F)
end Go.Proofs.YtillbabmlfjegaaDoor.X
end

section
namespace Go.Proofs.YtillbabmlfjegaaDoor.X
open Go Go.Proofs.YtillbabmlfjegaaDoor.Ev Go.Proofs
set_option linter.unusedVariables false
set_option linter.unusedSectionVars false
/-! pentimentoref06.Disk).Read -/
noncomputable def f119_1_l5 {β : Type} (F : Nat) (v3 : Int) (v5 : Int) (v7 : Int) (v8 : Bool) (v9 : Int) (v10 : List ByteArray) (v11 : List (Int × ByteArray)) (K0 : ByteArray → Option β) : Nat → ByteArray → Int → Option β
  | 0, _, _ => none
  | k + 1, v4, v6 => cond (decide (v6 < ((v11.length : Nat) : Int))) (cond (v5 == 0) (cond (decide ((0 : Int) ≤ v6 ∧ v6 < ((v11.length : Nat) : Int))) (cond (decide (0 + v6.toNat < v11.length)) (cond (((v11.getD (0 + v6.toNat) (0, ByteArray.empty)).1) == v3) (cond (decide ((0 : Int) ≤ v6 ∧ v6 < ((v11.length : Nat) : Int))) (cond (decide (0 + v6.toNat < v11.length)) (f119_1_l5 F v3 v5 v7 v8 v9 v10 v11 K0 k ((v11.getD (0 + v6.toNat) (0, ByteArray.empty)).2) (IntKind.i64.wrap (v6 + 1))) none) none) (f119_1_l5 F v3 v5 v7 v8 v9 v10 v11 K0 k v4 (IntKind.i64.wrap (v6 + 1)))) none) none) (K0 v4)) (K0 v4)
noncomputable def f119_1 {β : Type} (F : Nat) (a1 : Int) (a2 : Int) (a3 : Bool) (a4 : Int) (a5 : List ByteArray) (a6 : List (Int × ByteArray)) (K0 : ByteArray → Int → Option β) : Option β := cond a3 (K0 ByteArray.empty 5) (f31_1 F a1 a2 a3 a4 a5 a6 (fun x1 x2 => f119_1_l5 F a1 x2 a2 a3 a4 a5 a6 (fun x12 => K0 x12 x2) F x1 0) )
variable [FZ]
def sh119_1 : Sh := ⟨[.lf (.ptr 0 0), .lf (.int .i64)], [some ⟨none, [.full 1, .full 2, .int .i64, .bool, .int .i64]⟩, some ⟨none, [.seq .str 0]⟩, some ⟨none, [.seq (.pair (.int .i64) .str) 0]⟩]⟩
noncomputable def S119_1 (F : Nat) (o : Summ) : Summ := mkS sh119_1 (fun d K => f119_1 F d.1.2.1 d.2.1.2.2.2.1 d.2.1.2.2.2.2.1 d.2.1.2.2.2.2.2.1 d.2.2.1.2.1 d.2.2.2.1.2.1 (fun (y0 : ByteArray) (y1 : Int) => K [.lf (.str y0), .lf (.int .i64 y1)] [some ⟨d.2.1.1, [.full 1, .full 2, .int .i64 d.2.1.2.2.2.1, .bool d.2.1.2.2.2.2.1, .int .i64 d.2.1.2.2.2.2.2.1]⟩, some ⟨d.2.2.1.1, [.seq .str 0 d.2.2.1.2.1]⟩, some ⟨d.2.2.2.1.1, [.seq (.pair (.int .i64) .str) 0 d.2.2.2.1.2.1]⟩])) o
noncomputable def code119 : Code := bodyOf Tryd.f119
noncomputable def b119_0 : Code := cB (cB (cR (cL (cR (cR (cR (code119)))))))
theorem scopes119 : scopesOf code119 = [] := by kernel_rfl
theorem ranges119 : rangesOf code119 = [] := by kernel_rfl
theorem loops119 : loopsOf code119 = [b119_0] := by kernel_rfl
theorem enter119 : ∀ args w, (callFunc 119 args).run Tryd.prog w = .ok (.enter 119 args) w := enter_of (fn := Tryd.f119) (by kernel_rfl) (by kernel_rfl) (by kernel_rfl)
noncomputable def T119_1 (F : Nat) : FuncId → Option Summ := tab [(31, (S31_1 F noS))]
def sh119_1_l5 : Sh := ⟨[.lf (.ptr 0 0), .lf (.int .i64), .lf (.str), .lf (.int .i64), .lf (.int .i64)], [some ⟨none, [.full 1, .full 2, .int .i64, .bool, .int .i64]⟩, some ⟨none, [.seq .str 0]⟩, some ⟨none, [.seq (.pair (.int .i64) .str) 0]⟩]⟩
noncomputable def G119_1_5 (F k : Nat) : LoopS := mkG sh119_1_l5 [0, 1, 6, 7, 8] (outT [(.exit 0, [6, 7])]) (fun d K => f119_1_l5 F d.1.2.1 d.1.2.2.2.1 d.2.1.2.2.2.1 d.2.1.2.2.2.2.1 d.2.1.2.2.2.2.2.1 d.2.2.1.2.1 d.2.2.2.1.2.1 (fun (y0 : ByteArray) => K (.exit 0) [.tv (.lf (.str y0)), .tv (.lf (.int .i64 d.1.2.2.2.1))] [some ⟨d.2.1.1, [.full 1, .full 2, .int .i64 d.2.1.2.2.2.1, .bool d.2.1.2.2.2.2.1, .int .i64 d.2.1.2.2.2.2.2.1]⟩, some ⟨d.2.2.1.1, [.seq .str 0 d.2.2.1.2.1]⟩, some ⟨d.2.2.2.1.1, [.seq (.pair (.int .i64) .str) 0 d.2.2.2.1.2.1]⟩]) k d.1.2.2.1 d.1.2.2.2.2.1) []
noncomputable def LT119_1 (F : Nat) : Nat → Option LoopS := ltab [(5, G119_1_5 F F)]
theorem L119_1_l5g (F k : Nat) (c31_1 : Int → Int → Bool → Int → List ByteArray → List (Int × ByteArray) → (ByteArray → Int → Option Res) → Option Res)  (l5 : Int → Int → Int → Bool → Int → List ByteArray → List (Int × ByteArray) → (ByteArray → Option Res) → Nat → ByteArray → Int → Option Res) (X5 : LoopS) (d : sh119_1_l5.den) (K : KL) : (fun (v3 : Int) (v5 : Int) (v7 : Int) (v8 : Bool) (v9 : Int) (v10 : List ByteArray) (v11 : List (Int × ByteArray)) (K0 : (ByteArray → Option Res)) (k : Nat) (v4 : ByteArray) (v6 : Int) => cond (decide (v6 < ((v11.length : Nat) : Int))) (cond (v5 == 0) (cond (decide ((0 : Int) ≤ v6 ∧ v6 < ((v11.length : Nat) : Int))) (cond (decide (0 + v6.toNat < v11.length)) (cond (((v11.getD (0 + v6.toNat) (0, ByteArray.empty)).1) == v3) (cond (decide ((0 : Int) ≤ v6 ∧ v6 < ((v11.length : Nat) : Int))) (cond (decide (0 + v6.toNat < v11.length)) (l5 v3 v5 v7 v8 v9 v10 v11 K0 k ((v11.getD (0 + v6.toNat) (0, ByteArray.empty)).2) (IntKind.i64.wrap (v6 + 1))) none) none) (l5 v3 v5 v7 v8 v9 v10 v11 K0 k v4 (IntKind.i64.wrap (v6 + 1)))) none) none) (K0 v4)) (K0 v4)) d.1.2.1 d.1.2.2.2.1 d.2.1.2.2.2.1 d.2.1.2.2.2.2.1 d.2.1.2.2.2.2.2.1 d.2.2.1.2.1 d.2.2.2.1.2.1 (fun (y0 : ByteArray) => K (.exit 0) [.tv (.lf (.str y0)), .tv (.lf (.int .i64 d.1.2.2.2.1))] [some ⟨d.2.1.1, [.full 1, .full 2, .int .i64 d.2.1.2.2.2.1, .bool d.2.1.2.2.2.2.1, .int .i64 d.2.1.2.2.2.2.2.1]⟩, some ⟨d.2.2.1.1, [.seq .str 0 d.2.2.1.2.1]⟩, some ⟨d.2.2.2.1.1, [.seq (.pair (.int .i64) .str) 0 d.2.2.2.1.2.1]⟩]) k d.1.2.2.1 d.1.2.2.2.2.1 = roundOf Tryd.prog (tab [(31, (mkS sh31_1 (fun d K => c31_1 d.1.2.1 d.2.1.2.2.2.1 d.2.1.2.2.2.2.1 d.2.1.2.2.2.2.2.1 d.2.2.1.2.1 d.2.2.2.1.2.1 (fun (y0 : ByteArray) (y1 : Int) => K [.lf (.str y0), .lf (.int .i64 y1)] [some ⟨d.2.1.1, [.full 1, .full 2, .int .i64 d.2.1.2.2.2.1, .bool d.2.1.2.2.2.2.1, .int .i64 d.2.1.2.2.2.2.2.1]⟩, some ⟨d.2.2.1.1, [.seq .str 0 d.2.2.1.2.1]⟩, some ⟨d.2.2.2.1.1, [.seq (.pair (.int .i64) .str) 0 d.2.2.2.1.2.1]⟩])) noS))]) (xw []) 52 3 (ltab [(5, X5)]) (mkG sh119_1_l5 [0, 1, 6, 7, 8] (outT [(.exit 0, [6, 7])]) (fun d K => l5 d.1.2.1 d.1.2.2.2.1 d.2.1.2.2.2.1 d.2.1.2.2.2.2.1 d.2.1.2.2.2.2.2.1 d.2.2.1.2.1 d.2.2.2.1.2.1 (fun (y0 : ByteArray) => K (.exit 0) [.tv (.lf (.str y0)), .tv (.lf (.int .i64 d.1.2.2.2.1))] [some ⟨d.2.1.1, [.full 1, .full 2, .int .i64 d.2.1.2.2.2.1, .bool d.2.1.2.2.2.2.1, .int .i64 d.2.1.2.2.2.2.2.1]⟩, some ⟨d.2.2.1.1, [.seq .str 0 d.2.2.1.2.1]⟩, some ⟨d.2.2.2.1.1, [.seq (.pair (.int .i64) .str) 0 d.2.2.2.1.2.1]⟩]) k d.1.2.2.1 d.1.2.2.2.2.1) []) b119_0 (encT sh119_1_l5.vs d.1) (encH sh119_1_l5.h d.2) K := by kernel_rfl
theorem L119_1_5 (F : Nat) : LoopOK Tryd.prog (T119_1 F) (xw []) 52 3 (LT119_1 F) (G119_1_5 F F) b119_0 :=
  loopOK_of (s := sh119_1_l5) (live := [0, 1, 6, 7, 8]) (out := (outT [(.exit 0, [6, 7])])) (mv := []) (fun k d K => f119_1_l5 F d.1.2.1 d.1.2.2.2.1 d.2.1.2.2.2.1 d.2.1.2.2.2.2.1 d.2.1.2.2.2.2.2.1 d.2.2.1.2.1 d.2.2.2.1.2.1 (fun (y0 : ByteArray) => K (.exit 0) [.tv (.lf (.str y0)), .tv (.lf (.int .i64 d.1.2.2.2.1))] [some ⟨d.2.1.1, [.full 1, .full 2, .int .i64 d.2.1.2.2.2.1, .bool d.2.1.2.2.2.2.1, .int .i64 d.2.1.2.2.2.2.2.1]⟩, some ⟨d.2.2.1.1, [.seq .str 0 d.2.2.1.2.1]⟩, some ⟨d.2.2.2.1.1, [.seq (.pair (.int .i64) .str) 0 d.2.2.2.1.2.1]⟩]) k d.1.2.2.1 d.1.2.2.2.2.1) F (fun d K => by kernel_rfl)  (fun k d K => Eq.mp (by kernel_rfl) (L119_1_l5g F k (f31_1 F)  (f119_1_l5 F) (G119_1_5 F F) d K))
theorem E119_1g (F : Nat) (c31_1 : Int → Int → Bool → Int → List ByteArray → List (Int × ByteArray) → (ByteArray → Int → Option Res) → Option Res) (l5 : Int → Int → Int → Bool → Int → List ByteArray → List (Int × ByteArray) → (ByteArray → Option Res) → Nat → ByteArray → Int → Option Res)  (d : sh119_1.den) (K : KF) : evBody Tryd.prog (tab [(31, (mkS sh31_1 (fun d K => c31_1 d.1.2.1 d.2.1.2.2.2.1 d.2.1.2.2.2.2.1 d.2.1.2.2.2.2.2.1 d.2.2.1.2.1 d.2.2.2.1.2.1 (fun (y0 : ByteArray) (y1 : Int) => K [.lf (.str y0), .lf (.int .i64 y1)] [some ⟨d.2.1.1, [.full 1, .full 2, .int .i64 d.2.1.2.2.2.1, .bool d.2.1.2.2.2.2.1, .int .i64 d.2.1.2.2.2.2.2.1]⟩, some ⟨d.2.2.1.1, [.seq .str 0 d.2.2.1.2.1]⟩, some ⟨d.2.2.2.1.1, [.seq (.pair (.int .i64) .str) 0 d.2.2.2.1.2.1]⟩])) noS))]) (xw []) 52 3 (ltab [(5, mkG sh119_1_l5 [0, 1, 6, 7, 8] (outT [(.exit 0, [6, 7])]) (fun d K => l5 d.1.2.1 d.1.2.2.2.1 d.2.1.2.2.2.1 d.2.1.2.2.2.2.1 d.2.1.2.2.2.2.2.1 d.2.2.1.2.1 d.2.2.2.1.2.1 (fun (y0 : ByteArray) => K (.exit 0) [.tv (.lf (.str y0)), .tv (.lf (.int .i64 d.1.2.2.2.1))] [some ⟨d.2.1.1, [.full 1, .full 2, .int .i64 d.2.1.2.2.2.1, .bool d.2.1.2.2.2.2.1, .int .i64 d.2.1.2.2.2.2.2.1]⟩, some ⟨d.2.2.1.1, [.seq .str 0 d.2.2.1.2.1]⟩, some ⟨d.2.2.2.1.1, [.seq (.pair (.int .i64) .str) 0 d.2.2.2.1.2.1]⟩]) F d.1.2.2.1 d.1.2.2.2.2.1) [])]) code119 Tryd.f119.results.toList (encT sh119_1.vs d.1) (encH sh119_1.h d.2) K = (fun (a1 : Int) (a2 : Int) (a3 : Bool) (a4 : Int) (a5 : List ByteArray) (a6 : List (Int × ByteArray)) (K0 : (ByteArray → Int → Option Res)) => cond a3 (K0 ByteArray.empty 5) (c31_1 a1 a2 a3 a4 a5 a6 (fun x1 x2 => l5 a1 x2 a2 a3 a4 a5 a6 (fun x12 => K0 x12 x2) F x1 0) )) d.1.2.1 d.2.1.2.2.2.1 d.2.1.2.2.2.2.1 d.2.1.2.2.2.2.2.1 d.2.2.1.2.1 d.2.2.2.1.2.1 (fun (y0 : ByteArray) (y1 : Int) => K [.lf (.str y0), .lf (.int .i64 y1)] [some ⟨d.2.1.1, [.full 1, .full 2, .int .i64 d.2.1.2.2.2.1, .bool d.2.1.2.2.2.2.1, .int .i64 d.2.1.2.2.2.2.2.1]⟩, some ⟨d.2.2.1.1, [.seq .str 0 d.2.2.1.2.1]⟩, some ⟨d.2.2.2.1.1, [.seq (.pair (.int .i64) .str) 0 d.2.2.2.1.2.1]⟩]) := by kernel_rfl
theorem E119_1 (F : Nat) (d : sh119_1.den) (K : KF) : evBody Tryd.prog (T119_1 F) (xw []) 52 3 (LT119_1 F) code119 Tryd.f119.results.toList (encT sh119_1.vs d.1) (encH sh119_1.h d.2) K = f119_1 F d.1.2.1 d.2.1.2.2.2.1 d.2.1.2.2.2.2.1 d.2.1.2.2.2.2.2.1 d.2.2.1.2.1 d.2.2.2.1.2.1 (fun (y0 : ByteArray) (y1 : Int) => K [.lf (.str y0), .lf (.int .i64 y1)] [some ⟨d.2.1.1, [.full 1, .full 2, .int .i64 d.2.1.2.2.2.1, .bool d.2.1.2.2.2.2.1, .int .i64 d.2.1.2.2.2.2.2.1]⟩, some ⟨d.2.2.1.1, [.seq .str 0 d.2.2.1.2.1]⟩, some ⟨d.2.2.2.1.1, [.seq (.pair (.int .i64) .str) 0 d.2.2.2.1.2.1]⟩]) := Eq.mp (by kernel_rfl) (E119_1g F (f31_1 F) (f119_1_l5 F)  d K)
theorem S119_1_ok (F : Nat) (o : Summ) (ho : SoundFn Tryd.prog 119 o) : SoundFn Tryd.prog 119 (S119_1 F o) :=
  soundFn_of (fn := Tryd.f119) (c := code119) rfl rfl (by kernel_rfl) (tab_cons (S31_1_ok F _ (noS_sound enter31)) tab_nil) (by kernel_rfl) (by kernel_rfl) ho (by rw [loops119]; exact (loopsOK_cons (by kernel_rfl) (L119_1_5 F) loopsOK_nil)) (by rw [scopes119]; exact scopesOK_nil) (by rw [ranges119]; exact rangesOK_nil) (E119_1 F)
end Go.Proofs.YtillbabmlfjegaaDoor.X
end

section
namespace Go.Proofs.YtillbabmlfjegaaDoor.X
open Go Go.Proofs.YtillbabmlfjegaaDoor.Ev Go.Proofs
set_option linter.unusedVariables false
set_option linter.unusedSectionVars false
/-! pentimentoref01.Put -/
noncomputable def f81_1_l6 {β : Type} (F : Nat) (v1 : Int) (v3 : List Int) (K0 : List Int → Option β) : Nat → Int → List Int → Option β
  | 0, _, _ => none
  | k + 1, v2, v4 => cond (decide (v2 ≥ 0)) (cond (decide (IntKind.u64.wrap (IntKind.i64.wrap (8 * v2)) < 0)) none (cond (decide ((v4.length + 1) * 1 ≤ 70368744177664)) (f81_1_l6 F v1 v3 K0 k (IntKind.i64.wrap (v2 - 1)) (v4 ++ [IntKind.u8.wrap (ishr .u64 v1 (IntKind.u64.wrap (IntKind.i64.wrap (8 * v2))))])) none)) (K0 v4)
noncomputable def f81_1 {β : Type} (F : Nat) (a1 : Int) (a2 : Int) (a3 : List Int) (K0 : List Int → Option β) : Option β := cond (decide (a3.length * 1 ≤ 70368744177664)) (cond (decide (a1 < 1)) (K0 a3) (cond (decide (a1 > 8)) (K0 a3) (f81_1_l6 F a2 a3 (fun x5 => K0 x5) F (IntKind.i64.wrap (a1 - 1)) a3))) none
variable [FZ]
def sh81_1 : Sh := ⟨[.lf (.full 0), .lf (.int .i64), .lf (.int .u64)], [some ⟨none, [.seq (.int .u8) 0]⟩]⟩
noncomputable def S81_1 (F : Nat) (o : Summ) : Summ := mkS sh81_1 (fun d K => f81_1 F d.1.2.1 d.1.2.2.1 d.2.1.2.1 (fun (y1 : List Int) => K [.lf (.full 1)] [some ⟨d.2.1.1, [.seq (.int .u8) 0 d.2.1.2.1]⟩, some ⟨false, [.seq (.int .u8) 0 y1]⟩])) o
noncomputable def code81 : Code := bodyOf Tryd.f81
noncomputable def b81_0 : Code := cB (cB (cR (cL (cR (cR (cR (cR (code81))))))))
theorem scopes81 : scopesOf code81 = [] := by kernel_rfl
theorem ranges81 : rangesOf code81 = [] := by kernel_rfl
theorem loops81 : loopsOf code81 = [b81_0] := by kernel_rfl
theorem enter81 : ∀ args w, (callFunc 81 args).run Tryd.prog w = .ok (.enter 81 args) w := enter_of (fn := Tryd.f81) (by kernel_rfl) (by kernel_rfl) (by kernel_rfl)
noncomputable def T81_1 (F : Nat) : FuncId → Option Summ := tab []
def sh81_1_l6 : Sh := ⟨[.lf (.int .u64), .lf (.full 1), .lf (.int .i64)], [some ⟨none, [.seq (.int .u8) 0]⟩, some ⟨some false, [.seq (.int .u8) 0]⟩]⟩
noncomputable def G81_1_6 (F k : Nat) : LoopS := mkG sh81_1_l6 [2, 7, 8] (outT [(.exit 0, [7])]) (fun d K => f81_1_l6 F d.1.1 d.2.1.2.1 (fun (y1 : List Int) => K (.exit 0) [.tv (.lf (.full 1))] [some ⟨d.2.1.1, [.seq (.int .u8) 0 d.2.1.2.1]⟩, some ⟨false, [.seq (.int .u8) 0 y1]⟩]) k d.1.2.2.1 d.2.2.1.2.1) []
noncomputable def LT81_1 (F : Nat) : Nat → Option LoopS := ltab [(6, G81_1_6 F F)]
theorem L81_1_l6g (F k : Nat)   (l6 : Int → List Int → (List Int → Option Res) → Nat → Int → List Int → Option Res) (X6 : LoopS) (d : sh81_1_l6.den) (K : KL) : (fun (v1 : Int) (v3 : List Int) (K0 : (List Int → Option Res)) (k : Nat) (v2 : Int) (v4 : List Int) => cond (decide (v2 ≥ 0)) (cond (decide (IntKind.u64.wrap (IntKind.i64.wrap (8 * v2)) < 0)) none (cond (decide ((v4.length + 1) * 1 ≤ 70368744177664)) (l6 v1 v3 K0 k (IntKind.i64.wrap (v2 - 1)) (v4 ++ [IntKind.u8.wrap (ishr .u64 v1 (IntKind.u64.wrap (IntKind.i64.wrap (8 * v2))))])) none)) (K0 v4)) d.1.1 d.2.1.2.1 (fun (y1 : List Int) => K (.exit 0) [.tv (.lf (.full 1))] [some ⟨d.2.1.1, [.seq (.int .u8) 0 d.2.1.2.1]⟩, some ⟨false, [.seq (.int .u8) 0 y1]⟩]) k d.1.2.2.1 d.2.2.1.2.1 = roundOf Tryd.prog (tab []) (xw []) 35 1 (ltab [(6, X6)]) (mkG sh81_1_l6 [2, 7, 8] (outT [(.exit 0, [7])]) (fun d K => l6 d.1.1 d.2.1.2.1 (fun (y1 : List Int) => K (.exit 0) [.tv (.lf (.full 1))] [some ⟨d.2.1.1, [.seq (.int .u8) 0 d.2.1.2.1]⟩, some ⟨false, [.seq (.int .u8) 0 y1]⟩]) k d.1.2.2.1 d.2.2.1.2.1) []) b81_0 (encT sh81_1_l6.vs d.1) (encH sh81_1_l6.h d.2) K := by kernel_rfl
theorem L81_1_6 (F : Nat) : LoopOK Tryd.prog (T81_1 F) (xw []) 35 1 (LT81_1 F) (G81_1_6 F F) b81_0 :=
  loopOK_of (s := sh81_1_l6) (live := [2, 7, 8]) (out := (outT [(.exit 0, [7])])) (mv := []) (fun k d K => f81_1_l6 F d.1.1 d.2.1.2.1 (fun (y1 : List Int) => K (.exit 0) [.tv (.lf (.full 1))] [some ⟨d.2.1.1, [.seq (.int .u8) 0 d.2.1.2.1]⟩, some ⟨false, [.seq (.int .u8) 0 y1]⟩]) k d.1.2.2.1 d.2.2.1.2.1) F (fun d K => by kernel_rfl)  (fun k d K => Eq.mp (by kernel_rfl) (L81_1_l6g F k   (f81_1_l6 F) (G81_1_6 F F) d K))
theorem E81_1g (F : Nat)  (l6 : Int → List Int → (List Int → Option Res) → Nat → Int → List Int → Option Res)  (d : sh81_1.den) (K : KF) : evBody Tryd.prog (tab []) (xw []) 35 1 (ltab [(6, mkG sh81_1_l6 [2, 7, 8] (outT [(.exit 0, [7])]) (fun d K => l6 d.1.1 d.2.1.2.1 (fun (y1 : List Int) => K (.exit 0) [.tv (.lf (.full 1))] [some ⟨d.2.1.1, [.seq (.int .u8) 0 d.2.1.2.1]⟩, some ⟨false, [.seq (.int .u8) 0 y1]⟩]) F d.1.2.2.1 d.2.2.1.2.1) [])]) code81 Tryd.f81.results.toList (encT sh81_1.vs d.1) (encH sh81_1.h d.2) K = (fun (a1 : Int) (a2 : Int) (a3 : List Int) (K0 : (List Int → Option Res)) => cond (decide (a3.length * 1 ≤ 70368744177664)) (cond (decide (a1 < 1)) (K0 a3) (cond (decide (a1 > 8)) (K0 a3) (l6 a2 a3 (fun x5 => K0 x5) F (IntKind.i64.wrap (a1 - 1)) a3))) none) d.1.2.1 d.1.2.2.1 d.2.1.2.1 (fun (y1 : List Int) => K [.lf (.full 1)] [some ⟨d.2.1.1, [.seq (.int .u8) 0 d.2.1.2.1]⟩, some ⟨false, [.seq (.int .u8) 0 y1]⟩]) := by kernel_rfl
theorem E81_1 (F : Nat) (d : sh81_1.den) (K : KF) : evBody Tryd.prog (T81_1 F) (xw []) 35 1 (LT81_1 F) code81 Tryd.f81.results.toList (encT sh81_1.vs d.1) (encH sh81_1.h d.2) K = f81_1 F d.1.2.1 d.1.2.2.1 d.2.1.2.1 (fun (y1 : List Int) => K [.lf (.full 1)] [some ⟨d.2.1.1, [.seq (.int .u8) 0 d.2.1.2.1]⟩, some ⟨false, [.seq (.int .u8) 0 y1]⟩]) := Eq.mp (by kernel_rfl) (E81_1g F  (f81_1_l6 F)  d K)
theorem S81_1_ok (F : Nat) (o : Summ) (ho : SoundFn Tryd.prog 81 o) : SoundFn Tryd.prog 81 (S81_1 F o) :=
  soundFn_of (fn := Tryd.f81) (c := code81) rfl rfl (by kernel_rfl) tab_nil (by kernel_rfl) (by kernel_rfl) ho (by rw [loops81]; exact (loopsOK_cons (by kernel_rfl) (L81_1_6 F) loopsOK_nil)) (by rw [scopes81]; exact scopesOK_nil) (by rw [ranges81]; exact rangesOK_nil) (E81_1 F)
end Go.Proofs.YtillbabmlfjegaaDoor.X
end

section
namespace Go.Proofs.YtillbabmlfjegaaDoor.X
open Go Go.Proofs.YtillbabmlfjegaaDoor.Ev Go.Proofs
set_option linter.unusedVariables false
set_option linter.unusedSectionVars false
/-! pentimentoref01.Text -/
noncomputable def f40_1 {β : Type} (F : Nat) (a1 : Int) (a2 : Int) (K0 : ByteArray → Option β) : Option β := f81_1 F a1 a2 [] (fun x1 => K0 (ofInts x1)) 
variable [FZ]
def sh40_1 : Sh := ⟨[.lf (.int .i64), .lf (.int .u64)], []⟩
noncomputable def S40_1 (F : Nat) (o : Summ) : Summ := mkS sh40_1 (fun d K => f40_1 F d.1.1 d.1.2.1 (fun (y0 : ByteArray) => K [.lf (.str y0)] [])) o
noncomputable def code40 : Code := bodyOf Tryd.f40
theorem scopes40 : scopesOf code40 = [] := by kernel_rfl
theorem ranges40 : rangesOf code40 = [] := by kernel_rfl
theorem loops40 : loopsOf code40 = [] := by kernel_rfl
theorem enter40 : ∀ args w, (callFunc 40 args).run Tryd.prog w = .ok (.enter 40 args) w := enter_of (fn := Tryd.f40) (by kernel_rfl) (by kernel_rfl) (by kernel_rfl)
noncomputable def T40_1 (F : Nat) : FuncId → Option Summ := tab [(81, (S81_1 F noS))]
noncomputable def LT40_1 (F : Nat) : Nat → Option LoopS := ltab []
theorem E40_1g (F : Nat) (c81_1 : Int → Int → List Int → (List Int → Option Res) → Option Res)   (d : sh40_1.den) (K : KF) : evBody Tryd.prog (tab [(81, (mkS sh81_1 (fun d K => c81_1 d.1.2.1 d.1.2.2.1 d.2.1.2.1 (fun (y1 : List Int) => K [.lf (.full 1)] [some ⟨d.2.1.1, [.seq (.int .u8) 0 d.2.1.2.1]⟩, some ⟨false, [.seq (.int .u8) 0 y1]⟩])) noS))]) (xw []) 9 0 (ltab []) code40 Tryd.f40.results.toList (encT sh40_1.vs d.1) (encH sh40_1.h d.2) K = (fun (a1 : Int) (a2 : Int) (K0 : (ByteArray → Option Res)) => c81_1 a1 a2 [] (fun x1 => K0 (ofInts x1)) ) d.1.1 d.1.2.1 (fun (y0 : ByteArray) => K [.lf (.str y0)] []) := by kernel_rfl
theorem E40_1 (F : Nat) (d : sh40_1.den) (K : KF) : evBody Tryd.prog (T40_1 F) (xw []) 9 0 (LT40_1 F) code40 Tryd.f40.results.toList (encT sh40_1.vs d.1) (encH sh40_1.h d.2) K = f40_1 F d.1.1 d.1.2.1 (fun (y0 : ByteArray) => K [.lf (.str y0)] []) := Eq.mp (by kernel_rfl) (E40_1g F (f81_1 F)   d K)
theorem S40_1_ok (F : Nat) (o : Summ) (ho : SoundFn Tryd.prog 40 o) : SoundFn Tryd.prog 40 (S40_1 F o) :=
  soundFn_of (fn := Tryd.f40) (c := code40) rfl rfl (by kernel_rfl) (tab_cons (S81_1_ok F _ (noS_sound enter81)) tab_nil) (by kernel_rfl) (by kernel_rfl) ho (by rw [loops40]; exact loopsOK_nil) (by rw [scopes40]; exact scopesOK_nil) (by rw [ranges40]; exact rangesOK_nil) (E40_1 F)
end Go.Proofs.YtillbabmlfjegaaDoor.X
end

section
namespace Go.Proofs.YtillbabmlfjegaaDoor.X
open Go Go.Proofs.YtillbabmlfjegaaDoor.Ev Go.Proofs
set_option linter.unusedVariables false
set_option linter.unusedSectionVars false
/-! pentimentoref02.Entry -/
noncomputable def f113_1_l3 {β : Type} (F : Nat)  (K0 : Int → Option β) : Nat → Int → Int → Option β
  | 0, _, _ => none
  | k + 1, v1, v2 => cond (decide (v2 < 8)) (cond ((v1.tmod 2) == 1) (f113_1_l3 F K0 k (ixor .u32 (IntKind.u32.wrap (v1.tdiv 2)) 2197175160) (IntKind.i64.wrap (v2 + 1))) (f113_1_l3 F K0 k (IntKind.u32.wrap (v1.tdiv 2)) (IntKind.i64.wrap (v2 + 1)))) (K0 v1)
noncomputable def f113_1 {β : Type} (F : Nat) (a1 : Int) (K0 : Int → Option β) : Option β := f113_1_l3 F  (fun x3 => K0 x3) F (IntKind.u32.wrap a1) 0
variable [FZ]
def sh113_1 : Sh := ⟨[.lf (.int .u8)], []⟩
noncomputable def S113_1 (F : Nat) (o : Summ) : Summ := mkS sh113_1 (fun d K => f113_1 F d.1.1 (fun (y0 : Int) => K [.lf (.int .u32 y0)] [])) o
noncomputable def code113 : Code := bodyOf Tryd.f113
noncomputable def b113_0 : Code := cB (cB (cR (cL (cR (cR (code113))))))
theorem scopes113 : scopesOf code113 = [] := by kernel_rfl
theorem ranges113 : rangesOf code113 = [] := by kernel_rfl
theorem loops113 : loopsOf code113 = [b113_0] := by kernel_rfl
theorem enter113 : ∀ args w, (callFunc 113 args).run Tryd.prog w = .ok (.enter 113 args) w := enter_of (fn := Tryd.f113) (by kernel_rfl) (by kernel_rfl) (by kernel_rfl)
noncomputable def T113_1 (F : Nat) : FuncId → Option Summ := tab []
def sh113_1_l3 : Sh := ⟨[.lf (.int .u32), .lf (.int .i64)], []⟩
noncomputable def G113_1_3 (F k : Nat) : LoopS := mkG sh113_1_l3 [3, 4] (outT [(.exit 0, [3])]) (fun d K => f113_1_l3 F (fun (y0 : Int) => K (.exit 0) [.tv (.lf (.int .u32 y0))] []) k d.1.1 d.1.2.1) []
noncomputable def LT113_1 (F : Nat) : Nat → Option LoopS := ltab [(3, G113_1_3 F F)]
theorem L113_1_l3g (F k : Nat)   (l3 : (Int → Option Res) → Nat → Int → Int → Option Res) (X3 : LoopS) (d : sh113_1_l3.den) (K : KL) : (fun (K0 : (Int → Option Res)) (k : Nat) (v1 : Int) (v2 : Int) => cond (decide (v2 < 8)) (cond ((v1.tmod 2) == 1) (l3 K0 k (ixor .u32 (IntKind.u32.wrap (v1.tdiv 2)) 2197175160) (IntKind.i64.wrap (v2 + 1))) (l3 K0 k (IntKind.u32.wrap (v1.tdiv 2)) (IntKind.i64.wrap (v2 + 1)))) (K0 v1)) (fun (y0 : Int) => K (.exit 0) [.tv (.lf (.int .u32 y0))] []) k d.1.1 d.1.2.1 = roundOf Tryd.prog (tab []) (xw []) 20 0 (ltab [(3, X3)]) (mkG sh113_1_l3 [3, 4] (outT [(.exit 0, [3])]) (fun d K => l3 (fun (y0 : Int) => K (.exit 0) [.tv (.lf (.int .u32 y0))] []) k d.1.1 d.1.2.1) []) b113_0 (encT sh113_1_l3.vs d.1) (encH sh113_1_l3.h d.2) K := by kernel_rfl
theorem L113_1_3 (F : Nat) : LoopOK Tryd.prog (T113_1 F) (xw []) 20 0 (LT113_1 F) (G113_1_3 F F) b113_0 :=
  loopOK_of (s := sh113_1_l3) (live := [3, 4]) (out := (outT [(.exit 0, [3])])) (mv := []) (fun k d K => f113_1_l3 F (fun (y0 : Int) => K (.exit 0) [.tv (.lf (.int .u32 y0))] []) k d.1.1 d.1.2.1) F (fun d K => by kernel_rfl)  (fun k d K => Eq.mp (by kernel_rfl) (L113_1_l3g F k   (f113_1_l3 F) (G113_1_3 F F) d K))
theorem E113_1g (F : Nat)  (l3 : (Int → Option Res) → Nat → Int → Int → Option Res)  (d : sh113_1.den) (K : KF) : evBody Tryd.prog (tab []) (xw []) 20 0 (ltab [(3, mkG sh113_1_l3 [3, 4] (outT [(.exit 0, [3])]) (fun d K => l3 (fun (y0 : Int) => K (.exit 0) [.tv (.lf (.int .u32 y0))] []) F d.1.1 d.1.2.1) [])]) code113 Tryd.f113.results.toList (encT sh113_1.vs d.1) (encH sh113_1.h d.2) K = (fun (a1 : Int) (K0 : (Int → Option Res)) => l3  (fun x3 => K0 x3) F (IntKind.u32.wrap a1) 0) d.1.1 (fun (y0 : Int) => K [.lf (.int .u32 y0)] []) := by kernel_rfl
theorem E113_1 (F : Nat) (d : sh113_1.den) (K : KF) : evBody Tryd.prog (T113_1 F) (xw []) 20 0 (LT113_1 F) code113 Tryd.f113.results.toList (encT sh113_1.vs d.1) (encH sh113_1.h d.2) K = f113_1 F d.1.1 (fun (y0 : Int) => K [.lf (.int .u32 y0)] []) := Eq.mp (by kernel_rfl) (E113_1g F  (f113_1_l3 F)  d K)
theorem S113_1_ok (F : Nat) (o : Summ) (ho : SoundFn Tryd.prog 113 o) : SoundFn Tryd.prog 113 (S113_1 F o) :=
  soundFn_of (fn := Tryd.f113) (c := code113) rfl rfl (by kernel_rfl) tab_nil (by kernel_rfl) (by kernel_rfl) ho (by rw [loops113]; exact (loopsOK_cons (by kernel_rfl) (L113_1_3 F) loopsOK_nil)) (by rw [scopes113]; exact scopesOK_nil) (by rw [ranges113]; exact rangesOK_nil) (E113_1 F)
end Go.Proofs.YtillbabmlfjegaaDoor.X
end
