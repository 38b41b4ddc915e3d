/- Merged: EvF100, EvF45, EvF61, EvF99, PureW, DiskA, DiskB, EvF62, EvF63, DiskC, EvF113, EvF83, EvF42, EvF81, EvF40, RecA, EvF16, EvF14, EvF82, EvF41, EvF11, RecB, RecC, EvF94, NumA, NumB, EvF59, EvF98, EvF58. -/
import Derived.Test.YtillbabmlfjegaaDoorMSlotKeepsCard3
import Derived.Test.YtillbabmlfjegaaDoorProg
import Derived.KernelRfl
import Derived.Test.YtillbabmlfjegaaDoorMSlotKeepsCard4
section
namespace Go.Proofs.YtillbabmlfjegaaDoor.X
open Go Go.Proofs.YtillbabmlfjegaaDoor.Ev Go.Proofs
set_option linter.unusedVariables false
set_option linter.unusedSectionVars false
/-! pentimentoref06.Disk).burn -/
noncomputable def f100_1 {β : Type} (F : Nat) (a1 : Int) (a2 : Bool) (a3 : Int) (a4 : List ByteArray) (a5 : List (Int × ByteArray)) (K0 : Bool → Int → Bool → Int → Option β) : Option β := cond (a1 == 0) (K0 false (-1) true a3) (cond (decide (a1 > 0)) (K0 true (IntKind.i64.wrap (a1 - 1)) a2 (IntKind.i64.wrap (a3 + 1))) (K0 true a1 a2 (IntKind.i64.wrap (a3 + 1))))
variable [FZ]
def sh100_1 : Sh := ⟨[.lf (.ptr 0 0)], [some ⟨some false, [.full 1, .full 2, .int .i64, .bool, .int .i64]⟩, some ⟨none, [.seq .str 0]⟩, some ⟨none, [.seq (.pair (.int .i64) .str) 0]⟩]⟩
noncomputable def S100_1 (F : Nat) (o : Summ) : Summ := mkS sh100_1 (fun d K => f100_1 F d.2.1.2.2.2.1 d.2.1.2.2.2.2.1 d.2.1.2.2.2.2.2.1 d.2.2.1.2.1 d.2.2.2.1.2.1 (fun (y0 : Bool) (y1 : Int) (y2 : Bool) (y3 : Int) => K [.lf (.bool y0)] [some ⟨false, [.full 1, .full 2, .int .i64 y1, .bool y2, .int .i64 y3]⟩, some ⟨d.2.2.1.1, [.seq .str 0 d.2.2.1.2.1]⟩, some ⟨d.2.2.2.1.1, [.seq (.pair (.int .i64) .str) 0 d.2.2.2.1.2.1]⟩])) o
noncomputable def code100 : Code := bodyOf Tryd.f100
theorem scopes100 : scopesOf code100 = [] := by kernel_rfl
theorem ranges100 : rangesOf code100 = [] := by kernel_rfl
theorem loops100 : loopsOf code100 = [] := by kernel_rfl
theorem enter100 : ∀ args w, (callFunc 100 args).run Tryd.prog w = .ok (.enter 100 args) w := enter_of (fn := Tryd.f100) (by kernel_rfl) (by kernel_rfl) (by kernel_rfl)
noncomputable def T100_1 (F : Nat) : FuncId → Option Summ := tab []
noncomputable def LT100_1 (F : Nat) : Nat → Option LoopS := ltab []
theorem E100_1g (F : Nat)    (d : sh100_1.den) (K : KF) : evBody Tryd.prog (tab []) (xw []) 35 3 (ltab []) code100 Tryd.f100.results.toList (encT sh100_1.vs d.1) (encH sh100_1.h d.2) K = (fun (a1 : Int) (a2 : Bool) (a3 : Int) (a4 : List ByteArray) (a5 : List (Int × ByteArray)) (K0 : (Bool → Int → Bool → Int → Option Res)) => cond (a1 == 0) (K0 false (-1) true a3) (cond (decide (a1 > 0)) (K0 true (IntKind.i64.wrap (a1 - 1)) a2 (IntKind.i64.wrap (a3 + 1))) (K0 true a1 a2 (IntKind.i64.wrap (a3 + 1))))) d.2.1.2.2.2.1 d.2.1.2.2.2.2.1 d.2.1.2.2.2.2.2.1 d.2.2.1.2.1 d.2.2.2.1.2.1 (fun (y0 : Bool) (y1 : Int) (y2 : Bool) (y3 : Int) => K [.lf (.bool y0)] [some ⟨false, [.full 1, .full 2, .int .i64 y1, .bool y2, .int .i64 y3]⟩, some ⟨d.2.2.1.1, [.seq .str 0 d.2.2.1.2.1]⟩, some ⟨d.2.2.2.1.1, [.seq (.pair (.int .i64) .str) 0 d.2.2.2.1.2.1]⟩]) := by kernel_rfl
theorem E100_1 (F : Nat) (d : sh100_1.den) (K : KF) : evBody Tryd.prog (T100_1 F) (xw []) 35 3 (LT100_1 F) code100 Tryd.f100.results.toList (encT sh100_1.vs d.1) (encH sh100_1.h d.2) K = f100_1 F d.2.1.2.2.2.1 d.2.1.2.2.2.2.1 d.2.1.2.2.2.2.2.1 d.2.2.1.2.1 d.2.2.2.1.2.1 (fun (y0 : Bool) (y1 : Int) (y2 : Bool) (y3 : Int) => K [.lf (.bool y0)] [some ⟨false, [.full 1, .full 2, .int .i64 y1, .bool y2, .int .i64 y3]⟩, some ⟨d.2.2.1.1, [.seq .str 0 d.2.2.1.2.1]⟩, some ⟨d.2.2.2.1.1, [.seq (.pair (.int .i64) .str) 0 d.2.2.2.1.2.1]⟩]) := Eq.mp (by kernel_rfl) (E100_1g F    d K)
theorem S100_1_ok (F : Nat) (o : Summ) (ho : SoundFn Tryd.prog 100 o) : SoundFn Tryd.prog 100 (S100_1 F o) :=
  soundFn_of (fn := Tryd.f100) (c := code100) rfl rfl (by kernel_rfl) tab_nil (by kernel_rfl) (by kernel_rfl) ho (by rw [loops100]; exact loopsOK_nil) (by rw [scopes100]; exact scopesOK_nil) (by rw [ranges100]; exact rangesOK_nil) (E100_1 F)
end Go.Proofs.YtillbabmlfjegaaDoor.X
end

section
namespace Go.Proofs.YtillbabmlfjegaaDoor.X
open Go Go.Proofs.YtillbabmlfjegaaDoor.Ev Go.Proofs
set_option linter.unusedVariables false
set_option linter.unusedSectionVars false
/-! pentimentoref05.Right -/
noncomputable def f45_1 {β : Type} (F : Nat) (a1 : ByteArray) (K0 : Bool → Option β) : Option β := K0 ((a1.size : Int) == 64)
variable [FZ]
def sh45_1 : Sh := ⟨[.lf (.str)], []⟩
noncomputable def S45_1 (F : Nat) (o : Summ) : Summ := mkS sh45_1 (fun d K => f45_1 F d.1.1 (fun (y0 : Bool) => K [.lf (.bool y0)] [])) o
noncomputable def code45 : Code := bodyOf Tryd.f45
theorem scopes45 : scopesOf code45 = [] := by kernel_rfl
theorem ranges45 : rangesOf code45 = [] := by kernel_rfl
theorem loops45 : loopsOf code45 = [] := by kernel_rfl
theorem enter45 : ∀ args w, (callFunc 45 args).run Tryd.prog w = .ok (.enter 45 args) w := enter_of (fn := Tryd.f45) (by kernel_rfl) (by kernel_rfl) (by kernel_rfl)
noncomputable def T45_1 (F : Nat) : FuncId → Option Summ := tab []
noncomputable def LT45_1 (F : Nat) : Nat → Option LoopS := ltab []
theorem E45_1g (F : Nat)    (d : sh45_1.den) (K : KF) : evBody Tryd.prog (tab []) (xw []) 6 0 (ltab []) code45 Tryd.f45.results.toList (encT sh45_1.vs d.1) (encH sh45_1.h d.2) K = (fun (a1 : ByteArray) (K0 : (Bool → Option Res)) => K0 ((a1.size : Int) == 64)) d.1.1 (fun (y0 : Bool) => K [.lf (.bool y0)] []) := by kernel_rfl
theorem E45_1 (F : Nat) (d : sh45_1.den) (K : KF) : evBody Tryd.prog (T45_1 F) (xw []) 6 0 (LT45_1 F) code45 Tryd.f45.results.toList (encT sh45_1.vs d.1) (encH sh45_1.h d.2) K = f45_1 F d.1.1 (fun (y0 : Bool) => K [.lf (.bool y0)] []) := Eq.mp (by kernel_rfl) (E45_1g F    d K)
theorem S45_1_ok (F : Nat) (o : Summ) (ho : SoundFn Tryd.prog 45 o) : SoundFn Tryd.prog 45 (S45_1 F o) :=
  soundFn_of (fn := Tryd.f45) (c := code45) rfl rfl (by kernel_rfl) tab_nil (by kernel_rfl) (by kernel_rfl) ho (by rw [loops45]; exact loopsOK_nil) (by rw [scopes45]; exact scopesOK_nil) (by rw [ranges45]; exact rangesOK_nil) (E45_1 F)
end Go.Proofs.YtillbabmlfjegaaDoor.X
end

section
namespace Go.Proofs.YtillbabmlfjegaaDoor.X
open Go Go.Proofs.YtillbabmlfjegaaDoor.Ev Go.Proofs
set_option linter.unusedVariables false
set_option linter.unusedSectionVars false
/-! pentimentoref06.Disk).Write -/
noncomputable def f61_1 {β : Type} (F : Nat) (a1 : Int) (a2 : ByteArray) (a3 : Int) (a4 : Bool) (a5 : Int) (a6 : List ByteArray) (a7 : List (Int × ByteArray)) (K0 : Int → Int → Bool → Int → Option β) (K1 : Int → Bool → Int → List (Int × ByteArray) → Option β) : Option β := cond a4 (K0 5 a3 a4 a5) (cond (decide (a1 < 0)) (K0 3 a3 a4 a5) (cond (decide (a1 ≥ ((a6.length : Nat) : Int))) (K0 3 a3 a4 a5) (f45_1 F a2 (fun x1 => cond (!x1) (K0 4 a3 a4 a5) (f100_1 F a3 a4 a5 a6 a7 (fun x2 x3 x4 x5 => cond (!x2) (K0 5 x3 x4 x5) (cond (decide ((a7.length + 1) * 24 ≤ 70368744177664)) (K1 x3 x4 x5 (a7 ++ [(a1, a2)])) none)) )) )))
variable [FZ]
def sh61_1 : Sh := ⟨[.lf (.ptr 0 0), .lf (.int .i64), .lf (.str)], [some ⟨some false, [.full 1, .full 2, .int .i64, .bool, .int .i64]⟩, some ⟨none, [.seq .str 0]⟩, some ⟨some false, [.seq (.pair (.int .i64) .str) 0]⟩]⟩
noncomputable def S61_1 (F : Nat) (o : Summ) : Summ := mkS sh61_1 (fun d K => f61_1 F d.1.2.1 d.1.2.2.1 d.2.1.2.2.2.1 d.2.1.2.2.2.2.1 d.2.1.2.2.2.2.2.1 d.2.2.1.2.1 d.2.2.2.1.2.1 (fun (y0 : Int) (y1 : Int) (y2 : Bool) (y3 : Int) => K [.lf (.int .i64 y0)] [some ⟨false, [.full 1, .full 2, .int .i64 y1, .bool y2, .int .i64 y3]⟩, some ⟨d.2.2.1.1, [.seq .str 0 d.2.2.1.2.1]⟩, some ⟨false, [.seq (.pair (.int .i64) .str) 0 d.2.2.2.1.2.1]⟩]) (fun (y1 : Int) (y2 : Bool) (y3 : Int) (y5 : List (Int × ByteArray)) => K [.lf (.int .i64 0)] [some ⟨false, [.full 1, .full 3, .int .i64 y1, .bool y2, .int .i64 y3]⟩, some ⟨d.2.2.1.1, [.seq .str 0 d.2.2.1.2.1]⟩, none, some ⟨false, [.seq (.pair (.int .i64) .str) 0 y5]⟩])) o
noncomputable def code61 : Code := bodyOf Tryd.f61
theorem scopes61 : scopesOf code61 = [] := by kernel_rfl
theorem ranges61 : rangesOf code61 = [] := by kernel_rfl
theorem loops61 : loopsOf code61 = [] := by kernel_rfl
theorem enter61 : ∀ args w, (callFunc 61 args).run Tryd.prog w = .ok (.enter 61 args) w := enter_of (fn := Tryd.f61) (by kernel_rfl) (by kernel_rfl) (by kernel_rfl)
noncomputable def T61_1 (F : Nat) : FuncId → Option Summ := tab [(45, (S45_1 F noS)), (100, (S100_1 F noS))]
noncomputable def LT61_1 (F : Nat) : Nat → Option LoopS := ltab []
theorem E61_1g (F : Nat) (c45_1 : ByteArray → (Bool → Option Res) → Option Res) (c100_1 : Int → Bool → Int → List ByteArray → List (Int × ByteArray) → (Bool → Int → Bool → Int → Option Res) → Option Res)   (d : sh61_1.den) (K : KF) : evBody Tryd.prog (tab [(45, (mkS sh45_1 (fun d K => c45_1 d.1.1 (fun (y0 : Bool) => K [.lf (.bool y0)] [])) noS)), (100, (mkS sh100_1 (fun d K => c100_1 d.2.1.2.2.2.1 d.2.1.2.2.2.2.1 d.2.1.2.2.2.2.2.1 d.2.2.1.2.1 d.2.2.2.1.2.1 (fun (y0 : Bool) (y1 : Int) (y2 : Bool) (y3 : Int) => K [.lf (.bool y0)] [some ⟨false, [.full 1, .full 2, .int .i64 y1, .bool y2, .int .i64 y3]⟩, some ⟨d.2.2.1.1, [.seq .str 0 d.2.2.1.2.1]⟩, some ⟨d.2.2.2.1.1, [.seq (.pair (.int .i64) .str) 0 d.2.2.2.1.2.1]⟩])) noS))]) (xw []) 40 3 (ltab []) code61 Tryd.f61.results.toList (encT sh61_1.vs d.1) (encH sh61_1.h d.2) K = (fun (a1 : Int) (a2 : ByteArray) (a3 : Int) (a4 : Bool) (a5 : Int) (a6 : List ByteArray) (a7 : List (Int × ByteArray)) (K0 : (Int → Int → Bool → Int → Option Res)) (K1 : (Int → Bool → Int → List (Int × ByteArray) → Option Res)) => cond a4 (K0 5 a3 a4 a5) (cond (decide (a1 < 0)) (K0 3 a3 a4 a5) (cond (decide (a1 ≥ ((a6.length : Nat) : Int))) (K0 3 a3 a4 a5) (c45_1 a2 (fun x1 => cond (!x1) (K0 4 a3 a4 a5) (c100_1 a3 a4 a5 a6 a7 (fun x2 x3 x4 x5 => cond (!x2) (K0 5 x3 x4 x5) (cond (decide ((a7.length + 1) * 24 ≤ 70368744177664)) (K1 x3 x4 x5 (a7 ++ [(a1, a2)])) none)) )) )))) d.1.2.1 d.1.2.2.1 d.2.1.2.2.2.1 d.2.1.2.2.2.2.1 d.2.1.2.2.2.2.2.1 d.2.2.1.2.1 d.2.2.2.1.2.1 (fun (y0 : Int) (y1 : Int) (y2 : Bool) (y3 : Int) => K [.lf (.int .i64 y0)] [some ⟨false, [.full 1, .full 2, .int .i64 y1, .bool y2, .int .i64 y3]⟩, some ⟨d.2.2.1.1, [.seq .str 0 d.2.2.1.2.1]⟩, some ⟨false, [.seq (.pair (.int .i64) .str) 0 d.2.2.2.1.2.1]⟩]) (fun (y1 : Int) (y2 : Bool) (y3 : Int) (y5 : List (Int × ByteArray)) => K [.lf (.int .i64 0)] [some ⟨false, [.full 1, .full 3, .int .i64 y1, .bool y2, .int .i64 y3]⟩, some ⟨d.2.2.1.1, [.seq .str 0 d.2.2.1.2.1]⟩, none, some ⟨false, [.seq (.pair (.int .i64) .str) 0 y5]⟩]) := by kernel_rfl
theorem E61_1 (F : Nat) (d : sh61_1.den) (K : KF) : evBody Tryd.prog (T61_1 F) (xw []) 40 3 (LT61_1 F) code61 Tryd.f61.results.toList (encT sh61_1.vs d.1) (encH sh61_1.h d.2) K = f61_1 F d.1.2.1 d.1.2.2.1 d.2.1.2.2.2.1 d.2.1.2.2.2.2.1 d.2.1.2.2.2.2.2.1 d.2.2.1.2.1 d.2.2.2.1.2.1 (fun (y0 : Int) (y1 : Int) (y2 : Bool) (y3 : Int) => K [.lf (.int .i64 y0)] [some ⟨false, [.full 1, .full 2, .int .i64 y1, .bool y2, .int .i64 y3]⟩, some ⟨d.2.2.1.1, [.seq .str 0 d.2.2.1.2.1]⟩, some ⟨false, [.seq (.pair (.int .i64) .str) 0 d.2.2.2.1.2.1]⟩]) (fun (y1 : Int) (y2 : Bool) (y3 : Int) (y5 : List (Int × ByteArray)) => K [.lf (.int .i64 0)] [some ⟨false, [.full 1, .full 3, .int .i64 y1, .bool y2, .int .i64 y3]⟩, some ⟨d.2.2.1.1, [.seq .str 0 d.2.2.1.2.1]⟩, none, some ⟨false, [.seq (.pair (.int .i64) .str) 0 y5]⟩]) := Eq.mp (by kernel_rfl) (E61_1g F (f45_1 F) (f100_1 F)   d K)
theorem S61_1_ok (F : Nat) (o : Summ) (ho : SoundFn Tryd.prog 61 o) : SoundFn Tryd.prog 61 (S61_1 F o) :=
  soundFn_of (fn := Tryd.f61) (c := code61) rfl rfl (by kernel_rfl) (tab_cons (S45_1_ok F _ (noS_sound enter45)) (tab_cons (S100_1_ok F _ (noS_sound enter100)) tab_nil)) (by kernel_rfl) (by kernel_rfl) ho (by rw [loops61]; exact loopsOK_nil) (by rw [scopes61]; exact scopesOK_nil) (by rw [ranges61]; exact rangesOK_nil) (E61_1 F)
end Go.Proofs.YtillbabmlfjegaaDoor.X
end

section
namespace Go.Proofs.YtillbabmlfjegaaDoor.X
open Go Go.Proofs.YtillbabmlfjegaaDoor.Ev Go.Proofs
set_option linter.unusedVariables false
set_option linter.unusedSectionVars false
/-! pentimentoref06.Disk).Flush -/
noncomputable def f99_1_l4 {β : Type} (F : Nat) (v6 : Int) (v7 : Bool) (v8 : Int) (v10 : List (Int × ByteArray)) (K0 : List ByteArray → Option β) : Nat → Int → List ByteArray → Option β
  | 0, _, _ => none
  | k + 1, v5, v9 => cond (decide (v5 < ((v10.length : Nat) : Int))) (cond (decide ((0 : Int) ≤ v5 ∧ v5 < ((v10.length : Nat) : Int))) (cond (decide (0 + v5.toNat < v10.length)) (cond (decide ((0 : Int) ≤ (v10.getD (0 + v5.toNat) (0, ByteArray.empty)).1 ∧ (v10.getD (0 + v5.toNat) (0, ByteArray.empty)).1 < ((v9.length : Nat) : Int))) (cond (decide (0 + (((v10.getD (0 + v5.toNat) (0, ByteArray.empty)).1).toNat) < v9.length)) (f99_1_l4 F v6 v7 v8 v10 K0 k (IntKind.i64.wrap (v5 + 1)) (v9.set (0 + (((v10.getD (0 + v5.toNat) (0, ByteArray.empty)).1).toNat)) ((v10.getD (0 + v5.toNat) (0, ByteArray.empty)).2))) none) none) none) none) (K0 v9)
noncomputable def f99_1 {β : Type} (F : Nat) (a1 : Int) (a2 : Bool) (a3 : Int) (a4 : List ByteArray) (a5 : List (Int × ByteArray)) (K0 : Int → Bool → Int → Option β) (K1 : Int → Bool → Int → List ByteArray → List (Int × ByteArray) → Option β) : Option β := cond a2 (K0 a1 a2 a3) (f100_1 F a1 a2 a3 a4 a5 (fun x1 x2 x3 x4 => cond (!x1) (K0 x2 x3 x4) (f99_1_l4 F x2 x3 x4 a5 (fun x11 => K1 x2 x3 x4 x11 []) F 0 a4)) )
variable [FZ]
def sh99_1 : Sh := ⟨[.lf (.ptr 0 0)], [some ⟨some false, [.full 1, .full 2, .int .i64, .bool, .int .i64]⟩, some ⟨some false, [.seq .str 0]⟩, some ⟨none, [.seq (.pair (.int .i64) .str) 0]⟩]⟩
noncomputable def S99_1 (F : Nat) (o : Summ) : Summ := mkS sh99_1 (fun d K => f99_1 F d.2.1.2.2.2.1 d.2.1.2.2.2.2.1 d.2.1.2.2.2.2.2.1 d.2.2.1.2.1 d.2.2.2.1.2.1 (fun (y1 : Int) (y2 : Bool) (y3 : Int) => K [.lf (.int .i64 5)] [some ⟨false, [.full 1, .full 2, .int .i64 y1, .bool y2, .int .i64 y3]⟩, some ⟨false, [.seq .str 0 d.2.2.1.2.1]⟩, some ⟨d.2.2.2.1.1, [.seq (.pair (.int .i64) .str) 0 d.2.2.2.1.2.1]⟩]) (fun (y1 : Int) (y2 : Bool) (y3 : Int) (y4 : List ByteArray) (y6 : List (Int × ByteArray)) => K [.lf (.int .i64 0)] [some ⟨false, [.full 1, .full 3, .int .i64 y1, .bool y2, .int .i64 y3]⟩, some ⟨false, [.seq .str 0 y4]⟩, some ⟨d.2.2.2.1.1, [.seq (.pair (.int .i64) .str) 0 d.2.2.2.1.2.1]⟩, some ⟨false, [.seq (.pair (.int .i64) .str) 0 y6]⟩])) o
noncomputable def code99 : Code := bodyOf Tryd.f99
noncomputable def b99_0 : Code := cB (cB (cR (cL (cR (cR (code99))))))
theorem scopes99 : scopesOf code99 = [] := by kernel_rfl
theorem ranges99 : rangesOf code99 = [] := by kernel_rfl
theorem loops99 : loopsOf code99 = [b99_0] := by kernel_rfl
theorem enter99 : ∀ args w, (callFunc 99 args).run Tryd.prog w = .ok (.enter 99 args) w := enter_of (fn := Tryd.f99) (by kernel_rfl) (by kernel_rfl) (by kernel_rfl)
noncomputable def T99_1 (F : Nat) : FuncId → Option Summ := tab [(100, (S100_1 F noS))]
def sh99_1_l4 : Sh := ⟨[.lf (.ptr 0 0), .lf (.int .i64)], [some ⟨some false, [.full 1, .full 2, .int .i64, .bool, .int .i64]⟩, some ⟨some false, [.seq .str 0]⟩, some ⟨none, [.seq (.pair (.int .i64) .str) 0]⟩]⟩
noncomputable def G99_1_4 (F k : Nat) : LoopS := mkG sh99_1_l4 [0, 3] (outT [(.exit 0, [0])]) (fun d K => f99_1_l4 F d.2.1.2.2.2.1 d.2.1.2.2.2.2.1 d.2.1.2.2.2.2.2.1 d.2.2.2.1.2.1 (fun (y3 : List ByteArray) => K (.exit 0) [.tv (.lf (.ptr 0 0))] [some ⟨false, [.full 1, .full 2, .int .i64 d.2.1.2.2.2.1, .bool d.2.1.2.2.2.2.1, .int .i64 d.2.1.2.2.2.2.2.1]⟩, some ⟨false, [.seq .str 0 y3]⟩, some ⟨d.2.2.2.1.1, [.seq (.pair (.int .i64) .str) 0 d.2.2.2.1.2.1]⟩]) k d.1.2.1 d.2.2.1.2.1) []
noncomputable def LT99_1 (F : Nat) : Nat → Option LoopS := ltab [(4, G99_1_4 F F)]
theorem L99_1_l4g (F k : Nat) (c100_1 : Int → Bool → Int → List ByteArray → List (Int × ByteArray) → (Bool → Int → Bool → Int → Option Res) → Option Res)  (l4 : Int → Bool → Int → List (Int × ByteArray) → (List ByteArray → Option Res) → Nat → Int → List ByteArray → Option Res) (X4 : LoopS) (d : sh99_1_l4.den) (K : KL) : (fun (v6 : Int) (v7 : Bool) (v8 : Int) (v10 : List (Int × ByteArray)) (K0 : (List ByteArray → Option Res)) (k : Nat) (v5 : Int) (v9 : List ByteArray) => cond (decide (v5 < ((v10.length : Nat) : Int))) (cond (decide ((0 : Int) ≤ v5 ∧ v5 < ((v10.length : Nat) : Int))) (cond (decide (0 + v5.toNat < v10.length)) (cond (decide ((0 : Int) ≤ (v10.getD (0 + v5.toNat) (0, ByteArray.empty)).1 ∧ (v10.getD (0 + v5.toNat) (0, ByteArray.empty)).1 < ((v9.length : Nat) : Int))) (cond (decide (0 + (((v10.getD (0 + v5.toNat) (0, ByteArray.empty)).1).toNat) < v9.length)) (l4 v6 v7 v8 v10 K0 k (IntKind.i64.wrap (v5 + 1)) (v9.set (0 + (((v10.getD (0 + v5.toNat) (0, ByteArray.empty)).1).toNat)) ((v10.getD (0 + v5.toNat) (0, ByteArray.empty)).2))) none) none) none) none) (K0 v9)) d.2.1.2.2.2.1 d.2.1.2.2.2.2.1 d.2.1.2.2.2.2.2.1 d.2.2.2.1.2.1 (fun (y3 : List ByteArray) => K (.exit 0) [.tv (.lf (.ptr 0 0))] [some ⟨false, [.full 1, .full 2, .int .i64 d.2.1.2.2.2.1, .bool d.2.1.2.2.2.2.1, .int .i64 d.2.1.2.2.2.2.2.1]⟩, some ⟨false, [.seq .str 0 y3]⟩, some ⟨d.2.2.2.1.1, [.seq (.pair (.int .i64) .str) 0 d.2.2.2.1.2.1]⟩]) k d.1.2.1 d.2.2.1.2.1 = roundOf Tryd.prog (tab [(100, (mkS sh100_1 (fun d K => c100_1 d.2.1.2.2.2.1 d.2.1.2.2.2.2.1 d.2.1.2.2.2.2.2.1 d.2.2.1.2.1 d.2.2.2.1.2.1 (fun (y0 : Bool) (y1 : Int) (y2 : Bool) (y3 : Int) => K [.lf (.bool y0)] [some ⟨false, [.full 1, .full 2, .int .i64 y1, .bool y2, .int .i64 y3]⟩, some ⟨d.2.2.1.1, [.seq .str 0 d.2.2.1.2.1]⟩, some ⟨d.2.2.2.1.1, [.seq (.pair (.int .i64) .str) 0 d.2.2.2.1.2.1]⟩])) noS))]) (xw []) 42 3 (ltab [(4, X4)]) (mkG sh99_1_l4 [0, 3] (outT [(.exit 0, [0])]) (fun d K => l4 d.2.1.2.2.2.1 d.2.1.2.2.2.2.1 d.2.1.2.2.2.2.2.1 d.2.2.2.1.2.1 (fun (y3 : List ByteArray) => K (.exit 0) [.tv (.lf (.ptr 0 0))] [some ⟨false, [.full 1, .full 2, .int .i64 d.2.1.2.2.2.1, .bool d.2.1.2.2.2.2.1, .int .i64 d.2.1.2.2.2.2.2.1]⟩, some ⟨false, [.seq .str 0 y3]⟩, some ⟨d.2.2.2.1.1, [.seq (.pair (.int .i64) .str) 0 d.2.2.2.1.2.1]⟩]) k d.1.2.1 d.2.2.1.2.1) []) b99_0 (encT sh99_1_l4.vs d.1) (encH sh99_1_l4.h d.2) K := by kernel_rfl
theorem L99_1_4 (F : Nat) : LoopOK Tryd.prog (T99_1 F) (xw []) 42 3 (LT99_1 F) (G99_1_4 F F) b99_0 :=
  loopOK_of (s := sh99_1_l4) (live := [0, 3]) (out := (outT [(.exit 0, [0])])) (mv := []) (fun k d K => f99_1_l4 F d.2.1.2.2.2.1 d.2.1.2.2.2.2.1 d.2.1.2.2.2.2.2.1 d.2.2.2.1.2.1 (fun (y3 : List ByteArray) => K (.exit 0) [.tv (.lf (.ptr 0 0))] [some ⟨false, [.full 1, .full 2, .int .i64 d.2.1.2.2.2.1, .bool d.2.1.2.2.2.2.1, .int .i64 d.2.1.2.2.2.2.2.1]⟩, some ⟨false, [.seq .str 0 y3]⟩, some ⟨d.2.2.2.1.1, [.seq (.pair (.int .i64) .str) 0 d.2.2.2.1.2.1]⟩]) k d.1.2.1 d.2.2.1.2.1) F (fun d K => by kernel_rfl)  (fun k d K => Eq.mp (by kernel_rfl) (L99_1_l4g F k (f100_1 F)  (f99_1_l4 F) (G99_1_4 F F) d K))
theorem E99_1g (F : Nat) (c100_1 : Int → Bool → Int → List ByteArray → List (Int × ByteArray) → (Bool → Int → Bool → Int → Option Res) → Option Res) (l4 : Int → Bool → Int → List (Int × ByteArray) → (List ByteArray → Option Res) → Nat → Int → List ByteArray → Option Res)  (d : sh99_1.den) (K : KF) : evBody Tryd.prog (tab [(100, (mkS sh100_1 (fun d K => c100_1 d.2.1.2.2.2.1 d.2.1.2.2.2.2.1 d.2.1.2.2.2.2.2.1 d.2.2.1.2.1 d.2.2.2.1.2.1 (fun (y0 : Bool) (y1 : Int) (y2 : Bool) (y3 : Int) => K [.lf (.bool y0)] [some ⟨false, [.full 1, .full 2, .int .i64 y1, .bool y2, .int .i64 y3]⟩, some ⟨d.2.2.1.1, [.seq .str 0 d.2.2.1.2.1]⟩, some ⟨d.2.2.2.1.1, [.seq (.pair (.int .i64) .str) 0 d.2.2.2.1.2.1]⟩])) noS))]) (xw []) 42 3 (ltab [(4, mkG sh99_1_l4 [0, 3] (outT [(.exit 0, [0])]) (fun d K => l4 d.2.1.2.2.2.1 d.2.1.2.2.2.2.1 d.2.1.2.2.2.2.2.1 d.2.2.2.1.2.1 (fun (y3 : List ByteArray) => K (.exit 0) [.tv (.lf (.ptr 0 0))] [some ⟨false, [.full 1, .full 2, .int .i64 d.2.1.2.2.2.1, .bool d.2.1.2.2.2.2.1, .int .i64 d.2.1.2.2.2.2.2.1]⟩, some ⟨false, [.seq .str 0 y3]⟩, some ⟨d.2.2.2.1.1, [.seq (.pair (.int .i64) .str) 0 d.2.2.2.1.2.1]⟩]) F d.1.2.1 d.2.2.1.2.1) [])]) code99 Tryd.f99.results.toList (encT sh99_1.vs d.1) (encH sh99_1.h d.2) K = (fun (a1 : Int) (a2 : Bool) (a3 : Int) (a4 : List ByteArray) (a5 : List (Int × ByteArray)) (K0 : (Int → Bool → Int → Option Res)) (K1 : (Int → Bool → Int → List ByteArray → List (Int × ByteArray) → Option Res)) => cond a2 (K0 a1 a2 a3) (c100_1 a1 a2 a3 a4 a5 (fun x1 x2 x3 x4 => cond (!x1) (K0 x2 x3 x4) (l4 x2 x3 x4 a5 (fun x11 => K1 x2 x3 x4 x11 []) F 0 a4)) )) d.2.1.2.2.2.1 d.2.1.2.2.2.2.1 d.2.1.2.2.2.2.2.1 d.2.2.1.2.1 d.2.2.2.1.2.1 (fun (y1 : Int) (y2 : Bool) (y3 : Int) => K [.lf (.int .i64 5)] [some ⟨false, [.full 1, .full 2, .int .i64 y1, .bool y2, .int .i64 y3]⟩, some ⟨false, [.seq .str 0 d.2.2.1.2.1]⟩, some ⟨d.2.2.2.1.1, [.seq (.pair (.int .i64) .str) 0 d.2.2.2.1.2.1]⟩]) (fun (y1 : Int) (y2 : Bool) (y3 : Int) (y4 : List ByteArray) (y6 : List (Int × ByteArray)) => K [.lf (.int .i64 0)] [some ⟨false, [.full 1, .full 3, .int .i64 y1, .bool y2, .int .i64 y3]⟩, some ⟨false, [.seq .str 0 y4]⟩, some ⟨d.2.2.2.1.1, [.seq (.pair (.int .i64) .str) 0 d.2.2.2.1.2.1]⟩, some ⟨false, [.seq (.pair (.int .i64) .str) 0 y6]⟩]) := by kernel_rfl
theorem E99_1 (F : Nat) (d : sh99_1.den) (K : KF) : evBody Tryd.prog (T99_1 F) (xw []) 42 3 (LT99_1 F) code99 Tryd.f99.results.toList (encT sh99_1.vs d.1) (encH sh99_1.h d.2) K = f99_1 F d.2.1.2.2.2.1 d.2.1.2.2.2.2.1 d.2.1.2.2.2.2.2.1 d.2.2.1.2.1 d.2.2.2.1.2.1 (fun (y1 : Int) (y2 : Bool) (y3 : Int) => K [.lf (.int .i64 5)] [some ⟨false, [.full 1, .full 2, .int .i64 y1, .bool y2, .int .i64 y3]⟩, some ⟨false, [.seq .str 0 d.2.2.1.2.1]⟩, some ⟨d.2.2.2.1.1, [.seq (.pair (.int .i64) .str) 0 d.2.2.2.1.2.1]⟩]) (fun (y1 : Int) (y2 : Bool) (y3 : Int) (y4 : List ByteArray) (y6 : List (Int × ByteArray)) => K [.lf (.int .i64 0)] [some ⟨false, [.full 1, .full 3, .int .i64 y1, .bool y2, .int .i64 y3]⟩, some ⟨false, [.seq .str 0 y4]⟩, some ⟨d.2.2.2.1.1, [.seq (.pair (.int .i64) .str) 0 d.2.2.2.1.2.1]⟩, some ⟨false, [.seq (.pair (.int .i64) .str) 0 y6]⟩]) := Eq.mp (by kernel_rfl) (E99_1g F (f100_1 F) (f99_1_l4 F)  d K)
theorem S99_1_ok (F : Nat) (o : Summ) (ho : SoundFn Tryd.prog 99 o) : SoundFn Tryd.prog 99 (S99_1 F o) :=
  soundFn_of (fn := Tryd.f99) (c := code99) rfl rfl (by kernel_rfl) (tab_cons (S100_1_ok F _ (noS_sound enter100)) tab_nil) (by kernel_rfl) (by kernel_rfl) ho (by rw [loops99]; exact (loopsOK_cons (by kernel_rfl) (L99_1_4 F) loopsOK_nil)) (by rw [scopes99]; exact scopesOK_nil) (by rw [ranges99]; exact rangesOK_nil) (E99_1 F)
end Go.Proofs.YtillbabmlfjegaaDoor.X
end

section
/- Numbers of a fixed width: what wrapping and the bits' operations come to where nothing is lost. -/
namespace Go.Proofs.YtillbabmlfjegaaDoor.X
open Go Go.Proofs.YtillbabmlfjegaaDoor.Ev
set_option linter.unusedSectionVars false
variable [FZ]
set_option linter.unusedVariables false
set_option linter.unusedSimpArgs false

theorem w64 {x : Int} (h : -9223372036854775808 ≤ x) (h' : x ≤ 9223372036854775807) : IntKind.i64.wrap x = x := by
  simp only [IntKind.wrap, IntKind.bits, IntKind.signed, Bool.true_and]
  split <;> (rename_i hq; simp at hq; omega)

theorem wu64 {x : Int} (h : 0 ≤ x) (h' : x < 18446744073709551616) : IntKind.u64.wrap x = x := by
  simp only [IntKind.wrap, IntKind.bits, IntKind.signed, Bool.false_and]
  simp; omega

theorem wu32 {x : Int} (h : 0 ≤ x) (h' : x < 4294967296) : IntKind.u32.wrap x = x := by
  simp only [IntKind.wrap, IntKind.bits, IntKind.signed, Bool.false_and]
  simp; omega

theorem wu8 {x : Int} (h : 0 ≤ x) (h' : x < 256) : IntKind.u8.wrap x = x := by
  simp only [IntKind.wrap, IntKind.bits, IntKind.signed, Bool.false_and]
  simp; omega

theorem wu64m (x : Int) : IntKind.u64.wrap x = x % 18446744073709551616 := by
  simp only [IntKind.wrap, IntKind.bits, IntKind.signed, Bool.false_and]
  simp
theorem wu32m (x : Int) : IntKind.u32.wrap x = x % 4294967296 := by
  simp only [IntKind.wrap, IntKind.bits, IntKind.signed, Bool.false_and]
  simp
theorem wu8m (x : Int) : IntKind.u8.wrap x = x % 256 := by
  simp only [IntKind.wrap, IntKind.bits, IntKind.signed, Bool.false_and]
  simp

theorem i64_of_wf {n : Int} (h : (Lit.int .i64 n).wf = true) : -9223372036854775808 ≤ n ∧ n ≤ 9223372036854775807 := by
  simp [Lit.wf, IntKind.min, IntKind.max, IntKind.bits, IntKind.signed] at h; omega
theorem u64_of_wf {n : Int} (h : (Lit.int .u64 n).wf = true) : 0 ≤ n ∧ n < 18446744073709551616 := by
  simp [Lit.wf, IntKind.min, IntKind.max, IntKind.bits, IntKind.signed] at h; omega
theorem u8_of_wf {n : Int} (h : (Lit.int .u8 n).wf = true) : 0 ≤ n ∧ n < 256 := by
  simp [Lit.wf, IntKind.min, IntKind.max, IntKind.bits, IntKind.signed] at h; omega
theorem u32_of_wf {n : Int} (h : (Lit.int .u32 n).wf = true) : 0 ≤ n ∧ n < 4294967296 := by
  simp [Lit.wf, IntKind.min, IntKind.max, IntKind.bits, IntKind.signed] at h; omega

theorem or64 {A B : Nat} (hA : A < 2 ^ 64) (hB : B < 2 ^ 64) : ior .u64 (A : Int) (B : Int) = ((A ||| B : Nat) : Int) := by
  have h : (BitVec.ofInt 64 (A : Int) ||| BitVec.ofInt 64 (B : Int)).toNat = A ||| B := by
    simp [BitVec.toNat_or, BitVec.ofInt_natCast, BitVec.toNat_ofNat, Nat.mod_eq_of_lt hA, Nat.mod_eq_of_lt hB]
  have hl := Nat.or_lt_two_pow hA hB
  show IntKind.u64.wrap ((BitVec.ofInt 64 (A : Int) ||| BitVec.ofInt 64 (B : Int)).toNat : Int) = _
  rw [h, wu64 (by omega) (by omega)]
theorem and64 {A B : Nat} (hA : A < 2 ^ 64) (hB : B < 2 ^ 64) : iand .u64 (A : Int) (B : Int) = ((A &&& B : Nat) : Int) := by
  have h : (BitVec.ofInt 64 (A : Int) &&& BitVec.ofInt 64 (B : Int)).toNat = A &&& B := by
    simp [BitVec.toNat_and, BitVec.ofInt_natCast, BitVec.toNat_ofNat, Nat.mod_eq_of_lt hA, Nat.mod_eq_of_lt hB]
  have hl : A &&& B < 2 ^ 64 := Nat.and_lt_two_pow A hB
  show IntKind.u64.wrap ((BitVec.ofInt 64 (A : Int) &&& BitVec.ofInt 64 (B : Int)).toNat : Int) = _
  rw [h, wu64 (by omega) (by omega)]
theorem shl64 {i : Nat} (hi : i < 64) : ishl .u64 1 (i : Int) = ((2 ^ i : Nat) : Int) := by
  have h2 : (2 : Nat) ^ i < 2 ^ 64 := Nat.pow_lt_pow_right (by omega) hi
  have : (1 : Int) * 2 ^ (min i 64) = ((2 ^ i : Nat) : Int) := by
    rw [Nat.min_eq_left (by omega), Int.one_mul]; push_cast; rfl
  simp only [ishl, IntKind.bits, Int.toNat_natCast]
  rw [this, wu64 (Int.natCast_nonneg _) (Int.ofNat_lt.2 h2)]
theorem shr64 {A i : Nat} (hi : i < 64) : ishr .u64 (A : Int) (i : Int) = ((A >>> i : Nat) : Int) := by
  have : ((2 : Int) ^ i) = ((2 ^ i : Nat) : Int) := by push_cast; rfl
  simp only [ishr, IntKind.bits, Int.toNat_natCast]
  rw [Nat.min_eq_left (by omega), Int.fdiv_eq_ediv_of_nonneg _ (by rw [this]; exact Int.natCast_nonneg _), this, Nat.shiftRight_eq_div_pow]
  push_cast; rfl

/-- The number with given bits, below n. -/
def mk (f : Nat → Bool) : Nat → Nat
  | 0 => 0
  | n + 1 => if f n then mk f n ||| 2 ^ n else mk f n

theorem mk_lt (f : Nat → Bool) : ∀ n, mk f n < 2 ^ n
  | 0 => by simp [mk]
  | n + 1 => by
    have := mk_lt f n
    have h2 : (2 : Nat) ^ n < 2 ^ (n + 1) := Nat.pow_lt_pow_right (by omega) (by omega)
    simp only [mk]
    split
    · exact Nat.or_lt_two_pow (by omega) h2
    · omega

theorem mk_bit (f : Nat → Bool) : ∀ n j, (mk f n).testBit j = (decide (j < n) && f j)
  | 0, j => by simp [mk]
  | n + 1, j => by
    simp only [mk]
    split
    · rename_i h
      rw [Nat.testBit_or, mk_bit f n, Nat.testBit_two_pow]
      by_cases hj : j = n
      · subst hj; simp [h]
      · have h1 : decide (j < n) = decide (j < n + 1) := decide_eq_decide.2 (by omega)
        simp [Ne.symm hj, h1]
    · rename_i h
      rw [mk_bit f n]
      by_cases hj : j = n
      · subst hj; simp at h; simp [h]
      · have h1 : decide (j < n) = decide (j < n + 1) := decide_eq_decide.2 (by omega)
        rw [h1]

theorem mk_eq {A n : Nat} {f : Nat → Bool} (hA : A < 2 ^ n) (h : ∀ j, j < n → f j = A.testBit j) : mk f n = A := by
  apply Nat.eq_of_testBit_eq
  intro j
  rw [mk_bit]
  by_cases hj : j < n
  · simp [hj, h j hj]
  · simp [hj]
    exact Nat.testBit_lt_two_pow (Nat.lt_of_lt_of_le hA (Nat.pow_le_pow_right (by omega) (by omega)))

theorem bit_test {A i : Nat} : ((A >>> i &&& 1 : Nat) == 1) = A.testBit i := by
  simp [Nat.testBit, Nat.and_comm]

theorem natbeq {a b : Nat} : (((a : Int) == ((b : Nat) : Int)) : Bool) = (a == b) := by
  rw [Bool.eq_iff_iff]; simp; omega

theorem tdiv_nn {a b : Nat} : ((a : Int).tdiv (b : Int)) = ((a / b : Nat) : Int) := by
  rw [Int.tdiv_eq_ediv_of_nonneg (by omega)]; rfl
theorem tmod_nn {a b : Nat} : ((a : Int).tmod (b : Int)) = ((a % b : Nat) : Int) := by
  rw [Int.tmod_eq_emod_of_nonneg (by omega)]; rfl

theorem lbeq_refl (k : EK) (hr : ∀ x : k.den, k.beq x x = true) : ∀ l : List k.den, lbeq k l l = true
  | [] => rfl
  | x :: r => by simp [lbeq, hr x, lbeq_refl k hr r]
theorem lbeq_int (k : IntKind) (l : List Int) : lbeq (.int k) l l = true := lbeq_refl (.int k) (fun x => by simp [EK.beq]) l
theorem lbeq_int_iff (k : IntKind) : ∀ (l r : List Int), lbeq (.int k) l r = true ↔ l = r
  | [], [] => by simp [lbeq]
  | [], _ :: _ => by simp [lbeq]
  | _ :: _, [] => by simp [lbeq]
  | x :: l, y :: r => by simp [lbeq, EK.beq, lbeq_int_iff k l r]

theorem ct {α : Sort _} {p : Prop} [Decidable p] {a b : α} (h : p) : cond (decide p) a b = a := by simp [h]
theorem cf {α : Sort _} {p : Prop} [Decidable p] {a b : α} (h : ¬ p) : cond (decide p) a b = b := by simp [h]

end Go.Proofs.YtillbabmlfjegaaDoor.X
end

section
/- A disk: what each act of the program's and of the document's comes to, in one form. -/
namespace Go.Proofs.YtillbabmlfjegaaDoor.X
open Go Go.Proofs.YtillbabmlfjegaaDoor.Ev
set_option linter.unusedSectionVars false
variable [FZ]
set_option linter.unusedVariables false
set_option linter.unusedSimpArgs false

abbrev WL := List (Int × ByteArray)

/-- What is so of a disk of n sectors, behind at most k acts. -/
structure DS (n k : Nat) (a c : Int) (l : List ByteArray) (w : WL) : Prop where
  n40 : n ≤ 2000
  k300 : k ≤ 300
  len : l.length = n
  wl : w.length ≤ k
  wb : ∀ p ∈ w, 0 ≤ p.1 ∧ p.1 < n
  ar : -1 ≤ a ∧ a ≤ 9223372036854775807
  cr : 0 ≤ c ∧ c ≤ k

theorem getD_of_drop {α : Type} {l r : List α} {i : Nat} {x d : α} (h : l.drop i = x :: r) : i < l.length ∧ l.getD (0 + (i : Int).toNat) d = x ∧ l.drop (i + 1) = r := by
  have h1 : i < l.length := by
    rcases Nat.lt_or_ge i l.length with h1 | h1
    · exact h1
    · rw [List.drop_eq_nil_of_le h1] at h; cases h
  rw [List.drop_eq_getElem_cons h1] at h
  injection h with h2 h3
  refine ⟨h1, ?_, h3⟩
  simp [h1, h2]

theorem getD_out {α : Type} {l : List α} {i : Nat} {d : α} (h : l.length ≤ i) : l.getD i d = d := by simp [List.getD_eq_getElem?_getD, List.getElem?_eq_none h]

theorem len_of_drop_nil {α : Type} {l : List α} {i : Nat} (h : l.drop i = []) (hi : i ≤ l.length) : i = l.length := by
  have := congrArg List.length h
  simp at this; omega

/-! ### A sector as it is flushed; as it was written last -/

def kp (x : Int) (l : List ByteArray) : ByteArray × Int := if 0 ≤ x ∧ x < (l.length : Int) then (l.getD x.toNat ByteArray.empty, 0) else (ByteArray.empty, 3)

theorem keptP {β : Type} {F : Nat} {x a c : Int} {b : Bool} {l : List ByteArray} {w : WL} {K : ByteArray → Int → Option β} : f30_1 F x a b c l w K = K (kp x l).1 (kp x l).2 := by
  rw [f30_1, f65_1, kp]
  by_cases h1 : 0 ≤ x
  · rw [ct (by omega)]
    by_cases h2 : x < (l.length : Int)
    · rw [if_pos ⟨h1, h2⟩, decide_eq_true h2, Bool.not_true, cond_false, ct ⟨h1, h2⟩, ct (by omega), Nat.zero_add]
    · rw [if_neg (by omega), decide_eq_false h2, Bool.not_false, cond_true]
  · rw [cf (by omega), if_neg (by omega), Bool.not_false, cond_true]

theorem keptR {β : Type} {F : Nat} {x a c : Int} {b : Bool} {l : List ByteArray} {w : WL} {K : ByteArray → Int → Option β} : f31_1 F x a b c l w K = K (kp x l).1 (kp x l).2 := by
  rw [f31_1, kp]
  by_cases h1 : 0 ≤ x
  · rw [cf (by omega)]
    by_cases h2 : x < (l.length : Int)
    · rw [if_pos ⟨h1, h2⟩, cf (by omega), ct ⟨h1, h2⟩, ct (by omega), Nat.zero_add]
    · rw [if_neg (by omega), ct (by omega)]
  · rw [ct (by omega), if_neg (by omega)]

/-- What was written last to a sector, in place of s. -/
def last (x : Int) (s : ByteArray) (w : WL) : ByteArray := w.foldl (fun s p => if p.1 = x then p.2 else s) s

def rd (x : Int) (b : Bool) (l : List ByteArray) (w : WL) : ByteArray × Int :=
  if b then (ByteArray.empty, 5) else (if 0 ≤ x ∧ x < (l.length : Int) then last x (l.getD x.toNat ByteArray.empty) w else ByteArray.empty, (kp x l).2)

theorem readRl {β : Type} {F : Nat} {x a c : Int} {b : Bool} {l : List ByteArray} {w : WL} {K : ByteArray → Option β} (hw : w.length ≤ 300) : ∀ (r : WL) (i k : Nat) (s : ByteArray), w.drop i = r → i ≤ w.length → r.length < k →
    f119_1_l5 F x 0 a b c l w K k s (i : Int) = K (last x s r)
  | [], i, 0, s, _, _, hk => by simp at hk
  | _ :: _, i, 0, s, _, _, hk => by simp at hk
  | [], i, k + 1, s, hd, hi, _ => by
    have := len_of_drop_nil hd hi
    rw [f119_1_l5, cf (by omega)]; rfl
  | p :: r, i, k + 1, s, hd, hi, hk => by
    obtain ⟨h1, h2, h3⟩ := getD_of_drop (d := ((0, ByteArray.empty) : Int × ByteArray)) hd
    rw [f119_1_l5, ct (by omega), show ((0 : Int) == 0) = true from rfl, cond_true, ct (by omega), ct (by omega), h2, w64 (by omega) (by omega), ct (by omega), ct (by omega)]
    have ih := fun s => readRl (F := F) (x := x) (a := a) (b := b) (c := c) (l := l) (K := K) hw r (i + 1) k s h3 (by omega) (by simp at hk; omega)
    push_cast at ih
    by_cases hx : p.1 = x
    · rw [show (p.1 == x) = true from by simp [hx], cond_true, ih, last, last, List.foldl_cons, if_pos hx]
    · rw [show (p.1 == x) = false from by simp [hx], cond_false, ih, last, last, List.foldl_cons, if_neg hx]

theorem readRl3 {β : Type} {F : Nat} {x a c : Int} {b : Bool} {l : List ByteArray} {w : WL} {s : ByteArray} {K : ByteArray → Option β} {k : Nat} : f119_1_l5 F x 3 a b c l w K (k + 1) s 0 = K s := by
  rw [f119_1_l5]
  by_cases h : (0 : Int) < ((w.length : Nat) : Int)
  · rw [ct h]; rfl
  · rw [cf h]

theorem readR {β : Type} {F n k : Nat} (hF : 400 ≤ F) {x a c : Int} {b : Bool} {l : List ByteArray} {w : WL} (h : DS n k a c l w) {K : ByteArray → Int → Option β} : f119_1 F x a b c l w K = K (rd x b l w).1 (rd x b l w).2 := by
  have hk := h.k300; have hwl := h.wl
  rw [f119_1]
  cases b with
  | true => rfl
  | false =>
    rw [cond_false, keptR, rd, if_neg (by simp), kp]
    by_cases hx : 0 ≤ x ∧ x < (l.length : Int)
    · rw [if_pos hx, if_pos hx]
      exact readRl (by omega) w 0 F _ rfl (by omega) (by omega)
    · rw [if_neg hx, if_neg hx]
      obtain ⟨F', rfl⟩ : ∃ F', F = F' + 1 := ⟨F - 1, by omega⟩
      exact readRl3

/-- The last write to a sector. -/
def lastW (x : Int) : WL → Option ByteArray
  | [] => none
  | p :: r => match lastW x r with
    | some s => some s
    | none => if p.1 = x then some p.2 else none

theorem last_eq (x : Int) : ∀ (w : WL) (s : ByteArray), last x s w = (match lastW x w with | some t => t | none => s)
  | [], s => rfl
  | p :: r, s => by
    rw [last, List.foldl_cons, ← last, last_eq x r, lastW]
    cases lastW x r with
    | some t => rfl
    | none =>
      by_cases hp : p.1 = x
      · simp [hp]
      · simp [hp]

theorem lastW_app (x : Int) (p : Int × ByteArray) : ∀ w : WL, lastW x (w ++ [p]) = if p.1 = x then some p.2 else lastW x w
  | [] => by simp [lastW]
  | q :: r => by
    rw [List.cons_append, lastW, lastW_app x p r, lastW]
    by_cases hp : p.1 = x
    · simp [hp]
    · simp [hp]

theorem readPl {β : Type} {F : Nat} {x a c z : Int} {b : Bool} {l : List ByteArray} {w : WL} {s : ByteArray} {K0 : ByteArray → Int → ByteArray → Option β} {K1 : Option β} (hw : w.length ≤ 300) : ∀ (i k : Nat), i ≤ w.length → i < k →
    f72_1_r2000006_l1 F a b c l w x s z K0 K1 k ((i : Int) - 1) = (match lastW x (w.take i) with | some t => K0 t x t | none => K1)
  | _, 0, _, h => by omega
  | 0, k + 1, _, _ => by
    rw [f72_1_r2000006_l1, cf (by omega)]; rfl
  | i + 1, k + 1, hi, hk => by
    have h1 : i < w.length := by omega
    have e1 : (((i + 1 : Nat) : Int) - 1) = (i : Int) := by omega
    rw [e1, f72_1_r2000006_l1, ct (by omega), ct (by omega), ct (by omega), w64 (by omega) (by omega), readPl hw i k (by omega) (by omega)]
    have hg : w.getD (0 + (i : Int).toNat) ((0, ByteArray.empty) : Int × ByteArray) = w[i] := by simp [h1]
    rw [hg, List.take_succ_eq_append_getElem h1, lastW_app]
    by_cases hp : w[i].1 = x
    · rw [if_pos hp, show (w[i].1 == x) = true from by simp [hp], cond_true, hp]
    · rw [if_neg hp, show (w[i].1 == x) = false from by simp [hp], cond_false]

theorem lastW_none {x : Int} : ∀ {w : WL}, (∀ p ∈ w, p.1 ≠ x) → lastW x w = none
  | [], _ => rfl
  | p :: r, h => by rw [lastW, lastW_none (fun q hq => h q (by simp [hq]))]; simp [h p (by simp)]

theorem readP {β : Type} {F n k : Nat} (hF : 400 ≤ F) {x a c : Int} {b : Bool} {l : List ByteArray} {w : WL} (h : DS n k a c l w) {K : ByteArray → Int → Option β} : f72_1 F x a b c l w K = K (rd x b l w).1 (rd x b l w).2 := by
  have hk := h.k300; have hwl := h.wl
  rw [f72_1]
  cases b with
  | true => rfl
  | false =>
    rw [cond_false, f104_1, f72_1_r2000006, w64 (by omega) (by omega), readPl (by omega) w.length F (Nat.le_refl _) (by omega), List.take_length, rd, if_neg (by simp)]
    by_cases hx : 0 ≤ x ∧ x < (l.length : Int)
    · rw [if_pos hx, last_eq]
      cases hq : lastW x w with
      | none => simp only [keptP]; rw [kp, if_pos hx]
      | some t => simp only [kp, if_pos hx]
    · rw [if_neg hx, lastW_none (fun p hp he => hx (by have := h.wb p hp; have := h.len; omega))]
      simp only [keptP]; rw [kp, if_neg hx]

/-! ### A write -/

def dec (a : Int) : Int := if a = -1 then a else a - 1

/-- What a write is handed on as. -/
def wrB {β : Type} (x : Int) (t : ByteArray) (a : Int) (b : Bool) (c : Int) (l : List ByteArray) (w : WL) (K0 : Int → Int → Bool → Int → Option β) (K1 : Int → Bool → Int → WL → Option β) : Option β :=
  if b then K0 5 a b c else if ¬ (0 ≤ x ∧ x < (l.length : Int)) then K0 3 a b c else if t.size ≠ 64 then K0 4 a b c else if a = 0 then K0 5 (-1) true c else K1 (dec a) b (c + 1) (w ++ [(x, t)])

theorem writeP {β : Type} {F n k : Nat} {x a c : Int} {t : ByteArray} {b : Bool} {l : List ByteArray} {w : WL} (h : DS n k a c l w) {K0 : Int → Int → Bool → Int → Option β} {K1 : Int → Bool → Int → WL → Option β} :
    f55_1 F x t a b c l w K0 K1 = wrB x t a b c l w K0 K1 := by
  have hk := h.k300; have hwl := h.wl; have ha := h.ar; have hc := h.cr
  rw [f55_1, wrB]
  cases b with
  | true => rfl
  | false =>
    rw [cond_false, if_neg (by simp), f65_1, f43_1, f96_1]
    by_cases h1 : 0 ≤ x
    · rw [ct (by omega)]
      by_cases h2 : x < (l.length : Int)
      · rw [if_neg (by simp [h1, h2]), decide_eq_true h2, Bool.not_true, cond_false]
        by_cases h3 : t.size = 64
        · rw [if_neg (by simp [h3]), show ((t.size : Int) == 64) = true from by simp [h3], Bool.not_true, cond_false]
          by_cases h4 : a = 0
          · subst h4; rfl
          · rw [if_neg h4, show (a == 0) = false from by simp [h4], cond_false, dec]
            by_cases h5 : a = -1
            · rw [if_pos h5, show (a == -1) = true from by simp [h5], cond_true, cond_false, ct (by omega), w64 (by omega) (by omega)]
            · rw [if_neg h5, show (a == -1) = false from by simp [h5], cond_false, cond_false, ct (by omega), w64 (x := a - 1) (by omega) (by omega), w64 (by omega) (by omega)]
        · rw [if_pos (by simpa using h3), show ((t.size : Int) == 64) = false from by simp; omega]; rfl
      · rw [if_pos (by omega), decide_eq_false h2]; rfl
    · rw [cf (by omega), if_pos (by omega)]; rfl

theorem writeR {β : Type} {F n k : Nat} {x a c : Int} {t : ByteArray} {b : Bool} {l : List ByteArray} {w : WL} (h : DS n k a c l w) {K0 : Int → Int → Bool → Int → Option β} {K1 : Int → Bool → Int → WL → Option β} :
    f61_1 F x t a b c l w K0 K1 = wrB x t a b c l w K0 K1 := by
  have hk := h.k300; have hwl := h.wl; have ha := h.ar; have hc := h.cr
  rw [f61_1, wrB]
  cases b with
  | true => rfl
  | false =>
    rw [cond_false, if_neg (by simp), f45_1, f100_1]
    by_cases h1 : 0 ≤ x
    · rw [cf (by omega)]
      by_cases h2 : x < (l.length : Int)
      · rw [if_neg (by simp [h1, h2]), cf (by omega)]
        by_cases h3 : t.size = 64
        · rw [if_neg (by simp [h3]), show ((t.size : Int) == 64) = true from by simp [h3], Bool.not_true, cond_false]
          by_cases h4 : a = 0
          · subst h4; rfl
          · rw [if_neg h4, show (a == 0) = false from by simp [h4], cond_false, dec]
            by_cases h5 : a = -1
            · rw [if_pos h5, cf (by omega), cond_false, ct (by omega), w64 (by omega) (by omega)]
            · rw [if_neg h5, ct (by omega), cond_false, ct (by omega), w64 (x := a - 1) (by omega) (by omega), w64 (by omega) (by omega)]
        · rw [if_pos (by simpa using h3), show ((t.size : Int) == 64) = false from by simp; omega]; rfl
      · rw [if_pos (by omega), ct (by omega)]
    · rw [ct (by omega), if_pos (by omega)]

/-! ### A flush, a crash -/

def put1 (l : List ByteArray) (p : Int × ByteArray) : List ByteArray := l.set p.1.toNat p.2
theorem put1_len (l : List ByteArray) (p : Int × ByteArray) : (put1 l p).length = l.length := by simp [put1]
theorem puts_len : ∀ (w : WL) (l : List ByteArray), (w.foldl put1 l).length = l.length
  | [], l => rfl
  | p :: r, l => by rw [List.foldl_cons, puts_len r, put1_len]

theorem flushPl {β : Type} {F n : Nat} {a c : Int} {b : Bool} {w : WL} {K : List ByteArray → Option β} (hw : w.length ≤ 300) (hb : ∀ p ∈ w, 0 ≤ p.1 ∧ p.1 < (n : Int)) : ∀ (r : WL) (i k : Nat) (l : List ByteArray), w.drop i = r → i ≤ w.length → r.length < k → l.length = n →
    f56_1_l6 F ((w.length : Nat) : Int) a b c w K k (i : Int) l = K (r.foldl put1 l)
  | [], i, 0, s, _, _, hk, _ => by simp at hk
  | _ :: _, i, 0, s, _, _, hk, _ => by simp at hk
  | [], i, k + 1, s, hd, hi, _, _ => by
    have := len_of_drop_nil hd hi
    rw [f56_1_l6, cf (by omega)]; rfl
  | p :: r, i, k + 1, l, hd, hi, hk, hl => by
    obtain ⟨h1, h2, h3⟩ := getD_of_drop (d := ((0, ByteArray.empty) : Int × ByteArray)) hd
    have hp := hb p (List.mem_of_mem_drop (by rw [hd]; simp))
    rw [f56_1_l6, ct (by omega), ct (by omega), ct (by omega), h2, ct (by omega), ct (by omega), w64 (by omega) (by omega), Nat.zero_add, List.foldl_cons]
    exact flushPl hw hb r (i + 1) k (put1 l p) h3 (by omega) (by simp at hk; omega) (by rw [put1_len]; exact hl)

theorem flushRl {β : Type} {F n : Nat} {a c : Int} {b : Bool} {w : WL} {K : List ByteArray → Option β} (hw : w.length ≤ 300) (hb : ∀ p ∈ w, 0 ≤ p.1 ∧ p.1 < (n : Int)) : ∀ (r : WL) (i k : Nat) (l : List ByteArray), w.drop i = r → i ≤ w.length → r.length < k → l.length = n →
    f99_1_l4 F a b c w K k (i : Int) l = K (r.foldl put1 l)
  | [], i, 0, s, _, _, hk, _ => by simp at hk
  | _ :: _, i, 0, s, _, _, hk, _ => by simp at hk
  | [], i, k + 1, s, hd, hi, _, _ => by
    have := len_of_drop_nil hd hi
    rw [f99_1_l4, cf (by omega)]; rfl
  | p :: r, i, k + 1, l, hd, hi, hk, hl => by
    obtain ⟨h1, h2, h3⟩ := getD_of_drop (d := ((0, ByteArray.empty) : Int × ByteArray)) hd
    have hp := hb p (List.mem_of_mem_drop (by rw [hd]; simp))
    rw [f99_1_l4, ct (by omega), ct (by omega), ct (by omega), h2, ct (by omega), ct (by omega), w64 (by omega) (by omega), Nat.zero_add, List.foldl_cons]
    exact flushRl hw hb r (i + 1) k (put1 l p) h3 (by omega) (by simp at hk; omega) (by rw [put1_len]; exact hl)

def flB {β : Type} (a : Int) (b : Bool) (c : Int) (l : List ByteArray) (w : WL) (K0 : Int → Bool → Int → Option β) (K1 : Int → Bool → Int → List ByteArray → WL → Option β) : Option β :=
  if b then K0 a b c else if a = 0 then K0 (-1) true c else K1 (dec a) b (c + 1) (w.foldl put1 l) []

theorem flushP {β : Type} {F n k : Nat} (hF : 400 ≤ F) {a c : Int} {b : Bool} {l : List ByteArray} {w : WL} (h : DS n k a c l w) {K0 : Int → Bool → Int → Option β} {K1 : Int → Bool → Int → List ByteArray → WL → Option β} :
    f56_1 F a b c l w K0 K1 = flB a b c l w K0 K1 := by
  have hk := h.k300; have hwl := h.wl; have ha := h.ar; have hc := h.cr
  rw [f56_1, flB, f96_1]
  cases b with
  | true => rfl
  | false =>
    rw [cond_false, if_neg (by simp)]
    by_cases h4 : a = 0
    · subst h4; rfl
    · rw [if_neg h4, show (a == 0) = false from by simp [h4], cond_false, dec]
      by_cases h5 : a = -1
      · rw [if_pos h5, show (a == -1) = true from by simp [h5], cond_true, Bool.not_true, cond_false, w64 (by omega) (by omega)]
        exact flushPl (by omega) h.wb w 0 F l rfl (by omega) (by omega) h.len
      · rw [if_neg h5, show (a == -1) = false from by simp [h5], cond_false, Bool.not_true, cond_false, w64 (x := a - 1) (by omega) (by omega), w64 (by omega) (by omega)]
        exact flushPl (by omega) h.wb w 0 F l rfl (by omega) (by omega) h.len

theorem flushR {β : Type} {F n k : Nat} (hF : 400 ≤ F) {a c : Int} {b : Bool} {l : List ByteArray} {w : WL} (h : DS n k a c l w) {K0 : Int → Bool → Int → Option β} {K1 : Int → Bool → Int → List ByteArray → WL → Option β} :
    f99_1 F a b c l w K0 K1 = flB a b c l w K0 K1 := by
  have hk := h.k300; have hwl := h.wl; have ha := h.ar; have hc := h.cr
  rw [f99_1, flB, f100_1]
  cases b with
  | true => rfl
  | false =>
    rw [cond_false, if_neg (by simp)]
    by_cases h4 : a = 0
    · subst h4; rfl
    · rw [if_neg h4, show (a == 0) = false from by simp [h4], cond_false, dec]
      by_cases h5 : a = -1
      · rw [if_pos h5, cf (by omega), Bool.not_true, cond_false, w64 (by omega) (by omega)]
        exact flushRl (by omega) h.wb w 0 F l rfl (by omega) (by omega) h.len
      · rw [if_neg h5, ct (by omega), Bool.not_true, cond_false, w64 (x := a - 1) (by omega) (by omega), w64 (by omega) (by omega)]
        exact flushRl (by omega) h.wb w 0 F l rfl (by omega) (by omega) h.len

section
variable {n k : Nat} {a c : Int} {l : List ByteArray} {w : WL}
theorem DS.more (h : DS n k a c l w) (hk : k < 300) : DS n (k + 1) a c l w := ⟨h.n40, by omega, h.len, by have := h.wl; omega, h.wb, h.ar, by have := h.cr; omega⟩
theorem DS.off (h : DS n k a c l w) (hk : k < 300) : DS n (k + 1) (-1) c l w := ⟨h.n40, by omega, h.len, by have := h.wl; omega, h.wb, by omega, by have := h.cr; omega⟩
theorem DS.fuse (h : DS n k a c l w) (hk : k < 300) {x : Int} (hx : x ≤ 9223372036854775807) : DS n (k + 1) (if (-1) > x then (-1) else x) c l w := ⟨h.n40, by omega, h.len, by have := h.wl; omega, h.wb, by split <;> omega, by have := h.cr; omega⟩
theorem DS.wrote (h : DS n k a c l w) (hk : k < 300) (h0 : a ≠ 0) {x : Int} {t : ByteArray} (hx : 0 ≤ x ∧ x < (l.length : Int)) : DS n (k + 1) (dec a) (c + 1) l (w ++ [(x, t)]) :=
  ⟨h.n40, by omega, h.len, by have := h.wl; simp; omega, fun p hp => by
    rcases List.mem_append.1 hp with hp | hp
    · exact h.wb p hp
    · simp at hp; subst hp; rw [← h.len]; exact hx, by have := h.ar; unfold dec; split <;> omega, by have := h.cr; omega⟩
theorem DS.flushed (h : DS n k a c l w) (hk : k < 300) (h0 : a ≠ 0) : DS n (k + 1) (dec a) (c + 1) (w.foldl put1 l) [] :=
  ⟨h.n40, by omega, by rw [puts_len]; exact h.len, by simp, fun p hp => (by cases hp), by have := h.ar; unfold dec; split <;> omega, by have := h.cr; omega⟩
end

/-! ### States -/

/-- What comes of a write, of a flush: an answer, and the state. -/
def wS (x : Int) (t : ByteArray) (a : Int) (b : Bool) (c : Int) (l : List ByteArray) (w : WL) : Int × Int × Bool × Int × WL :=
  if b then (5, a, b, c, w) else if ¬ (0 ≤ x ∧ x < (l.length : Int)) then (3, a, b, c, w) else if t.size ≠ 64 then (4, a, b, c, w) else if a = 0 then (5, -1, true, c, w) else (0, dec a, b, c + 1, w ++ [(x, t)])

theorem wrB_eq {β : Type} {x a c : Int} {t : ByteArray} {b : Bool} {l : List ByteArray} {w : WL} {K0 : Int → Int → Bool → Int → Option β} {K1 : Int → Bool → Int → WL → Option β} :
    wrB x t a b c l w K0 K1 = if (wS x t a b c l w).1 = 0 then K1 (wS x t a b c l w).2.1 (wS x t a b c l w).2.2.1 (wS x t a b c l w).2.2.2.1 (wS x t a b c l w).2.2.2.2 else K0 (wS x t a b c l w).1 (wS x t a b c l w).2.1 (wS x t a b c l w).2.2.1 (wS x t a b c l w).2.2.2.1 := by
  unfold wrB wS
  split
  · simp
  · split
    · simp
    · split
      · simp
      · split <;> simp

theorem wS_same {x a c : Int} {t : ByteArray} {b : Bool} {l : List ByteArray} {w : WL} (h : (wS x t a b c l w).1 ≠ 0) : (wS x t a b c l w).2.2.2.2 = w := by
  unfold wS at h ⊢
  split
  · rfl
  · split
    · rfl
    · split
      · rfl
      · split
        · rfl
        · rename_i h1 h2 h3 h4
          rw [if_neg h1, if_neg h2, if_neg h3, if_neg h4] at h
          exact (h rfl).elim

theorem wS_ok {n k : Nat} {x a c : Int} {t : ByteArray} {b : Bool} {l : List ByteArray} {w : WL} (h : DS n k a c l w) (hk : k < 300) : DS n (k + 1) (wS x t a b c l w).2.1 (wS x t a b c l w).2.2.2.1 l (wS x t a b c l w).2.2.2.2 := by
  unfold wS
  split
  · exact h.more hk
  · split
    · exact h.more hk
    · rename_i h2
      split
      · exact h.more hk
      · split
        · exact h.off hk
        · rename_i h4
          exact h.wrote hk h4 (Classical.not_not.1 h2)

def fS (a : Int) (b : Bool) (c : Int) (l : List ByteArray) (w : WL) : Int × Int × Bool × Int × List ByteArray × WL :=
  if b then (5, a, b, c, l, w) else if a = 0 then (5, -1, true, c, l, w) else (0, dec a, b, c + 1, w.foldl put1 l, [])

theorem flB_eq {β : Type} {a c : Int} {b : Bool} {l : List ByteArray} {w : WL} {K0 : Int → Bool → Int → Option β} {K1 : Int → Bool → Int → List ByteArray → WL → Option β} :
    flB a b c l w K0 K1 = if (fS a b c l w).1 = 0 then K1 (fS a b c l w).2.1 (fS a b c l w).2.2.1 (fS a b c l w).2.2.2.1 (fS a b c l w).2.2.2.2.1 (fS a b c l w).2.2.2.2.2 else K0 (fS a b c l w).2.1 (fS a b c l w).2.2.1 (fS a b c l w).2.2.2.1 := by
  unfold flB fS
  split
  · simp
  · split <;> simp

theorem fS_same {a c : Int} {b : Bool} {l : List ByteArray} {w : WL} (h : (fS a b c l w).1 ≠ 0) : (fS a b c l w).1 = 5 ∧ (fS a b c l w).2.2.2.2.1 = l ∧ (fS a b c l w).2.2.2.2.2 = w := by
  unfold fS at h ⊢
  split
  · exact ⟨rfl, rfl, rfl⟩
  · split
    · exact ⟨rfl, rfl, rfl⟩
    · rename_i h1 h2
      rw [if_neg h1, if_neg h2] at h
      exact (h rfl).elim

theorem fS_ok {n k : Nat} {a c : Int} {b : Bool} {l : List ByteArray} {w : WL} (h : DS n k a c l w) (hk : k < 300) : DS n (k + 1) (fS a b c l w).2.1 (fS a b c l w).2.2.2.1 (fS a b c l w).2.2.2.2.1 (fS a b c l w).2.2.2.2.2 := by
  unfold fS
  split
  · exact h.more hk
  · split
    · exact h.off hk
    · rename_i h4
      exact h.flushed hk h4

end Go.Proofs.YtillbabmlfjegaaDoor.X
end

section
/- A disk: crashes, coming up, a write and a flush; in one form. -/
namespace Go.Proofs.YtillbabmlfjegaaDoor.X
open Go Go.Proofs.YtillbabmlfjegaaDoor.Ev
set_option linter.unusedSectionVars false
variable [FZ]
set_option linter.unusedVariables false
set_option linter.unusedSimpArgs false

abbrev St := Int × Int × Bool × Int × List ByteArray × WL

/-- A write, then a flush. -/
def layS (x : Int) (t : ByteArray) (a : Int) (b : Bool) (c : Int) (l : List ByteArray) (w : WL) : St :=
  if (wS x t a b c l w).1 ≠ 0 then ((wS x t a b c l w).1, (wS x t a b c l w).2.1, (wS x t a b c l w).2.2.1, (wS x t a b c l w).2.2.2.1, l, w)
  else fS (wS x t a b c l w).2.1 (wS x t a b c l w).2.2.1 (wS x t a b c l w).2.2.2.1 l (wS x t a b c l w).2.2.2.2

def app {β : Type} (K : Int → Int → Bool → Int → List ByteArray → WL → Option β) (s : St) : Option β := K s.1 s.2.1 s.2.2.1 s.2.2.2.1 s.2.2.2.2.1 s.2.2.2.2.2

theorem fl_app {β : Type} {a c : Int} {b : Bool} {l : List ByteArray} {w : WL} {K : Int → Int → Bool → Int → List ByteArray → WL → Option β} :
    (if (fS a b c l w).1 = 0 then K 0 (fS a b c l w).2.1 (fS a b c l w).2.2.1 (fS a b c l w).2.2.2.1 (fS a b c l w).2.2.2.2.1 (fS a b c l w).2.2.2.2.2 else K 5 (fS a b c l w).2.1 (fS a b c l w).2.2.1 (fS a b c l w).2.2.2.1 l w) = app K (fS a b c l w) := by
  by_cases q : (fS a b c l w).1 = 0
  · rw [if_pos q, app, q]
  · obtain ⟨h1, h2, h3⟩ := fS_same q
    rw [if_neg q, app, h1, h2, h3]

theorem layS_ok {m k : Nat} {a d : Int} {b : Bool} {l : List ByteArray} {w : WL} {x : Int} {t : ByteArray} (h : DS m k a d l w) (hk : k < 299) : DS m (k + 2) (layS x t a b d l w).2.1 (layS x t a b d l w).2.2.2.1 (layS x t a b d l w).2.2.2.2.1 (layS x t a b d l w).2.2.2.2.2 := by
  have h1 := wS_ok (x := x) (t := t) (b := b) h (by omega)
  unfold layS
  by_cases q : (wS x t a b d l w).1 = 0
  · rw [if_neg (show ¬ (wS x t a b d l w).1 ≠ 0 from fun hh => hh q)]
    exact fS_ok h1 (by omega)
  · rw [if_pos (show (wS x t a b d l w).1 ≠ 0 from q)]
    rw [wS_same q] at h1
    exact h1.more (by omega)

end Go.Proofs.YtillbabmlfjegaaDoor.X
end

section
namespace Go.Proofs.YtillbabmlfjegaaDoor.X
open Go Go.Proofs.YtillbabmlfjegaaDoor.Ev Go.Proofs
set_option linter.unusedVariables false
set_option linter.unusedSectionVars false
/-! pentimentoref06.Disk).Crash -/
noncomputable def f62_1_l1 {β : Type} (F : Nat) (v2 : Int) (v3 : Bool) (v4 : Int) (v6 : List (Int × ByteArray)) (v7 : List Bool) (K0 : List ByteArray → Option β) : Nat → Int → List ByteArray → Option β
  | 0, _, _ => none
  | k + 1, v1, v5 => cond (decide (v1 < ((v6.length : Nat) : Int))) (cond (decide (v1 < ((v7.length : Nat) : Int))) (cond (decide ((0 : Int) ≤ v1 ∧ v1 < ((v6.length : Nat) : Int))) (cond (decide (0 + v1.toNat < v6.length)) (cond (decide ((0 : Int) ≤ v1 ∧ v1 < ((v7.length : Nat) : Int))) (cond (decide (0 + v1.toNat < v7.length)) (cond (v7.getD (0 + v1.toNat) false) (cond (decide ((0 : Int) ≤ (v6.getD (0 + v1.toNat) (0, ByteArray.empty)).1 ∧ (v6.getD (0 + v1.toNat) (0, ByteArray.empty)).1 < ((v5.length : Nat) : Int))) (cond (decide (0 + (((v6.getD (0 + v1.toNat) (0, ByteArray.empty)).1).toNat) < v5.length)) (f62_1_l1 F v2 v3 v4 v6 v7 K0 k (IntKind.i64.wrap (v1 + 1)) (v5.set (0 + (((v6.getD (0 + v1.toNat) (0, ByteArray.empty)).1).toNat)) ((v6.getD (0 + v1.toNat) (0, ByteArray.empty)).2))) none) none) (f62_1_l1 F v2 v3 v4 v6 v7 K0 k (IntKind.i64.wrap (v1 + 1)) v5)) none) none) none) none) (K0 v5)) (K0 v5)
noncomputable def f62_1 {β : Type} (F : Nat) (a1 : Int) (a2 : Bool) (a3 : Int) (a4 : List ByteArray) (a5 : List (Int × ByteArray)) (a6 : List Bool) (K0 : List ByteArray → List (Int × ByteArray) → Option β) : Option β := f62_1_l1 F a1 a2 a3 a5 a6 (fun x8 => K0 x8 []) F 0 a4
variable [FZ]
def sh62_1 : Sh := ⟨[.lf (.ptr 0 0), .lf (.full 3)], [some ⟨some false, [.full 1, .full 2, .int .i64, .bool, .int .i64]⟩, some ⟨some false, [.seq .str 0]⟩, some ⟨none, [.seq (.pair (.int .i64) .str) 0]⟩, some ⟨none, [.seq .bool 0]⟩]⟩
noncomputable def S62_1 (F : Nat) (o : Summ) : Summ := mkS sh62_1 (fun d K => f62_1 F d.2.1.2.2.2.1 d.2.1.2.2.2.2.1 d.2.1.2.2.2.2.2.1 d.2.2.1.2.1 d.2.2.2.1.2.1 d.2.2.2.2.1.2.1 (fun (y3 : List ByteArray) (y6 : List (Int × ByteArray)) => K [] [some ⟨false, [.full 1, .full 4, .int .i64 (-1), .bool true, .int .i64 d.2.1.2.2.2.2.2.1]⟩, some ⟨false, [.seq .str 0 y3]⟩, some ⟨d.2.2.2.1.1, [.seq (.pair (.int .i64) .str) 0 d.2.2.2.1.2.1]⟩, some ⟨d.2.2.2.2.1.1, [.seq .bool 0 d.2.2.2.2.1.2.1]⟩, some ⟨false, [.seq (.pair (.int .i64) .str) 0 y6]⟩])) o
noncomputable def code62 : Code := bodyOf Tryd.f62
noncomputable def b62_0 : Code := cB (cB (cR (cL (code62))))
theorem scopes62 : scopesOf code62 = [] := by kernel_rfl
theorem ranges62 : rangesOf code62 = [] := by kernel_rfl
theorem loops62 : loopsOf code62 = [b62_0] := by kernel_rfl
theorem enter62 : ∀ args w, (callFunc 62 args).run Tryd.prog w = .ok (.enter 62 args) w := enter_of (fn := Tryd.f62) (by kernel_rfl) (by kernel_rfl) (by kernel_rfl)
noncomputable def T62_1 (F : Nat) : FuncId → Option Summ := tab []
def sh62_1_l1 : Sh := ⟨[.lf (.ptr 0 0), .lf (.full 3), .lf (.int .i64)], [some ⟨some false, [.full 1, .full 2, .int .i64, .bool, .int .i64]⟩, some ⟨some false, [.seq .str 0]⟩, some ⟨none, [.seq (.pair (.int .i64) .str) 0]⟩, some ⟨none, [.seq .bool 0]⟩]⟩
noncomputable def G62_1_1 (F k : Nat) : LoopS := mkG sh62_1_l1 [0, 1, 4] (outT [(.exit 0, [0])]) (fun d K => f62_1_l1 F d.2.1.2.2.2.1 d.2.1.2.2.2.2.1 d.2.1.2.2.2.2.2.1 d.2.2.2.1.2.1 d.2.2.2.2.1.2.1 (fun (y3 : List ByteArray) => K (.exit 0) [.tv (.lf (.ptr 0 0))] [some ⟨false, [.full 1, .full 2, .int .i64 d.2.1.2.2.2.1, .bool d.2.1.2.2.2.2.1, .int .i64 d.2.1.2.2.2.2.2.1]⟩, some ⟨false, [.seq .str 0 y3]⟩, some ⟨d.2.2.2.1.1, [.seq (.pair (.int .i64) .str) 0 d.2.2.2.1.2.1]⟩, some ⟨d.2.2.2.2.1.1, [.seq .bool 0 d.2.2.2.2.1.2.1]⟩]) k d.1.2.2.1 d.2.2.1.2.1) []
noncomputable def LT62_1 (F : Nat) : Nat → Option LoopS := ltab [(1, G62_1_1 F F)]
theorem L62_1_l1g (F k : Nat)   (l1 : Int → Bool → Int → List (Int × ByteArray) → List Bool → (List ByteArray → Option Res) → Nat → Int → List ByteArray → Option Res) (X1 : LoopS) (d : sh62_1_l1.den) (K : KL) : (fun (v2 : Int) (v3 : Bool) (v4 : Int) (v6 : List (Int × ByteArray)) (v7 : List Bool) (K0 : (List ByteArray → Option Res)) (k : Nat) (v1 : Int) (v5 : List ByteArray) => cond (decide (v1 < ((v6.length : Nat) : Int))) (cond (decide (v1 < ((v7.length : Nat) : Int))) (cond (decide ((0 : Int) ≤ v1 ∧ v1 < ((v6.length : Nat) : Int))) (cond (decide (0 + v1.toNat < v6.length)) (cond (decide ((0 : Int) ≤ v1 ∧ v1 < ((v7.length : Nat) : Int))) (cond (decide (0 + v1.toNat < v7.length)) (cond (v7.getD (0 + v1.toNat) false) (cond (decide ((0 : Int) ≤ (v6.getD (0 + v1.toNat) (0, ByteArray.empty)).1 ∧ (v6.getD (0 + v1.toNat) (0, ByteArray.empty)).1 < ((v5.length : Nat) : Int))) (cond (decide (0 + (((v6.getD (0 + v1.toNat) (0, ByteArray.empty)).1).toNat) < v5.length)) (l1 v2 v3 v4 v6 v7 K0 k (IntKind.i64.wrap (v1 + 1)) (v5.set (0 + (((v6.getD (0 + v1.toNat) (0, ByteArray.empty)).1).toNat)) ((v6.getD (0 + v1.toNat) (0, ByteArray.empty)).2))) none) none) (l1 v2 v3 v4 v6 v7 K0 k (IntKind.i64.wrap (v1 + 1)) v5)) none) none) none) none) (K0 v5)) (K0 v5)) d.2.1.2.2.2.1 d.2.1.2.2.2.2.1 d.2.1.2.2.2.2.2.1 d.2.2.2.1.2.1 d.2.2.2.2.1.2.1 (fun (y3 : List ByteArray) => K (.exit 0) [.tv (.lf (.ptr 0 0))] [some ⟨false, [.full 1, .full 2, .int .i64 d.2.1.2.2.2.1, .bool d.2.1.2.2.2.2.1, .int .i64 d.2.1.2.2.2.2.2.1]⟩, some ⟨false, [.seq .str 0 y3]⟩, some ⟨d.2.2.2.1.1, [.seq (.pair (.int .i64) .str) 0 d.2.2.2.1.2.1]⟩, some ⟨d.2.2.2.2.1.1, [.seq .bool 0 d.2.2.2.2.1.2.1]⟩]) k d.1.2.2.1 d.2.2.1.2.1 = roundOf Tryd.prog (tab []) (xw []) 50 4 (ltab [(1, X1)]) (mkG sh62_1_l1 [0, 1, 4] (outT [(.exit 0, [0])]) (fun d K => l1 d.2.1.2.2.2.1 d.2.1.2.2.2.2.1 d.2.1.2.2.2.2.2.1 d.2.2.2.1.2.1 d.2.2.2.2.1.2.1 (fun (y3 : List ByteArray) => K (.exit 0) [.tv (.lf (.ptr 0 0))] [some ⟨false, [.full 1, .full 2, .int .i64 d.2.1.2.2.2.1, .bool d.2.1.2.2.2.2.1, .int .i64 d.2.1.2.2.2.2.2.1]⟩, some ⟨false, [.seq .str 0 y3]⟩, some ⟨d.2.2.2.1.1, [.seq (.pair (.int .i64) .str) 0 d.2.2.2.1.2.1]⟩, some ⟨d.2.2.2.2.1.1, [.seq .bool 0 d.2.2.2.2.1.2.1]⟩]) k d.1.2.2.1 d.2.2.1.2.1) []) b62_0 (encT sh62_1_l1.vs d.1) (encH sh62_1_l1.h d.2) K := by kernel_rfl
theorem L62_1_1 (F : Nat) : LoopOK Tryd.prog (T62_1 F) (xw []) 50 4 (LT62_1 F) (G62_1_1 F F) b62_0 :=
  loopOK_of (s := sh62_1_l1) (live := [0, 1, 4]) (out := (outT [(.exit 0, [0])])) (mv := []) (fun k d K => f62_1_l1 F d.2.1.2.2.2.1 d.2.1.2.2.2.2.1 d.2.1.2.2.2.2.2.1 d.2.2.2.1.2.1 d.2.2.2.2.1.2.1 (fun (y3 : List ByteArray) => K (.exit 0) [.tv (.lf (.ptr 0 0))] [some ⟨false, [.full 1, .full 2, .int .i64 d.2.1.2.2.2.1, .bool d.2.1.2.2.2.2.1, .int .i64 d.2.1.2.2.2.2.2.1]⟩, some ⟨false, [.seq .str 0 y3]⟩, some ⟨d.2.2.2.1.1, [.seq (.pair (.int .i64) .str) 0 d.2.2.2.1.2.1]⟩, some ⟨d.2.2.2.2.1.1, [.seq .bool 0 d.2.2.2.2.1.2.1]⟩]) k d.1.2.2.1 d.2.2.1.2.1) F (fun d K => by kernel_rfl)  (fun k d K => Eq.mp (by kernel_rfl) (L62_1_l1g F k   (f62_1_l1 F) (G62_1_1 F F) d K))
theorem E62_1g (F : Nat)  (l1 : Int → Bool → Int → List (Int × ByteArray) → List Bool → (List ByteArray → Option Res) → Nat → Int → List ByteArray → Option Res)  (d : sh62_1.den) (K : KF) : evBody Tryd.prog (tab []) (xw []) 50 4 (ltab [(1, mkG sh62_1_l1 [0, 1, 4] (outT [(.exit 0, [0])]) (fun d K => l1 d.2.1.2.2.2.1 d.2.1.2.2.2.2.1 d.2.1.2.2.2.2.2.1 d.2.2.2.1.2.1 d.2.2.2.2.1.2.1 (fun (y3 : List ByteArray) => K (.exit 0) [.tv (.lf (.ptr 0 0))] [some ⟨false, [.full 1, .full 2, .int .i64 d.2.1.2.2.2.1, .bool d.2.1.2.2.2.2.1, .int .i64 d.2.1.2.2.2.2.2.1]⟩, some ⟨false, [.seq .str 0 y3]⟩, some ⟨d.2.2.2.1.1, [.seq (.pair (.int .i64) .str) 0 d.2.2.2.1.2.1]⟩, some ⟨d.2.2.2.2.1.1, [.seq .bool 0 d.2.2.2.2.1.2.1]⟩]) F d.1.2.2.1 d.2.2.1.2.1) [])]) code62 Tryd.f62.results.toList (encT sh62_1.vs d.1) (encH sh62_1.h d.2) K = (fun (a1 : Int) (a2 : Bool) (a3 : Int) (a4 : List ByteArray) (a5 : List (Int × ByteArray)) (a6 : List Bool) (K0 : (List ByteArray → List (Int × ByteArray) → Option Res)) => l1 a1 a2 a3 a5 a6 (fun x8 => K0 x8 []) F 0 a4) d.2.1.2.2.2.1 d.2.1.2.2.2.2.1 d.2.1.2.2.2.2.2.1 d.2.2.1.2.1 d.2.2.2.1.2.1 d.2.2.2.2.1.2.1 (fun (y3 : List ByteArray) (y6 : List (Int × ByteArray)) => K [] [some ⟨false, [.full 1, .full 4, .int .i64 (-1), .bool true, .int .i64 d.2.1.2.2.2.2.2.1]⟩, some ⟨false, [.seq .str 0 y3]⟩, some ⟨d.2.2.2.1.1, [.seq (.pair (.int .i64) .str) 0 d.2.2.2.1.2.1]⟩, some ⟨d.2.2.2.2.1.1, [.seq .bool 0 d.2.2.2.2.1.2.1]⟩, some ⟨false, [.seq (.pair (.int .i64) .str) 0 y6]⟩]) := by kernel_rfl
theorem E62_1 (F : Nat) (d : sh62_1.den) (K : KF) : evBody Tryd.prog (T62_1 F) (xw []) 50 4 (LT62_1 F) code62 Tryd.f62.results.toList (encT sh62_1.vs d.1) (encH sh62_1.h d.2) K = f62_1 F d.2.1.2.2.2.1 d.2.1.2.2.2.2.1 d.2.1.2.2.2.2.2.1 d.2.2.1.2.1 d.2.2.2.1.2.1 d.2.2.2.2.1.2.1 (fun (y3 : List ByteArray) (y6 : List (Int × ByteArray)) => K [] [some ⟨false, [.full 1, .full 4, .int .i64 (-1), .bool true, .int .i64 d.2.1.2.2.2.2.2.1]⟩, some ⟨false, [.seq .str 0 y3]⟩, some ⟨d.2.2.2.1.1, [.seq (.pair (.int .i64) .str) 0 d.2.2.2.1.2.1]⟩, some ⟨d.2.2.2.2.1.1, [.seq .bool 0 d.2.2.2.2.1.2.1]⟩, some ⟨false, [.seq (.pair (.int .i64) .str) 0 y6]⟩]) := Eq.mp (by kernel_rfl) (E62_1g F  (f62_1_l1 F)  d K)
theorem S62_1_ok (F : Nat) (o : Summ) (ho : SoundFn Tryd.prog 62 o) : SoundFn Tryd.prog 62 (S62_1 F o) :=
  soundFn_of (fn := Tryd.f62) (c := code62) rfl rfl (by kernel_rfl) tab_nil (by kernel_rfl) (by kernel_rfl) ho (by rw [loops62]; exact (loopsOK_cons (by kernel_rfl) (L62_1_1 F) loopsOK_nil)) (by rw [scopes62]; exact scopesOK_nil) (by rw [ranges62]; exact rangesOK_nil) (E62_1 F)
end Go.Proofs.YtillbabmlfjegaaDoor.X
end

section
namespace Go.Proofs.YtillbabmlfjegaaDoor.X
open Go Go.Proofs.YtillbabmlfjegaaDoor.Ev Go.Proofs
set_option linter.unusedVariables false
set_option linter.unusedSectionVars false
/-! pentimentoref06.Disk).Up -/
noncomputable def f63_1 {β : Type} (F : Nat) (a1 : Int) (a2 : Bool) (a3 : Int) (a4 : List ByteArray) (a5 : List (Int × ByteArray)) (K0 : Option β) (K1 : List (Int × ByteArray) → Option β) : Option β := cond (!a2) (K0) (K1 [])
variable [FZ]
def sh63_1 : Sh := ⟨[.lf (.ptr 0 0)], [some ⟨some false, [.full 1, .full 2, .int .i64, .bool, .int .i64]⟩, some ⟨none, [.seq .str 0]⟩, some ⟨none, [.seq (.pair (.int .i64) .str) 0]⟩]⟩
noncomputable def S63_1 (F : Nat) (o : Summ) : Summ := mkS sh63_1 (fun d K => f63_1 F d.2.1.2.2.2.1 d.2.1.2.2.2.2.1 d.2.1.2.2.2.2.2.1 d.2.2.1.2.1 d.2.2.2.1.2.1 (K [.lf (.int .i64 21)] [some ⟨false, [.full 1, .full 2, .int .i64 d.2.1.2.2.2.1, .bool d.2.1.2.2.2.2.1, .int .i64 d.2.1.2.2.2.2.2.1]⟩, some ⟨d.2.2.1.1, [.seq .str 0 d.2.2.1.2.1]⟩, some ⟨d.2.2.2.1.1, [.seq (.pair (.int .i64) .str) 0 d.2.2.2.1.2.1]⟩]) (fun (y6 : List (Int × ByteArray)) => K [.lf (.int .i64 0)] [some ⟨false, [.full 1, .full 3, .int .i64 (-1), .bool false, .int .i64 d.2.1.2.2.2.2.2.1]⟩, some ⟨d.2.2.1.1, [.seq .str 0 d.2.2.1.2.1]⟩, some ⟨d.2.2.2.1.1, [.seq (.pair (.int .i64) .str) 0 d.2.2.2.1.2.1]⟩, some ⟨false, [.seq (.pair (.int .i64) .str) 0 y6]⟩])) o
noncomputable def code63 : Code := bodyOf Tryd.f63
theorem scopes63 : scopesOf code63 = [] := by kernel_rfl
theorem ranges63 : rangesOf code63 = [] := by kernel_rfl
theorem loops63 : loopsOf code63 = [] := by kernel_rfl
theorem enter63 : ∀ args w, (callFunc 63 args).run Tryd.prog w = .ok (.enter 63 args) w := enter_of (fn := Tryd.f63) (by kernel_rfl) (by kernel_rfl) (by kernel_rfl)
noncomputable def T63_1 (F : Nat) : FuncId → Option Summ := tab []
noncomputable def LT63_1 (F : Nat) : Nat → Option LoopS := ltab []
theorem E63_1g (F : Nat)    (d : sh63_1.den) (K : KF) : evBody Tryd.prog (tab []) (xw []) 17 3 (ltab []) code63 Tryd.f63.results.toList (encT sh63_1.vs d.1) (encH sh63_1.h d.2) K = (fun (a1 : Int) (a2 : Bool) (a3 : Int) (a4 : List ByteArray) (a5 : List (Int × ByteArray)) (K0 : (Option Res)) (K1 : (List (Int × ByteArray) → Option Res)) => cond (!a2) (K0) (K1 [])) d.2.1.2.2.2.1 d.2.1.2.2.2.2.1 d.2.1.2.2.2.2.2.1 d.2.2.1.2.1 d.2.2.2.1.2.1 (K [.lf (.int .i64 21)] [some ⟨false, [.full 1, .full 2, .int .i64 d.2.1.2.2.2.1, .bool d.2.1.2.2.2.2.1, .int .i64 d.2.1.2.2.2.2.2.1]⟩, some ⟨d.2.2.1.1, [.seq .str 0 d.2.2.1.2.1]⟩, some ⟨d.2.2.2.1.1, [.seq (.pair (.int .i64) .str) 0 d.2.2.2.1.2.1]⟩]) (fun (y6 : List (Int × ByteArray)) => K [.lf (.int .i64 0)] [some ⟨false, [.full 1, .full 3, .int .i64 (-1), .bool false, .int .i64 d.2.1.2.2.2.2.2.1]⟩, some ⟨d.2.2.1.1, [.seq .str 0 d.2.2.1.2.1]⟩, some ⟨d.2.2.2.1.1, [.seq (.pair (.int .i64) .str) 0 d.2.2.2.1.2.1]⟩, some ⟨false, [.seq (.pair (.int .i64) .str) 0 y6]⟩]) := by kernel_rfl
theorem E63_1 (F : Nat) (d : sh63_1.den) (K : KF) : evBody Tryd.prog (T63_1 F) (xw []) 17 3 (LT63_1 F) code63 Tryd.f63.results.toList (encT sh63_1.vs d.1) (encH sh63_1.h d.2) K = f63_1 F d.2.1.2.2.2.1 d.2.1.2.2.2.2.1 d.2.1.2.2.2.2.2.1 d.2.2.1.2.1 d.2.2.2.1.2.1 (K [.lf (.int .i64 21)] [some ⟨false, [.full 1, .full 2, .int .i64 d.2.1.2.2.2.1, .bool d.2.1.2.2.2.2.1, .int .i64 d.2.1.2.2.2.2.2.1]⟩, some ⟨d.2.2.1.1, [.seq .str 0 d.2.2.1.2.1]⟩, some ⟨d.2.2.2.1.1, [.seq (.pair (.int .i64) .str) 0 d.2.2.2.1.2.1]⟩]) (fun (y6 : List (Int × ByteArray)) => K [.lf (.int .i64 0)] [some ⟨false, [.full 1, .full 3, .int .i64 (-1), .bool false, .int .i64 d.2.1.2.2.2.2.2.1]⟩, some ⟨d.2.2.1.1, [.seq .str 0 d.2.2.1.2.1]⟩, some ⟨d.2.2.2.1.1, [.seq (.pair (.int .i64) .str) 0 d.2.2.2.1.2.1]⟩, some ⟨false, [.seq (.pair (.int .i64) .str) 0 y6]⟩]) := Eq.mp (by kernel_rfl) (E63_1g F    d K)
theorem S63_1_ok (F : Nat) (o : Summ) (ho : SoundFn Tryd.prog 63 o) : SoundFn Tryd.prog 63 (S63_1 F o) :=
  soundFn_of (fn := Tryd.f63) (c := code63) rfl rfl (by kernel_rfl) tab_nil (by kernel_rfl) (by kernel_rfl) ho (by rw [loops63]; exact loopsOK_nil) (by rw [scopes63]; exact scopesOK_nil) (by rw [ranges63]; exact rangesOK_nil) (E63_1 F)
end Go.Proofs.YtillbabmlfjegaaDoor.X
end

section
/- A disk: a crash, coming up. -/
namespace Go.Proofs.YtillbabmlfjegaaDoor.X
open Go Go.Proofs.YtillbabmlfjegaaDoor.Ev
set_option linter.unusedSectionVars false
variable [FZ]
set_option linter.unusedVariables false
set_option linter.unusedSimpArgs false

/-- A crash: the i-th write is kept where the i-th word says so. -/
def crB (ks : List Bool) : Nat → WL → List ByteArray → List ByteArray
  | _, [], l => l
  | i, p :: r, l => crB ks (i + 1) r (if ks.getD i false then put1 l p else l)

theorem crB_len (ks : List Bool) : ∀ (w : WL) (i : Nat) (l : List ByteArray), (crB ks i w l).length = l.length
  | [], _, l => rfl
  | p :: r, i, l => by
    rw [crB, crB_len ks r]
    split
    · exact put1_len l p
    · rfl

theorem crB_stop (ks : List Bool) : ∀ (w : WL) (i : Nat) (l : List ByteArray), ks.length ≤ i → crB ks i w l = l
  | [], _, l, _ => rfl
  | p :: r, i, l, h => by
    rw [crB, crB_stop ks r (i + 1) _ (by omega), getD_out h]; rfl

theorem crashPl {β : Type} {F n : Nat} {a c : Int} {b : Bool} {w : WL} {ks : List Bool} {K : List ByteArray → Option β} (hw : w.length ≤ 300) (hb : ∀ p ∈ w, 0 ≤ p.1 ∧ p.1 < (n : Int)) : ∀ (r : WL) (i k : Nat) (l : List ByteArray), w.drop i = r → i ≤ w.length → r.length < k → l.length = n →
    f25_1_l2 F ((w.length : Nat) : Int) a b c w ks K k (i : Int) l = K (crB ks i r l)
  | [], i, 0, s, _, _, hk, _ => by simp at hk
  | _ :: _, i, 0, s, _, _, hk, _ => by simp at hk
  | [], i, k + 1, s, hd, hi, _, _ => by
    have := len_of_drop_nil hd hi
    rw [f25_1_l2, cf (by omega)]; rfl
  | p :: r, i, k + 1, l, hd, hi, hk, hl => by
    obtain ⟨h1, h2, h3⟩ := getD_of_drop (d := ((0, ByteArray.empty) : Int × ByteArray)) hd
    have hp := hb p (List.mem_of_mem_drop (by rw [hd]; simp))
    have ih := fun l hl => crashPl (F := F) (a := a) (b := b) (c := c) (ks := ks) (K := K) hw hb r (i + 1) k l h3 (by omega) (by simp at hk; omega) hl
    push_cast at ih
    rw [f25_1_l2, ct (by omega), ct (by omega), ct (by omega), h2, w64 (by omega) (by omega), crB]
    by_cases hq : (i : Int) < ((ks.length : Nat) : Int)
    · have hg : ks.getD (0 + (i : Int).toNat) false = ks.getD i false := by rw [Nat.zero_add]; rfl
      rw [ct hq, ct (by omega), ct (by omega), hg]
      cases ks.getD i false with
      | false => rw [cond_false, ih l hl]; rfl
      | true => rw [cond_true, ct (by omega), ct (by omega), Nat.zero_add]; exact ih (put1 l p) (by rw [put1_len]; exact hl)
    · rw [cf hq, ih l hl, getD_out (by omega)]; rfl

theorem crashRl {β : Type} {F n : Nat} {a c : Int} {b : Bool} {w : WL} {ks : List Bool} {K : List ByteArray → Option β} (hw : w.length ≤ 300) (hb : ∀ p ∈ w, 0 ≤ p.1 ∧ p.1 < (n : Int)) : ∀ (r : WL) (i k : Nat) (l : List ByteArray), w.drop i = r → i ≤ w.length → r.length < k → l.length = n →
    f62_1_l1 F a b c w ks K k (i : Int) l = K (crB ks i r l)
  | [], i, 0, s, _, _, hk, _ => by simp at hk
  | _ :: _, i, 0, s, _, _, hk, _ => by simp at hk
  | [], i, k + 1, s, hd, hi, _, _ => by
    have := len_of_drop_nil hd hi
    rw [f62_1_l1, cf (by omega)]; rfl
  | p :: r, i, k + 1, l, hd, hi, hk, hl => by
    obtain ⟨h1, h2, h3⟩ := getD_of_drop (d := ((0, ByteArray.empty) : Int × ByteArray)) hd
    have hp := hb p (List.mem_of_mem_drop (by rw [hd]; simp))
    rw [f62_1_l1, ct (by omega)]
    by_cases hq : (i : Int) < ((ks.length : Nat) : Int)
    · have ih := fun l hl => crashRl (F := F) (a := a) (b := b) (c := c) (ks := ks) (K := K) hw hb r (i + 1) k l h3 (by omega) (by simp at hk; omega) hl
      push_cast at ih
      have hg : ks.getD (0 + (i : Int).toNat) false = ks.getD i false := by rw [Nat.zero_add]; rfl
      rw [ct hq, ct (by omega), ct (by omega), h2, w64 (by omega) (by omega), crB, ct (by omega), ct (by omega), hg]
      cases ks.getD i false with
      | false => rw [cond_false, ih l hl]; rfl
      | true => rw [cond_true, ct (by omega), ct (by omega), Nat.zero_add]; exact ih (put1 l p) (by rw [put1_len]; exact hl)
    · rw [cf hq, crB_stop ks _ i l (by omega)]

theorem crashP {β : Type} {F n k : Nat} (hF : 400 ≤ F) {a c : Int} {b : Bool} {l : List ByteArray} {w : WL} (h : DS n k a c l w) {ks : List Bool} {K : List ByteArray → WL → Option β} :
    f25_1 F a b c l w ks K = K (crB ks 0 w l) [] := by
  have hk := h.k300; have hwl := h.wl
  rw [f25_1]
  exact crashPl (by omega) h.wb w 0 F l rfl (by omega) (by omega) h.len

theorem crashR {β : Type} {F n k : Nat} (hF : 400 ≤ F) {a c : Int} {b : Bool} {l : List ByteArray} {w : WL} (h : DS n k a c l w) {ks : List Bool} {K : List ByteArray → WL → Option β} :
    f62_1 F a b c l w ks K = K (crB ks 0 w l) [] := by
  have hk := h.k300; have hwl := h.wl
  rw [f62_1]
  exact crashRl (by omega) h.wb w 0 F l rfl (by omega) (by omega) h.len

section
variable {n k : Nat} {a c : Int} {l : List ByteArray} {w : WL}
theorem DS.crashed (h : DS n k a c l w) (hk : k < 300) (ks : List Bool) : DS n (k + 1) (-1) c (crB ks 0 w l) [] :=
  ⟨h.n40, by omega, by rw [crB_len]; exact h.len, by simp, fun p hp => (by cases hp), by omega, by have := h.cr; omega⟩
theorem DS.came (h : DS n k a c l w) (hk : k < 300) : DS n (k + 1) (-1) c l [] :=
  ⟨h.n40, by omega, h.len, by simp, fun p hp => (by cases hp), by omega, by have := h.cr; omega⟩

end

end Go.Proofs.YtillbabmlfjegaaDoor.X
end

section
namespace Go.Proofs.YtillbabmlfjegaaDoor.X
open Go Go.Proofs.YtillbabmlfjegaaDoor.Ev Go.Proofs
set_option linter.unusedVariables false
set_option linter.unusedSectionVars false
/-! pentimentoref02.Entry -/
noncomputable def f113_1_l3 {β : Type} (F : Nat)  (K0 : Int → Option β) : Nat → Int → Int → Option β
  | 0, _, _ => none
  | k + 1, v1, v2 => cond (decide (v2 < 8)) (cond ((v1.tmod 2) == 1) (f113_1_l3 F K0 k (ixor .u32 (IntKind.u32.wrap (v1.tdiv 2)) 2197175160) (IntKind.i64.wrap (v2 + 1))) (f113_1_l3 F K0 k (IntKind.u32.wrap (v1.tdiv 2)) (IntKind.i64.wrap (v2 + 1)))) (K0 v1)
noncomputable def f113_1 {β : Type} (F : Nat) (a1 : Int) (K0 : Int → Option β) : Option β := f113_1_l3 F  (fun x3 => K0 x3) F (IntKind.u32.wrap a1) 0
variable [FZ]
def sh113_1 : Sh := ⟨[.lf (.int .u8)], []⟩
noncomputable def S113_1 (F : Nat) (o : Summ) : Summ := mkS sh113_1 (fun d K => f113_1 F d.1.1 (fun (y0 : Int) => K [.lf (.int .u32 y0)] [])) o
noncomputable def code113 : Code := bodyOf Tryd.f113
noncomputable def b113_0 : Code := cB (cB (cR (cL (cR (cR (code113))))))
theorem scopes113 : scopesOf code113 = [] := by kernel_rfl
theorem ranges113 : rangesOf code113 = [] := by kernel_rfl
theorem loops113 : loopsOf code113 = [b113_0] := by kernel_rfl
theorem enter113 : ∀ args w, (callFunc 113 args).run Tryd.prog w = .ok (.enter 113 args) w := enter_of (fn := Tryd.f113) (by kernel_rfl) (by kernel_rfl) (by kernel_rfl)
noncomputable def T113_1 (F : Nat) : FuncId → Option Summ := tab []
def sh113_1_l3 : Sh := ⟨[.lf (.int .u32), .lf (.int .i64)], []⟩
noncomputable def G113_1_3 (F k : Nat) : LoopS := mkG sh113_1_l3 [3, 4] (outT [(.exit 0, [3])]) (fun d K => f113_1_l3 F (fun (y0 : Int) => K (.exit 0) [.tv (.lf (.int .u32 y0))] []) k d.1.1 d.1.2.1) []
noncomputable def LT113_1 (F : Nat) : Nat → Option LoopS := ltab [(3, G113_1_3 F F)]
theorem L113_1_l3g (F k : Nat)   (l3 : (Int → Option Res) → Nat → Int → Int → Option Res) (X3 : LoopS) (d : sh113_1_l3.den) (K : KL) : (fun (K0 : (Int → Option Res)) (k : Nat) (v1 : Int) (v2 : Int) => cond (decide (v2 < 8)) (cond ((v1.tmod 2) == 1) (l3 K0 k (ixor .u32 (IntKind.u32.wrap (v1.tdiv 2)) 2197175160) (IntKind.i64.wrap (v2 + 1))) (l3 K0 k (IntKind.u32.wrap (v1.tdiv 2)) (IntKind.i64.wrap (v2 + 1)))) (K0 v1)) (fun (y0 : Int) => K (.exit 0) [.tv (.lf (.int .u32 y0))] []) k d.1.1 d.1.2.1 = roundOf Tryd.prog (tab []) (xw []) 20 0 (ltab [(3, X3)]) (mkG sh113_1_l3 [3, 4] (outT [(.exit 0, [3])]) (fun d K => l3 (fun (y0 : Int) => K (.exit 0) [.tv (.lf (.int .u32 y0))] []) k d.1.1 d.1.2.1) []) b113_0 (encT sh113_1_l3.vs d.1) (encH sh113_1_l3.h d.2) K := by kernel_rfl
theorem L113_1_3 (F : Nat) : LoopOK Tryd.prog (T113_1 F) (xw []) 20 0 (LT113_1 F) (G113_1_3 F F) b113_0 :=
  loopOK_of (s := sh113_1_l3) (live := [3, 4]) (out := (outT [(.exit 0, [3])])) (mv := []) (fun k d K => f113_1_l3 F (fun (y0 : Int) => K (.exit 0) [.tv (.lf (.int .u32 y0))] []) k d.1.1 d.1.2.1) F (fun d K => by kernel_rfl)  (fun k d K => Eq.mp (by kernel_rfl) (L113_1_l3g F k   (f113_1_l3 F) (G113_1_3 F F) d K))
theorem E113_1g (F : Nat)  (l3 : (Int → Option Res) → Nat → Int → Int → Option Res)  (d : sh113_1.den) (K : KF) : evBody Tryd.prog (tab []) (xw []) 20 0 (ltab [(3, mkG sh113_1_l3 [3, 4] (outT [(.exit 0, [3])]) (fun d K => l3 (fun (y0 : Int) => K (.exit 0) [.tv (.lf (.int .u32 y0))] []) F d.1.1 d.1.2.1) [])]) code113 Tryd.f113.results.toList (encT sh113_1.vs d.1) (encH sh113_1.h d.2) K = (fun (a1 : Int) (K0 : (Int → Option Res)) => l3  (fun x3 => K0 x3) F (IntKind.u32.wrap a1) 0) d.1.1 (fun (y0 : Int) => K [.lf (.int .u32 y0)] []) := by kernel_rfl
theorem E113_1 (F : Nat) (d : sh113_1.den) (K : KF) : evBody Tryd.prog (T113_1 F) (xw []) 20 0 (LT113_1 F) code113 Tryd.f113.results.toList (encT sh113_1.vs d.1) (encH sh113_1.h d.2) K = f113_1 F d.1.1 (fun (y0 : Int) => K [.lf (.int .u32 y0)] []) := Eq.mp (by kernel_rfl) (E113_1g F  (f113_1_l3 F)  d K)
theorem S113_1_ok (F : Nat) (o : Summ) (ho : SoundFn Tryd.prog 113 o) : SoundFn Tryd.prog 113 (S113_1 F o) :=
  soundFn_of (fn := Tryd.f113) (c := code113) rfl rfl (by kernel_rfl) tab_nil (by kernel_rfl) (by kernel_rfl) ho (by rw [loops113]; exact (loopsOK_cons (by kernel_rfl) (L113_1_3 F) loopsOK_nil)) (by rw [scopes113]; exact scopesOK_nil) (by rw [ranges113]; exact rangesOK_nil) (E113_1 F)
end Go.Proofs.YtillbabmlfjegaaDoor.X
end

section
namespace Go.Proofs.YtillbabmlfjegaaDoor.X
open Go Go.Proofs.YtillbabmlfjegaaDoor.Ev Go.Proofs
set_option linter.unusedVariables false
set_option linter.unusedSectionVars false
/-! pentimentoref02.Add -/
noncomputable def f83_1_l3 {β : Type} (F : Nat) (v3 : List Int) (K0 : Int → Option β) : Nat → Int → Int → Option β
  | 0, _, _ => none
  | k + 1, v1, v2 => cond (decide (v2 < ((v3.length : Nat) : Int))) (cond (decide ((0 : Int) ≤ v2 ∧ v2 < ((v3.length : Nat) : Int))) (cond (decide (0 + v2.toNat < v3.length)) (f113_1 F (ixor .u8 (IntKind.u8.wrap v1) (v3.getD (0 + v2.toNat) 0)) (fun x4 => f83_1_l3 F v3 K0 k (ixor .u32 (IntKind.u32.wrap (v1.tdiv 256)) x4) (IntKind.i64.wrap (v2 + 1))) ) none) none) (K0 v1)
noncomputable def f83_1 {β : Type} (F : Nat) (a1 : Int) (a2 : List Int) (K0 : Int → Option β) : Option β := f83_1_l3 F a2 (fun x5 => K0 (ixor .u32 4294967295 x5)) F (ixor .u32 4294967295 a1) 0
variable [FZ]
def sh83_1 : Sh := ⟨[.lf (.int .u32), .lf (.full 0)], [some ⟨none, [.seq (.int .u8) 0]⟩]⟩
noncomputable def S83_1 (F : Nat) (o : Summ) : Summ := mkS sh83_1 (fun d K => f83_1 F d.1.1 d.2.1.2.1 (fun (y0 : Int) => K [.lf (.int .u32 y0)] [some ⟨d.2.1.1, [.seq (.int .u8) 0 d.2.1.2.1]⟩])) o
noncomputable def code83 : Code := bodyOf Tryd.f83
noncomputable def b83_0 : Code := cB (cB (cR (cL (cR (cR (code83))))))
theorem scopes83 : scopesOf code83 = [] := by kernel_rfl
theorem ranges83 : rangesOf code83 = [] := by kernel_rfl
theorem loops83 : loopsOf code83 = [b83_0] := by kernel_rfl
theorem enter83 : ∀ args w, (callFunc 83 args).run Tryd.prog w = .ok (.enter 83 args) w := enter_of (fn := Tryd.f83) (by kernel_rfl) (by kernel_rfl) (by kernel_rfl)
noncomputable def T83_1 (F : Nat) : FuncId → Option Summ := tab [(113, (S113_1 F noS))]
def sh83_1_l3 : Sh := ⟨[.lf (.full 0), .lf (.int .u32), .lf (.int .i64)], [some ⟨none, [.seq (.int .u8) 0]⟩]⟩
noncomputable def G83_1_3 (F k : Nat) : LoopS := mkG sh83_1_l3 [1, 5, 6] (outT [(.exit 0, [5])]) (fun d K => f83_1_l3 F d.2.1.2.1 (fun (y0 : Int) => K (.exit 0) [.tv (.lf (.int .u32 y0))] [some ⟨d.2.1.1, [.seq (.int .u8) 0 d.2.1.2.1]⟩]) k d.1.2.1 d.1.2.2.1) []
noncomputable def LT83_1 (F : Nat) : Nat → Option LoopS := ltab [(3, G83_1_3 F F)]
theorem L83_1_l3g (F k : Nat) (c113_1 : Int → (Int → Option Res) → Option Res)  (l3 : List Int → (Int → Option Res) → Nat → Int → Int → Option Res) (X3 : LoopS) (d : sh83_1_l3.den) (K : KL) : (fun (v3 : List Int) (K0 : (Int → Option Res)) (k : Nat) (v1 : Int) (v2 : Int) => cond (decide (v2 < ((v3.length : Nat) : Int))) (cond (decide ((0 : Int) ≤ v2 ∧ v2 < ((v3.length : Nat) : Int))) (cond (decide (0 + v2.toNat < v3.length)) (c113_1 (ixor .u8 (IntKind.u8.wrap v1) (v3.getD (0 + v2.toNat) 0)) (fun x4 => l3 v3 K0 k (ixor .u32 (IntKind.u32.wrap (v1.tdiv 256)) x4) (IntKind.i64.wrap (v2 + 1))) ) none) none) (K0 v1)) d.2.1.2.1 (fun (y0 : Int) => K (.exit 0) [.tv (.lf (.int .u32 y0))] [some ⟨d.2.1.1, [.seq (.int .u8) 0 d.2.1.2.1]⟩]) k d.1.2.1 d.1.2.2.1 = roundOf Tryd.prog (tab [(113, (mkS sh113_1 (fun d K => c113_1 d.1.1 (fun (y0 : Int) => K [.lf (.int .u32 y0)] [])) noS))]) (xw []) 28 1 (ltab [(3, X3)]) (mkG sh83_1_l3 [1, 5, 6] (outT [(.exit 0, [5])]) (fun d K => l3 d.2.1.2.1 (fun (y0 : Int) => K (.exit 0) [.tv (.lf (.int .u32 y0))] [some ⟨d.2.1.1, [.seq (.int .u8) 0 d.2.1.2.1]⟩]) k d.1.2.1 d.1.2.2.1) []) b83_0 (encT sh83_1_l3.vs d.1) (encH sh83_1_l3.h d.2) K := by kernel_rfl
theorem L83_1_3 (F : Nat) : LoopOK Tryd.prog (T83_1 F) (xw []) 28 1 (LT83_1 F) (G83_1_3 F F) b83_0 :=
  loopOK_of (s := sh83_1_l3) (live := [1, 5, 6]) (out := (outT [(.exit 0, [5])])) (mv := []) (fun k d K => f83_1_l3 F d.2.1.2.1 (fun (y0 : Int) => K (.exit 0) [.tv (.lf (.int .u32 y0))] [some ⟨d.2.1.1, [.seq (.int .u8) 0 d.2.1.2.1]⟩]) k d.1.2.1 d.1.2.2.1) F (fun d K => by kernel_rfl)  (fun k d K => Eq.mp (by kernel_rfl) (L83_1_l3g F k (f113_1 F)  (f83_1_l3 F) (G83_1_3 F F) d K))
theorem E83_1g (F : Nat) (c113_1 : Int → (Int → Option Res) → Option Res) (l3 : List Int → (Int → Option Res) → Nat → Int → Int → Option Res)  (d : sh83_1.den) (K : KF) : evBody Tryd.prog (tab [(113, (mkS sh113_1 (fun d K => c113_1 d.1.1 (fun (y0 : Int) => K [.lf (.int .u32 y0)] [])) noS))]) (xw []) 28 1 (ltab [(3, mkG sh83_1_l3 [1, 5, 6] (outT [(.exit 0, [5])]) (fun d K => l3 d.2.1.2.1 (fun (y0 : Int) => K (.exit 0) [.tv (.lf (.int .u32 y0))] [some ⟨d.2.1.1, [.seq (.int .u8) 0 d.2.1.2.1]⟩]) F d.1.2.1 d.1.2.2.1) [])]) code83 Tryd.f83.results.toList (encT sh83_1.vs d.1) (encH sh83_1.h d.2) K = (fun (a1 : Int) (a2 : List Int) (K0 : (Int → Option Res)) => l3 a2 (fun x5 => K0 (ixor .u32 4294967295 x5)) F (ixor .u32 4294967295 a1) 0) d.1.1 d.2.1.2.1 (fun (y0 : Int) => K [.lf (.int .u32 y0)] [some ⟨d.2.1.1, [.seq (.int .u8) 0 d.2.1.2.1]⟩]) := by kernel_rfl
theorem E83_1 (F : Nat) (d : sh83_1.den) (K : KF) : evBody Tryd.prog (T83_1 F) (xw []) 28 1 (LT83_1 F) code83 Tryd.f83.results.toList (encT sh83_1.vs d.1) (encH sh83_1.h d.2) K = f83_1 F d.1.1 d.2.1.2.1 (fun (y0 : Int) => K [.lf (.int .u32 y0)] [some ⟨d.2.1.1, [.seq (.int .u8) 0 d.2.1.2.1]⟩]) := Eq.mp (by kernel_rfl) (E83_1g F (f113_1 F) (f83_1_l3 F)  d K)
theorem S83_1_ok (F : Nat) (o : Summ) (ho : SoundFn Tryd.prog 83 o) : SoundFn Tryd.prog 83 (S83_1 F o) :=
  soundFn_of (fn := Tryd.f83) (c := code83) rfl rfl (by kernel_rfl) (tab_cons (S113_1_ok F _ (noS_sound enter113)) tab_nil) (by kernel_rfl) (by kernel_rfl) ho (by rw [loops83]; exact (loopsOK_cons (by kernel_rfl) (L83_1_3 F) loopsOK_nil)) (by rw [scopes83]; exact scopesOK_nil) (by rw [ranges83]; exact rangesOK_nil) (E83_1 F)
end Go.Proofs.YtillbabmlfjegaaDoor.X
end

section
namespace Go.Proofs.YtillbabmlfjegaaDoor.X
open Go Go.Proofs.YtillbabmlfjegaaDoor.Ev Go.Proofs
set_option linter.unusedVariables false
set_option linter.unusedSectionVars false
/-! pentimentoref02.Sum -/
noncomputable def f42_1 {β : Type} (F : Nat) (a1 : List Int) (K0 : Int → Option β) : Option β := f83_1 F 0 a1 (fun x1 => K0 x1) 
variable [FZ]
def sh42_1 : Sh := ⟨[.lf (.full 0)], [some ⟨none, [.seq (.int .u8) 0]⟩]⟩
noncomputable def S42_1 (F : Nat) (o : Summ) : Summ := mkS sh42_1 (fun d K => f42_1 F d.2.1.2.1 (fun (y0 : Int) => K [.lf (.int .u32 y0)] [some ⟨d.2.1.1, [.seq (.int .u8) 0 d.2.1.2.1]⟩])) o
noncomputable def code42 : Code := bodyOf Tryd.f42
theorem scopes42 : scopesOf code42 = [] := by kernel_rfl
theorem ranges42 : rangesOf code42 = [] := by kernel_rfl
theorem loops42 : loopsOf code42 = [] := by kernel_rfl
theorem enter42 : ∀ args w, (callFunc 42 args).run Tryd.prog w = .ok (.enter 42 args) w := enter_of (fn := Tryd.f42) (by kernel_rfl) (by kernel_rfl) (by kernel_rfl)
noncomputable def T42_1 (F : Nat) : FuncId → Option Summ := tab [(83, (S83_1 F noS))]
noncomputable def LT42_1 (F : Nat) : Nat → Option LoopS := ltab []
theorem E42_1g (F : Nat) (c83_1 : Int → List Int → (Int → Option Res) → Option Res)   (d : sh42_1.den) (K : KF) : evBody Tryd.prog (tab [(83, (mkS sh83_1 (fun d K => c83_1 d.1.1 d.2.1.2.1 (fun (y0 : Int) => K [.lf (.int .u32 y0)] [some ⟨d.2.1.1, [.seq (.int .u8) 0 d.2.1.2.1]⟩])) noS))]) (xw []) 5 1 (ltab []) code42 Tryd.f42.results.toList (encT sh42_1.vs d.1) (encH sh42_1.h d.2) K = (fun (a1 : List Int) (K0 : (Int → Option Res)) => c83_1 0 a1 (fun x1 => K0 x1) ) d.2.1.2.1 (fun (y0 : Int) => K [.lf (.int .u32 y0)] [some ⟨d.2.1.1, [.seq (.int .u8) 0 d.2.1.2.1]⟩]) := by kernel_rfl
theorem E42_1 (F : Nat) (d : sh42_1.den) (K : KF) : evBody Tryd.prog (T42_1 F) (xw []) 5 1 (LT42_1 F) code42 Tryd.f42.results.toList (encT sh42_1.vs d.1) (encH sh42_1.h d.2) K = f42_1 F d.2.1.2.1 (fun (y0 : Int) => K [.lf (.int .u32 y0)] [some ⟨d.2.1.1, [.seq (.int .u8) 0 d.2.1.2.1]⟩]) := Eq.mp (by kernel_rfl) (E42_1g F (f83_1 F)   d K)
theorem S42_1_ok (F : Nat) (o : Summ) (ho : SoundFn Tryd.prog 42 o) : SoundFn Tryd.prog 42 (S42_1 F o) :=
  soundFn_of (fn := Tryd.f42) (c := code42) rfl rfl (by kernel_rfl) (tab_cons (S83_1_ok F _ (noS_sound enter83)) tab_nil) (by kernel_rfl) (by kernel_rfl) ho (by rw [loops42]; exact loopsOK_nil) (by rw [scopes42]; exact scopesOK_nil) (by rw [ranges42]; exact rangesOK_nil) (E42_1 F)
end Go.Proofs.YtillbabmlfjegaaDoor.X
end

section
namespace Go.Proofs.YtillbabmlfjegaaDoor.X
open Go Go.Proofs.YtillbabmlfjegaaDoor.Ev Go.Proofs
set_option linter.unusedVariables false
set_option linter.unusedSectionVars false
/-! pentimentoref01.Put -/
noncomputable def f81_1_l6 {β : Type} (F : Nat) (v1 : Int) (v3 : List Int) (K0 : List Int → Option β) : Nat → Int → List Int → Option β
  | 0, _, _ => none
  | k + 1, v2, v4 => cond (decide (v2 ≥ 0)) (cond (decide (IntKind.u64.wrap (IntKind.i64.wrap (8 * v2)) < 0)) none (cond (decide ((v4.length + 1) * 1 ≤ 70368744177664)) (f81_1_l6 F v1 v3 K0 k (IntKind.i64.wrap (v2 - 1)) (v4 ++ [IntKind.u8.wrap (ishr .u64 v1 (IntKind.u64.wrap (IntKind.i64.wrap (8 * v2))))])) none)) (K0 v4)
noncomputable def f81_1 {β : Type} (F : Nat) (a1 : Int) (a2 : Int) (a3 : List Int) (K0 : List Int → Option β) : Option β := cond (decide (a3.length * 1 ≤ 70368744177664)) (cond (decide (a1 < 1)) (K0 a3) (cond (decide (a1 > 8)) (K0 a3) (f81_1_l6 F a2 a3 (fun x5 => K0 x5) F (IntKind.i64.wrap (a1 - 1)) a3))) none
variable [FZ]
def sh81_1 : Sh := ⟨[.lf (.full 0), .lf (.int .i64), .lf (.int .u64)], [some ⟨none, [.seq (.int .u8) 0]⟩]⟩
noncomputable def S81_1 (F : Nat) (o : Summ) : Summ := mkS sh81_1 (fun d K => f81_1 F d.1.2.1 d.1.2.2.1 d.2.1.2.1 (fun (y1 : List Int) => K [.lf (.full 1)] [some ⟨d.2.1.1, [.seq (.int .u8) 0 d.2.1.2.1]⟩, some ⟨false, [.seq (.int .u8) 0 y1]⟩])) o
noncomputable def code81 : Code := bodyOf Tryd.f81
noncomputable def b81_0 : Code := cB (cB (cR (cL (cR (cR (cR (cR (code81))))))))
theorem scopes81 : scopesOf code81 = [] := by kernel_rfl
theorem ranges81 : rangesOf code81 = [] := by kernel_rfl
theorem loops81 : loopsOf code81 = [b81_0] := by kernel_rfl
theorem enter81 : ∀ args w, (callFunc 81 args).run Tryd.prog w = .ok (.enter 81 args) w := enter_of (fn := Tryd.f81) (by kernel_rfl) (by kernel_rfl) (by kernel_rfl)
noncomputable def T81_1 (F : Nat) : FuncId → Option Summ := tab []
def sh81_1_l6 : Sh := ⟨[.lf (.int .u64), .lf (.full 1), .lf (.int .i64)], [some ⟨none, [.seq (.int .u8) 0]⟩, some ⟨some false, [.seq (.int .u8) 0]⟩]⟩
noncomputable def G81_1_6 (F k : Nat) : LoopS := mkG sh81_1_l6 [2, 7, 8] (outT [(.exit 0, [7])]) (fun d K => f81_1_l6 F d.1.1 d.2.1.2.1 (fun (y1 : List Int) => K (.exit 0) [.tv (.lf (.full 1))] [some ⟨d.2.1.1, [.seq (.int .u8) 0 d.2.1.2.1]⟩, some ⟨false, [.seq (.int .u8) 0 y1]⟩]) k d.1.2.2.1 d.2.2.1.2.1) []
noncomputable def LT81_1 (F : Nat) : Nat → Option LoopS := ltab [(6, G81_1_6 F F)]
theorem L81_1_l6g (F k : Nat)   (l6 : Int → List Int → (List Int → Option Res) → Nat → Int → List Int → Option Res) (X6 : LoopS) (d : sh81_1_l6.den) (K : KL) : (fun (v1 : Int) (v3 : List Int) (K0 : (List Int → Option Res)) (k : Nat) (v2 : Int) (v4 : List Int) => cond (decide (v2 ≥ 0)) (cond (decide (IntKind.u64.wrap (IntKind.i64.wrap (8 * v2)) < 0)) none (cond (decide ((v4.length + 1) * 1 ≤ 70368744177664)) (l6 v1 v3 K0 k (IntKind.i64.wrap (v2 - 1)) (v4 ++ [IntKind.u8.wrap (ishr .u64 v1 (IntKind.u64.wrap (IntKind.i64.wrap (8 * v2))))])) none)) (K0 v4)) d.1.1 d.2.1.2.1 (fun (y1 : List Int) => K (.exit 0) [.tv (.lf (.full 1))] [some ⟨d.2.1.1, [.seq (.int .u8) 0 d.2.1.2.1]⟩, some ⟨false, [.seq (.int .u8) 0 y1]⟩]) k d.1.2.2.1 d.2.2.1.2.1 = roundOf Tryd.prog (tab []) (xw []) 35 1 (ltab [(6, X6)]) (mkG sh81_1_l6 [2, 7, 8] (outT [(.exit 0, [7])]) (fun d K => l6 d.1.1 d.2.1.2.1 (fun (y1 : List Int) => K (.exit 0) [.tv (.lf (.full 1))] [some ⟨d.2.1.1, [.seq (.int .u8) 0 d.2.1.2.1]⟩, some ⟨false, [.seq (.int .u8) 0 y1]⟩]) k d.1.2.2.1 d.2.2.1.2.1) []) b81_0 (encT sh81_1_l6.vs d.1) (encH sh81_1_l6.h d.2) K := by kernel_rfl
theorem L81_1_6 (F : Nat) : LoopOK Tryd.prog (T81_1 F) (xw []) 35 1 (LT81_1 F) (G81_1_6 F F) b81_0 :=
  loopOK_of (s := sh81_1_l6) (live := [2, 7, 8]) (out := (outT [(.exit 0, [7])])) (mv := []) (fun k d K => f81_1_l6 F d.1.1 d.2.1.2.1 (fun (y1 : List Int) => K (.exit 0) [.tv (.lf (.full 1))] [some ⟨d.2.1.1, [.seq (.int .u8) 0 d.2.1.2.1]⟩, some ⟨false, [.seq (.int .u8) 0 y1]⟩]) k d.1.2.2.1 d.2.2.1.2.1) F (fun d K => by kernel_rfl)  (fun k d K => Eq.mp (by kernel_rfl) (L81_1_l6g F k   (f81_1_l6 F) (G81_1_6 F F) d K))
theorem E81_1g (F : Nat)  (l6 : Int → List Int → (List Int → Option Res) → Nat → Int → List Int → Option Res)  (d : sh81_1.den) (K : KF) : evBody Tryd.prog (tab []) (xw []) 35 1 (ltab [(6, mkG sh81_1_l6 [2, 7, 8] (outT [(.exit 0, [7])]) (fun d K => l6 d.1.1 d.2.1.2.1 (fun (y1 : List Int) => K (.exit 0) [.tv (.lf (.full 1))] [some ⟨d.2.1.1, [.seq (.int .u8) 0 d.2.1.2.1]⟩, some ⟨false, [.seq (.int .u8) 0 y1]⟩]) F d.1.2.2.1 d.2.2.1.2.1) [])]) code81 Tryd.f81.results.toList (encT sh81_1.vs d.1) (encH sh81_1.h d.2) K = (fun (a1 : Int) (a2 : Int) (a3 : List Int) (K0 : (List Int → Option Res)) => cond (decide (a3.length * 1 ≤ 70368744177664)) (cond (decide (a1 < 1)) (K0 a3) (cond (decide (a1 > 8)) (K0 a3) (l6 a2 a3 (fun x5 => K0 x5) F (IntKind.i64.wrap (a1 - 1)) a3))) none) d.1.2.1 d.1.2.2.1 d.2.1.2.1 (fun (y1 : List Int) => K [.lf (.full 1)] [some ⟨d.2.1.1, [.seq (.int .u8) 0 d.2.1.2.1]⟩, some ⟨false, [.seq (.int .u8) 0 y1]⟩]) := by kernel_rfl
theorem E81_1 (F : Nat) (d : sh81_1.den) (K : KF) : evBody Tryd.prog (T81_1 F) (xw []) 35 1 (LT81_1 F) code81 Tryd.f81.results.toList (encT sh81_1.vs d.1) (encH sh81_1.h d.2) K = f81_1 F d.1.2.1 d.1.2.2.1 d.2.1.2.1 (fun (y1 : List Int) => K [.lf (.full 1)] [some ⟨d.2.1.1, [.seq (.int .u8) 0 d.2.1.2.1]⟩, some ⟨false, [.seq (.int .u8) 0 y1]⟩]) := Eq.mp (by kernel_rfl) (E81_1g F  (f81_1_l6 F)  d K)
theorem S81_1_ok (F : Nat) (o : Summ) (ho : SoundFn Tryd.prog 81 o) : SoundFn Tryd.prog 81 (S81_1 F o) :=
  soundFn_of (fn := Tryd.f81) (c := code81) rfl rfl (by kernel_rfl) tab_nil (by kernel_rfl) (by kernel_rfl) ho (by rw [loops81]; exact (loopsOK_cons (by kernel_rfl) (L81_1_6 F) loopsOK_nil)) (by rw [scopes81]; exact scopesOK_nil) (by rw [ranges81]; exact rangesOK_nil) (E81_1 F)
end Go.Proofs.YtillbabmlfjegaaDoor.X
end

section
namespace Go.Proofs.YtillbabmlfjegaaDoor.X
open Go Go.Proofs.YtillbabmlfjegaaDoor.Ev Go.Proofs
set_option linter.unusedVariables false
set_option linter.unusedSectionVars false
/-! pentimentoref01.Text -/
noncomputable def f40_1 {β : Type} (F : Nat) (a1 : Int) (a2 : Int) (K0 : ByteArray → Option β) : Option β := f81_1 F a1 a2 [] (fun x1 => K0 (ofInts x1)) 
variable [FZ]
def sh40_1 : Sh := ⟨[.lf (.int .i64), .lf (.int .u64)], []⟩
noncomputable def S40_1 (F : Nat) (o : Summ) : Summ := mkS sh40_1 (fun d K => f40_1 F d.1.1 d.1.2.1 (fun (y0 : ByteArray) => K [.lf (.str y0)] [])) o
noncomputable def code40 : Code := bodyOf Tryd.f40
theorem scopes40 : scopesOf code40 = [] := by kernel_rfl
theorem ranges40 : rangesOf code40 = [] := by kernel_rfl
theorem loops40 : loopsOf code40 = [] := by kernel_rfl
theorem enter40 : ∀ args w, (callFunc 40 args).run Tryd.prog w = .ok (.enter 40 args) w := enter_of (fn := Tryd.f40) (by kernel_rfl) (by kernel_rfl) (by kernel_rfl)
noncomputable def T40_1 (F : Nat) : FuncId → Option Summ := tab [(81, (S81_1 F noS))]
noncomputable def LT40_1 (F : Nat) : Nat → Option LoopS := ltab []
theorem E40_1g (F : Nat) (c81_1 : Int → Int → List Int → (List Int → Option Res) → Option Res)   (d : sh40_1.den) (K : KF) : evBody Tryd.prog (tab [(81, (mkS sh81_1 (fun d K => c81_1 d.1.2.1 d.1.2.2.1 d.2.1.2.1 (fun (y1 : List Int) => K [.lf (.full 1)] [some ⟨d.2.1.1, [.seq (.int .u8) 0 d.2.1.2.1]⟩, some ⟨false, [.seq (.int .u8) 0 y1]⟩])) noS))]) (xw []) 9 0 (ltab []) code40 Tryd.f40.results.toList (encT sh40_1.vs d.1) (encH sh40_1.h d.2) K = (fun (a1 : Int) (a2 : Int) (K0 : (ByteArray → Option Res)) => c81_1 a1 a2 [] (fun x1 => K0 (ofInts x1)) ) d.1.1 d.1.2.1 (fun (y0 : ByteArray) => K [.lf (.str y0)] []) := by kernel_rfl
theorem E40_1 (F : Nat) (d : sh40_1.den) (K : KF) : evBody Tryd.prog (T40_1 F) (xw []) 9 0 (LT40_1 F) code40 Tryd.f40.results.toList (encT sh40_1.vs d.1) (encH sh40_1.h d.2) K = f40_1 F d.1.1 d.1.2.1 (fun (y0 : ByteArray) => K [.lf (.str y0)] []) := Eq.mp (by kernel_rfl) (E40_1g F (f81_1 F)   d K)
theorem S40_1_ok (F : Nat) (o : Summ) (ho : SoundFn Tryd.prog 40 o) : SoundFn Tryd.prog 40 (S40_1 F o) :=
  soundFn_of (fn := Tryd.f40) (c := code40) rfl rfl (by kernel_rfl) (tab_cons (S81_1_ok F _ (noS_sound enter81)) tab_nil) (by kernel_rfl) (by kernel_rfl) ho (by rw [loops40]; exact loopsOK_nil) (by rw [scopes40]; exact scopesOK_nil) (by rw [ranges40]; exact rangesOK_nil) (E40_1 F)
end Go.Proofs.YtillbabmlfjegaaDoor.X
end

section
/- Records: sums, numbers as bytes; the code's and the document's, in one form. -/
namespace Go.Proofs.YtillbabmlfjegaaDoor.X
open Go Go.Proofs.YtillbabmlfjegaaDoor.Ev
set_option linter.unusedSectionVars false
variable [FZ]
set_option linter.unusedVariables false
set_option linter.unusedSimpArgs false

theorem x32 (x y : Int) : 0 ≤ ixor .u32 x y ∧ ixor .u32 x y < 4294967296 := by
  unfold ixor; rw [wu32m]; omega
theorem x8 (x y : Int) : 0 ≤ ixor .u8 x y ∧ ixor .u8 x y < 256 := by
  unfold ixor; rw [wu8m]; omega

theorem sh8 {n : Int} (h : 0 ≤ n ∧ n < 4294967296) : IntKind.u32.wrap (n.tdiv 256) = ishr .u32 n 8 := by
  have e : (2 : Int) ^ (min (8 : Int).toNat IntKind.u32.bits) = 256 := by decide
  rw [ishr, e, Int.fdiv_eq_ediv_of_nonneg _ (by omega), Int.tdiv_eq_ediv_of_nonneg h.1, wu32 (by omega) (by omega)]

/-- The table: each byte's step. -/
def eStep (x : Int) : Int := if (iand .u32 x 1) == 1 then ixor .u32 (ishr .u32 x 1) 2197175160 else ishr .u32 x 1
def ent (x : Int) : Int := eStep (eStep (eStep (eStep (eStep (eStep (eStep (eStep x)))))))
def tb : List Int := (List.range 256).map fun (i : Nat) => ent (i : Int)
theorem tb_len : tb.length = 256 := by simp [tb]

set_option maxRecDepth 100000 in
theorem tableP {β : Type} {K : List Int → Option β} : f124_1 20000 K = K tb := by kernel_rfl

theorem entNat {β : Type} {F : Nat} {K : Int → Option β} : ∀ (k : Nat) (v i : Int), f113_1_l3 F K k v i = (f113_1_l3 F some k v i).bind K
  | 0, v, i => rfl
  | k + 1, v, i => by
    rw [f113_1_l3, f113_1_l3]
    cases decide (i < 8) with
    | false => rfl
    | true =>
      cases (v.tmod 2 == 1) with
      | true => exact entNat k _ _
      | false => exact entNat k _ _

set_option maxRecDepth 100000 in
theorem entAll : ((List.range 256).all fun (i : Nat) => f113_1 20000 (i : Int) some == some (tb.getD i 0)) = true := by kernel_rfl

theorem entR {β : Type} {x : Int} (h : 0 ≤ x ∧ x < 256) {K : Int → Option β} : f113_1 20000 x K = K (tb.getD x.toNat 0) := by
  have h1 := List.all_eq_true.1 entAll x.toNat (List.mem_range.2 (by omega))
  rw [beq_iff_eq, show ((x.toNat : Nat) : Int) = x by omega, f113_1] at h1
  rw [f113_1, entNat, h1]; rfl

def crcS : Int → List Int → Int
  | n, [] => n
  | n, c :: r => crcS (ixor .u32 (ishr .u32 n 8) (tb.getD (ixor .u8 (IntKind.u8.wrap n) c).toNat 0)) r
def crc (b : List Int) : Int := ixor .u32 4294967295 (crcS (ixor .u32 4294967295 0) b)

theorem atL {α : Type} {l r : List α} {x d : α} {i : Nat} (hd : l.drop i = x :: r) : i < l.length ∧ l.getD (0 + (i : Int).toNat) d = x ∧ l.drop (i + 1) = r := by
  have h1 : i < l.length := by
    rcases Nat.lt_or_ge i l.length with h1 | h1
    · exact h1
    · rw [List.drop_eq_nil_of_le h1] at hd; cases hd
  rw [List.drop_eq_getElem_cons h1] at hd
  injection hd with h2 h3
  refine ⟨h1, ?_, h3⟩
  simp [h1, h2]

theorem nilL {α : Type} {l : List α} {i : Nat} (h : l.drop i = []) (hi : i ≤ l.length) : i = l.length := by
  have := congrArg List.length h
  simp at this; omega

theorem crcPl {β : Type} {F : Nat} {b : List Int} {K : Int → Option β} (hb : b.length ≤ 100000) : ∀ (r : List Int) (i k : Nat) (n : Int), b.drop i = r → i ≤ b.length → r.length < k →
    f112_1_l4 F ((b.length : Nat) : Int) b tb K k n (i : Int) = K (crcS n r)
  | [], i, 0, _, _, _, hk => by simp at hk
  | _ :: _, i, 0, _, _, _, hk => by simp at hk
  | [], i, k + 1, n, hd, hi, _ => by
    have := nilL hd hi
    rw [f112_1_l4, cf (by omega)]; rfl
  | c :: r, i, k + 1, n, hd, hi, hk => by
    obtain ⟨h1, h2, h3⟩ := atL (d := (0 : Int)) hd
    have hx := x8 (IntKind.u8.wrap n) c
    rw [f112_1_l4, ct (by omega), ct (by omega), ct (by omega), h2, ct hx, ct (by rw [tb_len]; omega), w64 (by omega) (by omega), crcS]
    exact crcPl hb r (i + 1) k _ h3 (by omega) (by simp at hk; omega)

theorem crcP {β : Type} {b : List Int} {K : Int → Option β} (hb : b.length ≤ 10000) : f80_1 20000 b K = K (crc b) := by
  rw [f80_1, f112_1, tableP]
  exact crcPl (K := fun x7 => K (ixor .u32 4294967295 x7)) (by omega) b 0 20000 _ rfl (by omega) (by omega)

theorem crcRl {β : Type} {b : List Int} {K : Int → Option β} (hb : b.length ≤ 100000) : ∀ (r : List Int) (i k : Nat) (n : Int), b.drop i = r → i ≤ b.length → r.length < k → 0 ≤ n ∧ n < 4294967296 →
    f83_1_l3 20000 b K k n (i : Int) = K (crcS n r)
  | [], i, 0, _, _, _, hk, _ => by simp at hk
  | _ :: _, i, 0, _, _, _, hk, _ => by simp at hk
  | [], i, k + 1, n, hd, hi, _, _ => by
    have := nilL hd hi
    rw [f83_1_l3, cf (by omega)]; rfl
  | c :: r, i, k + 1, n, hd, hi, hk, hn => by
    obtain ⟨h1, h2, h3⟩ := atL (d := (0 : Int)) hd
    have hx := x8 (IntKind.u8.wrap n) c
    rw [f83_1_l3, ct (by omega), ct (by omega), ct (by omega), h2, entR hx, w64 (by omega) (by omega), sh8 hn, crcS]
    exact crcRl hb r (i + 1) k _ h3 (by omega) (by simp at hk; omega) (x32 _ _)

theorem crcR {β : Type} {b : List Int} {K : Int → Option β} (hb : b.length ≤ 10000) : f42_1 20000 b K = K (crc b) := by
  rw [f42_1, f83_1]
  exact crcRl (K := fun x7 => K (ixor .u32 4294967295 x7)) (by omega) b 0 20000 _ rfl (by omega) (by omega) (x32 _ _)

/-! ### Numbers as bytes -/

def b4 (n : Int) : List Int := [IntKind.u8.wrap (ishr .u64 n 24), IntKind.u8.wrap (ishr .u64 n 16), IntKind.u8.wrap (ishr .u64 n 8), IntKind.u8.wrap (ishr .u64 n 0)]
theorem put4 {β : Type} {n : Int} {K : List Int → Option β} : f47_1 20000 4 n [] K = K (b4 n) := by kernel_rfl
theorem text4 {β : Type} {n : Int} {K : ByteArray → Option β} : f40_1 20000 4 n K = K (ofInts (b4 n)) := by kernel_rfl
theorem text1 {β : Type} {n : Int} {K : ByteArray → Option β} : f40_1 20000 1 n K = K (ofInts [IntKind.u8.wrap (ishr .u64 n 0)]) := by kernel_rfl

end Go.Proofs.YtillbabmlfjegaaDoor.X
end

section
namespace Go.Proofs.YtillbabmlfjegaaDoor.X
open Go Go.Proofs.YtillbabmlfjegaaDoor.Ev Go.Proofs
set_option linter.unusedVariables false
set_option linter.unusedSectionVars false
/-! pentimentoref08.Kind -/
noncomputable def f16_1_l8 {β : Type} (F : Nat) (v4 : ByteArray) (K0 : Option β) (K1 : Option β) : Nat → Int → Option β
  | 0, _ => none
  | k + 1, v5 => cond (decide (v5 < 60)) (cond (decide ((0 : Int) ≤ v5 ∧ v5 < (v4.size : Int))) (cond (((v4.data.getD v5.toNat 0).toNat : Int) != 0) (K0) (f16_1_l8 F v4 K0 K1 k (IntKind.i64.wrap (v5 + 1)))) none) (K1)
noncomputable def f16_1 {β : Type} (F : Nat) (a1 : ByteArray) (K0 : Int → Int → Option β) : Option β := f45_1 F a1 (fun x1 => cond (!x1) (K0 0 4) (cond (decide ((0 : Int) ≤ (0 : Int) ∧ (0 : Int) ≤ (60 : Int) ∧ (60 : Int) ≤ (a1.size : Int))) (cond (decide ((0 : Int) ≤ (60 : Int) ∧ (60 : Int) ≤ (a1.size : Int) ∧ (a1.size : Int) ≤ (a1.size : Int))) (f42_1 F (toInts (a1.extract 0 60)) (fun x2 => f40_1 F 4 (IntKind.u64.wrap x2) (fun x3 => cond (!(x3.toList == (a1.extract 60 ((a1.size : Int).toNat)).toList)) (K0 0 9) (cond (decide ((0 : Int) ≤ (0 : Int) ∧ (0 : Int) < (a1.size : Int))) (cond (decide (((a1.data.getD 0 0).toNat : Int) < 1)) (K0 0 6) (cond (decide ((0 : Int) ≤ (0 : Int) ∧ (0 : Int) < (a1.size : Int))) (cond (decide (((a1.data.getD 0 0).toNat : Int) > 8)) (K0 0 6) (cond (decide ((0 : Int) ≤ (1 : Int) ∧ (1 : Int) < (a1.size : Int))) (cond (decide (((a1.data.getD 1 0).toNat : Int) > 58)) (K0 0 6) (cond (decide ((0 : Int) ≤ (1 : Int) ∧ (1 : Int) < (a1.size : Int))) (f16_1_l8 F a1 (K0 0 6) (cond (decide ((0 : Int) ≤ (0 : Int) ∧ (0 : Int) < (a1.size : Int))) (K0 (IntKind.i64.wrap ((a1.data.getD 0 0).toNat : Int)) 0) none) F (IntKind.i64.wrap (2 + (IntKind.i64.wrap ((a1.data.getD 1 0).toNat : Int))))) none)) none)) none)) none)) ) ) none) none)) 
variable [FZ]
def sh16_1 : Sh := ⟨[.lf (.str)], []⟩
noncomputable def S16_1 (F : Nat) (o : Summ) : Summ := mkS sh16_1 (fun d K => f16_1 F d.1.1 (fun (y0 : Int) (y1 : Int) => K [.lf (.int .i64 y0), .lf (.int .i64 y1)] [])) o
noncomputable def code16 : Code := bodyOf Tryd.f16
noncomputable def b16_0 : Code := cB (cB (cR (cL (cR (cR (cR (cR (code16))))))))
theorem scopes16 : scopesOf code16 = [] := by kernel_rfl
theorem ranges16 : rangesOf code16 = [] := by kernel_rfl
theorem loops16 : loopsOf code16 = [b16_0] := by kernel_rfl
theorem enter16 : ∀ args w, (callFunc 16 args).run Tryd.prog w = .ok (.enter 16 args) w := enter_of (fn := Tryd.f16) (by kernel_rfl) (by kernel_rfl) (by kernel_rfl)
noncomputable def T16_1 (F : Nat) : FuncId → Option Summ := tab [(40, (S40_1 F noS)), (42, (S42_1 F noS)), (45, (S45_1 F noS))]
def sh16_1_l8 : Sh := ⟨[.lf (.str), .lf (.int .i64)], []⟩
noncomputable def G16_1_8 (F k : Nat) : LoopS := mkG sh16_1_l8 [0, 4] (outT [(.exit 0, [0]), (.ret, [2, 3])]) (fun d K => f16_1_l8 F d.1.1 (K .ret [.tv (.lf (.int .i64 0)), .tv (.lf (.int .i64 6))] []) (K (.exit 0) [.tv (.lf (.str d.1.1))] []) k d.1.2.1) []
noncomputable def LT16_1 (F : Nat) : Nat → Option LoopS := ltab [(8, G16_1_8 F F)]
theorem L16_1_l8g (F k : Nat) (c40_1 : Int → Int → (ByteArray → Option Res) → Option Res) (c42_1 : List Int → (Int → Option Res) → Option Res) (c45_1 : ByteArray → (Bool → Option Res) → Option Res)  (l8 : ByteArray → (Option Res) → (Option Res) → Nat → Int → Option Res) (X8 : LoopS) (d : sh16_1_l8.den) (K : KL) : (fun (v4 : ByteArray) (K0 : (Option Res)) (K1 : (Option Res)) (k : Nat) (v5 : Int) => cond (decide (v5 < 60)) (cond (decide ((0 : Int) ≤ v5 ∧ v5 < (v4.size : Int))) (cond (((v4.data.getD v5.toNat 0).toNat : Int) != 0) (K0) (l8 v4 K0 K1 k (IntKind.i64.wrap (v5 + 1)))) none) (K1)) d.1.1 (K .ret [.tv (.lf (.int .i64 0)), .tv (.lf (.int .i64 6))] []) (K (.exit 0) [.tv (.lf (.str d.1.1))] []) k d.1.2.1 = roundOf Tryd.prog (tab [(40, (mkS sh40_1 (fun d K => c40_1 d.1.1 d.1.2.1 (fun (y0 : ByteArray) => K [.lf (.str y0)] [])) noS)), (42, (mkS sh42_1 (fun d K => c42_1 d.2.1.2.1 (fun (y0 : Int) => K [.lf (.int .u32 y0)] [some ⟨d.2.1.1, [.seq (.int .u8) 0 d.2.1.2.1]⟩])) noS)), (45, (mkS sh45_1 (fun d K => c45_1 d.1.1 (fun (y0 : Bool) => K [.lf (.bool y0)] [])) noS))]) (xw []) 45 0 (ltab [(8, X8)]) (mkG sh16_1_l8 [0, 4] (outT [(.exit 0, [0]), (.ret, [2, 3])]) (fun d K => l8 d.1.1 (K .ret [.tv (.lf (.int .i64 0)), .tv (.lf (.int .i64 6))] []) (K (.exit 0) [.tv (.lf (.str d.1.1))] []) k d.1.2.1) []) b16_0 (encT sh16_1_l8.vs d.1) (encH sh16_1_l8.h d.2) K := by kernel_rfl
theorem L16_1_8 (F : Nat) : LoopOK Tryd.prog (T16_1 F) (xw []) 45 0 (LT16_1 F) (G16_1_8 F F) b16_0 :=
  loopOK_of (s := sh16_1_l8) (live := [0, 4]) (out := (outT [(.exit 0, [0]), (.ret, [2, 3])])) (mv := []) (fun k d K => f16_1_l8 F d.1.1 (K .ret [.tv (.lf (.int .i64 0)), .tv (.lf (.int .i64 6))] []) (K (.exit 0) [.tv (.lf (.str d.1.1))] []) k d.1.2.1) F (fun d K => by kernel_rfl)  (fun k d K => Eq.mp (by kernel_rfl) (L16_1_l8g F k (f40_1 F) (f42_1 F) (f45_1 F)  (f16_1_l8 F) (G16_1_8 F F) d K))
theorem E16_1g (F : Nat) (c40_1 : Int → Int → (ByteArray → Option Res) → Option Res) (c42_1 : List Int → (Int → Option Res) → Option Res) (c45_1 : ByteArray → (Bool → Option Res) → Option Res) (l8 : ByteArray → (Option Res) → (Option Res) → Nat → Int → Option Res)  (d : sh16_1.den) (K : KF) : evBody Tryd.prog (tab [(40, (mkS sh40_1 (fun d K => c40_1 d.1.1 d.1.2.1 (fun (y0 : ByteArray) => K [.lf (.str y0)] [])) noS)), (42, (mkS sh42_1 (fun d K => c42_1 d.2.1.2.1 (fun (y0 : Int) => K [.lf (.int .u32 y0)] [some ⟨d.2.1.1, [.seq (.int .u8) 0 d.2.1.2.1]⟩])) noS)), (45, (mkS sh45_1 (fun d K => c45_1 d.1.1 (fun (y0 : Bool) => K [.lf (.bool y0)] [])) noS))]) (xw []) 45 0 (ltab [(8, mkG sh16_1_l8 [0, 4] (outT [(.exit 0, [0]), (.ret, [2, 3])]) (fun d K => l8 d.1.1 (K .ret [.tv (.lf (.int .i64 0)), .tv (.lf (.int .i64 6))] []) (K (.exit 0) [.tv (.lf (.str d.1.1))] []) F d.1.2.1) [])]) code16 Tryd.f16.results.toList (encT sh16_1.vs d.1) (encH sh16_1.h d.2) K = (fun (a1 : ByteArray) (K0 : (Int → Int → Option Res)) => c45_1 a1 (fun x1 => cond (!x1) (K0 0 4) (cond (decide ((0 : Int) ≤ (0 : Int) ∧ (0 : Int) ≤ (60 : Int) ∧ (60 : Int) ≤ (a1.size : Int))) (cond (decide ((0 : Int) ≤ (60 : Int) ∧ (60 : Int) ≤ (a1.size : Int) ∧ (a1.size : Int) ≤ (a1.size : Int))) (c42_1 (toInts (a1.extract 0 60)) (fun x2 => c40_1 4 (IntKind.u64.wrap x2) (fun x3 => cond (!(x3.toList == (a1.extract 60 ((a1.size : Int).toNat)).toList)) (K0 0 9) (cond (decide ((0 : Int) ≤ (0 : Int) ∧ (0 : Int) < (a1.size : Int))) (cond (decide (((a1.data.getD 0 0).toNat : Int) < 1)) (K0 0 6) (cond (decide ((0 : Int) ≤ (0 : Int) ∧ (0 : Int) < (a1.size : Int))) (cond (decide (((a1.data.getD 0 0).toNat : Int) > 8)) (K0 0 6) (cond (decide ((0 : Int) ≤ (1 : Int) ∧ (1 : Int) < (a1.size : Int))) (cond (decide (((a1.data.getD 1 0).toNat : Int) > 58)) (K0 0 6) (cond (decide ((0 : Int) ≤ (1 : Int) ∧ (1 : Int) < (a1.size : Int))) (l8 a1 (K0 0 6) (cond (decide ((0 : Int) ≤ (0 : Int) ∧ (0 : Int) < (a1.size : Int))) (K0 (IntKind.i64.wrap ((a1.data.getD 0 0).toNat : Int)) 0) none) F (IntKind.i64.wrap (2 + (IntKind.i64.wrap ((a1.data.getD 1 0).toNat : Int))))) none)) none)) none)) none)) ) ) none) none)) ) d.1.1 (fun (y0 : Int) (y1 : Int) => K [.lf (.int .i64 y0), .lf (.int .i64 y1)] []) := by kernel_rfl
theorem E16_1 (F : Nat) (d : sh16_1.den) (K : KF) : evBody Tryd.prog (T16_1 F) (xw []) 45 0 (LT16_1 F) code16 Tryd.f16.results.toList (encT sh16_1.vs d.1) (encH sh16_1.h d.2) K = f16_1 F d.1.1 (fun (y0 : Int) (y1 : Int) => K [.lf (.int .i64 y0), .lf (.int .i64 y1)] []) := Eq.mp (by kernel_rfl) (E16_1g F (f40_1 F) (f42_1 F) (f45_1 F) (f16_1_l8 F)  d K)
theorem S16_1_ok (F : Nat) (o : Summ) (ho : SoundFn Tryd.prog 16 o) : SoundFn Tryd.prog 16 (S16_1 F o) :=
  soundFn_of (fn := Tryd.f16) (c := code16) rfl rfl (by kernel_rfl) (tab_cons (S40_1_ok F _ (noS_sound enter40)) (tab_cons (S42_1_ok F _ (noS_sound enter42)) (tab_cons (S45_1_ok F _ (noS_sound enter45)) tab_nil))) (by kernel_rfl) (by kernel_rfl) ho (by rw [loops16]; exact (loopsOK_cons (by kernel_rfl) (L16_1_8 F) loopsOK_nil)) (by rw [scopes16]; exact scopesOK_nil) (by rw [ranges16]; exact rangesOK_nil) (E16_1 F)
end Go.Proofs.YtillbabmlfjegaaDoor.X
end

section
namespace Go.Proofs.YtillbabmlfjegaaDoor.X
open Go Go.Proofs.YtillbabmlfjegaaDoor.Ev Go.Proofs
set_option linter.unusedVariables false
set_option linter.unusedSectionVars false
/-! pentimentoref08.Open -/
noncomputable def f14_1 {β : Type} (F : Nat) (a1 : Int) (a2 : ByteArray) (K0 : ByteArray → Int → Option β) : Option β := f16_1 F a2 (fun x1 x2 => cond (x2 != 0) (K0 ByteArray.empty x2) (cond (x1 != a1) (K0 ByteArray.empty 22) (cond (decide ((0 : Int) ≤ (1 : Int) ∧ (1 : Int) < (a2.size : Int))) (cond (decide ((0 : Int) ≤ (2 : Int) ∧ (2 : Int) ≤ IntKind.i64.wrap (2 + (IntKind.i64.wrap ((a2.data.getD 1 0).toNat : Int))) ∧ IntKind.i64.wrap (2 + (IntKind.i64.wrap ((a2.data.getD 1 0).toNat : Int))) ≤ (a2.size : Int))) (K0 (a2.extract 2 ((IntKind.i64.wrap (2 + (IntKind.i64.wrap ((a2.data.getD 1 0).toNat : Int)))).toNat)) 0) none) none))) 
variable [FZ]
def sh14_1 : Sh := ⟨[.lf (.int .i64), .lf (.str)], []⟩
noncomputable def S14_1 (F : Nat) (o : Summ) : Summ := mkS sh14_1 (fun d K => f14_1 F d.1.1 d.1.2.1 (fun (y0 : ByteArray) (y1 : Int) => K [.lf (.str y0), .lf (.int .i64 y1)] [])) o
noncomputable def code14 : Code := bodyOf Tryd.f14
theorem scopes14 : scopesOf code14 = [] := by kernel_rfl
theorem ranges14 : rangesOf code14 = [] := by kernel_rfl
theorem loops14 : loopsOf code14 = [] := by kernel_rfl
theorem enter14 : ∀ args w, (callFunc 14 args).run Tryd.prog w = .ok (.enter 14 args) w := enter_of (fn := Tryd.f14) (by kernel_rfl) (by kernel_rfl) (by kernel_rfl)
noncomputable def T14_1 (F : Nat) : FuncId → Option Summ := tab [(16, (S16_1 F noS))]
noncomputable def LT14_1 (F : Nat) : Nat → Option LoopS := ltab []
theorem E14_1g (F : Nat) (c16_1 : ByteArray → (Int → Int → Option Res) → Option Res)   (d : sh14_1.den) (K : KF) : evBody Tryd.prog (tab [(16, (mkS sh16_1 (fun d K => c16_1 d.1.1 (fun (y0 : Int) (y1 : Int) => K [.lf (.int .i64 y0), .lf (.int .i64 y1)] [])) noS))]) (xw []) 25 0 (ltab []) code14 Tryd.f14.results.toList (encT sh14_1.vs d.1) (encH sh14_1.h d.2) K = (fun (a1 : Int) (a2 : ByteArray) (K0 : (ByteArray → Int → Option Res)) => c16_1 a2 (fun x1 x2 => cond (x2 != 0) (K0 ByteArray.empty x2) (cond (x1 != a1) (K0 ByteArray.empty 22) (cond (decide ((0 : Int) ≤ (1 : Int) ∧ (1 : Int) < (a2.size : Int))) (cond (decide ((0 : Int) ≤ (2 : Int) ∧ (2 : Int) ≤ IntKind.i64.wrap (2 + (IntKind.i64.wrap ((a2.data.getD 1 0).toNat : Int))) ∧ IntKind.i64.wrap (2 + (IntKind.i64.wrap ((a2.data.getD 1 0).toNat : Int))) ≤ (a2.size : Int))) (K0 (a2.extract 2 ((IntKind.i64.wrap (2 + (IntKind.i64.wrap ((a2.data.getD 1 0).toNat : Int)))).toNat)) 0) none) none))) ) d.1.1 d.1.2.1 (fun (y0 : ByteArray) (y1 : Int) => K [.lf (.str y0), .lf (.int .i64 y1)] []) := by kernel_rfl
theorem E14_1 (F : Nat) (d : sh14_1.den) (K : KF) : evBody Tryd.prog (T14_1 F) (xw []) 25 0 (LT14_1 F) code14 Tryd.f14.results.toList (encT sh14_1.vs d.1) (encH sh14_1.h d.2) K = f14_1 F d.1.1 d.1.2.1 (fun (y0 : ByteArray) (y1 : Int) => K [.lf (.str y0), .lf (.int .i64 y1)] []) := Eq.mp (by kernel_rfl) (E14_1g F (f16_1 F)   d K)
theorem S14_1_ok (F : Nat) (o : Summ) (ho : SoundFn Tryd.prog 14 o) : SoundFn Tryd.prog 14 (S14_1 F o) :=
  soundFn_of (fn := Tryd.f14) (c := code14) rfl rfl (by kernel_rfl) (tab_cons (S16_1_ok F _ (noS_sound enter16)) tab_nil) (by kernel_rfl) (by kernel_rfl) ho (by rw [loops14]; exact loopsOK_nil) (by rw [scopes14]; exact scopesOK_nil) (by rw [ranges14]; exact rangesOK_nil) (E14_1 F)
end Go.Proofs.YtillbabmlfjegaaDoor.X
end

section
namespace Go.Proofs.YtillbabmlfjegaaDoor.X
open Go Go.Proofs.YtillbabmlfjegaaDoor.Ev Go.Proofs
set_option linter.unusedVariables false
set_option linter.unusedSectionVars false
/-! pentimentoref05.Fill -/
noncomputable def f82_1_l3 {β : Type} (F : Nat) (v1 : Int) (K0 : List Int → Option β) : Nat → Int → List Int → Option β
  | 0, _, _ => none
  | k + 1, v2, v3 => cond (decide (v2 < 64)) (cond (decide ((v3.length + 1) * 1 ≤ 70368744177664)) (f82_1_l3 F v1 K0 k (IntKind.i64.wrap (v2 + 1)) (v3 ++ [v1])) none) (K0 v3)
noncomputable def f82_1 {β : Type} (F : Nat) (a1 : Int) (K0 : ByteArray → Option β) : Option β := f82_1_l3 F a1 (fun x4 => K0 (ofInts x4)) F 0 []
variable [FZ]
def sh82_1 : Sh := ⟨[.lf (.int .u8)], []⟩
noncomputable def S82_1 (F : Nat) (o : Summ) : Summ := mkS sh82_1 (fun d K => f82_1 F d.1.1 (fun (y0 : ByteArray) => K [.lf (.str y0)] [])) o
noncomputable def code82 : Code := bodyOf Tryd.f82
noncomputable def b82_0 : Code := cB (cB (cR (cL (cR (cR (code82))))))
theorem scopes82 : scopesOf code82 = [] := by kernel_rfl
theorem ranges82 : rangesOf code82 = [] := by kernel_rfl
theorem loops82 : loopsOf code82 = [b82_0] := by kernel_rfl
theorem enter82 : ∀ args w, (callFunc 82 args).run Tryd.prog w = .ok (.enter 82 args) w := enter_of (fn := Tryd.f82) (by kernel_rfl) (by kernel_rfl) (by kernel_rfl)
noncomputable def T82_1 (F : Nat) : FuncId → Option Summ := tab []
def sh82_1_l3 : Sh := ⟨[.lf (.int .u8), .lf (.full 0), .lf (.int .i64)], [some ⟨some false, [.seq (.int .u8) 0]⟩]⟩
noncomputable def G82_1_3 (F k : Nat) : LoopS := mkG sh82_1_l3 [0, 3, 4] (outT [(.exit 0, [3])]) (fun d K => f82_1_l3 F d.1.1 (fun (y0 : List Int) => K (.exit 0) [.tv (.lf (.full 0))] [some ⟨false, [.seq (.int .u8) 0 y0]⟩]) k d.1.2.2.1 d.2.1.2.1) []
noncomputable def LT82_1 (F : Nat) : Nat → Option LoopS := ltab [(3, G82_1_3 F F)]
theorem L82_1_l3g (F k : Nat)   (l3 : Int → (List Int → Option Res) → Nat → Int → List Int → Option Res) (X3 : LoopS) (d : sh82_1_l3.den) (K : KL) : (fun (v1 : Int) (K0 : (List Int → Option Res)) (k : Nat) (v2 : Int) (v3 : List Int) => cond (decide (v2 < 64)) (cond (decide ((v3.length + 1) * 1 ≤ 70368744177664)) (l3 v1 K0 k (IntKind.i64.wrap (v2 + 1)) (v3 ++ [v1])) none) (K0 v3)) d.1.1 (fun (y0 : List Int) => K (.exit 0) [.tv (.lf (.full 0))] [some ⟨false, [.seq (.int .u8) 0 y0]⟩]) k d.1.2.2.1 d.2.1.2.1 = roundOf Tryd.prog (tab []) (xw []) 15 0 (ltab [(3, X3)]) (mkG sh82_1_l3 [0, 3, 4] (outT [(.exit 0, [3])]) (fun d K => l3 d.1.1 (fun (y0 : List Int) => K (.exit 0) [.tv (.lf (.full 0))] [some ⟨false, [.seq (.int .u8) 0 y0]⟩]) k d.1.2.2.1 d.2.1.2.1) []) b82_0 (encT sh82_1_l3.vs d.1) (encH sh82_1_l3.h d.2) K := by kernel_rfl
theorem L82_1_3 (F : Nat) : LoopOK Tryd.prog (T82_1 F) (xw []) 15 0 (LT82_1 F) (G82_1_3 F F) b82_0 :=
  loopOK_of (s := sh82_1_l3) (live := [0, 3, 4]) (out := (outT [(.exit 0, [3])])) (mv := []) (fun k d K => f82_1_l3 F d.1.1 (fun (y0 : List Int) => K (.exit 0) [.tv (.lf (.full 0))] [some ⟨false, [.seq (.int .u8) 0 y0]⟩]) k d.1.2.2.1 d.2.1.2.1) F (fun d K => by kernel_rfl)  (fun k d K => Eq.mp (by kernel_rfl) (L82_1_l3g F k   (f82_1_l3 F) (G82_1_3 F F) d K))
theorem E82_1g (F : Nat)  (l3 : Int → (List Int → Option Res) → Nat → Int → List Int → Option Res)  (d : sh82_1.den) (K : KF) : evBody Tryd.prog (tab []) (xw []) 15 0 (ltab [(3, mkG sh82_1_l3 [0, 3, 4] (outT [(.exit 0, [3])]) (fun d K => l3 d.1.1 (fun (y0 : List Int) => K (.exit 0) [.tv (.lf (.full 0))] [some ⟨false, [.seq (.int .u8) 0 y0]⟩]) F d.1.2.2.1 d.2.1.2.1) [])]) code82 Tryd.f82.results.toList (encT sh82_1.vs d.1) (encH sh82_1.h d.2) K = (fun (a1 : Int) (K0 : (ByteArray → Option Res)) => l3 a1 (fun x4 => K0 (ofInts x4)) F 0 []) d.1.1 (fun (y0 : ByteArray) => K [.lf (.str y0)] []) := by kernel_rfl
theorem E82_1 (F : Nat) (d : sh82_1.den) (K : KF) : evBody Tryd.prog (T82_1 F) (xw []) 15 0 (LT82_1 F) code82 Tryd.f82.results.toList (encT sh82_1.vs d.1) (encH sh82_1.h d.2) K = f82_1 F d.1.1 (fun (y0 : ByteArray) => K [.lf (.str y0)] []) := Eq.mp (by kernel_rfl) (E82_1g F  (f82_1_l3 F)  d K)
theorem S82_1_ok (F : Nat) (o : Summ) (ho : SoundFn Tryd.prog 82 o) : SoundFn Tryd.prog 82 (S82_1 F o) :=
  soundFn_of (fn := Tryd.f82) (c := code82) rfl rfl (by kernel_rfl) tab_nil (by kernel_rfl) (by kernel_rfl) ho (by rw [loops82]; exact (loopsOK_cons (by kernel_rfl) (L82_1_3 F) loopsOK_nil)) (by rw [scopes82]; exact scopesOK_nil) (by rw [ranges82]; exact rangesOK_nil) (E82_1 F)
end Go.Proofs.YtillbabmlfjegaaDoor.X
end

section
namespace Go.Proofs.YtillbabmlfjegaaDoor.X
open Go Go.Proofs.YtillbabmlfjegaaDoor.Ev Go.Proofs
set_option linter.unusedVariables false
set_option linter.unusedSectionVars false
/-! pentimentoref05.Zero -/
noncomputable def f41_1 {β : Type} (F : Nat)  (K0 : ByteArray → Option β) : Option β := f82_1 F 0 (fun x1 => K0 x1) 
variable [FZ]
def sh41_1 : Sh := ⟨[], []⟩
noncomputable def S41_1 (F : Nat) (o : Summ) : Summ := mkS sh41_1 (fun d K => f41_1 F (fun (y0 : ByteArray) => K [.lf (.str y0)] [])) o
noncomputable def code41 : Code := bodyOf Tryd.f41
theorem scopes41 : scopesOf code41 = [] := by kernel_rfl
theorem ranges41 : rangesOf code41 = [] := by kernel_rfl
theorem loops41 : loopsOf code41 = [] := by kernel_rfl
theorem enter41 : ∀ args w, (callFunc 41 args).run Tryd.prog w = .ok (.enter 41 args) w := enter_of (fn := Tryd.f41) (by kernel_rfl) (by kernel_rfl) (by kernel_rfl)
noncomputable def T41_1 (F : Nat) : FuncId → Option Summ := tab [(82, (S82_1 F noS))]
noncomputable def LT41_1 (F : Nat) : Nat → Option LoopS := ltab []
theorem E41_1g (F : Nat) (c82_1 : Int → (ByteArray → Option Res) → Option Res)   (d : sh41_1.den) (K : KF) : evBody Tryd.prog (tab [(82, (mkS sh82_1 (fun d K => c82_1 d.1.1 (fun (y0 : ByteArray) => K [.lf (.str y0)] [])) noS))]) (xw []) 2 0 (ltab []) code41 Tryd.f41.results.toList (encT sh41_1.vs d.1) (encH sh41_1.h d.2) K = (fun (K0 : (ByteArray → Option Res)) => c82_1 0 (fun x1 => K0 x1) ) (fun (y0 : ByteArray) => K [.lf (.str y0)] []) := by kernel_rfl
theorem E41_1 (F : Nat) (d : sh41_1.den) (K : KF) : evBody Tryd.prog (T41_1 F) (xw []) 2 0 (LT41_1 F) code41 Tryd.f41.results.toList (encT sh41_1.vs d.1) (encH sh41_1.h d.2) K = f41_1 F (fun (y0 : ByteArray) => K [.lf (.str y0)] []) := Eq.mp (by kernel_rfl) (E41_1g F (f82_1 F)   d K)
theorem S41_1_ok (F : Nat) (o : Summ) (ho : SoundFn Tryd.prog 41 o) : SoundFn Tryd.prog 41 (S41_1 F o) :=
  soundFn_of (fn := Tryd.f41) (c := code41) rfl rfl (by kernel_rfl) (tab_cons (S82_1_ok F _ (noS_sound enter82)) tab_nil) (by kernel_rfl) (by kernel_rfl) ho (by rw [loops41]; exact loopsOK_nil) (by rw [scopes41]; exact scopesOK_nil) (by rw [ranges41]; exact rangesOK_nil) (E41_1 F)
end Go.Proofs.YtillbabmlfjegaaDoor.X
end

section
namespace Go.Proofs.YtillbabmlfjegaaDoor.X
open Go Go.Proofs.YtillbabmlfjegaaDoor.Ev Go.Proofs
set_option linter.unusedVariables false
set_option linter.unusedSectionVars false
/-! pentimentoref08.Make -/
noncomputable def f11_1 {β : Type} (F : Nat) (a1 : Int) (a2 : ByteArray) (K0 : ByteArray → Int → Option β) : Option β := cond (decide (a1 < 1)) (K0 ByteArray.empty 22) (cond (decide (a1 > 8)) (K0 ByteArray.empty 22) (cond (decide ((a2.size : Int) > 58)) (K0 ByteArray.empty 8) (f40_1 F 1 (IntKind.u64.wrap a1) (fun x1 => f40_1 F 1 (IntKind.u64.wrap (a2.size : Int)) (fun x2 => cond (decide (x1.size + x2.size ≤ 4611686018427387904)) (cond (decide ((x1 ++ x2).size + a2.size ≤ 4611686018427387904)) (f41_1 F  (fun x3 => cond (decide ((0 : Int) ≤ (((x1 ++ x2) ++ a2).size : Int) ∧ (((x1 ++ x2) ++ a2).size : Int) ≤ (60 : Int) ∧ (60 : Int) ≤ (x3.size : Int))) (cond (decide (((x1 ++ x2) ++ a2).size + (x3.extract ((((x1 ++ x2) ++ a2).size : Int).toNat) 60).size ≤ 4611686018427387904)) (f42_1 F (toInts (((x1 ++ x2) ++ a2) ++ (x3.extract ((((x1 ++ x2) ++ a2).size : Int).toNat) 60))) (fun x4 => f40_1 F 4 (IntKind.u64.wrap x4) (fun x5 => cond (decide ((((x1 ++ x2) ++ a2) ++ (x3.extract ((((x1 ++ x2) ++ a2).size : Int).toNat) 60)).size + x5.size ≤ 4611686018427387904)) (K0 ((((x1 ++ x2) ++ a2) ++ (x3.extract ((((x1 ++ x2) ++ a2).size : Int).toNat) 60)) ++ x5) 0) none) ) ) none) none) ) none) none) ) )))
variable [FZ]
def sh11_1 : Sh := ⟨[.lf (.int .i64), .lf (.str)], []⟩
noncomputable def S11_1 (F : Nat) (o : Summ) : Summ := mkS sh11_1 (fun d K => f11_1 F d.1.1 d.1.2.1 (fun (y0 : ByteArray) (y1 : Int) => K [.lf (.str y0), .lf (.int .i64 y1)] [])) o
noncomputable def code11 : Code := bodyOf Tryd.f11
theorem scopes11 : scopesOf code11 = [] := by kernel_rfl
theorem ranges11 : rangesOf code11 = [] := by kernel_rfl
theorem loops11 : loopsOf code11 = [] := by kernel_rfl
theorem enter11 : ∀ args w, (callFunc 11 args).run Tryd.prog w = .ok (.enter 11 args) w := enter_of (fn := Tryd.f11) (by kernel_rfl) (by kernel_rfl) (by kernel_rfl)
noncomputable def T11_1 (F : Nat) : FuncId → Option Summ := tab [(40, (S40_1 F noS)), (41, (S41_1 F noS)), (42, (S42_1 F noS))]
noncomputable def LT11_1 (F : Nat) : Nat → Option LoopS := ltab []
theorem E11_1g (F : Nat) (c40_1 : Int → Int → (ByteArray → Option Res) → Option Res) (c41_1 : (ByteArray → Option Res) → Option Res) (c42_1 : List Int → (Int → Option Res) → Option Res)   (d : sh11_1.den) (K : KF) : evBody Tryd.prog (tab [(40, (mkS sh40_1 (fun d K => c40_1 d.1.1 d.1.2.1 (fun (y0 : ByteArray) => K [.lf (.str y0)] [])) noS)), (41, (mkS sh41_1 (fun d K => c41_1 (fun (y0 : ByteArray) => K [.lf (.str y0)] [])) noS)), (42, (mkS sh42_1 (fun d K => c42_1 d.2.1.2.1 (fun (y0 : Int) => K [.lf (.int .u32 y0)] [some ⟨d.2.1.1, [.seq (.int .u8) 0 d.2.1.2.1]⟩])) noS))]) (xw []) 41 0 (ltab []) code11 Tryd.f11.results.toList (encT sh11_1.vs d.1) (encH sh11_1.h d.2) K = (fun (a1 : Int) (a2 : ByteArray) (K0 : (ByteArray → Int → Option Res)) => cond (decide (a1 < 1)) (K0 ByteArray.empty 22) (cond (decide (a1 > 8)) (K0 ByteArray.empty 22) (cond (decide ((a2.size : Int) > 58)) (K0 ByteArray.empty 8) (c40_1 1 (IntKind.u64.wrap a1) (fun x1 => c40_1 1 (IntKind.u64.wrap (a2.size : Int)) (fun x2 => cond (decide (x1.size + x2.size ≤ 4611686018427387904)) (cond (decide ((x1 ++ x2).size + a2.size ≤ 4611686018427387904)) (c41_1  (fun x3 => cond (decide ((0 : Int) ≤ (((x1 ++ x2) ++ a2).size : Int) ∧ (((x1 ++ x2) ++ a2).size : Int) ≤ (60 : Int) ∧ (60 : Int) ≤ (x3.size : Int))) (cond (decide (((x1 ++ x2) ++ a2).size + (x3.extract ((((x1 ++ x2) ++ a2).size : Int).toNat) 60).size ≤ 4611686018427387904)) (c42_1 (toInts (((x1 ++ x2) ++ a2) ++ (x3.extract ((((x1 ++ x2) ++ a2).size : Int).toNat) 60))) (fun x4 => c40_1 4 (IntKind.u64.wrap x4) (fun x5 => cond (decide ((((x1 ++ x2) ++ a2) ++ (x3.extract ((((x1 ++ x2) ++ a2).size : Int).toNat) 60)).size + x5.size ≤ 4611686018427387904)) (K0 ((((x1 ++ x2) ++ a2) ++ (x3.extract ((((x1 ++ x2) ++ a2).size : Int).toNat) 60)) ++ x5) 0) none) ) ) none) none) ) none) none) ) )))) d.1.1 d.1.2.1 (fun (y0 : ByteArray) (y1 : Int) => K [.lf (.str y0), .lf (.int .i64 y1)] []) := by kernel_rfl
theorem E11_1 (F : Nat) (d : sh11_1.den) (K : KF) : evBody Tryd.prog (T11_1 F) (xw []) 41 0 (LT11_1 F) code11 Tryd.f11.results.toList (encT sh11_1.vs d.1) (encH sh11_1.h d.2) K = f11_1 F d.1.1 d.1.2.1 (fun (y0 : ByteArray) (y1 : Int) => K [.lf (.str y0), .lf (.int .i64 y1)] []) := Eq.mp (by kernel_rfl) (E11_1g F (f40_1 F) (f41_1 F) (f42_1 F)   d K)
theorem S11_1_ok (F : Nat) (o : Summ) (ho : SoundFn Tryd.prog 11 o) : SoundFn Tryd.prog 11 (S11_1 F o) :=
  soundFn_of (fn := Tryd.f11) (c := code11) rfl rfl (by kernel_rfl) (tab_cons (S40_1_ok F _ (noS_sound enter40)) (tab_cons (S41_1_ok F _ (noS_sound enter41)) (tab_cons (S42_1_ok F _ (noS_sound enter42)) tab_nil))) (by kernel_rfl) (by kernel_rfl) ho (by rw [loops11]; exact loopsOK_nil) (by rw [scopes11]; exact scopesOK_nil) (by rw [ranges11]; exact rangesOK_nil) (E11_1 F)
end Go.Proofs.YtillbabmlfjegaaDoor.X
end

section
/- Records: made, opened; the code's and the document's, in one form. -/
namespace Go.Proofs.YtillbabmlfjegaaDoor.X
open Go Go.Proofs.YtillbabmlfjegaaDoor.Ev
set_option linter.unusedSectionVars false
variable [FZ]
set_option linter.unusedVariables false
set_option linter.unusedSimpArgs false

/-! ### Bytes -/

abbrev D (s : ByteArray) : List UInt8 := s.data.toList

theorem extB {s t : ByteArray} (h : D s = D t) : s = t := by
  cases s; cases t
  congr
  exact Array.toList_inj.1 h

theorem D_app (s t : ByteArray) : D (s ++ t) = D s ++ D t := by simp [D]
theorem D_ext (s : ByteArray) (a b : Nat) : D (s.extract a b) = ((D s).drop a).take (b - a) := by
  simp only [D, ByteArray.data_extract, Array.toList_extract, List.extract_eq_take_drop]
theorem D_size (s : ByteArray) : s.size = (D s).length := Array.length_toList.symm
theorem D_ofInts (l : List Int) : D (ofInts l) = l.map fun n => UInt8.ofNat n.toNat := by simp [D, ofInts]
theorem toInts_D (s : ByteArray) : toInts s = (D s).map fun c => (c.toNat : Int) := rfl

theorem loopB (s : ByteArray) : ∀ (m i : Nat) (r : List UInt8), i + m = s.size → ByteArray.toList.loop s i r = r.reverse ++ (D s).drop i
  | 0, i, r, h => by
    rw [ByteArray.toList.loop, if_neg (by omega), List.drop_eq_nil_of_le (by rw [← D_size]; omega), List.append_nil]
  | m + 1, i, r, h => by
    have h1 : i < (D s).length := by rw [← D_size]; omega
    rw [ByteArray.toList.loop, if_pos (by omega), loopB s m (i + 1) _ (by omega), List.drop_eq_getElem_cons h1]
    have : s.get! i = (D s)[i] := by
      have h2 : i < s.data.size := by have := h1; simpa [D] using this
      simp only [ByteArray.get!, D, Array.getElem_toList]
      exact getElem!_pos s.data i h2
    rw [this]; simp

theorem toList_D (s : ByteArray) : s.toList = D s := by
  rw [ByteArray.toList, loopB s s.size 0 [] (by omega)]; rfl

theorem beqB {s t : ByteArray} : (s.toList == t.toList) = decide (s = t) := by
  rw [toList_D, toList_D, Bool.eq_iff_iff]
  simp only [beq_iff_eq, decide_eq_true_eq]
  exact ⟨extB, fun h => by rw [h]⟩

/-! ### A record -/

def front (k : Int) (b : ByteArray) : ByteArray := ⟨(UInt8.ofNat k.toNat :: UInt8.ofNat b.size :: (D b ++ List.replicate (58 - b.size) 0)).toArray⟩
def mkB (k : Int) (b : ByteArray) : ByteArray := front k b ++ ofInts (b4 (crc (toInts (front k b))))
def mkR (k : Int) (b : ByteArray) : ByteArray × Int := if k < 1 ∨ k > 8 then (ByteArray.empty, 22) else if b.size > 58 then (ByteArray.empty, 8) else (mkB k b, 0)

theorem front_D (k : Int) (b : ByteArray) : D (front k b) = UInt8.ofNat k.toNat :: UInt8.ofNat b.size :: (D b ++ List.replicate (58 - b.size) 0) := by simp [D, front]
theorem front_size {k : Int} {b : ByteArray} (h : b.size ≤ 58) : (front k b).size = 60 := by
  rw [D_size, front_D]; simp [← D_size]
  have := D_size b
  simp [D] at this
  omega

theorem crc_r (b : List Int) : 0 ≤ crc b ∧ crc b < 4294967296 := x32 _ _

theorem sumP {β : Type} {s : ByteArray} (h : 60 ≤ s.size) {K : ByteArray → Option β} : f39_1 20000 s K = K (ofInts (b4 (crc (toInts (s.extract 0 60))))) := by
  have hc := crc_r (toInts (s.extract 0 60))
  have hl : (toInts (s.extract 0 60)).length ≤ 60 := by
    rw [toInts_D, D_ext]; simp; omega
  rw [f39_1, ct (by omega), crcP (by omega), wu64 (by omega) (by omega), put4]

theorem ext_all {s : ByteArray} {n : Nat} (h : s.size = n) : s.extract 0 n = s := by
  apply extB
  rw [D_ext, List.drop_zero, List.take_of_length_le (by rw [← D_size]; omega)]

theorem rep0 (n : Nat) : D (rep ⟨#[0]⟩ n) = List.replicate n 0 := by
  show D ⟨(Lib.repeatL [0] n).toArray⟩ = _
  have : ∀ n, Lib.repeatL [(0 : UInt8)] n = List.replicate n 0 := fun n => by
    induction n with
    | zero => rfl
    | succ n ih => simp [Lib.repeatL, ih, List.replicate_succ]
  simp [D, this]

theorem u8n {n : Int} (h : 0 ≤ n ∧ n < 256) : IntKind.u8.wrap n = n := wu8 h.1 h.2

theorem shr0 {n : Int} (h : 0 ≤ n) : ishr .u64 n 0 = n := by
  have e : (2 : Int) ^ (min (0 : Int).toNat IntKind.u64.bits) = 1 := by decide
  rw [ishr, e, Int.fdiv_eq_ediv_of_nonneg _ (by omega), Int.ediv_one]

theorem makeP {β : Type} {k : Int} {b : ByteArray} (hb : b.size ≤ maxLen) {K : ByteArray → Int → Option β} : f10_1 20000 k b K = K (mkR k b).1 (mkR k b).2 := by
  rw [f10_1, mkR]
  by_cases h1 : k < 1
  · rw [ct h1, if_pos (.inl h1)]
  · by_cases h2 : k > 8
    · rw [cf h1, ct h2, if_pos (.inr h2)]
    · rw [cf h1, cf h2, if_neg (by omega)]
      by_cases h3 : b.size > 58
      · rw [ct (by omega), if_pos h3]
      · have hs2 : (ofInts [IntKind.u8.wrap k, IntKind.u8.wrap (b.size : Int)]).size = 2 := by rw [D_size, D_ofInts]; rfl
        have hs : (ofInts [IntKind.u8.wrap k, IntKind.u8.wrap (b.size : Int)] ++ b).size = 2 + b.size := by rw [D_size, D_app, List.length_append, ← D_size, ← D_size, hs2]
        rw [cf (by omega), if_neg h3, ct (by omega), f38_1, hs, w64 (by omega) (by omega), ct ⟨by omega, by omega, by
          have : (⟨#[0]⟩ : ByteArray).size = 1 := rfl
          rw [this]; omega⟩]
        have hf : ofInts [IntKind.u8.wrap k, IntKind.u8.wrap (b.size : Int)] ++ b ++ rep ⟨#[0]⟩ (60 - ((2 + b.size : Nat) : Int)).toNat = front k b := by
          apply extB
          rw [D_app, D_app, rep0, D_ofInts, front_D, u8n (by omega), u8n (by omega), show (60 - ((2 + b.size : Nat) : Int)).toNat = 58 - b.size by omega]
          simp
        have hfs := front_size (k := k) (b := b) (by omega)
        have hr : (rep ⟨#[0]⟩ (60 - ((2 + b.size : Nat) : Int)).toNat).size ≤ 60 := by rw [D_size, rep0]; simp; omega
        rw [ct (by omega), hf, sumP (by omega), ext_all hfs, ct (by
          rw [hfs, D_size, D_ofInts]; simp [b4])]
        rfl

noncomputable def Z64 : ByteArray := ofInts (List.replicate 64 0)
theorem zero64 {β : Type} {K : ByteArray → Option β} : f41_1 20000 K = K Z64 := by kernel_rfl
theorem Z64_D : D Z64 = List.replicate 64 0 := by rw [Z64, D_ofInts]; rfl

theorem makeR {β : Type} {k : Int} {b : ByteArray} (hb : b.size ≤ maxLen) {K : ByteArray → Int → Option β} : f11_1 20000 k b K = K (mkR k b).1 (mkR k b).2 := by
  rw [f11_1, mkR]
  by_cases h1 : k < 1
  · rw [ct h1, if_pos (.inl h1)]
  · by_cases h2 : k > 8
    · rw [cf h1, ct h2, if_pos (.inr h2)]
    · rw [cf h1, cf h2, if_neg (by omega)]
      by_cases h3 : b.size > 58
      · rw [ct (by omega), if_pos h3]
      · have hz : Z64.size = 64 := by rw [D_size, Z64_D]; simp
        have hs2 : (ofInts [k] ++ ofInts [(b.size : Int)]).size = 2 := by rw [D_size, D_app, D_ofInts, D_ofInts]; rfl
        have hs : (ofInts [k] ++ ofInts [(b.size : Int)] ++ b).size = 2 + b.size := by rw [D_size, D_app, List.length_append, ← D_size, ← D_size, hs2]
        rw [cf (by omega), if_neg h3, text1, text1, wu64 (by omega) (by omega), wu64 (by omega) (by omega), shr0 (by omega), shr0 (by omega), u8n (by omega), u8n (by omega)]
        have h11 : ∀ n : Int, (ofInts [n]).size = 1 := fun n => by rw [D_size, D_ofInts]; rfl
        rw [ct (by rw [h11, h11]; omega), ct (by rw [hs2]; omega), zero64, hs, ct (by omega)]
        have hf : ofInts [k] ++ ofInts [(b.size : Int)] ++ b ++ Z64.extract ((2 + b.size : Nat) : Int).toNat 60 = front k b := by
          apply extB
          rw [D_app, D_app, D_app, D_ext, D_ofInts, D_ofInts, front_D, Z64_D, show ((2 + b.size : Nat) : Int).toNat = 2 + b.size by omega, List.drop_replicate, List.take_replicate, show min (60 - (2 + b.size)) (64 - (2 + b.size)) = 58 - b.size by omega]
          simp
        have hfs := front_size (k := k) (b := b) (by omega)
        have hext : (Z64.extract ((2 + b.size : Nat) : Int).toNat 60).size ≤ 60 := by rw [D_size, D_ext]; simp; omega
        have hc := crc_r (toInts (front k b))
        have hl : (toInts (front k b)).length = 60 := by rw [toInts_D, List.length_map, ← D_size]; exact hfs
        rw [ct (by omega), hf, crcR (by omega), wu64 (by omega) (by omega), text4, ct (by
          rw [hfs, D_size, D_ofInts]; simp [b4])]
        rfl

/-! ### What a sector is -/

def byt (s : ByteArray) (i : Nat) : Int := ((s.data.getD i 0).toNat : Int)
theorem byt_r (s : ByteArray) (i : Nat) : 0 ≤ byt s i ∧ byt s i < 256 := by
  have := (s.data.getD i 0).toNat_lt
  unfold byt; omega
def sm (s : ByteArray) : ByteArray := ofInts (b4 (crc (toInts (s.extract 0 60))))
def zer (s : ByteArray) (n : Nat) : Bool := (((D s).drop n).take (60 - n)).all (· == 0)
def kd (s : ByteArray) : Int × Int := if s.size ≠ 64 then (0, 4) else if ((sm s).toList == (s.extract 60 64).toList) = false then (0, 9) else
  if byt s 0 < 1 ∨ byt s 0 > 8 ∨ byt s 1 > 58 ∨ zer s (2 + (byt s 1).toNat) = false then (0, 6) else (byt s 0, 0)

theorem dropW_nil {p : UInt8 → Bool} : ∀ l : List UInt8, l.dropWhile p = [] ↔ l.all p = true
  | [] => by simp
  | x :: r => by
    rw [List.dropWhile_cons, List.all_cons]
    cases h : p x with
    | true => simpa using dropW_nil r
    | false => simp

theorem dropW_head {p : UInt8 → Bool} : ∀ (l : List UInt8) {y : UInt8} {r : List UInt8}, l.dropWhile p = y :: r → p y = false
  | [], y, r, h => by cases h
  | x :: l, y, r, h => by
    rw [List.dropWhile_cons] at h
    cases hx : p x with
    | true => rw [hx, if_pos rfl] at h; exact dropW_head l h
    | false => rw [hx, if_neg (by simp)] at h; injection h with h1 h2; rw [← h1]; exact hx

theorem trim_nil (l : List UInt8) : Lib.trimS l [0] = [] ↔ l.all (· == 0) = true := by
  have hp : ∀ x : UInt8, [(0 : UInt8)].contains x = (x == 0) := fun x => by rw [Bool.eq_iff_iff]; simp
  rw [Lib.trimS, Lib.trimLeftS, Lib.trimRightS, dropW_nil]
  constructor
  · intro h
    cases hq : l.reverse.dropWhile ([(0 : UInt8)].contains ·) with
    | nil =>
      have := (dropW_nil _).1 hq
      rw [List.all_reverse] at this
      simpa [hp] using this
    | cons y r =>
      have h1 := dropW_head _ hq
      rw [hq, List.all_reverse, List.all_cons, h1] at h
      cases h
  · intro h
    have : l.reverse.dropWhile ([(0 : UInt8)].contains ·) = [] := (dropW_nil _).2 (by rw [List.all_reverse]; simpa [hp] using h)
    rw [this]; rfl

theorem trm0 (x : ByteArray) : ((trm x ⟨#[0]⟩).toList == ByteArray.empty.toList) = (D x).all (· == 0) := by
  rw [beqB, Bool.eq_iff_iff, decide_eq_true_eq, ← trim_nil]
  constructor
  · intro h
    have : D (trm x ⟨#[0]⟩) = [] := by rw [h]; rfl
    simpa [D, trm] using this
  · intro h
    apply extB
    show D (trm x ⟨#[0]⟩) = []
    simpa [D, trm] using h

theorem kindP {β : Type} {s : ByteArray} {K : Int → Int → Option β} : f15_1 20000 s K = K (kd s).1 (kd s).2 := by
  rw [f15_1, f43_1, kd]
  by_cases h1 : s.size = 64
  · have b0 := byt_r s 0
    have b1 := byt_r s 1
    have e0 : ((s.data.getD 0 0).toNat : Int) = byt s 0 := rfl
    have e1 : ((s.data.getD 1 0).toNat : Int) = byt s 1 := rfl
    rw [show ((s.size : Int) == 64) = true by simp; omega, Bool.not_true, cond_false, if_neg (by omega), ct (by omega), sumP (by omega), show ((s.size : Int).toNat) = 64 by omega, e0, e1, w64 (x := byt s 0) (by omega) (by omega), w64 (x := byt s 1) (by omega) (by omega), ← sm]
    cases h2 : ((sm s).toList == (s.extract 60 64).toList) with
    | false => rfl
    | true =>
      rw [Bool.not_true, cond_false, if_neg (by simp), ct (by omega), ct (by omega)]
      by_cases h3 : byt s 0 < 1
      · rw [ct h3, if_pos (.inl h3)]
      · by_cases h4 : byt s 0 > 8
        · rw [cf h3, ct h4, if_pos (.inr (.inl h4))]
        · by_cases h5 : byt s 1 > 58
          · rw [cf h3, cf h4, ct h5, if_pos (.inr (.inr (.inl h5)))]
          · have hn : (2 + byt s 1).toNat = 2 + (byt s 1).toNat := by omega
            have hx : D (s.extract (2 + byt s 1).toNat 60) = ((D s).drop (2 + (byt s 1).toNat)).take (60 - (2 + (byt s 1).toNat)) := by rw [D_ext, hn]
            have hxs : (s.extract (2 + byt s 1).toNat 60).size ≤ 64 := by rw [D_size, hx]; simp; omega
            rw [cf h3, cf h4, cf h5, w64 (x := 2 + byt s 1) (by omega) (by omega), ct (by omega), f44_1, ct ⟨by omega, by decide, by decide⟩, trm0, hx, ← zer]
            cases h6 : zer s (2 + (byt s 1).toNat) with
            | true => rw [Bool.not_true, cond_false, if_neg (by simp; omega)]
            | false => rw [Bool.not_false, cond_true, if_pos (.inr (.inr (.inr rfl)))]
  · rw [show ((s.size : Int) == 64) = false by simp; omega, Bool.not_false, cond_true, if_pos h1]

theorem zerL {β : Type} {s : ByteArray} {K0 K1 : Option β} (hs : s.size = 64) : ∀ (m i k : Nat), i + m = 60 → m < k → f16_1_l8 20000 s K0 K1 k (i : Int) = if zer s i then K1 else K0
  | _, _, 0, _, h => by omega
  | 0, i, k + 1, hi, _ => by rw [f16_1_l8, cf (by omega), zer, show 60 - i = 0 by omega]; simp
  | m + 1, i, k + 1, hi, hk => by
    have hl : i < (D s).length := by rw [← D_size]; omega
    have hg : s.data.getD i 0 = (D s)[i] := by
      have h2 : i < s.data.size := by have := hl; simpa [D] using this
      simp only [Array.getD_eq_getD_getElem?, Array.getElem?_eq_getElem h2, Option.getD_some, D, Array.getElem_toList]
    rw [f16_1_l8, ct (by omega), ct (by omega), show ((i : Int)).toNat = i from rfl, hg, w64 (by omega) (by omega), zer, List.drop_eq_getElem_cons hl, show 60 - i = (60 - (i + 1)) + 1 by omega, List.take_succ_cons, List.all_cons, ← zer]
    have ih := zerL (K0 := K0) (K1 := K1) hs m (i + 1) k (by omega) (by omega)
    push_cast at ih
    by_cases h0 : (D s)[i] = 0
    · rw [h0, show (((0 : UInt8).toNat : Int) != 0) = false from rfl, cond_false, ih]; simp
    · have : (((D s)[i].toNat : Int) != 0) = true := by
        simp only [bne_iff_ne, ne_eq]
        intro h
        exact h0 (UInt8.toNat_inj.1 (by simpa using h))
      rw [this, cond_true, beq_eq_false_iff_ne.2 h0]; simp

theorem kindR {β : Type} {s : ByteArray} {K : Int → Int → Option β} : f16_1 20000 s K = K (kd s).1 (kd s).2 := by
  rw [f16_1, f45_1, kd]
  by_cases h1 : s.size = 64
  · have b0 := byt_r s 0
    have b1 := byt_r s 1
    have e0 : ((s.data.getD 0 0).toNat : Int) = byt s 0 := rfl
    have e1 : ((s.data.getD 1 0).toNat : Int) = byt s 1 := rfl
    have hc := crc_r (toInts (s.extract 0 60))
    have hl : (toInts (s.extract 0 60)).length ≤ 60 := by
      rw [toInts_D, D_ext]; simp; omega
    rw [show ((s.size : Int) == 64) = true by simp; omega, Bool.not_true, cond_false, if_neg (by omega), ct (by omega), ct (by omega), crcR (by omega), wu64 (by omega) (by omega), text4, show ((s.size : Int).toNat) = 64 by omega, e0, e1, w64 (x := byt s 0) (by omega) (by omega), w64 (x := byt s 1) (by omega) (by omega), ← sm]
    cases h2 : ((sm s).toList == (s.extract 60 64).toList) with
    | false => rfl
    | true =>
      rw [Bool.not_true, cond_false, if_neg (by simp), ct (by omega)]
      by_cases h3 : byt s 0 < 1
      · rw [ct h3, if_pos (.inl h3)]
      · by_cases h4 : byt s 0 > 8
        · rw [cf h3, ct (by omega), ct h4, if_pos (.inr (.inl h4))]
        · by_cases h5 : byt s 1 > 58
          · rw [cf h3, ct (by omega), cf h4, ct (by omega), ct h5, if_pos (.inr (.inr (.inl h5)))]
          · rw [cf h3, ct (by omega), cf h4, ct (by omega), cf h5, ct (by omega), w64 (x := 2 + byt s 1) (by omega) (by omega), ct (by omega), show (2 + byt s 1) = ((2 + (byt s 1).toNat : Nat) : Int) by omega, zerL h1 (60 - (2 + (byt s 1).toNat)) (2 + (byt s 1).toNat) 20000 (by omega) (by omega)]
            cases h6 : zer s (2 + (byt s 1).toNat) with
            | true => rw [if_pos rfl, if_neg (by simp; omega)]
            | false => rw [if_neg (by simp), if_pos (.inr (.inr (.inr rfl)))]
  · rw [show ((s.size : Int) == 64) = false by simp; omega, Bool.not_false, cond_true, if_pos h1]

theorem kd_size {s : ByteArray} (h : (kd s).2 = 0) : s.size = 64 ∧ byt s 1 ≤ 58 ∧ zer s (2 + (byt s 1).toNat) = true ∧ (kd s).1 = byt s 0 ∧ 1 ≤ byt s 0 ∧ byt s 0 ≤ 8 ∧ ((sm s).toList == (s.extract 60 64).toList) = true := by
  unfold kd at h ⊢
  split at h
  · cases h
  · rename_i h1
    split at h
    · cases h
    · rename_i h2
      split at h
      · cases h
      · rename_i h3
        rw [if_neg h1, if_neg h2, if_neg h3]
        refine ⟨by omega, by omega, ?_, rfl, by omega, by omega, by simpa using h2⟩
        cases hz : zer s (2 + (byt s 1).toNat) with
        | true => rfl
        | false => exact (h3 (.inr (.inr (.inr hz)))).elim

def opn (k : Int) (s : ByteArray) : ByteArray × Int := if (kd s).2 ≠ 0 then (ByteArray.empty, (kd s).2) else if (kd s).1 ≠ k then (ByteArray.empty, 22) else (s.extract 2 (2 + (byt s 1).toNat), 0)

theorem openP {β : Type} {k : Int} {s : ByteArray} {K : ByteArray → Int → Option β} : f13_1 20000 k s K = K (opn k s).1 (opn k s).2 := by
  rw [f13_1, kindP, opn]
  have e1 : ((s.data.getD 1 0).toNat : Int) = byt s 1 := rfl
  have b1 := byt_r s 1
  by_cases h1 : (kd s).2 = 0
  · obtain ⟨q1, q2, _⟩ := kd_size h1
    rw [h1, show ((0 : Int) != 0) = false from rfl, cond_false, if_neg (by simp), e1, w64 (x := byt s 1) (by omega) (by omega), w64 (x := 2 + byt s 1) (by omega) (by omega)]
    by_cases h2 : (kd s).1 = k
    · rw [h2, show (k != k) = false by simp, cond_false, if_neg (by simp), ct (by omega), ct (by omega), show (2 + byt s 1).toNat = 2 + (byt s 1).toNat by omega]
    · rw [show ((kd s).1 != k) = true by simp [h2], cond_true, if_pos h2]
  · rw [show ((kd s).2 != 0) = true by simp [h1], cond_true, if_pos h1]

theorem openR {β : Type} {k : Int} {s : ByteArray} {K : ByteArray → Int → Option β} : f14_1 20000 k s K = K (opn k s).1 (opn k s).2 := by
  rw [f14_1, kindR, opn]
  have e1 : ((s.data.getD 1 0).toNat : Int) = byt s 1 := rfl
  have b1 := byt_r s 1
  by_cases h1 : (kd s).2 = 0
  · obtain ⟨q1, q2, _⟩ := kd_size h1
    rw [h1, show ((0 : Int) != 0) = false from rfl, cond_false, if_neg (by simp), e1, w64 (x := byt s 1) (by omega) (by omega), w64 (x := 2 + byt s 1) (by omega) (by omega)]
    by_cases h2 : (kd s).1 = k
    · rw [h2, show (k != k) = false by simp, cond_false, if_neg (by simp), ct (by omega), ct (by omega), show (2 + byt s 1).toNat = 2 + (byt s 1).toNat by omega]
    · rw [show ((kd s).1 != k) = true by simp [h2], cond_true, if_pos h2]
  · rw [show ((kd s).2 != 0) = true by simp [h1], cond_true, if_pos h1]

end Go.Proofs.YtillbabmlfjegaaDoor.X
end

section
/- Records: what is made is opened again, and the other way round. -/
namespace Go.Proofs.YtillbabmlfjegaaDoor.X
open Go Go.Proofs.YtillbabmlfjegaaDoor.Ev
set_option linter.unusedSectionVars false
variable [FZ]
set_option linter.unusedVariables false
set_option linter.unusedSimpArgs false

theorem mkB_D (k : Int) (b : ByteArray) : D (mkB k b) = UInt8.ofNat k.toNat :: UInt8.ofNat b.size :: (D b ++ (List.replicate (58 - b.size) 0 ++ D (ofInts (b4 (crc (toInts (front k b))))))) := by
  rw [mkB, D_app, front_D]; simp

theorem b4_size (n : Int) : (ofInts (b4 n)).size = 4 := by rw [D_size, D_ofInts]; rfl

theorem mkB_size {k : Int} {b : ByteArray} (h : b.size ≤ 58) : (mkB k b).size = 64 := by
  have hf := front_size (k := k) h
  have hc := b4_size (crc (toInts (front k b)))
  rw [D_size] at hf hc
  rw [D_size, mkB, D_app, List.length_append, hf, hc]

theorem mkB_front {k : Int} {b : ByteArray} (h : b.size ≤ 58) : (mkB k b).extract 0 60 = front k b := by
  have hf := front_size (k := k) h
  rw [D_size] at hf
  apply extB
  rw [D_ext, mkB, D_app, List.drop_zero, List.take_append_of_le_length (by omega), List.take_of_length_le (by omega)]

theorem mkB_sum {k : Int} {b : ByteArray} (h : b.size ≤ 58) : (mkB k b).extract 60 64 = sm (mkB k b) := by
  have hf := front_size (k := k) h
  have hc := b4_size (crc (toInts (front k b)))
  rw [D_size] at hf hc
  rw [sm, mkB_front h]
  apply extB
  rw [D_ext, mkB, D_app, List.drop_append_of_le_length (by omega), List.drop_eq_nil_of_le (by omega), List.nil_append, List.take_of_length_le (by omega)]

theorem getD_D (s : ByteArray) (i : Nat) : s.data.getD i 0 = (D s).getD i 0 := by simp [D]

theorem mkB_b0 {k : Int} {b : ByteArray} (h1 : 1 ≤ k) (h2 : k ≤ 8) : byt (mkB k b) 0 = k := by
  rw [byt, getD_D, mkB_D]
  show ((UInt8.ofNat k.toNat).toNat : Int) = k
  rw [UInt8.toNat_ofNat']; omega

theorem mkB_b1 {k : Int} {b : ByteArray} (h : b.size ≤ 58) : byt (mkB k b) 1 = (b.size : Int) := by
  rw [byt, getD_D, mkB_D]
  show ((UInt8.ofNat b.size).toNat : Int) = b.size
  rw [UInt8.toNat_ofNat']; omega

theorem mkB_drop {k : Int} {b : ByteArray} : (D (mkB k b)).drop (2 + b.size) = List.replicate (58 - b.size) 0 ++ D (ofInts (b4 (crc (toInts (front k b))))) := by
  have h := D_size b
  rw [mkB_D, show 2 + b.size = b.size + 1 + 1 by omega, List.drop_succ_cons, List.drop_succ_cons, List.drop_append_of_le_length (by omega), List.drop_eq_nil_of_le (by omega), List.nil_append]

theorem mkB_kd {k : Int} {b : ByteArray} (h1 : 1 ≤ k) (h2 : k ≤ 8) (h : b.size ≤ 58) : kd (mkB k b) = (k, 0) := by
  rw [kd, mkB_size h, if_neg (by omega), mkB_sum h, if_neg (by simp), mkB_b0 h1 h2, mkB_b1 h, if_neg]
  rw [show (2 + ((b.size : Nat) : Int).toNat) = 2 + b.size by omega, zer, mkB_drop, List.take_append_of_le_length (by simp; omega), List.take_of_length_le (by simp; omega)]
  simp; omega

theorem mkB_open {k : Int} {b : ByteArray} (h1 : 1 ≤ k) (h2 : k ≤ 8) (h : b.size ≤ 58) : opn k (mkB k b) = (b, 0) := by
  have hs := D_size b
  rw [opn, mkB_kd h1 h2 h, if_neg (by simp), if_neg (by simp), mkB_b1 h, show (2 + ((b.size : Nat) : Int).toNat) = 2 + b.size by omega]
  congr 1
  apply extB
  rw [D_ext, mkB_D, show (2 : Nat) = 1 + 1 from rfl, List.drop_succ_cons, List.drop_succ_cons, List.drop_zero, show 1 + 1 + b.size - (1 + 1) = b.size by omega, List.take_append_of_le_length (by omega), List.take_of_length_le (by omega)]

theorem all0 : ∀ (l : List UInt8), l.all (· == 0) = true → l = List.replicate l.length 0
  | [], _ => rfl
  | x :: r, h => by
    rw [List.all_cons, Bool.and_eq_true, beq_iff_eq] at h
    rw [List.length_cons, List.replicate_succ, ← all0 r h.2, h.1]

theorem opn_mk {k : Int} {s b : ByteArray} (h : opn k s = (b, 0)) : mkR k b = (s, 0) := by
  unfold opn at h
  split at h
  · rename_i h1
    injection h with _ h2
    exact (h1 h2).elim
  · rename_i h1
    split at h
    · injection h with _ h2; cases h2
    · rename_i h2
      injection h with h3 _
      have h1' : (kd s).2 = 0 := Classical.not_not.1 h1
      obtain ⟨q1, q2, q3, q4, q5, q6, q7⟩ := kd_size h1'
      have hk : byt s 0 = k := q4.symm.trans (Classical.not_not.1 h2)
      have hsz : (D s).length = 64 := by rw [← D_size]; exact q1
      have hb1 := byt_r s 1
      have hDb : D b = ((D s).drop 2).take (byt s 1).toNat := by rw [← h3, D_ext]; congr 1; omega
      have hbs : b.size = (byt s 1).toNat := by rw [D_size, hDb]; simp; omega
      have hmem : ∀ i, i < 64 → ∃ x, (D s)[i]? = some x := fun i hi => ⟨_, List.getElem?_eq_getElem (by omega)⟩
      have hf : front k b = s.extract 0 60 := by
        apply extB
        rw [front_D, D_ext, List.drop_zero, hbs, hDb, ← hk, byt, getD_D, byt, getD_D]
        rw [byt, getD_D] at q3 q2 hb1
        generalize hn : (((D s).getD 1 0).toNat : Int) = n at q3 q2 hb1
        match hq : D s, hsz with
        | x :: y :: r, hsz =>
          rw [hq] at hn
          have hx : UInt8.ofNat ((((x :: y :: r).getD 0 0).toNat : Int).toNat) = x := by simp
          have hy : UInt8.ofNat n.toNat = y := by rw [← hn]; simp
          rw [hx, hy]
          rw [zer, hq] at q3
          have hz := all0 _ q3
          rw [show 2 + n.toNat = n.toNat + 1 + 1 by omega, List.drop_succ_cons, List.drop_succ_cons] at hz
          simp only [List.length_cons] at hsz
          have hlen : (List.take (60 - (n.toNat + 1 + 1)) (List.drop n.toNat r)).length = 58 - n.toNat := by simp; omega
          rw [hlen] at hz
          rw [← hz, show (2 : Nat) = 1 + 1 from rfl, List.drop_succ_cons, List.drop_succ_cons, List.drop_zero, show 60 - 0 = 58 + 1 + 1 from rfl, List.take_succ_cons, List.take_succ_cons, show 60 - (n.toNat + 1 + 1) = 58 - n.toNat by omega]
          congr 2
          have := List.take_append_drop n.toNat (r.take 58)
          rw [List.take_take, List.drop_take, Nat.min_eq_left (by omega)] at this
          exact this
      rw [mkR, if_neg (by omega), if_neg (by omega)]
      congr 1
      have q8 : sm s = s.extract 60 64 := by
        rw [beqB] at q7; exact of_decide_eq_true q7
      rw [mkB, hf, ← sm, q8]
      apply extB
      rw [D_app, D_ext, D_ext, List.drop_zero, show 64 - 60 = 4 from rfl, List.take_of_length_le (l := (D s).drop 60) (by simp; omega)]
      exact List.take_append_drop 60 (D s)

end Go.Proofs.YtillbabmlfjegaaDoor.X
end

section
namespace Go.Proofs.YtillbabmlfjegaaDoor.X
open Go Go.Proofs.YtillbabmlfjegaaDoor.Ev Go.Proofs
set_option linter.unusedVariables false
set_option linter.unusedSectionVars false
/-! pentimentoref01.Get -/
noncomputable def f94_1_l7 {β : Type} (F : Nat) (v1 : Int) (v2 : Int) (v5 : List Int) (K0 : Int → Option β) : Nat → Int → Int → Option β
  | 0, _, _ => none
  | k + 1, v3, v4 => cond (decide (v4 < v2)) (cond (decide ((0 : Int) ≤ IntKind.i64.wrap (v1 + v4) ∧ IntKind.i64.wrap (v1 + v4) < ((v5.length : Nat) : Int))) (cond (decide (0 + ((IntKind.i64.wrap (v1 + v4)).toNat) < v5.length)) (f94_1_l7 F v1 v2 v5 K0 k (IntKind.u64.wrap ((IntKind.u64.wrap (v3 * 256)) + (IntKind.u64.wrap (v5.getD (0 + ((IntKind.i64.wrap (v1 + v4)).toNat)) 0)))) (IntKind.i64.wrap (v4 + 1))) none) none) (K0 v3)
noncomputable def f94_1 {β : Type} (F : Nat) (a1 : Int) (a2 : Int) (a3 : List Int) (K0 : Int → Int → Option β) : Option β := cond (decide (a2 < 1)) (K0 0 2) (cond (decide (a2 > 8)) (K0 0 2) (cond (decide (a1 < 0)) (K0 0 2) (cond (decide (a1 > ((a3.length : Nat) : Int))) (K0 0 7) (cond (decide (IntKind.i64.wrap (((a3.length : Nat) : Int) - a1) < a2)) (K0 0 7) (f94_1_l7 F a1 a2 a3 (fun x6 => K0 x6 0) F 0 0)))))
variable [FZ]
def sh94_1 : Sh := ⟨[.lf (.full 0), .lf (.int .i64), .lf (.int .i64)], [some ⟨none, [.seq (.int .u8) 0]⟩]⟩
noncomputable def S94_1 (F : Nat) (o : Summ) : Summ := mkS sh94_1 (fun d K => f94_1 F d.1.2.1 d.1.2.2.1 d.2.1.2.1 (fun (y0 : Int) (y1 : Int) => K [.lf (.int .u64 y0), .lf (.int .i64 y1)] [some ⟨d.2.1.1, [.seq (.int .u8) 0 d.2.1.2.1]⟩])) o
noncomputable def code94 : Code := bodyOf Tryd.f94
noncomputable def b94_0 : Code := cB (cB (cR (cL (cR (cR (cR (cR (code94))))))))
theorem scopes94 : scopesOf code94 = [] := by kernel_rfl
theorem ranges94 : rangesOf code94 = [] := by kernel_rfl
theorem loops94 : loopsOf code94 = [b94_0] := by kernel_rfl
theorem enter94 : ∀ args w, (callFunc 94 args).run Tryd.prog w = .ok (.enter 94 args) w := enter_of (fn := Tryd.f94) (by kernel_rfl) (by kernel_rfl) (by kernel_rfl)
noncomputable def T94_1 (F : Nat) : FuncId → Option Summ := tab []
def sh94_1_l7 : Sh := ⟨[.lf (.full 0), .lf (.int .i64), .lf (.int .i64), .lf (.int .u64), .lf (.int .i64)], [some ⟨none, [.seq (.int .u8) 0]⟩]⟩
noncomputable def G94_1_7 (F k : Nat) : LoopS := mkG sh94_1_l7 [0, 1, 2, 8, 9] (outT [(.exit 0, [8])]) (fun d K => f94_1_l7 F d.1.2.1 d.1.2.2.1 d.2.1.2.1 (fun (y0 : Int) => K (.exit 0) [.tv (.lf (.int .u64 y0))] [some ⟨d.2.1.1, [.seq (.int .u8) 0 d.2.1.2.1]⟩]) k d.1.2.2.2.1 d.1.2.2.2.2.1) []
noncomputable def LT94_1 (F : Nat) : Nat → Option LoopS := ltab [(7, G94_1_7 F F)]
theorem L94_1_l7g (F k : Nat)   (l7 : Int → Int → List Int → (Int → Option Res) → Nat → Int → Int → Option Res) (X7 : LoopS) (d : sh94_1_l7.den) (K : KL) : (fun (v1 : Int) (v2 : Int) (v5 : List Int) (K0 : (Int → Option Res)) (k : Nat) (v3 : Int) (v4 : Int) => cond (decide (v4 < v2)) (cond (decide ((0 : Int) ≤ IntKind.i64.wrap (v1 + v4) ∧ IntKind.i64.wrap (v1 + v4) < ((v5.length : Nat) : Int))) (cond (decide (0 + ((IntKind.i64.wrap (v1 + v4)).toNat) < v5.length)) (l7 v1 v2 v5 K0 k (IntKind.u64.wrap ((IntKind.u64.wrap (v3 * 256)) + (IntKind.u64.wrap (v5.getD (0 + ((IntKind.i64.wrap (v1 + v4)).toNat)) 0)))) (IntKind.i64.wrap (v4 + 1))) none) none) (K0 v3)) d.1.2.1 d.1.2.2.1 d.2.1.2.1 (fun (y0 : Int) => K (.exit 0) [.tv (.lf (.int .u64 y0))] [some ⟨d.2.1.1, [.seq (.int .u8) 0 d.2.1.2.1]⟩]) k d.1.2.2.2.1 d.1.2.2.2.2.1 = roundOf Tryd.prog (tab []) (xw []) 48 1 (ltab [(7, X7)]) (mkG sh94_1_l7 [0, 1, 2, 8, 9] (outT [(.exit 0, [8])]) (fun d K => l7 d.1.2.1 d.1.2.2.1 d.2.1.2.1 (fun (y0 : Int) => K (.exit 0) [.tv (.lf (.int .u64 y0))] [some ⟨d.2.1.1, [.seq (.int .u8) 0 d.2.1.2.1]⟩]) k d.1.2.2.2.1 d.1.2.2.2.2.1) []) b94_0 (encT sh94_1_l7.vs d.1) (encH sh94_1_l7.h d.2) K := by kernel_rfl
theorem L94_1_7 (F : Nat) : LoopOK Tryd.prog (T94_1 F) (xw []) 48 1 (LT94_1 F) (G94_1_7 F F) b94_0 :=
  loopOK_of (s := sh94_1_l7) (live := [0, 1, 2, 8, 9]) (out := (outT [(.exit 0, [8])])) (mv := []) (fun k d K => f94_1_l7 F d.1.2.1 d.1.2.2.1 d.2.1.2.1 (fun (y0 : Int) => K (.exit 0) [.tv (.lf (.int .u64 y0))] [some ⟨d.2.1.1, [.seq (.int .u8) 0 d.2.1.2.1]⟩]) k d.1.2.2.2.1 d.1.2.2.2.2.1) F (fun d K => by kernel_rfl)  (fun k d K => Eq.mp (by kernel_rfl) (L94_1_l7g F k   (f94_1_l7 F) (G94_1_7 F F) d K))
theorem E94_1g (F : Nat)  (l7 : Int → Int → List Int → (Int → Option Res) → Nat → Int → Int → Option Res)  (d : sh94_1.den) (K : KF) : evBody Tryd.prog (tab []) (xw []) 48 1 (ltab [(7, mkG sh94_1_l7 [0, 1, 2, 8, 9] (outT [(.exit 0, [8])]) (fun d K => l7 d.1.2.1 d.1.2.2.1 d.2.1.2.1 (fun (y0 : Int) => K (.exit 0) [.tv (.lf (.int .u64 y0))] [some ⟨d.2.1.1, [.seq (.int .u8) 0 d.2.1.2.1]⟩]) F d.1.2.2.2.1 d.1.2.2.2.2.1) [])]) code94 Tryd.f94.results.toList (encT sh94_1.vs d.1) (encH sh94_1.h d.2) K = (fun (a1 : Int) (a2 : Int) (a3 : List Int) (K0 : (Int → Int → Option Res)) => cond (decide (a2 < 1)) (K0 0 2) (cond (decide (a2 > 8)) (K0 0 2) (cond (decide (a1 < 0)) (K0 0 2) (cond (decide (a1 > ((a3.length : Nat) : Int))) (K0 0 7) (cond (decide (IntKind.i64.wrap (((a3.length : Nat) : Int) - a1) < a2)) (K0 0 7) (l7 a1 a2 a3 (fun x6 => K0 x6 0) F 0 0)))))) d.1.2.1 d.1.2.2.1 d.2.1.2.1 (fun (y0 : Int) (y1 : Int) => K [.lf (.int .u64 y0), .lf (.int .i64 y1)] [some ⟨d.2.1.1, [.seq (.int .u8) 0 d.2.1.2.1]⟩]) := by kernel_rfl
theorem E94_1 (F : Nat) (d : sh94_1.den) (K : KF) : evBody Tryd.prog (T94_1 F) (xw []) 48 1 (LT94_1 F) code94 Tryd.f94.results.toList (encT sh94_1.vs d.1) (encH sh94_1.h d.2) K = f94_1 F d.1.2.1 d.1.2.2.1 d.2.1.2.1 (fun (y0 : Int) (y1 : Int) => K [.lf (.int .u64 y0), .lf (.int .i64 y1)] [some ⟨d.2.1.1, [.seq (.int .u8) 0 d.2.1.2.1]⟩]) := Eq.mp (by kernel_rfl) (E94_1g F  (f94_1_l7 F)  d K)
theorem S94_1_ok (F : Nat) (o : Summ) (ho : SoundFn Tryd.prog 94 o) : SoundFn Tryd.prog 94 (S94_1 F o) :=
  soundFn_of (fn := Tryd.f94) (c := code94) rfl rfl (by kernel_rfl) tab_nil (by kernel_rfl) (by kernel_rfl) ho (by rw [loops94]; exact (loopsOK_cons (by kernel_rfl) (L94_1_7 F) loopsOK_nil)) (by rw [scopes94]; exact scopesOK_nil) (by rw [ranges94]; exact rangesOK_nil) (E94_1 F)
end Go.Proofs.YtillbabmlfjegaaDoor.X
end

section
/- Numbers read from bytes; the code's and the document's, in one form. -/
namespace Go.Proofs.YtillbabmlfjegaaDoor.X
open Go Go.Proofs.YtillbabmlfjegaaDoor.Ev
set_option linter.unusedSectionVars false
variable [FZ]
set_option linter.unusedVariables false
set_option linter.unusedSimpArgs false

def num (v : Int) (l : List Int) : Int := l.foldl (fun v b => v * 256 + b) v

theorem shlor {v b : Int} (hv : 0 ≤ v ∧ v < 72057594037927936) (hb : 0 ≤ b ∧ b < 256) : ior .u64 (ishl .u64 v 8) b = v * 256 + b := by
  obtain ⟨V, rfl⟩ : ∃ V : Nat, v = (V : Int) := ⟨v.toNat, by omega⟩
  obtain ⟨B, rfl⟩ : ∃ B : Nat, b = (B : Int) := ⟨b.toNat, by omega⟩
  have e : (2 : Int) ^ (min (8 : Int).toNat IntKind.u64.bits) = 256 := by decide
  have e1 : ishl .u64 (V : Int) 8 = ((V * 256 : Nat) : Int) := by
    rw [ishl, e, wu64 (by omega) (by omega)]; omega
  rw [e1, or64 (by omega) (by omega)]
  have := Nat.two_pow_add_eq_or_of_lt (i := 8) (b := B) (by omega) V
  have h2 : 2 ^ 8 * V = V * 256 := by omega
  rw [h2] at this
  rw [← this]; omega

theorem getPl {β : Type} {F at_ w : Nat} {l : List Int} {K : Int → Option β} (hw : w ≤ 8) (hl : at_ + w ≤ l.length) (hb : ∀ x ∈ l, 0 ≤ x ∧ x < 256) : ∀ (m i k : Nat) (v : Int), m + i = w → m < k → 0 ≤ v ∧ v < 256 ^ i →
    f93_1_l7 F at_ w (w : Int) l K k v (i : Int) = K (num v ((l.drop (at_ + i)).take m))
  | _, _, 0, _, _, h, _ => by omega
  | 0, i, k + 1, v, hi, _, _ => by rw [f93_1_l7, cf (by omega)]; rfl
  | m + 1, i, k + 1, v, hi, hk, hv => by
    have h1 : at_ + i < l.length := by omega
    have hx := hb _ (List.getElem_mem h1)
    have hg : l.getD (at_ + (i : Int).toNat) 0 = l[at_ + i] := by simp [h1]
    have hp : (256 : Int) ^ i ≤ 256 ^ 7 := by
      have : (256 : Nat) ^ i ≤ 256 ^ 7 := Nat.pow_le_pow_right (by decide) (by omega)
      have h := Int.ofNat_le.2 this
      rw [Int.natCast_pow, Int.natCast_pow] at h
      exact h
    have hv2 : v * 256 + l[at_ + i] < 256 ^ (i + 1) := by rw [Int.pow_succ]; omega
    rw [f93_1_l7, ct (by omega), ct (by omega), ct (by omega), hg, wu64 (by omega) (by omega), shlor ⟨hv.1, by omega⟩ hx, w64 (by omega) (by omega), List.drop_eq_getElem_cons h1, List.take_succ_cons, num, List.foldl_cons, ← num]
    exact getPl hw hl hb m (i + 1) k _ (by omega) (by omega) ⟨by omega, hv2⟩

theorem getRl {β : Type} {F at_ w : Nat} {l : List Int} {K : Int → Option β} (hw : w ≤ 8) (hl : at_ + w ≤ l.length) (hll : l.length ≤ 100000) (hb : ∀ x ∈ l, 0 ≤ x ∧ x < 256) : ∀ (m i k : Nat) (v : Int), m + i = w → m < k → 0 ≤ v ∧ v < 256 ^ i →
    f94_1_l7 F (at_ : Int) (w : Int) l K k v (i : Int) = K (num v ((l.drop (at_ + i)).take m))
  | _, _, 0, _, _, h, _ => by omega
  | 0, i, k + 1, v, hi, _, _ => by rw [f94_1_l7, cf (by omega)]; rfl
  | m + 1, i, k + 1, v, hi, hk, hv => by
    have h1 : at_ + i < l.length := by omega
    have hx := hb _ (List.getElem_mem h1)
    have hg : l.getD (0 + ((at_ : Int) + (i : Int)).toNat) 0 = l[at_ + i] := by
      rw [show 0 + ((at_ : Int) + (i : Int)).toNat = at_ + i by omega]; simp [h1]
    have hp : (256 : Int) ^ i ≤ 256 ^ 7 := by
      have : (256 : Nat) ^ i ≤ 256 ^ 7 := Nat.pow_le_pow_right (by decide) (by omega)
      have h := Int.ofNat_le.2 this
      rw [Int.natCast_pow, Int.natCast_pow] at h
      exact h
    have hv2 : v * 256 + l[at_ + i] < 256 ^ (i + 1) := by rw [Int.pow_succ]; omega
    rw [f94_1_l7, ct (by omega), w64 (x := (at_ : Int) + (i : Int)) (by omega) (by omega), ct (by omega), ct (by omega), hg, wu64 (x := l[at_ + i]) (by omega) (by omega), wu64 (x := v * 256) (by omega) (by omega), wu64 (by omega) (by omega), w64 (by omega) (by omega), List.drop_eq_getElem_cons h1, List.take_succ_cons, num, List.foldl_cons, ← num]
    exact getRl hw hl hll hb m (i + 1) k _ (by omega) (by omega) ⟨by omega, hv2⟩

/-- A number of w bytes from a place on, or that there are not so many. -/
def gt (at_ w : Nat) (l : List Int) : Int × Int := if at_ + w ≤ l.length then (num 0 ((l.drop at_).take w), 0) else (0, 7)

theorem getP {β : Type} {at_ w : Nat} {l : List Int} {K : Int → Int → Option β} (h1 : 1 ≤ w) (hw : w ≤ 8) (hat : at_ ≤ 100000) (hll : l.length ≤ 100000) (hb : ∀ x ∈ l, 0 ≤ x ∧ x < 256) : f93_1 20000 (at_ : Int) (w : Int) l K = K (gt at_ w l).1 (gt at_ w l).2 := by
  rw [f93_1, f92_1, ct (by omega), decide_eq_true (show (w : Int) ≤ 8 by omega), Bool.not_true, cond_false, cf (by omega), gt]
  by_cases h2 : (at_ : Int) > ((l.length : Nat) : Int)
  · rw [ct h2, if_neg (by omega)]
  · rw [cf h2, w64 (by omega) (by omega)]
    by_cases h3 : ((l.length : Nat) : Int) - (at_ : Int) < (w : Int)
    · rw [ct h3, if_neg (by omega)]
    · rw [cf h3, w64 (by omega) (by omega), ct (by omega), if_pos (by omega), show ((at_ : Int) + (w : Int) - (at_ : Int)).toNat = w by omega, show 0 + ((at_ : Int)).toNat = at_ by omega]
      exact getPl (K := fun x8 => K x8 0) hw (by omega) hb w 0 20000 0 (by omega) (by omega) (by simp)

theorem getR {β : Type} {at_ w : Nat} {l : List Int} {K : Int → Int → Option β} (h1 : 1 ≤ w) (hw : w ≤ 8) (hat : at_ ≤ 100000) (hll : l.length ≤ 100000) (hb : ∀ x ∈ l, 0 ≤ x ∧ x < 256) : f94_1 20000 (at_ : Int) (w : Int) l K = K (gt at_ w l).1 (gt at_ w l).2 := by
  rw [f94_1, cf (by omega), cf (by omega), cf (by omega), gt]
  by_cases h2 : (at_ : Int) > ((l.length : Nat) : Int)
  · rw [ct h2, if_neg (by omega)]
  · rw [cf h2, w64 (by omega) (by omega)]
    by_cases h3 : ((l.length : Nat) : Int) - (at_ : Int) < (w : Int)
    · rw [ct h3, if_neg (by omega)]
    · rw [cf h3, if_pos (by omega)]
      exact getRl (K := fun x6 => K x6 0) hw (by omega) hll hb w 0 20000 0 (by omega) (by omega) (by simp)

end Go.Proofs.YtillbabmlfjegaaDoor.X
end

section
/- Numbers of eight bytes; reading them; a save of one sector: of slots and of maps. -/
namespace Go.Proofs.YtillbabmlfjegaaDoor.X
open Go Go.Proofs.YtillbabmlfjegaaDoor.Ev
set_option linter.unusedSectionVars false
variable [FZ]
set_option linter.unusedVariables false
set_option linter.unusedSimpArgs false

theorem bnf {a b : Int} (h : a = b) : (a != b) = false := by simp [h]
theorem bnt {a b : Int} (h : a ≠ b) : (a != b) = true := by simp [h]

/-! ### Numbers of eight bytes -/

def b8 (n : Int) : List Int := [IntKind.u8.wrap (ishr .u64 n 56), IntKind.u8.wrap (ishr .u64 n 48), IntKind.u8.wrap (ishr .u64 n 40), IntKind.u8.wrap (ishr .u64 n 32), IntKind.u8.wrap (ishr .u64 n 24), IntKind.u8.wrap (ishr .u64 n 16), IntKind.u8.wrap (ishr .u64 n 8), IntKind.u8.wrap (ishr .u64 n 0)]
theorem put8 {β : Type} {n : Int} {K : List Int → Option β} : f47_1 20000 8 n [] K = K (b8 n) := by kernel_rfl
theorem text8 {β : Type} {n : Int} {K : ByteArray → Option β} : f40_1 20000 8 n K = K (ofInts (b8 n)) := by kernel_rfl

theorem b8_r (n : Int) : ∀ x ∈ b8 n, 0 ≤ x ∧ x < 256 := by
  intro x hx
  simp only [b8, List.mem_cons, List.not_mem_nil, or_false] at hx
  rcases hx with rfl | rfl | rfl | rfl | rfl | rfl | rfl | rfl <;> (rw [wu8m]; omega)

theorem shrN {n : Int} (h : 0 ≤ n) : ishr .u64 n 56 = n / 72057594037927936 ∧ ishr .u64 n 48 = n / 281474976710656 ∧ ishr .u64 n 40 = n / 1099511627776 ∧ ishr .u64 n 32 = n / 4294967296 ∧ ishr .u64 n 24 = n / 16777216 ∧ ishr .u64 n 16 = n / 65536 ∧ ishr .u64 n 8 = n / 256 ∧ ishr .u64 n 0 = n := by
  have e : ∀ (s : Int) (d : Int), (2 : Int) ^ (min s.toNat IntKind.u64.bits) = d → 0 < d → ishr .u64 n s = n / d := fun s d h1 h2 => by
    rw [ishr, h1, Int.fdiv_eq_ediv_of_nonneg _ (by omega)]
  refine ⟨e 56 _ (by decide) (by decide), e 48 _ (by decide) (by decide), e 40 _ (by decide) (by decide), e 32 _ (by decide) (by decide), e 24 _ (by decide) (by decide), e 16 _ (by decide) (by decide), e 8 _ (by decide) (by decide), ?_⟩
  rw [e 0 1 (by decide) (by decide)]; omega

theorem num8 {n : Int} (h : 0 ≤ n ∧ n < 18446744073709551616) : num 0 (b8 n) = n := by
  obtain ⟨e1, e2, e3, e4, e5, e6, e7, e8⟩ := shrN h.1
  simp only [num, b8, List.foldl_cons, List.foldl_nil, wu8m, e1, e2, e3, e4, e5, e6, e7, e8]
  omega

theorem toInts_ofInts {l : List Int} (h : ∀ x ∈ l, 0 ≤ x ∧ x < 256) : toInts (ofInts l) = l := by
  rw [toInts_D, D_ofInts, List.map_map]
  conv => rhs; rw [← List.map_id l]
  apply List.map_congr_left
  intro x hx
  have := h x hx
  simp only [Function.comp, id, UInt8.toNat_ofNat']
  omega

theorem toInts_r (s : ByteArray) : ∀ x ∈ toInts s, 0 ≤ x ∧ x < 256 := by
  intro x hx
  rw [toInts_D] at hx
  obtain ⟨c, _, rfl⟩ := List.mem_map.1 hx
  have := c.toNat_lt
  omega

theorem b8_size (n : Int) : (ofInts (b8 n)).size = 8 := by rw [D_size, D_ofInts]; rfl
theorem app_size (s t : ByteArray) : (s ++ t).size = s.size + t.size := by rw [D_size, D_app, List.length_append, ← D_size, ← D_size]
theorem toInts_size (s : ByteArray) : (toInts s).length = s.size := by rw [toInts_D, List.length_map, ← D_size]

/-- A number is read out of bytes, or there are not so many. -/
theorem numP {β : Type} {w : Nat} {l : List Int} {K0 : Int → Option β} {K1 : Int → List Int → Option β} (h1 : 1 ≤ w) (hw : w ≤ 8) (hll : l.length ≤ 100000) (hb : ∀ x ∈ l, 0 ≤ x ∧ x < 256) :
    f51_1 20000 (w : Int) 0 l K0 K1 = if w ≤ l.length then K1 (num 0 (l.take w)) (l.drop w) else K0 7 := by
  have hg := fun K => getP (β := β) (at_ := 0) (w := w) (l := l) (K := K) h1 hw (by omega) hll hb
  rw [f51_1, show ((0 : Int) != 0) = false from rfl, cond_false]
  refine (hg _).trans ?_
  rw [gt]
  by_cases h2 : w ≤ l.length
  · rw [if_pos (by omega), if_pos h2, List.drop_zero]
    show cond ((0 : Int) != 0) _ _ = _
    rw [bnf rfl, cond_false, ct ⟨by omega, by omega, by omega⟩, show 0 + (w : Int).toNat = w by omega, List.take_of_length_le (l := l.drop w) (by simp)]
  · rw [if_neg (by omega), if_neg h2]
    rfl

theorem opn_size (k : Int) (s : ByteArray) : (opn k s).1.size ≤ 58 := by
  unfold opn
  split
  · show ByteArray.empty.size ≤ 58; decide
  · rename_i h1
    split
    · show ByteArray.empty.size ≤ 58; decide
    · obtain ⟨q1, q2, _⟩ := kd_size (Classical.not_not.1 h1)
      have := byt_r s 1
      show (s.extract 2 (2 + (byt s 1).toNat)).size ≤ 58
      rw [D_size, D_ext]; simp; omega

/-! ### A save of a sector -/

def svB {β : Type} (e : Int × ByteArray) (x a : Int) (b : Bool) (c : Int) (l : List ByteArray) (w : WL) (K0 : Int → Int → Bool → Int → Option β) (K2 : Int → Int → Bool → Int → List ByteArray → WL → Option β) : Option β :=
  if e.1 ≠ 0 then K0 e.1 a b c
  else if (wS x e.2 a b c l w).1 ≠ 0 then K0 (wS x e.2 a b c l w).1 (wS x e.2 a b c l w).2.1 (wS x e.2 a b c l w).2.2.1 (wS x e.2 a b c l w).2.2.2.1
  else app K2 (fS (wS x e.2 a b c l w).2.1 (wS x e.2 a b c l w).2.2.1 (wS x e.2 a b c l w).2.2.2.1 l (wS x e.2 a b c l w).2.2.2.2)

theorem big60 : 60 ≤ maxLen := by decide

theorem cond_ff' {α : Sort _} {a b : α} : cond (!true) a b = b := rfl
theorem Z64_b0 : byt Z64 0 = 0 := by rw [byt, getD_D, Z64_D]; rfl

theorem opn_zero (k : Int) : (opn k Z64).2 ≠ 0 := by
  unfold opn
  split
  · assumption
  · rename_i h
    obtain ⟨_, _, _, _, q5, _⟩ := kd_size (Classical.not_not.1 h)
    rw [Z64_b0] at q5; omega

theorem rd_nil {x : Int} {l : List ByteArray} (hx : 0 ≤ x ∧ x < (l.length : Int)) : rd x false l [] = (l.getD x.toNat ByteArray.empty, 0) := by
  rw [rd, if_neg (by simp), if_pos hx, kp, if_pos hx]; rfl

/-- A save on a disk that nothing waits on: by the fuse. -/
theorem svB_at {β : Type} {x c a : Int} {r : ByteArray} {l : List ByteArray} {K0 : Int → Int → Bool → Int → Option β} {K2 : Int → Int → Bool → Int → List ByteArray → WL → Option β} (hx : 0 ≤ x ∧ x < (l.length : Int)) (hr : r.size = 64) :
    (a = -1 → svB (0, r) x a false c l [] K0 K2 = K2 0 (-1) false (c + 1 + 1) (put1 l (x, r)) []) ∧
    (a = 0 → svB (0, r) x a false c l [] K0 K2 = K0 5 (-1) true c) ∧
    (a = 1 → svB (0, r) x a false c l [] K0 K2 = K2 5 (-1) true (c + 1) l [(x, r)]) ∧
    (a = 2 → svB (0, r) x a false c l [] K0 K2 = K2 0 0 false (c + 1 + 1) (put1 l (x, r)) []) := by
  have hw : ∀ a, a ≠ 0 → wS x r a false c l [] = (0, dec a, false, c + 1, [(x, r)]) := fun a ha => by
    rw [wS, if_neg (by simp), if_neg (by simp [hx]), if_neg (by simp [hr]), if_neg ha]; rfl
  refine ⟨?_, ?_, ?_, ?_⟩
  · rintro rfl
    rw [svB, if_neg (by simp), hw _ (by omega), if_neg (by simp), fS, if_neg (by simp)]
    rfl
  · rintro rfl
    have : wS x r 0 false c l [] = (5, -1, true, c, []) := by rw [wS, if_neg (by simp), if_neg (by simp [hx]), if_neg (by simp [hr]), if_pos rfl]
    rw [svB, if_neg (by simp), this, if_pos (by simp)]
  · rintro rfl
    rw [svB, if_neg (by simp), hw _ (by omega), if_neg (by simp), fS, if_neg (by simp)]
    rfl
  · rintro rfl
    rw [svB, if_neg (by simp), hw _ (by omega), if_neg (by simp), fS, if_neg (by simp)]
    rfl

theorem crB_one {ks : List Bool} {p : Int × ByteArray} {l : List ByteArray} : crB ks 0 [p] l = l ∨ crB ks 0 [p] l = put1 l p := by
  rw [crB, crB]
  cases ks.getD 0 false with
  | false => exact .inl rfl
  | true => exact .inr rfl

end Go.Proofs.YtillbabmlfjegaaDoor.X
end

section
namespace Go.Proofs.YtillbabmlfjegaaDoor.X
open Go Go.Proofs.YtillbabmlfjegaaDoor.Ev Go.Proofs
set_option linter.unusedVariables false
set_option linter.unusedSectionVars false
/-! pentimentoref09.Save -/
noncomputable def f59_1 {β : Type} (F : Nat) (a1 : Int) (a2 : Int) (a3 : Int) (a4 : ByteArray) (a5 : Int) (a6 : Bool) (a7 : Int) (a8 : List ByteArray) (a9 : List (Int × ByteArray)) (K0 : Int → Int → Bool → Int → Option β) (K1 : Int → Bool → Int → List ByteArray → List (Int × ByteArray) → Option β) (K2 : Int → Int → Bool → Int → List ByteArray → List (Int × ByteArray) → Option β) : Option β := cond (decide (a1 < 0)) (K0 3 a5 a6 a7) (cond (decide (a1 > 1200)) (K0 3 a5 a6 a7) (cond (decide ((a4.size : Int) > 50)) (K0 8 a5 a6 a7) (f40_1 F 8 a3 (fun x1 => cond (decide (x1.size + a4.size ≤ 4611686018427387904)) (f11_1 F a2 (x1 ++ a4) (fun x2 x3 => cond (x3 != 0) (K0 x3 a5 a6 a7) (f61_1 F (IntKind.i64.wrap (a1 + (IntKind.i64.wrap (a3.tmod 2)))) x2 a5 a6 a7 a8 a9 (fun x4 x5 x6 x7 => cond (x4 != 0) (K0 x4 x5 x6 x7) (f99_1 F x5 x6 x7 a8 a9 (fun x8 x9 x10 => K0 5 x8 x9 x10) (fun x11 x12 x13 x14 x15 => K1 x11 x12 x13 x14 x15) )) (fun x16 x17 x18 x19 => f99_1 F x16 x17 x18 a8 x19 (fun x20 x21 x22 => K2 5 x20 x21 x22 a8 x19) (fun x23 x24 x25 x26 x27 => K2 0 x23 x24 x25 x26 x27) ) )) ) none) )))
variable [FZ]
def sh59_1 : Sh := ⟨[.lf (.ptr 0 0), .lf (.int .i64), .lf (.int .i64), .lf (.int .u64), .lf (.str)], [some ⟨some false, [.full 1, .full 2, .int .i64, .bool, .int .i64]⟩, some ⟨some false, [.seq .str 0]⟩, some ⟨some false, [.seq (.pair (.int .i64) .str) 0]⟩]⟩
noncomputable def S59_1 (F : Nat) (o : Summ) : Summ := mkS sh59_1 (fun d K => f59_1 F d.1.2.1 d.1.2.2.1 d.1.2.2.2.1 d.1.2.2.2.2.1 d.2.1.2.2.2.1 d.2.1.2.2.2.2.1 d.2.1.2.2.2.2.2.1 d.2.2.1.2.1 d.2.2.2.1.2.1 (fun (y0 : Int) (y1 : Int) (y2 : Bool) (y3 : Int) => K [.lf (.int .i64 y0)] [some ⟨false, [.full 1, .full 2, .int .i64 y1, .bool y2, .int .i64 y3]⟩, some ⟨false, [.seq .str 0 d.2.2.1.2.1]⟩, some ⟨false, [.seq (.pair (.int .i64) .str) 0 d.2.2.2.1.2.1]⟩]) (fun (y1 : Int) (y2 : Bool) (y3 : Int) (y4 : List ByteArray) (y6 : List (Int × ByteArray)) => K [.lf (.int .i64 0)] [some ⟨false, [.full 1, .full 3, .int .i64 y1, .bool y2, .int .i64 y3]⟩, some ⟨false, [.seq .str 0 y4]⟩, some ⟨false, [.seq (.pair (.int .i64) .str) 0 d.2.2.2.1.2.1]⟩, some ⟨false, [.seq (.pair (.int .i64) .str) 0 y6]⟩]) (fun (y0 : Int) (y1 : Int) (y2 : Bool) (y3 : Int) (y4 : List ByteArray) (y5 : List (Int × ByteArray)) => K [.lf (.int .i64 y0)] [some ⟨false, [.full 1, .full 3, .int .i64 y1, .bool y2, .int .i64 y3]⟩, some ⟨false, [.seq .str 0 y4]⟩, none, some ⟨false, [.seq (.pair (.int .i64) .str) 0 y5]⟩])) o
noncomputable def code59 : Code := bodyOf Tryd.f59
theorem scopes59 : scopesOf code59 = [] := by kernel_rfl
theorem ranges59 : rangesOf code59 = [] := by kernel_rfl
theorem loops59 : loopsOf code59 = [] := by kernel_rfl
theorem enter59 : ∀ args w, (callFunc 59 args).run Tryd.prog w = .ok (.enter 59 args) w := enter_of (fn := Tryd.f59) (by kernel_rfl) (by kernel_rfl) (by kernel_rfl)
noncomputable def T59_1 (F : Nat) : FuncId → Option Summ := tab [(11, (S11_1 F noS)), (40, (S40_1 F noS)), (61, (S61_1 F noS)), (99, (S99_1 F noS))]
noncomputable def LT59_1 (F : Nat) : Nat → Option LoopS := ltab []
theorem E59_1g (F : Nat) (c11_1 : Int → ByteArray → (ByteArray → Int → Option Res) → Option Res) (c40_1 : Int → Int → (ByteArray → Option Res) → Option Res) (c61_1 : Int → ByteArray → Int → Bool → Int → List ByteArray → List (Int × ByteArray) → (Int → Int → Bool → Int → Option Res) → (Int → Bool → Int → List (Int × ByteArray) → Option Res) → Option Res) (c99_1 : Int → Bool → Int → List ByteArray → List (Int × ByteArray) → (Int → Bool → Int → Option Res) → (Int → Bool → Int → List ByteArray → List (Int × ByteArray) → Option Res) → Option Res)   (d : sh59_1.den) (K : KF) : evBody Tryd.prog (tab [(11, (mkS sh11_1 (fun d K => c11_1 d.1.1 d.1.2.1 (fun (y0 : ByteArray) (y1 : Int) => K [.lf (.str y0), .lf (.int .i64 y1)] [])) noS)), (40, (mkS sh40_1 (fun d K => c40_1 d.1.1 d.1.2.1 (fun (y0 : ByteArray) => K [.lf (.str y0)] [])) noS)), (61, (mkS sh61_1 (fun d K => c61_1 d.1.2.1 d.1.2.2.1 d.2.1.2.2.2.1 d.2.1.2.2.2.2.1 d.2.1.2.2.2.2.2.1 d.2.2.1.2.1 d.2.2.2.1.2.1 (fun (y0 : Int) (y1 : Int) (y2 : Bool) (y3 : Int) => K [.lf (.int .i64 y0)] [some ⟨false, [.full 1, .full 2, .int .i64 y1, .bool y2, .int .i64 y3]⟩, some ⟨d.2.2.1.1, [.seq .str 0 d.2.2.1.2.1]⟩, some ⟨false, [.seq (.pair (.int .i64) .str) 0 d.2.2.2.1.2.1]⟩]) (fun (y1 : Int) (y2 : Bool) (y3 : Int) (y5 : List (Int × ByteArray)) => K [.lf (.int .i64 0)] [some ⟨false, [.full 1, .full 3, .int .i64 y1, .bool y2, .int .i64 y3]⟩, some ⟨d.2.2.1.1, [.seq .str 0 d.2.2.1.2.1]⟩, none, some ⟨false, [.seq (.pair (.int .i64) .str) 0 y5]⟩])) noS)), (99, (mkS sh99_1 (fun d K => c99_1 d.2.1.2.2.2.1 d.2.1.2.2.2.2.1 d.2.1.2.2.2.2.2.1 d.2.2.1.2.1 d.2.2.2.1.2.1 (fun (y1 : Int) (y2 : Bool) (y3 : Int) => K [.lf (.int .i64 5)] [some ⟨false, [.full 1, .full 2, .int .i64 y1, .bool y2, .int .i64 y3]⟩, some ⟨false, [.seq .str 0 d.2.2.1.2.1]⟩, some ⟨d.2.2.2.1.1, [.seq (.pair (.int .i64) .str) 0 d.2.2.2.1.2.1]⟩]) (fun (y1 : Int) (y2 : Bool) (y3 : Int) (y4 : List ByteArray) (y6 : List (Int × ByteArray)) => K [.lf (.int .i64 0)] [some ⟨false, [.full 1, .full 3, .int .i64 y1, .bool y2, .int .i64 y3]⟩, some ⟨false, [.seq .str 0 y4]⟩, some ⟨d.2.2.2.1.1, [.seq (.pair (.int .i64) .str) 0 d.2.2.2.1.2.1]⟩, some ⟨false, [.seq (.pair (.int .i64) .str) 0 y6]⟩])) noS))]) (xw []) 47 3 (ltab []) code59 Tryd.f59.results.toList (encT sh59_1.vs d.1) (encH sh59_1.h d.2) K = (fun (a1 : Int) (a2 : Int) (a3 : Int) (a4 : ByteArray) (a5 : Int) (a6 : Bool) (a7 : Int) (a8 : List ByteArray) (a9 : List (Int × ByteArray)) (K0 : (Int → Int → Bool → Int → Option Res)) (K1 : (Int → Bool → Int → List ByteArray → List (Int × ByteArray) → Option Res)) (K2 : (Int → Int → Bool → Int → List ByteArray → List (Int × ByteArray) → Option Res)) => cond (decide (a1 < 0)) (K0 3 a5 a6 a7) (cond (decide (a1 > 1200)) (K0 3 a5 a6 a7) (cond (decide ((a4.size : Int) > 50)) (K0 8 a5 a6 a7) (c40_1 8 a3 (fun x1 => cond (decide (x1.size + a4.size ≤ 4611686018427387904)) (c11_1 a2 (x1 ++ a4) (fun x2 x3 => cond (x3 != 0) (K0 x3 a5 a6 a7) (c61_1 (IntKind.i64.wrap (a1 + (IntKind.i64.wrap (a3.tmod 2)))) x2 a5 a6 a7 a8 a9 (fun x4 x5 x6 x7 => cond (x4 != 0) (K0 x4 x5 x6 x7) (c99_1 x5 x6 x7 a8 a9 (fun x8 x9 x10 => K0 5 x8 x9 x10) (fun x11 x12 x13 x14 x15 => K1 x11 x12 x13 x14 x15) )) (fun x16 x17 x18 x19 => c99_1 x16 x17 x18 a8 x19 (fun x20 x21 x22 => K2 5 x20 x21 x22 a8 x19) (fun x23 x24 x25 x26 x27 => K2 0 x23 x24 x25 x26 x27) ) )) ) none) )))) d.1.2.1 d.1.2.2.1 d.1.2.2.2.1 d.1.2.2.2.2.1 d.2.1.2.2.2.1 d.2.1.2.2.2.2.1 d.2.1.2.2.2.2.2.1 d.2.2.1.2.1 d.2.2.2.1.2.1 (fun (y0 : Int) (y1 : Int) (y2 : Bool) (y3 : Int) => K [.lf (.int .i64 y0)] [some ⟨false, [.full 1, .full 2, .int .i64 y1, .bool y2, .int .i64 y3]⟩, some ⟨false, [.seq .str 0 d.2.2.1.2.1]⟩, some ⟨false, [.seq (.pair (.int .i64) .str) 0 d.2.2.2.1.2.1]⟩]) (fun (y1 : Int) (y2 : Bool) (y3 : Int) (y4 : List ByteArray) (y6 : List (Int × ByteArray)) => K [.lf (.int .i64 0)] [some ⟨false, [.full 1, .full 3, .int .i64 y1, .bool y2, .int .i64 y3]⟩, some ⟨false, [.seq .str 0 y4]⟩, some ⟨false, [.seq (.pair (.int .i64) .str) 0 d.2.2.2.1.2.1]⟩, some ⟨false, [.seq (.pair (.int .i64) .str) 0 y6]⟩]) (fun (y0 : Int) (y1 : Int) (y2 : Bool) (y3 : Int) (y4 : List ByteArray) (y5 : List (Int × ByteArray)) => K [.lf (.int .i64 y0)] [some ⟨false, [.full 1, .full 3, .int .i64 y1, .bool y2, .int .i64 y3]⟩, some ⟨false, [.seq .str 0 y4]⟩, none, some ⟨false, [.seq (.pair (.int .i64) .str) 0 y5]⟩]) := by kernel_rfl
theorem E59_1 (F : Nat) (d : sh59_1.den) (K : KF) : evBody Tryd.prog (T59_1 F) (xw []) 47 3 (LT59_1 F) code59 Tryd.f59.results.toList (encT sh59_1.vs d.1) (encH sh59_1.h d.2) K = f59_1 F d.1.2.1 d.1.2.2.1 d.1.2.2.2.1 d.1.2.2.2.2.1 d.2.1.2.2.2.1 d.2.1.2.2.2.2.1 d.2.1.2.2.2.2.2.1 d.2.2.1.2.1 d.2.2.2.1.2.1 (fun (y0 : Int) (y1 : Int) (y2 : Bool) (y3 : Int) => K [.lf (.int .i64 y0)] [some ⟨false, [.full 1, .full 2, .int .i64 y1, .bool y2, .int .i64 y3]⟩, some ⟨false, [.seq .str 0 d.2.2.1.2.1]⟩, some ⟨false, [.seq (.pair (.int .i64) .str) 0 d.2.2.2.1.2.1]⟩]) (fun (y1 : Int) (y2 : Bool) (y3 : Int) (y4 : List ByteArray) (y6 : List (Int × ByteArray)) => K [.lf (.int .i64 0)] [some ⟨false, [.full 1, .full 3, .int .i64 y1, .bool y2, .int .i64 y3]⟩, some ⟨false, [.seq .str 0 y4]⟩, some ⟨false, [.seq (.pair (.int .i64) .str) 0 d.2.2.2.1.2.1]⟩, some ⟨false, [.seq (.pair (.int .i64) .str) 0 y6]⟩]) (fun (y0 : Int) (y1 : Int) (y2 : Bool) (y3 : Int) (y4 : List ByteArray) (y5 : List (Int × ByteArray)) => K [.lf (.int .i64 y0)] [some ⟨false, [.full 1, .full 3, .int .i64 y1, .bool y2, .int .i64 y3]⟩, some ⟨false, [.seq .str 0 y4]⟩, none, some ⟨false, [.seq (.pair (.int .i64) .str) 0 y5]⟩]) := Eq.mp (by kernel_rfl) (E59_1g F (f11_1 F) (f40_1 F) (f61_1 F) (f99_1 F)   d K)
theorem S59_1_ok (F : Nat) (o : Summ) (ho : SoundFn Tryd.prog 59 o) : SoundFn Tryd.prog 59 (S59_1 F o) :=
  soundFn_of (fn := Tryd.f59) (c := code59) rfl rfl (by kernel_rfl) (tab_cons (S11_1_ok F _ (noS_sound enter11)) (tab_cons (S40_1_ok F _ (noS_sound enter40)) (tab_cons (S61_1_ok F _ (noS_sound enter61)) (tab_cons (S99_1_ok F _ (noS_sound enter99)) tab_nil)))) (by kernel_rfl) (by kernel_rfl) ho (by rw [loops59]; exact loopsOK_nil) (by rw [scopes59]; exact scopesOK_nil) (by rw [ranges59]; exact rangesOK_nil) (E59_1 F)
end Go.Proofs.YtillbabmlfjegaaDoor.X
end

section
namespace Go.Proofs.YtillbabmlfjegaaDoor.X
open Go Go.Proofs.YtillbabmlfjegaaDoor.Ev Go.Proofs
set_option linter.unusedVariables false
set_option linter.unusedSectionVars false
/-! pentimentoref09.one -/
noncomputable def f98_1 {β : Type} (F : Nat) (a1 : Int) (a2 : Int) (a3 : Int) (a4 : Bool) (a5 : Int) (a6 : List ByteArray) (a7 : List (Int × ByteArray)) (K0 : Bool → Int → ByteArray → Int → Option β) : Option β := f119_1 F a1 a3 a4 a5 a6 a7 (fun x1 x2 => cond (x2 != 0) (K0 false 0 ByteArray.empty x2) (f14_1 F a2 x1 (fun x3 x4 => cond (x4 != 0) (K0 false 0 ByteArray.empty 0) (cond (decide ((x3.size : Int) < 8)) (K0 false 0 ByteArray.empty 0) (f94_1 F 0 8 (toInts x3) (fun x5 x6 => cond (decide ((0 : Int) ≤ (8 : Int) ∧ (8 : Int) ≤ (x3.size : Int) ∧ (x3.size : Int) ≤ (x3.size : Int))) (K0 true x5 (x3.extract 8 ((x3.size : Int).toNat)) 0) none) ))) )) 
variable [FZ]
def sh98_1 : Sh := ⟨[.lf (.ptr 0 0), .lf (.int .i64), .lf (.int .i64)], [some ⟨none, [.full 1, .full 2, .int .i64, .bool, .int .i64]⟩, some ⟨none, [.seq .str 0]⟩, some ⟨none, [.seq (.pair (.int .i64) .str) 0]⟩]⟩
noncomputable def S98_1 (F : Nat) (o : Summ) : Summ := mkS sh98_1 (fun d K => f98_1 F d.1.2.1 d.1.2.2.1 d.2.1.2.2.2.1 d.2.1.2.2.2.2.1 d.2.1.2.2.2.2.2.1 d.2.2.1.2.1 d.2.2.2.1.2.1 (fun (y0 : Bool) (y1 : Int) (y2 : ByteArray) (y3 : Int) => K [.lf (.bool y0), .lf (.int .u64 y1), .lf (.str y2), .lf (.int .i64 y3)] [some ⟨d.2.1.1, [.full 1, .full 2, .int .i64 d.2.1.2.2.2.1, .bool d.2.1.2.2.2.2.1, .int .i64 d.2.1.2.2.2.2.2.1]⟩, some ⟨d.2.2.1.1, [.seq .str 0 d.2.2.1.2.1]⟩, some ⟨d.2.2.2.1.1, [.seq (.pair (.int .i64) .str) 0 d.2.2.2.1.2.1]⟩])) o
noncomputable def code98 : Code := bodyOf Tryd.f98
theorem scopes98 : scopesOf code98 = [] := by kernel_rfl
theorem ranges98 : rangesOf code98 = [] := by kernel_rfl
theorem loops98 : loopsOf code98 = [] := by kernel_rfl
theorem enter98 : ∀ args w, (callFunc 98 args).run Tryd.prog w = .ok (.enter 98 args) w := enter_of (fn := Tryd.f98) (by kernel_rfl) (by kernel_rfl) (by kernel_rfl)
noncomputable def T98_1 (F : Nat) : FuncId → Option Summ := tab [(14, (S14_1 F noS)), (94, (S94_1 F noS)), (119, (S119_1 F noS))]
noncomputable def LT98_1 (F : Nat) : Nat → Option LoopS := ltab []
theorem E98_1g (F : Nat) (c14_1 : Int → ByteArray → (ByteArray → Int → Option Res) → Option Res) (c94_1 : Int → Int → List Int → (Int → Int → Option Res) → Option Res) (c119_1 : Int → Int → Bool → Int → List ByteArray → List (Int × ByteArray) → (ByteArray → Int → Option Res) → Option Res)   (d : sh98_1.den) (K : KF) : evBody Tryd.prog (tab [(14, (mkS sh14_1 (fun d K => c14_1 d.1.1 d.1.2.1 (fun (y0 : ByteArray) (y1 : Int) => K [.lf (.str y0), .lf (.int .i64 y1)] [])) noS)), (94, (mkS sh94_1 (fun d K => c94_1 d.1.2.1 d.1.2.2.1 d.2.1.2.1 (fun (y0 : Int) (y1 : Int) => K [.lf (.int .u64 y0), .lf (.int .i64 y1)] [some ⟨d.2.1.1, [.seq (.int .u8) 0 d.2.1.2.1]⟩])) noS)), (119, (mkS sh119_1 (fun d K => c119_1 d.1.2.1 d.2.1.2.2.2.1 d.2.1.2.2.2.2.1 d.2.1.2.2.2.2.2.1 d.2.2.1.2.1 d.2.2.2.1.2.1 (fun (y0 : ByteArray) (y1 : Int) => K [.lf (.str y0), .lf (.int .i64 y1)] [some ⟨d.2.1.1, [.full 1, .full 2, .int .i64 d.2.1.2.2.2.1, .bool d.2.1.2.2.2.2.1, .int .i64 d.2.1.2.2.2.2.2.1]⟩, some ⟨d.2.2.1.1, [.seq .str 0 d.2.2.1.2.1]⟩, some ⟨d.2.2.2.1.1, [.seq (.pair (.int .i64) .str) 0 d.2.2.2.1.2.1]⟩])) noS))]) (xw []) 47 3 (ltab []) code98 Tryd.f98.results.toList (encT sh98_1.vs d.1) (encH sh98_1.h d.2) K = (fun (a1 : Int) (a2 : Int) (a3 : Int) (a4 : Bool) (a5 : Int) (a6 : List ByteArray) (a7 : List (Int × ByteArray)) (K0 : (Bool → Int → ByteArray → Int → Option Res)) => c119_1 a1 a3 a4 a5 a6 a7 (fun x1 x2 => cond (x2 != 0) (K0 false 0 ByteArray.empty x2) (c14_1 a2 x1 (fun x3 x4 => cond (x4 != 0) (K0 false 0 ByteArray.empty 0) (cond (decide ((x3.size : Int) < 8)) (K0 false 0 ByteArray.empty 0) (c94_1 0 8 (toInts x3) (fun x5 x6 => cond (decide ((0 : Int) ≤ (8 : Int) ∧ (8 : Int) ≤ (x3.size : Int) ∧ (x3.size : Int) ≤ (x3.size : Int))) (K0 true x5 (x3.extract 8 ((x3.size : Int).toNat)) 0) none) ))) )) ) d.1.2.1 d.1.2.2.1 d.2.1.2.2.2.1 d.2.1.2.2.2.2.1 d.2.1.2.2.2.2.2.1 d.2.2.1.2.1 d.2.2.2.1.2.1 (fun (y0 : Bool) (y1 : Int) (y2 : ByteArray) (y3 : Int) => K [.lf (.bool y0), .lf (.int .u64 y1), .lf (.str y2), .lf (.int .i64 y3)] [some ⟨d.2.1.1, [.full 1, .full 2, .int .i64 d.2.1.2.2.2.1, .bool d.2.1.2.2.2.2.1, .int .i64 d.2.1.2.2.2.2.2.1]⟩, some ⟨d.2.2.1.1, [.seq .str 0 d.2.2.1.2.1]⟩, some ⟨d.2.2.2.1.1, [.seq (.pair (.int .i64) .str) 0 d.2.2.2.1.2.1]⟩]) := by kernel_rfl
theorem E98_1 (F : Nat) (d : sh98_1.den) (K : KF) : evBody Tryd.prog (T98_1 F) (xw []) 47 3 (LT98_1 F) code98 Tryd.f98.results.toList (encT sh98_1.vs d.1) (encH sh98_1.h d.2) K = f98_1 F d.1.2.1 d.1.2.2.1 d.2.1.2.2.2.1 d.2.1.2.2.2.2.1 d.2.1.2.2.2.2.2.1 d.2.2.1.2.1 d.2.2.2.1.2.1 (fun (y0 : Bool) (y1 : Int) (y2 : ByteArray) (y3 : Int) => K [.lf (.bool y0), .lf (.int .u64 y1), .lf (.str y2), .lf (.int .i64 y3)] [some ⟨d.2.1.1, [.full 1, .full 2, .int .i64 d.2.1.2.2.2.1, .bool d.2.1.2.2.2.2.1, .int .i64 d.2.1.2.2.2.2.2.1]⟩, some ⟨d.2.2.1.1, [.seq .str 0 d.2.2.1.2.1]⟩, some ⟨d.2.2.2.1.1, [.seq (.pair (.int .i64) .str) 0 d.2.2.2.1.2.1]⟩]) := Eq.mp (by kernel_rfl) (E98_1g F (f14_1 F) (f94_1 F) (f119_1 F)   d K)
theorem S98_1_ok (F : Nat) (o : Summ) (ho : SoundFn Tryd.prog 98 o) : SoundFn Tryd.prog 98 (S98_1 F o) :=
  soundFn_of (fn := Tryd.f98) (c := code98) rfl rfl (by kernel_rfl) (tab_cons (S14_1_ok F _ (noS_sound enter14)) (tab_cons (S94_1_ok F _ (noS_sound enter94)) (tab_cons (S119_1_ok F _ (noS_sound enter119)) tab_nil))) (by kernel_rfl) (by kernel_rfl) ho (by rw [loops98]; exact loopsOK_nil) (by rw [scopes98]; exact scopesOK_nil) (by rw [ranges98]; exact rangesOK_nil) (E98_1 F)
end Go.Proofs.YtillbabmlfjegaaDoor.X
end

section
namespace Go.Proofs.YtillbabmlfjegaaDoor.X
open Go Go.Proofs.YtillbabmlfjegaaDoor.Ev Go.Proofs
set_option linter.unusedVariables false
set_option linter.unusedSectionVars false
/-! pentimentoref09.Load -/
noncomputable def f58_1 {β : Type} (F : Nat) (a1 : Int) (a2 : Int) (a3 : Int) (a4 : Bool) (a5 : Int) (a6 : List ByteArray) (a7 : List (Int × ByteArray)) (K0 : Int → ByteArray → Int → Option β) : Option β := cond (decide (a1 > 1200)) (f98_1 F (-1) a2 a3 a4 a5 a6 a7 (fun x1 x2 x3 x4 => cond (x4 != 0) (K0 0 ByteArray.empty x4) (f98_1 F 0 a2 a3 a4 a5 a6 a7 (fun x5 x6 x7 x8 => cond (x8 != 0) (K0 0 ByteArray.empty x8) (cond (!x1) (cond (!x5) (K0 0 ByteArray.empty 10) (cond (!x1) (K0 x6 x7 0) (cond x5 (cond (decide (x6 > x2)) (K0 x6 x7 0) (K0 x2 x3 0)) (K0 x2 x3 0)))) (cond (!x1) (K0 x6 x7 0) (cond x5 (cond (decide (x6 > x2)) (K0 x6 x7 0) (K0 x2 x3 0)) (K0 x2 x3 0))))) )) ) (f98_1 F a1 a2 a3 a4 a5 a6 a7 (fun x9 x10 x11 x12 => cond (x12 != 0) (K0 0 ByteArray.empty x12) (f98_1 F (IntKind.i64.wrap (a1 + 1)) a2 a3 a4 a5 a6 a7 (fun x13 x14 x15 x16 => cond (x16 != 0) (K0 0 ByteArray.empty x16) (cond (!x9) (cond (!x13) (K0 0 ByteArray.empty 10) (cond (!x9) (K0 x14 x15 0) (cond x13 (cond (decide (x14 > x10)) (K0 x14 x15 0) (K0 x10 x11 0)) (K0 x10 x11 0)))) (cond (!x9) (K0 x14 x15 0) (cond x13 (cond (decide (x14 > x10)) (K0 x14 x15 0) (K0 x10 x11 0)) (K0 x10 x11 0))))) )) )
variable [FZ]
def sh58_1 : Sh := ⟨[.lf (.ptr 0 0), .lf (.int .i64), .lf (.int .i64)], [some ⟨none, [.full 1, .full 2, .int .i64, .bool, .int .i64]⟩, some ⟨none, [.seq .str 0]⟩, some ⟨none, [.seq (.pair (.int .i64) .str) 0]⟩]⟩
noncomputable def S58_1 (F : Nat) (o : Summ) : Summ := mkS sh58_1 (fun d K => f58_1 F d.1.2.1 d.1.2.2.1 d.2.1.2.2.2.1 d.2.1.2.2.2.2.1 d.2.1.2.2.2.2.2.1 d.2.2.1.2.1 d.2.2.2.1.2.1 (fun (y0 : Int) (y1 : ByteArray) (y2 : Int) => K [.lf (.int .u64 y0), .lf (.str y1), .lf (.int .i64 y2)] [some ⟨d.2.1.1, [.full 1, .full 2, .int .i64 d.2.1.2.2.2.1, .bool d.2.1.2.2.2.2.1, .int .i64 d.2.1.2.2.2.2.2.1]⟩, some ⟨d.2.2.1.1, [.seq .str 0 d.2.2.1.2.1]⟩, some ⟨d.2.2.2.1.1, [.seq (.pair (.int .i64) .str) 0 d.2.2.2.1.2.1]⟩])) o
noncomputable def code58 : Code := bodyOf Tryd.f58
theorem scopes58 : scopesOf code58 = [] := by kernel_rfl
theorem ranges58 : rangesOf code58 = [] := by kernel_rfl
theorem loops58 : loopsOf code58 = [] := by kernel_rfl
theorem enter58 : ∀ args w, (callFunc 58 args).run Tryd.prog w = .ok (.enter 58 args) w := enter_of (fn := Tryd.f58) (by kernel_rfl) (by kernel_rfl) (by kernel_rfl)
noncomputable def T58_1 (F : Nat) : FuncId → Option Summ := tab [(98, (S98_1 F noS))]
noncomputable def LT58_1 (F : Nat) : Nat → Option LoopS := ltab []
theorem E58_1g (F : Nat) (c98_1 : Int → Int → Int → Bool → Int → List ByteArray → List (Int × ByteArray) → (Bool → Int → ByteArray → Int → Option Res) → Option Res)   (d : sh58_1.den) (K : KF) : evBody Tryd.prog (tab [(98, (mkS sh98_1 (fun d K => c98_1 d.1.2.1 d.1.2.2.1 d.2.1.2.2.2.1 d.2.1.2.2.2.2.1 d.2.1.2.2.2.2.2.1 d.2.2.1.2.1 d.2.2.2.1.2.1 (fun (y0 : Bool) (y1 : Int) (y2 : ByteArray) (y3 : Int) => K [.lf (.bool y0), .lf (.int .u64 y1), .lf (.str y2), .lf (.int .i64 y3)] [some ⟨d.2.1.1, [.full 1, .full 2, .int .i64 d.2.1.2.2.2.1, .bool d.2.1.2.2.2.2.1, .int .i64 d.2.1.2.2.2.2.2.1]⟩, some ⟨d.2.2.1.1, [.seq .str 0 d.2.2.1.2.1]⟩, some ⟨d.2.2.2.1.1, [.seq (.pair (.int .i64) .str) 0 d.2.2.2.1.2.1]⟩])) noS))]) (xw []) 63 3 (ltab []) code58 Tryd.f58.results.toList (encT sh58_1.vs d.1) (encH sh58_1.h d.2) K = (fun (a1 : Int) (a2 : Int) (a3 : Int) (a4 : Bool) (a5 : Int) (a6 : List ByteArray) (a7 : List (Int × ByteArray)) (K0 : (Int → ByteArray → Int → Option Res)) => cond (decide (a1 > 1200)) (c98_1 (-1) a2 a3 a4 a5 a6 a7 (fun x1 x2 x3 x4 => cond (x4 != 0) (K0 0 ByteArray.empty x4) (c98_1 0 a2 a3 a4 a5 a6 a7 (fun x5 x6 x7 x8 => cond (x8 != 0) (K0 0 ByteArray.empty x8) (cond (!x1) (cond (!x5) (K0 0 ByteArray.empty 10) (cond (!x1) (K0 x6 x7 0) (cond x5 (cond (decide (x6 > x2)) (K0 x6 x7 0) (K0 x2 x3 0)) (K0 x2 x3 0)))) (cond (!x1) (K0 x6 x7 0) (cond x5 (cond (decide (x6 > x2)) (K0 x6 x7 0) (K0 x2 x3 0)) (K0 x2 x3 0))))) )) ) (c98_1 a1 a2 a3 a4 a5 a6 a7 (fun x9 x10 x11 x12 => cond (x12 != 0) (K0 0 ByteArray.empty x12) (c98_1 (IntKind.i64.wrap (a1 + 1)) a2 a3 a4 a5 a6 a7 (fun x13 x14 x15 x16 => cond (x16 != 0) (K0 0 ByteArray.empty x16) (cond (!x9) (cond (!x13) (K0 0 ByteArray.empty 10) (cond (!x9) (K0 x14 x15 0) (cond x13 (cond (decide (x14 > x10)) (K0 x14 x15 0) (K0 x10 x11 0)) (K0 x10 x11 0)))) (cond (!x9) (K0 x14 x15 0) (cond x13 (cond (decide (x14 > x10)) (K0 x14 x15 0) (K0 x10 x11 0)) (K0 x10 x11 0))))) )) )) d.1.2.1 d.1.2.2.1 d.2.1.2.2.2.1 d.2.1.2.2.2.2.1 d.2.1.2.2.2.2.2.1 d.2.2.1.2.1 d.2.2.2.1.2.1 (fun (y0 : Int) (y1 : ByteArray) (y2 : Int) => K [.lf (.int .u64 y0), .lf (.str y1), .lf (.int .i64 y2)] [some ⟨d.2.1.1, [.full 1, .full 2, .int .i64 d.2.1.2.2.2.1, .bool d.2.1.2.2.2.2.1, .int .i64 d.2.1.2.2.2.2.2.1]⟩, some ⟨d.2.2.1.1, [.seq .str 0 d.2.2.1.2.1]⟩, some ⟨d.2.2.2.1.1, [.seq (.pair (.int .i64) .str) 0 d.2.2.2.1.2.1]⟩]) := by kernel_rfl
theorem E58_1 (F : Nat) (d : sh58_1.den) (K : KF) : evBody Tryd.prog (T58_1 F) (xw []) 63 3 (LT58_1 F) code58 Tryd.f58.results.toList (encT sh58_1.vs d.1) (encH sh58_1.h d.2) K = f58_1 F d.1.2.1 d.1.2.2.1 d.2.1.2.2.2.1 d.2.1.2.2.2.2.1 d.2.1.2.2.2.2.2.1 d.2.2.1.2.1 d.2.2.2.1.2.1 (fun (y0 : Int) (y1 : ByteArray) (y2 : Int) => K [.lf (.int .u64 y0), .lf (.str y1), .lf (.int .i64 y2)] [some ⟨d.2.1.1, [.full 1, .full 2, .int .i64 d.2.1.2.2.2.1, .bool d.2.1.2.2.2.2.1, .int .i64 d.2.1.2.2.2.2.2.1]⟩, some ⟨d.2.2.1.1, [.seq .str 0 d.2.2.1.2.1]⟩, some ⟨d.2.2.2.1.1, [.seq (.pair (.int .i64) .str) 0 d.2.2.2.1.2.1]⟩]) := Eq.mp (by kernel_rfl) (E58_1g F (f98_1 F)   d K)
theorem S58_1_ok (F : Nat) (o : Summ) (ho : SoundFn Tryd.prog 58 o) : SoundFn Tryd.prog 58 (S58_1 F o) :=
  soundFn_of (fn := Tryd.f58) (c := code58) rfl rfl (by kernel_rfl) (tab_cons (S98_1_ok F _ (noS_sound enter98)) tab_nil) (by kernel_rfl) (by kernel_rfl) ho (by rw [loops58]; exact loopsOK_nil) (by rw [scopes58]; exact scopesOK_nil) (by rw [ranges58]; exact rangesOK_nil) (E58_1 F)
end Go.Proofs.YtillbabmlfjegaaDoor.X
end
