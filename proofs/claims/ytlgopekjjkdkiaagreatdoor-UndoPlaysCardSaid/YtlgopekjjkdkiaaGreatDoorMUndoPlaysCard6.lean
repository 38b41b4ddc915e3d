/- Merged: EvF100, EvF38, EvF79, EvF128, EvF168, EvF142, EvF184, EvF139, EvF80, EvF81, EvF82, EvF20, EvF24v1385, EvF29v6206, EvF32v7155, EvF64v7155, EvF74v1385, EvF75v6206, EvF124v6206, EvF79v4108, EvF80v3384, EvF93v1385, EvF81v5478, EvF82v5478, EvF20v6416, EvF20v8056, EvF33v568, EvF20v9733. -/
import Derived.Test.YtlgopekjjkdkiaaGreatDoorMUndoPlaysCard3
import Derived.Test.YtlgopekjjkdkiaaGreatDoorProg
import Derived.KernelRfl
import Derived.Test.YtlgopekjjkdkiaaGreatDoorMUndoPlaysCard5
import Derived.Test.YtlgopekjjkdkiaaGreatDoorMUndoPlaysCard4
section
namespace Go.Proofs.YtlgopekjjkdkiaaGreatDoor.X
open Go Go.Proofs.YtlgopekjjkdkiaaGreatDoor.Ev Go.Proofs
set_option linter.unusedVariables false
set_option linter.unusedSectionVars false
/-! pentimentoref08.Make -/
noncomputable def f100_1 {β : Type} (F : Nat) (a1 : Int) (a2 : ByteArray) (K0 : ByteArray → Int → Option β) : Option β := cond (decide (a1 < 1)) (K0 ByteArray.empty 22) (cond (decide (a1 > 8)) (K0 ByteArray.empty 22) (cond (decide ((a2.size : Int) > 58)) (K0 ByteArray.empty 8) (f101_1 F 1 (IntKind.u64.wrap a1) (fun x1 => f101_1 F 1 (IntKind.u64.wrap (a2.size : Int)) (fun x2 => cond (decide (x1.size + x2.size ≤ 4611686018427387904)) (cond (decide ((x1 ++ x2).size + a2.size ≤ 4611686018427387904)) (f54_1 F  (fun x3 => cond (decide ((0 : Int) ≤ (((x1 ++ x2) ++ a2).size : Int) ∧ (((x1 ++ x2) ++ a2).size : Int) ≤ (60 : Int) ∧ (60 : Int) ≤ (x3.size : Int))) (cond (decide (((x1 ++ x2) ++ a2).size + (x3.extract ((((x1 ++ x2) ++ a2).size : Int).toNat) 60).size ≤ 4611686018427387904)) (f102_1 F (toInts (((x1 ++ x2) ++ a2) ++ (x3.extract ((((x1 ++ x2) ++ a2).size : Int).toNat) 60))) (fun x4 => f101_1 F 4 (IntKind.u64.wrap x4) (fun x5 => cond (decide ((((x1 ++ x2) ++ a2) ++ (x3.extract ((((x1 ++ x2) ++ a2).size : Int).toNat) 60)).size + x5.size ≤ 4611686018427387904)) (K0 ((((x1 ++ x2) ++ a2) ++ (x3.extract ((((x1 ++ x2) ++ a2).size : Int).toNat) 60)) ++ x5) 0) none) ) ) none) none) ) none) none) ) )))
variable [FZ]
def sh100_1 : Sh := ⟨[.lf (.int .i64), .lf (.str)], []⟩
abbrev Y100_1 := Int → ByteArray → (ByteArray → Int → Option Res) → Option Res
noncomputable def A100_1 (g : Y100_1) (d : sh100_1.den) (K : KF) : Option Res := g d.1.1 d.1.2.1 (fun (y0 : ByteArray) (y1 : Int) => K [.lf (.str y0), .lf (.int .i64 y1)] [])
noncomputable def S100_1 (F : Nat) (o : Summ) : Summ := mkS sh100_1 (fun d K => A100_1 (f100_1 F) d K) o
noncomputable def code100 : Code := bodyOf Tryz.f100
theorem scopes100 : scopesOf code100 = [] := by kernel_rfl
theorem ranges100 : rangesOf code100 = [] := by kernel_rfl
theorem loops100 : loopsOf code100 = [] := by kernel_rfl
theorem enter100 : ∀ args w, (callFunc 100 args).run Tryz.prog w = .ok (.enter 100 args) w := enter_of (fn := Tryz.f100) (by kernel_rfl) (by kernel_rfl) (by kernel_rfl)
noncomputable def T100_1 (F : Nat) : FuncId → Option Summ := tab [(54, (S54_1 F noS)), (101, (S101_1 F noS)), (102, (S102_1 F noS))]
noncomputable def TB100_1 (c54_1 : Y54_1) (c101_1 : Y101_1) (c102_1 : Y102_1) : FuncId → Option Summ := tab [(54, (mkS sh54_1 (fun d K => A54_1 c54_1 d K) noS)), (101, (mkS sh101_1 (fun d K => A101_1 c101_1 d K) noS)), (102, (mkS sh102_1 (fun d K => A102_1 c102_1 d K) noS))]
noncomputable def LT100_1 (F : Nat) : Nat → Option LoopS := ltab []
theorem E100_1g (F : Nat) (c54_1 : Y54_1) (c101_1 : Y101_1) (c102_1 : Y102_1)   (d : sh100_1.den) (K : KF) : evBody Tryz.prog (TB100_1 c54_1 c101_1 c102_1) (xw []) 41 0 (ltab []) [] false code100 Tryz.f100.results.toList (encT sh100_1.vs d.1) (encH sh100_1.h d.2) K = A100_1 (fun (a1 : Int) (a2 : ByteArray) (K0 : (ByteArray → Int → Option Res)) => cond (decide (a1 < 1)) (K0 ByteArray.empty 22) (cond (decide (a1 > 8)) (K0 ByteArray.empty 22) (cond (decide ((a2.size : Int) > 58)) (K0 ByteArray.empty 8) (c101_1 1 (IntKind.u64.wrap a1) (fun x1 => c101_1 1 (IntKind.u64.wrap (a2.size : Int)) (fun x2 => cond (decide (x1.size + x2.size ≤ 4611686018427387904)) (cond (decide ((x1 ++ x2).size + a2.size ≤ 4611686018427387904)) (c54_1  (fun x3 => cond (decide ((0 : Int) ≤ (((x1 ++ x2) ++ a2).size : Int) ∧ (((x1 ++ x2) ++ a2).size : Int) ≤ (60 : Int) ∧ (60 : Int) ≤ (x3.size : Int))) (cond (decide (((x1 ++ x2) ++ a2).size + (x3.extract ((((x1 ++ x2) ++ a2).size : Int).toNat) 60).size ≤ 4611686018427387904)) (c102_1 (toInts (((x1 ++ x2) ++ a2) ++ (x3.extract ((((x1 ++ x2) ++ a2).size : Int).toNat) 60))) (fun x4 => c101_1 4 (IntKind.u64.wrap x4) (fun x5 => cond (decide ((((x1 ++ x2) ++ a2) ++ (x3.extract ((((x1 ++ x2) ++ a2).size : Int).toNat) 60)).size + x5.size ≤ 4611686018427387904)) (K0 ((((x1 ++ x2) ++ a2) ++ (x3.extract ((((x1 ++ x2) ++ a2).size : Int).toNat) 60)) ++ x5) 0) none) ) ) none) none) ) none) none) ) )))) d K := by kernel_rfl
theorem E100_1 (F : Nat) (d : sh100_1.den) (K : KF) : evBody Tryz.prog (T100_1 F) (xw []) 41 0 (LT100_1 F) [] false code100 Tryz.f100.results.toList (encT sh100_1.vs d.1) (encH sh100_1.h d.2) K = A100_1 (f100_1 F) d K := Eq.mp (by kernel_rfl) (E100_1g F (f54_1 F) (f101_1 F) (f102_1 F)   d K)
theorem S100_1_ok (F : Nat) (o : Summ) (ho : SoundFn Tryz.prog 100 o) : SoundFn Tryz.prog 100 (S100_1 F o) :=
  soundFn_of (fn := Tryz.f100) (c := code100) rfl rfl (by kernel_rfl) (tab_cons (S54_1_ok F _ (noS_sound enter54)) (tab_cons (S101_1_ok F _ (noS_sound enter101)) (tab_cons (S102_1_ok F _ (noS_sound enter102)) tab_nil))) (by kernel_rfl) (by kernel_rfl) ho (by rw [loops100]; exact loopsOK_nil) (by rw [scopes100]; exact scopesOK_nil) (by rw [ranges100]; exact rangesOK_nil)  (E100_1 F)
end Go.Proofs.YtlgopekjjkdkiaaGreatDoor.X
end

section
namespace Go.Proofs.YtlgopekjjkdkiaaGreatDoor.X
open Go Go.Proofs.YtlgopekjjkdkiaaGreatDoor.Ev Go.Proofs
set_option linter.unusedVariables false
set_option linter.unusedSectionVars false
/-! pentimentoref15.Head -/
noncomputable def f38_1 {β : Type} (F : Nat) (a1 : Int) (a2 : ByteArray) (a3 : Int) (a4 : Int) (a5 : ByteArray) (K0 : ByteArray → Option β) : Option β := f101_1 F 4 (IntKind.u64.wrap a3) (fun x1 => cond (decide (a2.size + x1.size ≤ 4611686018427387904)) (f101_1 F 4 (IntKind.u64.wrap a4) (fun x2 => cond (decide ((a2 ++ x1).size + x2.size ≤ 4611686018427387904)) (f102_1 F (toInts a5) (fun x3 => f101_1 F 4 (IntKind.u64.wrap x3) (fun x4 => cond (decide (((a2 ++ x1) ++ x2).size + x4.size ≤ 4611686018427387904)) (f100_1 F a1 (((a2 ++ x1) ++ x2) ++ x4) (fun x5 x6 => K0 x5) ) none) ) ) none) ) none) 
variable [FZ]
def sh38_1 : Sh := ⟨[.lf (.int .i64), .lf (.str), .lf (.int .i64), .lf (.int .i64), .lf (.str)], []⟩
abbrev Y38_1 := Int → ByteArray → Int → Int → ByteArray → (ByteArray → Option Res) → Option Res
noncomputable def A38_1 (g : Y38_1) (d : sh38_1.den) (K : KF) : Option Res := g d.1.1 d.1.2.1 d.1.2.2.1 d.1.2.2.2.1 d.1.2.2.2.2.1 (fun (y0 : ByteArray) => K [.lf (.str y0)] [])
noncomputable def S38_1 (F : Nat) (o : Summ) : Summ := mkS sh38_1 (fun d K => A38_1 (f38_1 F) d K) o
noncomputable def code38 : Code := bodyOf Tryz.f38
theorem scopes38 : scopesOf code38 = [] := by kernel_rfl
theorem ranges38 : rangesOf code38 = [] := by kernel_rfl
theorem loops38 : loopsOf code38 = [] := by kernel_rfl
theorem enter38 : ∀ args w, (callFunc 38 args).run Tryz.prog w = .ok (.enter 38 args) w := enter_of (fn := Tryz.f38) (by kernel_rfl) (by kernel_rfl) (by kernel_rfl)
noncomputable def T38_1 (F : Nat) : FuncId → Option Summ := tab [(100, (S100_1 F noS)), (101, (S101_1 F noS)), (102, (S102_1 F noS))]
noncomputable def TB38_1 (c100_1 : Y100_1) (c101_1 : Y101_1) (c102_1 : Y102_1) : FuncId → Option Summ := tab [(100, (mkS sh100_1 (fun d K => A100_1 c100_1 d K) noS)), (101, (mkS sh101_1 (fun d K => A101_1 c101_1 d K) noS)), (102, (mkS sh102_1 (fun d K => A102_1 c102_1 d K) noS))]
noncomputable def LT38_1 (F : Nat) : Nat → Option LoopS := ltab []
theorem E38_1g (F : Nat) (c100_1 : Y100_1) (c101_1 : Y101_1) (c102_1 : Y102_1)   (d : sh38_1.den) (K : KF) : evBody Tryz.prog (TB38_1 c100_1 c101_1 c102_1) (xw []) 34 0 (ltab []) [] false code38 Tryz.f38.results.toList (encT sh38_1.vs d.1) (encH sh38_1.h d.2) K = A38_1 (fun (a1 : Int) (a2 : ByteArray) (a3 : Int) (a4 : Int) (a5 : ByteArray) (K0 : (ByteArray → Option Res)) => c101_1 4 (IntKind.u64.wrap a3) (fun x1 => cond (decide (a2.size + x1.size ≤ 4611686018427387904)) (c101_1 4 (IntKind.u64.wrap a4) (fun x2 => cond (decide ((a2 ++ x1).size + x2.size ≤ 4611686018427387904)) (c102_1 (toInts a5) (fun x3 => c101_1 4 (IntKind.u64.wrap x3) (fun x4 => cond (decide (((a2 ++ x1) ++ x2).size + x4.size ≤ 4611686018427387904)) (c100_1 a1 (((a2 ++ x1) ++ x2) ++ x4) (fun x5 x6 => K0 x5) ) none) ) ) none) ) none) ) d K := by kernel_rfl
theorem E38_1 (F : Nat) (d : sh38_1.den) (K : KF) : evBody Tryz.prog (T38_1 F) (xw []) 34 0 (LT38_1 F) [] false code38 Tryz.f38.results.toList (encT sh38_1.vs d.1) (encH sh38_1.h d.2) K = A38_1 (f38_1 F) d K := Eq.mp (by kernel_rfl) (E38_1g F (f100_1 F) (f101_1 F) (f102_1 F)   d K)
theorem S38_1_ok (F : Nat) (o : Summ) (ho : SoundFn Tryz.prog 38 o) : SoundFn Tryz.prog 38 (S38_1 F o) :=
  soundFn_of (fn := Tryz.f38) (c := code38) rfl rfl (by kernel_rfl) (tab_cons (S100_1_ok F _ (noS_sound enter100)) (tab_cons (S101_1_ok F _ (noS_sound enter101)) (tab_cons (S102_1_ok F _ (noS_sound enter102)) tab_nil))) (by kernel_rfl) (by kernel_rfl) ho (by rw [loops38]; exact loopsOK_nil) (by rw [scopes38]; exact scopesOK_nil) (by rw [ranges38]; exact rangesOK_nil)  (E38_1 F)
end Go.Proofs.YtlgopekjjkdkiaaGreatDoor.X
end

section
namespace Go.Proofs.YtlgopekjjkdkiaaGreatDoor.X
open Go Go.Proofs.YtlgopekjjkdkiaaGreatDoor.Ev Go.Proofs
set_option linter.unusedVariables false
set_option linter.unusedSectionVars false
/-! pentimentoref15.Append -/
noncomputable def f79_1 {β : Type} (F : Nat) (a1 : Int) (a2 : Int) (a3 : Int) (a4 : Int) (a5 : Int) (a6 : Int) (a7 : Int) (a8 : Int) (a9 : Int) (a10 : Bool) (a11 : Int) (a12 : List ByteArray) (a13 : List (Int × ByteArray)) (K0 : Int → Int → Int → ByteArray → Int → Int → Bool → Int → List ByteArray → List (Int × ByteArray) → Option β) : Option β := f21_1 F a1 a2 a3 a4 (fun x1 => cond (!x1) (K0 0 0 0 ByteArray.empty 12 a9 a10 a11 a12 a13) (cond (decide (a5 < 0)) (K0 0 0 0 ByteArray.empty 11 a9 a10 a11 a12 a13) (cond (decide (a5 ≥ a4)) (K0 0 0 0 ByteArray.empty 11 a9 a10 a11 a12 a13) (f141_1 F a1 a2 a3 a4 a8 (fun x2 => cond (!x2) (K0 0 0 0 ByteArray.empty 3 a9 a10 a11 a12 a13) (f124_1 F a8 a9 a10 a11 a12 a13 (fun x3 x4 => cond (x4 != 0) (K0 0 0 0 ByteArray.empty x4 a9 a10 a11 a12 a13) (amb (f101_1 F 8 a6 (fun x5 => f101_1 F 8 a7 (fun x6 => cond (decide (x5.size + x6.size ≤ 4611686018427387904)) (f38_1 F 7 (x5 ++ x6) a5 a8 x3 (fun x7 => f137_1 F a1 a2 a3 a4 1 a5 x7 x3 a9 a10 a11 a12 a13 (fun x8 x9 x10 x11 x12 x13 => cond (x8 != 0) (K0 0 0 0 ByteArray.empty x8 x9 x10 x11 x12 x13) (K0 a6 a7 a8 x3 0 x9 x10 x11 x12 x13)) ) ) none) ) ) (f101_1 F 8 a6 (fun x14 => amb (f101_1 F 8 a7 (fun x15 => cond (decide (x14.size + x15.size ≤ 4611686018427387904)) (f38_1 F 7 (x14 ++ x15) a5 a8 x3 (fun x16 => f137_1 F a1 a2 a3 a4 1 a5 x16 x3 a9 a10 a11 a12 a13 (fun x17 x18 x19 x20 x21 x22 => cond (x17 != 0) (K0 0 0 0 ByteArray.empty x17 x18 x19 x20 x21 x22) (K0 a6 a7 a8 x3 0 x18 x19 x20 x21 x22)) ) ) none) ) (f101_1 F 8 a7 (fun x23 => cond (decide (x14.size + x23.size ≤ 4611686018427387904)) ((fun z1 => amb z1 z1) (f38_1 F 7 (x14 ++ x23) a5 a8 x3 (fun x24 => f137_1 F a1 a2 a3 a4 1 a5 x24 x3 a9 a10 a11 a12 a13 (fun x25 x26 x27 x28 x29 x30 => cond (x25 != 0) (K0 0 0 0 ByteArray.empty x25 x26 x27 x28 x29 x30) (K0 a6 a7 a8 x3 0 x26 x27 x28 x29 x30)) ) )) none) )) ))) )) )))) 
variable [FZ]
def sh79_1 : Sh := ⟨[.lf (.ptr 0 0), .agg [.int .i64, .int .i64, .int .i64, .int .i64], .lf (.int .i64), .lf (.int .u64), .lf (.int .u64), .lf (.int .i64)], [some ⟨some false, [.full 1, .full 2, .int .i64, .bool, .int .i64]⟩, some ⟨some false, [.seq .str 0]⟩, some ⟨some false, [.seq (.pair (.int .i64) .str) 0]⟩]⟩
abbrev Y79_1 := Int → Int → Int → Int → Int → Int → Int → Int → Int → Bool → Int → List ByteArray → List (Int × ByteArray) → (Int → Int → Int → ByteArray → Int → Int → Bool → Int → List ByteArray → List (Int × ByteArray) → Option Res) → Option Res
noncomputable def A79_1 (g : Y79_1) (d : sh79_1.den) (K : KF) : Option Res := g d.1.2.1.1 d.1.2.1.2.1 d.1.2.1.2.2.1 d.1.2.1.2.2.2.1 d.1.2.2.1 d.1.2.2.2.1 d.1.2.2.2.2.1 d.1.2.2.2.2.2.1 d.2.1.2.2.2.1 d.2.1.2.2.2.2.1 d.2.1.2.2.2.2.2.1 d.2.2.1.2.1 d.2.2.2.1.2.1 (fun (y0 : Int) (y1 : Int) (y2 : Int) (y3 : ByteArray) (y4 : Int) (y5 : Int) (y6 : Bool) (y7 : Int) (y8 : List ByteArray) (y9 : List (Int × ByteArray)) => K [.agg [.int .u64 y0, .int .u64 y1, .int .i64 y2, .str y3], .lf (.int .i64 y4)] [some ⟨false, [.full 1, .full 3, .int .i64 y5, .bool y6, .int .i64 y7]⟩, some ⟨false, [.seq .str 0 y8]⟩, none, some ⟨false, [.seq (.pair (.int .i64) .str) 0 y9]⟩])
noncomputable def S79_1 (F : Nat) (o : Summ) : Summ := mkS sh79_1 (fun d K => A79_1 (f79_1 F) d K) o
noncomputable def code79 : Code := bodyOf Tryz.f79
theorem scopes79 : scopesOf code79 = [] := by kernel_rfl
theorem ranges79 : rangesOf code79 = [] := by kernel_rfl
theorem loops79 : loopsOf code79 = [] := by kernel_rfl
theorem enter79 : ∀ args w, (callFunc 79 args).run Tryz.prog w = .ok (.enter 79 args) w := enter_of (fn := Tryz.f79) (by kernel_rfl) (by kernel_rfl) (by kernel_rfl)
noncomputable def T79_1 (F : Nat) : FuncId → Option Summ := tab [(21, (S21_1 F noS)), (38, (S38_1 F noS)), (101, (S101_1 F noS)), (124, (S124_1 F noS)), (137, (S137_1 F noS)), (141, (S141_1 F noS))]
noncomputable def TB79_1 (c21_1 : Y21_1) (c38_1 : Y38_1) (c101_1 : Y101_1) (c124_1 : Y124_1) (c137_1 : Y137_1) (c141_1 : Y141_1) : FuncId → Option Summ := tab [(21, (mkS sh21_1 (fun d K => A21_1 c21_1 d K) noS)), (38, (mkS sh38_1 (fun d K => A38_1 c38_1 d K) noS)), (101, (mkS sh101_1 (fun d K => A101_1 c101_1 d K) noS)), (124, (mkS sh124_1 (fun d K => A124_1 c124_1 d K) noS)), (137, (mkS sh137_1 (fun d K => A137_1 c137_1 d K) noS)), (141, (mkS sh141_1 (fun d K => A141_1 c141_1 d K) noS))]
noncomputable def LT79_1 (F : Nat) : Nat → Option LoopS := ltab []
theorem E79_1g (F : Nat) (c21_1 : Y21_1) (c38_1 : Y38_1) (c101_1 : Y101_1) (c124_1 : Y124_1) (c137_1 : Y137_1) (c141_1 : Y141_1)   (d : sh79_1.den) (K : KF) : evBody Tryz.prog (TB79_1 c21_1 c38_1 c101_1 c124_1 c137_1 c141_1) (xw [10]) 67 3 (ltab []) [2] false code79 Tryz.f79.results.toList (encT sh79_1.vs d.1) (encH sh79_1.h d.2) K = A79_1 (fun (a1 : Int) (a2 : Int) (a3 : Int) (a4 : Int) (a5 : Int) (a6 : Int) (a7 : Int) (a8 : Int) (a9 : Int) (a10 : Bool) (a11 : Int) (a12 : List ByteArray) (a13 : List (Int × ByteArray)) (K0 : (Int → Int → Int → ByteArray → Int → Int → Bool → Int → List ByteArray → List (Int × ByteArray) → Option Res)) => c21_1 a1 a2 a3 a4 (fun x1 => cond (!x1) (K0 0 0 0 ByteArray.empty 12 a9 a10 a11 a12 a13) (cond (decide (a5 < 0)) (K0 0 0 0 ByteArray.empty 11 a9 a10 a11 a12 a13) (cond (decide (a5 ≥ a4)) (K0 0 0 0 ByteArray.empty 11 a9 a10 a11 a12 a13) (c141_1 a1 a2 a3 a4 a8 (fun x2 => cond (!x2) (K0 0 0 0 ByteArray.empty 3 a9 a10 a11 a12 a13) (c124_1 a8 a9 a10 a11 a12 a13 (fun x3 x4 => cond (x4 != 0) (K0 0 0 0 ByteArray.empty x4 a9 a10 a11 a12 a13) (amb (c101_1 8 a6 (fun x5 => c101_1 8 a7 (fun x6 => cond (decide (x5.size + x6.size ≤ 4611686018427387904)) (c38_1 7 (x5 ++ x6) a5 a8 x3 (fun x7 => c137_1 a1 a2 a3 a4 1 a5 x7 x3 a9 a10 a11 a12 a13 (fun x8 x9 x10 x11 x12 x13 => cond (x8 != 0) (K0 0 0 0 ByteArray.empty x8 x9 x10 x11 x12 x13) (K0 a6 a7 a8 x3 0 x9 x10 x11 x12 x13)) ) ) none) ) ) (c101_1 8 a6 (fun x14 => amb (c101_1 8 a7 (fun x15 => cond (decide (x14.size + x15.size ≤ 4611686018427387904)) (c38_1 7 (x14 ++ x15) a5 a8 x3 (fun x16 => c137_1 a1 a2 a3 a4 1 a5 x16 x3 a9 a10 a11 a12 a13 (fun x17 x18 x19 x20 x21 x22 => cond (x17 != 0) (K0 0 0 0 ByteArray.empty x17 x18 x19 x20 x21 x22) (K0 a6 a7 a8 x3 0 x18 x19 x20 x21 x22)) ) ) none) ) (c101_1 8 a7 (fun x23 => cond (decide (x14.size + x23.size ≤ 4611686018427387904)) ((fun z1 => amb z1 z1) (c38_1 7 (x14 ++ x23) a5 a8 x3 (fun x24 => c137_1 a1 a2 a3 a4 1 a5 x24 x3 a9 a10 a11 a12 a13 (fun x25 x26 x27 x28 x29 x30 => cond (x25 != 0) (K0 0 0 0 ByteArray.empty x25 x26 x27 x28 x29 x30) (K0 a6 a7 a8 x3 0 x26 x27 x28 x29 x30)) ) )) none) )) ))) )) )))) ) d K := by kernel_rfl
theorem E79_1 (F : Nat) (d : sh79_1.den) (K : KF) : evBody Tryz.prog (T79_1 F) (xw [10]) 67 3 (LT79_1 F) [2] false code79 Tryz.f79.results.toList (encT sh79_1.vs d.1) (encH sh79_1.h d.2) K = A79_1 (f79_1 F) d K := Eq.mp (by kernel_rfl) (E79_1g F (f21_1 F) (f38_1 F) (f101_1 F) (f124_1 F) (f137_1 F) (f141_1 F)   d K)
theorem S79_1_ok (F : Nat) (o : Summ) (ho : SoundFn Tryz.prog 79 o) : SoundFn Tryz.prog 79 (S79_1 F o) :=
  soundFn_of (fn := Tryz.f79) (c := code79) rfl rfl (by kernel_rfl) (tab_cons (S21_1_ok F _ (noS_sound enter21)) (tab_cons (S38_1_ok F _ (noS_sound enter38)) (tab_cons (S101_1_ok F _ (noS_sound enter101)) (tab_cons (S124_1_ok F _ (noS_sound enter124)) (tab_cons (S137_1_ok F _ (noS_sound enter137)) (tab_cons (S141_1_ok F _ (noS_sound enter141)) tab_nil)))))) (by kernel_rfl) (by kernel_rfl) ho (by rw [loops79]; exact loopsOK_nil) (by rw [scopes79]; exact scopesOK_nil) (by rw [ranges79]; exact rangesOK_nil)  (E79_1 F)
end Go.Proofs.YtlgopekjjkdkiaaGreatDoor.X
end

section
namespace Go.Proofs.YtlgopekjjkdkiaaGreatDoor.X
open Go Go.Proofs.YtlgopekjjkdkiaaGreatDoor.Ev Go.Proofs
set_option linter.unusedVariables false
set_option linter.unusedSectionVars false
/-! pentimentoref08.Kind -/
noncomputable def f128_1_l8 {β : Type} (F : Nat) (v4 : ByteArray) (K0 : Option β) (K1 : Option β) : Nat → Int → Option β
  | 0, _ => none
  | k + 1, v5 => cond (decide (v5 < 60)) (cond (decide ((0 : Int) ≤ v5 ∧ v5 < (v4.size : Int))) (cond (((v4.data.getD v5.toNat 0).toNat : Int) != 0) (K0) (f128_1_l8 F v4 K0 K1 k (IntKind.i64.wrap (v5 + 1)))) none) (K1)
noncomputable def f128_1 {β : Type} (F : Nat) (a1 : ByteArray) (K0 : Int → Int → Option β) : Option β := f112_1 F a1 (fun x1 => cond (!x1) (K0 0 4) (cond (decide ((0 : Int) ≤ (0 : Int) ∧ (0 : Int) ≤ (60 : Int) ∧ (60 : Int) ≤ (a1.size : Int))) (cond (decide ((0 : Int) ≤ (60 : Int) ∧ (60 : Int) ≤ (a1.size : Int) ∧ (a1.size : Int) ≤ (a1.size : Int))) (f102_1 F (toInts (a1.extract 0 60)) (fun x2 => f101_1 F 4 (IntKind.u64.wrap x2) (fun x3 => cond (!(x3.toList == (a1.extract 60 ((a1.size : Int).toNat)).toList)) (K0 0 9) (cond (decide ((0 : Int) ≤ (0 : Int) ∧ (0 : Int) < (a1.size : Int))) (cond (decide (((a1.data.getD 0 0).toNat : Int) < 1)) (K0 0 6) (cond (decide ((0 : Int) ≤ (0 : Int) ∧ (0 : Int) < (a1.size : Int))) (cond (decide (((a1.data.getD 0 0).toNat : Int) > 8)) (K0 0 6) (cond (decide ((0 : Int) ≤ (1 : Int) ∧ (1 : Int) < (a1.size : Int))) (cond (decide (((a1.data.getD 1 0).toNat : Int) > 58)) (K0 0 6) (cond (decide ((0 : Int) ≤ (1 : Int) ∧ (1 : Int) < (a1.size : Int))) (f128_1_l8 F a1 (K0 0 6) (cond (decide ((0 : Int) ≤ (0 : Int) ∧ (0 : Int) < (a1.size : Int))) (K0 (IntKind.i64.wrap ((a1.data.getD 0 0).toNat : Int)) 0) none) F (IntKind.i64.wrap (2 + (IntKind.i64.wrap ((a1.data.getD 1 0).toNat : Int))))) none)) none)) none)) none)) ) ) none) none)) 
variable [FZ]
def sh128_1 : Sh := ⟨[.lf (.str)], []⟩
abbrev Y128_1 := ByteArray → (Int → Int → Option Res) → Option Res
noncomputable def A128_1 (g : Y128_1) (d : sh128_1.den) (K : KF) : Option Res := g d.1.1 (fun (y0 : Int) (y1 : Int) => K [.lf (.int .i64 y0), .lf (.int .i64 y1)] [])
noncomputable def S128_1 (F : Nat) (o : Summ) : Summ := mkS sh128_1 (fun d K => A128_1 (f128_1 F) d K) o
noncomputable def code128 : Code := bodyOf Tryz.f128
noncomputable def b128_0 : Code := cB (cB (cR (cL (cR (cR (cR (cR (code128))))))))
theorem scopes128 : scopesOf code128 = [] := by kernel_rfl
theorem ranges128 : rangesOf code128 = [] := by kernel_rfl
theorem loops128 : loopsOf code128 = [b128_0] := by kernel_rfl
theorem enter128 : ∀ args w, (callFunc 128 args).run Tryz.prog w = .ok (.enter 128 args) w := enter_of (fn := Tryz.f128) (by kernel_rfl) (by kernel_rfl) (by kernel_rfl)
noncomputable def T128_1 (F : Nat) : FuncId → Option Summ := tab [(101, (S101_1 F noS)), (102, (S102_1 F noS)), (112, (S112_1 F noS))]
noncomputable def TB128_1 (c101_1 : Y101_1) (c102_1 : Y102_1) (c112_1 : Y112_1) : FuncId → Option Summ := tab [(101, (mkS sh101_1 (fun d K => A101_1 c101_1 d K) noS)), (102, (mkS sh102_1 (fun d K => A102_1 c102_1 d K) noS)), (112, (mkS sh112_1 (fun d K => A112_1 c112_1 d K) noS))]
def sh128_1_l8 : Sh := ⟨[.lf (.str), .lf (.int .i64)], []⟩
abbrev Y128_1_l8 := ByteArray → (Option Res) → (Option Res) → Nat → Int → Option Res
noncomputable def A128_1_l8 (g : Y128_1_l8) (k : Nat) (d : sh128_1_l8.den) (K : KL) : Option Res := g d.1.1 (K .ret [.tv (.lf (.int .i64 0)), .tv (.lf (.int .i64 6))] []) (K (.exit 0) [.tv (.lf (.str d.1.1))] []) k d.1.2.1
noncomputable def G128_1_8 (F k : Nat) : LoopS := mkG sh128_1_l8 [0, 4] (outT [(.exit 0, [0]), (.ret, [2, 3])]) (fun d K => A128_1_l8 (f128_1_l8 F) k d K) []
noncomputable def LT128_1 (F : Nat) : Nat → Option LoopS := ltab [(8, G128_1_8 F F)]
theorem L128_1_l8g (F k : Nat) (c101_1 : Y101_1) (c102_1 : Y102_1) (c112_1 : Y112_1)  (l8 : Y128_1_l8) (X8 : LoopS) (d : sh128_1_l8.den) (K : KL) : A128_1_l8 ((fun (v4 : ByteArray) (K0 : (Option Res)) (K1 : (Option Res)) (k : Nat) (v5 : Int) => cond (decide (v5 < 60)) (cond (decide ((0 : Int) ≤ v5 ∧ v5 < (v4.size : Int))) (cond (((v4.data.getD v5.toNat 0).toNat : Int) != 0) (K0) (l8 v4 K0 K1 k (IntKind.i64.wrap (v5 + 1)))) none) (K1))) k d K = roundOf Tryz.prog (TB128_1 c101_1 c102_1 c112_1) (xw []) 45 0 (ltab [(8, X8)]) (mkG sh128_1_l8 [0, 4] (outT [(.exit 0, [0]), (.ret, [2, 3])]) (fun d K => A128_1_l8 l8 k d K) []) b128_0 (encT sh128_1_l8.vs d.1) (encH sh128_1_l8.h d.2) K := by kernel_rfl
theorem L128_1_8 (F : Nat) : LoopOK Tryz.prog (T128_1 F) (xw []) 45 0 (LT128_1 F) (G128_1_8 F F) b128_0 :=
  loopOK_of (s := sh128_1_l8) (live := [0, 4]) (out := (outT [(.exit 0, [0]), (.ret, [2, 3])])) (mv := []) (fun k d K => A128_1_l8 (f128_1_l8 F) k d K) F (fun d K => by kernel_rfl)  (fun k d K => Eq.mp (by kernel_rfl) (L128_1_l8g F k (f101_1 F) (f102_1 F) (f112_1 F)  (f128_1_l8 F) (G128_1_8 F F) d K))
theorem E128_1g (F : Nat) (c101_1 : Y101_1) (c102_1 : Y102_1) (c112_1 : Y112_1) (l8 : Y128_1_l8)  (d : sh128_1.den) (K : KF) : evBody Tryz.prog (TB128_1 c101_1 c102_1 c112_1) (xw []) 45 0 (ltab [(8, mkG sh128_1_l8 [0, 4] (outT [(.exit 0, [0]), (.ret, [2, 3])]) (fun d K => A128_1_l8 l8 F d K) [])]) [] false code128 Tryz.f128.results.toList (encT sh128_1.vs d.1) (encH sh128_1.h d.2) K = A128_1 (fun (a1 : ByteArray) (K0 : (Int → Int → Option Res)) => c112_1 a1 (fun x1 => cond (!x1) (K0 0 4) (cond (decide ((0 : Int) ≤ (0 : Int) ∧ (0 : Int) ≤ (60 : Int) ∧ (60 : Int) ≤ (a1.size : Int))) (cond (decide ((0 : Int) ≤ (60 : Int) ∧ (60 : Int) ≤ (a1.size : Int) ∧ (a1.size : Int) ≤ (a1.size : Int))) (c102_1 (toInts (a1.extract 0 60)) (fun x2 => c101_1 4 (IntKind.u64.wrap x2) (fun x3 => cond (!(x3.toList == (a1.extract 60 ((a1.size : Int).toNat)).toList)) (K0 0 9) (cond (decide ((0 : Int) ≤ (0 : Int) ∧ (0 : Int) < (a1.size : Int))) (cond (decide (((a1.data.getD 0 0).toNat : Int) < 1)) (K0 0 6) (cond (decide ((0 : Int) ≤ (0 : Int) ∧ (0 : Int) < (a1.size : Int))) (cond (decide (((a1.data.getD 0 0).toNat : Int) > 8)) (K0 0 6) (cond (decide ((0 : Int) ≤ (1 : Int) ∧ (1 : Int) < (a1.size : Int))) (cond (decide (((a1.data.getD 1 0).toNat : Int) > 58)) (K0 0 6) (cond (decide ((0 : Int) ≤ (1 : Int) ∧ (1 : Int) < (a1.size : Int))) (l8 a1 (K0 0 6) (cond (decide ((0 : Int) ≤ (0 : Int) ∧ (0 : Int) < (a1.size : Int))) (K0 (IntKind.i64.wrap ((a1.data.getD 0 0).toNat : Int)) 0) none) F (IntKind.i64.wrap (2 + (IntKind.i64.wrap ((a1.data.getD 1 0).toNat : Int))))) none)) none)) none)) none)) ) ) none) none)) ) d K := by kernel_rfl
theorem E128_1 (F : Nat) (d : sh128_1.den) (K : KF) : evBody Tryz.prog (T128_1 F) (xw []) 45 0 (LT128_1 F) [] false code128 Tryz.f128.results.toList (encT sh128_1.vs d.1) (encH sh128_1.h d.2) K = A128_1 (f128_1 F) d K := Eq.mp (by kernel_rfl) (E128_1g F (f101_1 F) (f102_1 F) (f112_1 F) (f128_1_l8 F)  d K)
theorem S128_1_ok (F : Nat) (o : Summ) (ho : SoundFn Tryz.prog 128 o) : SoundFn Tryz.prog 128 (S128_1 F o) :=
  soundFn_of (fn := Tryz.f128) (c := code128) rfl rfl (by kernel_rfl) (tab_cons (S101_1_ok F _ (noS_sound enter101)) (tab_cons (S102_1_ok F _ (noS_sound enter102)) (tab_cons (S112_1_ok F _ (noS_sound enter112)) tab_nil))) (by kernel_rfl) (by kernel_rfl) ho (by rw [loops128]; exact (loopsOK_cons (by kernel_rfl) (L128_1_8 F) loopsOK_nil)) (by rw [scopes128]; exact scopesOK_nil) (by rw [ranges128]; exact rangesOK_nil)  (E128_1 F)
end Go.Proofs.YtlgopekjjkdkiaaGreatDoor.X
end

section
namespace Go.Proofs.YtlgopekjjkdkiaaGreatDoor.X
open Go Go.Proofs.YtlgopekjjkdkiaaGreatDoor.Ev Go.Proofs
set_option linter.unusedVariables false
set_option linter.unusedSectionVars false
/-! pentimentoref08.Open -/
noncomputable def f168_1 {β : Type} (F : Nat) (a1 : Int) (a2 : ByteArray) (K0 : ByteArray → Int → Option β) : Option β := f128_1 F a2 (fun x1 x2 => cond (x2 != 0) (K0 ByteArray.empty x2) (cond (x1 != a1) (K0 ByteArray.empty 22) (cond (decide ((0 : Int) ≤ (1 : Int) ∧ (1 : Int) < (a2.size : Int))) (cond (decide ((0 : Int) ≤ (2 : Int) ∧ (2 : Int) ≤ IntKind.i64.wrap (2 + (IntKind.i64.wrap ((a2.data.getD 1 0).toNat : Int))) ∧ IntKind.i64.wrap (2 + (IntKind.i64.wrap ((a2.data.getD 1 0).toNat : Int))) ≤ (a2.size : Int))) (K0 (a2.extract 2 ((IntKind.i64.wrap (2 + (IntKind.i64.wrap ((a2.data.getD 1 0).toNat : Int)))).toNat)) 0) none) none))) 
variable [FZ]
def sh168_1 : Sh := ⟨[.lf (.int .i64), .lf (.str)], []⟩
abbrev Y168_1 := Int → ByteArray → (ByteArray → Int → Option Res) → Option Res
noncomputable def A168_1 (g : Y168_1) (d : sh168_1.den) (K : KF) : Option Res := g d.1.1 d.1.2.1 (fun (y0 : ByteArray) (y1 : Int) => K [.lf (.str y0), .lf (.int .i64 y1)] [])
noncomputable def S168_1 (F : Nat) (o : Summ) : Summ := mkS sh168_1 (fun d K => A168_1 (f168_1 F) d K) o
noncomputable def code168 : Code := bodyOf Tryz.f168
theorem scopes168 : scopesOf code168 = [] := by kernel_rfl
theorem ranges168 : rangesOf code168 = [] := by kernel_rfl
theorem loops168 : loopsOf code168 = [] := by kernel_rfl
theorem enter168 : ∀ args w, (callFunc 168 args).run Tryz.prog w = .ok (.enter 168 args) w := enter_of (fn := Tryz.f168) (by kernel_rfl) (by kernel_rfl) (by kernel_rfl)
noncomputable def T168_1 (F : Nat) : FuncId → Option Summ := tab [(128, (S128_1 F noS))]
noncomputable def TB168_1 (c128_1 : Y128_1) : FuncId → Option Summ := tab [(128, (mkS sh128_1 (fun d K => A128_1 c128_1 d K) noS))]
noncomputable def LT168_1 (F : Nat) : Nat → Option LoopS := ltab []
theorem E168_1g (F : Nat) (c128_1 : Y128_1)   (d : sh168_1.den) (K : KF) : evBody Tryz.prog (TB168_1 c128_1) (xw []) 25 0 (ltab []) [] false code168 Tryz.f168.results.toList (encT sh168_1.vs d.1) (encH sh168_1.h d.2) K = A168_1 (fun (a1 : Int) (a2 : ByteArray) (K0 : (ByteArray → Int → Option Res)) => c128_1 a2 (fun x1 x2 => cond (x2 != 0) (K0 ByteArray.empty x2) (cond (x1 != a1) (K0 ByteArray.empty 22) (cond (decide ((0 : Int) ≤ (1 : Int) ∧ (1 : Int) < (a2.size : Int))) (cond (decide ((0 : Int) ≤ (2 : Int) ∧ (2 : Int) ≤ IntKind.i64.wrap (2 + (IntKind.i64.wrap ((a2.data.getD 1 0).toNat : Int))) ∧ IntKind.i64.wrap (2 + (IntKind.i64.wrap ((a2.data.getD 1 0).toNat : Int))) ≤ (a2.size : Int))) (K0 (a2.extract 2 ((IntKind.i64.wrap (2 + (IntKind.i64.wrap ((a2.data.getD 1 0).toNat : Int)))).toNat)) 0) none) none))) ) d K := by kernel_rfl
theorem E168_1 (F : Nat) (d : sh168_1.den) (K : KF) : evBody Tryz.prog (T168_1 F) (xw []) 25 0 (LT168_1 F) [] false code168 Tryz.f168.results.toList (encT sh168_1.vs d.1) (encH sh168_1.h d.2) K = A168_1 (f168_1 F) d K := Eq.mp (by kernel_rfl) (E168_1g F (f128_1 F)   d K)
theorem S168_1_ok (F : Nat) (o : Summ) (ho : SoundFn Tryz.prog 168 o) : SoundFn Tryz.prog 168 (S168_1 F o) :=
  soundFn_of (fn := Tryz.f168) (c := code168) rfl rfl (by kernel_rfl) (tab_cons (S128_1_ok F _ (noS_sound enter128)) tab_nil) (by kernel_rfl) (by kernel_rfl) ho (by rw [loops168]; exact loopsOK_nil) (by rw [scopes168]; exact scopesOK_nil) (by rw [ranges168]; exact rangesOK_nil)  (E168_1 F)
end Go.Proofs.YtlgopekjjkdkiaaGreatDoor.X
end

section
namespace Go.Proofs.YtlgopekjjkdkiaaGreatDoor.X
open Go Go.Proofs.YtlgopekjjkdkiaaGreatDoor.Ev Go.Proofs
set_option linter.unusedVariables false
set_option linter.unusedSectionVars false
/-! pentimentoref01.Get -/
noncomputable def f142_1_l7 {β : Type} (F : Nat) (v1 : Int) (v2 : Int) (v5 : List Int) (K0 : Int → Option β) : Nat → Int → Int → Option β
  | 0, _, _ => none
  | k + 1, v3, v4 => cond (decide (v4 < v2)) (cond (decide ((0 : Int) ≤ IntKind.i64.wrap (v1 + v4) ∧ IntKind.i64.wrap (v1 + v4) < ((v5.length : Nat) : Int))) (cond (decide (0 + ((IntKind.i64.wrap (v1 + v4)).toNat) < v5.length)) (f142_1_l7 F v1 v2 v5 K0 k (IntKind.u64.wrap ((IntKind.u64.wrap (v3 * 256)) + (IntKind.u64.wrap (v5.getD (0 + ((IntKind.i64.wrap (v1 + v4)).toNat)) 0)))) (IntKind.i64.wrap (v4 + 1))) none) none) (K0 v3)
noncomputable def f142_1 {β : Type} (F : Nat) (a1 : Int) (a2 : Int) (a3 : List Int) (K0 : Int → Int → Option β) : Option β := cond (decide (a2 < 1)) (K0 0 2) (cond (decide (a2 > 8)) (K0 0 2) (cond (decide (a1 < 0)) (K0 0 2) (cond (decide (a1 > ((a3.length : Nat) : Int))) (K0 0 7) (cond (decide (IntKind.i64.wrap (((a3.length : Nat) : Int) - a1) < a2)) (K0 0 7) (f142_1_l7 F a1 a2 a3 (fun x6 => K0 x6 0) F 0 0)))))
variable [FZ]
def sh142_1 : Sh := ⟨[.lf (.full 0), .lf (.int .i64), .lf (.int .i64)], [some ⟨none, [.seq (.int .u8) 0]⟩]⟩
abbrev Y142_1 := Int → Int → List Int → (Int → Int → Option Res) → Option Res
noncomputable def A142_1 (g : Y142_1) (d : sh142_1.den) (K : KF) : Option Res := g d.1.2.1 d.1.2.2.1 d.2.1.2.1 (fun (y0 : Int) (y1 : Int) => K [.lf (.int .u64 y0), .lf (.int .i64 y1)] [some ⟨d.2.1.1, [.seq (.int .u8) 0 d.2.1.2.1]⟩])
noncomputable def S142_1 (F : Nat) (o : Summ) : Summ := mkS sh142_1 (fun d K => A142_1 (f142_1 F) d K) o
noncomputable def code142 : Code := bodyOf Tryz.f142
noncomputable def b142_0 : Code := cB (cB (cR (cL (cR (cR (cR (cR (code142))))))))
theorem scopes142 : scopesOf code142 = [] := by kernel_rfl
theorem ranges142 : rangesOf code142 = [] := by kernel_rfl
theorem loops142 : loopsOf code142 = [b142_0] := by kernel_rfl
theorem enter142 : ∀ args w, (callFunc 142 args).run Tryz.prog w = .ok (.enter 142 args) w := enter_of (fn := Tryz.f142) (by kernel_rfl) (by kernel_rfl) (by kernel_rfl)
noncomputable def T142_1 (F : Nat) : FuncId → Option Summ := tab []
noncomputable def TB142_1  : FuncId → Option Summ := tab []
def sh142_1_l7 : Sh := ⟨[.lf (.full 0), .lf (.int .i64), .lf (.int .i64), .lf (.int .u64), .lf (.int .i64)], [some ⟨none, [.seq (.int .u8) 0]⟩]⟩
abbrev Y142_1_l7 := Int → Int → List Int → (Int → Option Res) → Nat → Int → Int → Option Res
noncomputable def A142_1_l7 (g : Y142_1_l7) (k : Nat) (d : sh142_1_l7.den) (K : KL) : Option Res := g d.1.2.1 d.1.2.2.1 d.2.1.2.1 (fun (y0 : Int) => K (.exit 0) [.tv (.lf (.int .u64 y0))] [some ⟨d.2.1.1, [.seq (.int .u8) 0 d.2.1.2.1]⟩]) k d.1.2.2.2.1 d.1.2.2.2.2.1
noncomputable def G142_1_7 (F k : Nat) : LoopS := mkG sh142_1_l7 [0, 1, 2, 8, 9] (outT [(.exit 0, [8])]) (fun d K => A142_1_l7 (f142_1_l7 F) k d K) []
noncomputable def LT142_1 (F : Nat) : Nat → Option LoopS := ltab [(7, G142_1_7 F F)]
theorem L142_1_l7g (F k : Nat)   (l7 : Y142_1_l7) (X7 : LoopS) (d : sh142_1_l7.den) (K : KL) : A142_1_l7 ((fun (v1 : Int) (v2 : Int) (v5 : List Int) (K0 : (Int → Option Res)) (k : Nat) (v3 : Int) (v4 : Int) => cond (decide (v4 < v2)) (cond (decide ((0 : Int) ≤ IntKind.i64.wrap (v1 + v4) ∧ IntKind.i64.wrap (v1 + v4) < ((v5.length : Nat) : Int))) (cond (decide (0 + ((IntKind.i64.wrap (v1 + v4)).toNat) < v5.length)) (l7 v1 v2 v5 K0 k (IntKind.u64.wrap ((IntKind.u64.wrap (v3 * 256)) + (IntKind.u64.wrap (v5.getD (0 + ((IntKind.i64.wrap (v1 + v4)).toNat)) 0)))) (IntKind.i64.wrap (v4 + 1))) none) none) (K0 v3))) k d K = roundOf Tryz.prog TB142_1 (xw []) 48 1 (ltab [(7, X7)]) (mkG sh142_1_l7 [0, 1, 2, 8, 9] (outT [(.exit 0, [8])]) (fun d K => A142_1_l7 l7 k d K) []) b142_0 (encT sh142_1_l7.vs d.1) (encH sh142_1_l7.h d.2) K := by kernel_rfl
theorem L142_1_7 (F : Nat) : LoopOK Tryz.prog (T142_1 F) (xw []) 48 1 (LT142_1 F) (G142_1_7 F F) b142_0 :=
  loopOK_of (s := sh142_1_l7) (live := [0, 1, 2, 8, 9]) (out := (outT [(.exit 0, [8])])) (mv := []) (fun k d K => A142_1_l7 (f142_1_l7 F) k d K) F (fun d K => by kernel_rfl)  (fun k d K => Eq.mp (by kernel_rfl) (L142_1_l7g F k   (f142_1_l7 F) (G142_1_7 F F) d K))
theorem E142_1g (F : Nat)  (l7 : Y142_1_l7)  (d : sh142_1.den) (K : KF) : evBody Tryz.prog TB142_1 (xw []) 48 1 (ltab [(7, mkG sh142_1_l7 [0, 1, 2, 8, 9] (outT [(.exit 0, [8])]) (fun d K => A142_1_l7 l7 F d K) [])]) [] false code142 Tryz.f142.results.toList (encT sh142_1.vs d.1) (encH sh142_1.h d.2) K = A142_1 (fun (a1 : Int) (a2 : Int) (a3 : List Int) (K0 : (Int → Int → Option Res)) => cond (decide (a2 < 1)) (K0 0 2) (cond (decide (a2 > 8)) (K0 0 2) (cond (decide (a1 < 0)) (K0 0 2) (cond (decide (a1 > ((a3.length : Nat) : Int))) (K0 0 7) (cond (decide (IntKind.i64.wrap (((a3.length : Nat) : Int) - a1) < a2)) (K0 0 7) (l7 a1 a2 a3 (fun x6 => K0 x6 0) F 0 0)))))) d K := by kernel_rfl
theorem E142_1 (F : Nat) (d : sh142_1.den) (K : KF) : evBody Tryz.prog (T142_1 F) (xw []) 48 1 (LT142_1 F) [] false code142 Tryz.f142.results.toList (encT sh142_1.vs d.1) (encH sh142_1.h d.2) K = A142_1 (f142_1 F) d K := Eq.mp (by kernel_rfl) (E142_1g F  (f142_1_l7 F)  d K)
theorem S142_1_ok (F : Nat) (o : Summ) (ho : SoundFn Tryz.prog 142 o) : SoundFn Tryz.prog 142 (S142_1 F o) :=
  soundFn_of (fn := Tryz.f142) (c := code142) rfl rfl (by kernel_rfl) tab_nil (by kernel_rfl) (by kernel_rfl) ho (by rw [loops142]; exact (loopsOK_cons (by kernel_rfl) (L142_1_7 F) loopsOK_nil)) (by rw [scopes142]; exact scopesOK_nil) (by rw [ranges142]; exact rangesOK_nil)  (E142_1 F)
end Go.Proofs.YtlgopekjjkdkiaaGreatDoor.X
end

section
namespace Go.Proofs.YtlgopekjjkdkiaaGreatDoor.X
open Go Go.Proofs.YtlgopekjjkdkiaaGreatDoor.Ev Go.Proofs
set_option linter.unusedVariables false
set_option linter.unusedSectionVars false
/-! pentimentoref01.Reader).Num -/
noncomputable def f184_1 {β : Type} (F : Nat) (a1 : Int) (a2 : Int) (a3 : Int) (a4 : List Int) (K0 : Int → Int → Int → Option β) : Option β := cond (a3 != 0) (K0 0 a2 a3) (f142_1 F a2 a1 a4 (fun x1 x2 => cond (x2 == 0) (K0 x1 (IntKind.i64.wrap (a2 + a1)) x2) (K0 x1 a2 x2)) )
variable [FZ]
def sh184_1 : Sh := ⟨[.lf (.ptr 0 0), .lf (.int .i64)], [some ⟨some false, [.full 1, .int .i64, .int .i64]⟩, some ⟨none, [.seq (.int .u8) 0]⟩]⟩
abbrev Y184_1 := Int → Int → Int → List Int → (Int → Int → Int → Option Res) → Option Res
noncomputable def A184_1 (g : Y184_1) (d : sh184_1.den) (K : KF) : Option Res := g d.1.2.1 d.2.1.2.2.1 d.2.1.2.2.2.1 d.2.2.1.2.1 (fun (y0 : Int) (y1 : Int) (y2 : Int) => K [.lf (.int .u64 y0)] [some ⟨false, [.full 1, .int .i64 y1, .int .i64 y2]⟩, some ⟨d.2.2.1.1, [.seq (.int .u8) 0 d.2.2.1.2.1]⟩])
noncomputable def S184_1 (F : Nat) (o : Summ) : Summ := mkS sh184_1 (fun d K => A184_1 (f184_1 F) d K) o
noncomputable def code184 : Code := bodyOf Tryz.f184
theorem scopes184 : scopesOf code184 = [] := by kernel_rfl
theorem ranges184 : rangesOf code184 = [] := by kernel_rfl
theorem loops184 : loopsOf code184 = [] := by kernel_rfl
theorem enter184 : ∀ args w, (callFunc 184 args).run Tryz.prog w = .ok (.enter 184 args) w := enter_of (fn := Tryz.f184) (by kernel_rfl) (by kernel_rfl) (by kernel_rfl)
noncomputable def T184_1 (F : Nat) : FuncId → Option Summ := tab [(142, (S142_1 F noS))]
noncomputable def TB184_1 (c142_1 : Y142_1) : FuncId → Option Summ := tab [(142, (mkS sh142_1 (fun d K => A142_1 c142_1 d K) noS))]
noncomputable def LT184_1 (F : Nat) : Nat → Option LoopS := ltab []
theorem E184_1g (F : Nat) (c142_1 : Y142_1)   (d : sh184_1.den) (K : KF) : evBody Tryz.prog (TB184_1 c142_1) (xw []) 41 2 (ltab []) [] false code184 Tryz.f184.results.toList (encT sh184_1.vs d.1) (encH sh184_1.h d.2) K = A184_1 (fun (a1 : Int) (a2 : Int) (a3 : Int) (a4 : List Int) (K0 : (Int → Int → Int → Option Res)) => cond (a3 != 0) (K0 0 a2 a3) (c142_1 a2 a1 a4 (fun x1 x2 => cond (x2 == 0) (K0 x1 (IntKind.i64.wrap (a2 + a1)) x2) (K0 x1 a2 x2)) )) d K := by kernel_rfl
theorem E184_1 (F : Nat) (d : sh184_1.den) (K : KF) : evBody Tryz.prog (T184_1 F) (xw []) 41 2 (LT184_1 F) [] false code184 Tryz.f184.results.toList (encT sh184_1.vs d.1) (encH sh184_1.h d.2) K = A184_1 (f184_1 F) d K := Eq.mp (by kernel_rfl) (E184_1g F (f142_1 F)   d K)
theorem S184_1_ok (F : Nat) (o : Summ) (ho : SoundFn Tryz.prog 184 o) : SoundFn Tryz.prog 184 (S184_1 F o) :=
  soundFn_of (fn := Tryz.f184) (c := code184) rfl rfl (by kernel_rfl) (tab_cons (S142_1_ok F _ (noS_sound enter142)) tab_nil) (by kernel_rfl) (by kernel_rfl) ho (by rw [loops184]; exact loopsOK_nil) (by rw [scopes184]; exact scopesOK_nil) (by rw [ranges184]; exact rangesOK_nil)  (E184_1 F)
end Go.Proofs.YtlgopekjjkdkiaaGreatDoor.X
end

section
namespace Go.Proofs.YtlgopekjjkdkiaaGreatDoor.X
open Go Go.Proofs.YtlgopekjjkdkiaaGreatDoor.Ev Go.Proofs
set_option linter.unusedVariables false
set_option linter.unusedSectionVars false
/-! pentimentoref15.Part -/
noncomputable def f139_1 {β : Type} (F : Nat) (a1 : ByteArray) (a2 : Int) (a3 : Int) (a4 : Int) (K0 : ByteArray → Int → Int → Bool → Option β) : Option β := f168_1 F a2 a1 (fun x1 x2 => cond (x2 != 0) (K0 ByteArray.empty 0 0 false) (cond ((x1.size : Int) != (IntKind.i64.wrap (a3 + 12))) (K0 ByteArray.empty 0 0 false) (cond (decide ((0 : Int) ≤ a3 ∧ a3 ≤ IntKind.i64.wrap (a3 + 4) ∧ IntKind.i64.wrap (a3 + 4) ≤ (x1.size : Int))) (f101_1 F 4 (IntKind.u64.wrap a4) (fun x3 => cond (!((x1.extract a3.toNat ((IntKind.i64.wrap (a3 + 4)).toNat)).toList == x3.toList)) (K0 ByteArray.empty 0 0 false) (cond (decide ((0 : Int) ≤ IntKind.i64.wrap (a3 + 4) ∧ IntKind.i64.wrap (a3 + 4) ≤ (x1.size : Int) ∧ (x1.size : Int) ≤ (x1.size : Int))) (f184_1 F 4 0 0 (toInts (x1.extract ((IntKind.i64.wrap (a3 + 4)).toNat) ((x1.size : Int).toNat))) (fun x4 x5 x6 => cond (decide ((0 : Int) ≤ (0 : Int) ∧ (0 : Int) ≤ a3 ∧ a3 ≤ (x1.size : Int))) (f184_1 F 4 x5 x6 (toInts (x1.extract ((IntKind.i64.wrap (a3 + 4)).toNat) ((x1.size : Int).toNat))) (fun x7 x8 x9 => K0 (x1.extract 0 a3.toNat) (IntKind.i64.wrap x4) (IntKind.u32.wrap x7) true) ) none) ) none)) ) none))) 
variable [FZ]
def sh139_1 : Sh := ⟨[.lf (.str), .lf (.int .i64), .lf (.int .i64), .lf (.int .i64)], []⟩
abbrev Y139_1 := ByteArray → Int → Int → Int → (ByteArray → Int → Int → Bool → Option Res) → Option Res
noncomputable def A139_1 (g : Y139_1) (d : sh139_1.den) (K : KF) : Option Res := g d.1.1 d.1.2.1 d.1.2.2.1 d.1.2.2.2.1 (fun (y0 : ByteArray) (y1 : Int) (y2 : Int) (y3 : Bool) => K [.lf (.str y0), .lf (.int .i64 y1), .lf (.int .u32 y2), .lf (.bool y3)] [])
noncomputable def S139_1 (F : Nat) (o : Summ) : Summ := mkS sh139_1 (fun d K => A139_1 (f139_1 F) d K) o
noncomputable def code139 : Code := bodyOf Tryz.f139
theorem scopes139 : scopesOf code139 = [] := by kernel_rfl
theorem ranges139 : rangesOf code139 = [] := by kernel_rfl
theorem loops139 : loopsOf code139 = [] := by kernel_rfl
theorem enter139 : ∀ args w, (callFunc 139 args).run Tryz.prog w = .ok (.enter 139 args) w := enter_of (fn := Tryz.f139) (by kernel_rfl) (by kernel_rfl) (by kernel_rfl)
noncomputable def T139_1 (F : Nat) : FuncId → Option Summ := tab [(101, (S101_1 F noS)), (168, (S168_1 F noS)), (184, (S184_1 F noS))]
noncomputable def TB139_1 (c101_1 : Y101_1) (c168_1 : Y168_1) (c184_1 : Y184_1) : FuncId → Option Summ := tab [(101, (mkS sh101_1 (fun d K => A101_1 c101_1 d K) noS)), (168, (mkS sh168_1 (fun d K => A168_1 c168_1 d K) noS)), (184, (mkS sh184_1 (fun d K => A184_1 c184_1 d K) noS))]
noncomputable def LT139_1 (F : Nat) : Nat → Option LoopS := ltab []
theorem E139_1g (F : Nat) (c101_1 : Y101_1) (c168_1 : Y168_1) (c184_1 : Y184_1)   (d : sh139_1.den) (K : KF) : evBody Tryz.prog (TB139_1 c101_1 c168_1 c184_1) (xw [6]) 59 0 (ltab []) [] false code139 Tryz.f139.results.toList (encT sh139_1.vs d.1) (encH sh139_1.h d.2) K = A139_1 (fun (a1 : ByteArray) (a2 : Int) (a3 : Int) (a4 : Int) (K0 : (ByteArray → Int → Int → Bool → Option Res)) => c168_1 a2 a1 (fun x1 x2 => cond (x2 != 0) (K0 ByteArray.empty 0 0 false) (cond ((x1.size : Int) != (IntKind.i64.wrap (a3 + 12))) (K0 ByteArray.empty 0 0 false) (cond (decide ((0 : Int) ≤ a3 ∧ a3 ≤ IntKind.i64.wrap (a3 + 4) ∧ IntKind.i64.wrap (a3 + 4) ≤ (x1.size : Int))) (c101_1 4 (IntKind.u64.wrap a4) (fun x3 => cond (!((x1.extract a3.toNat ((IntKind.i64.wrap (a3 + 4)).toNat)).toList == x3.toList)) (K0 ByteArray.empty 0 0 false) (cond (decide ((0 : Int) ≤ IntKind.i64.wrap (a3 + 4) ∧ IntKind.i64.wrap (a3 + 4) ≤ (x1.size : Int) ∧ (x1.size : Int) ≤ (x1.size : Int))) (c184_1 4 0 0 (toInts (x1.extract ((IntKind.i64.wrap (a3 + 4)).toNat) ((x1.size : Int).toNat))) (fun x4 x5 x6 => cond (decide ((0 : Int) ≤ (0 : Int) ∧ (0 : Int) ≤ a3 ∧ a3 ≤ (x1.size : Int))) (c184_1 4 x5 x6 (toInts (x1.extract ((IntKind.i64.wrap (a3 + 4)).toNat) ((x1.size : Int).toNat))) (fun x7 x8 x9 => K0 (x1.extract 0 a3.toNat) (IntKind.i64.wrap x4) (IntKind.u32.wrap x7) true) ) none) ) none)) ) none))) ) d K := by kernel_rfl
theorem E139_1 (F : Nat) (d : sh139_1.den) (K : KF) : evBody Tryz.prog (T139_1 F) (xw [6]) 59 0 (LT139_1 F) [] false code139 Tryz.f139.results.toList (encT sh139_1.vs d.1) (encH sh139_1.h d.2) K = A139_1 (f139_1 F) d K := Eq.mp (by kernel_rfl) (E139_1g F (f101_1 F) (f168_1 F) (f184_1 F)   d K)
theorem S139_1_ok (F : Nat) (o : Summ) (ho : SoundFn Tryz.prog 139 o) : SoundFn Tryz.prog 139 (S139_1 F o) :=
  soundFn_of (fn := Tryz.f139) (c := code139) rfl rfl (by kernel_rfl) (tab_cons (S101_1_ok F _ (noS_sound enter101)) (tab_cons (S168_1_ok F _ (noS_sound enter168)) (tab_cons (S184_1_ok F _ (noS_sound enter184)) tab_nil))) (by kernel_rfl) (by kernel_rfl) ho (by rw [loops139]; exact loopsOK_nil) (by rw [scopes139]; exact scopesOK_nil) (by rw [ranges139]; exact rangesOK_nil)  (E139_1 F)
end Go.Proofs.YtlgopekjjkdkiaaGreatDoor.X
end

section
namespace Go.Proofs.YtlgopekjjkdkiaaGreatDoor.X
open Go Go.Proofs.YtlgopekjjkdkiaaGreatDoor.Ev Go.Proofs
set_option linter.unusedVariables false
set_option linter.unusedSectionVars false
/-! pentimentoref15.Scan -/
noncomputable def f80_1_l5 {β : Type} (F : Nat) (v2 : Int) (v4 : Int) (v5 : Bool) (v6 : Int) (v7 : List ByteArray) (v8 : List (Int × ByteArray)) (v9 : Int) (v10 : Int) (v11 : Int) (v12 : Int) (K0 : Int → List (Int × (Int × (Int × ByteArray))) → Option β) (K1 : List (Int × (Int × (Int × ByteArray))) → Option β) (K2 : List (Int × (Int × (Int × ByteArray))) → List Int → List Int → Option β) (K3 : Int → List (Int × (Int × (Int × ByteArray))) → List Int → List Int → Option β) (K4 : List (Int × (Int × (Int × ByteArray))) → List Int → List Int → List Int → Option β) (K5 : List (Int × (Int × (Int × ByteArray))) → Option β) : Nat → Int → List (Int × (Int × (Int × ByteArray))) → Option β
  | 0, _, _ => none
  | k + 1, v3, v13 => cond (decide (v3 < v12)) (f138_1 F v9 v10 v11 v12 1 (IntKind.i64.wrap (2 * v3)) (fun x14 => f124_1 F x14 v4 v5 v6 v7 v8 (fun x15 x16 => cond (x16 != 0) (K0 x16 v13) (f139_1 F x15 7 16 v3 (fun x17 x18 x19 x20 => cond (!x20) (K1 v13) (f141_1 F v9 v10 v11 v12 x18 (fun x21 => cond (!x21) (K1 v13) (f142_1 F 0 8 (toInts x17) (fun x22 x23 => f142_1 F 8 8 (toInts x17) (fun x24 x25 => cond (decide (x24 ≤ v2)) (K2 v13 (toInts x17) (toInts x17)) (cond (decide (((v13.length : Nat) : Int) > 0)) (cond (decide ((0 : Int) ≤ (0 : Int) ∧ (0 : Int) < ((v13.length : Nat) : Int))) (cond (decide (0 < v13.length)) (cond ((((v13.getD 0 (0, (0, (0, ByteArray.empty)))).2).1) != x24) (K2 v13 (toInts x17) (toInts x17)) (cond (decide ((0 : Int) ≤ (0 : Int) ∧ (0 : Int) < ((v13.length : Nat) : Int))) (cond (decide (0 < v13.length)) (cond (((v13.getD 0 (0, (0, (0, ByteArray.empty)))).1) != x22) (K2 v13 (toInts x17) (toInts x17)) (f138_1 F v9 v10 v11 v12 1 (IntKind.i64.wrap ((IntKind.i64.wrap (2 * v3)) + 1)) (fun x26 => f124_1 F x26 v4 v5 v6 v7 v8 (fun x27 x28 => cond (x28 != 0) (K3 x28 v13 (toInts x17) (toInts x17)) (f102_1 F (toInts x27) (fun x29 => cond (x29 != x19) (K4 v13 (toInts x17) (toInts x17) (toInts x27)) (cond (decide ((v13.length + 1) * 40 ≤ 70368744177664)) (f80_1_l5 F v2 v4 v5 v6 v7 v8 v9 v10 v11 v12 K0 K1 K2 K3 K4 K5 k (IntKind.i64.wrap (v3 + 1)) (v13 ++ [(x22, (x24, (x18, x27)))])) none)) )) ) )) none) none)) none) none) (f138_1 F v9 v10 v11 v12 1 (IntKind.i64.wrap ((IntKind.i64.wrap (2 * v3)) + 1)) (fun x30 => f124_1 F x30 v4 v5 v6 v7 v8 (fun x31 x32 => cond (x32 != 0) (K3 x32 v13 (toInts x17) (toInts x17)) (f102_1 F (toInts x31) (fun x33 => cond (x33 != x19) (K4 v13 (toInts x17) (toInts x17) (toInts x31)) (cond (decide ((v13.length + 1) * 40 ≤ 70368744177664)) (f80_1_l5 F v2 v4 v5 v6 v7 v8 v9 v10 v11 v12 K0 K1 K2 K3 K4 K5 k (IntKind.i64.wrap (v3 + 1)) (v13 ++ [(x22, (x24, (x18, x31)))])) none)) )) ) ))) ) )) )) )) ) ) (K5 v13)
noncomputable def f80_1 {β : Type} (F : Nat) (a1 : Int) (a2 : Int) (a3 : Int) (a4 : Int) (a5 : Int) (a6 : Int) (a7 : Bool) (a8 : Int) (a9 : List ByteArray) (a10 : List (Int × ByteArray)) (K0 : Int → List (Int × (Int × (Int × ByteArray))) → Option β) : Option β := f21_1 F a1 a2 a3 a4 (fun x1 => cond (!x1) (K0 12 []) (f80_1_l5 F a5 a6 a7 a8 a9 a10 a1 a2 a3 a4 (fun x34 x35 => K0 x34 []) (fun x36 => K0 0 x36) (fun x37 x38 x39 => K0 0 x37) (fun x40 x41 x42 x43 => K0 x40 []) (fun x44 x45 x46 x47 => K0 0 x44) (fun x48 => K0 0 x48) F 0 [])) 
variable [FZ]
def sh80_1 : Sh := ⟨[.lf (.ptr 0 0), .agg [.int .i64, .int .i64, .int .i64, .int .i64], .lf (.int .u64)], [some ⟨none, [.full 1, .full 2, .int .i64, .bool, .int .i64]⟩, some ⟨none, [.seq .str 0]⟩, some ⟨none, [.seq (.pair (.int .i64) .str) 0]⟩]⟩
abbrev Y80_1 := Int → Int → Int → Int → Int → Int → Bool → Int → List ByteArray → List (Int × ByteArray) → (Int → List (Int × (Int × (Int × ByteArray))) → Option Res) → Option Res
noncomputable def A80_1 (g : Y80_1) (d : sh80_1.den) (K : KF) : Option Res := g d.1.2.1.1 d.1.2.1.2.1 d.1.2.1.2.2.1 d.1.2.1.2.2.2.1 d.1.2.2.1 d.2.1.2.2.2.1 d.2.1.2.2.2.2.1 d.2.1.2.2.2.2.2.1 d.2.2.1.2.1 d.2.2.2.1.2.1 (fun (y0 : Int) (y6 : List (Int × (Int × (Int × ByteArray)))) => K [.lf (.full 3), .lf (.int .i64 y0)] [some ⟨d.2.1.1, [.full 1, .full 2, .int .i64 d.2.1.2.2.2.1, .bool d.2.1.2.2.2.2.1, .int .i64 d.2.1.2.2.2.2.2.1]⟩, some ⟨d.2.2.1.1, [.seq .str 0 d.2.2.1.2.1]⟩, some ⟨d.2.2.2.1.1, [.seq (.pair (.int .i64) .str) 0 d.2.2.2.1.2.1]⟩, some ⟨false, [.seq (.pair (.int .u64) (.pair (.int .u64) (.pair (.int .i64) .str))) 0 y6]⟩])
noncomputable def S80_1 (F : Nat) (o : Summ) : Summ := mkS sh80_1 (fun d K => A80_1 (f80_1 F) d K) o
noncomputable def code80 : Code := bodyOf Tryz.f80
noncomputable def b80_0 : Code := cB (cB (cR (cL (cR (cR (cR (code80)))))))
theorem scopes80 : scopesOf code80 = [] := by kernel_rfl
theorem ranges80 : rangesOf code80 = [] := by kernel_rfl
theorem loops80 : loopsOf code80 = [b80_0] := by kernel_rfl
theorem enter80 : ∀ args w, (callFunc 80 args).run Tryz.prog w = .ok (.enter 80 args) w := enter_of (fn := Tryz.f80) (by kernel_rfl) (by kernel_rfl) (by kernel_rfl)
noncomputable def T80_1 (F : Nat) : FuncId → Option Summ := tab [(21, (S21_1 F noS)), (102, (S102_1 F noS)), (124, (S124_1 F noS)), (138, (S138_1 F noS)), (139, (S139_1 F noS)), (141, (S141_1 F noS)), (142, (S142_1 F noS))]
noncomputable def TB80_1 (c21_1 : Y21_1) (c102_1 : Y102_1) (c124_1 : Y124_1) (c138_1 : Y138_1) (c139_1 : Y139_1) (c141_1 : Y141_1) (c142_1 : Y142_1) : FuncId → Option Summ := tab [(21, (mkS sh21_1 (fun d K => A21_1 c21_1 d K) noS)), (102, (mkS sh102_1 (fun d K => A102_1 c102_1 d K) noS)), (124, (mkS sh124_1 (fun d K => A124_1 c124_1 d K) noS)), (138, (mkS sh138_1 (fun d K => A138_1 c138_1 d K) noS)), (139, (mkS sh139_1 (fun d K => A139_1 c139_1 d K) noS)), (141, (mkS sh141_1 (fun d K => A141_1 c141_1 d K) noS)), (142, (mkS sh142_1 (fun d K => A142_1 c142_1 d K) noS))]
def sh80_1_l5 : Sh := ⟨[.lf (.ptr 0 0), .lf (.int .u64), .lf (.ptr 3 0), .lf (.full 4), .lf (.int .i64)], [some ⟨none, [.full 1, .full 2, .int .i64, .bool, .int .i64]⟩, some ⟨none, [.seq .str 0]⟩, some ⟨none, [.seq (.pair (.int .i64) .str) 0]⟩, some ⟨some false, [.int .i64, .int .i64, .int .i64, .int .i64]⟩, some ⟨some false, [.seq (.pair (.int .u64) (.pair (.int .u64) (.pair (.int .i64) .str))) 0]⟩]⟩
abbrev Y80_1_l5 := Int → Int → Bool → Int → List ByteArray → List (Int × ByteArray) → Int → Int → Int → Int → (Int → List (Int × (Int × (Int × ByteArray))) → Option Res) → (List (Int × (Int × (Int × ByteArray))) → Option Res) → (List (Int × (Int × (Int × ByteArray))) → List Int → List Int → Option Res) → (Int → List (Int × (Int × (Int × ByteArray))) → List Int → List Int → Option Res) → (List (Int × (Int × (Int × ByteArray))) → List Int → List Int → List Int → Option Res) → (List (Int × (Int × (Int × ByteArray))) → Option Res) → Nat → Int → List (Int × (Int × (Int × ByteArray))) → Option Res
noncomputable def A80_1_l5 (g : Y80_1_l5) (k : Nat) (d : sh80_1_l5.den) (K : KL) : Option Res := g d.1.2.1 d.2.1.2.2.2.1 d.2.1.2.2.2.2.1 d.2.1.2.2.2.2.2.1 d.2.2.1.2.1 d.2.2.2.1.2.1 d.2.2.2.2.1.2.1 d.2.2.2.2.1.2.2.1 d.2.2.2.2.1.2.2.2.1 d.2.2.2.2.1.2.2.2.2.1 (fun (y0 : Int) (y10 : List (Int × (Int × (Int × ByteArray)))) => K .ret [.tv (.lf (.nils (some (.pair (.int .u64) (.pair (.int .u64) (.pair (.int .i64) .str)))))), .tv (.lf (.int .i64 y0))] [some ⟨d.2.1.1, [.full 1, .full 2, .int .i64 d.2.1.2.2.2.1, .bool d.2.1.2.2.2.2.1, .int .i64 d.2.1.2.2.2.2.2.1]⟩, some ⟨d.2.2.1.1, [.seq .str 0 d.2.2.1.2.1]⟩, some ⟨d.2.2.2.1.1, [.seq (.pair (.int .i64) .str) 0 d.2.2.2.1.2.1]⟩, some ⟨false, [.int .i64 d.2.2.2.2.1.2.1, .int .i64 d.2.2.2.2.1.2.2.1, .int .i64 d.2.2.2.2.1.2.2.2.1, .int .i64 d.2.2.2.2.1.2.2.2.2.1]⟩, some ⟨false, [.seq (.pair (.int .u64) (.pair (.int .u64) (.pair (.int .i64) .str))) 0 y10]⟩]) (fun (y10 : List (Int × (Int × (Int × ByteArray)))) => K .ret [.tv (.lf (.full 4)), .tv (.lf (.int .i64 0))] [some ⟨d.2.1.1, [.full 1, .full 2, .int .i64 d.2.1.2.2.2.1, .bool d.2.1.2.2.2.2.1, .int .i64 d.2.1.2.2.2.2.2.1]⟩, some ⟨d.2.2.1.1, [.seq .str 0 d.2.2.1.2.1]⟩, some ⟨d.2.2.2.1.1, [.seq (.pair (.int .i64) .str) 0 d.2.2.2.1.2.1]⟩, some ⟨false, [.int .i64 d.2.2.2.2.1.2.1, .int .i64 d.2.2.2.2.1.2.2.1, .int .i64 d.2.2.2.2.1.2.2.2.1, .int .i64 d.2.2.2.2.1.2.2.2.2.1]⟩, some ⟨false, [.seq (.pair (.int .u64) (.pair (.int .u64) (.pair (.int .i64) .str))) 0 y10]⟩]) (fun (y10 : List (Int × (Int × (Int × ByteArray)))) (y11 : List Int) (y12 : List Int) => K .ret [.tv (.lf (.full 4)), .tv (.lf (.int .i64 0))] [some ⟨d.2.1.1, [.full 1, .full 2, .int .i64 d.2.1.2.2.2.1, .bool d.2.1.2.2.2.2.1, .int .i64 d.2.1.2.2.2.2.2.1]⟩, some ⟨d.2.2.1.1, [.seq .str 0 d.2.2.1.2.1]⟩, some ⟨d.2.2.2.1.1, [.seq (.pair (.int .i64) .str) 0 d.2.2.2.1.2.1]⟩, some ⟨false, [.int .i64 d.2.2.2.2.1.2.1, .int .i64 d.2.2.2.2.1.2.2.1, .int .i64 d.2.2.2.2.1.2.2.2.1, .int .i64 d.2.2.2.2.1.2.2.2.2.1]⟩, some ⟨false, [.seq (.pair (.int .u64) (.pair (.int .u64) (.pair (.int .i64) .str))) 0 y10]⟩, some ⟨false, [.seq (.int .u8) 0 y11]⟩, some ⟨false, [.seq (.int .u8) 0 y12]⟩]) (fun (y0 : Int) (y10 : List (Int × (Int × (Int × ByteArray)))) (y11 : List Int) (y12 : List Int) => K .ret [.tv (.lf (.nils (some (.pair (.int .u64) (.pair (.int .u64) (.pair (.int .i64) .str)))))), .tv (.lf (.int .i64 y0))] [some ⟨d.2.1.1, [.full 1, .full 2, .int .i64 d.2.1.2.2.2.1, .bool d.2.1.2.2.2.2.1, .int .i64 d.2.1.2.2.2.2.2.1]⟩, some ⟨d.2.2.1.1, [.seq .str 0 d.2.2.1.2.1]⟩, some ⟨d.2.2.2.1.1, [.seq (.pair (.int .i64) .str) 0 d.2.2.2.1.2.1]⟩, some ⟨false, [.int .i64 d.2.2.2.2.1.2.1, .int .i64 d.2.2.2.2.1.2.2.1, .int .i64 d.2.2.2.2.1.2.2.2.1, .int .i64 d.2.2.2.2.1.2.2.2.2.1]⟩, some ⟨false, [.seq (.pair (.int .u64) (.pair (.int .u64) (.pair (.int .i64) .str))) 0 y10]⟩, some ⟨false, [.seq (.int .u8) 0 y11]⟩, some ⟨false, [.seq (.int .u8) 0 y12]⟩]) (fun (y10 : List (Int × (Int × (Int × ByteArray)))) (y11 : List Int) (y12 : List Int) (y13 : List Int) => K .ret [.tv (.lf (.full 4)), .tv (.lf (.int .i64 0))] [some ⟨d.2.1.1, [.full 1, .full 2, .int .i64 d.2.1.2.2.2.1, .bool d.2.1.2.2.2.2.1, .int .i64 d.2.1.2.2.2.2.2.1]⟩, some ⟨d.2.2.1.1, [.seq .str 0 d.2.2.1.2.1]⟩, some ⟨d.2.2.2.1.1, [.seq (.pair (.int .i64) .str) 0 d.2.2.2.1.2.1]⟩, some ⟨false, [.int .i64 d.2.2.2.2.1.2.1, .int .i64 d.2.2.2.2.1.2.2.1, .int .i64 d.2.2.2.2.1.2.2.2.1, .int .i64 d.2.2.2.2.1.2.2.2.2.1]⟩, some ⟨false, [.seq (.pair (.int .u64) (.pair (.int .u64) (.pair (.int .i64) .str))) 0 y10]⟩, some ⟨false, [.seq (.int .u8) 0 y11]⟩, some ⟨false, [.seq (.int .u8) 0 y12]⟩, some ⟨false, [.seq (.int .u8) 0 y13]⟩]) (fun (y9 : List (Int × (Int × (Int × ByteArray)))) => K (.exit 0) [.tv (.lf (.full 4))] [some ⟨d.2.1.1, [.full 1, .full 2, .int .i64 d.2.1.2.2.2.1, .bool d.2.1.2.2.2.2.1, .int .i64 d.2.1.2.2.2.2.2.1]⟩, some ⟨d.2.2.1.1, [.seq .str 0 d.2.2.1.2.1]⟩, some ⟨d.2.2.2.1.1, [.seq (.pair (.int .i64) .str) 0 d.2.2.2.1.2.1]⟩, some ⟨false, [.int .i64 d.2.2.2.2.1.2.1, .int .i64 d.2.2.2.2.1.2.2.1, .int .i64 d.2.2.2.2.1.2.2.2.1, .int .i64 d.2.2.2.2.1.2.2.2.2.1]⟩, some ⟨false, [.seq (.pair (.int .u64) (.pair (.int .u64) (.pair (.int .i64) .str))) 0 y9]⟩]) k d.1.2.2.2.2.1 d.2.2.2.2.2.1.2.1
noncomputable def G80_1_5 (F k : Nat) : LoopS := mkG sh80_1_l5 [0, 2, 4, 8, 9] (outT [(.exit 0, [8]), (.ret, [6, 7])]) (fun d K => A80_1_l5 (f80_1_l5 F) k d K) []
noncomputable def LT80_1 (F : Nat) : Nat → Option LoopS := ltab [(5, G80_1_5 F F)]
theorem L80_1_l5g (F k : Nat) (c21_1 : Y21_1) (c102_1 : Y102_1) (c124_1 : Y124_1) (c138_1 : Y138_1) (c139_1 : Y139_1) (c141_1 : Y141_1) (c142_1 : Y142_1)  (l5 : Y80_1_l5) (X5 : LoopS) (d : sh80_1_l5.den) (K : KL) : A80_1_l5 ((fun (v2 : Int) (v4 : Int) (v5 : Bool) (v6 : Int) (v7 : List ByteArray) (v8 : List (Int × ByteArray)) (v9 : Int) (v10 : Int) (v11 : Int) (v12 : Int) (K0 : (Int → List (Int × (Int × (Int × ByteArray))) → Option Res)) (K1 : (List (Int × (Int × (Int × ByteArray))) → Option Res)) (K2 : (List (Int × (Int × (Int × ByteArray))) → List Int → List Int → Option Res)) (K3 : (Int → List (Int × (Int × (Int × ByteArray))) → List Int → List Int → Option Res)) (K4 : (List (Int × (Int × (Int × ByteArray))) → List Int → List Int → List Int → Option Res)) (K5 : (List (Int × (Int × (Int × ByteArray))) → Option Res)) (k : Nat) (v3 : Int) (v13 : List (Int × (Int × (Int × ByteArray)))) => cond (decide (v3 < v12)) (c138_1 v9 v10 v11 v12 1 (IntKind.i64.wrap (2 * v3)) (fun x14 => c124_1 x14 v4 v5 v6 v7 v8 (fun x15 x16 => cond (x16 != 0) (K0 x16 v13) (c139_1 x15 7 16 v3 (fun x17 x18 x19 x20 => cond (!x20) (K1 v13) (c141_1 v9 v10 v11 v12 x18 (fun x21 => cond (!x21) (K1 v13) (c142_1 0 8 (toInts x17) (fun x22 x23 => c142_1 8 8 (toInts x17) (fun x24 x25 => cond (decide (x24 ≤ v2)) (K2 v13 (toInts x17) (toInts x17)) (cond (decide (((v13.length : Nat) : Int) > 0)) (cond (decide ((0 : Int) ≤ (0 : Int) ∧ (0 : Int) < ((v13.length : Nat) : Int))) (cond (decide (0 < v13.length)) (cond ((((v13.getD 0 (0, (0, (0, ByteArray.empty)))).2).1) != x24) (K2 v13 (toInts x17) (toInts x17)) (cond (decide ((0 : Int) ≤ (0 : Int) ∧ (0 : Int) < ((v13.length : Nat) : Int))) (cond (decide (0 < v13.length)) (cond (((v13.getD 0 (0, (0, (0, ByteArray.empty)))).1) != x22) (K2 v13 (toInts x17) (toInts x17)) (c138_1 v9 v10 v11 v12 1 (IntKind.i64.wrap ((IntKind.i64.wrap (2 * v3)) + 1)) (fun x26 => c124_1 x26 v4 v5 v6 v7 v8 (fun x27 x28 => cond (x28 != 0) (K3 x28 v13 (toInts x17) (toInts x17)) (c102_1 (toInts x27) (fun x29 => cond (x29 != x19) (K4 v13 (toInts x17) (toInts x17) (toInts x27)) (cond (decide ((v13.length + 1) * 40 ≤ 70368744177664)) (l5 v2 v4 v5 v6 v7 v8 v9 v10 v11 v12 K0 K1 K2 K3 K4 K5 k (IntKind.i64.wrap (v3 + 1)) (v13 ++ [(x22, (x24, (x18, x27)))])) none)) )) ) )) none) none)) none) none) (c138_1 v9 v10 v11 v12 1 (IntKind.i64.wrap ((IntKind.i64.wrap (2 * v3)) + 1)) (fun x30 => c124_1 x30 v4 v5 v6 v7 v8 (fun x31 x32 => cond (x32 != 0) (K3 x32 v13 (toInts x17) (toInts x17)) (c102_1 (toInts x31) (fun x33 => cond (x33 != x19) (K4 v13 (toInts x17) (toInts x17) (toInts x31)) (cond (decide ((v13.length + 1) * 40 ≤ 70368744177664)) (l5 v2 v4 v5 v6 v7 v8 v9 v10 v11 v12 K0 K1 K2 K3 K4 K5 k (IntKind.i64.wrap (v3 + 1)) (v13 ++ [(x22, (x24, (x18, x31)))])) none)) )) ) ))) ) )) )) )) ) ) (K5 v13))) k d K = roundOf Tryz.prog (TB80_1 c21_1 c102_1 c124_1 c138_1 c139_1 c141_1 c142_1) (xw []) 124 3 (ltab [(5, X5)]) (mkG sh80_1_l5 [0, 2, 4, 8, 9] (outT [(.exit 0, [8]), (.ret, [6, 7])]) (fun d K => A80_1_l5 l5 k d K) []) b80_0 (encT sh80_1_l5.vs d.1) (encH sh80_1_l5.h d.2) K := by kernel_rfl
theorem L80_1_5 (F : Nat) : LoopOK Tryz.prog (T80_1 F) (xw []) 124 3 (LT80_1 F) (G80_1_5 F F) b80_0 :=
  loopOK_of (s := sh80_1_l5) (live := [0, 2, 4, 8, 9]) (out := (outT [(.exit 0, [8]), (.ret, [6, 7])])) (mv := []) (fun k d K => A80_1_l5 (f80_1_l5 F) k d K) F (fun d K => by kernel_rfl)  (fun k d K => Eq.mp (by kernel_rfl) (L80_1_l5g F k (f21_1 F) (f102_1 F) (f124_1 F) (f138_1 F) (f139_1 F) (f141_1 F) (f142_1 F)  (f80_1_l5 F) (G80_1_5 F F) d K))
theorem E80_1g (F : Nat) (c21_1 : Y21_1) (c102_1 : Y102_1) (c124_1 : Y124_1) (c138_1 : Y138_1) (c139_1 : Y139_1) (c141_1 : Y141_1) (c142_1 : Y142_1) (l5 : Y80_1_l5)  (d : sh80_1.den) (K : KF) : evBody Tryz.prog (TB80_1 c21_1 c102_1 c124_1 c138_1 c139_1 c141_1 c142_1) (xw []) 124 3 (ltab [(5, mkG sh80_1_l5 [0, 2, 4, 8, 9] (outT [(.exit 0, [8]), (.ret, [6, 7])]) (fun d K => A80_1_l5 l5 F d K) [])]) [] false code80 Tryz.f80.results.toList (encT sh80_1.vs d.1) (encH sh80_1.h d.2) K = A80_1 (fun (a1 : Int) (a2 : Int) (a3 : Int) (a4 : Int) (a5 : Int) (a6 : Int) (a7 : Bool) (a8 : Int) (a9 : List ByteArray) (a10 : List (Int × ByteArray)) (K0 : (Int → List (Int × (Int × (Int × ByteArray))) → Option Res)) => c21_1 a1 a2 a3 a4 (fun x1 => cond (!x1) (K0 12 []) (l5 a5 a6 a7 a8 a9 a10 a1 a2 a3 a4 (fun x34 x35 => K0 x34 []) (fun x36 => K0 0 x36) (fun x37 x38 x39 => K0 0 x37) (fun x40 x41 x42 x43 => K0 x40 []) (fun x44 x45 x46 x47 => K0 0 x44) (fun x48 => K0 0 x48) F 0 [])) ) d K := by kernel_rfl
theorem E80_1 (F : Nat) (d : sh80_1.den) (K : KF) : evBody Tryz.prog (T80_1 F) (xw []) 124 3 (LT80_1 F) [] false code80 Tryz.f80.results.toList (encT sh80_1.vs d.1) (encH sh80_1.h d.2) K = A80_1 (f80_1 F) d K := Eq.mp (by kernel_rfl) (E80_1g F (f21_1 F) (f102_1 F) (f124_1 F) (f138_1 F) (f139_1 F) (f141_1 F) (f142_1 F) (f80_1_l5 F)  d K)
theorem S80_1_ok (F : Nat) (o : Summ) (ho : SoundFn Tryz.prog 80 o) : SoundFn Tryz.prog 80 (S80_1 F o) :=
  soundFn_of (fn := Tryz.f80) (c := code80) rfl rfl (by kernel_rfl) (tab_cons (S21_1_ok F _ (noS_sound enter21)) (tab_cons (S102_1_ok F _ (noS_sound enter102)) (tab_cons (S124_1_ok F _ (noS_sound enter124)) (tab_cons (S138_1_ok F _ (noS_sound enter138)) (tab_cons (S139_1_ok F _ (noS_sound enter139)) (tab_cons (S141_1_ok F _ (noS_sound enter141)) (tab_cons (S142_1_ok F _ (noS_sound enter142)) tab_nil))))))) (by kernel_rfl) (by kernel_rfl) ho (by rw [loops80]; exact (loopsOK_cons (by kernel_rfl) (L80_1_5 F) loopsOK_nil)) (by rw [scopes80]; exact scopesOK_nil) (by rw [ranges80]; exact rangesOK_nil)  (E80_1 F)
end Go.Proofs.YtlgopekjjkdkiaaGreatDoor.X
end

section
namespace Go.Proofs.YtlgopekjjkdkiaaGreatDoor.X
open Go Go.Proofs.YtlgopekjjkdkiaaGreatDoor.Ev Go.Proofs
set_option linter.unusedVariables false
set_option linter.unusedSectionVars false
/-! undo.Clear -/
noncomputable def f81_1 {β : Type} (F : Nat) (a1 : Int) (a2 : Int) (a3 : Int) (a4 : Int) (a5 : Int) (a6 : Bool) (a7 : Int) (a8 : List ByteArray) (a9 : List (Int × ByteArray)) (K0 : Int → Int → Bool → Int → List ByteArray → List (Int × ByteArray) → Option β) : Option β := f90_1 F a1 a2 a3 a4 (fun x1 => cond (!x1) (K0 12 a5 a6 a7 a8 a9) (f92_1 F a1 a2 a3 a4 0 (fun x2 x3 => f69_1 F  (fun x4 => f93_1 F x2 x4 a5 a6 a7 a8 a9 (fun x5 x6 x7 x8 x9 x10 => K0 x5 x6 x7 x8 x9 x10) ) ) )) 
variable [FZ]
def sh81_1 : Sh := ⟨[.lf (.ptr 0 0), .agg [.int .i64, .int .i64, .int .i64, .int .i64]], [some ⟨some false, [.full 1, .full 2, .int .i64, .bool, .int .i64]⟩, some ⟨some false, [.seq .str 0]⟩, some ⟨some false, [.seq (.pair (.int .i64) .str) 0]⟩]⟩
abbrev Y81_1 := Int → Int → Int → Int → Int → Bool → Int → List ByteArray → List (Int × ByteArray) → (Int → Int → Bool → Int → List ByteArray → List (Int × ByteArray) → Option Res) → Option Res
noncomputable def A81_1 (g : Y81_1) (d : sh81_1.den) (K : KF) : Option Res := g d.1.2.1.1 d.1.2.1.2.1 d.1.2.1.2.2.1 d.1.2.1.2.2.2.1 d.2.1.2.2.2.1 d.2.1.2.2.2.2.1 d.2.1.2.2.2.2.2.1 d.2.2.1.2.1 d.2.2.2.1.2.1 (fun (y0 : Int) (y1 : Int) (y2 : Bool) (y3 : Int) (y4 : List ByteArray) (y5 : List (Int × ByteArray)) => K [.lf (.int .i64 y0)] [some ⟨false, [.full 1, .full 3, .int .i64 y1, .bool y2, .int .i64 y3]⟩, some ⟨false, [.seq .str 0 y4]⟩, none, some ⟨false, [.seq (.pair (.int .i64) .str) 0 y5]⟩])
noncomputable def S81_1 (F : Nat) (o : Summ) : Summ := mkS sh81_1 (fun d K => A81_1 (f81_1 F) d K) o
noncomputable def code81 : Code := bodyOf Tryz.f81
theorem scopes81 : scopesOf code81 = [] := by kernel_rfl
theorem ranges81 : rangesOf code81 = [] := by kernel_rfl
theorem loops81 : loopsOf code81 = [] := by kernel_rfl
theorem enter81 : ∀ args w, (callFunc 81 args).run Tryz.prog w = .ok (.enter 81 args) w := enter_of (fn := Tryz.f81) (by kernel_rfl) (by kernel_rfl) (by kernel_rfl)
noncomputable def T81_1 (F : Nat) : FuncId → Option Summ := tab [(69, (S69_1 F noS)), (90, (S90_1 F noS)), (92, (S92_1 F noS)), (93, (S93_1 F noS))]
noncomputable def TB81_1 (c69_1 : Y69_1) (c90_1 : Y90_1) (c92_1 : Y92_1) (c93_1 : Y93_1) : FuncId → Option Summ := tab [(69, (mkS sh69_1 (fun d K => A69_1 c69_1 d K) noS)), (90, (mkS sh90_1 (fun d K => A90_1 c90_1 d K) noS)), (92, (mkS sh92_1 (fun d K => A92_1 c92_1 d K) noS)), (93, (mkS sh93_1 (fun d K => A93_1 c93_1 d K) noS))]
noncomputable def LT81_1 (F : Nat) : Nat → Option LoopS := ltab []
theorem E81_1g (F : Nat) (c69_1 : Y69_1) (c90_1 : Y90_1) (c92_1 : Y92_1) (c93_1 : Y93_1)   (d : sh81_1.den) (K : KF) : evBody Tryz.prog (TB81_1 c69_1 c90_1 c92_1 c93_1) (xw []) 19 3 (ltab []) [2] false code81 Tryz.f81.results.toList (encT sh81_1.vs d.1) (encH sh81_1.h d.2) K = A81_1 (fun (a1 : Int) (a2 : Int) (a3 : Int) (a4 : Int) (a5 : Int) (a6 : Bool) (a7 : Int) (a8 : List ByteArray) (a9 : List (Int × ByteArray)) (K0 : (Int → Int → Bool → Int → List ByteArray → List (Int × ByteArray) → Option Res)) => c90_1 a1 a2 a3 a4 (fun x1 => cond (!x1) (K0 12 a5 a6 a7 a8 a9) (c92_1 a1 a2 a3 a4 0 (fun x2 x3 => c69_1  (fun x4 => c93_1 x2 x4 a5 a6 a7 a8 a9 (fun x5 x6 x7 x8 x9 x10 => K0 x5 x6 x7 x8 x9 x10) ) ) )) ) d K := by kernel_rfl
theorem E81_1 (F : Nat) (d : sh81_1.den) (K : KF) : evBody Tryz.prog (T81_1 F) (xw []) 19 3 (LT81_1 F) [2] false code81 Tryz.f81.results.toList (encT sh81_1.vs d.1) (encH sh81_1.h d.2) K = A81_1 (f81_1 F) d K := Eq.mp (by kernel_rfl) (E81_1g F (f69_1 F) (f90_1 F) (f92_1 F) (f93_1 F)   d K)
theorem S81_1_ok (F : Nat) (o : Summ) (ho : SoundFn Tryz.prog 81 o) : SoundFn Tryz.prog 81 (S81_1 F o) :=
  soundFn_of (fn := Tryz.f81) (c := code81) rfl rfl (by kernel_rfl) (tab_cons (S69_1_ok F _ (noS_sound enter69)) (tab_cons (S90_1_ok F _ (noS_sound enter90)) (tab_cons (S92_1_ok F _ (noS_sound enter92)) (tab_cons (S93_1_ok F _ (noS_sound enter93)) tab_nil)))) (by kernel_rfl) (by kernel_rfl) ho (by rw [loops81]; exact loopsOK_nil) (by rw [scopes81]; exact scopesOK_nil) (by rw [ranges81]; exact rangesOK_nil)  (E81_1 F)
end Go.Proofs.YtlgopekjjkdkiaaGreatDoor.X
end

section
namespace Go.Proofs.YtlgopekjjkdkiaaGreatDoor.X
open Go Go.Proofs.YtlgopekjjkdkiaaGreatDoor.Ev Go.Proofs
set_option linter.unusedVariables false
set_option linter.unusedSectionVars false
/-! pentimentoref15.Clear -/
noncomputable def f82_1 {β : Type} (F : Nat) (a1 : Int) (a2 : Int) (a3 : Int) (a4 : Int) (a5 : Int) (a6 : Bool) (a7 : Int) (a8 : List ByteArray) (a9 : List (Int × ByteArray)) (K0 : Int → Int → Bool → Int → List ByteArray → List (Int × ByteArray) → Option β) : Option β := f21_1 F a1 a2 a3 a4 (fun x1 => cond (!x1) (K0 12 a5 a6 a7 a8 a9) (f138_1 F a1 a2 a3 a4 1 0 (fun x2 => f54_1 F  (fun x3 => f74_1 F x2 x3 a5 a6 a7 a8 a9 (fun x4 x5 x6 x7 x8 => cond (x4 != 0) (K0 x4 x5 x6 x7 a8 x8) (f143_1 F x5 x6 x7 a8 x8 (fun x9 x10 x11 x12 x13 x14 => K0 x9 x10 x11 x12 x13 x14) )) ) ) )) 
variable [FZ]
def sh82_1 : Sh := ⟨[.lf (.ptr 0 0), .agg [.int .i64, .int .i64, .int .i64, .int .i64]], [some ⟨some false, [.full 1, .full 2, .int .i64, .bool, .int .i64]⟩, some ⟨some false, [.seq .str 0]⟩, some ⟨some false, [.seq (.pair (.int .i64) .str) 0]⟩]⟩
abbrev Y82_1 := Int → Int → Int → Int → Int → Bool → Int → List ByteArray → List (Int × ByteArray) → (Int → Int → Bool → Int → List ByteArray → List (Int × ByteArray) → Option Res) → Option Res
noncomputable def A82_1 (g : Y82_1) (d : sh82_1.den) (K : KF) : Option Res := g d.1.2.1.1 d.1.2.1.2.1 d.1.2.1.2.2.1 d.1.2.1.2.2.2.1 d.2.1.2.2.2.1 d.2.1.2.2.2.2.1 d.2.1.2.2.2.2.2.1 d.2.2.1.2.1 d.2.2.2.1.2.1 (fun (y0 : Int) (y1 : Int) (y2 : Bool) (y3 : Int) (y4 : List ByteArray) (y5 : List (Int × ByteArray)) => K [.lf (.int .i64 y0)] [some ⟨false, [.full 1, .full 3, .int .i64 y1, .bool y2, .int .i64 y3]⟩, some ⟨false, [.seq .str 0 y4]⟩, none, some ⟨false, [.seq (.pair (.int .i64) .str) 0 y5]⟩])
noncomputable def S82_1 (F : Nat) (o : Summ) : Summ := mkS sh82_1 (fun d K => A82_1 (f82_1 F) d K) o
noncomputable def code82 : Code := bodyOf Tryz.f82
theorem scopes82 : scopesOf code82 = [] := by kernel_rfl
theorem ranges82 : rangesOf code82 = [] := by kernel_rfl
theorem loops82 : loopsOf code82 = [] := by kernel_rfl
theorem enter82 : ∀ args w, (callFunc 82 args).run Tryz.prog w = .ok (.enter 82 args) w := enter_of (fn := Tryz.f82) (by kernel_rfl) (by kernel_rfl) (by kernel_rfl)
noncomputable def T82_1 (F : Nat) : FuncId → Option Summ := tab [(21, (S21_1 F noS)), (54, (S54_1 F noS)), (74, (S74_1 F noS)), (138, (S138_1 F noS)), (143, (S143_1 F noS))]
noncomputable def TB82_1 (c21_1 : Y21_1) (c54_1 : Y54_1) (c74_1 : Y74_1) (c138_1 : Y138_1) (c143_1 : Y143_1) : FuncId → Option Summ := tab [(21, (mkS sh21_1 (fun d K => A21_1 c21_1 d K) noS)), (54, (mkS sh54_1 (fun d K => A54_1 c54_1 d K) noS)), (74, (mkS sh74_1 (fun d K => A74_1 c74_1 d K) noS)), (138, (mkS sh138_1 (fun d K => A138_1 c138_1 d K) noS)), (143, (mkS sh143_1 (fun d K => A143_1 c143_1 d K) noS))]
noncomputable def LT82_1 (F : Nat) : Nat → Option LoopS := ltab []
theorem E82_1g (F : Nat) (c21_1 : Y21_1) (c54_1 : Y54_1) (c74_1 : Y74_1) (c138_1 : Y138_1) (c143_1 : Y143_1)   (d : sh82_1.den) (K : KF) : evBody Tryz.prog (TB82_1 c21_1 c54_1 c74_1 c138_1 c143_1) (xw []) 19 3 (ltab []) [2] false code82 Tryz.f82.results.toList (encT sh82_1.vs d.1) (encH sh82_1.h d.2) K = A82_1 (fun (a1 : Int) (a2 : Int) (a3 : Int) (a4 : Int) (a5 : Int) (a6 : Bool) (a7 : Int) (a8 : List ByteArray) (a9 : List (Int × ByteArray)) (K0 : (Int → Int → Bool → Int → List ByteArray → List (Int × ByteArray) → Option Res)) => c21_1 a1 a2 a3 a4 (fun x1 => cond (!x1) (K0 12 a5 a6 a7 a8 a9) (c138_1 a1 a2 a3 a4 1 0 (fun x2 => c54_1  (fun x3 => c74_1 x2 x3 a5 a6 a7 a8 a9 (fun x4 x5 x6 x7 x8 => cond (x4 != 0) (K0 x4 x5 x6 x7 a8 x8) (c143_1 x5 x6 x7 a8 x8 (fun x9 x10 x11 x12 x13 x14 => K0 x9 x10 x11 x12 x13 x14) )) ) ) )) ) d K := by kernel_rfl
theorem E82_1 (F : Nat) (d : sh82_1.den) (K : KF) : evBody Tryz.prog (T82_1 F) (xw []) 19 3 (LT82_1 F) [2] false code82 Tryz.f82.results.toList (encT sh82_1.vs d.1) (encH sh82_1.h d.2) K = A82_1 (f82_1 F) d K := Eq.mp (by kernel_rfl) (E82_1g F (f21_1 F) (f54_1 F) (f74_1 F) (f138_1 F) (f143_1 F)   d K)
theorem S82_1_ok (F : Nat) (o : Summ) (ho : SoundFn Tryz.prog 82 o) : SoundFn Tryz.prog 82 (S82_1 F o) :=
  soundFn_of (fn := Tryz.f82) (c := code82) rfl rfl (by kernel_rfl) (tab_cons (S21_1_ok F _ (noS_sound enter21)) (tab_cons (S54_1_ok F _ (noS_sound enter54)) (tab_cons (S74_1_ok F _ (noS_sound enter74)) (tab_cons (S138_1_ok F _ (noS_sound enter138)) (tab_cons (S143_1_ok F _ (noS_sound enter143)) tab_nil))))) (by kernel_rfl) (by kernel_rfl) ho (by rw [loops82]; exact loopsOK_nil) (by rw [scopes82]; exact scopesOK_nil) (by rw [ranges82]; exact rangesOK_nil)  (E82_1 F)
end Go.Proofs.YtlgopekjjkdkiaaGreatDoor.X
end

section
namespace Go.Proofs.YtlgopekjjkdkiaaGreatDoor.X
open Go Go.Proofs.YtlgopekjjkdkiaaGreatDoor.Ev Go.Proofs
set_option linter.unusedVariables false
set_option linter.unusedSectionVars false
/-! pentimentolaw15.do -/
noncomputable def f20_1 [FZ] {β : Type} (F : Nat) (a1 : Int) (a2 : Int) (a3 : Int) (a4 : Int) (a5 : Int) (a6 : Int) (a7 : Int) (a8 : Int) (a9 : Int) (a10 : ByteArray) (a11 : Sl .bool) (a12 : Int) (a13 : Bool) (a14 : Int) (a15 : List ByteArray) (a16 : List (Int × ByteArray)) (a17 : Int) (a18 : Bool) (a19 : Int) (a20 : List ByteArray) (a21 : List (Int × ByteArray)) (K0 : Bool → Int → Bool → Int → List ByteArray → Int → Bool → Int → List ByteArray → List (Int × ByteArray) → List (Int × ByteArray) → Option β) : Option β := cond ((a5.tmod 6) == 0) (f31_1 F a1 a2 a3 a4 a6 a7 a8 a9 a12 a13 a14 a15 a16 (fun x1 x2 x3 x4 x5 x6 x7 x8 x9 x10 => f79_1 F a1 a2 a3 a4 a6 a7 a8 a9 a17 a18 a19 a20 a21 (fun x11 x12 x13 x14 x15 x16 x17 x18 x19 x20 => cond ((x1 == x11) && ((x2 == x12) && ((x3 == x13) && (x4.toList == x14.toList)))) (K0 (x5 == x15) x6 x7 x8 x9 x16 x17 x18 x19 x10 x20) (K0 false x6 x7 x8 x9 x16 x17 x18 x19 x10 x20)) ) ) (cond ((a5.tmod 6) == 1) (f34_1 F a1 a2 a3 a4 a8 a12 a13 a14 a15 a16 (fun x21 x22 => f80_1 F a1 a2 a3 a4 a8 a17 a18 a19 a20 a21 (fun x23 x24 => f73_1 F x22 x24 (fun x25 => cond x25 (K0 (x21 == x23) a12 a13 a14 a15 a17 a18 a19 a20 a16 a21) (K0 false a12 a13 a14 a15 a17 a18 a19 a20 a16 a21)) ) ) ) (cond ((a5.tmod 6) == 2) ((fun z1 => amb z1 z1) (f81_1 F a1 a2 a3 a4 a12 a13 a14 a15 a16 (fun x26 x27 x28 x29 x30 x31 => f82_1 F a1 a2 a3 a4 a17 a18 a19 a20 a21 (fun x32 x33 x34 x35 x36 x37 => K0 (x26 == x32) x27 x28 x29 x30 x33 x34 x35 x36 x31 x37) ) )) (cond ((a5.tmod 6) == 3) ((fun z1 => amb z1 (amb (amb z1 z1) (amb z1 z1))) (f24_1 F a9 a10 a12 a13 a14 a15 a16 (fun x50 x51 x52 x53 x54 => f74_1 F a9 a10 a17 a18 a19 a20 a21 (fun x55 x56 x57 x58 x59 => K0 (x50 == x55) x51 x52 x53 a15 x56 x57 x58 a20 x54 x59) ) )) (cond ((a5.tmod 6) == 4) (f29_1 F a6 a12 a13 a14 a15 a16 (fun x100 => f75_1 F a6 a17 a18 a19 a20 a21 (fun x101 => K0 true x100 a13 a14 a15 x101 a18 a19 a20 a16 a21) ) ) (f32_1 F a12 a13 a14 a15 a16 a11.dat (fun x102 x103 => f64_1 F a17 a18 a19 a20 a21 a11.dat (fun x104 x105 => f33_1 F (-1) true a14 x102 x103 (fun x106 x107 x108 x109 => f76_1 F (-1) true a19 x104 x105 (fun x110 x111 x112 x113 => K0 (x106 == x110) x107 x108 a14 x102 x111 x112 a19 x104 x109 x113) ) ) ) )))))
variable [FZ]
def sh20_1 : Sh := ⟨[.lf (.ptr 0 0), .lf (.ptr 3 0), .agg [.int .i64, .int .i64, .int .i64, .int .i64], .agg [.int .i64, .int .i64, .int .u64, .int .u64, .int .i64, .str, .sl .bool]], [some ⟨some false, [.full 1, .full 2, .int .i64, .bool, .int .i64]⟩, some ⟨some false, [.seq .str 0]⟩, some ⟨some false, [.seq (.pair (.int .i64) .str) 0]⟩, some ⟨some false, [.full 4, .full 5, .int .i64, .bool, .int .i64]⟩, some ⟨some false, [.seq .str 0]⟩, some ⟨some false, [.seq (.pair (.int .i64) .str) 0]⟩]⟩
abbrev Y20_1 := Int → Int → Int → Int → Int → Int → Int → Int → Int → ByteArray → Sl .bool → Int → Bool → Int → List ByteArray → List (Int × ByteArray) → Int → Bool → Int → List ByteArray → List (Int × ByteArray) → (Bool → Int → Bool → Int → List ByteArray → Int → Bool → Int → List ByteArray → List (Int × ByteArray) → List (Int × ByteArray) → Option Res) → Option Res
noncomputable def A20_1 (g : Y20_1) (d : sh20_1.den) (K : KF) : Option Res := g d.1.2.2.1.1 d.1.2.2.1.2.1 d.1.2.2.1.2.2.1 d.1.2.2.1.2.2.2.1 d.1.2.2.2.1.1 d.1.2.2.2.1.2.1 d.1.2.2.2.1.2.2.1 d.1.2.2.2.1.2.2.2.1 d.1.2.2.2.1.2.2.2.2.1 d.1.2.2.2.1.2.2.2.2.2.1 d.1.2.2.2.1.2.2.2.2.2.2.1 d.2.1.2.2.2.1 d.2.1.2.2.2.2.1 d.2.1.2.2.2.2.2.1 d.2.2.1.2.1 d.2.2.2.1.2.1 d.2.2.2.2.1.2.2.2.1 d.2.2.2.2.1.2.2.2.2.1 d.2.2.2.2.1.2.2.2.2.2.1 d.2.2.2.2.2.1.2.1 d.2.2.2.2.2.2.1.2.1 (fun (y0 : Bool) (y1 : Int) (y2 : Bool) (y3 : Int) (y4 : List ByteArray) (y5 : Int) (y6 : Bool) (y7 : Int) (y8 : List ByteArray) (y9 : List (Int × ByteArray)) (y10 : List (Int × ByteArray)) => K [.lf (.bool y0)] [some ⟨false, [.full 1, .full 6, .int .i64 y1, .bool y2, .int .i64 y3]⟩, some ⟨false, [.seq .str 0 y4]⟩, none, some ⟨false, [.full 4, .full 7, .int .i64 y5, .bool y6, .int .i64 y7]⟩, some ⟨false, [.seq .str 0 y8]⟩, none, some ⟨false, [.seq (.pair (.int .i64) .str) 0 y9]⟩, some ⟨false, [.seq (.pair (.int .i64) .str) 0 y10]⟩])
noncomputable def S20_1 (F : Nat) (o : Summ) : Summ := mkS sh20_1 (fun d K => A20_1 (f20_1 F) d K) o
noncomputable def code20 : Code := bodyOf Tryz.f20
theorem scopes20 : scopesOf code20 = [] := by kernel_rfl
theorem ranges20 : rangesOf code20 = [] := by kernel_rfl
theorem loops20 : loopsOf code20 = [] := by kernel_rfl
theorem enter20 : ∀ args w, (callFunc 20 args).run Tryz.prog w = .ok (.enter 20 args) w := enter_of (fn := Tryz.f20) (by kernel_rfl) (by kernel_rfl) (by kernel_rfl)
noncomputable def T20_1 (F : Nat) : FuncId → Option Summ := tab [(24, (S24_1 F noS)), (29, (S29_1 F noS)), (31, (S31_1 F noS)), (32, (S32_1 F noS)), (33, (S33_1 F noS)), (34, (S34_1 F noS)), (64, (S64_1 F noS)), (73, (S73_1 F noS)), (74, (S74_1 F noS)), (75, (S75_1 F noS)), (76, (S76_1 F noS)), (79, (S79_1 F noS)), (80, (S80_1 F noS)), (81, (S81_1 F noS)), (82, (S82_1 F noS))]
noncomputable def TB20_1 (c24_1 : Y24_1) (c29_1 : Y29_1) (c31_1 : Y31_1) (c32_1 : Y32_1) (c33_1 : Y33_1) (c34_1 : Y34_1) (c64_1 : Y64_1) (c73_1 : Y73_1) (c74_1 : Y74_1) (c75_1 : Y75_1) (c76_1 : Y76_1) (c79_1 : Y79_1) (c80_1 : Y80_1) (c81_1 : Y81_1) (c82_1 : Y82_1) : FuncId → Option Summ := tab [(24, (mkS sh24_1 (fun d K => A24_1 c24_1 d K) noS)), (29, (mkS sh29_1 (fun d K => A29_1 c29_1 d K) noS)), (31, (mkS sh31_1 (fun d K => A31_1 c31_1 d K) noS)), (32, (mkS sh32_1 (fun d K => A32_1 c32_1 d K) noS)), (33, (mkS sh33_1 (fun d K => A33_1 c33_1 d K) noS)), (34, (mkS sh34_1 (fun d K => A34_1 c34_1 d K) noS)), (64, (mkS sh64_1 (fun d K => A64_1 c64_1 d K) noS)), (73, (mkS sh73_1 (fun d K => A73_1 c73_1 d K) noS)), (74, (mkS sh74_1 (fun d K => A74_1 c74_1 d K) noS)), (75, (mkS sh75_1 (fun d K => A75_1 c75_1 d K) noS)), (76, (mkS sh76_1 (fun d K => A76_1 c76_1 d K) noS)), (79, (mkS sh79_1 (fun d K => A79_1 c79_1 d K) noS)), (80, (mkS sh80_1 (fun d K => A80_1 c80_1 d K) noS)), (81, (mkS sh81_1 (fun d K => A81_1 c81_1 d K) noS)), (82, (mkS sh82_1 (fun d K => A82_1 c82_1 d K) noS))]
noncomputable def LT20_1 (F : Nat) : Nat → Option LoopS := ltab []
theorem E20_1g (F : Nat) (c24_1 : Y24_1) (c29_1 : Y29_1) (c31_1 : Y31_1) (c32_1 : Y32_1) (c33_1 : Y33_1) (c34_1 : Y34_1) (c64_1 : Y64_1) (c73_1 : Y73_1) (c74_1 : Y74_1) (c75_1 : Y75_1) (c76_1 : Y76_1) (c79_1 : Y79_1) (c80_1 : Y80_1) (c81_1 : Y81_1) (c82_1 : Y82_1)   (d : sh20_1.den) (K : KF) : evBody Tryz.prog (TB20_1 c24_1 c29_1 c31_1 c32_1 c33_1 c34_1 c64_1 c73_1 c74_1 c75_1 c76_1 c79_1 c80_1 c81_1 c82_1) (xw [14, 16]) 131 6 (ltab []) [2, 5] false code20 Tryz.f20.results.toList (encT sh20_1.vs d.1) (encH sh20_1.h d.2) K = A20_1 (fun (a1 : Int) (a2 : Int) (a3 : Int) (a4 : Int) (a5 : Int) (a6 : Int) (a7 : Int) (a8 : Int) (a9 : Int) (a10 : ByteArray) (a11 : Sl .bool) (a12 : Int) (a13 : Bool) (a14 : Int) (a15 : List ByteArray) (a16 : List (Int × ByteArray)) (a17 : Int) (a18 : Bool) (a19 : Int) (a20 : List ByteArray) (a21 : List (Int × ByteArray)) (K0 : (Bool → Int → Bool → Int → List ByteArray → Int → Bool → Int → List ByteArray → List (Int × ByteArray) → List (Int × ByteArray) → Option Res)) => cond ((a5.tmod 6) == 0) (c31_1 a1 a2 a3 a4 a6 a7 a8 a9 a12 a13 a14 a15 a16 (fun x1 x2 x3 x4 x5 x6 x7 x8 x9 x10 => c79_1 a1 a2 a3 a4 a6 a7 a8 a9 a17 a18 a19 a20 a21 (fun x11 x12 x13 x14 x15 x16 x17 x18 x19 x20 => cond ((x1 == x11) && ((x2 == x12) && ((x3 == x13) && (x4.toList == x14.toList)))) (K0 (x5 == x15) x6 x7 x8 x9 x16 x17 x18 x19 x10 x20) (K0 false x6 x7 x8 x9 x16 x17 x18 x19 x10 x20)) ) ) (cond ((a5.tmod 6) == 1) (c34_1 a1 a2 a3 a4 a8 a12 a13 a14 a15 a16 (fun x21 x22 => c80_1 a1 a2 a3 a4 a8 a17 a18 a19 a20 a21 (fun x23 x24 => c73_1 x22 x24 (fun x25 => cond x25 (K0 (x21 == x23) a12 a13 a14 a15 a17 a18 a19 a20 a16 a21) (K0 false a12 a13 a14 a15 a17 a18 a19 a20 a16 a21)) ) ) ) (cond ((a5.tmod 6) == 2) ((fun z1 => amb z1 z1) (c81_1 a1 a2 a3 a4 a12 a13 a14 a15 a16 (fun x26 x27 x28 x29 x30 x31 => c82_1 a1 a2 a3 a4 a17 a18 a19 a20 a21 (fun x32 x33 x34 x35 x36 x37 => K0 (x26 == x32) x27 x28 x29 x30 x33 x34 x35 x36 x31 x37) ) )) (cond ((a5.tmod 6) == 3) ((fun z1 => amb z1 (amb (amb z1 z1) (amb z1 z1))) (c24_1 a9 a10 a12 a13 a14 a15 a16 (fun x50 x51 x52 x53 x54 => c74_1 a9 a10 a17 a18 a19 a20 a21 (fun x55 x56 x57 x58 x59 => K0 (x50 == x55) x51 x52 x53 a15 x56 x57 x58 a20 x54 x59) ) )) (cond ((a5.tmod 6) == 4) (c29_1 a6 a12 a13 a14 a15 a16 (fun x100 => c75_1 a6 a17 a18 a19 a20 a21 (fun x101 => K0 true x100 a13 a14 a15 x101 a18 a19 a20 a16 a21) ) ) (c32_1 a12 a13 a14 a15 a16 a11.dat (fun x102 x103 => c64_1 a17 a18 a19 a20 a21 a11.dat (fun x104 x105 => c33_1 (-1) true a14 x102 x103 (fun x106 x107 x108 x109 => c76_1 (-1) true a19 x104 x105 (fun x110 x111 x112 x113 => K0 (x106 == x110) x107 x108 a14 x102 x111 x112 a19 x104 x109 x113) ) ) ) )))))) d K := by kernel_rfl
theorem E20_1 (F : Nat) (d : sh20_1.den) (K : KF) : evBody Tryz.prog (T20_1 F) (xw [14, 16]) 131 6 (LT20_1 F) [2, 5] false code20 Tryz.f20.results.toList (encT sh20_1.vs d.1) (encH sh20_1.h d.2) K = A20_1 (f20_1 F) d K := Eq.mp (by kernel_rfl) (E20_1g F (f24_1 F) (f29_1 F) (f31_1 F) (f32_1 F) (f33_1 F) (f34_1 F) (f64_1 F) (f73_1 F) (f74_1 F) (f75_1 F) (f76_1 F) (f79_1 F) (f80_1 F) (f81_1 F) (f82_1 F)   d K)
theorem S20_1_ok (F : Nat) (o : Summ) (ho : SoundFn Tryz.prog 20 o) : SoundFn Tryz.prog 20 (S20_1 F o) :=
  soundFn_of (fn := Tryz.f20) (c := code20) rfl rfl (by kernel_rfl) (tab_cons (S24_1_ok F _ (noS_sound enter24)) (tab_cons (S29_1_ok F _ (noS_sound enter29)) (tab_cons (S31_1_ok F _ (noS_sound enter31)) (tab_cons (S32_1_ok F _ (noS_sound enter32)) (tab_cons (S33_1_ok F _ (noS_sound enter33)) (tab_cons (S34_1_ok F _ (noS_sound enter34)) (tab_cons (S64_1_ok F _ (noS_sound enter64)) (tab_cons (S73_1_ok F _ (noS_sound enter73)) (tab_cons (S74_1_ok F _ (noS_sound enter74)) (tab_cons (S75_1_ok F _ (noS_sound enter75)) (tab_cons (S76_1_ok F _ (noS_sound enter76)) (tab_cons (S79_1_ok F _ (noS_sound enter79)) (tab_cons (S80_1_ok F _ (noS_sound enter80)) (tab_cons (S81_1_ok F _ (noS_sound enter81)) (tab_cons (S82_1_ok F _ (noS_sound enter82)) tab_nil))))))))))))))) (by kernel_rfl) (by kernel_rfl) ho (by rw [loops20]; exact loopsOK_nil) (by rw [scopes20]; exact scopesOK_nil) (by rw [ranges20]; exact rangesOK_nil)  (E20_1 F)
end Go.Proofs.YtlgopekjjkdkiaaGreatDoor.X
end

section
namespace Go.Proofs.YtlgopekjjkdkiaaGreatDoor.X
open Go Go.Proofs.YtlgopekjjkdkiaaGreatDoor.Ev Go.Proofs
set_option linter.unusedVariables false
set_option linter.unusedSectionVars false
/-! disk.Disk).Write -/
noncomputable def f24_1385 {β : Type} (F : Nat) (a1 : Int) (a2 : ByteArray) (K0 : Option β) : Option β := K0
variable [FZ]
def sh24_1385 : Sh := ⟨[.lf (.nilp), .lf (.int .i64), .lf (.str)], []⟩
abbrev Y24_1385 := Int → ByteArray → (Option Res) → Option Res
noncomputable def A24_1385 (g : Y24_1385) (d : sh24_1385.den) (K : KF) : Option Res := g d.1.2.1 d.1.2.2.1 (K [.lf (.int .i64 1)] [])
noncomputable def S24_1385 (F : Nat) (o : Summ) : Summ := mkS sh24_1385 (fun d K => A24_1385 (f24_1385 F) d K) o
noncomputable def T24_1385 (F : Nat) : FuncId → Option Summ := tab []
noncomputable def TB24_1385  : FuncId → Option Summ := tab []
noncomputable def LT24_1385 (F : Nat) : Nat → Option LoopS := ltab []
theorem E24_1385g (F : Nat)    (d : sh24_1385.den) (K : KF) : evBody Tryz.prog TB24_1385 (xw []) 40 0 (ltab []) [] false code24 Tryz.f24.results.toList (encT sh24_1385.vs d.1) (encH sh24_1385.h d.2) K = A24_1385 (fun (a1 : Int) (a2 : ByteArray) (K0 : (Option Res)) => K0) d K := by kernel_rfl
theorem E24_1385 (F : Nat) (d : sh24_1385.den) (K : KF) : evBody Tryz.prog (T24_1385 F) (xw []) 40 0 (LT24_1385 F) [] false code24 Tryz.f24.results.toList (encT sh24_1385.vs d.1) (encH sh24_1385.h d.2) K = A24_1385 (f24_1385 F) d K := Eq.mp (by kernel_rfl) (E24_1385g F    d K)
theorem S24_1385_ok (F : Nat) (o : Summ) (ho : SoundFn Tryz.prog 24 o) : SoundFn Tryz.prog 24 (S24_1385 F o) :=
  soundFn_of (fn := Tryz.f24) (c := code24) rfl rfl (by kernel_rfl) tab_nil (by kernel_rfl) (by kernel_rfl) ho (by rw [loops24]; exact loopsOK_nil) (by rw [scopes24]; exact scopesOK_nil) (by rw [ranges24]; exact rangesOK_nil)  (E24_1385 F)
end Go.Proofs.YtlgopekjjkdkiaaGreatDoor.X
end

section
namespace Go.Proofs.YtlgopekjjkdkiaaGreatDoor.X
open Go Go.Proofs.YtlgopekjjkdkiaaGreatDoor.Ev Go.Proofs
set_option linter.unusedVariables false
set_option linter.unusedSectionVars false
/-! disk.Disk).Fuse -/
noncomputable def f29_6206 {β : Type} (F : Nat) (a1 : Int) (K0 : Option β) : Option β := K0
variable [FZ]
def sh29_6206 : Sh := ⟨[.lf (.nilp), .lf (.int .i64)], []⟩
abbrev Y29_6206 := Int → (Option Res) → Option Res
noncomputable def A29_6206 (g : Y29_6206) (d : sh29_6206.den) (K : KF) : Option Res := g d.1.2.1 (K [] [])
noncomputable def S29_6206 (F : Nat) (o : Summ) : Summ := mkS sh29_6206 (fun d K => A29_6206 (f29_6206 F) d K) o
noncomputable def T29_6206 (F : Nat) : FuncId → Option Summ := tab []
noncomputable def TB29_6206  : FuncId → Option Summ := tab []
noncomputable def LT29_6206 (F : Nat) : Nat → Option LoopS := ltab []
theorem E29_6206g (F : Nat)    (d : sh29_6206.den) (K : KF) : evBody Tryz.prog TB29_6206 (xw []) 11 0 (ltab []) [] false code29 Tryz.f29.results.toList (encT sh29_6206.vs d.1) (encH sh29_6206.h d.2) K = A29_6206 (fun (a1 : Int) (K0 : (Option Res)) => K0) d K := by kernel_rfl
theorem E29_6206 (F : Nat) (d : sh29_6206.den) (K : KF) : evBody Tryz.prog (T29_6206 F) (xw []) 11 0 (LT29_6206 F) [] false code29 Tryz.f29.results.toList (encT sh29_6206.vs d.1) (encH sh29_6206.h d.2) K = A29_6206 (f29_6206 F) d K := Eq.mp (by kernel_rfl) (E29_6206g F    d K)
theorem S29_6206_ok (F : Nat) (o : Summ) (ho : SoundFn Tryz.prog 29 o) : SoundFn Tryz.prog 29 (S29_6206 F o) :=
  soundFn_of (fn := Tryz.f29) (c := code29) rfl rfl (by kernel_rfl) tab_nil (by kernel_rfl) (by kernel_rfl) ho (by rw [loops29]; exact loopsOK_nil) (by rw [scopes29]; exact scopesOK_nil) (by rw [ranges29]; exact rangesOK_nil)  (E29_6206 F)
end Go.Proofs.YtlgopekjjkdkiaaGreatDoor.X
end

section
namespace Go.Proofs.YtlgopekjjkdkiaaGreatDoor.X
open Go Go.Proofs.YtlgopekjjkdkiaaGreatDoor.Ev Go.Proofs
set_option linter.unusedVariables false
set_option linter.unusedSectionVars false
/-! disk.Disk).Crash -/
noncomputable def f32_7155 {β : Type} (F : Nat) (a1 : List Bool) (K0 : Option β) : Option β := K0
variable [FZ]
def sh32_7155 : Sh := ⟨[.lf (.nilp), .lf (.full 0)], [some ⟨none, [.seq .bool 0]⟩]⟩
abbrev Y32_7155 := List Bool → (Option Res) → Option Res
noncomputable def A32_7155 (g : Y32_7155) (d : sh32_7155.den) (K : KF) : Option Res := g d.2.1.2.1 (K [] [some ⟨d.2.1.1, [.seq .bool 0 d.2.1.2.1]⟩])
noncomputable def S32_7155 (F : Nat) (o : Summ) : Summ := mkS sh32_7155 (fun d K => A32_7155 (f32_7155 F) d K) o
noncomputable def T32_7155 (F : Nat) : FuncId → Option Summ := tab []
noncomputable def TB32_7155  : FuncId → Option Summ := tab []
noncomputable def LT32_7155 (F : Nat) : Nat → Option LoopS := ltab []
theorem E32_7155g (F : Nat)    (d : sh32_7155.den) (K : KF) : evBody Tryz.prog TB32_7155 (xw []) 47 1 (ltab []) [] false code32 Tryz.f32.results.toList (encT sh32_7155.vs d.1) (encH sh32_7155.h d.2) K = A32_7155 (fun (a1 : List Bool) (K0 : (Option Res)) => K0) d K := by kernel_rfl
theorem E32_7155 (F : Nat) (d : sh32_7155.den) (K : KF) : evBody Tryz.prog (T32_7155 F) (xw []) 47 1 (LT32_7155 F) [] false code32 Tryz.f32.results.toList (encT sh32_7155.vs d.1) (encH sh32_7155.h d.2) K = A32_7155 (f32_7155 F) d K := Eq.mp (by kernel_rfl) (E32_7155g F    d K)
theorem S32_7155_ok (F : Nat) (o : Summ) (ho : SoundFn Tryz.prog 32 o) : SoundFn Tryz.prog 32 (S32_7155 F o) :=
  soundFn_of (fn := Tryz.f32) (c := code32) rfl rfl (by kernel_rfl) tab_nil (by kernel_rfl) (by kernel_rfl) ho (by rw [loops32]; exact (loopsOK_skip (by kernel_rfl) loopsOK_nil)) (by rw [scopes32]; exact scopesOK_nil) (by rw [ranges32]; exact rangesOK_nil)  (E32_7155 F)
end Go.Proofs.YtlgopekjjkdkiaaGreatDoor.X
end

section
namespace Go.Proofs.YtlgopekjjkdkiaaGreatDoor.X
open Go Go.Proofs.YtlgopekjjkdkiaaGreatDoor.Ev Go.Proofs
set_option linter.unusedVariables false
set_option linter.unusedSectionVars false
/-! pentimentoref06.Disk).Crash -/
noncomputable def f64_7155_l1 {β : Type} (F : Nat) (v1 : Int) (v2 : List Bool)  : Nat → Option β
  | 0 => none
  | k + 1 => none
noncomputable def f64_7155 {β : Type} (F : Nat) (a1 : List Bool)  : Option β := f64_7155_l1 F 0 a1 F
variable [FZ]
def sh64_7155 : Sh := ⟨[.lf (.nilp), .lf (.full 0)], [some ⟨none, [.seq .bool 0]⟩]⟩
abbrev Y64_7155 := List Bool → Option Res
noncomputable def A64_7155 (g : Y64_7155) (d : sh64_7155.den) (K : KF) : Option Res := g d.2.1.2.1
noncomputable def S64_7155 (F : Nat) (o : Summ) : Summ := mkS sh64_7155 (fun d K => A64_7155 (f64_7155 F) d K) o
noncomputable def T64_7155 (F : Nat) : FuncId → Option Summ := tab []
noncomputable def TB64_7155  : FuncId → Option Summ := tab []
def sh64_7155_l1 : Sh := ⟨[.lf (.nilp), .lf (.full 0), .lf (.int .i64)], [some ⟨none, [.seq .bool 0]⟩]⟩
abbrev Y64_7155_l1 := Int → List Bool → Nat → Option Res
noncomputable def A64_7155_l1 (g : Y64_7155_l1) (k : Nat) (d : sh64_7155_l1.den) (K : KL) : Option Res := g d.1.2.2.1 d.2.1.2.1 k
noncomputable def G64_7155_1 (F k : Nat) : LoopS := mkG sh64_7155_l1 [0, 1, 4] (outT []) (fun d K => A64_7155_l1 (f64_7155_l1 F) k d K) []
noncomputable def LT64_7155 (F : Nat) : Nat → Option LoopS := ltab [(1, G64_7155_1 F F)]
theorem L64_7155_l1g (F k : Nat)   (l1 : Y64_7155_l1) (X1 : LoopS) (d : sh64_7155_l1.den) (K : KL) : A64_7155_l1 ((fun (v1 : Int) (v2 : List Bool)  (k : Nat)  => none)) k d K = roundOf Tryz.prog TB64_7155 (xw []) 50 1 (ltab [(1, X1)]) (mkG sh64_7155_l1 [0, 1, 4] (outT []) (fun d K => A64_7155_l1 l1 k d K) []) b64_0 (encT sh64_7155_l1.vs d.1) (encH sh64_7155_l1.h d.2) K := by kernel_rfl
theorem L64_7155_1 (F : Nat) : LoopOK Tryz.prog (T64_7155 F) (xw []) 50 1 (LT64_7155 F) (G64_7155_1 F F) b64_0 :=
  loopOK_of (s := sh64_7155_l1) (live := [0, 1, 4]) (out := (outT [])) (mv := []) (fun k d K => A64_7155_l1 (f64_7155_l1 F) k d K) F (fun d K => by kernel_rfl)  (fun k d K => Eq.mp (by kernel_rfl) (L64_7155_l1g F k   (f64_7155_l1 F) (G64_7155_1 F F) d K))
theorem E64_7155g (F : Nat)  (l1 : Y64_7155_l1)  (d : sh64_7155.den) (K : KF) : evBody Tryz.prog TB64_7155 (xw []) 50 1 (ltab [(1, mkG sh64_7155_l1 [0, 1, 4] (outT []) (fun d K => A64_7155_l1 l1 F d K) [])]) [] false code64 Tryz.f64.results.toList (encT sh64_7155.vs d.1) (encH sh64_7155.h d.2) K = A64_7155 (fun (a1 : List Bool)  => l1 0 a1 F) d K := by kernel_rfl
theorem E64_7155 (F : Nat) (d : sh64_7155.den) (K : KF) : evBody Tryz.prog (T64_7155 F) (xw []) 50 1 (LT64_7155 F) [] false code64 Tryz.f64.results.toList (encT sh64_7155.vs d.1) (encH sh64_7155.h d.2) K = A64_7155 (f64_7155 F) d K := Eq.mp (by kernel_rfl) (E64_7155g F  (f64_7155_l1 F)  d K)
theorem S64_7155_ok (F : Nat) (o : Summ) (ho : SoundFn Tryz.prog 64 o) : SoundFn Tryz.prog 64 (S64_7155 F o) :=
  soundFn_of (fn := Tryz.f64) (c := code64) rfl rfl (by kernel_rfl) tab_nil (by kernel_rfl) (by kernel_rfl) ho (by rw [loops64]; exact (loopsOK_cons (by kernel_rfl) (L64_7155_1 F) loopsOK_nil)) (by rw [scopes64]; exact scopesOK_nil) (by rw [ranges64]; exact rangesOK_nil)  (E64_7155 F)
end Go.Proofs.YtlgopekjjkdkiaaGreatDoor.X
end

section
namespace Go.Proofs.YtlgopekjjkdkiaaGreatDoor.X
open Go Go.Proofs.YtlgopekjjkdkiaaGreatDoor.Ev Go.Proofs
set_option linter.unusedVariables false
set_option linter.unusedSectionVars false
/-! pentimentoref06.Disk).Write -/
noncomputable def f74_1385 {β : Type} (F : Nat) (a1 : Int) (a2 : ByteArray)  : Option β := none
variable [FZ]
def sh74_1385 : Sh := ⟨[.lf (.nilp), .lf (.int .i64), .lf (.str)], []⟩
abbrev Y74_1385 := Int → ByteArray → Option Res
noncomputable def A74_1385 (g : Y74_1385) (d : sh74_1385.den) (K : KF) : Option Res := g d.1.2.1 d.1.2.2.1
noncomputable def S74_1385 (F : Nat) (o : Summ) : Summ := mkS sh74_1385 (fun d K => A74_1385 (f74_1385 F) d K) o
noncomputable def T74_1385 (F : Nat) : FuncId → Option Summ := tab []
noncomputable def TB74_1385  : FuncId → Option Summ := tab []
noncomputable def LT74_1385 (F : Nat) : Nat → Option LoopS := ltab []
theorem E74_1385g (F : Nat)    (d : sh74_1385.den) (K : KF) : evBody Tryz.prog TB74_1385 (xw []) 40 0 (ltab []) [] false code74 Tryz.f74.results.toList (encT sh74_1385.vs d.1) (encH sh74_1385.h d.2) K = A74_1385 (fun (a1 : Int) (a2 : ByteArray)  => none) d K := by kernel_rfl
theorem E74_1385 (F : Nat) (d : sh74_1385.den) (K : KF) : evBody Tryz.prog (T74_1385 F) (xw []) 40 0 (LT74_1385 F) [] false code74 Tryz.f74.results.toList (encT sh74_1385.vs d.1) (encH sh74_1385.h d.2) K = A74_1385 (f74_1385 F) d K := Eq.mp (by kernel_rfl) (E74_1385g F    d K)
theorem S74_1385_ok (F : Nat) (o : Summ) (ho : SoundFn Tryz.prog 74 o) : SoundFn Tryz.prog 74 (S74_1385 F o) :=
  soundFn_of (fn := Tryz.f74) (c := code74) rfl rfl (by kernel_rfl) tab_nil (by kernel_rfl) (by kernel_rfl) ho (by rw [loops74]; exact loopsOK_nil) (by rw [scopes74]; exact scopesOK_nil) (by rw [ranges74]; exact rangesOK_nil)  (E74_1385 F)
end Go.Proofs.YtlgopekjjkdkiaaGreatDoor.X
end

section
namespace Go.Proofs.YtlgopekjjkdkiaaGreatDoor.X
open Go Go.Proofs.YtlgopekjjkdkiaaGreatDoor.Ev Go.Proofs
set_option linter.unusedVariables false
set_option linter.unusedSectionVars false
/-! pentimentoref06.Disk).Fuse -/
noncomputable def f75_6206 {β : Type} (F : Nat) (a1 : Int)  : Option β := none
variable [FZ]
def sh75_6206 : Sh := ⟨[.lf (.nilp), .lf (.int .i64)], []⟩
abbrev Y75_6206 := Int → Option Res
noncomputable def A75_6206 (g : Y75_6206) (d : sh75_6206.den) (K : KF) : Option Res := g d.1.2.1
noncomputable def S75_6206 (F : Nat) (o : Summ) : Summ := mkS sh75_6206 (fun d K => A75_6206 (f75_6206 F) d K) o
noncomputable def T75_6206 (F : Nat) : FuncId → Option Summ := tab []
noncomputable def TB75_6206  : FuncId → Option Summ := tab []
noncomputable def LT75_6206 (F : Nat) : Nat → Option LoopS := ltab []
theorem E75_6206g (F : Nat)    (d : sh75_6206.den) (K : KF) : evBody Tryz.prog TB75_6206 (xw []) 9 0 (ltab []) [] false code75 Tryz.f75.results.toList (encT sh75_6206.vs d.1) (encH sh75_6206.h d.2) K = A75_6206 (fun (a1 : Int)  => none) d K := by kernel_rfl
theorem E75_6206 (F : Nat) (d : sh75_6206.den) (K : KF) : evBody Tryz.prog (T75_6206 F) (xw []) 9 0 (LT75_6206 F) [] false code75 Tryz.f75.results.toList (encT sh75_6206.vs d.1) (encH sh75_6206.h d.2) K = A75_6206 (f75_6206 F) d K := Eq.mp (by kernel_rfl) (E75_6206g F    d K)
theorem S75_6206_ok (F : Nat) (o : Summ) (ho : SoundFn Tryz.prog 75 o) : SoundFn Tryz.prog 75 (S75_6206 F o) :=
  soundFn_of (fn := Tryz.f75) (c := code75) rfl rfl (by kernel_rfl) tab_nil (by kernel_rfl) (by kernel_rfl) ho (by rw [loops75]; exact loopsOK_nil) (by rw [scopes75]; exact scopesOK_nil) (by rw [ranges75]; exact rangesOK_nil)  (E75_6206 F)
end Go.Proofs.YtlgopekjjkdkiaaGreatDoor.X
end

section
namespace Go.Proofs.YtlgopekjjkdkiaaGreatDoor.X
open Go Go.Proofs.YtlgopekjjkdkiaaGreatDoor.Ev Go.Proofs
set_option linter.unusedVariables false
set_option linter.unusedSectionVars false
/-! pentimentoref06.Disk).Read -/
noncomputable def f124_6206 {β : Type} (F : Nat) (a1 : Int)  : Option β := none
variable [FZ]
def sh124_6206 : Sh := ⟨[.lf (.nilp), .lf (.int .i64)], []⟩
abbrev Y124_6206 := Int → Option Res
noncomputable def A124_6206 (g : Y124_6206) (d : sh124_6206.den) (K : KF) : Option Res := g d.1.2.1
noncomputable def S124_6206 (F : Nat) (o : Summ) : Summ := mkS sh124_6206 (fun d K => A124_6206 (f124_6206 F) d K) o
noncomputable def T124_6206 (F : Nat) : FuncId → Option Summ := tab []
noncomputable def TB124_6206  : FuncId → Option Summ := tab []
noncomputable def LT124_6206 (F : Nat) : Nat → Option LoopS := ltab []
theorem E124_6206g (F : Nat)    (d : sh124_6206.den) (K : KF) : evBody Tryz.prog TB124_6206 (xw []) 52 0 (ltab []) [] false code124 Tryz.f124.results.toList (encT sh124_6206.vs d.1) (encH sh124_6206.h d.2) K = A124_6206 (fun (a1 : Int)  => none) d K := by kernel_rfl
theorem E124_6206 (F : Nat) (d : sh124_6206.den) (K : KF) : evBody Tryz.prog (T124_6206 F) (xw []) 52 0 (LT124_6206 F) [] false code124 Tryz.f124.results.toList (encT sh124_6206.vs d.1) (encH sh124_6206.h d.2) K = A124_6206 (f124_6206 F) d K := Eq.mp (by kernel_rfl) (E124_6206g F    d K)
theorem S124_6206_ok (F : Nat) (o : Summ) (ho : SoundFn Tryz.prog 124 o) : SoundFn Tryz.prog 124 (S124_6206 F o) :=
  soundFn_of (fn := Tryz.f124) (c := code124) rfl rfl (by kernel_rfl) tab_nil (by kernel_rfl) (by kernel_rfl) ho (by rw [loops124]; exact (loopsOK_skip (by kernel_rfl) loopsOK_nil)) (by rw [scopes124]; exact scopesOK_nil) (by rw [ranges124]; exact rangesOK_nil)  (E124_6206 F)
end Go.Proofs.YtlgopekjjkdkiaaGreatDoor.X
end

section
namespace Go.Proofs.YtlgopekjjkdkiaaGreatDoor.X
open Go Go.Proofs.YtlgopekjjkdkiaaGreatDoor.Ev Go.Proofs
set_option linter.unusedVariables false
set_option linter.unusedSectionVars false
/-! pentimentoref15.Append -/
noncomputable def f79_4108 {β : Type} (F : Nat) (a1 : Int) (a2 : Int) (a3 : Int) (a4 : Int) (a5 : Int) (a6 : Int) (a7 : Int) (a8 : Int) (K0 : Int → Option β) : Option β := f21_1 F a1 a2 a3 a4 (fun x1 => cond (!x1) (K0 12) (cond (decide (a5 < 0)) (K0 11) (cond (decide (a5 ≥ a4)) (K0 11) (f141_1 F a1 a2 a3 a4 a8 (fun x2 => cond (!x2) (K0 3) (f124_6206 F a8 )) )))) 
variable [FZ]
def sh79_4108 : Sh := ⟨[.lf (.nilp), .agg [.int .i64, .int .i64, .int .i64, .int .i64], .lf (.int .i64), .lf (.int .u64), .lf (.int .u64), .lf (.int .i64)], []⟩
abbrev Y79_4108 := Int → Int → Int → Int → Int → Int → Int → Int → (Int → Option Res) → Option Res
noncomputable def A79_4108 (g : Y79_4108) (d : sh79_4108.den) (K : KF) : Option Res := g d.1.2.1.1 d.1.2.1.2.1 d.1.2.1.2.2.1 d.1.2.1.2.2.2.1 d.1.2.2.1 d.1.2.2.2.1 d.1.2.2.2.2.1 d.1.2.2.2.2.2.1 (fun (y4 : Int) => K [.agg [.int .u64 0, .int .u64 0, .int .i64 0, .str ByteArray.empty], .lf (.int .i64 y4)] [])
noncomputable def S79_4108 (F : Nat) (o : Summ) : Summ := mkS sh79_4108 (fun d K => A79_4108 (f79_4108 F) d K) o
noncomputable def T79_4108 (F : Nat) : FuncId → Option Summ := tab [(21, (S21_1 F noS)), (124, (S124_6206 F noS)), (141, (S141_1 F noS))]
noncomputable def TB79_4108 (c21_1 : Y21_1) (c124_6206 : Y124_6206) (c141_1 : Y141_1) : FuncId → Option Summ := tab [(21, (mkS sh21_1 (fun d K => A21_1 c21_1 d K) noS)), (124, (mkS sh124_6206 (fun d K => A124_6206 c124_6206 d K) noS)), (141, (mkS sh141_1 (fun d K => A141_1 c141_1 d K) noS))]
noncomputable def LT79_4108 (F : Nat) : Nat → Option LoopS := ltab []
theorem E79_4108g (F : Nat) (c21_1 : Y21_1) (c124_6206 : Y124_6206) (c141_1 : Y141_1)   (d : sh79_4108.den) (K : KF) : evBody Tryz.prog (TB79_4108 c21_1 c124_6206 c141_1) (xw []) 67 0 (ltab []) [] false code79 Tryz.f79.results.toList (encT sh79_4108.vs d.1) (encH sh79_4108.h d.2) K = A79_4108 (fun (a1 : Int) (a2 : Int) (a3 : Int) (a4 : Int) (a5 : Int) (a6 : Int) (a7 : Int) (a8 : Int) (K0 : (Int → Option Res)) => c21_1 a1 a2 a3 a4 (fun x1 => cond (!x1) (K0 12) (cond (decide (a5 < 0)) (K0 11) (cond (decide (a5 ≥ a4)) (K0 11) (c141_1 a1 a2 a3 a4 a8 (fun x2 => cond (!x2) (K0 3) (c124_6206 a8 )) )))) ) d K := by kernel_rfl
theorem E79_4108 (F : Nat) (d : sh79_4108.den) (K : KF) : evBody Tryz.prog (T79_4108 F) (xw []) 67 0 (LT79_4108 F) [] false code79 Tryz.f79.results.toList (encT sh79_4108.vs d.1) (encH sh79_4108.h d.2) K = A79_4108 (f79_4108 F) d K := Eq.mp (by kernel_rfl) (E79_4108g F (f21_1 F) (f124_6206 F) (f141_1 F)   d K)
theorem S79_4108_ok (F : Nat) (o : Summ) (ho : SoundFn Tryz.prog 79 o) : SoundFn Tryz.prog 79 (S79_4108 F o) :=
  soundFn_of (fn := Tryz.f79) (c := code79) rfl rfl (by kernel_rfl) (tab_cons (S21_1_ok F _ (noS_sound enter21)) (tab_cons (S124_6206_ok F _ (noS_sound enter124)) (tab_cons (S141_1_ok F _ (noS_sound enter141)) tab_nil))) (by kernel_rfl) (by kernel_rfl) ho (by rw [loops79]; exact loopsOK_nil) (by rw [scopes79]; exact scopesOK_nil) (by rw [ranges79]; exact rangesOK_nil)  (E79_4108 F)
end Go.Proofs.YtlgopekjjkdkiaaGreatDoor.X
end

section
namespace Go.Proofs.YtlgopekjjkdkiaaGreatDoor.X
open Go Go.Proofs.YtlgopekjjkdkiaaGreatDoor.Ev Go.Proofs
set_option linter.unusedVariables false
set_option linter.unusedSectionVars false
/-! pentimentoref15.Scan -/
noncomputable def f80_3384_l5 {β : Type} (F : Nat) (v2 : Int) (v3 : Int) (v4 : Int) (v5 : Int) (v6 : Int) (v7 : Int) (v8 : List (Int × (Int × (Int × ByteArray)))) (K0 : Option β) : Nat → Option β
  | 0 => none
  | k + 1 => cond (decide (v3 < v7)) (f138_1 F v4 v5 v6 v7 1 (IntKind.i64.wrap (2 * v3)) (fun x9 => f124_6206 F x9 ) ) (K0)
noncomputable def f80_3384 {β : Type} (F : Nat) (a1 : Int) (a2 : Int) (a3 : Int) (a4 : Int) (a5 : Int) (K0 : Int → List (Int × (Int × (Int × ByteArray))) → Option β) : Option β := f21_1 F a1 a2 a3 a4 (fun x1 => cond (!x1) (K0 12 []) (f80_3384_l5 F a5 0 a1 a2 a3 a4 [] (K0 0 []) F)) 
variable [FZ]
def sh80_3384 : Sh := ⟨[.lf (.nilp), .agg [.int .i64, .int .i64, .int .i64, .int .i64], .lf (.int .u64)], []⟩
abbrev Y80_3384 := Int → Int → Int → Int → Int → (Int → List (Int × (Int × (Int × ByteArray))) → Option Res) → Option Res
noncomputable def A80_3384 (g : Y80_3384) (d : sh80_3384.den) (K : KF) : Option Res := g d.1.2.1.1 d.1.2.1.2.1 d.1.2.1.2.2.1 d.1.2.1.2.2.2.1 d.1.2.2.1 (fun (y0 : Int) (y1 : List (Int × (Int × (Int × ByteArray)))) => K [.lf (.full 0), .lf (.int .i64 y0)] [some ⟨false, [.seq (.pair (.int .u64) (.pair (.int .u64) (.pair (.int .i64) .str))) 0 y1]⟩])
noncomputable def S80_3384 (F : Nat) (o : Summ) : Summ := mkS sh80_3384 (fun d K => A80_3384 (f80_3384 F) d K) o
noncomputable def T80_3384 (F : Nat) : FuncId → Option Summ := tab [(21, (S21_1 F noS)), (124, (S124_6206 F noS)), (138, (S138_1 F noS))]
noncomputable def TB80_3384 (c21_1 : Y21_1) (c124_6206 : Y124_6206) (c138_1 : Y138_1) : FuncId → Option Summ := tab [(21, (mkS sh21_1 (fun d K => A21_1 c21_1 d K) noS)), (124, (mkS sh124_6206 (fun d K => A124_6206 c124_6206 d K) noS)), (138, (mkS sh138_1 (fun d K => A138_1 c138_1 d K) noS))]
def sh80_3384_l5 : Sh := ⟨[.lf (.nilp), .lf (.int .u64), .lf (.ptr 0 0), .lf (.full 1), .lf (.int .i64)], [some ⟨some false, [.int .i64, .int .i64, .int .i64, .int .i64]⟩, some ⟨some false, [.seq (.pair (.int .u64) (.pair (.int .u64) (.pair (.int .i64) .str))) 0]⟩]⟩
abbrev Y80_3384_l5 := Int → Int → Int → Int → Int → Int → List (Int × (Int × (Int × ByteArray))) → (Option Res) → Nat → Option Res
noncomputable def A80_3384_l5 (g : Y80_3384_l5) (k : Nat) (d : sh80_3384_l5.den) (K : KL) : Option Res := g d.1.2.1 d.1.2.2.2.2.1 d.2.1.2.1 d.2.1.2.2.1 d.2.1.2.2.2.1 d.2.1.2.2.2.2.1 d.2.2.1.2.1 (K (.exit 0) [.tv (.lf (.full 1))] [some ⟨false, [.int .i64 d.2.1.2.1, .int .i64 d.2.1.2.2.1, .int .i64 d.2.1.2.2.2.1, .int .i64 d.2.1.2.2.2.2.1]⟩, some ⟨false, [.seq (.pair (.int .u64) (.pair (.int .u64) (.pair (.int .i64) .str))) 0 d.2.2.1.2.1]⟩]) k
noncomputable def G80_3384_5 (F k : Nat) : LoopS := mkG sh80_3384_l5 [0, 2, 4, 8, 9] (outT [(.exit 0, [8])]) (fun d K => A80_3384_l5 (f80_3384_l5 F) k d K) []
noncomputable def LT80_3384 (F : Nat) : Nat → Option LoopS := ltab [(5, G80_3384_5 F F)]
theorem L80_3384_l5g (F k : Nat) (c21_1 : Y21_1) (c124_6206 : Y124_6206) (c138_1 : Y138_1)  (l5 : Y80_3384_l5) (X5 : LoopS) (d : sh80_3384_l5.den) (K : KL) : A80_3384_l5 ((fun (v2 : Int) (v3 : Int) (v4 : Int) (v5 : Int) (v6 : Int) (v7 : Int) (v8 : List (Int × (Int × (Int × ByteArray)))) (K0 : (Option Res)) (k : Nat)  => cond (decide (v3 < v7)) (c138_1 v4 v5 v6 v7 1 (IntKind.i64.wrap (2 * v3)) (fun x9 => c124_6206 x9 ) ) (K0))) k d K = roundOf Tryz.prog (TB80_3384 c21_1 c124_6206 c138_1) (xw []) 124 0 (ltab [(5, X5)]) (mkG sh80_3384_l5 [0, 2, 4, 8, 9] (outT [(.exit 0, [8])]) (fun d K => A80_3384_l5 l5 k d K) []) b80_0 (encT sh80_3384_l5.vs d.1) (encH sh80_3384_l5.h d.2) K := by kernel_rfl
theorem L80_3384_5 (F : Nat) : LoopOK Tryz.prog (T80_3384 F) (xw []) 124 0 (LT80_3384 F) (G80_3384_5 F F) b80_0 :=
  loopOK_of (s := sh80_3384_l5) (live := [0, 2, 4, 8, 9]) (out := (outT [(.exit 0, [8])])) (mv := []) (fun k d K => A80_3384_l5 (f80_3384_l5 F) k d K) F (fun d K => by kernel_rfl)  (fun k d K => Eq.mp (by kernel_rfl) (L80_3384_l5g F k (f21_1 F) (f124_6206 F) (f138_1 F)  (f80_3384_l5 F) (G80_3384_5 F F) d K))
theorem E80_3384g (F : Nat) (c21_1 : Y21_1) (c124_6206 : Y124_6206) (c138_1 : Y138_1) (l5 : Y80_3384_l5)  (d : sh80_3384.den) (K : KF) : evBody Tryz.prog (TB80_3384 c21_1 c124_6206 c138_1) (xw []) 124 0 (ltab [(5, mkG sh80_3384_l5 [0, 2, 4, 8, 9] (outT [(.exit 0, [8])]) (fun d K => A80_3384_l5 l5 F d K) [])]) [] false code80 Tryz.f80.results.toList (encT sh80_3384.vs d.1) (encH sh80_3384.h d.2) K = A80_3384 (fun (a1 : Int) (a2 : Int) (a3 : Int) (a4 : Int) (a5 : Int) (K0 : (Int → List (Int × (Int × (Int × ByteArray))) → Option Res)) => c21_1 a1 a2 a3 a4 (fun x1 => cond (!x1) (K0 12 []) (l5 a5 0 a1 a2 a3 a4 [] (K0 0 []) F)) ) d K := by kernel_rfl
theorem E80_3384 (F : Nat) (d : sh80_3384.den) (K : KF) : evBody Tryz.prog (T80_3384 F) (xw []) 124 0 (LT80_3384 F) [] false code80 Tryz.f80.results.toList (encT sh80_3384.vs d.1) (encH sh80_3384.h d.2) K = A80_3384 (f80_3384 F) d K := Eq.mp (by kernel_rfl) (E80_3384g F (f21_1 F) (f124_6206 F) (f138_1 F) (f80_3384_l5 F)  d K)
theorem S80_3384_ok (F : Nat) (o : Summ) (ho : SoundFn Tryz.prog 80 o) : SoundFn Tryz.prog 80 (S80_3384 F o) :=
  soundFn_of (fn := Tryz.f80) (c := code80) rfl rfl (by kernel_rfl) (tab_cons (S21_1_ok F _ (noS_sound enter21)) (tab_cons (S124_6206_ok F _ (noS_sound enter124)) (tab_cons (S138_1_ok F _ (noS_sound enter138)) tab_nil))) (by kernel_rfl) (by kernel_rfl) ho (by rw [loops80]; exact (loopsOK_cons (by kernel_rfl) (L80_3384_5 F) loopsOK_nil)) (by rw [scopes80]; exact scopesOK_nil) (by rw [ranges80]; exact rangesOK_nil)  (E80_3384 F)
end Go.Proofs.YtlgopekjjkdkiaaGreatDoor.X
end

section
namespace Go.Proofs.YtlgopekjjkdkiaaGreatDoor.X
open Go Go.Proofs.YtlgopekjjkdkiaaGreatDoor.Ev Go.Proofs
set_option linter.unusedVariables false
set_option linter.unusedSectionVars false
/-! undo.lay -/
noncomputable def f93_1385 {β : Type} (F : Nat) (a1 : Int) (a2 : ByteArray) (K0 : Option β) : Option β := f24_1385 F a1 a2 (K0) 
variable [FZ]
def sh93_1385 : Sh := ⟨[.lf (.nilp), .lf (.int .i64), .lf (.str)], []⟩
abbrev Y93_1385 := Int → ByteArray → (Option Res) → Option Res
noncomputable def A93_1385 (g : Y93_1385) (d : sh93_1385.den) (K : KF) : Option Res := g d.1.2.1 d.1.2.2.1 (K [.lf (.int .i64 1)] [])
noncomputable def S93_1385 (F : Nat) (o : Summ) : Summ := mkS sh93_1385 (fun d K => A93_1385 (f93_1385 F) d K) o
noncomputable def T93_1385 (F : Nat) : FuncId → Option Summ := tab [(24, (S24_1385 F noS))]
noncomputable def TB93_1385 (c24_1385 : Y24_1385) : FuncId → Option Summ := tab [(24, (mkS sh24_1385 (fun d K => A24_1385 c24_1385 d K) noS))]
noncomputable def LT93_1385 (F : Nat) : Nat → Option LoopS := ltab []
theorem E93_1385g (F : Nat) (c24_1385 : Y24_1385)   (d : sh93_1385.den) (K : KF) : evBody Tryz.prog (TB93_1385 c24_1385) (xw []) 17 0 (ltab []) [] false code93 Tryz.f93.results.toList (encT sh93_1385.vs d.1) (encH sh93_1385.h d.2) K = A93_1385 (fun (a1 : Int) (a2 : ByteArray) (K0 : (Option Res)) => c24_1385 a1 a2 (K0) ) d K := by kernel_rfl
theorem E93_1385 (F : Nat) (d : sh93_1385.den) (K : KF) : evBody Tryz.prog (T93_1385 F) (xw []) 17 0 (LT93_1385 F) [] false code93 Tryz.f93.results.toList (encT sh93_1385.vs d.1) (encH sh93_1385.h d.2) K = A93_1385 (f93_1385 F) d K := Eq.mp (by kernel_rfl) (E93_1385g F (f24_1385 F)   d K)
theorem S93_1385_ok (F : Nat) (o : Summ) (ho : SoundFn Tryz.prog 93 o) : SoundFn Tryz.prog 93 (S93_1385 F o) :=
  soundFn_of (fn := Tryz.f93) (c := code93) rfl rfl (by kernel_rfl) (tab_cons (S24_1385_ok F _ (noS_sound enter24)) tab_nil) (by kernel_rfl) (by kernel_rfl) ho (by rw [loops93]; exact loopsOK_nil) (by rw [scopes93]; exact scopesOK_nil) (by rw [ranges93]; exact rangesOK_nil)  (E93_1385 F)
end Go.Proofs.YtlgopekjjkdkiaaGreatDoor.X
end

section
namespace Go.Proofs.YtlgopekjjkdkiaaGreatDoor.X
open Go Go.Proofs.YtlgopekjjkdkiaaGreatDoor.Ev Go.Proofs
set_option linter.unusedVariables false
set_option linter.unusedSectionVars false
/-! undo.Clear -/
noncomputable def f81_5478 {β : Type} (F : Nat) (a1 : Int) (a2 : Int) (a3 : Int) (a4 : Int) (K0 : Int → Option β) : Option β := f90_1 F a1 a2 a3 a4 (fun x1 => cond (!x1) (K0 12) (f92_1 F a1 a2 a3 a4 0 (fun x2 x3 => f69_1 F  (fun x4 => f93_1385 F x2 x4 (K0 1) ) ) )) 
variable [FZ]
def sh81_5478 : Sh := ⟨[.lf (.nilp), .agg [.int .i64, .int .i64, .int .i64, .int .i64]], []⟩
abbrev Y81_5478 := Int → Int → Int → Int → (Int → Option Res) → Option Res
noncomputable def A81_5478 (g : Y81_5478) (d : sh81_5478.den) (K : KF) : Option Res := g d.1.2.1.1 d.1.2.1.2.1 d.1.2.1.2.2.1 d.1.2.1.2.2.2.1 (fun (y0 : Int) => K [.lf (.int .i64 y0)] [])
noncomputable def S81_5478 (F : Nat) (o : Summ) : Summ := mkS sh81_5478 (fun d K => A81_5478 (f81_5478 F) d K) o
noncomputable def T81_5478 (F : Nat) : FuncId → Option Summ := tab [(69, (S69_1 F noS)), (90, (S90_1 F noS)), (92, (S92_1 F noS)), (93, (S93_1385 F noS))]
noncomputable def TB81_5478 (c69_1 : Y69_1) (c90_1 : Y90_1) (c92_1 : Y92_1) (c93_1385 : Y93_1385) : FuncId → Option Summ := tab [(69, (mkS sh69_1 (fun d K => A69_1 c69_1 d K) noS)), (90, (mkS sh90_1 (fun d K => A90_1 c90_1 d K) noS)), (92, (mkS sh92_1 (fun d K => A92_1 c92_1 d K) noS)), (93, (mkS sh93_1385 (fun d K => A93_1385 c93_1385 d K) noS))]
noncomputable def LT81_5478 (F : Nat) : Nat → Option LoopS := ltab []
theorem E81_5478g (F : Nat) (c69_1 : Y69_1) (c90_1 : Y90_1) (c92_1 : Y92_1) (c93_1385 : Y93_1385)   (d : sh81_5478.den) (K : KF) : evBody Tryz.prog (TB81_5478 c69_1 c90_1 c92_1 c93_1385) (xw []) 19 0 (ltab []) [] false code81 Tryz.f81.results.toList (encT sh81_5478.vs d.1) (encH sh81_5478.h d.2) K = A81_5478 (fun (a1 : Int) (a2 : Int) (a3 : Int) (a4 : Int) (K0 : (Int → Option Res)) => c90_1 a1 a2 a3 a4 (fun x1 => cond (!x1) (K0 12) (c92_1 a1 a2 a3 a4 0 (fun x2 x3 => c69_1  (fun x4 => c93_1385 x2 x4 (K0 1) ) ) )) ) d K := by kernel_rfl
theorem E81_5478 (F : Nat) (d : sh81_5478.den) (K : KF) : evBody Tryz.prog (T81_5478 F) (xw []) 19 0 (LT81_5478 F) [] false code81 Tryz.f81.results.toList (encT sh81_5478.vs d.1) (encH sh81_5478.h d.2) K = A81_5478 (f81_5478 F) d K := Eq.mp (by kernel_rfl) (E81_5478g F (f69_1 F) (f90_1 F) (f92_1 F) (f93_1385 F)   d K)
theorem S81_5478_ok (F : Nat) (o : Summ) (ho : SoundFn Tryz.prog 81 o) : SoundFn Tryz.prog 81 (S81_5478 F o) :=
  soundFn_of (fn := Tryz.f81) (c := code81) rfl rfl (by kernel_rfl) (tab_cons (S69_1_ok F _ (noS_sound enter69)) (tab_cons (S90_1_ok F _ (noS_sound enter90)) (tab_cons (S92_1_ok F _ (noS_sound enter92)) (tab_cons (S93_1385_ok F _ (noS_sound enter93)) tab_nil)))) (by kernel_rfl) (by kernel_rfl) ho (by rw [loops81]; exact loopsOK_nil) (by rw [scopes81]; exact scopesOK_nil) (by rw [ranges81]; exact rangesOK_nil)  (E81_5478 F)
end Go.Proofs.YtlgopekjjkdkiaaGreatDoor.X
end

section
namespace Go.Proofs.YtlgopekjjkdkiaaGreatDoor.X
open Go Go.Proofs.YtlgopekjjkdkiaaGreatDoor.Ev Go.Proofs
set_option linter.unusedVariables false
set_option linter.unusedSectionVars false
/-! pentimentoref15.Clear -/
noncomputable def f82_5478 {β : Type} (F : Nat) (a1 : Int) (a2 : Int) (a3 : Int) (a4 : Int) (K0 : Option β) : Option β := f21_1 F a1 a2 a3 a4 (fun x1 => cond (!x1) (K0) (f138_1 F a1 a2 a3 a4 1 0 (fun x2 => f54_1 F  (fun x3 => f74_1385 F x2 x3 ) ) )) 
variable [FZ]
def sh82_5478 : Sh := ⟨[.lf (.nilp), .agg [.int .i64, .int .i64, .int .i64, .int .i64]], []⟩
abbrev Y82_5478 := Int → Int → Int → Int → (Option Res) → Option Res
noncomputable def A82_5478 (g : Y82_5478) (d : sh82_5478.den) (K : KF) : Option Res := g d.1.2.1.1 d.1.2.1.2.1 d.1.2.1.2.2.1 d.1.2.1.2.2.2.1 (K [.lf (.int .i64 12)] [])
noncomputable def S82_5478 (F : Nat) (o : Summ) : Summ := mkS sh82_5478 (fun d K => A82_5478 (f82_5478 F) d K) o
noncomputable def T82_5478 (F : Nat) : FuncId → Option Summ := tab [(21, (S21_1 F noS)), (54, (S54_1 F noS)), (74, (S74_1385 F noS)), (138, (S138_1 F noS))]
noncomputable def TB82_5478 (c21_1 : Y21_1) (c54_1 : Y54_1) (c74_1385 : Y74_1385) (c138_1 : Y138_1) : FuncId → Option Summ := tab [(21, (mkS sh21_1 (fun d K => A21_1 c21_1 d K) noS)), (54, (mkS sh54_1 (fun d K => A54_1 c54_1 d K) noS)), (74, (mkS sh74_1385 (fun d K => A74_1385 c74_1385 d K) noS)), (138, (mkS sh138_1 (fun d K => A138_1 c138_1 d K) noS))]
noncomputable def LT82_5478 (F : Nat) : Nat → Option LoopS := ltab []
theorem E82_5478g (F : Nat) (c21_1 : Y21_1) (c54_1 : Y54_1) (c74_1385 : Y74_1385) (c138_1 : Y138_1)   (d : sh82_5478.den) (K : KF) : evBody Tryz.prog (TB82_5478 c21_1 c54_1 c74_1385 c138_1) (xw []) 19 0 (ltab []) [] false code82 Tryz.f82.results.toList (encT sh82_5478.vs d.1) (encH sh82_5478.h d.2) K = A82_5478 (fun (a1 : Int) (a2 : Int) (a3 : Int) (a4 : Int) (K0 : (Option Res)) => c21_1 a1 a2 a3 a4 (fun x1 => cond (!x1) (K0) (c138_1 a1 a2 a3 a4 1 0 (fun x2 => c54_1  (fun x3 => c74_1385 x2 x3 ) ) )) ) d K := by kernel_rfl
theorem E82_5478 (F : Nat) (d : sh82_5478.den) (K : KF) : evBody Tryz.prog (T82_5478 F) (xw []) 19 0 (LT82_5478 F) [] false code82 Tryz.f82.results.toList (encT sh82_5478.vs d.1) (encH sh82_5478.h d.2) K = A82_5478 (f82_5478 F) d K := Eq.mp (by kernel_rfl) (E82_5478g F (f21_1 F) (f54_1 F) (f74_1385 F) (f138_1 F)   d K)
theorem S82_5478_ok (F : Nat) (o : Summ) (ho : SoundFn Tryz.prog 82 o) : SoundFn Tryz.prog 82 (S82_5478 F o) :=
  soundFn_of (fn := Tryz.f82) (c := code82) rfl rfl (by kernel_rfl) (tab_cons (S21_1_ok F _ (noS_sound enter21)) (tab_cons (S54_1_ok F _ (noS_sound enter54)) (tab_cons (S74_1385_ok F _ (noS_sound enter74)) (tab_cons (S138_1_ok F _ (noS_sound enter138)) tab_nil)))) (by kernel_rfl) (by kernel_rfl) ho (by rw [loops82]; exact loopsOK_nil) (by rw [scopes82]; exact scopesOK_nil) (by rw [ranges82]; exact rangesOK_nil)  (E82_5478 F)
end Go.Proofs.YtlgopekjjkdkiaaGreatDoor.X
end

section
namespace Go.Proofs.YtlgopekjjkdkiaaGreatDoor.X
open Go Go.Proofs.YtlgopekjjkdkiaaGreatDoor.Ev Go.Proofs
set_option linter.unusedVariables false
set_option linter.unusedSectionVars false
/-! pentimentolaw15.do -/
noncomputable def f20_6416 [FZ] {β : Type} (F : Nat) (a1 : Int) (a2 : Int) (a3 : Int) (a4 : Int) (a5 : Int) (a6 : Int) (a7 : Int) (a8 : Int) (a9 : Int) (a10 : ByteArray) (a11 : Sl .bool) (K0 : Bool → Option β) : Option β := cond ((a5.tmod 6) == 0) (f31_4108 F a1 a2 a3 a4 a6 a7 a8 a9 (fun x1 => f79_4108 F a1 a2 a3 a4 a6 a7 a8 a9 (fun x2 => K0 (x1 == x2)) ) ) (cond ((a5.tmod 6) == 1) (f34_3384 F a1 a2 a3 a4 a8 (fun x3 x4 => f80_3384 F a1 a2 a3 a4 a8 (fun x5 x6 => f73_1 F x4 x6 (fun x7 => cond x7 (K0 (x3 == x5)) (K0 false)) ) ) ) (cond ((a5.tmod 6) == 2) (f81_5478 F a1 a2 a3 a4 (fun x8 => f82_5478 F a1 a2 a3 a4 (K0 (x8 == 12)) ) ) (cond ((a5.tmod 6) == 3) (f24_1385 F a9 a10 (f74_1385 F a9 a10 ) ) (cond ((a5.tmod 6) == 4) (f29_6206 F a6 (f75_6206 F a6 ) ) (f32_7155 F a11.dat (f64_7155 F a11.dat ) )))))
variable [FZ]
def sh20_6416 : Sh := ⟨[.lf (.nilp), .lf (.nilp), .agg [.int .i64, .int .i64, .int .i64, .int .i64], .agg [.int .i64, .int .i64, .int .u64, .int .u64, .int .i64, .str, .sl .bool]], []⟩
abbrev Y20_6416 := Int → Int → Int → Int → Int → Int → Int → Int → Int → ByteArray → Sl .bool → (Bool → Option Res) → Option Res
noncomputable def A20_6416 (g : Y20_6416) (d : sh20_6416.den) (K : KF) : Option Res := g d.1.2.2.1.1 d.1.2.2.1.2.1 d.1.2.2.1.2.2.1 d.1.2.2.1.2.2.2.1 d.1.2.2.2.1.1 d.1.2.2.2.1.2.1 d.1.2.2.2.1.2.2.1 d.1.2.2.2.1.2.2.2.1 d.1.2.2.2.1.2.2.2.2.1 d.1.2.2.2.1.2.2.2.2.2.1 d.1.2.2.2.1.2.2.2.2.2.2.1 (fun (y0 : Bool) => K [.lf (.bool y0)] [])
noncomputable def S20_6416 (F : Nat) (o : Summ) : Summ := mkS sh20_6416 (fun d K => A20_6416 (f20_6416 F) d K) o
noncomputable def T20_6416 (F : Nat) : FuncId → Option Summ := tab [(24, (S24_1385 F noS)), (29, (S29_6206 F noS)), (31, (S31_4108 F noS)), (32, (S32_7155 F noS)), (34, (S34_3384 F noS)), (64, (S64_7155 F noS)), (73, (S73_1 F noS)), (74, (S74_1385 F noS)), (75, (S75_6206 F noS)), (79, (S79_4108 F noS)), (80, (S80_3384 F noS)), (81, (S81_5478 F noS)), (82, (S82_5478 F noS))]
noncomputable def TB20_6416 (c24_1385 : Y24_1385) (c29_6206 : Y29_6206) (c31_4108 : Y31_4108) (c32_7155 : Y32_7155) (c34_3384 : Y34_3384) (c64_7155 : Y64_7155) (c73_1 : Y73_1) (c74_1385 : Y74_1385) (c75_6206 : Y75_6206) (c79_4108 : Y79_4108) (c80_3384 : Y80_3384) (c81_5478 : Y81_5478) (c82_5478 : Y82_5478) : FuncId → Option Summ := tab [(24, (mkS sh24_1385 (fun d K => A24_1385 c24_1385 d K) noS)), (29, (mkS sh29_6206 (fun d K => A29_6206 c29_6206 d K) noS)), (31, (mkS sh31_4108 (fun d K => A31_4108 c31_4108 d K) noS)), (32, (mkS sh32_7155 (fun d K => A32_7155 c32_7155 d K) noS)), (34, (mkS sh34_3384 (fun d K => A34_3384 c34_3384 d K) noS)), (64, (mkS sh64_7155 (fun d K => A64_7155 c64_7155 d K) noS)), (73, (mkS sh73_1 (fun d K => A73_1 c73_1 d K) noS)), (74, (mkS sh74_1385 (fun d K => A74_1385 c74_1385 d K) noS)), (75, (mkS sh75_6206 (fun d K => A75_6206 c75_6206 d K) noS)), (79, (mkS sh79_4108 (fun d K => A79_4108 c79_4108 d K) noS)), (80, (mkS sh80_3384 (fun d K => A80_3384 c80_3384 d K) noS)), (81, (mkS sh81_5478 (fun d K => A81_5478 c81_5478 d K) noS)), (82, (mkS sh82_5478 (fun d K => A82_5478 c82_5478 d K) noS))]
noncomputable def LT20_6416 (F : Nat) : Nat → Option LoopS := ltab []
theorem E20_6416g (F : Nat) (c24_1385 : Y24_1385) (c29_6206 : Y29_6206) (c31_4108 : Y31_4108) (c32_7155 : Y32_7155) (c34_3384 : Y34_3384) (c64_7155 : Y64_7155) (c73_1 : Y73_1) (c74_1385 : Y74_1385) (c75_6206 : Y75_6206) (c79_4108 : Y79_4108) (c80_3384 : Y80_3384) (c81_5478 : Y81_5478) (c82_5478 : Y82_5478)   (d : sh20_6416.den) (K : KF) : evBody Tryz.prog (TB20_6416 c24_1385 c29_6206 c31_4108 c32_7155 c34_3384 c64_7155 c73_1 c74_1385 c75_6206 c79_4108 c80_3384 c81_5478 c82_5478) (xw []) 131 0 (ltab []) [] false code20 Tryz.f20.results.toList (encT sh20_6416.vs d.1) (encH sh20_6416.h d.2) K = A20_6416 (fun (a1 : Int) (a2 : Int) (a3 : Int) (a4 : Int) (a5 : Int) (a6 : Int) (a7 : Int) (a8 : Int) (a9 : Int) (a10 : ByteArray) (a11 : Sl .bool) (K0 : (Bool → Option Res)) => cond ((a5.tmod 6) == 0) (c31_4108 a1 a2 a3 a4 a6 a7 a8 a9 (fun x1 => c79_4108 a1 a2 a3 a4 a6 a7 a8 a9 (fun x2 => K0 (x1 == x2)) ) ) (cond ((a5.tmod 6) == 1) (c34_3384 a1 a2 a3 a4 a8 (fun x3 x4 => c80_3384 a1 a2 a3 a4 a8 (fun x5 x6 => c73_1 x4 x6 (fun x7 => cond x7 (K0 (x3 == x5)) (K0 false)) ) ) ) (cond ((a5.tmod 6) == 2) (c81_5478 a1 a2 a3 a4 (fun x8 => c82_5478 a1 a2 a3 a4 (K0 (x8 == 12)) ) ) (cond ((a5.tmod 6) == 3) (c24_1385 a9 a10 (c74_1385 a9 a10 ) ) (cond ((a5.tmod 6) == 4) (c29_6206 a6 (c75_6206 a6 ) ) (c32_7155 a11.dat (c64_7155 a11.dat ) )))))) d K := by kernel_rfl
theorem E20_6416 (F : Nat) (d : sh20_6416.den) (K : KF) : evBody Tryz.prog (T20_6416 F) (xw []) 131 0 (LT20_6416 F) [] false code20 Tryz.f20.results.toList (encT sh20_6416.vs d.1) (encH sh20_6416.h d.2) K = A20_6416 (f20_6416 F) d K := Eq.mp (by kernel_rfl) (E20_6416g F (f24_1385 F) (f29_6206 F) (f31_4108 F) (f32_7155 F) (f34_3384 F) (f64_7155 F) (f73_1 F) (f74_1385 F) (f75_6206 F) (f79_4108 F) (f80_3384 F) (f81_5478 F) (f82_5478 F)   d K)
theorem S20_6416_ok (F : Nat) (o : Summ) (ho : SoundFn Tryz.prog 20 o) : SoundFn Tryz.prog 20 (S20_6416 F o) :=
  soundFn_of (fn := Tryz.f20) (c := code20) rfl rfl (by kernel_rfl) (tab_cons (S24_1385_ok F _ (noS_sound enter24)) (tab_cons (S29_6206_ok F _ (noS_sound enter29)) (tab_cons (S31_4108_ok F _ (noS_sound enter31)) (tab_cons (S32_7155_ok F _ (noS_sound enter32)) (tab_cons (S34_3384_ok F _ (noS_sound enter34)) (tab_cons (S64_7155_ok F _ (noS_sound enter64)) (tab_cons (S73_1_ok F _ (noS_sound enter73)) (tab_cons (S74_1385_ok F _ (noS_sound enter74)) (tab_cons (S75_6206_ok F _ (noS_sound enter75)) (tab_cons (S79_4108_ok F _ (noS_sound enter79)) (tab_cons (S80_3384_ok F _ (noS_sound enter80)) (tab_cons (S81_5478_ok F _ (noS_sound enter81)) (tab_cons (S82_5478_ok F _ (noS_sound enter82)) tab_nil))))))))))))) (by kernel_rfl) (by kernel_rfl) ho (by rw [loops20]; exact loopsOK_nil) (by rw [scopes20]; exact scopesOK_nil) (by rw [ranges20]; exact rangesOK_nil)  (E20_6416 F)
end Go.Proofs.YtlgopekjjkdkiaaGreatDoor.X
end

section
namespace Go.Proofs.YtlgopekjjkdkiaaGreatDoor.X
open Go Go.Proofs.YtlgopekjjkdkiaaGreatDoor.Ev Go.Proofs
set_option linter.unusedVariables false
set_option linter.unusedSectionVars false
/-! pentimentolaw15.do -/
noncomputable def f20_8056 [FZ] {β : Type} (F : Nat) (a1 : Int) (a2 : Int) (a3 : Int) (a4 : Int) (a5 : Int) (a6 : Int) (a7 : Int) (a8 : Int) (a9 : Int) (a10 : ByteArray) (a11 : Sl .bool) (a12 : Int) (a13 : Bool) (a14 : Int) (a15 : List ByteArray) (a16 : List (Int × ByteArray)) (K0 : Bool → Int → Bool → Int → List ByteArray → List (Int × ByteArray) → Option β) : Option β := cond ((a5.tmod 6) == 0) (f31_1 F a1 a2 a3 a4 a6 a7 a8 a9 a12 a13 a14 a15 a16 (fun x1 x2 x3 x4 x5 x6 x7 x8 x9 x10 => f79_4108 F a1 a2 a3 a4 a6 a7 a8 a9 (fun x11 => cond ((x1 == 0) && ((x2 == 0) && ((x3 == 0) && (x4.toList == ByteArray.empty.toList)))) (K0 (x5 == x11) x6 x7 x8 x9 x10) (K0 false x6 x7 x8 x9 x10)) ) ) (cond ((a5.tmod 6) == 1) (f34_1 F a1 a2 a3 a4 a8 a12 a13 a14 a15 a16 (fun x12 x13 => f80_3384 F a1 a2 a3 a4 a8 (fun x14 x15 => f73_1 F x13 x15 (fun x16 => cond x16 (K0 (x12 == x14) a12 a13 a14 a15 a16) (K0 false a12 a13 a14 a15 a16)) ) ) ) (cond ((a5.tmod 6) == 2) ((fun z1 => amb z1 z1) (f81_1 F a1 a2 a3 a4 a12 a13 a14 a15 a16 (fun x17 x18 x19 x20 x21 x22 => f82_5478 F a1 a2 a3 a4 (K0 (x17 == 12) x18 x19 x20 x21 x22) ) )) (cond ((a5.tmod 6) == 3) ((fun z1 => amb z1 (amb (amb z1 z1) (amb z1 z1))) (f24_1 F a9 a10 a12 a13 a14 a15 a16 (fun x29 x30 x31 x32 x33 => f74_1385 F a9 a10 ) )) (cond ((a5.tmod 6) == 4) (f29_1 F a6 a12 a13 a14 a15 a16 (fun x54 => f75_6206 F a6 ) ) (f32_1 F a12 a13 a14 a15 a16 a11.dat (fun x55 x56 => f64_7155 F a11.dat ) )))))
variable [FZ]
def sh20_8056 : Sh := ⟨[.lf (.ptr 0 0), .lf (.nilp), .agg [.int .i64, .int .i64, .int .i64, .int .i64], .agg [.int .i64, .int .i64, .int .u64, .int .u64, .int .i64, .str, .sl .bool]], [some ⟨some false, [.full 1, .full 2, .int .i64, .bool, .int .i64]⟩, some ⟨some false, [.seq .str 0]⟩, some ⟨some false, [.seq (.pair (.int .i64) .str) 0]⟩]⟩
abbrev Y20_8056 := Int → Int → Int → Int → Int → Int → Int → Int → Int → ByteArray → Sl .bool → Int → Bool → Int → List ByteArray → List (Int × ByteArray) → (Bool → Int → Bool → Int → List ByteArray → List (Int × ByteArray) → Option Res) → Option Res
noncomputable def A20_8056 (g : Y20_8056) (d : sh20_8056.den) (K : KF) : Option Res := g d.1.2.2.1.1 d.1.2.2.1.2.1 d.1.2.2.1.2.2.1 d.1.2.2.1.2.2.2.1 d.1.2.2.2.1.1 d.1.2.2.2.1.2.1 d.1.2.2.2.1.2.2.1 d.1.2.2.2.1.2.2.2.1 d.1.2.2.2.1.2.2.2.2.1 d.1.2.2.2.1.2.2.2.2.2.1 d.1.2.2.2.1.2.2.2.2.2.2.1 d.2.1.2.2.2.1 d.2.1.2.2.2.2.1 d.2.1.2.2.2.2.2.1 d.2.2.1.2.1 d.2.2.2.1.2.1 (fun (y0 : Bool) (y1 : Int) (y2 : Bool) (y3 : Int) (y4 : List ByteArray) (y5 : List (Int × ByteArray)) => K [.lf (.bool y0)] [some ⟨false, [.full 1, .full 3, .int .i64 y1, .bool y2, .int .i64 y3]⟩, some ⟨false, [.seq .str 0 y4]⟩, none, some ⟨false, [.seq (.pair (.int .i64) .str) 0 y5]⟩])
noncomputable def S20_8056 (F : Nat) (o : Summ) : Summ := mkS sh20_8056 (fun d K => A20_8056 (f20_8056 F) d K) o
noncomputable def T20_8056 (F : Nat) : FuncId → Option Summ := tab [(24, (S24_1 F noS)), (29, (S29_1 F noS)), (31, (S31_1 F noS)), (32, (S32_1 F noS)), (34, (S34_1 F noS)), (64, (S64_7155 F noS)), (73, (S73_1 F noS)), (74, (S74_1385 F noS)), (75, (S75_6206 F noS)), (79, (S79_4108 F noS)), (80, (S80_3384 F noS)), (81, (S81_1 F noS)), (82, (S82_5478 F noS))]
noncomputable def TB20_8056 (c24_1 : Y24_1) (c29_1 : Y29_1) (c31_1 : Y31_1) (c32_1 : Y32_1) (c34_1 : Y34_1) (c64_7155 : Y64_7155) (c73_1 : Y73_1) (c74_1385 : Y74_1385) (c75_6206 : Y75_6206) (c79_4108 : Y79_4108) (c80_3384 : Y80_3384) (c81_1 : Y81_1) (c82_5478 : Y82_5478) : FuncId → Option Summ := tab [(24, (mkS sh24_1 (fun d K => A24_1 c24_1 d K) noS)), (29, (mkS sh29_1 (fun d K => A29_1 c29_1 d K) noS)), (31, (mkS sh31_1 (fun d K => A31_1 c31_1 d K) noS)), (32, (mkS sh32_1 (fun d K => A32_1 c32_1 d K) noS)), (34, (mkS sh34_1 (fun d K => A34_1 c34_1 d K) noS)), (64, (mkS sh64_7155 (fun d K => A64_7155 c64_7155 d K) noS)), (73, (mkS sh73_1 (fun d K => A73_1 c73_1 d K) noS)), (74, (mkS sh74_1385 (fun d K => A74_1385 c74_1385 d K) noS)), (75, (mkS sh75_6206 (fun d K => A75_6206 c75_6206 d K) noS)), (79, (mkS sh79_4108 (fun d K => A79_4108 c79_4108 d K) noS)), (80, (mkS sh80_3384 (fun d K => A80_3384 c80_3384 d K) noS)), (81, (mkS sh81_1 (fun d K => A81_1 c81_1 d K) noS)), (82, (mkS sh82_5478 (fun d K => A82_5478 c82_5478 d K) noS))]
noncomputable def LT20_8056 (F : Nat) : Nat → Option LoopS := ltab []
theorem E20_8056g (F : Nat) (c24_1 : Y24_1) (c29_1 : Y29_1) (c31_1 : Y31_1) (c32_1 : Y32_1) (c34_1 : Y34_1) (c64_7155 : Y64_7155) (c73_1 : Y73_1) (c74_1385 : Y74_1385) (c75_6206 : Y75_6206) (c79_4108 : Y79_4108) (c80_3384 : Y80_3384) (c81_1 : Y81_1) (c82_5478 : Y82_5478)   (d : sh20_8056.den) (K : KF) : evBody Tryz.prog (TB20_8056 c24_1 c29_1 c31_1 c32_1 c34_1 c64_7155 c73_1 c74_1385 c75_6206 c79_4108 c80_3384 c81_1 c82_5478) (xw [14, 16]) 131 3 (ltab []) [2] false code20 Tryz.f20.results.toList (encT sh20_8056.vs d.1) (encH sh20_8056.h d.2) K = A20_8056 (fun (a1 : Int) (a2 : Int) (a3 : Int) (a4 : Int) (a5 : Int) (a6 : Int) (a7 : Int) (a8 : Int) (a9 : Int) (a10 : ByteArray) (a11 : Sl .bool) (a12 : Int) (a13 : Bool) (a14 : Int) (a15 : List ByteArray) (a16 : List (Int × ByteArray)) (K0 : (Bool → Int → Bool → Int → List ByteArray → List (Int × ByteArray) → Option Res)) => cond ((a5.tmod 6) == 0) (c31_1 a1 a2 a3 a4 a6 a7 a8 a9 a12 a13 a14 a15 a16 (fun x1 x2 x3 x4 x5 x6 x7 x8 x9 x10 => c79_4108 a1 a2 a3 a4 a6 a7 a8 a9 (fun x11 => cond ((x1 == 0) && ((x2 == 0) && ((x3 == 0) && (x4.toList == ByteArray.empty.toList)))) (K0 (x5 == x11) x6 x7 x8 x9 x10) (K0 false x6 x7 x8 x9 x10)) ) ) (cond ((a5.tmod 6) == 1) (c34_1 a1 a2 a3 a4 a8 a12 a13 a14 a15 a16 (fun x12 x13 => c80_3384 a1 a2 a3 a4 a8 (fun x14 x15 => c73_1 x13 x15 (fun x16 => cond x16 (K0 (x12 == x14) a12 a13 a14 a15 a16) (K0 false a12 a13 a14 a15 a16)) ) ) ) (cond ((a5.tmod 6) == 2) ((fun z1 => amb z1 z1) (c81_1 a1 a2 a3 a4 a12 a13 a14 a15 a16 (fun x17 x18 x19 x20 x21 x22 => c82_5478 a1 a2 a3 a4 (K0 (x17 == 12) x18 x19 x20 x21 x22) ) )) (cond ((a5.tmod 6) == 3) ((fun z1 => amb z1 (amb (amb z1 z1) (amb z1 z1))) (c24_1 a9 a10 a12 a13 a14 a15 a16 (fun x29 x30 x31 x32 x33 => c74_1385 a9 a10 ) )) (cond ((a5.tmod 6) == 4) (c29_1 a6 a12 a13 a14 a15 a16 (fun x54 => c75_6206 a6 ) ) (c32_1 a12 a13 a14 a15 a16 a11.dat (fun x55 x56 => c64_7155 a11.dat ) )))))) d K := by kernel_rfl
theorem E20_8056 (F : Nat) (d : sh20_8056.den) (K : KF) : evBody Tryz.prog (T20_8056 F) (xw [14, 16]) 131 3 (LT20_8056 F) [2] false code20 Tryz.f20.results.toList (encT sh20_8056.vs d.1) (encH sh20_8056.h d.2) K = A20_8056 (f20_8056 F) d K := Eq.mp (by kernel_rfl) (E20_8056g F (f24_1 F) (f29_1 F) (f31_1 F) (f32_1 F) (f34_1 F) (f64_7155 F) (f73_1 F) (f74_1385 F) (f75_6206 F) (f79_4108 F) (f80_3384 F) (f81_1 F) (f82_5478 F)   d K)
theorem S20_8056_ok (F : Nat) (o : Summ) (ho : SoundFn Tryz.prog 20 o) : SoundFn Tryz.prog 20 (S20_8056 F o) :=
  soundFn_of (fn := Tryz.f20) (c := code20) rfl rfl (by kernel_rfl) (tab_cons (S24_1_ok F _ (noS_sound enter24)) (tab_cons (S29_1_ok F _ (noS_sound enter29)) (tab_cons (S31_1_ok F _ (noS_sound enter31)) (tab_cons (S32_1_ok F _ (noS_sound enter32)) (tab_cons (S34_1_ok F _ (noS_sound enter34)) (tab_cons (S64_7155_ok F _ (noS_sound enter64)) (tab_cons (S73_1_ok F _ (noS_sound enter73)) (tab_cons (S74_1385_ok F _ (noS_sound enter74)) (tab_cons (S75_6206_ok F _ (noS_sound enter75)) (tab_cons (S79_4108_ok F _ (noS_sound enter79)) (tab_cons (S80_3384_ok F _ (noS_sound enter80)) (tab_cons (S81_1_ok F _ (noS_sound enter81)) (tab_cons (S82_5478_ok F _ (noS_sound enter82)) tab_nil))))))))))))) (by kernel_rfl) (by kernel_rfl) ho (by rw [loops20]; exact loopsOK_nil) (by rw [scopes20]; exact scopesOK_nil) (by rw [ranges20]; exact rangesOK_nil)  (E20_8056 F)
end Go.Proofs.YtlgopekjjkdkiaaGreatDoor.X
end

section
namespace Go.Proofs.YtlgopekjjkdkiaaGreatDoor.X
open Go Go.Proofs.YtlgopekjjkdkiaaGreatDoor.Ev Go.Proofs
set_option linter.unusedVariables false
set_option linter.unusedSectionVars false
/-! disk.Disk).Up -/
noncomputable def f33_568 {β : Type} (F : Nat)  (K0 : Option β) : Option β := K0
variable [FZ]
def sh33_568 : Sh := ⟨[.lf (.nilp)], []⟩
abbrev Y33_568 := (Option Res) → Option Res
noncomputable def A33_568 (g : Y33_568) (d : sh33_568.den) (K : KF) : Option Res := g (K [.lf (.int .i64 1)] [])
noncomputable def S33_568 (F : Nat) (o : Summ) : Summ := mkS sh33_568 (fun d K => A33_568 (f33_568 F) d K) o
noncomputable def T33_568 (F : Nat) : FuncId → Option Summ := tab []
noncomputable def TB33_568  : FuncId → Option Summ := tab []
noncomputable def LT33_568 (F : Nat) : Nat → Option LoopS := ltab []
theorem E33_568g (F : Nat)    (d : sh33_568.den) (K : KF) : evBody Tryz.prog TB33_568 (xw []) 21 0 (ltab []) [] false code33 Tryz.f33.results.toList (encT sh33_568.vs d.1) (encH sh33_568.h d.2) K = A33_568 (fun (K0 : (Option Res)) => K0) d K := by kernel_rfl
theorem E33_568 (F : Nat) (d : sh33_568.den) (K : KF) : evBody Tryz.prog (T33_568 F) (xw []) 21 0 (LT33_568 F) [] false code33 Tryz.f33.results.toList (encT sh33_568.vs d.1) (encH sh33_568.h d.2) K = A33_568 (f33_568 F) d K := Eq.mp (by kernel_rfl) (E33_568g F    d K)
theorem S33_568_ok (F : Nat) (o : Summ) (ho : SoundFn Tryz.prog 33 o) : SoundFn Tryz.prog 33 (S33_568 F o) :=
  soundFn_of (fn := Tryz.f33) (c := code33) rfl rfl (by kernel_rfl) tab_nil (by kernel_rfl) (by kernel_rfl) ho (by rw [loops33]; exact loopsOK_nil) (by rw [scopes33]; exact scopesOK_nil) (by rw [ranges33]; exact rangesOK_nil)  (E33_568 F)
end Go.Proofs.YtlgopekjjkdkiaaGreatDoor.X
end

section
namespace Go.Proofs.YtlgopekjjkdkiaaGreatDoor.X
open Go Go.Proofs.YtlgopekjjkdkiaaGreatDoor.Ev Go.Proofs
set_option linter.unusedVariables false
set_option linter.unusedSectionVars false
/-! pentimentolaw15.do -/
noncomputable def f20_9733 [FZ] {β : Type} (F : Nat) (a1 : Int) (a2 : Int) (a3 : Int) (a4 : Int) (a5 : Int) (a6 : Int) (a7 : Int) (a8 : Int) (a9 : Int) (a10 : ByteArray) (a11 : Sl .bool) (a12 : Int) (a13 : Bool) (a14 : Int) (a15 : List ByteArray) (a16 : List (Int × ByteArray)) (K0 : Bool → Int → Bool → Int → List ByteArray → List (Int × ByteArray) → Option β) : Option β := cond ((a5.tmod 6) == 0) (f31_4108 F a1 a2 a3 a4 a6 a7 a8 a9 (fun x1 => f79_1 F a1 a2 a3 a4 a6 a7 a8 a9 a12 a13 a14 a15 a16 (fun x2 x3 x4 x5 x6 x7 x8 x9 x10 x11 => cond (((0 : Int) == x2) && (((0 : Int) == x3) && (((0 : Int) == x4) && (ByteArray.empty.toList == x5.toList)))) (K0 (x1 == x6) x7 x8 x9 x10 x11) (K0 false x7 x8 x9 x10 x11)) ) ) (cond ((a5.tmod 6) == 1) (f34_3384 F a1 a2 a3 a4 a8 (fun x12 x13 => f80_1 F a1 a2 a3 a4 a8 a12 a13 a14 a15 a16 (fun x14 x15 => f73_1 F x13 x15 (fun x16 => cond x16 (K0 (x12 == x14) a12 a13 a14 a15 a16) (K0 false a12 a13 a14 a15 a16)) ) ) ) (cond ((a5.tmod 6) == 2) ((fun z1 => amb z1 z1) (f81_5478 F a1 a2 a3 a4 (fun x17 => f82_1 F a1 a2 a3 a4 a12 a13 a14 a15 a16 (fun x18 x19 x20 x21 x22 x23 => K0 (x17 == x18) x19 x20 x21 x22 x23) ) )) (cond ((a5.tmod 6) == 3) ((fun z1 => amb z1 (amb (amb z1 z1) (amb z1 z1))) (f24_1385 F a9 a10 (f74_1 F a9 a10 a12 a13 a14 a15 a16 (fun x31 x32 x33 x34 x35 => K0 ((1 : Int) == x31) x32 x33 x34 a15 x35) ) )) (cond ((a5.tmod 6) == 4) (f29_6206 F a6 (f75_1 F a6 a12 a13 a14 a15 a16 (fun x56 => K0 true x56 a13 a14 a15 a16) ) ) (f32_7155 F a11.dat (f64_1 F a12 a13 a14 a15 a16 a11.dat (fun x57 x58 => f33_568 F  (f76_1 F (-1) true a14 x57 x58 (fun x59 x60 x61 x62 => K0 ((1 : Int) == x59) x60 x61 a14 x57 x62) ) ) ) )))))
variable [FZ]
def sh20_9733 : Sh := ⟨[.lf (.nilp), .lf (.ptr 0 0), .agg [.int .i64, .int .i64, .int .i64, .int .i64], .agg [.int .i64, .int .i64, .int .u64, .int .u64, .int .i64, .str, .sl .bool]], [some ⟨some false, [.full 1, .full 2, .int .i64, .bool, .int .i64]⟩, some ⟨some false, [.seq .str 0]⟩, some ⟨some false, [.seq (.pair (.int .i64) .str) 0]⟩]⟩
abbrev Y20_9733 := Int → Int → Int → Int → Int → Int → Int → Int → Int → ByteArray → Sl .bool → Int → Bool → Int → List ByteArray → List (Int × ByteArray) → (Bool → Int → Bool → Int → List ByteArray → List (Int × ByteArray) → Option Res) → Option Res
noncomputable def A20_9733 (g : Y20_9733) (d : sh20_9733.den) (K : KF) : Option Res := g d.1.2.2.1.1 d.1.2.2.1.2.1 d.1.2.2.1.2.2.1 d.1.2.2.1.2.2.2.1 d.1.2.2.2.1.1 d.1.2.2.2.1.2.1 d.1.2.2.2.1.2.2.1 d.1.2.2.2.1.2.2.2.1 d.1.2.2.2.1.2.2.2.2.1 d.1.2.2.2.1.2.2.2.2.2.1 d.1.2.2.2.1.2.2.2.2.2.2.1 d.2.1.2.2.2.1 d.2.1.2.2.2.2.1 d.2.1.2.2.2.2.2.1 d.2.2.1.2.1 d.2.2.2.1.2.1 (fun (y0 : Bool) (y1 : Int) (y2 : Bool) (y3 : Int) (y4 : List ByteArray) (y5 : List (Int × ByteArray)) => K [.lf (.bool y0)] [some ⟨false, [.full 1, .full 3, .int .i64 y1, .bool y2, .int .i64 y3]⟩, some ⟨false, [.seq .str 0 y4]⟩, none, some ⟨false, [.seq (.pair (.int .i64) .str) 0 y5]⟩])
noncomputable def S20_9733 (F : Nat) (o : Summ) : Summ := mkS sh20_9733 (fun d K => A20_9733 (f20_9733 F) d K) o
noncomputable def T20_9733 (F : Nat) : FuncId → Option Summ := tab [(24, (S24_1385 F noS)), (29, (S29_6206 F noS)), (31, (S31_4108 F noS)), (32, (S32_7155 F noS)), (33, (S33_568 F noS)), (34, (S34_3384 F noS)), (64, (S64_1 F noS)), (73, (S73_1 F noS)), (74, (S74_1 F noS)), (75, (S75_1 F noS)), (76, (S76_1 F noS)), (79, (S79_1 F noS)), (80, (S80_1 F noS)), (81, (S81_5478 F noS)), (82, (S82_1 F noS))]
noncomputable def TB20_9733 (c24_1385 : Y24_1385) (c29_6206 : Y29_6206) (c31_4108 : Y31_4108) (c32_7155 : Y32_7155) (c33_568 : Y33_568) (c34_3384 : Y34_3384) (c64_1 : Y64_1) (c73_1 : Y73_1) (c74_1 : Y74_1) (c75_1 : Y75_1) (c76_1 : Y76_1) (c79_1 : Y79_1) (c80_1 : Y80_1) (c81_5478 : Y81_5478) (c82_1 : Y82_1) : FuncId → Option Summ := tab [(24, (mkS sh24_1385 (fun d K => A24_1385 c24_1385 d K) noS)), (29, (mkS sh29_6206 (fun d K => A29_6206 c29_6206 d K) noS)), (31, (mkS sh31_4108 (fun d K => A31_4108 c31_4108 d K) noS)), (32, (mkS sh32_7155 (fun d K => A32_7155 c32_7155 d K) noS)), (33, (mkS sh33_568 (fun d K => A33_568 c33_568 d K) noS)), (34, (mkS sh34_3384 (fun d K => A34_3384 c34_3384 d K) noS)), (64, (mkS sh64_1 (fun d K => A64_1 c64_1 d K) noS)), (73, (mkS sh73_1 (fun d K => A73_1 c73_1 d K) noS)), (74, (mkS sh74_1 (fun d K => A74_1 c74_1 d K) noS)), (75, (mkS sh75_1 (fun d K => A75_1 c75_1 d K) noS)), (76, (mkS sh76_1 (fun d K => A76_1 c76_1 d K) noS)), (79, (mkS sh79_1 (fun d K => A79_1 c79_1 d K) noS)), (80, (mkS sh80_1 (fun d K => A80_1 c80_1 d K) noS)), (81, (mkS sh81_5478 (fun d K => A81_5478 c81_5478 d K) noS)), (82, (mkS sh82_1 (fun d K => A82_1 c82_1 d K) noS))]
noncomputable def LT20_9733 (F : Nat) : Nat → Option LoopS := ltab []
theorem E20_9733g (F : Nat) (c24_1385 : Y24_1385) (c29_6206 : Y29_6206) (c31_4108 : Y31_4108) (c32_7155 : Y32_7155) (c33_568 : Y33_568) (c34_3384 : Y34_3384) (c64_1 : Y64_1) (c73_1 : Y73_1) (c74_1 : Y74_1) (c75_1 : Y75_1) (c76_1 : Y76_1) (c79_1 : Y79_1) (c80_1 : Y80_1) (c81_5478 : Y81_5478) (c82_1 : Y82_1)   (d : sh20_9733.den) (K : KF) : evBody Tryz.prog (TB20_9733 c24_1385 c29_6206 c31_4108 c32_7155 c33_568 c34_3384 c64_1 c73_1 c74_1 c75_1 c76_1 c79_1 c80_1 c81_5478 c82_1) (xw [14, 16]) 131 3 (ltab []) [2] false code20 Tryz.f20.results.toList (encT sh20_9733.vs d.1) (encH sh20_9733.h d.2) K = A20_9733 (fun (a1 : Int) (a2 : Int) (a3 : Int) (a4 : Int) (a5 : Int) (a6 : Int) (a7 : Int) (a8 : Int) (a9 : Int) (a10 : ByteArray) (a11 : Sl .bool) (a12 : Int) (a13 : Bool) (a14 : Int) (a15 : List ByteArray) (a16 : List (Int × ByteArray)) (K0 : (Bool → Int → Bool → Int → List ByteArray → List (Int × ByteArray) → Option Res)) => cond ((a5.tmod 6) == 0) (c31_4108 a1 a2 a3 a4 a6 a7 a8 a9 (fun x1 => c79_1 a1 a2 a3 a4 a6 a7 a8 a9 a12 a13 a14 a15 a16 (fun x2 x3 x4 x5 x6 x7 x8 x9 x10 x11 => cond (((0 : Int) == x2) && (((0 : Int) == x3) && (((0 : Int) == x4) && (ByteArray.empty.toList == x5.toList)))) (K0 (x1 == x6) x7 x8 x9 x10 x11) (K0 false x7 x8 x9 x10 x11)) ) ) (cond ((a5.tmod 6) == 1) (c34_3384 a1 a2 a3 a4 a8 (fun x12 x13 => c80_1 a1 a2 a3 a4 a8 a12 a13 a14 a15 a16 (fun x14 x15 => c73_1 x13 x15 (fun x16 => cond x16 (K0 (x12 == x14) a12 a13 a14 a15 a16) (K0 false a12 a13 a14 a15 a16)) ) ) ) (cond ((a5.tmod 6) == 2) ((fun z1 => amb z1 z1) (c81_5478 a1 a2 a3 a4 (fun x17 => c82_1 a1 a2 a3 a4 a12 a13 a14 a15 a16 (fun x18 x19 x20 x21 x22 x23 => K0 (x17 == x18) x19 x20 x21 x22 x23) ) )) (cond ((a5.tmod 6) == 3) ((fun z1 => amb z1 (amb (amb z1 z1) (amb z1 z1))) (c24_1385 a9 a10 (c74_1 a9 a10 a12 a13 a14 a15 a16 (fun x31 x32 x33 x34 x35 => K0 ((1 : Int) == x31) x32 x33 x34 a15 x35) ) )) (cond ((a5.tmod 6) == 4) (c29_6206 a6 (c75_1 a6 a12 a13 a14 a15 a16 (fun x56 => K0 true x56 a13 a14 a15 a16) ) ) (c32_7155 a11.dat (c64_1 a12 a13 a14 a15 a16 a11.dat (fun x57 x58 => c33_568  (c76_1 (-1) true a14 x57 x58 (fun x59 x60 x61 x62 => K0 ((1 : Int) == x59) x60 x61 a14 x57 x62) ) ) ) )))))) d K := by kernel_rfl
theorem E20_9733 (F : Nat) (d : sh20_9733.den) (K : KF) : evBody Tryz.prog (T20_9733 F) (xw [14, 16]) 131 3 (LT20_9733 F) [2] false code20 Tryz.f20.results.toList (encT sh20_9733.vs d.1) (encH sh20_9733.h d.2) K = A20_9733 (f20_9733 F) d K := Eq.mp (by kernel_rfl) (E20_9733g F (f24_1385 F) (f29_6206 F) (f31_4108 F) (f32_7155 F) (f33_568 F) (f34_3384 F) (f64_1 F) (f73_1 F) (f74_1 F) (f75_1 F) (f76_1 F) (f79_1 F) (f80_1 F) (f81_5478 F) (f82_1 F)   d K)
theorem S20_9733_ok (F : Nat) (o : Summ) (ho : SoundFn Tryz.prog 20 o) : SoundFn Tryz.prog 20 (S20_9733 F o) :=
  soundFn_of (fn := Tryz.f20) (c := code20) rfl rfl (by kernel_rfl) (tab_cons (S24_1385_ok F _ (noS_sound enter24)) (tab_cons (S29_6206_ok F _ (noS_sound enter29)) (tab_cons (S31_4108_ok F _ (noS_sound enter31)) (tab_cons (S32_7155_ok F _ (noS_sound enter32)) (tab_cons (S33_568_ok F _ (noS_sound enter33)) (tab_cons (S34_3384_ok F _ (noS_sound enter34)) (tab_cons (S64_1_ok F _ (noS_sound enter64)) (tab_cons (S73_1_ok F _ (noS_sound enter73)) (tab_cons (S74_1_ok F _ (noS_sound enter74)) (tab_cons (S75_1_ok F _ (noS_sound enter75)) (tab_cons (S76_1_ok F _ (noS_sound enter76)) (tab_cons (S79_1_ok F _ (noS_sound enter79)) (tab_cons (S80_1_ok F _ (noS_sound enter80)) (tab_cons (S81_5478_ok F _ (noS_sound enter81)) (tab_cons (S82_1_ok F _ (noS_sound enter82)) tab_nil))))))))))))))) (by kernel_rfl) (by kernel_rfl) ho (by rw [loops20]; exact loopsOK_nil) (by rw [scopes20]; exact scopesOK_nil) (by rw [ranges20]; exact rangesOK_nil)  (E20_9733 F)
end Go.Proofs.YtlgopekjjkdkiaaGreatDoor.X
end
