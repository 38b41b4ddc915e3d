/- Merged: EvF13, EvF7v1385, EvF13v2761, EvF14, EvF48, EvF24, EvF40, EvF41, EvF29, EvF43, EvF8, EvF15, EvF16, EvF64, EvF44, EvF17, EvF18, EvF19, EvF45, EvF20, EvF21, EvF4, EvF66, EvF46, EvF22, EvF47, EvF23, EvF5, EvF6, EvF8v1385, EvF9, EvF9v7155, EvF3, PureW, DiskN, DiskM. -/
import Derived.Test.YtillbabmlfjegaaGreatDoorMDirtyLoadsCard3
import Derived.Test.YtillbabmlfjegaaGreatDoorProg
import Derived.KernelRfl
import Derived.Test.YtillbabmlfjegaaGreatDoorMDirtyLoadsCard4
section
namespace Go.Proofs.YtillbabmlfjegaaGreatDoor.X
open Go Go.Proofs.YtillbabmlfjegaaGreatDoor.Ev Go.Proofs
set_option linter.unusedVariables false
set_option linter.unusedSectionVars false
/-! dirty.Save -/
noncomputable def f13_1 {β : Type} (F : Nat) (a1 : List Int) (a2 : List Int) (a3 : Int) (a4 : Int) (a5 : Bool) (a6 : Int) (a7 : List ByteArray) (a8 : List (Int × ByteArray)) (K0 : Int → Int → Bool → Int → List ByteArray → List (Int × ByteArray) → Option β) : Option β := f38_1 F a1 a2 a3 (fun x1 => f37_1 F 5 x1 (fun x2 x3 => cond (x3 != 0) (K0 x3 a4 a5 a6 a7 a8) (f7_1 F 5 x2 a4 a5 a6 a7 a8 (fun x4 x5 x6 x7 x8 => cond (x4 != 0) (K0 x4 x5 x6 x7 a7 x8) (f39_1 F x5 x6 x7 a7 x8 (fun x9 x10 x11 x12 x13 x14 => K0 x9 x10 x11 x12 x13 x14) )) )) ) 
variable [FZ]
def sh13_1 : Sh := ⟨[.lf (.ptr 0 0), .agg [.seq (.int .u64) 2, .seq (.int .u64) 2, .int .u64]], [some ⟨some false, [.full 1, .full 2, .int .i64, .bool, .int .i64]⟩, some ⟨some false, [.seq .str 0]⟩, some ⟨some false, [.seq (.pair (.int .i64) .str) 0]⟩]⟩
noncomputable def S13_1 (F : Nat) (o : Summ) : Summ := mkS sh13_1 (fun d K => f13_1 F d.1.2.1.1 d.1.2.1.2.1 d.1.2.1.2.2.1 d.2.1.2.2.2.1 d.2.1.2.2.2.2.1 d.2.1.2.2.2.2.2.1 d.2.2.1.2.1 d.2.2.2.1.2.1 (fun (y0 : Int) (y1 : Int) (y2 : Bool) (y3 : Int) (y4 : List ByteArray) (y5 : List (Int × ByteArray)) => K [.lf (.int .i64 y0)] [some ⟨false, [.full 1, .full 3, .int .i64 y1, .bool y2, .int .i64 y3]⟩, some ⟨false, [.seq .str 0 y4]⟩, none, some ⟨false, [.seq (.pair (.int .i64) .str) 0 y5]⟩])) o
noncomputable def code13 : Code := bodyOf Tryz.f13
theorem scopes13 : scopesOf code13 = [] := by kernel_rfl
theorem ranges13 : rangesOf code13 = [] := by kernel_rfl
theorem loops13 : loopsOf code13 = [] := by kernel_rfl
theorem enter13 : ∀ args w, (callFunc 13 args).run Tryz.prog w = .ok (.enter 13 args) w := enter_of (fn := Tryz.f13) (by kernel_rfl) (by kernel_rfl) (by kernel_rfl)
noncomputable def T13_1 (F : Nat) : FuncId → Option Summ := tab [(7, (S7_1 F noS)), (37, (S37_1 F noS)), (38, (S38_1 F noS)), (39, (S39_1 F noS))]
noncomputable def LT13_1 (F : Nat) : Nat → Option LoopS := ltab []
theorem E13_1g (F : Nat) (c7_1 : Int → ByteArray → Int → Bool → Int → List ByteArray → List (Int × ByteArray) → (Int → Int → Bool → Int → List (Int × ByteArray) → Option Res) → Option Res) (c37_1 : Int → ByteArray → (ByteArray → Int → Option Res) → Option Res) (c38_1 : List Int → List Int → Int → (ByteArray → Option Res) → Option Res) (c39_1 : Int → Bool → Int → List ByteArray → List (Int × ByteArray) → (Int → Int → Bool → Int → List ByteArray → List (Int × ByteArray) → Option Res) → Option Res)   (d : sh13_1.den) (K : KF) : evBody Tryz.prog (tab [(7, (mkS sh7_1 (fun d K => c7_1 d.1.2.1 d.1.2.2.1 d.2.1.2.2.2.1 d.2.1.2.2.2.2.1 d.2.1.2.2.2.2.2.1 d.2.2.1.2.1 d.2.2.2.1.2.1 (fun (y0 : Int) (y1 : Int) (y2 : Bool) (y3 : Int) (y5 : List (Int × ByteArray)) => K [.lf (.int .i64 y0)] [some ⟨false, [.full 1, .full 3, .int .i64 y1, .bool y2, .int .i64 y3]⟩, some ⟨d.2.2.1.1, [.seq .str 0 d.2.2.1.2.1]⟩, none, some ⟨false, [.seq (.pair (.int .i64) .str) 0 y5]⟩])) noS)), (37, (mkS sh37_1 (fun d K => c37_1 d.1.1 d.1.2.1 (fun (y0 : ByteArray) (y1 : Int) => K [.lf (.str y0), .lf (.int .i64 y1)] [])) noS)), (38, (mkS sh38_1 (fun d K => c38_1 d.1.1.1 d.1.1.2.1 d.1.1.2.2.1 (fun (y0 : ByteArray) => K [.lf (.str y0)] [])) noS)), (39, (mkS sh39_1 (fun d K => c39_1 d.2.1.2.2.2.1 d.2.1.2.2.2.2.1 d.2.1.2.2.2.2.2.1 d.2.2.1.2.1 d.2.2.2.1.2.1 (fun (y0 : Int) (y1 : Int) (y2 : Bool) (y3 : Int) (y4 : List ByteArray) (y5 : List (Int × ByteArray)) => K [.lf (.int .i64 y0)] [some ⟨false, [.full 1, .full 3, .int .i64 y1, .bool y2, .int .i64 y3]⟩, some ⟨false, [.seq .str 0 y4]⟩, none, some ⟨false, [.seq (.pair (.int .i64) .str) 0 y5]⟩])) noS))]) (xw []) 25 3 (ltab []) [2] code13 Tryz.f13.results.toList (encT sh13_1.vs d.1) (encH sh13_1.h d.2) K = (fun (a1 : List Int) (a2 : List Int) (a3 : Int) (a4 : Int) (a5 : Bool) (a6 : Int) (a7 : List ByteArray) (a8 : List (Int × ByteArray)) (K0 : (Int → Int → Bool → Int → List ByteArray → List (Int × ByteArray) → Option Res)) => c38_1 a1 a2 a3 (fun x1 => c37_1 5 x1 (fun x2 x3 => cond (x3 != 0) (K0 x3 a4 a5 a6 a7 a8) (c7_1 5 x2 a4 a5 a6 a7 a8 (fun x4 x5 x6 x7 x8 => cond (x4 != 0) (K0 x4 x5 x6 x7 a7 x8) (c39_1 x5 x6 x7 a7 x8 (fun x9 x10 x11 x12 x13 x14 => K0 x9 x10 x11 x12 x13 x14) )) )) ) ) d.1.2.1.1 d.1.2.1.2.1 d.1.2.1.2.2.1 d.2.1.2.2.2.1 d.2.1.2.2.2.2.1 d.2.1.2.2.2.2.2.1 d.2.2.1.2.1 d.2.2.2.1.2.1 (fun (y0 : Int) (y1 : Int) (y2 : Bool) (y3 : Int) (y4 : List ByteArray) (y5 : List (Int × ByteArray)) => K [.lf (.int .i64 y0)] [some ⟨false, [.full 1, .full 3, .int .i64 y1, .bool y2, .int .i64 y3]⟩, some ⟨false, [.seq .str 0 y4]⟩, none, some ⟨false, [.seq (.pair (.int .i64) .str) 0 y5]⟩]) := by kernel_rfl
theorem E13_1 (F : Nat) (d : sh13_1.den) (K : KF) : evBody Tryz.prog (T13_1 F) (xw []) 25 3 (LT13_1 F) [2] code13 Tryz.f13.results.toList (encT sh13_1.vs d.1) (encH sh13_1.h d.2) K = f13_1 F d.1.2.1.1 d.1.2.1.2.1 d.1.2.1.2.2.1 d.2.1.2.2.2.1 d.2.1.2.2.2.2.1 d.2.1.2.2.2.2.2.1 d.2.2.1.2.1 d.2.2.2.1.2.1 (fun (y0 : Int) (y1 : Int) (y2 : Bool) (y3 : Int) (y4 : List ByteArray) (y5 : List (Int × ByteArray)) => K [.lf (.int .i64 y0)] [some ⟨false, [.full 1, .full 3, .int .i64 y1, .bool y2, .int .i64 y3]⟩, some ⟨false, [.seq .str 0 y4]⟩, none, some ⟨false, [.seq (.pair (.int .i64) .str) 0 y5]⟩]) := Eq.mp (by kernel_rfl) (E13_1g F (f7_1 F) (f37_1 F) (f38_1 F) (f39_1 F)   d K)
theorem S13_1_ok (F : Nat) (o : Summ) (ho : SoundFn Tryz.prog 13 o) : SoundFn Tryz.prog 13 (S13_1 F o) :=
  soundFn_of (fn := Tryz.f13) (c := code13) rfl rfl (by kernel_rfl) (tab_cons (S7_1_ok F _ (noS_sound enter7)) (tab_cons (S37_1_ok F _ (noS_sound enter37)) (tab_cons (S38_1_ok F _ (noS_sound enter38)) (tab_cons (S39_1_ok F _ (noS_sound enter39)) tab_nil)))) (by kernel_rfl) (by kernel_rfl) ho (by rw [loops13]; exact loopsOK_nil) (by rw [scopes13]; exact scopesOK_nil) (by rw [ranges13]; exact rangesOK_nil) (E13_1 F)
end Go.Proofs.YtillbabmlfjegaaGreatDoor.X
end

section
namespace Go.Proofs.YtillbabmlfjegaaGreatDoor.X
open Go Go.Proofs.YtillbabmlfjegaaGreatDoor.Ev Go.Proofs
set_option linter.unusedVariables false
set_option linter.unusedSectionVars false
/-! disk.Disk).Write -/
noncomputable def f7_1385 {β : Type} (F : Nat) (a1 : Int) (a2 : ByteArray) (K0 : Option β) : Option β := K0
variable [FZ]
def sh7_1385 : Sh := ⟨[.lf (.nilp), .lf (.int .i64), .lf (.str)], []⟩
noncomputable def S7_1385 (F : Nat) (o : Summ) : Summ := mkS sh7_1385 (fun d K => f7_1385 F d.1.2.1 d.1.2.2.1 (K [.lf (.int .i64 1)] [])) o
noncomputable def T7_1385 (F : Nat) : FuncId → Option Summ := tab []
noncomputable def LT7_1385 (F : Nat) : Nat → Option LoopS := ltab []
theorem E7_1385g (F : Nat)    (d : sh7_1385.den) (K : KF) : evBody Tryz.prog (tab []) (xw []) 40 0 (ltab []) [] code7 Tryz.f7.results.toList (encT sh7_1385.vs d.1) (encH sh7_1385.h d.2) K = (fun (a1 : Int) (a2 : ByteArray) (K0 : (Option Res)) => K0) d.1.2.1 d.1.2.2.1 (K [.lf (.int .i64 1)] []) := by kernel_rfl
theorem E7_1385 (F : Nat) (d : sh7_1385.den) (K : KF) : evBody Tryz.prog (T7_1385 F) (xw []) 40 0 (LT7_1385 F) [] code7 Tryz.f7.results.toList (encT sh7_1385.vs d.1) (encH sh7_1385.h d.2) K = f7_1385 F d.1.2.1 d.1.2.2.1 (K [.lf (.int .i64 1)] []) := Eq.mp (by kernel_rfl) (E7_1385g F    d K)
theorem S7_1385_ok (F : Nat) (o : Summ) (ho : SoundFn Tryz.prog 7 o) : SoundFn Tryz.prog 7 (S7_1385 F o) :=
  soundFn_of (fn := Tryz.f7) (c := code7) rfl rfl (by kernel_rfl) tab_nil (by kernel_rfl) (by kernel_rfl) ho (by rw [loops7]; exact loopsOK_nil) (by rw [scopes7]; exact scopesOK_nil) (by rw [ranges7]; exact rangesOK_nil) (E7_1385 F)
end Go.Proofs.YtillbabmlfjegaaGreatDoor.X
end

section
namespace Go.Proofs.YtillbabmlfjegaaGreatDoor.X
open Go Go.Proofs.YtillbabmlfjegaaGreatDoor.Ev Go.Proofs
set_option linter.unusedVariables false
set_option linter.unusedSectionVars false
/-! dirty.Save -/
noncomputable def f13_2761 {β : Type} (F : Nat) (a1 : List Int) (a2 : List Int) (a3 : Int) (K0 : Int → Option β) : Option β := f38_1 F a1 a2 a3 (fun x1 => f37_1 F 5 x1 (fun x2 x3 => cond (x3 != 0) (K0 x3) (f7_1385 F 5 x2 (K0 1) )) ) 
variable [FZ]
def sh13_2761 : Sh := ⟨[.lf (.nilp), .agg [.seq (.int .u64) 2, .seq (.int .u64) 2, .int .u64]], []⟩
noncomputable def S13_2761 (F : Nat) (o : Summ) : Summ := mkS sh13_2761 (fun d K => f13_2761 F d.1.2.1.1 d.1.2.1.2.1 d.1.2.1.2.2.1 (fun (y0 : Int) => K [.lf (.int .i64 y0)] [])) o
noncomputable def T13_2761 (F : Nat) : FuncId → Option Summ := tab [(7, (S7_1385 F noS)), (37, (S37_1 F noS)), (38, (S38_1 F noS))]
noncomputable def LT13_2761 (F : Nat) : Nat → Option LoopS := ltab []
theorem E13_2761g (F : Nat) (c7_1385 : Int → ByteArray → (Option Res) → Option Res) (c37_1 : Int → ByteArray → (ByteArray → Int → Option Res) → Option Res) (c38_1 : List Int → List Int → Int → (ByteArray → Option Res) → Option Res)   (d : sh13_2761.den) (K : KF) : evBody Tryz.prog (tab [(7, (mkS sh7_1385 (fun d K => c7_1385 d.1.2.1 d.1.2.2.1 (K [.lf (.int .i64 1)] [])) noS)), (37, (mkS sh37_1 (fun d K => c37_1 d.1.1 d.1.2.1 (fun (y0 : ByteArray) (y1 : Int) => K [.lf (.str y0), .lf (.int .i64 y1)] [])) noS)), (38, (mkS sh38_1 (fun d K => c38_1 d.1.1.1 d.1.1.2.1 d.1.1.2.2.1 (fun (y0 : ByteArray) => K [.lf (.str y0)] [])) noS))]) (xw []) 25 0 (ltab []) [] code13 Tryz.f13.results.toList (encT sh13_2761.vs d.1) (encH sh13_2761.h d.2) K = (fun (a1 : List Int) (a2 : List Int) (a3 : Int) (K0 : (Int → Option Res)) => c38_1 a1 a2 a3 (fun x1 => c37_1 5 x1 (fun x2 x3 => cond (x3 != 0) (K0 x3) (c7_1385 5 x2 (K0 1) )) ) ) d.1.2.1.1 d.1.2.1.2.1 d.1.2.1.2.2.1 (fun (y0 : Int) => K [.lf (.int .i64 y0)] []) := by kernel_rfl
theorem E13_2761 (F : Nat) (d : sh13_2761.den) (K : KF) : evBody Tryz.prog (T13_2761 F) (xw []) 25 0 (LT13_2761 F) [] code13 Tryz.f13.results.toList (encT sh13_2761.vs d.1) (encH sh13_2761.h d.2) K = f13_2761 F d.1.2.1.1 d.1.2.1.2.1 d.1.2.1.2.2.1 (fun (y0 : Int) => K [.lf (.int .i64 y0)] []) := Eq.mp (by kernel_rfl) (E13_2761g F (f7_1385 F) (f37_1 F) (f38_1 F)   d K)
theorem S13_2761_ok (F : Nat) (o : Summ) (ho : SoundFn Tryz.prog 13 o) : SoundFn Tryz.prog 13 (S13_2761 F o) :=
  soundFn_of (fn := Tryz.f13) (c := code13) rfl rfl (by kernel_rfl) (tab_cons (S7_1385_ok F _ (noS_sound enter7)) (tab_cons (S37_1_ok F _ (noS_sound enter37)) (tab_cons (S38_1_ok F _ (noS_sound enter38)) tab_nil))) (by kernel_rfl) (by kernel_rfl) ho (by rw [loops13]; exact loopsOK_nil) (by rw [scopes13]; exact scopesOK_nil) (by rw [ranges13]; exact rangesOK_nil) (E13_2761 F)
end Go.Proofs.YtillbabmlfjegaaGreatDoor.X
end

section
namespace Go.Proofs.YtillbabmlfjegaaGreatDoor.X
open Go Go.Proofs.YtillbabmlfjegaaGreatDoor.Ev Go.Proofs
set_option linter.unusedVariables false
set_option linter.unusedSectionVars false
/-! pentimentolaw11.given -/
noncomputable def f14_1 {β : Type} (F : Nat) (a1 : List Int) (a2 : List Int) (a3 : Int) (K0 : Option β) : Option β := K0
variable [FZ]
def sh14_1 : Sh := ⟨[.agg [.seq (.int .u64) 2, .seq (.int .u64) 2, .int .u64]], []⟩
noncomputable def S14_1 (F : Nat) (o : Summ) : Summ := mkS sh14_1 (fun d K => f14_1 F d.1.1.1 d.1.1.2.1 d.1.1.2.2.1 (K [.agg [.seq (.int .u64) 2 d.1.1.1, .seq (.int .u64) 2 d.1.1.2.1, .int .u64 d.1.1.2.2.1]] [])) o
noncomputable def code14 : Code := bodyOf Tryz.f14
theorem scopes14 : scopesOf code14 = [] := by kernel_rfl
theorem ranges14 : rangesOf code14 = [] := by kernel_rfl
theorem loops14 : loopsOf code14 = [] := by kernel_rfl
theorem enter14 : ∀ args w, (callFunc 14 args).run Tryz.prog w = .ok (.enter 14 args) w := enter_of (fn := Tryz.f14) (by kernel_rfl) (by kernel_rfl) (by kernel_rfl)
noncomputable def T14_1 (F : Nat) : FuncId → Option Summ := tab []
noncomputable def LT14_1 (F : Nat) : Nat → Option LoopS := ltab []
theorem E14_1g (F : Nat)    (d : sh14_1.den) (K : KF) : evBody Tryz.prog (tab []) (xw []) 10 0 (ltab []) [] code14 Tryz.f14.results.toList (encT sh14_1.vs d.1) (encH sh14_1.h d.2) K = (fun (a1 : List Int) (a2 : List Int) (a3 : Int) (K0 : (Option Res)) => K0) d.1.1.1 d.1.1.2.1 d.1.1.2.2.1 (K [.agg [.seq (.int .u64) 2 d.1.1.1, .seq (.int .u64) 2 d.1.1.2.1, .int .u64 d.1.1.2.2.1]] []) := by kernel_rfl
theorem E14_1 (F : Nat) (d : sh14_1.den) (K : KF) : evBody Tryz.prog (T14_1 F) (xw []) 10 0 (LT14_1 F) [] code14 Tryz.f14.results.toList (encT sh14_1.vs d.1) (encH sh14_1.h d.2) K = f14_1 F d.1.1.1 d.1.1.2.1 d.1.1.2.2.1 (K [.agg [.seq (.int .u64) 2 d.1.1.1, .seq (.int .u64) 2 d.1.1.2.1, .int .u64 d.1.1.2.2.1]] []) := Eq.mp (by kernel_rfl) (E14_1g F    d K)
theorem S14_1_ok (F : Nat) (o : Summ) (ho : SoundFn Tryz.prog 14 o) : SoundFn Tryz.prog 14 (S14_1 F o) :=
  soundFn_of (fn := Tryz.f14) (c := code14) rfl rfl (by kernel_rfl) tab_nil (by kernel_rfl) (by kernel_rfl) ho (by rw [loops14]; exact loopsOK_nil) (by rw [scopes14]; exact scopesOK_nil) (by rw [ranges14]; exact rangesOK_nil) (E14_1 F)
end Go.Proofs.YtillbabmlfjegaaGreatDoor.X
end

section
namespace Go.Proofs.YtillbabmlfjegaaGreatDoor.X
open Go Go.Proofs.YtillbabmlfjegaaGreatDoor.Ev Go.Proofs
set_option linter.unusedVariables false
set_option linter.unusedSectionVars false
/-! pentimentoref05.Fill -/
noncomputable def f48_1_l3 {β : Type} (F : Nat) (v1 : Int) (K0 : List Int → Option β) : Nat → Int → List Int → Option β
  | 0, _, _ => none
  | k + 1, v2, v3 => cond (decide (v2 < 64)) (cond (decide ((v3.length + 1) * 1 ≤ 70368744177664)) (f48_1_l3 F v1 K0 k (IntKind.i64.wrap (v2 + 1)) (v3 ++ [v1])) none) (K0 v3)
noncomputable def f48_1 {β : Type} (F : Nat) (a1 : Int) (K0 : ByteArray → Option β) : Option β := f48_1_l3 F a1 (fun x4 => K0 (ofInts x4)) F 0 []
variable [FZ]
def sh48_1 : Sh := ⟨[.lf (.int .u8)], []⟩
noncomputable def S48_1 (F : Nat) (o : Summ) : Summ := mkS sh48_1 (fun d K => f48_1 F d.1.1 (fun (y0 : ByteArray) => K [.lf (.str y0)] [])) o
noncomputable def code48 : Code := bodyOf Tryz.f48
noncomputable def b48_0 : Code := cB (cB (cR (cL (cR (cR (code48))))))
theorem scopes48 : scopesOf code48 = [] := by kernel_rfl
theorem ranges48 : rangesOf code48 = [] := by kernel_rfl
theorem loops48 : loopsOf code48 = [b48_0] := by kernel_rfl
theorem enter48 : ∀ args w, (callFunc 48 args).run Tryz.prog w = .ok (.enter 48 args) w := enter_of (fn := Tryz.f48) (by kernel_rfl) (by kernel_rfl) (by kernel_rfl)
noncomputable def T48_1 (F : Nat) : FuncId → Option Summ := tab []
def sh48_1_l3 : Sh := ⟨[.lf (.int .u8), .lf (.full 0), .lf (.int .i64)], [some ⟨some false, [.seq (.int .u8) 0]⟩]⟩
noncomputable def G48_1_3 (F k : Nat) : LoopS := mkG sh48_1_l3 [0, 3, 4] (outT [(.exit 0, [3])]) (fun d K => f48_1_l3 F d.1.1 (fun (y0 : List Int) => K (.exit 0) [.tv (.lf (.full 0))] [some ⟨false, [.seq (.int .u8) 0 y0]⟩]) k d.1.2.2.1 d.2.1.2.1) []
noncomputable def LT48_1 (F : Nat) : Nat → Option LoopS := ltab [(3, G48_1_3 F F)]
theorem L48_1_l3g (F k : Nat)   (l3 : Int → (List Int → Option Res) → Nat → Int → List Int → Option Res) (X3 : LoopS) (d : sh48_1_l3.den) (K : KL) : (fun (v1 : Int) (K0 : (List Int → Option Res)) (k : Nat) (v2 : Int) (v3 : List Int) => cond (decide (v2 < 64)) (cond (decide ((v3.length + 1) * 1 ≤ 70368744177664)) (l3 v1 K0 k (IntKind.i64.wrap (v2 + 1)) (v3 ++ [v1])) none) (K0 v3)) d.1.1 (fun (y0 : List Int) => K (.exit 0) [.tv (.lf (.full 0))] [some ⟨false, [.seq (.int .u8) 0 y0]⟩]) k d.1.2.2.1 d.2.1.2.1 = roundOf Tryz.prog (tab []) (xw []) 15 0 (ltab [(3, X3)]) (mkG sh48_1_l3 [0, 3, 4] (outT [(.exit 0, [3])]) (fun d K => l3 d.1.1 (fun (y0 : List Int) => K (.exit 0) [.tv (.lf (.full 0))] [some ⟨false, [.seq (.int .u8) 0 y0]⟩]) k d.1.2.2.1 d.2.1.2.1) []) b48_0 (encT sh48_1_l3.vs d.1) (encH sh48_1_l3.h d.2) K := by kernel_rfl
theorem L48_1_3 (F : Nat) : LoopOK Tryz.prog (T48_1 F) (xw []) 15 0 (LT48_1 F) (G48_1_3 F F) b48_0 :=
  loopOK_of (s := sh48_1_l3) (live := [0, 3, 4]) (out := (outT [(.exit 0, [3])])) (mv := []) (fun k d K => f48_1_l3 F d.1.1 (fun (y0 : List Int) => K (.exit 0) [.tv (.lf (.full 0))] [some ⟨false, [.seq (.int .u8) 0 y0]⟩]) k d.1.2.2.1 d.2.1.2.1) F (fun d K => by kernel_rfl)  (fun k d K => Eq.mp (by kernel_rfl) (L48_1_l3g F k   (f48_1_l3 F) (G48_1_3 F F) d K))
theorem E48_1g (F : Nat)  (l3 : Int → (List Int → Option Res) → Nat → Int → List Int → Option Res)  (d : sh48_1.den) (K : KF) : evBody Tryz.prog (tab []) (xw []) 15 0 (ltab [(3, mkG sh48_1_l3 [0, 3, 4] (outT [(.exit 0, [3])]) (fun d K => l3 d.1.1 (fun (y0 : List Int) => K (.exit 0) [.tv (.lf (.full 0))] [some ⟨false, [.seq (.int .u8) 0 y0]⟩]) F d.1.2.2.1 d.2.1.2.1) [])]) [] code48 Tryz.f48.results.toList (encT sh48_1.vs d.1) (encH sh48_1.h d.2) K = (fun (a1 : Int) (K0 : (ByteArray → Option Res)) => l3 a1 (fun x4 => K0 (ofInts x4)) F 0 []) d.1.1 (fun (y0 : ByteArray) => K [.lf (.str y0)] []) := by kernel_rfl
theorem E48_1 (F : Nat) (d : sh48_1.den) (K : KF) : evBody Tryz.prog (T48_1 F) (xw []) 15 0 (LT48_1 F) [] code48 Tryz.f48.results.toList (encT sh48_1.vs d.1) (encH sh48_1.h d.2) K = f48_1 F d.1.1 (fun (y0 : ByteArray) => K [.lf (.str y0)] []) := Eq.mp (by kernel_rfl) (E48_1g F  (f48_1_l3 F)  d K)
theorem S48_1_ok (F : Nat) (o : Summ) (ho : SoundFn Tryz.prog 48 o) : SoundFn Tryz.prog 48 (S48_1 F o) :=
  soundFn_of (fn := Tryz.f48) (c := code48) rfl rfl (by kernel_rfl) tab_nil (by kernel_rfl) (by kernel_rfl) ho (by rw [loops48]; exact (loopsOK_cons (by kernel_rfl) (L48_1_3 F) loopsOK_nil)) (by rw [scopes48]; exact scopesOK_nil) (by rw [ranges48]; exact rangesOK_nil) (E48_1 F)
end Go.Proofs.YtillbabmlfjegaaGreatDoor.X
end

section
namespace Go.Proofs.YtillbabmlfjegaaGreatDoor.X
open Go Go.Proofs.YtillbabmlfjegaaGreatDoor.Ev Go.Proofs
set_option linter.unusedVariables false
set_option linter.unusedSectionVars false
/-! pentimentoref05.Zero -/
noncomputable def f24_1 {β : Type} (F : Nat)  (K0 : ByteArray → Option β) : Option β := f48_1 F 0 (fun x1 => K0 x1) 
variable [FZ]
def sh24_1 : Sh := ⟨[], []⟩
noncomputable def S24_1 (F : Nat) (o : Summ) : Summ := mkS sh24_1 (fun d K => f24_1 F (fun (y0 : ByteArray) => K [.lf (.str y0)] [])) o
noncomputable def code24 : Code := bodyOf Tryz.f24
theorem scopes24 : scopesOf code24 = [] := by kernel_rfl
theorem ranges24 : rangesOf code24 = [] := by kernel_rfl
theorem loops24 : loopsOf code24 = [] := by kernel_rfl
theorem enter24 : ∀ args w, (callFunc 24 args).run Tryz.prog w = .ok (.enter 24 args) w := enter_of (fn := Tryz.f24) (by kernel_rfl) (by kernel_rfl) (by kernel_rfl)
noncomputable def T24_1 (F : Nat) : FuncId → Option Summ := tab [(48, (S48_1 F noS))]
noncomputable def LT24_1 (F : Nat) : Nat → Option LoopS := ltab []
theorem E24_1g (F : Nat) (c48_1 : Int → (ByteArray → Option Res) → Option Res)   (d : sh24_1.den) (K : KF) : evBody Tryz.prog (tab [(48, (mkS sh48_1 (fun d K => c48_1 d.1.1 (fun (y0 : ByteArray) => K [.lf (.str y0)] [])) noS))]) (xw []) 2 0 (ltab []) [] code24 Tryz.f24.results.toList (encT sh24_1.vs d.1) (encH sh24_1.h d.2) K = (fun (K0 : (ByteArray → Option Res)) => c48_1 0 (fun x1 => K0 x1) ) (fun (y0 : ByteArray) => K [.lf (.str y0)] []) := by kernel_rfl
theorem E24_1 (F : Nat) (d : sh24_1.den) (K : KF) : evBody Tryz.prog (T24_1 F) (xw []) 2 0 (LT24_1 F) [] code24 Tryz.f24.results.toList (encT sh24_1.vs d.1) (encH sh24_1.h d.2) K = f24_1 F (fun (y0 : ByteArray) => K [.lf (.str y0)] []) := Eq.mp (by kernel_rfl) (E24_1g F (f48_1 F)   d K)
theorem S24_1_ok (F : Nat) (o : Summ) (ho : SoundFn Tryz.prog 24 o) : SoundFn Tryz.prog 24 (S24_1 F o) :=
  soundFn_of (fn := Tryz.f24) (c := code24) rfl rfl (by kernel_rfl) (tab_cons (S48_1_ok F _ (noS_sound enter48)) tab_nil) (by kernel_rfl) (by kernel_rfl) ho (by rw [loops24]; exact loopsOK_nil) (by rw [scopes24]; exact scopesOK_nil) (by rw [ranges24]; exact rangesOK_nil) (E24_1 F)
end Go.Proofs.YtillbabmlfjegaaGreatDoor.X
end

section
namespace Go.Proofs.YtillbabmlfjegaaGreatDoor.X
open Go Go.Proofs.YtillbabmlfjegaaGreatDoor.Ev Go.Proofs
set_option linter.unusedVariables false
set_option linter.unusedSectionVars false
/-! pentimentoref08.Make -/
noncomputable def f40_1 {β : Type} (F : Nat) (a1 : Int) (a2 : ByteArray) (K0 : ByteArray → Int → Option β) : Option β := cond (decide (a1 < 1)) (K0 ByteArray.empty 22) (cond (decide (a1 > 8)) (K0 ByteArray.empty 22) (cond (decide ((a2.size : Int) > 58)) (K0 ByteArray.empty 8) (f42_1 F 1 (IntKind.u64.wrap a1) (fun x1 => f42_1 F 1 (IntKind.u64.wrap (a2.size : Int)) (fun x2 => cond (decide (x1.size + x2.size ≤ 4611686018427387904)) (cond (decide ((x1 ++ x2).size + a2.size ≤ 4611686018427387904)) (f24_1 F  (fun x3 => cond (decide ((0 : Int) ≤ (((x1 ++ x2) ++ a2).size : Int) ∧ (((x1 ++ x2) ++ a2).size : Int) ≤ (60 : Int) ∧ (60 : Int) ≤ (x3.size : Int))) (cond (decide (((x1 ++ x2) ++ a2).size + (x3.extract ((((x1 ++ x2) ++ a2).size : Int).toNat) 60).size ≤ 4611686018427387904)) (f62_1 F (toInts (((x1 ++ x2) ++ a2) ++ (x3.extract ((((x1 ++ x2) ++ a2).size : Int).toNat) 60))) (fun x4 => f42_1 F 4 (IntKind.u64.wrap x4) (fun x5 => cond (decide ((((x1 ++ x2) ++ a2) ++ (x3.extract ((((x1 ++ x2) ++ a2).size : Int).toNat) 60)).size + x5.size ≤ 4611686018427387904)) (K0 ((((x1 ++ x2) ++ a2) ++ (x3.extract ((((x1 ++ x2) ++ a2).size : Int).toNat) 60)) ++ x5) 0) none) ) ) none) none) ) none) none) ) )))
variable [FZ]
def sh40_1 : Sh := ⟨[.lf (.int .i64), .lf (.str)], []⟩
noncomputable def S40_1 (F : Nat) (o : Summ) : Summ := mkS sh40_1 (fun d K => f40_1 F d.1.1 d.1.2.1 (fun (y0 : ByteArray) (y1 : Int) => K [.lf (.str y0), .lf (.int .i64 y1)] [])) o
noncomputable def code40 : Code := bodyOf Tryz.f40
theorem scopes40 : scopesOf code40 = [] := by kernel_rfl
theorem ranges40 : rangesOf code40 = [] := by kernel_rfl
theorem loops40 : loopsOf code40 = [] := by kernel_rfl
theorem enter40 : ∀ args w, (callFunc 40 args).run Tryz.prog w = .ok (.enter 40 args) w := enter_of (fn := Tryz.f40) (by kernel_rfl) (by kernel_rfl) (by kernel_rfl)
noncomputable def T40_1 (F : Nat) : FuncId → Option Summ := tab [(24, (S24_1 F noS)), (42, (S42_1 F noS)), (62, (S62_1 F noS))]
noncomputable def LT40_1 (F : Nat) : Nat → Option LoopS := ltab []
theorem E40_1g (F : Nat) (c24_1 : (ByteArray → Option Res) → Option Res) (c42_1 : Int → Int → (ByteArray → Option Res) → Option Res) (c62_1 : List Int → (Int → Option Res) → Option Res)   (d : sh40_1.den) (K : KF) : evBody Tryz.prog (tab [(24, (mkS sh24_1 (fun d K => c24_1 (fun (y0 : ByteArray) => K [.lf (.str y0)] [])) noS)), (42, (mkS sh42_1 (fun d K => c42_1 d.1.1 d.1.2.1 (fun (y0 : ByteArray) => K [.lf (.str y0)] [])) noS)), (62, (mkS sh62_1 (fun d K => c62_1 d.2.1.2.1 (fun (y0 : Int) => K [.lf (.int .u32 y0)] [some ⟨d.2.1.1, [.seq (.int .u8) 0 d.2.1.2.1]⟩])) noS))]) (xw []) 41 0 (ltab []) [] code40 Tryz.f40.results.toList (encT sh40_1.vs d.1) (encH sh40_1.h d.2) K = (fun (a1 : Int) (a2 : ByteArray) (K0 : (ByteArray → Int → Option Res)) => cond (decide (a1 < 1)) (K0 ByteArray.empty 22) (cond (decide (a1 > 8)) (K0 ByteArray.empty 22) (cond (decide ((a2.size : Int) > 58)) (K0 ByteArray.empty 8) (c42_1 1 (IntKind.u64.wrap a1) (fun x1 => c42_1 1 (IntKind.u64.wrap (a2.size : Int)) (fun x2 => cond (decide (x1.size + x2.size ≤ 4611686018427387904)) (cond (decide ((x1 ++ x2).size + a2.size ≤ 4611686018427387904)) (c24_1  (fun x3 => cond (decide ((0 : Int) ≤ (((x1 ++ x2) ++ a2).size : Int) ∧ (((x1 ++ x2) ++ a2).size : Int) ≤ (60 : Int) ∧ (60 : Int) ≤ (x3.size : Int))) (cond (decide (((x1 ++ x2) ++ a2).size + (x3.extract ((((x1 ++ x2) ++ a2).size : Int).toNat) 60).size ≤ 4611686018427387904)) (c62_1 (toInts (((x1 ++ x2) ++ a2) ++ (x3.extract ((((x1 ++ x2) ++ a2).size : Int).toNat) 60))) (fun x4 => c42_1 4 (IntKind.u64.wrap x4) (fun x5 => cond (decide ((((x1 ++ x2) ++ a2) ++ (x3.extract ((((x1 ++ x2) ++ a2).size : Int).toNat) 60)).size + x5.size ≤ 4611686018427387904)) (K0 ((((x1 ++ x2) ++ a2) ++ (x3.extract ((((x1 ++ x2) ++ a2).size : Int).toNat) 60)) ++ x5) 0) none) ) ) none) none) ) none) none) ) )))) d.1.1 d.1.2.1 (fun (y0 : ByteArray) (y1 : Int) => K [.lf (.str y0), .lf (.int .i64 y1)] []) := by kernel_rfl
theorem E40_1 (F : Nat) (d : sh40_1.den) (K : KF) : evBody Tryz.prog (T40_1 F) (xw []) 41 0 (LT40_1 F) [] code40 Tryz.f40.results.toList (encT sh40_1.vs d.1) (encH sh40_1.h d.2) K = f40_1 F d.1.1 d.1.2.1 (fun (y0 : ByteArray) (y1 : Int) => K [.lf (.str y0), .lf (.int .i64 y1)] []) := Eq.mp (by kernel_rfl) (E40_1g F (f24_1 F) (f42_1 F) (f62_1 F)   d K)
theorem S40_1_ok (F : Nat) (o : Summ) (ho : SoundFn Tryz.prog 40 o) : SoundFn Tryz.prog 40 (S40_1 F o) :=
  soundFn_of (fn := Tryz.f40) (c := code40) rfl rfl (by kernel_rfl) (tab_cons (S24_1_ok F _ (noS_sound enter24)) (tab_cons (S42_1_ok F _ (noS_sound enter42)) (tab_cons (S62_1_ok F _ (noS_sound enter62)) tab_nil))) (by kernel_rfl) (by kernel_rfl) ho (by rw [loops40]; exact loopsOK_nil) (by rw [scopes40]; exact scopesOK_nil) (by rw [ranges40]; exact rangesOK_nil) (E40_1 F)
end Go.Proofs.YtillbabmlfjegaaGreatDoor.X
end

section
namespace Go.Proofs.YtillbabmlfjegaaGreatDoor.X
open Go Go.Proofs.YtillbabmlfjegaaGreatDoor.Ev Go.Proofs
set_option linter.unusedVariables false
set_option linter.unusedSectionVars false
/-! pentimentoref10.Set).Bytes -/
noncomputable def f41_1 {β : Type} (F : Nat) (a1 : List Int) (K0 : ByteArray → Option β) : Option β := cond (decide (0 < a1.length)) (cond (decide (1 < a1.length)) (f42_1 F 8 (a1.getD 0 0) (fun x1 => f42_1 F 8 (a1.getD 1 0) (fun x2 => cond (decide (x1.size + x2.size ≤ 4611686018427387904)) (K0 (x1 ++ x2)) none) ) ) none) none
variable [FZ]
def sh41_1 : Sh := ⟨[.agg [.seq (.int .u64) 2]], []⟩
noncomputable def S41_1 (F : Nat) (o : Summ) : Summ := mkS sh41_1 (fun d K => f41_1 F d.1.1.1 (fun (y0 : ByteArray) => K [.lf (.str y0)] [])) o
noncomputable def code41 : Code := bodyOf Tryz.f41
theorem scopes41 : scopesOf code41 = [] := by kernel_rfl
theorem ranges41 : rangesOf code41 = [] := by kernel_rfl
theorem loops41 : loopsOf code41 = [] := by kernel_rfl
theorem enter41 : ∀ args w, (callFunc 41 args).run Tryz.prog w = .ok (.enter 41 args) w := enter_of (fn := Tryz.f41) (by kernel_rfl) (by kernel_rfl) (by kernel_rfl)
noncomputable def T41_1 (F : Nat) : FuncId → Option Summ := tab [(42, (S42_1 F noS))]
noncomputable def LT41_1 (F : Nat) : Nat → Option LoopS := ltab []
theorem E41_1g (F : Nat) (c42_1 : Int → Int → (ByteArray → Option Res) → Option Res)   (d : sh41_1.den) (K : KF) : evBody Tryz.prog (tab [(42, (mkS sh42_1 (fun d K => c42_1 d.1.1 d.1.2.1 (fun (y0 : ByteArray) => K [.lf (.str y0)] [])) noS))]) (xw []) 10 0 (ltab []) [] code41 Tryz.f41.results.toList (encT sh41_1.vs d.1) (encH sh41_1.h d.2) K = (fun (a1 : List Int) (K0 : (ByteArray → Option Res)) => cond (decide (0 < a1.length)) (cond (decide (1 < a1.length)) (c42_1 8 (a1.getD 0 0) (fun x1 => c42_1 8 (a1.getD 1 0) (fun x2 => cond (decide (x1.size + x2.size ≤ 4611686018427387904)) (K0 (x1 ++ x2)) none) ) ) none) none) d.1.1.1 (fun (y0 : ByteArray) => K [.lf (.str y0)] []) := by kernel_rfl
theorem E41_1 (F : Nat) (d : sh41_1.den) (K : KF) : evBody Tryz.prog (T41_1 F) (xw []) 10 0 (LT41_1 F) [] code41 Tryz.f41.results.toList (encT sh41_1.vs d.1) (encH sh41_1.h d.2) K = f41_1 F d.1.1.1 (fun (y0 : ByteArray) => K [.lf (.str y0)] []) := Eq.mp (by kernel_rfl) (E41_1g F (f42_1 F)   d K)
theorem S41_1_ok (F : Nat) (o : Summ) (ho : SoundFn Tryz.prog 41 o) : SoundFn Tryz.prog 41 (S41_1 F o) :=
  soundFn_of (fn := Tryz.f41) (c := code41) rfl rfl (by kernel_rfl) (tab_cons (S42_1_ok F _ (noS_sound enter42)) tab_nil) (by kernel_rfl) (by kernel_rfl) ho (by rw [loops41]; exact loopsOK_nil) (by rw [scopes41]; exact scopesOK_nil) (by rw [ranges41]; exact rangesOK_nil) (E41_1 F)
end Go.Proofs.YtillbabmlfjegaaGreatDoor.X
end

section
namespace Go.Proofs.YtillbabmlfjegaaGreatDoor.X
open Go Go.Proofs.YtillbabmlfjegaaGreatDoor.Ev Go.Proofs
set_option linter.unusedVariables false
set_option linter.unusedSectionVars false
/-! pentimentoref06.Disk).burn -/
noncomputable def f29_1 {β : Type} (F : Nat) (a1 : Int) (a2 : Bool) (a3 : Int) (a4 : List ByteArray) (a5 : List (Int × ByteArray)) (K0 : Bool → Int → Bool → Int → Option β) : Option β := cond (a1 == 0) (K0 false (-1) true a3) (cond (decide (a1 > 0)) (K0 true (IntKind.i64.wrap (a1 - 1)) a2 (IntKind.i64.wrap (a3 + 1))) (K0 true a1 a2 (IntKind.i64.wrap (a3 + 1))))
variable [FZ]
def sh29_1 : Sh := ⟨[.lf (.ptr 0 0)], [some ⟨some false, [.full 1, .full 2, .int .i64, .bool, .int .i64]⟩, some ⟨none, [.seq .str 0]⟩, some ⟨none, [.seq (.pair (.int .i64) .str) 0]⟩]⟩
noncomputable def S29_1 (F : Nat) (o : Summ) : Summ := mkS sh29_1 (fun d K => f29_1 F d.2.1.2.2.2.1 d.2.1.2.2.2.2.1 d.2.1.2.2.2.2.2.1 d.2.2.1.2.1 d.2.2.2.1.2.1 (fun (y0 : Bool) (y1 : Int) (y2 : Bool) (y3 : Int) => K [.lf (.bool y0)] [some ⟨false, [.full 1, .full 2, .int .i64 y1, .bool y2, .int .i64 y3]⟩, some ⟨d.2.2.1.1, [.seq .str 0 d.2.2.1.2.1]⟩, some ⟨d.2.2.2.1.1, [.seq (.pair (.int .i64) .str) 0 d.2.2.2.1.2.1]⟩])) o
noncomputable def code29 : Code := bodyOf Tryz.f29
theorem scopes29 : scopesOf code29 = [] := by kernel_rfl
theorem ranges29 : rangesOf code29 = [] := by kernel_rfl
theorem loops29 : loopsOf code29 = [] := by kernel_rfl
theorem enter29 : ∀ args w, (callFunc 29 args).run Tryz.prog w = .ok (.enter 29 args) w := enter_of (fn := Tryz.f29) (by kernel_rfl) (by kernel_rfl) (by kernel_rfl)
noncomputable def T29_1 (F : Nat) : FuncId → Option Summ := tab []
noncomputable def LT29_1 (F : Nat) : Nat → Option LoopS := ltab []
theorem E29_1g (F : Nat)    (d : sh29_1.den) (K : KF) : evBody Tryz.prog (tab []) (xw []) 35 3 (ltab []) [] code29 Tryz.f29.results.toList (encT sh29_1.vs d.1) (encH sh29_1.h d.2) K = (fun (a1 : Int) (a2 : Bool) (a3 : Int) (a4 : List ByteArray) (a5 : List (Int × ByteArray)) (K0 : (Bool → Int → Bool → Int → Option Res)) => cond (a1 == 0) (K0 false (-1) true a3) (cond (decide (a1 > 0)) (K0 true (IntKind.i64.wrap (a1 - 1)) a2 (IntKind.i64.wrap (a3 + 1))) (K0 true a1 a2 (IntKind.i64.wrap (a3 + 1))))) d.2.1.2.2.2.1 d.2.1.2.2.2.2.1 d.2.1.2.2.2.2.2.1 d.2.2.1.2.1 d.2.2.2.1.2.1 (fun (y0 : Bool) (y1 : Int) (y2 : Bool) (y3 : Int) => K [.lf (.bool y0)] [some ⟨false, [.full 1, .full 2, .int .i64 y1, .bool y2, .int .i64 y3]⟩, some ⟨d.2.2.1.1, [.seq .str 0 d.2.2.1.2.1]⟩, some ⟨d.2.2.2.1.1, [.seq (.pair (.int .i64) .str) 0 d.2.2.2.1.2.1]⟩]) := by kernel_rfl
theorem E29_1 (F : Nat) (d : sh29_1.den) (K : KF) : evBody Tryz.prog (T29_1 F) (xw []) 35 3 (LT29_1 F) [] code29 Tryz.f29.results.toList (encT sh29_1.vs d.1) (encH sh29_1.h d.2) K = f29_1 F d.2.1.2.2.2.1 d.2.1.2.2.2.2.1 d.2.1.2.2.2.2.2.1 d.2.2.1.2.1 d.2.2.2.1.2.1 (fun (y0 : Bool) (y1 : Int) (y2 : Bool) (y3 : Int) => K [.lf (.bool y0)] [some ⟨false, [.full 1, .full 2, .int .i64 y1, .bool y2, .int .i64 y3]⟩, some ⟨d.2.2.1.1, [.seq .str 0 d.2.2.1.2.1]⟩, some ⟨d.2.2.2.1.1, [.seq (.pair (.int .i64) .str) 0 d.2.2.2.1.2.1]⟩]) := Eq.mp (by kernel_rfl) (E29_1g F    d K)
theorem S29_1_ok (F : Nat) (o : Summ) (ho : SoundFn Tryz.prog 29 o) : SoundFn Tryz.prog 29 (S29_1 F o) :=
  soundFn_of (fn := Tryz.f29) (c := code29) rfl rfl (by kernel_rfl) tab_nil (by kernel_rfl) (by kernel_rfl) ho (by rw [loops29]; exact loopsOK_nil) (by rw [scopes29]; exact scopesOK_nil) (by rw [ranges29]; exact rangesOK_nil) (E29_1 F)
end Go.Proofs.YtillbabmlfjegaaGreatDoor.X
end

section
namespace Go.Proofs.YtillbabmlfjegaaGreatDoor.X
open Go Go.Proofs.YtillbabmlfjegaaGreatDoor.Ev Go.Proofs
set_option linter.unusedVariables false
set_option linter.unusedSectionVars false
/-! pentimentoref06.Disk).Flush -/
noncomputable def f43_1_l4 {β : Type} (F : Nat) (v6 : Int) (v7 : Bool) (v8 : Int) (v10 : List (Int × ByteArray)) (K0 : List ByteArray → Option β) : Nat → Int → List ByteArray → Option β
  | 0, _, _ => none
  | k + 1, v5, v9 => cond (decide (v5 < ((v10.length : Nat) : Int))) (cond (decide ((0 : Int) ≤ v5 ∧ v5 < ((v10.length : Nat) : Int))) (cond (decide (0 + v5.toNat < v10.length)) (cond (decide ((0 : Int) ≤ (v10.getD (0 + v5.toNat) (0, ByteArray.empty)).1 ∧ (v10.getD (0 + v5.toNat) (0, ByteArray.empty)).1 < ((v9.length : Nat) : Int))) (cond (decide (0 + (((v10.getD (0 + v5.toNat) (0, ByteArray.empty)).1).toNat) < v9.length)) (f43_1_l4 F v6 v7 v8 v10 K0 k (IntKind.i64.wrap (v5 + 1)) (v9.set (0 + (((v10.getD (0 + v5.toNat) (0, ByteArray.empty)).1).toNat)) ((v10.getD (0 + v5.toNat) (0, ByteArray.empty)).2))) none) none) none) none) (K0 v9)
noncomputable def f43_1 {β : Type} (F : Nat) (a1 : Int) (a2 : Bool) (a3 : Int) (a4 : List ByteArray) (a5 : List (Int × ByteArray)) (K0 : Int → Int → Bool → Int → List ByteArray → List (Int × ByteArray) → Option β) : Option β := cond a2 (K0 5 a1 a2 a3 a4 a5) (f29_1 F a1 a2 a3 a4 a5 (fun x1 x2 x3 x4 => cond (!x1) (K0 5 x2 x3 x4 a4 a5) (f43_1_l4 F x2 x3 x4 a5 (fun x11 => K0 0 x2 x3 x4 x11 []) F 0 a4)) )
variable [FZ]
def sh43_1 : Sh := ⟨[.lf (.ptr 0 0)], [some ⟨some false, [.full 1, .full 2, .int .i64, .bool, .int .i64]⟩, some ⟨some false, [.seq .str 0]⟩, some ⟨some false, [.seq (.pair (.int .i64) .str) 0]⟩]⟩
noncomputable def S43_1 (F : Nat) (o : Summ) : Summ := mkS sh43_1 (fun d K => f43_1 F d.2.1.2.2.2.1 d.2.1.2.2.2.2.1 d.2.1.2.2.2.2.2.1 d.2.2.1.2.1 d.2.2.2.1.2.1 (fun (y0 : Int) (y1 : Int) (y2 : Bool) (y3 : Int) (y4 : List ByteArray) (y5 : List (Int × ByteArray)) => K [.lf (.int .i64 y0)] [some ⟨false, [.full 1, .full 3, .int .i64 y1, .bool y2, .int .i64 y3]⟩, some ⟨false, [.seq .str 0 y4]⟩, none, some ⟨false, [.seq (.pair (.int .i64) .str) 0 y5]⟩])) o
noncomputable def code43 : Code := bodyOf Tryz.f43
noncomputable def b43_0 : Code := cB (cB (cR (cL (cR (cR (code43))))))
theorem scopes43 : scopesOf code43 = [] := by kernel_rfl
theorem ranges43 : rangesOf code43 = [] := by kernel_rfl
theorem loops43 : loopsOf code43 = [b43_0] := by kernel_rfl
theorem enter43 : ∀ args w, (callFunc 43 args).run Tryz.prog w = .ok (.enter 43 args) w := enter_of (fn := Tryz.f43) (by kernel_rfl) (by kernel_rfl) (by kernel_rfl)
noncomputable def T43_1 (F : Nat) : FuncId → Option Summ := tab [(29, (S29_1 F noS))]
def sh43_1_l4 : Sh := ⟨[.lf (.ptr 0 0), .lf (.int .i64)], [some ⟨some false, [.full 1, .full 2, .int .i64, .bool, .int .i64]⟩, some ⟨some false, [.seq .str 0]⟩, some ⟨some false, [.seq (.pair (.int .i64) .str) 0]⟩]⟩
noncomputable def G43_1_4 (F k : Nat) : LoopS := mkG sh43_1_l4 [0, 3] (outT [(.exit 0, [0])]) (fun d K => f43_1_l4 F d.2.1.2.2.2.1 d.2.1.2.2.2.2.1 d.2.1.2.2.2.2.2.1 d.2.2.2.1.2.1 (fun (y3 : List ByteArray) => K (.exit 0) [.tv (.lf (.ptr 0 0))] [some ⟨false, [.full 1, .full 2, .int .i64 d.2.1.2.2.2.1, .bool d.2.1.2.2.2.2.1, .int .i64 d.2.1.2.2.2.2.2.1]⟩, some ⟨false, [.seq .str 0 y3]⟩, some ⟨false, [.seq (.pair (.int .i64) .str) 0 d.2.2.2.1.2.1]⟩]) k d.1.2.1 d.2.2.1.2.1) []
noncomputable def LT43_1 (F : Nat) : Nat → Option LoopS := ltab [(4, G43_1_4 F F)]
theorem L43_1_l4g (F k : Nat) (c29_1 : Int → Bool → Int → List ByteArray → List (Int × ByteArray) → (Bool → Int → Bool → Int → Option Res) → Option Res)  (l4 : Int → Bool → Int → List (Int × ByteArray) → (List ByteArray → Option Res) → Nat → Int → List ByteArray → Option Res) (X4 : LoopS) (d : sh43_1_l4.den) (K : KL) : (fun (v6 : Int) (v7 : Bool) (v8 : Int) (v10 : List (Int × ByteArray)) (K0 : (List ByteArray → Option Res)) (k : Nat) (v5 : Int) (v9 : List ByteArray) => cond (decide (v5 < ((v10.length : Nat) : Int))) (cond (decide ((0 : Int) ≤ v5 ∧ v5 < ((v10.length : Nat) : Int))) (cond (decide (0 + v5.toNat < v10.length)) (cond (decide ((0 : Int) ≤ (v10.getD (0 + v5.toNat) (0, ByteArray.empty)).1 ∧ (v10.getD (0 + v5.toNat) (0, ByteArray.empty)).1 < ((v9.length : Nat) : Int))) (cond (decide (0 + (((v10.getD (0 + v5.toNat) (0, ByteArray.empty)).1).toNat) < v9.length)) (l4 v6 v7 v8 v10 K0 k (IntKind.i64.wrap (v5 + 1)) (v9.set (0 + (((v10.getD (0 + v5.toNat) (0, ByteArray.empty)).1).toNat)) ((v10.getD (0 + v5.toNat) (0, ByteArray.empty)).2))) none) none) none) none) (K0 v9)) d.2.1.2.2.2.1 d.2.1.2.2.2.2.1 d.2.1.2.2.2.2.2.1 d.2.2.2.1.2.1 (fun (y3 : List ByteArray) => K (.exit 0) [.tv (.lf (.ptr 0 0))] [some ⟨false, [.full 1, .full 2, .int .i64 d.2.1.2.2.2.1, .bool d.2.1.2.2.2.2.1, .int .i64 d.2.1.2.2.2.2.2.1]⟩, some ⟨false, [.seq .str 0 y3]⟩, some ⟨false, [.seq (.pair (.int .i64) .str) 0 d.2.2.2.1.2.1]⟩]) k d.1.2.1 d.2.2.1.2.1 = roundOf Tryz.prog (tab [(29, (mkS sh29_1 (fun d K => c29_1 d.2.1.2.2.2.1 d.2.1.2.2.2.2.1 d.2.1.2.2.2.2.2.1 d.2.2.1.2.1 d.2.2.2.1.2.1 (fun (y0 : Bool) (y1 : Int) (y2 : Bool) (y3 : Int) => K [.lf (.bool y0)] [some ⟨false, [.full 1, .full 2, .int .i64 y1, .bool y2, .int .i64 y3]⟩, some ⟨d.2.2.1.1, [.seq .str 0 d.2.2.1.2.1]⟩, some ⟨d.2.2.2.1.1, [.seq (.pair (.int .i64) .str) 0 d.2.2.2.1.2.1]⟩])) noS))]) (xw []) 42 3 (ltab [(4, X4)]) (mkG sh43_1_l4 [0, 3] (outT [(.exit 0, [0])]) (fun d K => l4 d.2.1.2.2.2.1 d.2.1.2.2.2.2.1 d.2.1.2.2.2.2.2.1 d.2.2.2.1.2.1 (fun (y3 : List ByteArray) => K (.exit 0) [.tv (.lf (.ptr 0 0))] [some ⟨false, [.full 1, .full 2, .int .i64 d.2.1.2.2.2.1, .bool d.2.1.2.2.2.2.1, .int .i64 d.2.1.2.2.2.2.2.1]⟩, some ⟨false, [.seq .str 0 y3]⟩, some ⟨false, [.seq (.pair (.int .i64) .str) 0 d.2.2.2.1.2.1]⟩]) k d.1.2.1 d.2.2.1.2.1) []) b43_0 (encT sh43_1_l4.vs d.1) (encH sh43_1_l4.h d.2) K := by kernel_rfl
theorem L43_1_4 (F : Nat) : LoopOK Tryz.prog (T43_1 F) (xw []) 42 3 (LT43_1 F) (G43_1_4 F F) b43_0 :=
  loopOK_of (s := sh43_1_l4) (live := [0, 3]) (out := (outT [(.exit 0, [0])])) (mv := []) (fun k d K => f43_1_l4 F d.2.1.2.2.2.1 d.2.1.2.2.2.2.1 d.2.1.2.2.2.2.2.1 d.2.2.2.1.2.1 (fun (y3 : List ByteArray) => K (.exit 0) [.tv (.lf (.ptr 0 0))] [some ⟨false, [.full 1, .full 2, .int .i64 d.2.1.2.2.2.1, .bool d.2.1.2.2.2.2.1, .int .i64 d.2.1.2.2.2.2.2.1]⟩, some ⟨false, [.seq .str 0 y3]⟩, some ⟨false, [.seq (.pair (.int .i64) .str) 0 d.2.2.2.1.2.1]⟩]) k d.1.2.1 d.2.2.1.2.1) F (fun d K => by kernel_rfl)  (fun k d K => Eq.mp (by kernel_rfl) (L43_1_l4g F k (f29_1 F)  (f43_1_l4 F) (G43_1_4 F F) d K))
theorem E43_1g (F : Nat) (c29_1 : Int → Bool → Int → List ByteArray → List (Int × ByteArray) → (Bool → Int → Bool → Int → Option Res) → Option Res) (l4 : Int → Bool → Int → List (Int × ByteArray) → (List ByteArray → Option Res) → Nat → Int → List ByteArray → Option Res)  (d : sh43_1.den) (K : KF) : evBody Tryz.prog (tab [(29, (mkS sh29_1 (fun d K => c29_1 d.2.1.2.2.2.1 d.2.1.2.2.2.2.1 d.2.1.2.2.2.2.2.1 d.2.2.1.2.1 d.2.2.2.1.2.1 (fun (y0 : Bool) (y1 : Int) (y2 : Bool) (y3 : Int) => K [.lf (.bool y0)] [some ⟨false, [.full 1, .full 2, .int .i64 y1, .bool y2, .int .i64 y3]⟩, some ⟨d.2.2.1.1, [.seq .str 0 d.2.2.1.2.1]⟩, some ⟨d.2.2.2.1.1, [.seq (.pair (.int .i64) .str) 0 d.2.2.2.1.2.1]⟩])) noS))]) (xw []) 42 3 (ltab [(4, mkG sh43_1_l4 [0, 3] (outT [(.exit 0, [0])]) (fun d K => l4 d.2.1.2.2.2.1 d.2.1.2.2.2.2.1 d.2.1.2.2.2.2.2.1 d.2.2.2.1.2.1 (fun (y3 : List ByteArray) => K (.exit 0) [.tv (.lf (.ptr 0 0))] [some ⟨false, [.full 1, .full 2, .int .i64 d.2.1.2.2.2.1, .bool d.2.1.2.2.2.2.1, .int .i64 d.2.1.2.2.2.2.2.1]⟩, some ⟨false, [.seq .str 0 y3]⟩, some ⟨false, [.seq (.pair (.int .i64) .str) 0 d.2.2.2.1.2.1]⟩]) F d.1.2.1 d.2.2.1.2.1) [])]) [2] code43 Tryz.f43.results.toList (encT sh43_1.vs d.1) (encH sh43_1.h d.2) K = (fun (a1 : Int) (a2 : Bool) (a3 : Int) (a4 : List ByteArray) (a5 : List (Int × ByteArray)) (K0 : (Int → Int → Bool → Int → List ByteArray → List (Int × ByteArray) → Option Res)) => cond a2 (K0 5 a1 a2 a3 a4 a5) (c29_1 a1 a2 a3 a4 a5 (fun x1 x2 x3 x4 => cond (!x1) (K0 5 x2 x3 x4 a4 a5) (l4 x2 x3 x4 a5 (fun x11 => K0 0 x2 x3 x4 x11 []) F 0 a4)) )) d.2.1.2.2.2.1 d.2.1.2.2.2.2.1 d.2.1.2.2.2.2.2.1 d.2.2.1.2.1 d.2.2.2.1.2.1 (fun (y0 : Int) (y1 : Int) (y2 : Bool) (y3 : Int) (y4 : List ByteArray) (y5 : List (Int × ByteArray)) => K [.lf (.int .i64 y0)] [some ⟨false, [.full 1, .full 3, .int .i64 y1, .bool y2, .int .i64 y3]⟩, some ⟨false, [.seq .str 0 y4]⟩, none, some ⟨false, [.seq (.pair (.int .i64) .str) 0 y5]⟩]) := by kernel_rfl
theorem E43_1 (F : Nat) (d : sh43_1.den) (K : KF) : evBody Tryz.prog (T43_1 F) (xw []) 42 3 (LT43_1 F) [2] code43 Tryz.f43.results.toList (encT sh43_1.vs d.1) (encH sh43_1.h d.2) K = f43_1 F d.2.1.2.2.2.1 d.2.1.2.2.2.2.1 d.2.1.2.2.2.2.2.1 d.2.2.1.2.1 d.2.2.2.1.2.1 (fun (y0 : Int) (y1 : Int) (y2 : Bool) (y3 : Int) (y4 : List ByteArray) (y5 : List (Int × ByteArray)) => K [.lf (.int .i64 y0)] [some ⟨false, [.full 1, .full 3, .int .i64 y1, .bool y2, .int .i64 y3]⟩, some ⟨false, [.seq .str 0 y4]⟩, none, some ⟨false, [.seq (.pair (.int .i64) .str) 0 y5]⟩]) := Eq.mp (by kernel_rfl) (E43_1g F (f29_1 F) (f43_1_l4 F)  d K)
theorem S43_1_ok (F : Nat) (o : Summ) (ho : SoundFn Tryz.prog 43 o) : SoundFn Tryz.prog 43 (S43_1 F o) :=
  soundFn_of (fn := Tryz.f43) (c := code43) rfl rfl (by kernel_rfl) (tab_cons (S29_1_ok F _ (noS_sound enter29)) tab_nil) (by kernel_rfl) (by kernel_rfl) ho (by rw [loops43]; exact (loopsOK_cons (by kernel_rfl) (L43_1_4 F) loopsOK_nil)) (by rw [scopes43]; exact scopesOK_nil) (by rw [ranges43]; exact rangesOK_nil) (E43_1 F)
end Go.Proofs.YtillbabmlfjegaaGreatDoor.X
end

section
namespace Go.Proofs.YtillbabmlfjegaaGreatDoor.X
open Go Go.Proofs.YtillbabmlfjegaaGreatDoor.Ev Go.Proofs
set_option linter.unusedVariables false
set_option linter.unusedSectionVars false
/-! pentimentoref06.Disk).Write -/
noncomputable def f8_1 {β : Type} (F : Nat) (a1 : Int) (a2 : ByteArray) (a3 : Int) (a4 : Bool) (a5 : Int) (a6 : List ByteArray) (a7 : List (Int × ByteArray)) (K0 : Int → Int → Bool → Int → List (Int × ByteArray) → Option β) : Option β := cond a4 (K0 5 a3 a4 a5 a7) (cond (decide (a1 < 0)) (K0 3 a3 a4 a5 a7) (cond (decide (a1 ≥ ((a6.length : Nat) : Int))) (K0 3 a3 a4 a5 a7) (f28_1 F a2 (fun x1 => cond (!x1) (K0 4 a3 a4 a5 a7) (f29_1 F a3 a4 a5 a6 a7 (fun x2 x3 x4 x5 => cond (!x2) (K0 5 x3 x4 x5 a7) (cond (decide ((a7.length + 1) * 24 ≤ 70368744177664)) (K0 0 x3 x4 x5 (a7 ++ [(a1, a2)])) none)) )) )))
variable [FZ]
def sh8_1 : Sh := ⟨[.lf (.ptr 0 0), .lf (.int .i64), .lf (.str)], [some ⟨some false, [.full 1, .full 2, .int .i64, .bool, .int .i64]⟩, some ⟨none, [.seq .str 0]⟩, some ⟨some false, [.seq (.pair (.int .i64) .str) 0]⟩]⟩
noncomputable def S8_1 (F : Nat) (o : Summ) : Summ := mkS sh8_1 (fun d K => f8_1 F d.1.2.1 d.1.2.2.1 d.2.1.2.2.2.1 d.2.1.2.2.2.2.1 d.2.1.2.2.2.2.2.1 d.2.2.1.2.1 d.2.2.2.1.2.1 (fun (y0 : Int) (y1 : Int) (y2 : Bool) (y3 : Int) (y5 : List (Int × ByteArray)) => K [.lf (.int .i64 y0)] [some ⟨false, [.full 1, .full 3, .int .i64 y1, .bool y2, .int .i64 y3]⟩, some ⟨d.2.2.1.1, [.seq .str 0 d.2.2.1.2.1]⟩, none, some ⟨false, [.seq (.pair (.int .i64) .str) 0 y5]⟩])) o
noncomputable def code8 : Code := bodyOf Tryz.f8
theorem scopes8 : scopesOf code8 = [] := by kernel_rfl
theorem ranges8 : rangesOf code8 = [] := by kernel_rfl
theorem loops8 : loopsOf code8 = [] := by kernel_rfl
theorem enter8 : ∀ args w, (callFunc 8 args).run Tryz.prog w = .ok (.enter 8 args) w := enter_of (fn := Tryz.f8) (by kernel_rfl) (by kernel_rfl) (by kernel_rfl)
noncomputable def T8_1 (F : Nat) : FuncId → Option Summ := tab [(28, (S28_1 F noS)), (29, (S29_1 F noS))]
noncomputable def LT8_1 (F : Nat) : Nat → Option LoopS := ltab []
theorem E8_1g (F : Nat) (c28_1 : ByteArray → (Bool → Option Res) → Option Res) (c29_1 : Int → Bool → Int → List ByteArray → List (Int × ByteArray) → (Bool → Int → Bool → Int → Option Res) → Option Res)   (d : sh8_1.den) (K : KF) : evBody Tryz.prog (tab [(28, (mkS sh28_1 (fun d K => c28_1 d.1.1 (fun (y0 : Bool) => K [.lf (.bool y0)] [])) noS)), (29, (mkS sh29_1 (fun d K => c29_1 d.2.1.2.2.2.1 d.2.1.2.2.2.2.1 d.2.1.2.2.2.2.2.1 d.2.2.1.2.1 d.2.2.2.1.2.1 (fun (y0 : Bool) (y1 : Int) (y2 : Bool) (y3 : Int) => K [.lf (.bool y0)] [some ⟨false, [.full 1, .full 2, .int .i64 y1, .bool y2, .int .i64 y3]⟩, some ⟨d.2.2.1.1, [.seq .str 0 d.2.2.1.2.1]⟩, some ⟨d.2.2.2.1.1, [.seq (.pair (.int .i64) .str) 0 d.2.2.2.1.2.1]⟩])) noS))]) (xw []) 40 3 (ltab []) [2] code8 Tryz.f8.results.toList (encT sh8_1.vs d.1) (encH sh8_1.h d.2) K = (fun (a1 : Int) (a2 : ByteArray) (a3 : Int) (a4 : Bool) (a5 : Int) (a6 : List ByteArray) (a7 : List (Int × ByteArray)) (K0 : (Int → Int → Bool → Int → List (Int × ByteArray) → Option Res)) => cond a4 (K0 5 a3 a4 a5 a7) (cond (decide (a1 < 0)) (K0 3 a3 a4 a5 a7) (cond (decide (a1 ≥ ((a6.length : Nat) : Int))) (K0 3 a3 a4 a5 a7) (c28_1 a2 (fun x1 => cond (!x1) (K0 4 a3 a4 a5 a7) (c29_1 a3 a4 a5 a6 a7 (fun x2 x3 x4 x5 => cond (!x2) (K0 5 x3 x4 x5 a7) (cond (decide ((a7.length + 1) * 24 ≤ 70368744177664)) (K0 0 x3 x4 x5 (a7 ++ [(a1, a2)])) none)) )) )))) d.1.2.1 d.1.2.2.1 d.2.1.2.2.2.1 d.2.1.2.2.2.2.1 d.2.1.2.2.2.2.2.1 d.2.2.1.2.1 d.2.2.2.1.2.1 (fun (y0 : Int) (y1 : Int) (y2 : Bool) (y3 : Int) (y5 : List (Int × ByteArray)) => K [.lf (.int .i64 y0)] [some ⟨false, [.full 1, .full 3, .int .i64 y1, .bool y2, .int .i64 y3]⟩, some ⟨d.2.2.1.1, [.seq .str 0 d.2.2.1.2.1]⟩, none, some ⟨false, [.seq (.pair (.int .i64) .str) 0 y5]⟩]) := by kernel_rfl
theorem E8_1 (F : Nat) (d : sh8_1.den) (K : KF) : evBody Tryz.prog (T8_1 F) (xw []) 40 3 (LT8_1 F) [2] code8 Tryz.f8.results.toList (encT sh8_1.vs d.1) (encH sh8_1.h d.2) K = f8_1 F d.1.2.1 d.1.2.2.1 d.2.1.2.2.2.1 d.2.1.2.2.2.2.1 d.2.1.2.2.2.2.2.1 d.2.2.1.2.1 d.2.2.2.1.2.1 (fun (y0 : Int) (y1 : Int) (y2 : Bool) (y3 : Int) (y5 : List (Int × ByteArray)) => K [.lf (.int .i64 y0)] [some ⟨false, [.full 1, .full 3, .int .i64 y1, .bool y2, .int .i64 y3]⟩, some ⟨d.2.2.1.1, [.seq .str 0 d.2.2.1.2.1]⟩, none, some ⟨false, [.seq (.pair (.int .i64) .str) 0 y5]⟩]) := Eq.mp (by kernel_rfl) (E8_1g F (f28_1 F) (f29_1 F)   d K)
theorem S8_1_ok (F : Nat) (o : Summ) (ho : SoundFn Tryz.prog 8 o) : SoundFn Tryz.prog 8 (S8_1 F o) :=
  soundFn_of (fn := Tryz.f8) (c := code8) rfl rfl (by kernel_rfl) (tab_cons (S28_1_ok F _ (noS_sound enter28)) (tab_cons (S29_1_ok F _ (noS_sound enter29)) tab_nil)) (by kernel_rfl) (by kernel_rfl) ho (by rw [loops8]; exact loopsOK_nil) (by rw [scopes8]; exact scopesOK_nil) (by rw [ranges8]; exact rangesOK_nil) (E8_1 F)
end Go.Proofs.YtillbabmlfjegaaGreatDoor.X
end

section
namespace Go.Proofs.YtillbabmlfjegaaGreatDoor.X
open Go Go.Proofs.YtillbabmlfjegaaGreatDoor.Ev Go.Proofs
set_option linter.unusedVariables false
set_option linter.unusedSectionVars false
/-! pentimentoref11.Save -/
noncomputable def f15_1 {β : Type} (F : Nat) (a1 : List Int) (a2 : List Int) (a3 : Int) (a4 : Int) (a5 : Bool) (a6 : Int) (a7 : List ByteArray) (a8 : List (Int × ByteArray)) (K0 : Int → Int → Bool → Int → List ByteArray → List (Int × ByteArray) → Option β) : Option β := f41_1 F a1 (fun x1 => f41_1 F a2 (fun x2 => cond (decide (x1.size + x2.size ≤ 4611686018427387904)) (f42_1 F 8 a3 (fun x3 => cond (decide ((x1 ++ x2).size + x3.size ≤ 4611686018427387904)) (f40_1 F 5 ((x1 ++ x2) ++ x3) (fun x4 x5 => f8_1 F 5 x4 a4 a5 a6 a7 a8 (fun x6 x7 x8 x9 x10 => cond (x6 != 0) (K0 x6 x7 x8 x9 a7 x10) (f43_1 F x7 x8 x9 a7 x10 (fun x11 x12 x13 x14 x15 x16 => K0 x11 x12 x13 x14 x15 x16) )) ) ) none) ) none) ) 
variable [FZ]
def sh15_1 : Sh := ⟨[.lf (.ptr 0 0), .agg [.seq (.int .u64) 2, .seq (.int .u64) 2, .int .u64]], [some ⟨some false, [.full 1, .full 2, .int .i64, .bool, .int .i64]⟩, some ⟨some false, [.seq .str 0]⟩, some ⟨some false, [.seq (.pair (.int .i64) .str) 0]⟩]⟩
noncomputable def S15_1 (F : Nat) (o : Summ) : Summ := mkS sh15_1 (fun d K => f15_1 F d.1.2.1.1 d.1.2.1.2.1 d.1.2.1.2.2.1 d.2.1.2.2.2.1 d.2.1.2.2.2.2.1 d.2.1.2.2.2.2.2.1 d.2.2.1.2.1 d.2.2.2.1.2.1 (fun (y0 : Int) (y1 : Int) (y2 : Bool) (y3 : Int) (y4 : List ByteArray) (y5 : List (Int × ByteArray)) => K [.lf (.int .i64 y0)] [some ⟨false, [.full 1, .full 3, .int .i64 y1, .bool y2, .int .i64 y3]⟩, some ⟨false, [.seq .str 0 y4]⟩, none, some ⟨false, [.seq (.pair (.int .i64) .str) 0 y5]⟩])) o
noncomputable def code15 : Code := bodyOf Tryz.f15
theorem scopes15 : scopesOf code15 = [] := by kernel_rfl
theorem ranges15 : rangesOf code15 = [] := by kernel_rfl
theorem loops15 : loopsOf code15 = [] := by kernel_rfl
theorem enter15 : ∀ args w, (callFunc 15 args).run Tryz.prog w = .ok (.enter 15 args) w := enter_of (fn := Tryz.f15) (by kernel_rfl) (by kernel_rfl) (by kernel_rfl)
noncomputable def T15_1 (F : Nat) : FuncId → Option Summ := tab [(8, (S8_1 F noS)), (40, (S40_1 F noS)), (41, (S41_1 F noS)), (42, (S42_1 F noS)), (43, (S43_1 F noS))]
noncomputable def LT15_1 (F : Nat) : Nat → Option LoopS := ltab []
theorem E15_1g (F : Nat) (c8_1 : Int → ByteArray → Int → Bool → Int → List ByteArray → List (Int × ByteArray) → (Int → Int → Bool → Int → List (Int × ByteArray) → Option Res) → Option Res) (c40_1 : Int → ByteArray → (ByteArray → Int → Option Res) → Option Res) (c41_1 : List Int → (ByteArray → Option Res) → Option Res) (c42_1 : Int → Int → (ByteArray → Option Res) → Option Res) (c43_1 : Int → Bool → Int → List ByteArray → List (Int × ByteArray) → (Int → Int → Bool → Int → List ByteArray → List (Int × ByteArray) → Option Res) → Option Res)   (d : sh15_1.den) (K : KF) : evBody Tryz.prog (tab [(8, (mkS sh8_1 (fun d K => c8_1 d.1.2.1 d.1.2.2.1 d.2.1.2.2.2.1 d.2.1.2.2.2.2.1 d.2.1.2.2.2.2.2.1 d.2.2.1.2.1 d.2.2.2.1.2.1 (fun (y0 : Int) (y1 : Int) (y2 : Bool) (y3 : Int) (y5 : List (Int × ByteArray)) => K [.lf (.int .i64 y0)] [some ⟨false, [.full 1, .full 3, .int .i64 y1, .bool y2, .int .i64 y3]⟩, some ⟨d.2.2.1.1, [.seq .str 0 d.2.2.1.2.1]⟩, none, some ⟨false, [.seq (.pair (.int .i64) .str) 0 y5]⟩])) noS)), (40, (mkS sh40_1 (fun d K => c40_1 d.1.1 d.1.2.1 (fun (y0 : ByteArray) (y1 : Int) => K [.lf (.str y0), .lf (.int .i64 y1)] [])) noS)), (41, (mkS sh41_1 (fun d K => c41_1 d.1.1.1 (fun (y0 : ByteArray) => K [.lf (.str y0)] [])) noS)), (42, (mkS sh42_1 (fun d K => c42_1 d.1.1 d.1.2.1 (fun (y0 : ByteArray) => K [.lf (.str y0)] [])) noS)), (43, (mkS sh43_1 (fun d K => c43_1 d.2.1.2.2.2.1 d.2.1.2.2.2.2.1 d.2.1.2.2.2.2.2.1 d.2.2.1.2.1 d.2.2.2.1.2.1 (fun (y0 : Int) (y1 : Int) (y2 : Bool) (y3 : Int) (y4 : List ByteArray) (y5 : List (Int × ByteArray)) => K [.lf (.int .i64 y0)] [some ⟨false, [.full 1, .full 3, .int .i64 y1, .bool y2, .int .i64 y3]⟩, some ⟨false, [.seq .str 0 y4]⟩, none, some ⟨false, [.seq (.pair (.int .i64) .str) 0 y5]⟩])) noS))]) (xw []) 31 3 (ltab []) [2] code15 Tryz.f15.results.toList (encT sh15_1.vs d.1) (encH sh15_1.h d.2) K = (fun (a1 : List Int) (a2 : List Int) (a3 : Int) (a4 : Int) (a5 : Bool) (a6 : Int) (a7 : List ByteArray) (a8 : List (Int × ByteArray)) (K0 : (Int → Int → Bool → Int → List ByteArray → List (Int × ByteArray) → Option Res)) => c41_1 a1 (fun x1 => c41_1 a2 (fun x2 => cond (decide (x1.size + x2.size ≤ 4611686018427387904)) (c42_1 8 a3 (fun x3 => cond (decide ((x1 ++ x2).size + x3.size ≤ 4611686018427387904)) (c40_1 5 ((x1 ++ x2) ++ x3) (fun x4 x5 => c8_1 5 x4 a4 a5 a6 a7 a8 (fun x6 x7 x8 x9 x10 => cond (x6 != 0) (K0 x6 x7 x8 x9 a7 x10) (c43_1 x7 x8 x9 a7 x10 (fun x11 x12 x13 x14 x15 x16 => K0 x11 x12 x13 x14 x15 x16) )) ) ) none) ) none) ) ) d.1.2.1.1 d.1.2.1.2.1 d.1.2.1.2.2.1 d.2.1.2.2.2.1 d.2.1.2.2.2.2.1 d.2.1.2.2.2.2.2.1 d.2.2.1.2.1 d.2.2.2.1.2.1 (fun (y0 : Int) (y1 : Int) (y2 : Bool) (y3 : Int) (y4 : List ByteArray) (y5 : List (Int × ByteArray)) => K [.lf (.int .i64 y0)] [some ⟨false, [.full 1, .full 3, .int .i64 y1, .bool y2, .int .i64 y3]⟩, some ⟨false, [.seq .str 0 y4]⟩, none, some ⟨false, [.seq (.pair (.int .i64) .str) 0 y5]⟩]) := by kernel_rfl
theorem E15_1 (F : Nat) (d : sh15_1.den) (K : KF) : evBody Tryz.prog (T15_1 F) (xw []) 31 3 (LT15_1 F) [2] code15 Tryz.f15.results.toList (encT sh15_1.vs d.1) (encH sh15_1.h d.2) K = f15_1 F d.1.2.1.1 d.1.2.1.2.1 d.1.2.1.2.2.1 d.2.1.2.2.2.1 d.2.1.2.2.2.2.1 d.2.1.2.2.2.2.2.1 d.2.2.1.2.1 d.2.2.2.1.2.1 (fun (y0 : Int) (y1 : Int) (y2 : Bool) (y3 : Int) (y4 : List ByteArray) (y5 : List (Int × ByteArray)) => K [.lf (.int .i64 y0)] [some ⟨false, [.full 1, .full 3, .int .i64 y1, .bool y2, .int .i64 y3]⟩, some ⟨false, [.seq .str 0 y4]⟩, none, some ⟨false, [.seq (.pair (.int .i64) .str) 0 y5]⟩]) := Eq.mp (by kernel_rfl) (E15_1g F (f8_1 F) (f40_1 F) (f41_1 F) (f42_1 F) (f43_1 F)   d K)
theorem S15_1_ok (F : Nat) (o : Summ) (ho : SoundFn Tryz.prog 15 o) : SoundFn Tryz.prog 15 (S15_1 F o) :=
  soundFn_of (fn := Tryz.f15) (c := code15) rfl rfl (by kernel_rfl) (tab_cons (S8_1_ok F _ (noS_sound enter8)) (tab_cons (S40_1_ok F _ (noS_sound enter40)) (tab_cons (S41_1_ok F _ (noS_sound enter41)) (tab_cons (S42_1_ok F _ (noS_sound enter42)) (tab_cons (S43_1_ok F _ (noS_sound enter43)) tab_nil))))) (by kernel_rfl) (by kernel_rfl) ho (by rw [loops15]; exact loopsOK_nil) (by rw [scopes15]; exact scopesOK_nil) (by rw [ranges15]; exact rangesOK_nil) (E15_1 F)
end Go.Proofs.YtillbabmlfjegaaGreatDoor.X
end

section
namespace Go.Proofs.YtillbabmlfjegaaGreatDoor.X
open Go Go.Proofs.YtillbabmlfjegaaGreatDoor.Ev Go.Proofs
set_option linter.unusedVariables false
set_option linter.unusedSectionVars false
/-! pentimentolaw11.taken -/
noncomputable def f16_1 {β : Type} (F : Nat) (a1 : List Int) (a2 : List Int) (a3 : Int) (K0 : Option β) : Option β := K0
variable [FZ]
def sh16_1 : Sh := ⟨[.agg [.seq (.int .u64) 2, .seq (.int .u64) 2, .int .u64]], []⟩
noncomputable def S16_1 (F : Nat) (o : Summ) : Summ := mkS sh16_1 (fun d K => f16_1 F d.1.1.1 d.1.1.2.1 d.1.1.2.2.1 (K [.agg [.seq (.int .u64) 2 d.1.1.1, .seq (.int .u64) 2 d.1.1.2.1, .int .u64 d.1.1.2.2.1]] [])) o
noncomputable def code16 : Code := bodyOf Tryz.f16
theorem scopes16 : scopesOf code16 = [] := by kernel_rfl
theorem ranges16 : rangesOf code16 = [] := by kernel_rfl
theorem loops16 : loopsOf code16 = [] := by kernel_rfl
theorem enter16 : ∀ args w, (callFunc 16 args).run Tryz.prog w = .ok (.enter 16 args) w := enter_of (fn := Tryz.f16) (by kernel_rfl) (by kernel_rfl) (by kernel_rfl)
noncomputable def T16_1 (F : Nat) : FuncId → Option Summ := tab []
noncomputable def LT16_1 (F : Nat) : Nat → Option LoopS := ltab []
theorem E16_1g (F : Nat)    (d : sh16_1.den) (K : KF) : evBody Tryz.prog (tab []) (xw []) 10 0 (ltab []) [] code16 Tryz.f16.results.toList (encT sh16_1.vs d.1) (encH sh16_1.h d.2) K = (fun (a1 : List Int) (a2 : List Int) (a3 : Int) (K0 : (Option Res)) => K0) d.1.1.1 d.1.1.2.1 d.1.1.2.2.1 (K [.agg [.seq (.int .u64) 2 d.1.1.1, .seq (.int .u64) 2 d.1.1.2.1, .int .u64 d.1.1.2.2.1]] []) := by kernel_rfl
theorem E16_1 (F : Nat) (d : sh16_1.den) (K : KF) : evBody Tryz.prog (T16_1 F) (xw []) 10 0 (LT16_1 F) [] code16 Tryz.f16.results.toList (encT sh16_1.vs d.1) (encH sh16_1.h d.2) K = f16_1 F d.1.1.1 d.1.1.2.1 d.1.1.2.2.1 (K [.agg [.seq (.int .u64) 2 d.1.1.1, .seq (.int .u64) 2 d.1.1.2.1, .int .u64 d.1.1.2.2.1]] []) := Eq.mp (by kernel_rfl) (E16_1g F    d K)
theorem S16_1_ok (F : Nat) (o : Summ) (ho : SoundFn Tryz.prog 16 o) : SoundFn Tryz.prog 16 (S16_1 F o) :=
  soundFn_of (fn := Tryz.f16) (c := code16) rfl rfl (by kernel_rfl) tab_nil (by kernel_rfl) (by kernel_rfl) ho (by rw [loops16]; exact loopsOK_nil) (by rw [scopes16]; exact scopesOK_nil) (by rw [ranges16]; exact rangesOK_nil) (E16_1 F)
end Go.Proofs.YtillbabmlfjegaaGreatDoor.X
end

section
namespace Go.Proofs.YtillbabmlfjegaaGreatDoor.X
open Go Go.Proofs.YtillbabmlfjegaaGreatDoor.Ev Go.Proofs
set_option linter.unusedVariables false
set_option linter.unusedSectionVars false
/-! bits.right -/
noncomputable def f64_1 {β : Type} (F : Nat) (a1 : Int) (K0 : Bool → Option β) : Option β := cond (decide (a1 ≥ 0)) (K0 (decide (a1 < 128))) (K0 false)
variable [FZ]
def sh64_1 : Sh := ⟨[.lf (.int .i64)], []⟩
noncomputable def S64_1 (F : Nat) (o : Summ) : Summ := mkS sh64_1 (fun d K => f64_1 F d.1.1 (fun (y0 : Bool) => K [.lf (.bool y0)] [])) o
noncomputable def code64 : Code := bodyOf Tryz.f64
theorem scopes64 : scopesOf code64 = [] := by kernel_rfl
theorem ranges64 : rangesOf code64 = [] := by kernel_rfl
theorem loops64 : loopsOf code64 = [] := by kernel_rfl
theorem enter64 : ∀ args w, (callFunc 64 args).run Tryz.prog w = .ok (.enter 64 args) w := enter_of (fn := Tryz.f64) (by kernel_rfl) (by kernel_rfl) (by kernel_rfl)
noncomputable def T64_1 (F : Nat) : FuncId → Option Summ := tab []
noncomputable def LT64_1 (F : Nat) : Nat → Option LoopS := ltab []
theorem E64_1g (F : Nat)    (d : sh64_1.den) (K : KF) : evBody Tryz.prog (tab []) (xw []) 9 0 (ltab []) [] code64 Tryz.f64.results.toList (encT sh64_1.vs d.1) (encH sh64_1.h d.2) K = (fun (a1 : Int) (K0 : (Bool → Option Res)) => cond (decide (a1 ≥ 0)) (K0 (decide (a1 < 128))) (K0 false)) d.1.1 (fun (y0 : Bool) => K [.lf (.bool y0)] []) := by kernel_rfl
theorem E64_1 (F : Nat) (d : sh64_1.den) (K : KF) : evBody Tryz.prog (T64_1 F) (xw []) 9 0 (LT64_1 F) [] code64 Tryz.f64.results.toList (encT sh64_1.vs d.1) (encH sh64_1.h d.2) K = f64_1 F d.1.1 (fun (y0 : Bool) => K [.lf (.bool y0)] []) := Eq.mp (by kernel_rfl) (E64_1g F    d K)
theorem S64_1_ok (F : Nat) (o : Summ) (ho : SoundFn Tryz.prog 64 o) : SoundFn Tryz.prog 64 (S64_1 F o) :=
  soundFn_of (fn := Tryz.f64) (c := code64) rfl rfl (by kernel_rfl) tab_nil (by kernel_rfl) (by kernel_rfl) ho (by rw [loops64]; exact loopsOK_nil) (by rw [scopes64]; exact scopesOK_nil) (by rw [ranges64]; exact rangesOK_nil) (E64_1 F)
end Go.Proofs.YtillbabmlfjegaaGreatDoor.X
end

section
namespace Go.Proofs.YtillbabmlfjegaaGreatDoor.X
open Go Go.Proofs.YtillbabmlfjegaaGreatDoor.Ev Go.Proofs
set_option linter.unusedVariables false
set_option linter.unusedSectionVars false
/-! bits.Set).With -/
noncomputable def f44_1 {β : Type} (F : Nat) (a1 : List Int) (a2 : Int) (K0 : List Int → Int → Option β) : Option β := f64_1 F a2 (fun x1 => cond (!x1) (K0 [0, 0] 3) (cond (decide ((0 : Int) ≤ IntKind.i64.wrap (a2.tdiv 64) ∧ IntKind.i64.wrap (a2.tdiv 64) < 2)) (cond (decide ((IntKind.i64.wrap (a2.tdiv 64)).toNat < a1.length)) (cond (decide (a2.tmod 64 < 0)) none (cond (decide ((0 : Int) ≤ IntKind.i64.wrap (a2.tdiv 64) ∧ IntKind.i64.wrap (a2.tdiv 64) < 2)) (cond (decide ((IntKind.i64.wrap (a2.tdiv 64)).toNat < a1.length)) (K0 (a1.set ((IntKind.i64.wrap (a2.tdiv 64)).toNat) (ior .u64 (a1.getD ((IntKind.i64.wrap (a2.tdiv 64)).toNat) 0) (ishl .u64 1 (a2.tmod 64)))) 0) none) none)) none) none)) 
variable [FZ]
def sh44_1 : Sh := ⟨[.agg [.seq (.int .u64) 2], .lf (.int .i64)], []⟩
noncomputable def S44_1 (F : Nat) (o : Summ) : Summ := mkS sh44_1 (fun d K => f44_1 F d.1.1.1 d.1.2.1 (fun (y0 : List Int) (y1 : Int) => K [.agg [.seq (.int .u64) 2 y0], .lf (.int .i64 y1)] [])) o
noncomputable def code44 : Code := bodyOf Tryz.f44
theorem scopes44 : scopesOf code44 = [] := by kernel_rfl
theorem ranges44 : rangesOf code44 = [] := by kernel_rfl
theorem loops44 : loopsOf code44 = [] := by kernel_rfl
theorem enter44 : ∀ args w, (callFunc 44 args).run Tryz.prog w = .ok (.enter 44 args) w := enter_of (fn := Tryz.f44) (by kernel_rfl) (by kernel_rfl) (by kernel_rfl)
noncomputable def T44_1 (F : Nat) : FuncId → Option Summ := tab [(64, (S64_1 F noS))]
noncomputable def LT44_1 (F : Nat) : Nat → Option LoopS := ltab []
theorem E44_1g (F : Nat) (c64_1 : Int → (Bool → Option Res) → Option Res)   (d : sh44_1.den) (K : KF) : evBody Tryz.prog (tab [(64, (mkS sh64_1 (fun d K => c64_1 d.1.1 (fun (y0 : Bool) => K [.lf (.bool y0)] [])) noS))]) (xw []) 20 0 (ltab []) [] code44 Tryz.f44.results.toList (encT sh44_1.vs d.1) (encH sh44_1.h d.2) K = (fun (a1 : List Int) (a2 : Int) (K0 : (List Int → Int → Option Res)) => c64_1 a2 (fun x1 => cond (!x1) (K0 [0, 0] 3) (cond (decide ((0 : Int) ≤ IntKind.i64.wrap (a2.tdiv 64) ∧ IntKind.i64.wrap (a2.tdiv 64) < 2)) (cond (decide ((IntKind.i64.wrap (a2.tdiv 64)).toNat < a1.length)) (cond (decide (a2.tmod 64 < 0)) none (cond (decide ((0 : Int) ≤ IntKind.i64.wrap (a2.tdiv 64) ∧ IntKind.i64.wrap (a2.tdiv 64) < 2)) (cond (decide ((IntKind.i64.wrap (a2.tdiv 64)).toNat < a1.length)) (K0 (a1.set ((IntKind.i64.wrap (a2.tdiv 64)).toNat) (ior .u64 (a1.getD ((IntKind.i64.wrap (a2.tdiv 64)).toNat) 0) (ishl .u64 1 (a2.tmod 64)))) 0) none) none)) none) none)) ) d.1.1.1 d.1.2.1 (fun (y0 : List Int) (y1 : Int) => K [.agg [.seq (.int .u64) 2 y0], .lf (.int .i64 y1)] []) := by kernel_rfl
theorem E44_1 (F : Nat) (d : sh44_1.den) (K : KF) : evBody Tryz.prog (T44_1 F) (xw []) 20 0 (LT44_1 F) [] code44 Tryz.f44.results.toList (encT sh44_1.vs d.1) (encH sh44_1.h d.2) K = f44_1 F d.1.1.1 d.1.2.1 (fun (y0 : List Int) (y1 : Int) => K [.agg [.seq (.int .u64) 2 y0], .lf (.int .i64 y1)] []) := Eq.mp (by kernel_rfl) (E44_1g F (f64_1 F)   d K)
theorem S44_1_ok (F : Nat) (o : Summ) (ho : SoundFn Tryz.prog 44 o) : SoundFn Tryz.prog 44 (S44_1 F o) :=
  soundFn_of (fn := Tryz.f44) (c := code44) rfl rfl (by kernel_rfl) (tab_cons (S64_1_ok F _ (noS_sound enter64)) tab_nil) (by kernel_rfl) (by kernel_rfl) ho (by rw [loops44]; exact loopsOK_nil) (by rw [scopes44]; exact scopesOK_nil) (by rw [ranges44]; exact rangesOK_nil) (E44_1 F)
end Go.Proofs.YtillbabmlfjegaaGreatDoor.X
end

section
namespace Go.Proofs.YtillbabmlfjegaaGreatDoor.X
open Go Go.Proofs.YtillbabmlfjegaaGreatDoor.Ev Go.Proofs
set_option linter.unusedVariables false
set_option linter.unusedSectionVars false
/-! dirty.Map).Mark -/
noncomputable def f17_1 {β : Type} (F : Nat) (a1 : List Int) (a2 : List Int) (a3 : Int) (a4 : Int) (K0 : List Int → List Int → Int → Int → Option β) : Option β := f44_1 F a1 a4 (fun x1 x2 => cond (x2 != 0) (K0 [0, 0] [0, 0] 0 x2) (K0 x1 a2 a3 0)) 
variable [FZ]
def sh17_1 : Sh := ⟨[.agg [.seq (.int .u64) 2, .seq (.int .u64) 2, .int .u64], .lf (.int .i64)], []⟩
noncomputable def S17_1 (F : Nat) (o : Summ) : Summ := mkS sh17_1 (fun d K => f17_1 F d.1.1.1 d.1.1.2.1 d.1.1.2.2.1 d.1.2.1 (fun (y0 : List Int) (y1 : List Int) (y2 : Int) (y3 : Int) => K [.agg [.seq (.int .u64) 2 y0, .seq (.int .u64) 2 y1, .int .u64 y2], .lf (.int .i64 y3)] [])) o
noncomputable def code17 : Code := bodyOf Tryz.f17
theorem scopes17 : scopesOf code17 = [] := by kernel_rfl
theorem ranges17 : rangesOf code17 = [] := by kernel_rfl
theorem loops17 : loopsOf code17 = [] := by kernel_rfl
theorem enter17 : ∀ args w, (callFunc 17 args).run Tryz.prog w = .ok (.enter 17 args) w := enter_of (fn := Tryz.f17) (by kernel_rfl) (by kernel_rfl) (by kernel_rfl)
noncomputable def T17_1 (F : Nat) : FuncId → Option Summ := tab [(44, (S44_1 F noS))]
noncomputable def LT17_1 (F : Nat) : Nat → Option LoopS := ltab []
theorem E17_1g (F : Nat) (c44_1 : List Int → Int → (List Int → Int → Option Res) → Option Res)   (d : sh17_1.den) (K : KF) : evBody Tryz.prog (tab [(44, (mkS sh44_1 (fun d K => c44_1 d.1.1.1 d.1.2.1 (fun (y0 : List Int) (y1 : Int) => K [.agg [.seq (.int .u64) 2 y0], .lf (.int .i64 y1)] [])) noS))]) (xw []) 22 0 (ltab []) [] code17 Tryz.f17.results.toList (encT sh17_1.vs d.1) (encH sh17_1.h d.2) K = (fun (a1 : List Int) (a2 : List Int) (a3 : Int) (a4 : Int) (K0 : (List Int → List Int → Int → Int → Option Res)) => c44_1 a1 a4 (fun x1 x2 => cond (x2 != 0) (K0 [0, 0] [0, 0] 0 x2) (K0 x1 a2 a3 0)) ) d.1.1.1 d.1.1.2.1 d.1.1.2.2.1 d.1.2.1 (fun (y0 : List Int) (y1 : List Int) (y2 : Int) (y3 : Int) => K [.agg [.seq (.int .u64) 2 y0, .seq (.int .u64) 2 y1, .int .u64 y2], .lf (.int .i64 y3)] []) := by kernel_rfl
theorem E17_1 (F : Nat) (d : sh17_1.den) (K : KF) : evBody Tryz.prog (T17_1 F) (xw []) 22 0 (LT17_1 F) [] code17 Tryz.f17.results.toList (encT sh17_1.vs d.1) (encH sh17_1.h d.2) K = f17_1 F d.1.1.1 d.1.1.2.1 d.1.1.2.2.1 d.1.2.1 (fun (y0 : List Int) (y1 : List Int) (y2 : Int) (y3 : Int) => K [.agg [.seq (.int .u64) 2 y0, .seq (.int .u64) 2 y1, .int .u64 y2], .lf (.int .i64 y3)] []) := Eq.mp (by kernel_rfl) (E17_1g F (f44_1 F)   d K)
theorem S17_1_ok (F : Nat) (o : Summ) (ho : SoundFn Tryz.prog 17 o) : SoundFn Tryz.prog 17 (S17_1 F o) :=
  soundFn_of (fn := Tryz.f17) (c := code17) rfl rfl (by kernel_rfl) (tab_cons (S44_1_ok F _ (noS_sound enter44)) tab_nil) (by kernel_rfl) (by kernel_rfl) ho (by rw [loops17]; exact loopsOK_nil) (by rw [scopes17]; exact scopesOK_nil) (by rw [ranges17]; exact rangesOK_nil) (E17_1 F)
end Go.Proofs.YtillbabmlfjegaaGreatDoor.X
end

section
namespace Go.Proofs.YtillbabmlfjegaaGreatDoor.X
open Go Go.Proofs.YtillbabmlfjegaaGreatDoor.Ev Go.Proofs
set_option linter.unusedVariables false
set_option linter.unusedSectionVars false
/-! dirty.Map).Freeze -/
noncomputable def f18_1 {β : Type} (F : Nat) (a1 : List Int) (a2 : List Int) (a3 : Int) (a4 : Int) (K0 : List Int → Option β) : Option β := K0 [0, 0]
variable [FZ]
def sh18_1 : Sh := ⟨[.agg [.seq (.int .u64) 2, .seq (.int .u64) 2, .int .u64], .lf (.int .u64)], []⟩
noncomputable def S18_1 (F : Nat) (o : Summ) : Summ := mkS sh18_1 (fun d K => f18_1 F d.1.1.1 d.1.1.2.1 d.1.1.2.2.1 d.1.2.1 (fun (y0 : List Int) => K [.agg [.seq (.int .u64) 2 y0, .seq (.int .u64) 2 d.1.1.1, .int .u64 d.1.2.1]] [])) o
noncomputable def code18 : Code := bodyOf Tryz.f18
theorem scopes18 : scopesOf code18 = [] := by kernel_rfl
theorem ranges18 : rangesOf code18 = [] := by kernel_rfl
theorem loops18 : loopsOf code18 = [] := by kernel_rfl
theorem enter18 : ∀ args w, (callFunc 18 args).run Tryz.prog w = .ok (.enter 18 args) w := enter_of (fn := Tryz.f18) (by kernel_rfl) (by kernel_rfl) (by kernel_rfl)
noncomputable def T18_1 (F : Nat) : FuncId → Option Summ := tab []
noncomputable def LT18_1 (F : Nat) : Nat → Option LoopS := ltab []
theorem E18_1g (F : Nat)    (d : sh18_1.den) (K : KF) : evBody Tryz.prog (tab []) (xw []) 9 0 (ltab []) [] code18 Tryz.f18.results.toList (encT sh18_1.vs d.1) (encH sh18_1.h d.2) K = (fun (a1 : List Int) (a2 : List Int) (a3 : Int) (a4 : Int) (K0 : (List Int → Option Res)) => K0 [0, 0]) d.1.1.1 d.1.1.2.1 d.1.1.2.2.1 d.1.2.1 (fun (y0 : List Int) => K [.agg [.seq (.int .u64) 2 y0, .seq (.int .u64) 2 d.1.1.1, .int .u64 d.1.2.1]] []) := by kernel_rfl
theorem E18_1 (F : Nat) (d : sh18_1.den) (K : KF) : evBody Tryz.prog (T18_1 F) (xw []) 9 0 (LT18_1 F) [] code18 Tryz.f18.results.toList (encT sh18_1.vs d.1) (encH sh18_1.h d.2) K = f18_1 F d.1.1.1 d.1.1.2.1 d.1.1.2.2.1 d.1.2.1 (fun (y0 : List Int) => K [.agg [.seq (.int .u64) 2 y0, .seq (.int .u64) 2 d.1.1.1, .int .u64 d.1.2.1]] []) := Eq.mp (by kernel_rfl) (E18_1g F    d K)
theorem S18_1_ok (F : Nat) (o : Summ) (ho : SoundFn Tryz.prog 18 o) : SoundFn Tryz.prog 18 (S18_1 F o) :=
  soundFn_of (fn := Tryz.f18) (c := code18) rfl rfl (by kernel_rfl) tab_nil (by kernel_rfl) (by kernel_rfl) ho (by rw [loops18]; exact loopsOK_nil) (by rw [scopes18]; exact scopesOK_nil) (by rw [ranges18]; exact rangesOK_nil) (E18_1 F)
end Go.Proofs.YtillbabmlfjegaaGreatDoor.X
end

section
namespace Go.Proofs.YtillbabmlfjegaaGreatDoor.X
open Go Go.Proofs.YtillbabmlfjegaaGreatDoor.Ev Go.Proofs
set_option linter.unusedVariables false
set_option linter.unusedSectionVars false
/-! bits.Of -/
noncomputable def f19_1_l3 {β : Type} (F : Nat) (v1 : Int) (v3 : List Int) (v4 : List Int) (K0 : Int → List Int → List Int → List Int → Option β) (K1 : List Int → Option β) : Nat → Int → List Int → Option β
  | 0, _, _ => none
  | k + 1, v2, v5 => cond (decide (v2 < v1)) (cond (decide ((0 : Int) ≤ v2 ∧ v2 < ((v3.length : Nat) : Int))) (cond (decide (0 + v2.toNat < v3.length)) (f44_1 F v5 (v3.getD (0 + v2.toNat) 0) (fun x6 x7 => cond (x7 != 0) (K0 x7 [0, 0] v5 x6) (f19_1_l3 F v1 v3 v4 K0 K1 k (IntKind.i64.wrap (v2 + 1)) x6)) ) none) none) (K1 v5)
noncomputable def f19_1 {β : Type} (F : Nat) (a1 : List Int) (K0 : List Int → Int → Option β) : Option β := f19_1_l3 F ((a1.length : Nat) : Int) a1 [0, 0] (fun x8 x9 x10 x11 => K0 x9 x8) (fun x12 => K0 x12 0) F 0 [0, 0]
variable [FZ]
def sh19_1 : Sh := ⟨[.lf (.full 0)], [some ⟨none, [.seq (.int .i64) 0]⟩]⟩
noncomputable def S19_1 (F : Nat) (o : Summ) : Summ := mkS sh19_1 (fun d K => f19_1 F d.2.1.2.1 (fun (y0 : List Int) (y1 : Int) => K [.agg [.seq (.int .u64) 2 y0], .lf (.int .i64 y1)] [some ⟨d.2.1.1, [.seq (.int .i64) 0 d.2.1.2.1]⟩])) o
noncomputable def code19 : Code := bodyOf Tryz.f19
noncomputable def b19_0 : Code := cB (cB (cR (cL (cR (cR (code19))))))
theorem scopes19 : scopesOf code19 = [] := by kernel_rfl
theorem ranges19 : rangesOf code19 = [] := by kernel_rfl
theorem loops19 : loopsOf code19 = [b19_0] := by kernel_rfl
theorem enter19 : ∀ args w, (callFunc 19 args).run Tryz.prog w = .ok (.enter 19 args) w := enter_of (fn := Tryz.f19) (by kernel_rfl) (by kernel_rfl) (by kernel_rfl)
noncomputable def T19_1 (F : Nat) : FuncId → Option Summ := tab [(44, (S44_1 F noS))]
def sh19_1_l3 : Sh := ⟨[.lf (.ptr 1 0), .lf (.ptr 2 0), .lf (.full 0), .lf (.int .i64), .lf (.int .i64)], [some ⟨none, [.seq (.int .i64) 0]⟩, some ⟨some false, [.seq (.int .u64) 2]⟩, some ⟨some false, [.seq (.int .u64) 2]⟩]⟩
noncomputable def G19_1_3 (F k : Nat) : LoopS := mkG sh19_1_l3 [2, 4, 9, 10, 11] (outT [(.exit 0, [2, 4]), (.ret, [2, 3])]) (fun d K => f19_1_l3 F d.1.2.2.2.1 d.2.1.2.1 d.2.2.1.2.1 (fun (y0 : Int) (y2 : List Int) (y3 : List Int) (y4 : List Int) => K .ret [.tv (.lf (.ptr 1 0)), .tv (.lf (.int .i64 y0))] [some ⟨d.2.1.1, [.seq (.int .i64) 0 d.2.1.2.1]⟩, some ⟨false, [.seq (.int .u64) 2 y2]⟩, some ⟨false, [.seq (.int .u64) 2 y3]⟩, some ⟨false, [.seq (.int .u64) 2 y4]⟩]) (fun (y2 : List Int) => K (.exit 0) [.tv (.lf (.ptr 1 0)), .tv (.lf (.ptr 2 0))] [some ⟨d.2.1.1, [.seq (.int .i64) 0 d.2.1.2.1]⟩, some ⟨false, [.seq (.int .u64) 2 d.2.2.1.2.1]⟩, some ⟨false, [.seq (.int .u64) 2 y2]⟩]) k d.1.2.2.2.2.1 d.2.2.2.1.2.1) []
noncomputable def LT19_1 (F : Nat) : Nat → Option LoopS := ltab [(3, G19_1_3 F F)]
theorem L19_1_l3g (F k : Nat) (c44_1 : List Int → Int → (List Int → Int → Option Res) → Option Res)  (l3 : Int → List Int → List Int → (Int → List Int → List Int → List Int → Option Res) → (List Int → Option Res) → Nat → Int → List Int → Option Res) (X3 : LoopS) (d : sh19_1_l3.den) (K : KL) : (fun (v1 : Int) (v3 : List Int) (v4 : List Int) (K0 : (Int → List Int → List Int → List Int → Option Res)) (K1 : (List Int → Option Res)) (k : Nat) (v2 : Int) (v5 : List Int) => cond (decide (v2 < v1)) (cond (decide ((0 : Int) ≤ v2 ∧ v2 < ((v3.length : Nat) : Int))) (cond (decide (0 + v2.toNat < v3.length)) (c44_1 v5 (v3.getD (0 + v2.toNat) 0) (fun x6 x7 => cond (x7 != 0) (K0 x7 [0, 0] v5 x6) (l3 v1 v3 v4 K0 K1 k (IntKind.i64.wrap (v2 + 1)) x6)) ) none) none) (K1 v5)) d.1.2.2.2.1 d.2.1.2.1 d.2.2.1.2.1 (fun (y0 : Int) (y2 : List Int) (y3 : List Int) (y4 : List Int) => K .ret [.tv (.lf (.ptr 1 0)), .tv (.lf (.int .i64 y0))] [some ⟨d.2.1.1, [.seq (.int .i64) 0 d.2.1.2.1]⟩, some ⟨false, [.seq (.int .u64) 2 y2]⟩, some ⟨false, [.seq (.int .u64) 2 y3]⟩, some ⟨false, [.seq (.int .u64) 2 y4]⟩]) (fun (y2 : List Int) => K (.exit 0) [.tv (.lf (.ptr 1 0)), .tv (.lf (.ptr 2 0))] [some ⟨d.2.1.1, [.seq (.int .i64) 0 d.2.1.2.1]⟩, some ⟨false, [.seq (.int .u64) 2 d.2.2.1.2.1]⟩, some ⟨false, [.seq (.int .u64) 2 y2]⟩]) k d.1.2.2.2.2.1 d.2.2.2.1.2.1 = roundOf Tryz.prog (tab [(44, (mkS sh44_1 (fun d K => c44_1 d.1.1.1 d.1.2.1 (fun (y0 : List Int) (y1 : Int) => K [.agg [.seq (.int .u64) 2 y0], .lf (.int .i64 y1)] [])) noS))]) (xw []) 28 1 (ltab [(3, X3)]) (mkG sh19_1_l3 [2, 4, 9, 10, 11] (outT [(.exit 0, [2, 4]), (.ret, [2, 3])]) (fun d K => l3 d.1.2.2.2.1 d.2.1.2.1 d.2.2.1.2.1 (fun (y0 : Int) (y2 : List Int) (y3 : List Int) (y4 : List Int) => K .ret [.tv (.lf (.ptr 1 0)), .tv (.lf (.int .i64 y0))] [some ⟨d.2.1.1, [.seq (.int .i64) 0 d.2.1.2.1]⟩, some ⟨false, [.seq (.int .u64) 2 y2]⟩, some ⟨false, [.seq (.int .u64) 2 y3]⟩, some ⟨false, [.seq (.int .u64) 2 y4]⟩]) (fun (y2 : List Int) => K (.exit 0) [.tv (.lf (.ptr 1 0)), .tv (.lf (.ptr 2 0))] [some ⟨d.2.1.1, [.seq (.int .i64) 0 d.2.1.2.1]⟩, some ⟨false, [.seq (.int .u64) 2 d.2.2.1.2.1]⟩, some ⟨false, [.seq (.int .u64) 2 y2]⟩]) k d.1.2.2.2.2.1 d.2.2.2.1.2.1) []) b19_0 (encT sh19_1_l3.vs d.1) (encH sh19_1_l3.h d.2) K := by kernel_rfl
theorem L19_1_3 (F : Nat) : LoopOK Tryz.prog (T19_1 F) (xw []) 28 1 (LT19_1 F) (G19_1_3 F F) b19_0 :=
  loopOK_of (s := sh19_1_l3) (live := [2, 4, 9, 10, 11]) (out := (outT [(.exit 0, [2, 4]), (.ret, [2, 3])])) (mv := []) (fun k d K => f19_1_l3 F d.1.2.2.2.1 d.2.1.2.1 d.2.2.1.2.1 (fun (y0 : Int) (y2 : List Int) (y3 : List Int) (y4 : List Int) => K .ret [.tv (.lf (.ptr 1 0)), .tv (.lf (.int .i64 y0))] [some ⟨d.2.1.1, [.seq (.int .i64) 0 d.2.1.2.1]⟩, some ⟨false, [.seq (.int .u64) 2 y2]⟩, some ⟨false, [.seq (.int .u64) 2 y3]⟩, some ⟨false, [.seq (.int .u64) 2 y4]⟩]) (fun (y2 : List Int) => K (.exit 0) [.tv (.lf (.ptr 1 0)), .tv (.lf (.ptr 2 0))] [some ⟨d.2.1.1, [.seq (.int .i64) 0 d.2.1.2.1]⟩, some ⟨false, [.seq (.int .u64) 2 d.2.2.1.2.1]⟩, some ⟨false, [.seq (.int .u64) 2 y2]⟩]) k d.1.2.2.2.2.1 d.2.2.2.1.2.1) F (fun d K => by kernel_rfl)  (fun k d K => Eq.mp (by kernel_rfl) (L19_1_l3g F k (f44_1 F)  (f19_1_l3 F) (G19_1_3 F F) d K))
theorem E19_1g (F : Nat) (c44_1 : List Int → Int → (List Int → Int → Option Res) → Option Res) (l3 : Int → List Int → List Int → (Int → List Int → List Int → List Int → Option Res) → (List Int → Option Res) → Nat → Int → List Int → Option Res)  (d : sh19_1.den) (K : KF) : evBody Tryz.prog (tab [(44, (mkS sh44_1 (fun d K => c44_1 d.1.1.1 d.1.2.1 (fun (y0 : List Int) (y1 : Int) => K [.agg [.seq (.int .u64) 2 y0], .lf (.int .i64 y1)] [])) noS))]) (xw []) 28 1 (ltab [(3, mkG sh19_1_l3 [2, 4, 9, 10, 11] (outT [(.exit 0, [2, 4]), (.ret, [2, 3])]) (fun d K => l3 d.1.2.2.2.1 d.2.1.2.1 d.2.2.1.2.1 (fun (y0 : Int) (y2 : List Int) (y3 : List Int) (y4 : List Int) => K .ret [.tv (.lf (.ptr 1 0)), .tv (.lf (.int .i64 y0))] [some ⟨d.2.1.1, [.seq (.int .i64) 0 d.2.1.2.1]⟩, some ⟨false, [.seq (.int .u64) 2 y2]⟩, some ⟨false, [.seq (.int .u64) 2 y3]⟩, some ⟨false, [.seq (.int .u64) 2 y4]⟩]) (fun (y2 : List Int) => K (.exit 0) [.tv (.lf (.ptr 1 0)), .tv (.lf (.ptr 2 0))] [some ⟨d.2.1.1, [.seq (.int .i64) 0 d.2.1.2.1]⟩, some ⟨false, [.seq (.int .u64) 2 d.2.2.1.2.1]⟩, some ⟨false, [.seq (.int .u64) 2 y2]⟩]) F d.1.2.2.2.2.1 d.2.2.2.1.2.1) [])]) [] code19 Tryz.f19.results.toList (encT sh19_1.vs d.1) (encH sh19_1.h d.2) K = (fun (a1 : List Int) (K0 : (List Int → Int → Option Res)) => l3 ((a1.length : Nat) : Int) a1 [0, 0] (fun x8 x9 x10 x11 => K0 x9 x8) (fun x12 => K0 x12 0) F 0 [0, 0]) d.2.1.2.1 (fun (y0 : List Int) (y1 : Int) => K [.agg [.seq (.int .u64) 2 y0], .lf (.int .i64 y1)] [some ⟨d.2.1.1, [.seq (.int .i64) 0 d.2.1.2.1]⟩]) := by kernel_rfl
theorem E19_1 (F : Nat) (d : sh19_1.den) (K : KF) : evBody Tryz.prog (T19_1 F) (xw []) 28 1 (LT19_1 F) [] code19 Tryz.f19.results.toList (encT sh19_1.vs d.1) (encH sh19_1.h d.2) K = f19_1 F d.2.1.2.1 (fun (y0 : List Int) (y1 : Int) => K [.agg [.seq (.int .u64) 2 y0], .lf (.int .i64 y1)] [some ⟨d.2.1.1, [.seq (.int .i64) 0 d.2.1.2.1]⟩]) := Eq.mp (by kernel_rfl) (E19_1g F (f44_1 F) (f19_1_l3 F)  d K)
theorem S19_1_ok (F : Nat) (o : Summ) (ho : SoundFn Tryz.prog 19 o) : SoundFn Tryz.prog 19 (S19_1 F o) :=
  soundFn_of (fn := Tryz.f19) (c := code19) rfl rfl (by kernel_rfl) (tab_cons (S44_1_ok F _ (noS_sound enter44)) tab_nil) (by kernel_rfl) (by kernel_rfl) ho (by rw [loops19]; exact (loopsOK_cons (by kernel_rfl) (L19_1_3 F) loopsOK_nil)) (by rw [scopes19]; exact scopesOK_nil) (by rw [ranges19]; exact rangesOK_nil) (E19_1 F)
end Go.Proofs.YtillbabmlfjegaaGreatDoor.X
end

section
namespace Go.Proofs.YtillbabmlfjegaaGreatDoor.X
open Go Go.Proofs.YtillbabmlfjegaaGreatDoor.Ev Go.Proofs
set_option linter.unusedVariables false
set_option linter.unusedSectionVars false
/-! bits.Set).Or -/
noncomputable def f45_1_l4 [FZ] {β : Type} (F : Nat) (v3 : List Int) (v4 : List Int) (K0 : List Int → Option β) : Nat → Int → List Int → Option β
  | 0, _, _ => none
  | k + 1, v1, v2 => cond (decide (v1 < 2)) (cond (decide ((0 : Int) ≤ v1 ∧ v1 < 2)) (cond (decide (v1.toNat < v2.length)) (cond (decide ((0 : Int) ≤ v1 ∧ v1 < 2)) (cond (decide (v1.toNat < v3.length)) (cond (decide ((0 : Int) ≤ v1 ∧ v1 < 2)) (cond (decide (v1.toNat < v2.length)) (f45_1_l4 F v3 v4 K0 k (IntKind.i64.wrap (v1 + 1)) (v2.set v1.toNat (ior .u64 (v2.getD v1.toNat 0) (v3.getD v1.toNat 0)))) none) none) none) none) none) none) (K0 v2)
noncomputable def f45_1 [FZ] {β : Type} (F : Nat) (a1 : List Int) (a2 : List Int) (K0 : List Int → Option β) : Option β := cond (lbeq (.int .u64) a1 a2) (K0 a1) (f45_1_l4 F a2 [0, 0] (fun x5 => K0 x5) F 0 a1)
variable [FZ]
def sh45_1 : Sh := ⟨[.agg [.seq (.int .u64) 2], .agg [.seq (.int .u64) 2]], []⟩
noncomputable def S45_1 (F : Nat) (o : Summ) : Summ := mkS sh45_1 (fun d K => f45_1 F d.1.1.1 d.1.2.1.1 (fun (y0 : List Int) => K [.agg [.seq (.int .u64) 2 y0]] [])) o
noncomputable def code45 : Code := bodyOf Tryz.f45
noncomputable def b45_0 : Code := cB (cB (cR (cL (cR (cR (code45))))))
theorem scopes45 : scopesOf code45 = [] := by kernel_rfl
theorem ranges45 : rangesOf code45 = [] := by kernel_rfl
theorem loops45 : loopsOf code45 = [b45_0] := by kernel_rfl
theorem enter45 : ∀ args w, (callFunc 45 args).run Tryz.prog w = .ok (.enter 45 args) w := enter_of (fn := Tryz.f45) (by kernel_rfl) (by kernel_rfl) (by kernel_rfl)
noncomputable def T45_1 (F : Nat) : FuncId → Option Summ := tab []
def sh45_1_l4 : Sh := ⟨[.lf (.ptr 0 0), .lf (.ptr 1 0), .lf (.ptr 2 0), .lf (.int .i64)], [some ⟨some false, [.seq (.int .u64) 2]⟩, some ⟨some false, [.seq (.int .u64) 2]⟩, some ⟨some false, [.seq (.int .u64) 2]⟩]⟩
noncomputable def G45_1_4 (F k : Nat) : LoopS := mkG sh45_1_l4 [2, 3, 4, 10] (outT [(.exit 0, [2, 4])]) (fun d K => f45_1_l4 F d.2.2.1.2.1 d.2.2.2.1.2.1 (fun (y0 : List Int) => K (.exit 0) [.tv (.lf (.ptr 0 0)), .tv (.lf (.ptr 2 0))] [some ⟨false, [.seq (.int .u64) 2 y0]⟩, some ⟨false, [.seq (.int .u64) 2 d.2.2.1.2.1]⟩, some ⟨false, [.seq (.int .u64) 2 d.2.2.2.1.2.1]⟩]) k d.1.2.2.2.1 d.2.1.2.1) []
noncomputable def LT45_1 (F : Nat) : Nat → Option LoopS := ltab [(4, G45_1_4 F F)]
theorem L45_1_l4g (F k : Nat)   (l4 : List Int → List Int → (List Int → Option Res) → Nat → Int → List Int → Option Res) (X4 : LoopS) (d : sh45_1_l4.den) (K : KL) : (fun (v3 : List Int) (v4 : List Int) (K0 : (List Int → Option Res)) (k : Nat) (v1 : Int) (v2 : List Int) => cond (decide (v1 < 2)) (cond (decide ((0 : Int) ≤ v1 ∧ v1 < 2)) (cond (decide (v1.toNat < v2.length)) (cond (decide ((0 : Int) ≤ v1 ∧ v1 < 2)) (cond (decide (v1.toNat < v3.length)) (cond (decide ((0 : Int) ≤ v1 ∧ v1 < 2)) (cond (decide (v1.toNat < v2.length)) (l4 v3 v4 K0 k (IntKind.i64.wrap (v1 + 1)) (v2.set v1.toNat (ior .u64 (v2.getD v1.toNat 0) (v3.getD v1.toNat 0)))) none) none) none) none) none) none) (K0 v2)) d.2.2.1.2.1 d.2.2.2.1.2.1 (fun (y0 : List Int) => K (.exit 0) [.tv (.lf (.ptr 0 0)), .tv (.lf (.ptr 2 0))] [some ⟨false, [.seq (.int .u64) 2 y0]⟩, some ⟨false, [.seq (.int .u64) 2 d.2.2.1.2.1]⟩, some ⟨false, [.seq (.int .u64) 2 d.2.2.2.1.2.1]⟩]) k d.1.2.2.2.1 d.2.1.2.1 = roundOf Tryz.prog (tab []) (xw []) 23 0 (ltab [(4, X4)]) (mkG sh45_1_l4 [2, 3, 4, 10] (outT [(.exit 0, [2, 4])]) (fun d K => l4 d.2.2.1.2.1 d.2.2.2.1.2.1 (fun (y0 : List Int) => K (.exit 0) [.tv (.lf (.ptr 0 0)), .tv (.lf (.ptr 2 0))] [some ⟨false, [.seq (.int .u64) 2 y0]⟩, some ⟨false, [.seq (.int .u64) 2 d.2.2.1.2.1]⟩, some ⟨false, [.seq (.int .u64) 2 d.2.2.2.1.2.1]⟩]) k d.1.2.2.2.1 d.2.1.2.1) []) b45_0 (encT sh45_1_l4.vs d.1) (encH sh45_1_l4.h d.2) K := by kernel_rfl
theorem L45_1_4 (F : Nat) : LoopOK Tryz.prog (T45_1 F) (xw []) 23 0 (LT45_1 F) (G45_1_4 F F) b45_0 :=
  loopOK_of (s := sh45_1_l4) (live := [2, 3, 4, 10]) (out := (outT [(.exit 0, [2, 4])])) (mv := []) (fun k d K => f45_1_l4 F d.2.2.1.2.1 d.2.2.2.1.2.1 (fun (y0 : List Int) => K (.exit 0) [.tv (.lf (.ptr 0 0)), .tv (.lf (.ptr 2 0))] [some ⟨false, [.seq (.int .u64) 2 y0]⟩, some ⟨false, [.seq (.int .u64) 2 d.2.2.1.2.1]⟩, some ⟨false, [.seq (.int .u64) 2 d.2.2.2.1.2.1]⟩]) k d.1.2.2.2.1 d.2.1.2.1) F (fun d K => by kernel_rfl)  (fun k d K => Eq.mp (by kernel_rfl) (L45_1_l4g F k   (f45_1_l4 F) (G45_1_4 F F) d K))
theorem E45_1g (F : Nat)  (l4 : List Int → List Int → (List Int → Option Res) → Nat → Int → List Int → Option Res)  (d : sh45_1.den) (K : KF) : evBody Tryz.prog (tab []) (xw []) 23 0 (ltab [(4, mkG sh45_1_l4 [2, 3, 4, 10] (outT [(.exit 0, [2, 4])]) (fun d K => l4 d.2.2.1.2.1 d.2.2.2.1.2.1 (fun (y0 : List Int) => K (.exit 0) [.tv (.lf (.ptr 0 0)), .tv (.lf (.ptr 2 0))] [some ⟨false, [.seq (.int .u64) 2 y0]⟩, some ⟨false, [.seq (.int .u64) 2 d.2.2.1.2.1]⟩, some ⟨false, [.seq (.int .u64) 2 d.2.2.2.1.2.1]⟩]) F d.1.2.2.2.1 d.2.1.2.1) [])]) [] code45 Tryz.f45.results.toList (encT sh45_1.vs d.1) (encH sh45_1.h d.2) K = (fun (a1 : List Int) (a2 : List Int) (K0 : (List Int → Option Res)) => cond (lbeq (.int .u64) a1 a2) (K0 a1) (l4 a2 [0, 0] (fun x5 => K0 x5) F 0 a1)) d.1.1.1 d.1.2.1.1 (fun (y0 : List Int) => K [.agg [.seq (.int .u64) 2 y0]] []) := by kernel_rfl
theorem E45_1 (F : Nat) (d : sh45_1.den) (K : KF) : evBody Tryz.prog (T45_1 F) (xw []) 23 0 (LT45_1 F) [] code45 Tryz.f45.results.toList (encT sh45_1.vs d.1) (encH sh45_1.h d.2) K = f45_1 F d.1.1.1 d.1.2.1.1 (fun (y0 : List Int) => K [.agg [.seq (.int .u64) 2 y0]] []) := Eq.mp (by kernel_rfl) (E45_1g F  (f45_1_l4 F)  d K)
theorem S45_1_ok (F : Nat) (o : Summ) (ho : SoundFn Tryz.prog 45 o) : SoundFn Tryz.prog 45 (S45_1 F o) :=
  soundFn_of (fn := Tryz.f45) (c := code45) rfl rfl (by kernel_rfl) tab_nil (by kernel_rfl) (by kernel_rfl) ho (by rw [loops45]; exact (loopsOK_cons (by kernel_rfl) (L45_1_4 F) loopsOK_nil)) (by rw [scopes45]; exact scopesOK_nil) (by rw [ranges45]; exact rangesOK_nil) (E45_1 F)
end Go.Proofs.YtillbabmlfjegaaGreatDoor.X
end

section
namespace Go.Proofs.YtillbabmlfjegaaGreatDoor.X
open Go Go.Proofs.YtillbabmlfjegaaGreatDoor.Ev Go.Proofs
set_option linter.unusedVariables false
set_option linter.unusedSectionVars false
/-! dirty.Map).Merge -/
noncomputable def f20_1 [FZ] {β : Type} (F : Nat) (a1 : List Int) (a2 : List Int) (a3 : Int) (K0 : List Int → List Int → Option β) : Option β := f45_1 F a1 a2 (fun x1 => K0 x1 [0, 0]) 
variable [FZ]
def sh20_1 : Sh := ⟨[.agg [.seq (.int .u64) 2, .seq (.int .u64) 2, .int .u64]], []⟩
noncomputable def S20_1 (F : Nat) (o : Summ) : Summ := mkS sh20_1 (fun d K => f20_1 F d.1.1.1 d.1.1.2.1 d.1.1.2.2.1 (fun (y0 : List Int) (y1 : List Int) => K [.agg [.seq (.int .u64) 2 y0, .seq (.int .u64) 2 y1, .int .u64 0]] [])) o
noncomputable def code20 : Code := bodyOf Tryz.f20
theorem scopes20 : scopesOf code20 = [] := by kernel_rfl
theorem ranges20 : rangesOf code20 = [] := by kernel_rfl
theorem loops20 : loopsOf code20 = [] := by kernel_rfl
theorem enter20 : ∀ args w, (callFunc 20 args).run Tryz.prog w = .ok (.enter 20 args) w := enter_of (fn := Tryz.f20) (by kernel_rfl) (by kernel_rfl) (by kernel_rfl)
noncomputable def T20_1 (F : Nat) : FuncId → Option Summ := tab [(45, (S45_1 F noS))]
noncomputable def LT20_1 (F : Nat) : Nat → Option LoopS := ltab []
theorem E20_1g (F : Nat) (c45_1 : List Int → List Int → (List Int → Option Res) → Option Res)   (d : sh20_1.den) (K : KF) : evBody Tryz.prog (tab [(45, (mkS sh45_1 (fun d K => c45_1 d.1.1.1 d.1.2.1.1 (fun (y0 : List Int) => K [.agg [.seq (.int .u64) 2 y0]] [])) noS))]) (xw []) 9 0 (ltab []) [] code20 Tryz.f20.results.toList (encT sh20_1.vs d.1) (encH sh20_1.h d.2) K = (fun (a1 : List Int) (a2 : List Int) (a3 : Int) (K0 : (List Int → List Int → Option Res)) => c45_1 a1 a2 (fun x1 => K0 x1 [0, 0]) ) d.1.1.1 d.1.1.2.1 d.1.1.2.2.1 (fun (y0 : List Int) (y1 : List Int) => K [.agg [.seq (.int .u64) 2 y0, .seq (.int .u64) 2 y1, .int .u64 0]] []) := by kernel_rfl
theorem E20_1 (F : Nat) (d : sh20_1.den) (K : KF) : evBody Tryz.prog (T20_1 F) (xw []) 9 0 (LT20_1 F) [] code20 Tryz.f20.results.toList (encT sh20_1.vs d.1) (encH sh20_1.h d.2) K = f20_1 F d.1.1.1 d.1.1.2.1 d.1.1.2.2.1 (fun (y0 : List Int) (y1 : List Int) => K [.agg [.seq (.int .u64) 2 y0, .seq (.int .u64) 2 y1, .int .u64 0]] []) := Eq.mp (by kernel_rfl) (E20_1g F (f45_1 F)   d K)
theorem S20_1_ok (F : Nat) (o : Summ) (ho : SoundFn Tryz.prog 20 o) : SoundFn Tryz.prog 20 (S20_1 F o) :=
  soundFn_of (fn := Tryz.f20) (c := code20) rfl rfl (by kernel_rfl) (tab_cons (S45_1_ok F _ (noS_sound enter45)) tab_nil) (by kernel_rfl) (by kernel_rfl) ho (by rw [loops20]; exact loopsOK_nil) (by rw [scopes20]; exact scopesOK_nil) (by rw [ranges20]; exact rangesOK_nil) (E20_1 F)
end Go.Proofs.YtillbabmlfjegaaGreatDoor.X
end

section
namespace Go.Proofs.YtillbabmlfjegaaGreatDoor.X
open Go Go.Proofs.YtillbabmlfjegaaGreatDoor.Ev Go.Proofs
set_option linter.unusedVariables false
set_option linter.unusedSectionVars false
/-! dirty.Map).Close -/
noncomputable def f21_1 {β : Type} (F : Nat) (a1 : List Int) (a2 : List Int) (a3 : Int) (K0 : List Int → Option β) : Option β := K0 [0, 0]
variable [FZ]
def sh21_1 : Sh := ⟨[.agg [.seq (.int .u64) 2, .seq (.int .u64) 2, .int .u64]], []⟩
noncomputable def S21_1 (F : Nat) (o : Summ) : Summ := mkS sh21_1 (fun d K => f21_1 F d.1.1.1 d.1.1.2.1 d.1.1.2.2.1 (fun (y1 : List Int) => K [.agg [.seq (.int .u64) 2 d.1.1.1, .seq (.int .u64) 2 y1, .int .u64 0]] [])) o
noncomputable def code21 : Code := bodyOf Tryz.f21
theorem scopes21 : scopesOf code21 = [] := by kernel_rfl
theorem ranges21 : rangesOf code21 = [] := by kernel_rfl
theorem loops21 : loopsOf code21 = [] := by kernel_rfl
theorem enter21 : ∀ args w, (callFunc 21 args).run Tryz.prog w = .ok (.enter 21 args) w := enter_of (fn := Tryz.f21) (by kernel_rfl) (by kernel_rfl) (by kernel_rfl)
noncomputable def T21_1 (F : Nat) : FuncId → Option Summ := tab []
noncomputable def LT21_1 (F : Nat) : Nat → Option LoopS := ltab []
theorem E21_1g (F : Nat)    (d : sh21_1.den) (K : KF) : evBody Tryz.prog (tab []) (xw []) 6 0 (ltab []) [] code21 Tryz.f21.results.toList (encT sh21_1.vs d.1) (encH sh21_1.h d.2) K = (fun (a1 : List Int) (a2 : List Int) (a3 : Int) (K0 : (List Int → Option Res)) => K0 [0, 0]) d.1.1.1 d.1.1.2.1 d.1.1.2.2.1 (fun (y1 : List Int) => K [.agg [.seq (.int .u64) 2 d.1.1.1, .seq (.int .u64) 2 y1, .int .u64 0]] []) := by kernel_rfl
theorem E21_1 (F : Nat) (d : sh21_1.den) (K : KF) : evBody Tryz.prog (T21_1 F) (xw []) 6 0 (LT21_1 F) [] code21 Tryz.f21.results.toList (encT sh21_1.vs d.1) (encH sh21_1.h d.2) K = f21_1 F d.1.1.1 d.1.1.2.1 d.1.1.2.2.1 (fun (y1 : List Int) => K [.agg [.seq (.int .u64) 2 d.1.1.1, .seq (.int .u64) 2 y1, .int .u64 0]] []) := Eq.mp (by kernel_rfl) (E21_1g F    d K)
theorem S21_1_ok (F : Nat) (o : Summ) (ho : SoundFn Tryz.prog 21 o) : SoundFn Tryz.prog 21 (S21_1 F o) :=
  soundFn_of (fn := Tryz.f21) (c := code21) rfl rfl (by kernel_rfl) tab_nil (by kernel_rfl) (by kernel_rfl) ho (by rw [loops21]; exact loopsOK_nil) (by rw [scopes21]; exact scopesOK_nil) (by rw [ranges21]; exact rangesOK_nil) (E21_1 F)
end Go.Proofs.YtillbabmlfjegaaGreatDoor.X
end

section
namespace Go.Proofs.YtillbabmlfjegaaGreatDoor.X
open Go Go.Proofs.YtillbabmlfjegaaGreatDoor.Ev Go.Proofs
set_option linter.unusedVariables false
set_option linter.unusedSectionVars false
/-! pentimentolaw11.known -/
noncomputable def f4_1 [FZ] {β : Type} (F : Nat)  (K0 : Bool → Option β) : Option β := f17_1 F [0, 0] [0, 0] 0 3 (fun x1 x2 x3 x4 => f18_1 F x1 x2 x3 1 (fun x5 => f17_1 F x5 x1 1 4 (fun x6 x7 x8 x9 => f19_1 F [3, 4] (fun x10 x11 => cond (x4 == 0) (cond (x9 == 0) (cond (x8 == 1) (f20_1 F x6 x7 x8 (fun x12 x13 => cond ((lbeq (.int .u64) x12 x10) && ((lbeq (.int .u64) x13 [0, 0]) && true)) (f21_1 F x6 x7 x8 (fun x14 => K0 (lbeq (.int .u64) x14 [0, 0])) ) (K0 false)) ) (K0 false)) (K0 false)) (K0 false)) ) ) ) 
variable [FZ]
def sh4_1 : Sh := ⟨[], []⟩
noncomputable def S4_1 (F : Nat) (o : Summ) : Summ := mkS sh4_1 (fun d K => f4_1 F (fun (y0 : Bool) => K [.lf (.bool y0)] [])) o
noncomputable def code4 : Code := bodyOf Tryz.f4
theorem scopes4 : scopesOf code4 = [] := by kernel_rfl
theorem ranges4 : rangesOf code4 = [] := by kernel_rfl
theorem loops4 : loopsOf code4 = [] := by kernel_rfl
theorem enter4 : ∀ args w, (callFunc 4 args).run Tryz.prog w = .ok (.enter 4 args) w := enter_of (fn := Tryz.f4) (by kernel_rfl) (by kernel_rfl) (by kernel_rfl)
noncomputable def T4_1 (F : Nat) : FuncId → Option Summ := tab [(17, (S17_1 F noS)), (18, (S18_1 F noS)), (19, (S19_1 F noS)), (20, (S20_1 F noS)), (21, (S21_1 F noS))]
noncomputable def LT4_1 (F : Nat) : Nat → Option LoopS := ltab []
theorem E4_1g (F : Nat) (c17_1 : List Int → List Int → Int → Int → (List Int → List Int → Int → Int → Option Res) → Option Res) (c18_1 : List Int → List Int → Int → Int → (List Int → Option Res) → Option Res) (c19_1 : List Int → (List Int → Int → Option Res) → Option Res) (c20_1 : List Int → List Int → Int → (List Int → List Int → Option Res) → Option Res) (c21_1 : List Int → List Int → Int → (List Int → Option Res) → Option Res)   (d : sh4_1.den) (K : KF) : evBody Tryz.prog (tab [(17, (mkS sh17_1 (fun d K => c17_1 d.1.1.1 d.1.1.2.1 d.1.1.2.2.1 d.1.2.1 (fun (y0 : List Int) (y1 : List Int) (y2 : Int) (y3 : Int) => K [.agg [.seq (.int .u64) 2 y0, .seq (.int .u64) 2 y1, .int .u64 y2], .lf (.int .i64 y3)] [])) noS)), (18, (mkS sh18_1 (fun d K => c18_1 d.1.1.1 d.1.1.2.1 d.1.1.2.2.1 d.1.2.1 (fun (y0 : List Int) => K [.agg [.seq (.int .u64) 2 y0, .seq (.int .u64) 2 d.1.1.1, .int .u64 d.1.2.1]] [])) noS)), (19, (mkS sh19_1 (fun d K => c19_1 d.2.1.2.1 (fun (y0 : List Int) (y1 : Int) => K [.agg [.seq (.int .u64) 2 y0], .lf (.int .i64 y1)] [some ⟨d.2.1.1, [.seq (.int .i64) 0 d.2.1.2.1]⟩])) noS)), (20, (mkS sh20_1 (fun d K => c20_1 d.1.1.1 d.1.1.2.1 d.1.1.2.2.1 (fun (y0 : List Int) (y1 : List Int) => K [.agg [.seq (.int .u64) 2 y0, .seq (.int .u64) 2 y1, .int .u64 0]] [])) noS)), (21, (mkS sh21_1 (fun d K => c21_1 d.1.1.1 d.1.1.2.1 d.1.1.2.2.1 (fun (y1 : List Int) => K [.agg [.seq (.int .u64) 2 d.1.1.1, .seq (.int .u64) 2 y1, .int .u64 0]] [])) noS))]) (xw []) 48 0 (ltab []) [] code4 Tryz.f4.results.toList (encT sh4_1.vs d.1) (encH sh4_1.h d.2) K = (fun (K0 : (Bool → Option Res)) => c17_1 [0, 0] [0, 0] 0 3 (fun x1 x2 x3 x4 => c18_1 x1 x2 x3 1 (fun x5 => c17_1 x5 x1 1 4 (fun x6 x7 x8 x9 => c19_1 [3, 4] (fun x10 x11 => cond (x4 == 0) (cond (x9 == 0) (cond (x8 == 1) (c20_1 x6 x7 x8 (fun x12 x13 => cond ((lbeq (.int .u64) x12 x10) && ((lbeq (.int .u64) x13 [0, 0]) && true)) (c21_1 x6 x7 x8 (fun x14 => K0 (lbeq (.int .u64) x14 [0, 0])) ) (K0 false)) ) (K0 false)) (K0 false)) (K0 false)) ) ) ) ) (fun (y0 : Bool) => K [.lf (.bool y0)] []) := by kernel_rfl
theorem E4_1 (F : Nat) (d : sh4_1.den) (K : KF) : evBody Tryz.prog (T4_1 F) (xw []) 48 0 (LT4_1 F) [] code4 Tryz.f4.results.toList (encT sh4_1.vs d.1) (encH sh4_1.h d.2) K = f4_1 F (fun (y0 : Bool) => K [.lf (.bool y0)] []) := Eq.mp (by kernel_rfl) (E4_1g F (f17_1 F) (f18_1 F) (f19_1 F) (f20_1 F) (f21_1 F)   d K)
theorem S4_1_ok (F : Nat) (o : Summ) (ho : SoundFn Tryz.prog 4 o) : SoundFn Tryz.prog 4 (S4_1 F o) :=
  soundFn_of (fn := Tryz.f4) (c := code4) rfl rfl (by kernel_rfl) (tab_cons (S17_1_ok F _ (noS_sound enter17)) (tab_cons (S18_1_ok F _ (noS_sound enter18)) (tab_cons (S19_1_ok F _ (noS_sound enter19)) (tab_cons (S20_1_ok F _ (noS_sound enter20)) (tab_cons (S21_1_ok F _ (noS_sound enter21)) tab_nil))))) (by kernel_rfl) (by kernel_rfl) ho (by rw [loops4]; exact loopsOK_nil) (by rw [scopes4]; exact scopesOK_nil) (by rw [ranges4]; exact rangesOK_nil) (E4_1 F)
end Go.Proofs.YtillbabmlfjegaaGreatDoor.X
end

section
namespace Go.Proofs.YtillbabmlfjegaaGreatDoor.X
open Go Go.Proofs.YtillbabmlfjegaaGreatDoor.Ev Go.Proofs
set_option linter.unusedVariables false
set_option linter.unusedSectionVars false
/-! bits.Mul64 -/
noncomputable def f66_1 {β : Type} (F : Nat) (a1 : Int) (a2 : Int) (K0 : Int → Int → Option β) : Option β := K0 (IntKind.u64.wrap ((IntKind.u64.wrap ((IntKind.u64.wrap ((ishr .u64 a1 32) * (ishr .u64 a2 32))) + (ishr .u64 (IntKind.u64.wrap ((IntKind.u64.wrap ((ishr .u64 a1 32) * (iand .u64 a2 4294967295))) + (ishr .u64 (IntKind.u64.wrap ((iand .u64 a1 4294967295) * (iand .u64 a2 4294967295))) 32))) 32))) + (ishr .u64 (IntKind.u64.wrap ((iand .u64 (IntKind.u64.wrap ((IntKind.u64.wrap ((ishr .u64 a1 32) * (iand .u64 a2 4294967295))) + (ishr .u64 (IntKind.u64.wrap ((iand .u64 a1 4294967295) * (iand .u64 a2 4294967295))) 32))) 4294967295) + (IntKind.u64.wrap ((iand .u64 a1 4294967295) * (ishr .u64 a2 32))))) 32))) (IntKind.u64.wrap (a1 * a2))
variable [FZ]
def sh66_1 : Sh := ⟨[.lf (.int .u64), .lf (.int .u64)], []⟩
noncomputable def S66_1 (F : Nat) (o : Summ) : Summ := mkS sh66_1 (fun d K => f66_1 F d.1.1 d.1.2.1 (fun (y0 : Int) (y1 : Int) => K [.lf (.int .u64 y0), .lf (.int .u64 y1)] [])) o
noncomputable def code66 : Code := bodyOf Tryz.f66
theorem scopes66 : scopesOf code66 = [] := by kernel_rfl
theorem ranges66 : rangesOf code66 = [] := by kernel_rfl
theorem loops66 : loopsOf code66 = [] := by kernel_rfl
theorem enter66 : ∀ args w, (callFunc 66 args).run Tryz.prog w = .ok (.enter 66 args) w := enter_of (fn := Tryz.f66) (by kernel_rfl) (by kernel_rfl) (by kernel_rfl)
noncomputable def T66_1 (F : Nat) : FuncId → Option Summ := tab []
noncomputable def LT66_1 (F : Nat) : Nat → Option LoopS := ltab []
theorem E66_1g (F : Nat)    (d : sh66_1.den) (K : KF) : evBody Tryz.prog (tab []) (xw []) 51 0 (ltab []) [] code66 Tryz.f66.results.toList (encT sh66_1.vs d.1) (encH sh66_1.h d.2) K = (fun (a1 : Int) (a2 : Int) (K0 : (Int → Int → Option Res)) => K0 (IntKind.u64.wrap ((IntKind.u64.wrap ((IntKind.u64.wrap ((ishr .u64 a1 32) * (ishr .u64 a2 32))) + (ishr .u64 (IntKind.u64.wrap ((IntKind.u64.wrap ((ishr .u64 a1 32) * (iand .u64 a2 4294967295))) + (ishr .u64 (IntKind.u64.wrap ((iand .u64 a1 4294967295) * (iand .u64 a2 4294967295))) 32))) 32))) + (ishr .u64 (IntKind.u64.wrap ((iand .u64 (IntKind.u64.wrap ((IntKind.u64.wrap ((ishr .u64 a1 32) * (iand .u64 a2 4294967295))) + (ishr .u64 (IntKind.u64.wrap ((iand .u64 a1 4294967295) * (iand .u64 a2 4294967295))) 32))) 4294967295) + (IntKind.u64.wrap ((iand .u64 a1 4294967295) * (ishr .u64 a2 32))))) 32))) (IntKind.u64.wrap (a1 * a2))) d.1.1 d.1.2.1 (fun (y0 : Int) (y1 : Int) => K [.lf (.int .u64 y0), .lf (.int .u64 y1)] []) := by kernel_rfl
theorem E66_1 (F : Nat) (d : sh66_1.den) (K : KF) : evBody Tryz.prog (T66_1 F) (xw []) 51 0 (LT66_1 F) [] code66 Tryz.f66.results.toList (encT sh66_1.vs d.1) (encH sh66_1.h d.2) K = f66_1 F d.1.1 d.1.2.1 (fun (y0 : Int) (y1 : Int) => K [.lf (.int .u64 y0), .lf (.int .u64 y1)] []) := Eq.mp (by kernel_rfl) (E66_1g F    d K)
theorem S66_1_ok (F : Nat) (o : Summ) (ho : SoundFn Tryz.prog 66 o) : SoundFn Tryz.prog 66 (S66_1 F o) :=
  soundFn_of (fn := Tryz.f66) (c := code66) rfl rfl (by kernel_rfl) tab_nil (by kernel_rfl) (by kernel_rfl) ho (by rw [loops66]; exact loopsOK_nil) (by rw [scopes66]; exact scopesOK_nil) (by rw [ranges66]; exact rangesOK_nil) (E66_1 F)
end Go.Proofs.YtillbabmlfjegaaGreatDoor.X
end

section
namespace Go.Proofs.YtillbabmlfjegaaGreatDoor.X
open Go Go.Proofs.YtillbabmlfjegaaGreatDoor.Ev Go.Proofs
set_option linter.unusedVariables false
set_option linter.unusedSectionVars false
/-! bits.Mul -/
noncomputable def f46_1 {β : Type} (F : Nat) (a1 : Int) (a2 : Int) (K0 : Int → Int → Option β) : Option β := f66_1 F a1 a2 (fun x1 x2 => K0 x1 x2) 
variable [FZ]
def sh46_1 : Sh := ⟨[.lf (.int .u64), .lf (.int .u64)], []⟩
noncomputable def S46_1 (F : Nat) (o : Summ) : Summ := mkS sh46_1 (fun d K => f46_1 F d.1.1 d.1.2.1 (fun (y0 : Int) (y1 : Int) => K [.lf (.int .u64 y0), .lf (.int .u64 y1)] [])) o
noncomputable def code46 : Code := bodyOf Tryz.f46
theorem scopes46 : scopesOf code46 = [] := by kernel_rfl
theorem ranges46 : rangesOf code46 = [] := by kernel_rfl
theorem loops46 : loopsOf code46 = [] := by kernel_rfl
theorem enter46 : ∀ args w, (callFunc 46 args).run Tryz.prog w = .ok (.enter 46 args) w := enter_of (fn := Tryz.f46) (by kernel_rfl) (by kernel_rfl) (by kernel_rfl)
noncomputable def T46_1 (F : Nat) : FuncId → Option Summ := tab [(66, (S66_1 F noS))]
noncomputable def LT46_1 (F : Nat) : Nat → Option LoopS := ltab []
theorem E46_1g (F : Nat) (c66_1 : Int → Int → (Int → Int → Option Res) → Option Res)   (d : sh46_1.den) (K : KF) : evBody Tryz.prog (tab [(66, (mkS sh66_1 (fun d K => c66_1 d.1.1 d.1.2.1 (fun (y0 : Int) (y1 : Int) => K [.lf (.int .u64 y0), .lf (.int .u64 y1)] [])) noS))]) (xw []) 30 0 (ltab []) [] code46 Tryz.f46.results.toList (encT sh46_1.vs d.1) (encH sh46_1.h d.2) K = (fun (a1 : Int) (a2 : Int) (K0 : (Int → Int → Option Res)) => c66_1 a1 a2 (fun x1 x2 => K0 x1 x2) ) d.1.1 d.1.2.1 (fun (y0 : Int) (y1 : Int) => K [.lf (.int .u64 y0), .lf (.int .u64 y1)] []) := by kernel_rfl
theorem E46_1 (F : Nat) (d : sh46_1.den) (K : KF) : evBody Tryz.prog (T46_1 F) (xw []) 30 0 (LT46_1 F) [] code46 Tryz.f46.results.toList (encT sh46_1.vs d.1) (encH sh46_1.h d.2) K = f46_1 F d.1.1 d.1.2.1 (fun (y0 : Int) (y1 : Int) => K [.lf (.int .u64 y0), .lf (.int .u64 y1)] []) := Eq.mp (by kernel_rfl) (E46_1g F (f66_1 F)   d K)
theorem S46_1_ok (F : Nat) (o : Summ) (ho : SoundFn Tryz.prog 46 o) : SoundFn Tryz.prog 46 (S46_1 F o) :=
  soundFn_of (fn := Tryz.f46) (c := code46) rfl rfl (by kernel_rfl) (tab_cons (S66_1_ok F _ (noS_sound enter66)) tab_nil) (by kernel_rfl) (by kernel_rfl) ho (by rw [loops46]; exact loopsOK_nil) (by rw [scopes46]; exact scopesOK_nil) (by rw [ranges46]; exact rangesOK_nil) (E46_1 F)
end Go.Proofs.YtillbabmlfjegaaGreatDoor.X
end

section
namespace Go.Proofs.YtillbabmlfjegaaGreatDoor.X
open Go Go.Proofs.YtillbabmlfjegaaGreatDoor.Ev Go.Proofs
set_option linter.unusedVariables false
set_option linter.unusedSectionVars false
/-! slices.Repeat[[]string,string] -/
noncomputable def f22_1_l8 {β : Type} (F : Nat) (v4 : List ByteArray) (K0 : List ByteArray → Option β) : Nat → Int → List ByteArray → Option β
  | 0, _, _ => none
  | k + 1, v3, v5 => cond (decide (v3 < ((v5.length : Nat) : Int))) (cond (decide ((0 : Int) ≤ v3 ∧ v3 ≤ ((v5.length : Nat) : Int) ∧ ((v5.length : Nat) : Int) ≤ ((v5.length : Nat) : Int))) (cond (decide ((0 : Int) ≤ (0 : Int) ∧ (0 : Int) ≤ v3 ∧ v3 ≤ ((v5.length : Nat) : Int))) (f22_1_l8 F v4 K0 k (IntKind.i64.wrap (v3 + ((min (((v5.drop 0).take ((v3 - 0).toNat)).length) ((((v5.length : Nat) : Int) - v3).toNat) : Nat) : Int))) (v5.take (0 + v3.toNat) ++ (((v5.drop 0).take ((v3 - 0).toNat)).take ((((v5.length : Nat) : Int) - v3).toNat) ++ v5.drop ((0 + v3.toNat) + (min (((v5.drop 0).take ((v3 - 0).toNat)).length) ((((v5.length : Nat) : Int) - v3).toNat)))))) none) none) (K0 v5)
noncomputable def f22_1 {β : Type} (F : Nat) (a1 : Int) (a2 : List ByteArray) (K0 : List ByteArray → Option β) : Option β := cond (decide (a1 < 0)) (none) (f46_1 F (IntKind.u64.wrap ((a2.length : Nat) : Int)) (IntKind.u64.wrap a1) (fun x1 x2 => cond (decide (x1 > 0)) (none) (cond (decide (x2 > 9223372036854775807)) (none) (cond (decide ((0 : Int) ≤ IntKind.i64.wrap x2 ∧ IntKind.i64.wrap x2 ≤ IntKind.i64.wrap x2 ∧ IntKind.i64.wrap x2 ≤ 70368744177664 ∧ IntKind.i64.wrap x2 * 16 ≤ 70368744177664)) (f22_1_l8 F a2 (fun x6 => K0 x6) F ((min a2.length ((List.replicate ((IntKind.i64.wrap x2).toNat) ByteArray.empty).length) : Nat) : Int) ((List.replicate ((IntKind.i64.wrap x2).toNat) ByteArray.empty).take 0 ++ (a2.take ((List.replicate ((IntKind.i64.wrap x2).toNat) ByteArray.empty).length) ++ (List.replicate ((IntKind.i64.wrap x2).toNat) ByteArray.empty).drop (0 + (min a2.length ((List.replicate ((IntKind.i64.wrap x2).toNat) ByteArray.empty).length)))))) none))) )
variable [FZ]
def sh22_1 : Sh := ⟨[.lf (.full 0), .lf (.int .i64)], [some ⟨none, [.seq .str 0]⟩]⟩
noncomputable def S22_1 (F : Nat) (o : Summ) : Summ := mkS sh22_1 (fun d K => f22_1 F d.1.2.1 d.2.1.2.1 (fun (y1 : List ByteArray) => K [.lf (.full 1)] [some ⟨d.2.1.1, [.seq .str 0 d.2.1.2.1]⟩, some ⟨false, [.seq .str 0 y1]⟩])) o
noncomputable def code22 : Code := bodyOf Tryz.f22
noncomputable def b22_0 : Code := cB (cB (cL (cR (cR (cR (cR (cR (cR (code22)))))))))
theorem scopes22 : scopesOf code22 = [] := by kernel_rfl
theorem ranges22 : rangesOf code22 = [] := by kernel_rfl
theorem loops22 : loopsOf code22 = [b22_0] := by kernel_rfl
theorem enter22 : ∀ args w, (callFunc 22 args).run Tryz.prog w = .ok (.enter 22 args) w := enter_of (fn := Tryz.f22) (by kernel_rfl) (by kernel_rfl) (by kernel_rfl)
noncomputable def T22_1 (F : Nat) : FuncId → Option Summ := tab [(46, (S46_1 F noS))]
def sh22_1_l8 : Sh := ⟨[.lf (.full 1), .lf (.int .i64)], [some ⟨none, [.seq .str 0]⟩, some ⟨some false, [.seq .str 0]⟩]⟩
noncomputable def G22_1_8 (F k : Nat) : LoopS := mkG sh22_1_l8 [7, 8] (outT [(.exit 0, [7])]) (fun d K => f22_1_l8 F d.2.1.2.1 (fun (y1 : List ByteArray) => K (.exit 0) [.tv (.lf (.full 1))] [some ⟨d.2.1.1, [.seq .str 0 d.2.1.2.1]⟩, some ⟨false, [.seq .str 0 y1]⟩]) k d.1.2.1 d.2.2.1.2.1) []
noncomputable def LT22_1 (F : Nat) : Nat → Option LoopS := ltab [(8, G22_1_8 F F)]
theorem L22_1_l8g (F k : Nat) (c46_1 : Int → Int → (Int → Int → Option Res) → Option Res)  (l8 : List ByteArray → (List ByteArray → Option Res) → Nat → Int → List ByteArray → Option Res) (X8 : LoopS) (d : sh22_1_l8.den) (K : KL) : (fun (v4 : List ByteArray) (K0 : (List ByteArray → Option Res)) (k : Nat) (v3 : Int) (v5 : List ByteArray) => cond (decide (v3 < ((v5.length : Nat) : Int))) (cond (decide ((0 : Int) ≤ v3 ∧ v3 ≤ ((v5.length : Nat) : Int) ∧ ((v5.length : Nat) : Int) ≤ ((v5.length : Nat) : Int))) (cond (decide ((0 : Int) ≤ (0 : Int) ∧ (0 : Int) ≤ v3 ∧ v3 ≤ ((v5.length : Nat) : Int))) (l8 v4 K0 k (IntKind.i64.wrap (v3 + ((min (((v5.drop 0).take ((v3 - 0).toNat)).length) ((((v5.length : Nat) : Int) - v3).toNat) : Nat) : Int))) (v5.take (0 + v3.toNat) ++ (((v5.drop 0).take ((v3 - 0).toNat)).take ((((v5.length : Nat) : Int) - v3).toNat) ++ v5.drop ((0 + v3.toNat) + (min (((v5.drop 0).take ((v3 - 0).toNat)).length) ((((v5.length : Nat) : Int) - v3).toNat)))))) none) none) (K0 v5)) d.2.1.2.1 (fun (y1 : List ByteArray) => K (.exit 0) [.tv (.lf (.full 1))] [some ⟨d.2.1.1, [.seq .str 0 d.2.1.2.1]⟩, some ⟨false, [.seq .str 0 y1]⟩]) k d.1.2.1 d.2.2.1.2.1 = roundOf Tryz.prog (tab [(46, (mkS sh46_1 (fun d K => c46_1 d.1.1 d.1.2.1 (fun (y0 : Int) (y1 : Int) => K [.lf (.int .u64 y0), .lf (.int .u64 y1)] [])) noS))]) (xw []) 48 1 (ltab [(8, X8)]) (mkG sh22_1_l8 [7, 8] (outT [(.exit 0, [7])]) (fun d K => l8 d.2.1.2.1 (fun (y1 : List ByteArray) => K (.exit 0) [.tv (.lf (.full 1))] [some ⟨d.2.1.1, [.seq .str 0 d.2.1.2.1]⟩, some ⟨false, [.seq .str 0 y1]⟩]) k d.1.2.1 d.2.2.1.2.1) []) b22_0 (encT sh22_1_l8.vs d.1) (encH sh22_1_l8.h d.2) K := by kernel_rfl
theorem L22_1_8 (F : Nat) : LoopOK Tryz.prog (T22_1 F) (xw []) 48 1 (LT22_1 F) (G22_1_8 F F) b22_0 :=
  loopOK_of (s := sh22_1_l8) (live := [7, 8]) (out := (outT [(.exit 0, [7])])) (mv := []) (fun k d K => f22_1_l8 F d.2.1.2.1 (fun (y1 : List ByteArray) => K (.exit 0) [.tv (.lf (.full 1))] [some ⟨d.2.1.1, [.seq .str 0 d.2.1.2.1]⟩, some ⟨false, [.seq .str 0 y1]⟩]) k d.1.2.1 d.2.2.1.2.1) F (fun d K => by kernel_rfl)  (fun k d K => Eq.mp (by kernel_rfl) (L22_1_l8g F k (f46_1 F)  (f22_1_l8 F) (G22_1_8 F F) d K))
theorem E22_1g (F : Nat) (c46_1 : Int → Int → (Int → Int → Option Res) → Option Res) (l8 : List ByteArray → (List ByteArray → Option Res) → Nat → Int → List ByteArray → Option Res)  (d : sh22_1.den) (K : KF) : evBody Tryz.prog (tab [(46, (mkS sh46_1 (fun d K => c46_1 d.1.1 d.1.2.1 (fun (y0 : Int) (y1 : Int) => K [.lf (.int .u64 y0), .lf (.int .u64 y1)] [])) noS))]) (xw []) 48 1 (ltab [(8, mkG sh22_1_l8 [7, 8] (outT [(.exit 0, [7])]) (fun d K => l8 d.2.1.2.1 (fun (y1 : List ByteArray) => K (.exit 0) [.tv (.lf (.full 1))] [some ⟨d.2.1.1, [.seq .str 0 d.2.1.2.1]⟩, some ⟨false, [.seq .str 0 y1]⟩]) F d.1.2.1 d.2.2.1.2.1) [])]) [] code22 Tryz.f22.results.toList (encT sh22_1.vs d.1) (encH sh22_1.h d.2) K = (fun (a1 : Int) (a2 : List ByteArray) (K0 : (List ByteArray → Option Res)) => cond (decide (a1 < 0)) (none) (c46_1 (IntKind.u64.wrap ((a2.length : Nat) : Int)) (IntKind.u64.wrap a1) (fun x1 x2 => cond (decide (x1 > 0)) (none) (cond (decide (x2 > 9223372036854775807)) (none) (cond (decide ((0 : Int) ≤ IntKind.i64.wrap x2 ∧ IntKind.i64.wrap x2 ≤ IntKind.i64.wrap x2 ∧ IntKind.i64.wrap x2 ≤ 70368744177664 ∧ IntKind.i64.wrap x2 * 16 ≤ 70368744177664)) (l8 a2 (fun x6 => K0 x6) F ((min a2.length ((List.replicate ((IntKind.i64.wrap x2).toNat) ByteArray.empty).length) : Nat) : Int) ((List.replicate ((IntKind.i64.wrap x2).toNat) ByteArray.empty).take 0 ++ (a2.take ((List.replicate ((IntKind.i64.wrap x2).toNat) ByteArray.empty).length) ++ (List.replicate ((IntKind.i64.wrap x2).toNat) ByteArray.empty).drop (0 + (min a2.length ((List.replicate ((IntKind.i64.wrap x2).toNat) ByteArray.empty).length)))))) none))) )) d.1.2.1 d.2.1.2.1 (fun (y1 : List ByteArray) => K [.lf (.full 1)] [some ⟨d.2.1.1, [.seq .str 0 d.2.1.2.1]⟩, some ⟨false, [.seq .str 0 y1]⟩]) := by kernel_rfl
theorem E22_1 (F : Nat) (d : sh22_1.den) (K : KF) : evBody Tryz.prog (T22_1 F) (xw []) 48 1 (LT22_1 F) [] code22 Tryz.f22.results.toList (encT sh22_1.vs d.1) (encH sh22_1.h d.2) K = f22_1 F d.1.2.1 d.2.1.2.1 (fun (y1 : List ByteArray) => K [.lf (.full 1)] [some ⟨d.2.1.1, [.seq .str 0 d.2.1.2.1]⟩, some ⟨false, [.seq .str 0 y1]⟩]) := Eq.mp (by kernel_rfl) (E22_1g F (f46_1 F) (f22_1_l8 F)  d K)
theorem S22_1_ok (F : Nat) (o : Summ) (ho : SoundFn Tryz.prog 22 o) : SoundFn Tryz.prog 22 (S22_1 F o) :=
  soundFn_of (fn := Tryz.f22) (c := code22) rfl rfl (by kernel_rfl) (tab_cons (S46_1_ok F _ (noS_sound enter46)) tab_nil) (by kernel_rfl) (by kernel_rfl) ho (by rw [loops22]; exact (loopsOK_cons (by kernel_rfl) (L22_1_8 F) loopsOK_nil)) (by rw [scopes22]; exact scopesOK_nil) (by rw [ranges22]; exact rangesOK_nil) (E22_1 F)
end Go.Proofs.YtillbabmlfjegaaGreatDoor.X
end

section
namespace Go.Proofs.YtillbabmlfjegaaGreatDoor.X
open Go Go.Proofs.YtillbabmlfjegaaGreatDoor.Ev Go.Proofs
set_option linter.unusedVariables false
set_option linter.unusedSectionVars false
/-! sector.Fill -/
noncomputable def f47_1 {β : Type} (F : Nat) (a1 : Int) (K0 : ByteArray → Option β) : Option β := f58_1 F (ofInts [a1]) 64 (fun x1 => K0 x1) 
variable [FZ]
def sh47_1 : Sh := ⟨[.lf (.int .u8)], []⟩
noncomputable def S47_1 (F : Nat) (o : Summ) : Summ := mkS sh47_1 (fun d K => f47_1 F d.1.1 (fun (y0 : ByteArray) => K [.lf (.str y0)] [])) o
noncomputable def code47 : Code := bodyOf Tryz.f47
theorem scopes47 : scopesOf code47 = [] := by kernel_rfl
theorem ranges47 : rangesOf code47 = [] := by kernel_rfl
theorem loops47 : loopsOf code47 = [] := by kernel_rfl
theorem enter47 : ∀ args w, (callFunc 47 args).run Tryz.prog w = .ok (.enter 47 args) w := enter_of (fn := Tryz.f47) (by kernel_rfl) (by kernel_rfl) (by kernel_rfl)
noncomputable def T47_1 (F : Nat) : FuncId → Option Summ := tab [(58, (S58_1 F noS))]
noncomputable def LT47_1 (F : Nat) : Nat → Option LoopS := ltab []
theorem E47_1g (F : Nat) (c58_1 : ByteArray → Int → (ByteArray → Option Res) → Option Res)   (d : sh47_1.den) (K : KF) : evBody Tryz.prog (tab [(58, (mkS sh58_1 (fun d K => c58_1 d.1.1 d.1.2.1 (fun (y0 : ByteArray) => K [.lf (.str y0)] [])) noS))]) (xw []) 7 0 (ltab []) [] code47 Tryz.f47.results.toList (encT sh47_1.vs d.1) (encH sh47_1.h d.2) K = (fun (a1 : Int) (K0 : (ByteArray → Option Res)) => c58_1 (ofInts [a1]) 64 (fun x1 => K0 x1) ) d.1.1 (fun (y0 : ByteArray) => K [.lf (.str y0)] []) := by kernel_rfl
theorem E47_1 (F : Nat) (d : sh47_1.den) (K : KF) : evBody Tryz.prog (T47_1 F) (xw []) 7 0 (LT47_1 F) [] code47 Tryz.f47.results.toList (encT sh47_1.vs d.1) (encH sh47_1.h d.2) K = f47_1 F d.1.1 (fun (y0 : ByteArray) => K [.lf (.str y0)] []) := Eq.mp (by kernel_rfl) (E47_1g F (f58_1 F)   d K)
theorem S47_1_ok (F : Nat) (o : Summ) (ho : SoundFn Tryz.prog 47 o) : SoundFn Tryz.prog 47 (S47_1 F o) :=
  soundFn_of (fn := Tryz.f47) (c := code47) rfl rfl (by kernel_rfl) (tab_cons (S58_1_ok F _ (noS_sound enter58)) tab_nil) (by kernel_rfl) (by kernel_rfl) ho (by rw [loops47]; exact loopsOK_nil) (by rw [scopes47]; exact scopesOK_nil) (by rw [ranges47]; exact rangesOK_nil) (E47_1 F)
end Go.Proofs.YtillbabmlfjegaaGreatDoor.X
end

section
namespace Go.Proofs.YtillbabmlfjegaaGreatDoor.X
open Go Go.Proofs.YtillbabmlfjegaaGreatDoor.Ev Go.Proofs
set_option linter.unusedVariables false
set_option linter.unusedSectionVars false
/-! sector.Zero -/
noncomputable def f23_1 {β : Type} (F : Nat)  (K0 : ByteArray → Option β) : Option β := f47_1 F 0 (fun x1 => K0 x1) 
variable [FZ]
def sh23_1 : Sh := ⟨[], []⟩
noncomputable def S23_1 (F : Nat) (o : Summ) : Summ := mkS sh23_1 (fun d K => f23_1 F (fun (y0 : ByteArray) => K [.lf (.str y0)] [])) o
noncomputable def code23 : Code := bodyOf Tryz.f23
theorem scopes23 : scopesOf code23 = [] := by kernel_rfl
theorem ranges23 : rangesOf code23 = [] := by kernel_rfl
theorem loops23 : loopsOf code23 = [] := by kernel_rfl
theorem enter23 : ∀ args w, (callFunc 23 args).run Tryz.prog w = .ok (.enter 23 args) w := enter_of (fn := Tryz.f23) (by kernel_rfl) (by kernel_rfl) (by kernel_rfl)
noncomputable def T23_1 (F : Nat) : FuncId → Option Summ := tab [(47, (S47_1 F noS))]
noncomputable def LT23_1 (F : Nat) : Nat → Option LoopS := ltab []
theorem E23_1g (F : Nat) (c47_1 : Int → (ByteArray → Option Res) → Option Res)   (d : sh23_1.den) (K : KF) : evBody Tryz.prog (tab [(47, (mkS sh47_1 (fun d K => c47_1 d.1.1 (fun (y0 : ByteArray) => K [.lf (.str y0)] [])) noS))]) (xw []) 2 0 (ltab []) [] code23 Tryz.f23.results.toList (encT sh23_1.vs d.1) (encH sh23_1.h d.2) K = (fun (K0 : (ByteArray → Option Res)) => c47_1 0 (fun x1 => K0 x1) ) (fun (y0 : ByteArray) => K [.lf (.str y0)] []) := by kernel_rfl
theorem E23_1 (F : Nat) (d : sh23_1.den) (K : KF) : evBody Tryz.prog (T23_1 F) (xw []) 2 0 (LT23_1 F) [] code23 Tryz.f23.results.toList (encT sh23_1.vs d.1) (encH sh23_1.h d.2) K = f23_1 F (fun (y0 : ByteArray) => K [.lf (.str y0)] []) := Eq.mp (by kernel_rfl) (E23_1g F (f47_1 F)   d K)
theorem S23_1_ok (F : Nat) (o : Summ) (ho : SoundFn Tryz.prog 23 o) : SoundFn Tryz.prog 23 (S23_1 F o) :=
  soundFn_of (fn := Tryz.f23) (c := code23) rfl rfl (by kernel_rfl) (tab_cons (S47_1_ok F _ (noS_sound enter47)) tab_nil) (by kernel_rfl) (by kernel_rfl) ho (by rw [loops23]; exact loopsOK_nil) (by rw [scopes23]; exact scopesOK_nil) (by rw [ranges23]; exact rangesOK_nil) (E23_1 F)
end Go.Proofs.YtillbabmlfjegaaGreatDoor.X
end

section
namespace Go.Proofs.YtillbabmlfjegaaGreatDoor.X
open Go Go.Proofs.YtillbabmlfjegaaGreatDoor.Ev Go.Proofs
set_option linter.unusedVariables false
set_option linter.unusedSectionVars false
/-! disk.New -/
noncomputable def f5_1 {β : Type} (F : Nat) (a1 : Int) (K0 : Option β) (K1 : List ByteArray → List (Int × ByteArray) → Option β) : Option β := cond (decide (a1 < 1)) (K0) (cond (decide (a1 > 1200)) (K0) (f23_1 F  (fun x1 => f22_1 F a1 [x1] (fun x2 => K1 x2 []) ) ))
variable [FZ]
def sh5_1 : Sh := ⟨[.lf (.int .i64)], []⟩
noncomputable def S5_1 (F : Nat) (o : Summ) : Summ := mkS sh5_1 (fun d K => f5_1 F d.1.1 (K [.lf (.nilp), .lf (.int .i64 2)] []) (fun (y4 : List ByteArray) (y5 : List (Int × ByteArray)) => K [.lf (.ptr 0 0), .lf (.int .i64 0)] [some ⟨false, [.full 1, .full 2, .int .i64 (-1), .bool false, .int .i64 0]⟩, some ⟨false, [.seq .str 0 y4]⟩, some ⟨false, [.seq (.pair (.int .i64) .str) 0 y5]⟩])) o
noncomputable def code5 : Code := bodyOf Tryz.f5
theorem scopes5 : scopesOf code5 = [] := by kernel_rfl
theorem ranges5 : rangesOf code5 = [] := by kernel_rfl
theorem loops5 : loopsOf code5 = [] := by kernel_rfl
theorem enter5 : ∀ args w, (callFunc 5 args).run Tryz.prog w = .ok (.enter 5 args) w := enter_of (fn := Tryz.f5) (by kernel_rfl) (by kernel_rfl) (by kernel_rfl)
noncomputable def T5_1 (F : Nat) : FuncId → Option Summ := tab [(22, (S22_1 F noS)), (23, (S23_1 F noS))]
noncomputable def LT5_1 (F : Nat) : Nat → Option LoopS := ltab []
theorem E5_1g (F : Nat) (c22_1 : Int → List ByteArray → (List ByteArray → Option Res) → Option Res) (c23_1 : (ByteArray → Option Res) → Option Res)   (d : sh5_1.den) (K : KF) : evBody Tryz.prog (tab [(22, (mkS sh22_1 (fun d K => c22_1 d.1.2.1 d.2.1.2.1 (fun (y1 : List ByteArray) => K [.lf (.full 1)] [some ⟨d.2.1.1, [.seq .str 0 d.2.1.2.1]⟩, some ⟨false, [.seq .str 0 y1]⟩])) noS)), (23, (mkS sh23_1 (fun d K => c23_1 (fun (y0 : ByteArray) => K [.lf (.str y0)] [])) noS))]) (xw []) 16 0 (ltab []) [] code5 Tryz.f5.results.toList (encT sh5_1.vs d.1) (encH sh5_1.h d.2) K = (fun (a1 : Int) (K0 : (Option Res)) (K1 : (List ByteArray → List (Int × ByteArray) → Option Res)) => cond (decide (a1 < 1)) (K0) (cond (decide (a1 > 1200)) (K0) (c23_1  (fun x1 => c22_1 a1 [x1] (fun x2 => K1 x2 []) ) ))) d.1.1 (K [.lf (.nilp), .lf (.int .i64 2)] []) (fun (y4 : List ByteArray) (y5 : List (Int × ByteArray)) => K [.lf (.ptr 0 0), .lf (.int .i64 0)] [some ⟨false, [.full 1, .full 2, .int .i64 (-1), .bool false, .int .i64 0]⟩, some ⟨false, [.seq .str 0 y4]⟩, some ⟨false, [.seq (.pair (.int .i64) .str) 0 y5]⟩]) := by kernel_rfl
theorem E5_1 (F : Nat) (d : sh5_1.den) (K : KF) : evBody Tryz.prog (T5_1 F) (xw []) 16 0 (LT5_1 F) [] code5 Tryz.f5.results.toList (encT sh5_1.vs d.1) (encH sh5_1.h d.2) K = f5_1 F d.1.1 (K [.lf (.nilp), .lf (.int .i64 2)] []) (fun (y4 : List ByteArray) (y5 : List (Int × ByteArray)) => K [.lf (.ptr 0 0), .lf (.int .i64 0)] [some ⟨false, [.full 1, .full 2, .int .i64 (-1), .bool false, .int .i64 0]⟩, some ⟨false, [.seq .str 0 y4]⟩, some ⟨false, [.seq (.pair (.int .i64) .str) 0 y5]⟩]) := Eq.mp (by kernel_rfl) (E5_1g F (f22_1 F) (f23_1 F)   d K)
theorem S5_1_ok (F : Nat) (o : Summ) (ho : SoundFn Tryz.prog 5 o) : SoundFn Tryz.prog 5 (S5_1 F o) :=
  soundFn_of (fn := Tryz.f5) (c := code5) rfl rfl (by kernel_rfl) (tab_cons (S22_1_ok F _ (noS_sound enter22)) (tab_cons (S23_1_ok F _ (noS_sound enter23)) tab_nil)) (by kernel_rfl) (by kernel_rfl) ho (by rw [loops5]; exact loopsOK_nil) (by rw [scopes5]; exact scopesOK_nil) (by rw [ranges5]; exact rangesOK_nil) (E5_1 F)
end Go.Proofs.YtillbabmlfjegaaGreatDoor.X
end

section
namespace Go.Proofs.YtillbabmlfjegaaGreatDoor.X
open Go Go.Proofs.YtillbabmlfjegaaGreatDoor.Ev Go.Proofs
set_option linter.unusedVariables false
set_option linter.unusedSectionVars false
/-! pentimentoref06.New -/
noncomputable def f6_1_l5 {β : Type} (F : Nat) (v1 : Int) (v3 : Int) (v4 : Bool) (v5 : Int) (v7 : List (Int × ByteArray)) (K0 : List ByteArray → Option β) : Nat → Int → List ByteArray → Option β
  | 0, _, _ => none
  | k + 1, v2, v6 => cond (decide (v2 < v1)) (f24_1 F  (fun x8 => cond (decide ((v6.length + 1) * 16 ≤ 70368744177664)) (f6_1_l5 F v1 v3 v4 v5 v7 K0 k (IntKind.i64.wrap (v2 + 1)) (v6 ++ [x8])) none) ) (K0 v6)
noncomputable def f6_1 {β : Type} (F : Nat) (a1 : Int) (K0 : Option β) (K1 : List ByteArray → List (Int × ByteArray) → Option β) : Option β := cond (decide (a1 < 1)) (K0) (cond (decide (a1 > 1200)) (K0) (f6_1_l5 F a1 (-1) false 0 [] (fun x9 => K1 x9 []) F 0 []))
variable [FZ]
def sh6_1 : Sh := ⟨[.lf (.int .i64)], []⟩
noncomputable def S6_1 (F : Nat) (o : Summ) : Summ := mkS sh6_1 (fun d K => f6_1 F d.1.1 (K [.lf (.nilp), .lf (.int .i64 2)] []) (fun (y4 : List ByteArray) (y5 : List (Int × ByteArray)) => K [.lf (.ptr 0 0), .lf (.int .i64 0)] [some ⟨false, [.full 1, .full 2, .int .i64 (-1), .bool false, .int .i64 0]⟩, some ⟨false, [.seq .str 0 y4]⟩, some ⟨false, [.seq (.pair (.int .i64) .str) 0 y5]⟩])) o
noncomputable def code6 : Code := bodyOf Tryz.f6
noncomputable def b6_0 : Code := cB (cB (cR (cL (cR (cR (cR (code6)))))))
theorem scopes6 : scopesOf code6 = [] := by kernel_rfl
theorem ranges6 : rangesOf code6 = [] := by kernel_rfl
theorem loops6 : loopsOf code6 = [b6_0] := by kernel_rfl
theorem enter6 : ∀ args w, (callFunc 6 args).run Tryz.prog w = .ok (.enter 6 args) w := enter_of (fn := Tryz.f6) (by kernel_rfl) (by kernel_rfl) (by kernel_rfl)
noncomputable def T6_1 (F : Nat) : FuncId → Option Summ := tab [(24, (S24_1 F noS))]
def sh6_1_l5 : Sh := ⟨[.lf (.int .i64), .lf (.ptr 0 0), .lf (.int .i64)], [some ⟨some false, [.full 1, .full 2, .int .i64, .bool, .int .i64]⟩, some ⟨some false, [.seq .str 0]⟩, some ⟨some false, [.seq (.pair (.int .i64) .str) 0]⟩]⟩
noncomputable def G6_1_5 (F k : Nat) : LoopS := mkG sh6_1_l5 [0, 4, 5] (outT [(.exit 0, [4])]) (fun d K => f6_1_l5 F d.1.1 d.2.1.2.2.2.1 d.2.1.2.2.2.2.1 d.2.1.2.2.2.2.2.1 d.2.2.2.1.2.1 (fun (y3 : List ByteArray) => K (.exit 0) [.tv (.lf (.ptr 0 0))] [some ⟨false, [.full 1, .full 2, .int .i64 d.2.1.2.2.2.1, .bool d.2.1.2.2.2.2.1, .int .i64 d.2.1.2.2.2.2.2.1]⟩, some ⟨false, [.seq .str 0 y3]⟩, some ⟨false, [.seq (.pair (.int .i64) .str) 0 d.2.2.2.1.2.1]⟩]) k d.1.2.2.1 d.2.2.1.2.1) []
noncomputable def LT6_1 (F : Nat) : Nat → Option LoopS := ltab [(5, G6_1_5 F F)]
theorem L6_1_l5g (F k : Nat) (c24_1 : (ByteArray → Option Res) → Option Res)  (l5 : Int → Int → Bool → Int → List (Int × ByteArray) → (List ByteArray → Option Res) → Nat → Int → List ByteArray → Option Res) (X5 : LoopS) (d : sh6_1_l5.den) (K : KL) : (fun (v1 : Int) (v3 : Int) (v4 : Bool) (v5 : Int) (v7 : List (Int × ByteArray)) (K0 : (List ByteArray → Option Res)) (k : Nat) (v2 : Int) (v6 : List ByteArray) => cond (decide (v2 < v1)) (c24_1  (fun x8 => cond (decide ((v6.length + 1) * 16 ≤ 70368744177664)) (l5 v1 v3 v4 v5 v7 K0 k (IntKind.i64.wrap (v2 + 1)) (v6 ++ [x8])) none) ) (K0 v6)) d.1.1 d.2.1.2.2.2.1 d.2.1.2.2.2.2.1 d.2.1.2.2.2.2.2.1 d.2.2.2.1.2.1 (fun (y3 : List ByteArray) => K (.exit 0) [.tv (.lf (.ptr 0 0))] [some ⟨false, [.full 1, .full 2, .int .i64 d.2.1.2.2.2.1, .bool d.2.1.2.2.2.2.1, .int .i64 d.2.1.2.2.2.2.2.1]⟩, some ⟨false, [.seq .str 0 y3]⟩, some ⟨false, [.seq (.pair (.int .i64) .str) 0 d.2.2.2.1.2.1]⟩]) k d.1.2.2.1 d.2.2.1.2.1 = roundOf Tryz.prog (tab [(24, (mkS sh24_1 (fun d K => c24_1 (fun (y0 : ByteArray) => K [.lf (.str y0)] [])) noS))]) (xw []) 30 0 (ltab [(5, X5)]) (mkG sh6_1_l5 [0, 4, 5] (outT [(.exit 0, [4])]) (fun d K => l5 d.1.1 d.2.1.2.2.2.1 d.2.1.2.2.2.2.1 d.2.1.2.2.2.2.2.1 d.2.2.2.1.2.1 (fun (y3 : List ByteArray) => K (.exit 0) [.tv (.lf (.ptr 0 0))] [some ⟨false, [.full 1, .full 2, .int .i64 d.2.1.2.2.2.1, .bool d.2.1.2.2.2.2.1, .int .i64 d.2.1.2.2.2.2.2.1]⟩, some ⟨false, [.seq .str 0 y3]⟩, some ⟨false, [.seq (.pair (.int .i64) .str) 0 d.2.2.2.1.2.1]⟩]) k d.1.2.2.1 d.2.2.1.2.1) []) b6_0 (encT sh6_1_l5.vs d.1) (encH sh6_1_l5.h d.2) K := by kernel_rfl
theorem L6_1_5 (F : Nat) : LoopOK Tryz.prog (T6_1 F) (xw []) 30 0 (LT6_1 F) (G6_1_5 F F) b6_0 :=
  loopOK_of (s := sh6_1_l5) (live := [0, 4, 5]) (out := (outT [(.exit 0, [4])])) (mv := []) (fun k d K => f6_1_l5 F d.1.1 d.2.1.2.2.2.1 d.2.1.2.2.2.2.1 d.2.1.2.2.2.2.2.1 d.2.2.2.1.2.1 (fun (y3 : List ByteArray) => K (.exit 0) [.tv (.lf (.ptr 0 0))] [some ⟨false, [.full 1, .full 2, .int .i64 d.2.1.2.2.2.1, .bool d.2.1.2.2.2.2.1, .int .i64 d.2.1.2.2.2.2.2.1]⟩, some ⟨false, [.seq .str 0 y3]⟩, some ⟨false, [.seq (.pair (.int .i64) .str) 0 d.2.2.2.1.2.1]⟩]) k d.1.2.2.1 d.2.2.1.2.1) F (fun d K => by kernel_rfl)  (fun k d K => Eq.mp (by kernel_rfl) (L6_1_l5g F k (f24_1 F)  (f6_1_l5 F) (G6_1_5 F F) d K))
theorem E6_1g (F : Nat) (c24_1 : (ByteArray → Option Res) → Option Res) (l5 : Int → Int → Bool → Int → List (Int × ByteArray) → (List ByteArray → Option Res) → Nat → Int → List ByteArray → Option Res)  (d : sh6_1.den) (K : KF) : evBody Tryz.prog (tab [(24, (mkS sh24_1 (fun d K => c24_1 (fun (y0 : ByteArray) => K [.lf (.str y0)] [])) noS))]) (xw []) 30 0 (ltab [(5, mkG sh6_1_l5 [0, 4, 5] (outT [(.exit 0, [4])]) (fun d K => l5 d.1.1 d.2.1.2.2.2.1 d.2.1.2.2.2.2.1 d.2.1.2.2.2.2.2.1 d.2.2.2.1.2.1 (fun (y3 : List ByteArray) => K (.exit 0) [.tv (.lf (.ptr 0 0))] [some ⟨false, [.full 1, .full 2, .int .i64 d.2.1.2.2.2.1, .bool d.2.1.2.2.2.2.1, .int .i64 d.2.1.2.2.2.2.2.1]⟩, some ⟨false, [.seq .str 0 y3]⟩, some ⟨false, [.seq (.pair (.int .i64) .str) 0 d.2.2.2.1.2.1]⟩]) F d.1.2.2.1 d.2.2.1.2.1) [])]) [] code6 Tryz.f6.results.toList (encT sh6_1.vs d.1) (encH sh6_1.h d.2) K = (fun (a1 : Int) (K0 : (Option Res)) (K1 : (List ByteArray → List (Int × ByteArray) → Option Res)) => cond (decide (a1 < 1)) (K0) (cond (decide (a1 > 1200)) (K0) (l5 a1 (-1) false 0 [] (fun x9 => K1 x9 []) F 0 []))) d.1.1 (K [.lf (.nilp), .lf (.int .i64 2)] []) (fun (y4 : List ByteArray) (y5 : List (Int × ByteArray)) => K [.lf (.ptr 0 0), .lf (.int .i64 0)] [some ⟨false, [.full 1, .full 2, .int .i64 (-1), .bool false, .int .i64 0]⟩, some ⟨false, [.seq .str 0 y4]⟩, some ⟨false, [.seq (.pair (.int .i64) .str) 0 y5]⟩]) := by kernel_rfl
theorem E6_1 (F : Nat) (d : sh6_1.den) (K : KF) : evBody Tryz.prog (T6_1 F) (xw []) 30 0 (LT6_1 F) [] code6 Tryz.f6.results.toList (encT sh6_1.vs d.1) (encH sh6_1.h d.2) K = f6_1 F d.1.1 (K [.lf (.nilp), .lf (.int .i64 2)] []) (fun (y4 : List ByteArray) (y5 : List (Int × ByteArray)) => K [.lf (.ptr 0 0), .lf (.int .i64 0)] [some ⟨false, [.full 1, .full 2, .int .i64 (-1), .bool false, .int .i64 0]⟩, some ⟨false, [.seq .str 0 y4]⟩, some ⟨false, [.seq (.pair (.int .i64) .str) 0 y5]⟩]) := Eq.mp (by kernel_rfl) (E6_1g F (f24_1 F) (f6_1_l5 F)  d K)
theorem S6_1_ok (F : Nat) (o : Summ) (ho : SoundFn Tryz.prog 6 o) : SoundFn Tryz.prog 6 (S6_1 F o) :=
  soundFn_of (fn := Tryz.f6) (c := code6) rfl rfl (by kernel_rfl) (tab_cons (S24_1_ok F _ (noS_sound enter24)) tab_nil) (by kernel_rfl) (by kernel_rfl) ho (by rw [loops6]; exact (loopsOK_cons (by kernel_rfl) (L6_1_5 F) loopsOK_nil)) (by rw [scopes6]; exact scopesOK_nil) (by rw [ranges6]; exact rangesOK_nil) (E6_1 F)
end Go.Proofs.YtillbabmlfjegaaGreatDoor.X
end

section
namespace Go.Proofs.YtillbabmlfjegaaGreatDoor.X
open Go Go.Proofs.YtillbabmlfjegaaGreatDoor.Ev Go.Proofs
set_option linter.unusedVariables false
set_option linter.unusedSectionVars false
/-! pentimentoref06.Disk).Write -/
noncomputable def f8_1385 {β : Type} (F : Nat) (a1 : Int) (a2 : ByteArray)  : Option β := none
variable [FZ]
def sh8_1385 : Sh := ⟨[.lf (.nilp), .lf (.int .i64), .lf (.str)], []⟩
noncomputable def S8_1385 (F : Nat) (o : Summ) : Summ := mkS sh8_1385 (fun d K => f8_1385 F d.1.2.1 d.1.2.2.1) o
noncomputable def T8_1385 (F : Nat) : FuncId → Option Summ := tab []
noncomputable def LT8_1385 (F : Nat) : Nat → Option LoopS := ltab []
theorem E8_1385g (F : Nat)    (d : sh8_1385.den) (K : KF) : evBody Tryz.prog (tab []) (xw []) 40 0 (ltab []) [] code8 Tryz.f8.results.toList (encT sh8_1385.vs d.1) (encH sh8_1385.h d.2) K = (fun (a1 : Int) (a2 : ByteArray)  => none) d.1.2.1 d.1.2.2.1 := by kernel_rfl
theorem E8_1385 (F : Nat) (d : sh8_1385.den) (K : KF) : evBody Tryz.prog (T8_1385 F) (xw []) 40 0 (LT8_1385 F) [] code8 Tryz.f8.results.toList (encT sh8_1385.vs d.1) (encH sh8_1385.h d.2) K = f8_1385 F d.1.2.1 d.1.2.2.1 := Eq.mp (by kernel_rfl) (E8_1385g F    d K)
theorem S8_1385_ok (F : Nat) (o : Summ) (ho : SoundFn Tryz.prog 8 o) : SoundFn Tryz.prog 8 (S8_1385 F o) :=
  soundFn_of (fn := Tryz.f8) (c := code8) rfl rfl (by kernel_rfl) tab_nil (by kernel_rfl) (by kernel_rfl) ho (by rw [loops8]; exact loopsOK_nil) (by rw [scopes8]; exact scopesOK_nil) (by rw [ranges8]; exact rangesOK_nil) (E8_1385 F)
end Go.Proofs.YtillbabmlfjegaaGreatDoor.X
end

section
namespace Go.Proofs.YtillbabmlfjegaaGreatDoor.X
open Go Go.Proofs.YtillbabmlfjegaaGreatDoor.Ev Go.Proofs
set_option linter.unusedVariables false
set_option linter.unusedSectionVars false
/-! disk.Disk).Crash -/
noncomputable def f9_1_l2 {β : Type} (F : Nat) (v1 : Int) (v3 : Int) (v4 : Bool) (v5 : Int) (v7 : List (Int × ByteArray)) (v8 : List Bool) (K0 : List ByteArray → Option β) : Nat → Int → List ByteArray → Option β
  | 0, _, _ => none
  | k + 1, v2, v6 => cond (decide (v2 < v1)) (cond (decide ((0 : Int) ≤ v2 ∧ v2 < ((v7.length : Nat) : Int))) (cond (decide (0 + v2.toNat < v7.length)) (cond (decide (v2 < ((v8.length : Nat) : Int))) (cond (decide ((0 : Int) ≤ v2 ∧ v2 < ((v8.length : Nat) : Int))) (cond (decide (0 + v2.toNat < v8.length)) (cond (v8.getD (0 + v2.toNat) false) (cond (decide ((0 : Int) ≤ (v7.getD (0 + v2.toNat) (0, ByteArray.empty)).1 ∧ (v7.getD (0 + v2.toNat) (0, ByteArray.empty)).1 < ((v6.length : Nat) : Int))) (cond (decide (0 + (((v7.getD (0 + v2.toNat) (0, ByteArray.empty)).1).toNat) < v6.length)) (f9_1_l2 F v1 v3 v4 v5 v7 v8 K0 k (IntKind.i64.wrap (v2 + 1)) (v6.set (0 + (((v7.getD (0 + v2.toNat) (0, ByteArray.empty)).1).toNat)) ((v7.getD (0 + v2.toNat) (0, ByteArray.empty)).2))) none) none) (f9_1_l2 F v1 v3 v4 v5 v7 v8 K0 k (IntKind.i64.wrap (v2 + 1)) v6)) none) none) (f9_1_l2 F v1 v3 v4 v5 v7 v8 K0 k (IntKind.i64.wrap (v2 + 1)) v6)) none) none) (K0 v6)
noncomputable def f9_1 {β : Type} (F : Nat) (a1 : Int) (a2 : Bool) (a3 : Int) (a4 : List ByteArray) (a5 : List (Int × ByteArray)) (a6 : List Bool) (K0 : List ByteArray → List (Int × ByteArray) → Option β) : Option β := f9_1_l2 F ((a5.length : Nat) : Int) a1 a2 a3 a5 a6 (fun x9 => K0 x9 []) F 0 a4
variable [FZ]
def sh9_1 : Sh := ⟨[.lf (.ptr 0 0), .lf (.full 3)], [some ⟨some false, [.full 1, .full 2, .int .i64, .bool, .int .i64]⟩, some ⟨some false, [.seq .str 0]⟩, some ⟨none, [.seq (.pair (.int .i64) .str) 0]⟩, some ⟨none, [.seq .bool 0]⟩]⟩
noncomputable def S9_1 (F : Nat) (o : Summ) : Summ := mkS sh9_1 (fun d K => f9_1 F d.2.1.2.2.2.1 d.2.1.2.2.2.2.1 d.2.1.2.2.2.2.2.1 d.2.2.1.2.1 d.2.2.2.1.2.1 d.2.2.2.2.1.2.1 (fun (y3 : List ByteArray) (y5 : List (Int × ByteArray)) => K [] [some ⟨false, [.full 1, .full 4, .int .i64 (-1), .bool true, .int .i64 d.2.1.2.2.2.2.2.1]⟩, some ⟨false, [.seq .str 0 y3]⟩, none, some ⟨d.2.2.2.2.1.1, [.seq .bool 0 d.2.2.2.2.1.2.1]⟩, some ⟨false, [.seq (.pair (.int .i64) .str) 0 y5]⟩])) o
noncomputable def code9 : Code := bodyOf Tryz.f9
noncomputable def b9_0 : Code := cB (cB (cR (cL (cR (code9)))))
theorem scopes9 : scopesOf code9 = [] := by kernel_rfl
theorem ranges9 : rangesOf code9 = [] := by kernel_rfl
theorem loops9 : loopsOf code9 = [b9_0] := by kernel_rfl
theorem enter9 : ∀ args w, (callFunc 9 args).run Tryz.prog w = .ok (.enter 9 args) w := enter_of (fn := Tryz.f9) (by kernel_rfl) (by kernel_rfl) (by kernel_rfl)
noncomputable def T9_1 (F : Nat) : FuncId → Option Summ := tab []
def sh9_1_l2 : Sh := ⟨[.lf (.ptr 0 0), .lf (.full 3), .lf (.full 2), .lf (.int .i64), .lf (.int .i64)], [some ⟨some false, [.full 1, .full 2, .int .i64, .bool, .int .i64]⟩, some ⟨some false, [.seq .str 0]⟩, some ⟨none, [.seq (.pair (.int .i64) .str) 0]⟩, some ⟨none, [.seq .bool 0]⟩]⟩
noncomputable def G9_1_2 (F k : Nat) : LoopS := mkG sh9_1_l2 [0, 1, 11, 12, 13] (outT [(.exit 0, [0])]) (fun d K => f9_1_l2 F d.1.2.2.2.1 d.2.1.2.2.2.1 d.2.1.2.2.2.2.1 d.2.1.2.2.2.2.2.1 d.2.2.2.1.2.1 d.2.2.2.2.1.2.1 (fun (y3 : List ByteArray) => K (.exit 0) [.tv (.lf (.ptr 0 0))] [some ⟨false, [.full 1, .full 2, .int .i64 d.2.1.2.2.2.1, .bool d.2.1.2.2.2.2.1, .int .i64 d.2.1.2.2.2.2.2.1]⟩, some ⟨false, [.seq .str 0 y3]⟩, some ⟨d.2.2.2.1.1, [.seq (.pair (.int .i64) .str) 0 d.2.2.2.1.2.1]⟩, some ⟨d.2.2.2.2.1.1, [.seq .bool 0 d.2.2.2.2.1.2.1]⟩]) k d.1.2.2.2.2.1 d.2.2.1.2.1) []
noncomputable def LT9_1 (F : Nat) : Nat → Option LoopS := ltab [(2, G9_1_2 F F)]
theorem L9_1_l2g (F k : Nat)   (l2 : Int → Int → Bool → Int → List (Int × ByteArray) → List Bool → (List ByteArray → Option Res) → Nat → Int → List ByteArray → Option Res) (X2 : LoopS) (d : sh9_1_l2.den) (K : KL) : (fun (v1 : Int) (v3 : Int) (v4 : Bool) (v5 : Int) (v7 : List (Int × ByteArray)) (v8 : List Bool) (K0 : (List ByteArray → Option Res)) (k : Nat) (v2 : Int) (v6 : List ByteArray) => cond (decide (v2 < v1)) (cond (decide ((0 : Int) ≤ v2 ∧ v2 < ((v7.length : Nat) : Int))) (cond (decide (0 + v2.toNat < v7.length)) (cond (decide (v2 < ((v8.length : Nat) : Int))) (cond (decide ((0 : Int) ≤ v2 ∧ v2 < ((v8.length : Nat) : Int))) (cond (decide (0 + v2.toNat < v8.length)) (cond (v8.getD (0 + v2.toNat) false) (cond (decide ((0 : Int) ≤ (v7.getD (0 + v2.toNat) (0, ByteArray.empty)).1 ∧ (v7.getD (0 + v2.toNat) (0, ByteArray.empty)).1 < ((v6.length : Nat) : Int))) (cond (decide (0 + (((v7.getD (0 + v2.toNat) (0, ByteArray.empty)).1).toNat) < v6.length)) (l2 v1 v3 v4 v5 v7 v8 K0 k (IntKind.i64.wrap (v2 + 1)) (v6.set (0 + (((v7.getD (0 + v2.toNat) (0, ByteArray.empty)).1).toNat)) ((v7.getD (0 + v2.toNat) (0, ByteArray.empty)).2))) none) none) (l2 v1 v3 v4 v5 v7 v8 K0 k (IntKind.i64.wrap (v2 + 1)) v6)) none) none) (l2 v1 v3 v4 v5 v7 v8 K0 k (IntKind.i64.wrap (v2 + 1)) v6)) none) none) (K0 v6)) d.1.2.2.2.1 d.2.1.2.2.2.1 d.2.1.2.2.2.2.1 d.2.1.2.2.2.2.2.1 d.2.2.2.1.2.1 d.2.2.2.2.1.2.1 (fun (y3 : List ByteArray) => K (.exit 0) [.tv (.lf (.ptr 0 0))] [some ⟨false, [.full 1, .full 2, .int .i64 d.2.1.2.2.2.1, .bool d.2.1.2.2.2.2.1, .int .i64 d.2.1.2.2.2.2.2.1]⟩, some ⟨false, [.seq .str 0 y3]⟩, some ⟨d.2.2.2.1.1, [.seq (.pair (.int .i64) .str) 0 d.2.2.2.1.2.1]⟩, some ⟨d.2.2.2.2.1.1, [.seq .bool 0 d.2.2.2.2.1.2.1]⟩]) k d.1.2.2.2.2.1 d.2.2.1.2.1 = roundOf Tryz.prog (tab []) (xw []) 47 4 (ltab [(2, X2)]) (mkG sh9_1_l2 [0, 1, 11, 12, 13] (outT [(.exit 0, [0])]) (fun d K => l2 d.1.2.2.2.1 d.2.1.2.2.2.1 d.2.1.2.2.2.2.1 d.2.1.2.2.2.2.2.1 d.2.2.2.1.2.1 d.2.2.2.2.1.2.1 (fun (y3 : List ByteArray) => K (.exit 0) [.tv (.lf (.ptr 0 0))] [some ⟨false, [.full 1, .full 2, .int .i64 d.2.1.2.2.2.1, .bool d.2.1.2.2.2.2.1, .int .i64 d.2.1.2.2.2.2.2.1]⟩, some ⟨false, [.seq .str 0 y3]⟩, some ⟨d.2.2.2.1.1, [.seq (.pair (.int .i64) .str) 0 d.2.2.2.1.2.1]⟩, some ⟨d.2.2.2.2.1.1, [.seq .bool 0 d.2.2.2.2.1.2.1]⟩]) k d.1.2.2.2.2.1 d.2.2.1.2.1) []) b9_0 (encT sh9_1_l2.vs d.1) (encH sh9_1_l2.h d.2) K := by kernel_rfl
theorem L9_1_2 (F : Nat) : LoopOK Tryz.prog (T9_1 F) (xw []) 47 4 (LT9_1 F) (G9_1_2 F F) b9_0 :=
  loopOK_of (s := sh9_1_l2) (live := [0, 1, 11, 12, 13]) (out := (outT [(.exit 0, [0])])) (mv := []) (fun k d K => f9_1_l2 F d.1.2.2.2.1 d.2.1.2.2.2.1 d.2.1.2.2.2.2.1 d.2.1.2.2.2.2.2.1 d.2.2.2.1.2.1 d.2.2.2.2.1.2.1 (fun (y3 : List ByteArray) => K (.exit 0) [.tv (.lf (.ptr 0 0))] [some ⟨false, [.full 1, .full 2, .int .i64 d.2.1.2.2.2.1, .bool d.2.1.2.2.2.2.1, .int .i64 d.2.1.2.2.2.2.2.1]⟩, some ⟨false, [.seq .str 0 y3]⟩, some ⟨d.2.2.2.1.1, [.seq (.pair (.int .i64) .str) 0 d.2.2.2.1.2.1]⟩, some ⟨d.2.2.2.2.1.1, [.seq .bool 0 d.2.2.2.2.1.2.1]⟩]) k d.1.2.2.2.2.1 d.2.2.1.2.1) F (fun d K => by kernel_rfl)  (fun k d K => Eq.mp (by kernel_rfl) (L9_1_l2g F k   (f9_1_l2 F) (G9_1_2 F F) d K))
theorem E9_1g (F : Nat)  (l2 : Int → Int → Bool → Int → List (Int × ByteArray) → List Bool → (List ByteArray → Option Res) → Nat → Int → List ByteArray → Option Res)  (d : sh9_1.den) (K : KF) : evBody Tryz.prog (tab []) (xw []) 47 4 (ltab [(2, mkG sh9_1_l2 [0, 1, 11, 12, 13] (outT [(.exit 0, [0])]) (fun d K => l2 d.1.2.2.2.1 d.2.1.2.2.2.1 d.2.1.2.2.2.2.1 d.2.1.2.2.2.2.2.1 d.2.2.2.1.2.1 d.2.2.2.2.1.2.1 (fun (y3 : List ByteArray) => K (.exit 0) [.tv (.lf (.ptr 0 0))] [some ⟨false, [.full 1, .full 2, .int .i64 d.2.1.2.2.2.1, .bool d.2.1.2.2.2.2.1, .int .i64 d.2.1.2.2.2.2.2.1]⟩, some ⟨false, [.seq .str 0 y3]⟩, some ⟨d.2.2.2.1.1, [.seq (.pair (.int .i64) .str) 0 d.2.2.2.1.2.1]⟩, some ⟨d.2.2.2.2.1.1, [.seq .bool 0 d.2.2.2.2.1.2.1]⟩]) F d.1.2.2.2.2.1 d.2.2.1.2.1) [])]) [2] code9 Tryz.f9.results.toList (encT sh9_1.vs d.1) (encH sh9_1.h d.2) K = (fun (a1 : Int) (a2 : Bool) (a3 : Int) (a4 : List ByteArray) (a5 : List (Int × ByteArray)) (a6 : List Bool) (K0 : (List ByteArray → List (Int × ByteArray) → Option Res)) => l2 ((a5.length : Nat) : Int) a1 a2 a3 a5 a6 (fun x9 => K0 x9 []) F 0 a4) d.2.1.2.2.2.1 d.2.1.2.2.2.2.1 d.2.1.2.2.2.2.2.1 d.2.2.1.2.1 d.2.2.2.1.2.1 d.2.2.2.2.1.2.1 (fun (y3 : List ByteArray) (y5 : List (Int × ByteArray)) => K [] [some ⟨false, [.full 1, .full 4, .int .i64 (-1), .bool true, .int .i64 d.2.1.2.2.2.2.2.1]⟩, some ⟨false, [.seq .str 0 y3]⟩, none, some ⟨d.2.2.2.2.1.1, [.seq .bool 0 d.2.2.2.2.1.2.1]⟩, some ⟨false, [.seq (.pair (.int .i64) .str) 0 y5]⟩]) := by kernel_rfl
theorem E9_1 (F : Nat) (d : sh9_1.den) (K : KF) : evBody Tryz.prog (T9_1 F) (xw []) 47 4 (LT9_1 F) [2] code9 Tryz.f9.results.toList (encT sh9_1.vs d.1) (encH sh9_1.h d.2) K = f9_1 F d.2.1.2.2.2.1 d.2.1.2.2.2.2.1 d.2.1.2.2.2.2.2.1 d.2.2.1.2.1 d.2.2.2.1.2.1 d.2.2.2.2.1.2.1 (fun (y3 : List ByteArray) (y5 : List (Int × ByteArray)) => K [] [some ⟨false, [.full 1, .full 4, .int .i64 (-1), .bool true, .int .i64 d.2.1.2.2.2.2.2.1]⟩, some ⟨false, [.seq .str 0 y3]⟩, none, some ⟨d.2.2.2.2.1.1, [.seq .bool 0 d.2.2.2.2.1.2.1]⟩, some ⟨false, [.seq (.pair (.int .i64) .str) 0 y5]⟩]) := Eq.mp (by kernel_rfl) (E9_1g F  (f9_1_l2 F)  d K)
theorem S9_1_ok (F : Nat) (o : Summ) (ho : SoundFn Tryz.prog 9 o) : SoundFn Tryz.prog 9 (S9_1 F o) :=
  soundFn_of (fn := Tryz.f9) (c := code9) rfl rfl (by kernel_rfl) tab_nil (by kernel_rfl) (by kernel_rfl) ho (by rw [loops9]; exact (loopsOK_cons (by kernel_rfl) (L9_1_2 F) loopsOK_nil)) (by rw [scopes9]; exact scopesOK_nil) (by rw [ranges9]; exact rangesOK_nil) (E9_1 F)
end Go.Proofs.YtillbabmlfjegaaGreatDoor.X
end

section
namespace Go.Proofs.YtillbabmlfjegaaGreatDoor.X
open Go Go.Proofs.YtillbabmlfjegaaGreatDoor.Ev Go.Proofs
set_option linter.unusedVariables false
set_option linter.unusedSectionVars false
/-! disk.Disk).Crash -/
noncomputable def f9_7155 {β : Type} (F : Nat) (a1 : List Bool) (K0 : Option β) : Option β := K0
variable [FZ]
def sh9_7155 : Sh := ⟨[.lf (.nilp), .lf (.full 0)], [some ⟨none, [.seq .bool 0]⟩]⟩
noncomputable def S9_7155 (F : Nat) (o : Summ) : Summ := mkS sh9_7155 (fun d K => f9_7155 F d.2.1.2.1 (K [] [some ⟨d.2.1.1, [.seq .bool 0 d.2.1.2.1]⟩])) o
noncomputable def T9_7155 (F : Nat) : FuncId → Option Summ := tab []
noncomputable def LT9_7155 (F : Nat) : Nat → Option LoopS := ltab []
theorem E9_7155g (F : Nat)    (d : sh9_7155.den) (K : KF) : evBody Tryz.prog (tab []) (xw []) 47 1 (ltab []) [] code9 Tryz.f9.results.toList (encT sh9_7155.vs d.1) (encH sh9_7155.h d.2) K = (fun (a1 : List Bool) (K0 : (Option Res)) => K0) d.2.1.2.1 (K [] [some ⟨d.2.1.1, [.seq .bool 0 d.2.1.2.1]⟩]) := by kernel_rfl
theorem E9_7155 (F : Nat) (d : sh9_7155.den) (K : KF) : evBody Tryz.prog (T9_7155 F) (xw []) 47 1 (LT9_7155 F) [] code9 Tryz.f9.results.toList (encT sh9_7155.vs d.1) (encH sh9_7155.h d.2) K = f9_7155 F d.2.1.2.1 (K [] [some ⟨d.2.1.1, [.seq .bool 0 d.2.1.2.1]⟩]) := Eq.mp (by kernel_rfl) (E9_7155g F    d K)
theorem S9_7155_ok (F : Nat) (o : Summ) (ho : SoundFn Tryz.prog 9 o) : SoundFn Tryz.prog 9 (S9_7155 F o) :=
  soundFn_of (fn := Tryz.f9) (c := code9) rfl rfl (by kernel_rfl) tab_nil (by kernel_rfl) (by kernel_rfl) ho (by rw [loops9]; exact (loopsOK_skip (by kernel_rfl) loopsOK_nil)) (by rw [scopes9]; exact scopesOK_nil) (by rw [ranges9]; exact rangesOK_nil) (E9_7155 F)
end Go.Proofs.YtillbabmlfjegaaGreatDoor.X
end

section
namespace Go.Proofs.YtillbabmlfjegaaGreatDoor.X
open Go Go.Proofs.YtillbabmlfjegaaGreatDoor.Ev Go.Proofs
set_option linter.unusedVariables false
set_option linter.unusedSectionVars false
/-! pentimentolaw11.DirtyLoads -/
noncomputable def f3_1 [FZ] {β : Type} (F : Nat) (a1 : Int) (a2 : ByteArray) (a3 : List Int) (a4 : List Int) (a5 : Int) (a6 : Bool) (K0 : Bool → Option β) : Option β := cond (decide (a1 < 1)) (f4_1 F  (fun x1 => K0 x1) ) (cond (decide (a1 > 10)) (f4_1 F  (fun x2 => K0 x2) ) (f5_1 F a1 (f6_1 F a1 (f7_1385 F 5 a2 (f8_1385 F 5 a2 ) ) (fun x3 x4 => f7_1385 F 5 a2 (f8_1 F 5 a2 (-1) false 0 x3 x4 (fun x5 x6 x7 x8 x9 => cond a6 (f9_7155 F [true] (f10_1 F x6 x7 x8 x3 x9 [true] (fun x10 x11 => f11_568 F  (fun x12 x13 => f12_1 F (-1) true x8 x10 x11 (fun x14 x15 x16 x17 => f14_1 F a3 a4 a5 (f13_2761 F a3 a4 a5 (fun x18 => f15_1 F a3 a4 a5 (-1) true x8 x10 x11 (fun x19 x20 x21 x22 x23 x24 => f11_568 F  (fun x25 x26 => f12_1 F x20 x21 x22 x23 x24 (fun x27 x28 x29 x30 => cond ((1 : Int) == x5) (f16_1 F x12 x13 0 (cond ((lbeq (.int .u64) x12 x14) && ((lbeq (.int .u64) x13 x15) && ((0 : Int) == x16))) (cond ((1 : Int) == x17) (cond (x18 == x19) (f16_1 F x25 x26 0 (cond ((lbeq (.int .u64) x25 x27) && ((lbeq (.int .u64) x26 x28) && ((0 : Int) == x29))) (cond ((1 : Int) == x30) (cond (x19 != 0) (f4_1 F  (fun x31 => K0 x31) ) (cond ((lbeq (.int .u64) x27 a3) && ((lbeq (.int .u64) x28 a4) && (x29 == a5))) (f4_1 F  (fun x32 => K0 x32) ) (K0 false))) (K0 false)) (K0 false)) ) (K0 false)) (K0 false)) (K0 false)) ) (K0 false)) ) ) ) ) ) ) ) ) ) (f11_568 F  (fun x33 x34 => f12_1 F x6 x7 x8 x3 x9 (fun x35 x36 x37 x38 => f14_1 F a3 a4 a5 (f13_2761 F a3 a4 a5 (fun x39 => f15_1 F a3 a4 a5 x6 x7 x8 x3 x9 (fun x40 x41 x42 x43 x44 x45 => f11_568 F  (fun x46 x47 => f12_1 F x41 x42 x43 x44 x45 (fun x48 x49 x50 x51 => cond ((1 : Int) == x5) (f16_1 F x33 x34 0 (cond ((lbeq (.int .u64) x33 x35) && ((lbeq (.int .u64) x34 x36) && ((0 : Int) == x37))) (cond ((1 : Int) == x38) (cond (x39 == x40) (f16_1 F x46 x47 0 (cond ((lbeq (.int .u64) x46 x48) && ((lbeq (.int .u64) x47 x49) && ((0 : Int) == x50))) (cond ((1 : Int) == x51) (cond (x40 != 0) (f4_1 F  (fun x52 => K0 x52) ) (cond ((lbeq (.int .u64) x48 a3) && ((lbeq (.int .u64) x49 a4) && (x50 == a5))) (f4_1 F  (fun x53 => K0 x53) ) (K0 false))) (K0 false)) (K0 false)) ) (K0 false)) (K0 false)) (K0 false)) ) (K0 false)) ) ) ) ) ) ) )) ) ) ) (fun x54 x55 => f6_1 F a1 (f7_1 F 5 a2 (-1) false 0 x54 x55 (fun x56 x57 x58 x59 x60 => f8_1385 F 5 a2 ) ) (fun x61 x62 => f7_1 F 5 a2 (-1) false 0 x54 x55 (fun x63 x64 x65 x66 x67 => f8_1 F 5 a2 (-1) false 0 x61 x62 (fun x68 x69 x70 x71 x72 => cond a6 (f9_1 F x64 x65 x66 x54 x67 [true] (fun x73 x74 => f10_1 F x69 x70 x71 x61 x72 [true] (fun x75 x76 => f11_1 F (-1) true x66 x73 x74 (fun x77 x78 x79 x80 => f12_1 F (-1) true x71 x75 x76 (fun x81 x82 x83 x84 => f14_1 F a3 a4 a5 (f13_1 F a3 a4 a5 (-1) true x66 x73 x74 (fun x85 x86 x87 x88 x89 x90 => f15_1 F a3 a4 a5 (-1) true x71 x75 x76 (fun x91 x92 x93 x94 x95 x96 => f11_1 F x86 x87 x88 x89 x90 (fun x97 x98 x99 x100 => f12_1 F x92 x93 x94 x95 x96 (fun x101 x102 x103 x104 => cond (x63 == x68) (f16_1 F x77 x78 x79 (cond ((lbeq (.int .u64) x77 x81) && ((lbeq (.int .u64) x78 x82) && (x79 == x83))) (cond (x80 == x84) (cond (x85 == x91) (f16_1 F x97 x98 x99 (cond ((lbeq (.int .u64) x97 x101) && ((lbeq (.int .u64) x98 x102) && (x99 == x103))) (cond (x100 == x104) (cond (x91 != 0) (f4_1 F  (fun x105 => K0 x105) ) (cond ((lbeq (.int .u64) x101 a3) && ((lbeq (.int .u64) x102 a4) && (x103 == a5))) (f4_1 F  (fun x106 => K0 x106) ) (K0 false))) (K0 false)) (K0 false)) ) (K0 false)) (K0 false)) (K0 false)) ) (K0 false)) ) ) ) ) ) ) ) ) ) (f11_1 F x64 x65 x66 x54 x67 (fun x107 x108 x109 x110 => f12_1 F x69 x70 x71 x61 x72 (fun x111 x112 x113 x114 => f14_1 F a3 a4 a5 (f13_1 F a3 a4 a5 x64 x65 x66 x54 x67 (fun x115 x116 x117 x118 x119 x120 => f15_1 F a3 a4 a5 x69 x70 x71 x61 x72 (fun x121 x122 x123 x124 x125 x126 => f11_1 F x116 x117 x118 x119 x120 (fun x127 x128 x129 x130 => f12_1 F x122 x123 x124 x125 x126 (fun x131 x132 x133 x134 => cond (x63 == x68) (f16_1 F x107 x108 x109 (cond ((lbeq (.int .u64) x107 x111) && ((lbeq (.int .u64) x108 x112) && (x109 == x113))) (cond (x110 == x114) (cond (x115 == x121) (f16_1 F x127 x128 x129 (cond ((lbeq (.int .u64) x127 x131) && ((lbeq (.int .u64) x128 x132) && (x129 == x133))) (cond (x130 == x134) (cond (x121 != 0) (f4_1 F  (fun x135 => K0 x135) ) (cond ((lbeq (.int .u64) x131 a3) && ((lbeq (.int .u64) x132 a4) && (x133 == a5))) (f4_1 F  (fun x136 => K0 x136) ) (K0 false))) (K0 false)) (K0 false)) ) (K0 false)) (K0 false)) (K0 false)) ) (K0 false)) ) ) ) ) ) ) )) ) ) ) ))
variable [FZ]
def sh3_1 : Sh := ⟨[.lf (.int .i64), .lf (.str), .agg [.seq (.int .u64) 2, .seq (.int .u64) 2, .int .u64], .lf (.bool)], []⟩
noncomputable def S3_1 (F : Nat) (o : Summ) : Summ := mkS sh3_1 (fun d K => f3_1 F d.1.1 d.1.2.1 d.1.2.2.1.1 d.1.2.2.1.2.1 d.1.2.2.1.2.2.1 d.1.2.2.2.1 (fun (y0 : Bool) => K [.lf (.bool y0)] [])) o
noncomputable def code3 : Code := bodyOf Tryz.f3
theorem scopes3 : scopesOf code3 = [] := by kernel_rfl
theorem ranges3 : rangesOf code3 = [] := by kernel_rfl
theorem loops3 : loopsOf code3 = [] := by kernel_rfl
theorem enter3 : ∀ args w, (callFunc 3 args).run Tryz.prog w = .ok (.enter 3 args) w := enter_of (fn := Tryz.f3) (by kernel_rfl) (by kernel_rfl) (by kernel_rfl)
noncomputable def T3_1 (F : Nat) : FuncId → Option Summ := tab [(4, (S4_1 F noS)), (5, (S5_1 F noS)), (6, (S6_1 F noS)), (7, (S7_1 F (S7_1385 F noS))), (8, (S8_1 F (S8_1385 F noS))), (9, (S9_1 F (S9_7155 F noS))), (10, (S10_1 F noS)), (11, (S11_1 F (S11_568 F noS))), (12, (S12_1 F noS)), (13, (S13_1 F (S13_2761 F noS))), (14, (S14_1 F noS)), (15, (S15_1 F noS)), (16, (S16_1 F noS))]
noncomputable def LT3_1 (F : Nat) : Nat → Option LoopS := ltab []
theorem E3_1g (F : Nat) (c4_1 : (Bool → Option Res) → Option Res) (c5_1 : Int → (Option Res) → (List ByteArray → List (Int × ByteArray) → Option Res) → Option Res) (c6_1 : Int → (Option Res) → (List ByteArray → List (Int × ByteArray) → Option Res) → Option Res) (c7_1 : Int → ByteArray → Int → Bool → Int → List ByteArray → List (Int × ByteArray) → (Int → Int → Bool → Int → List (Int × ByteArray) → Option Res) → Option Res) (c7_1385 : Int → ByteArray → (Option Res) → Option Res) (c8_1 : Int → ByteArray → Int → Bool → Int → List ByteArray → List (Int × ByteArray) → (Int → Int → Bool → Int → List (Int × ByteArray) → Option Res) → Option Res) (c8_1385 : Int → ByteArray → Option Res) (c9_1 : Int → Bool → Int → List ByteArray → List (Int × ByteArray) → List Bool → (List ByteArray → List (Int × ByteArray) → Option Res) → Option Res) (c9_7155 : List Bool → (Option Res) → Option Res) (c10_1 : Int → Bool → Int → List ByteArray → List (Int × ByteArray) → List Bool → (List ByteArray → List (Int × ByteArray) → Option Res) → Option Res) (c11_1 : Int → Bool → Int → List ByteArray → List (Int × ByteArray) → (List Int → List Int → Int → Int → Option Res) → Option Res) (c11_568 : (List Int → List Int → Option Res) → Option Res) (c12_1 : Int → Bool → Int → List ByteArray → List (Int × ByteArray) → (List Int → List Int → Int → Int → Option Res) → Option Res) (c13_1 : List Int → List Int → Int → Int → Bool → Int → List ByteArray → List (Int × ByteArray) → (Int → Int → Bool → Int → List ByteArray → List (Int × ByteArray) → Option Res) → Option Res) (c13_2761 : List Int → List Int → Int → (Int → Option Res) → Option Res) (c14_1 : List Int → List Int → Int → (Option Res) → Option Res) (c15_1 : List Int → List Int → Int → Int → Bool → Int → List ByteArray → List (Int × ByteArray) → (Int → Int → Bool → Int → List ByteArray → List (Int × ByteArray) → Option Res) → Option Res) (c16_1 : List Int → List Int → Int → (Option Res) → Option Res)   (d : sh3_1.den) (K : KF) : evBody Tryz.prog (tab [(4, (mkS sh4_1 (fun d K => c4_1 (fun (y0 : Bool) => K [.lf (.bool y0)] [])) noS)), (5, (mkS sh5_1 (fun d K => c5_1 d.1.1 (K [.lf (.nilp), .lf (.int .i64 2)] []) (fun (y4 : List ByteArray) (y5 : List (Int × ByteArray)) => K [.lf (.ptr 0 0), .lf (.int .i64 0)] [some ⟨false, [.full 1, .full 2, .int .i64 (-1), .bool false, .int .i64 0]⟩, some ⟨false, [.seq .str 0 y4]⟩, some ⟨false, [.seq (.pair (.int .i64) .str) 0 y5]⟩])) noS)), (6, (mkS sh6_1 (fun d K => c6_1 d.1.1 (K [.lf (.nilp), .lf (.int .i64 2)] []) (fun (y4 : List ByteArray) (y5 : List (Int × ByteArray)) => K [.lf (.ptr 0 0), .lf (.int .i64 0)] [some ⟨false, [.full 1, .full 2, .int .i64 (-1), .bool false, .int .i64 0]⟩, some ⟨false, [.seq .str 0 y4]⟩, some ⟨false, [.seq (.pair (.int .i64) .str) 0 y5]⟩])) noS)), (7, (mkS sh7_1 (fun d K => c7_1 d.1.2.1 d.1.2.2.1 d.2.1.2.2.2.1 d.2.1.2.2.2.2.1 d.2.1.2.2.2.2.2.1 d.2.2.1.2.1 d.2.2.2.1.2.1 (fun (y0 : Int) (y1 : Int) (y2 : Bool) (y3 : Int) (y5 : List (Int × ByteArray)) => K [.lf (.int .i64 y0)] [some ⟨false, [.full 1, .full 3, .int .i64 y1, .bool y2, .int .i64 y3]⟩, some ⟨d.2.2.1.1, [.seq .str 0 d.2.2.1.2.1]⟩, none, some ⟨false, [.seq (.pair (.int .i64) .str) 0 y5]⟩])) (mkS sh7_1385 (fun d K => c7_1385 d.1.2.1 d.1.2.2.1 (K [.lf (.int .i64 1)] [])) noS))), (8, (mkS sh8_1 (fun d K => c8_1 d.1.2.1 d.1.2.2.1 d.2.1.2.2.2.1 d.2.1.2.2.2.2.1 d.2.1.2.2.2.2.2.1 d.2.2.1.2.1 d.2.2.2.1.2.1 (fun (y0 : Int) (y1 : Int) (y2 : Bool) (y3 : Int) (y5 : List (Int × ByteArray)) => K [.lf (.int .i64 y0)] [some ⟨false, [.full 1, .full 3, .int .i64 y1, .bool y2, .int .i64 y3]⟩, some ⟨d.2.2.1.1, [.seq .str 0 d.2.2.1.2.1]⟩, none, some ⟨false, [.seq (.pair (.int .i64) .str) 0 y5]⟩])) (mkS sh8_1385 (fun d K => c8_1385 d.1.2.1 d.1.2.2.1) noS))), (9, (mkS sh9_1 (fun d K => c9_1 d.2.1.2.2.2.1 d.2.1.2.2.2.2.1 d.2.1.2.2.2.2.2.1 d.2.2.1.2.1 d.2.2.2.1.2.1 d.2.2.2.2.1.2.1 (fun (y3 : List ByteArray) (y5 : List (Int × ByteArray)) => K [] [some ⟨false, [.full 1, .full 4, .int .i64 (-1), .bool true, .int .i64 d.2.1.2.2.2.2.2.1]⟩, some ⟨false, [.seq .str 0 y3]⟩, none, some ⟨d.2.2.2.2.1.1, [.seq .bool 0 d.2.2.2.2.1.2.1]⟩, some ⟨false, [.seq (.pair (.int .i64) .str) 0 y5]⟩])) (mkS sh9_7155 (fun d K => c9_7155 d.2.1.2.1 (K [] [some ⟨d.2.1.1, [.seq .bool 0 d.2.1.2.1]⟩])) noS))), (10, (mkS sh10_1 (fun d K => c10_1 d.2.1.2.2.2.1 d.2.1.2.2.2.2.1 d.2.1.2.2.2.2.2.1 d.2.2.1.2.1 d.2.2.2.1.2.1 d.2.2.2.2.1.2.1 (fun (y3 : List ByteArray) (y5 : List (Int × ByteArray)) => K [] [some ⟨false, [.full 1, .full 4, .int .i64 (-1), .bool true, .int .i64 d.2.1.2.2.2.2.2.1]⟩, some ⟨false, [.seq .str 0 y3]⟩, none, some ⟨d.2.2.2.2.1.1, [.seq .bool 0 d.2.2.2.2.1.2.1]⟩, some ⟨false, [.seq (.pair (.int .i64) .str) 0 y5]⟩])) noS)), (11, (mkS sh11_1 (fun d K => c11_1 d.2.1.2.2.2.1 d.2.1.2.2.2.2.1 d.2.1.2.2.2.2.2.1 d.2.2.1.2.1 d.2.2.2.1.2.1 (fun (y0 : List Int) (y1 : List Int) (y2 : Int) (y3 : Int) => K [.agg [.seq (.int .u64) 2 y0, .seq (.int .u64) 2 y1, .int .u64 y2], .lf (.int .i64 y3)] [some ⟨d.2.1.1, [.full 1, .full 2, .int .i64 d.2.1.2.2.2.1, .bool d.2.1.2.2.2.2.1, .int .i64 d.2.1.2.2.2.2.2.1]⟩, some ⟨d.2.2.1.1, [.seq .str 0 d.2.2.1.2.1]⟩, some ⟨d.2.2.2.1.1, [.seq (.pair (.int .i64) .str) 0 d.2.2.2.1.2.1]⟩])) (mkS sh11_568 (fun d K => c11_568 (fun (y0 : List Int) (y1 : List Int) => K [.agg [.seq (.int .u64) 2 y0, .seq (.int .u64) 2 y1, .int .u64 0], .lf (.int .i64 1)] [])) noS))), (12, (mkS sh12_1 (fun d K => c12_1 d.2.1.2.2.2.1 d.2.1.2.2.2.2.1 d.2.1.2.2.2.2.2.1 d.2.2.1.2.1 d.2.2.2.1.2.1 (fun (y0 : List Int) (y1 : List Int) (y2 : Int) (y3 : Int) => K [.agg [.seq (.int .u64) 2 y0, .seq (.int .u64) 2 y1, .int .u64 y2], .lf (.int .i64 y3)] [some ⟨d.2.1.1, [.full 1, .full 2, .int .i64 d.2.1.2.2.2.1, .bool d.2.1.2.2.2.2.1, .int .i64 d.2.1.2.2.2.2.2.1]⟩, some ⟨d.2.2.1.1, [.seq .str 0 d.2.2.1.2.1]⟩, some ⟨d.2.2.2.1.1, [.seq (.pair (.int .i64) .str) 0 d.2.2.2.1.2.1]⟩])) noS)), (13, (mkS sh13_1 (fun d K => c13_1 d.1.2.1.1 d.1.2.1.2.1 d.1.2.1.2.2.1 d.2.1.2.2.2.1 d.2.1.2.2.2.2.1 d.2.1.2.2.2.2.2.1 d.2.2.1.2.1 d.2.2.2.1.2.1 (fun (y0 : Int) (y1 : Int) (y2 : Bool) (y3 : Int) (y4 : List ByteArray) (y5 : List (Int × ByteArray)) => K [.lf (.int .i64 y0)] [some ⟨false, [.full 1, .full 3, .int .i64 y1, .bool y2, .int .i64 y3]⟩, some ⟨false, [.seq .str 0 y4]⟩, none, some ⟨false, [.seq (.pair (.int .i64) .str) 0 y5]⟩])) (mkS sh13_2761 (fun d K => c13_2761 d.1.2.1.1 d.1.2.1.2.1 d.1.2.1.2.2.1 (fun (y0 : Int) => K [.lf (.int .i64 y0)] [])) noS))), (14, (mkS sh14_1 (fun d K => c14_1 d.1.1.1 d.1.1.2.1 d.1.1.2.2.1 (K [.agg [.seq (.int .u64) 2 d.1.1.1, .seq (.int .u64) 2 d.1.1.2.1, .int .u64 d.1.1.2.2.1]] [])) noS)), (15, (mkS sh15_1 (fun d K => c15_1 d.1.2.1.1 d.1.2.1.2.1 d.1.2.1.2.2.1 d.2.1.2.2.2.1 d.2.1.2.2.2.2.1 d.2.1.2.2.2.2.2.1 d.2.2.1.2.1 d.2.2.2.1.2.1 (fun (y0 : Int) (y1 : Int) (y2 : Bool) (y3 : Int) (y4 : List ByteArray) (y5 : List (Int × ByteArray)) => K [.lf (.int .i64 y0)] [some ⟨false, [.full 1, .full 3, .int .i64 y1, .bool y2, .int .i64 y3]⟩, some ⟨false, [.seq .str 0 y4]⟩, none, some ⟨false, [.seq (.pair (.int .i64) .str) 0 y5]⟩])) noS)), (16, (mkS sh16_1 (fun d K => c16_1 d.1.1.1 d.1.1.2.1 d.1.1.2.2.1 (K [.agg [.seq (.int .u64) 2 d.1.1.1, .seq (.int .u64) 2 d.1.1.2.1, .int .u64 d.1.1.2.2.1]] [])) noS))]) (xw []) 124 0 (ltab []) [] code3 Tryz.f3.results.toList (encT sh3_1.vs d.1) (encH sh3_1.h d.2) K = (fun (a1 : Int) (a2 : ByteArray) (a3 : List Int) (a4 : List Int) (a5 : Int) (a6 : Bool) (K0 : (Bool → Option Res)) => cond (decide (a1 < 1)) (c4_1  (fun x1 => K0 x1) ) (cond (decide (a1 > 10)) (c4_1  (fun x2 => K0 x2) ) (c5_1 a1 (c6_1 a1 (c7_1385 5 a2 (c8_1385 5 a2 ) ) (fun x3 x4 => c7_1385 5 a2 (c8_1 5 a2 (-1) false 0 x3 x4 (fun x5 x6 x7 x8 x9 => cond a6 (c9_7155 [true] (c10_1 x6 x7 x8 x3 x9 [true] (fun x10 x11 => c11_568  (fun x12 x13 => c12_1 (-1) true x8 x10 x11 (fun x14 x15 x16 x17 => c14_1 a3 a4 a5 (c13_2761 a3 a4 a5 (fun x18 => c15_1 a3 a4 a5 (-1) true x8 x10 x11 (fun x19 x20 x21 x22 x23 x24 => c11_568  (fun x25 x26 => c12_1 x20 x21 x22 x23 x24 (fun x27 x28 x29 x30 => cond ((1 : Int) == x5) (c16_1 x12 x13 0 (cond ((lbeq (.int .u64) x12 x14) && ((lbeq (.int .u64) x13 x15) && ((0 : Int) == x16))) (cond ((1 : Int) == x17) (cond (x18 == x19) (c16_1 x25 x26 0 (cond ((lbeq (.int .u64) x25 x27) && ((lbeq (.int .u64) x26 x28) && ((0 : Int) == x29))) (cond ((1 : Int) == x30) (cond (x19 != 0) (c4_1  (fun x31 => K0 x31) ) (cond ((lbeq (.int .u64) x27 a3) && ((lbeq (.int .u64) x28 a4) && (x29 == a5))) (c4_1  (fun x32 => K0 x32) ) (K0 false))) (K0 false)) (K0 false)) ) (K0 false)) (K0 false)) (K0 false)) ) (K0 false)) ) ) ) ) ) ) ) ) ) (c11_568  (fun x33 x34 => c12_1 x6 x7 x8 x3 x9 (fun x35 x36 x37 x38 => c14_1 a3 a4 a5 (c13_2761 a3 a4 a5 (fun x39 => c15_1 a3 a4 a5 x6 x7 x8 x3 x9 (fun x40 x41 x42 x43 x44 x45 => c11_568  (fun x46 x47 => c12_1 x41 x42 x43 x44 x45 (fun x48 x49 x50 x51 => cond ((1 : Int) == x5) (c16_1 x33 x34 0 (cond ((lbeq (.int .u64) x33 x35) && ((lbeq (.int .u64) x34 x36) && ((0 : Int) == x37))) (cond ((1 : Int) == x38) (cond (x39 == x40) (c16_1 x46 x47 0 (cond ((lbeq (.int .u64) x46 x48) && ((lbeq (.int .u64) x47 x49) && ((0 : Int) == x50))) (cond ((1 : Int) == x51) (cond (x40 != 0) (c4_1  (fun x52 => K0 x52) ) (cond ((lbeq (.int .u64) x48 a3) && ((lbeq (.int .u64) x49 a4) && (x50 == a5))) (c4_1  (fun x53 => K0 x53) ) (K0 false))) (K0 false)) (K0 false)) ) (K0 false)) (K0 false)) (K0 false)) ) (K0 false)) ) ) ) ) ) ) )) ) ) ) (fun x54 x55 => c6_1 a1 (c7_1 5 a2 (-1) false 0 x54 x55 (fun x56 x57 x58 x59 x60 => c8_1385 5 a2 ) ) (fun x61 x62 => c7_1 5 a2 (-1) false 0 x54 x55 (fun x63 x64 x65 x66 x67 => c8_1 5 a2 (-1) false 0 x61 x62 (fun x68 x69 x70 x71 x72 => cond a6 (c9_1 x64 x65 x66 x54 x67 [true] (fun x73 x74 => c10_1 x69 x70 x71 x61 x72 [true] (fun x75 x76 => c11_1 (-1) true x66 x73 x74 (fun x77 x78 x79 x80 => c12_1 (-1) true x71 x75 x76 (fun x81 x82 x83 x84 => c14_1 a3 a4 a5 (c13_1 a3 a4 a5 (-1) true x66 x73 x74 (fun x85 x86 x87 x88 x89 x90 => c15_1 a3 a4 a5 (-1) true x71 x75 x76 (fun x91 x92 x93 x94 x95 x96 => c11_1 x86 x87 x88 x89 x90 (fun x97 x98 x99 x100 => c12_1 x92 x93 x94 x95 x96 (fun x101 x102 x103 x104 => cond (x63 == x68) (c16_1 x77 x78 x79 (cond ((lbeq (.int .u64) x77 x81) && ((lbeq (.int .u64) x78 x82) && (x79 == x83))) (cond (x80 == x84) (cond (x85 == x91) (c16_1 x97 x98 x99 (cond ((lbeq (.int .u64) x97 x101) && ((lbeq (.int .u64) x98 x102) && (x99 == x103))) (cond (x100 == x104) (cond (x91 != 0) (c4_1  (fun x105 => K0 x105) ) (cond ((lbeq (.int .u64) x101 a3) && ((lbeq (.int .u64) x102 a4) && (x103 == a5))) (c4_1  (fun x106 => K0 x106) ) (K0 false))) (K0 false)) (K0 false)) ) (K0 false)) (K0 false)) (K0 false)) ) (K0 false)) ) ) ) ) ) ) ) ) ) (c11_1 x64 x65 x66 x54 x67 (fun x107 x108 x109 x110 => c12_1 x69 x70 x71 x61 x72 (fun x111 x112 x113 x114 => c14_1 a3 a4 a5 (c13_1 a3 a4 a5 x64 x65 x66 x54 x67 (fun x115 x116 x117 x118 x119 x120 => c15_1 a3 a4 a5 x69 x70 x71 x61 x72 (fun x121 x122 x123 x124 x125 x126 => c11_1 x116 x117 x118 x119 x120 (fun x127 x128 x129 x130 => c12_1 x122 x123 x124 x125 x126 (fun x131 x132 x133 x134 => cond (x63 == x68) (c16_1 x107 x108 x109 (cond ((lbeq (.int .u64) x107 x111) && ((lbeq (.int .u64) x108 x112) && (x109 == x113))) (cond (x110 == x114) (cond (x115 == x121) (c16_1 x127 x128 x129 (cond ((lbeq (.int .u64) x127 x131) && ((lbeq (.int .u64) x128 x132) && (x129 == x133))) (cond (x130 == x134) (cond (x121 != 0) (c4_1  (fun x135 => K0 x135) ) (cond ((lbeq (.int .u64) x131 a3) && ((lbeq (.int .u64) x132 a4) && (x133 == a5))) (c4_1  (fun x136 => K0 x136) ) (K0 false))) (K0 false)) (K0 false)) ) (K0 false)) (K0 false)) (K0 false)) ) (K0 false)) ) ) ) ) ) ) )) ) ) ) ))) d.1.1 d.1.2.1 d.1.2.2.1.1 d.1.2.2.1.2.1 d.1.2.2.1.2.2.1 d.1.2.2.2.1 (fun (y0 : Bool) => K [.lf (.bool y0)] []) := by kernel_rfl
theorem E3_1 (F : Nat) (d : sh3_1.den) (K : KF) : evBody Tryz.prog (T3_1 F) (xw []) 124 0 (LT3_1 F) [] code3 Tryz.f3.results.toList (encT sh3_1.vs d.1) (encH sh3_1.h d.2) K = f3_1 F d.1.1 d.1.2.1 d.1.2.2.1.1 d.1.2.2.1.2.1 d.1.2.2.1.2.2.1 d.1.2.2.2.1 (fun (y0 : Bool) => K [.lf (.bool y0)] []) := Eq.mp (by kernel_rfl) (E3_1g F (f4_1 F) (f5_1 F) (f6_1 F) (f7_1 F) (f7_1385 F) (f8_1 F) (f8_1385 F) (f9_1 F) (f9_7155 F) (f10_1 F) (f11_1 F) (f11_568 F) (f12_1 F) (f13_1 F) (f13_2761 F) (f14_1 F) (f15_1 F) (f16_1 F)   d K)
theorem S3_1_ok (F : Nat) (o : Summ) (ho : SoundFn Tryz.prog 3 o) : SoundFn Tryz.prog 3 (S3_1 F o) :=
  soundFn_of (fn := Tryz.f3) (c := code3) rfl rfl (by kernel_rfl) (tab_cons (S4_1_ok F _ (noS_sound enter4)) (tab_cons (S5_1_ok F _ (noS_sound enter5)) (tab_cons (S6_1_ok F _ (noS_sound enter6)) (tab_cons (S7_1_ok F _ (S7_1385_ok F _ (noS_sound enter7))) (tab_cons (S8_1_ok F _ (S8_1385_ok F _ (noS_sound enter8))) (tab_cons (S9_1_ok F _ (S9_7155_ok F _ (noS_sound enter9))) (tab_cons (S10_1_ok F _ (noS_sound enter10)) (tab_cons (S11_1_ok F _ (S11_568_ok F _ (noS_sound enter11))) (tab_cons (S12_1_ok F _ (noS_sound enter12)) (tab_cons (S13_1_ok F _ (S13_2761_ok F _ (noS_sound enter13))) (tab_cons (S14_1_ok F _ (noS_sound enter14)) (tab_cons (S15_1_ok F _ (noS_sound enter15)) (tab_cons (S16_1_ok F _ (noS_sound enter16)) tab_nil))))))))))))) (by kernel_rfl) (by kernel_rfl) ho (by rw [loops3]; exact loopsOK_nil) (by rw [scopes3]; exact scopesOK_nil) (by rw [ranges3]; exact rangesOK_nil) (E3_1 F)
end Go.Proofs.YtillbabmlfjegaaGreatDoor.X
end

section
/- Numbers of a fixed width: what wrapping and the bits' operations come to where nothing is lost. -/
namespace Go.Proofs.YtillbabmlfjegaaGreatDoor.X
open Go Go.Proofs.YtillbabmlfjegaaGreatDoor.Ev
set_option linter.unusedSectionVars false
variable [FZ]
set_option linter.unusedVariables false
set_option linter.unusedSimpArgs false

theorem w64 {x : Int} (h : -9223372036854775808 ≤ x) (h' : x ≤ 9223372036854775807) : IntKind.i64.wrap x = x := by
  simp only [IntKind.wrap, IntKind.bits, IntKind.signed, Bool.true_and]
  split <;> (rename_i hq; simp at hq; omega)

theorem wu64 {x : Int} (h : 0 ≤ x) (h' : x < 18446744073709551616) : IntKind.u64.wrap x = x := by
  simp only [IntKind.wrap, IntKind.bits, IntKind.signed, Bool.false_and]
  simp; omega

theorem wu32 {x : Int} (h : 0 ≤ x) (h' : x < 4294967296) : IntKind.u32.wrap x = x := by
  simp only [IntKind.wrap, IntKind.bits, IntKind.signed, Bool.false_and]
  simp; omega

theorem wu8 {x : Int} (h : 0 ≤ x) (h' : x < 256) : IntKind.u8.wrap x = x := by
  simp only [IntKind.wrap, IntKind.bits, IntKind.signed, Bool.false_and]
  simp; omega

theorem wu64m (x : Int) : IntKind.u64.wrap x = x % 18446744073709551616 := by
  simp only [IntKind.wrap, IntKind.bits, IntKind.signed, Bool.false_and]
  simp
theorem wu32m (x : Int) : IntKind.u32.wrap x = x % 4294967296 := by
  simp only [IntKind.wrap, IntKind.bits, IntKind.signed, Bool.false_and]
  simp
theorem wu8m (x : Int) : IntKind.u8.wrap x = x % 256 := by
  simp only [IntKind.wrap, IntKind.bits, IntKind.signed, Bool.false_and]
  simp

theorem i64_of_wf {n : Int} (h : (Lit.int .i64 n).wf = true) : -9223372036854775808 ≤ n ∧ n ≤ 9223372036854775807 := by
  simp [Lit.wf, IntKind.min, IntKind.max, IntKind.bits, IntKind.signed] at h; omega
theorem u64_of_wf {n : Int} (h : (Lit.int .u64 n).wf = true) : 0 ≤ n ∧ n < 18446744073709551616 := by
  simp [Lit.wf, IntKind.min, IntKind.max, IntKind.bits, IntKind.signed] at h; omega
theorem u8_of_wf {n : Int} (h : (Lit.int .u8 n).wf = true) : 0 ≤ n ∧ n < 256 := by
  simp [Lit.wf, IntKind.min, IntKind.max, IntKind.bits, IntKind.signed] at h; omega
theorem u32_of_wf {n : Int} (h : (Lit.int .u32 n).wf = true) : 0 ≤ n ∧ n < 4294967296 := by
  simp [Lit.wf, IntKind.min, IntKind.max, IntKind.bits, IntKind.signed] at h; omega

theorem or64 {A B : Nat} (hA : A < 2 ^ 64) (hB : B < 2 ^ 64) : ior .u64 (A : Int) (B : Int) = ((A ||| B : Nat) : Int) := by
  have h : (BitVec.ofInt 64 (A : Int) ||| BitVec.ofInt 64 (B : Int)).toNat = A ||| B := by
    simp [BitVec.toNat_or, BitVec.ofInt_natCast, BitVec.toNat_ofNat, Nat.mod_eq_of_lt hA, Nat.mod_eq_of_lt hB]
  have hl := Nat.or_lt_two_pow hA hB
  show IntKind.u64.wrap ((BitVec.ofInt 64 (A : Int) ||| BitVec.ofInt 64 (B : Int)).toNat : Int) = _
  rw [h, wu64 (by omega) (by omega)]
theorem and64 {A B : Nat} (hA : A < 2 ^ 64) (hB : B < 2 ^ 64) : iand .u64 (A : Int) (B : Int) = ((A &&& B : Nat) : Int) := by
  have h : (BitVec.ofInt 64 (A : Int) &&& BitVec.ofInt 64 (B : Int)).toNat = A &&& B := by
    simp [BitVec.toNat_and, BitVec.ofInt_natCast, BitVec.toNat_ofNat, Nat.mod_eq_of_lt hA, Nat.mod_eq_of_lt hB]
  have hl : A &&& B < 2 ^ 64 := Nat.and_lt_two_pow A hB
  show IntKind.u64.wrap ((BitVec.ofInt 64 (A : Int) &&& BitVec.ofInt 64 (B : Int)).toNat : Int) = _
  rw [h, wu64 (by omega) (by omega)]
theorem shl64 {i : Nat} (hi : i < 64) : ishl .u64 1 (i : Int) = ((2 ^ i : Nat) : Int) := by
  have h2 : (2 : Nat) ^ i < 2 ^ 64 := Nat.pow_lt_pow_right (by omega) hi
  have : (1 : Int) * 2 ^ (min i 64) = ((2 ^ i : Nat) : Int) := by
    rw [Nat.min_eq_left (by omega), Int.one_mul]; push_cast; rfl
  simp only [ishl, IntKind.bits, Int.toNat_natCast]
  rw [this, wu64 (Int.natCast_nonneg _) (Int.ofNat_lt.2 h2)]
theorem shr64 {A i : Nat} (hi : i < 64) : ishr .u64 (A : Int) (i : Int) = ((A >>> i : Nat) : Int) := by
  have : ((2 : Int) ^ i) = ((2 ^ i : Nat) : Int) := by push_cast; rfl
  simp only [ishr, IntKind.bits, Int.toNat_natCast]
  rw [Nat.min_eq_left (by omega), Int.fdiv_eq_ediv_of_nonneg _ (by rw [this]; exact Int.natCast_nonneg _), this, Nat.shiftRight_eq_div_pow]
  push_cast; rfl

/-- The number with given bits, below n. -/
def mk (f : Nat → Bool) : Nat → Nat
  | 0 => 0
  | n + 1 => if f n then mk f n ||| 2 ^ n else mk f n

theorem mk_lt (f : Nat → Bool) : ∀ n, mk f n < 2 ^ n
  | 0 => by simp [mk]
  | n + 1 => by
    have := mk_lt f n
    have h2 : (2 : Nat) ^ n < 2 ^ (n + 1) := Nat.pow_lt_pow_right (by omega) (by omega)
    simp only [mk]
    split
    · exact Nat.or_lt_two_pow (by omega) h2
    · omega

theorem mk_bit (f : Nat → Bool) : ∀ n j, (mk f n).testBit j = (decide (j < n) && f j)
  | 0, j => by simp [mk]
  | n + 1, j => by
    simp only [mk]
    split
    · rename_i h
      rw [Nat.testBit_or, mk_bit f n, Nat.testBit_two_pow]
      by_cases hj : j = n
      · subst hj; simp [h]
      · have h1 : decide (j < n) = decide (j < n + 1) := decide_eq_decide.2 (by omega)
        simp [Ne.symm hj, h1]
    · rename_i h
      rw [mk_bit f n]
      by_cases hj : j = n
      · subst hj; simp at h; simp [h]
      · have h1 : decide (j < n) = decide (j < n + 1) := decide_eq_decide.2 (by omega)
        rw [h1]

theorem mk_eq {A n : Nat} {f : Nat → Bool} (hA : A < 2 ^ n) (h : ∀ j, j < n → f j = A.testBit j) : mk f n = A := by
  apply Nat.eq_of_testBit_eq
  intro j
  rw [mk_bit]
  by_cases hj : j < n
  · simp [hj, h j hj]
  · simp [hj]
    exact Nat.testBit_lt_two_pow (Nat.lt_of_lt_of_le hA (Nat.pow_le_pow_right (by omega) (by omega)))

theorem bit_test {A i : Nat} : ((A >>> i &&& 1 : Nat) == 1) = A.testBit i := by
  simp [Nat.testBit, Nat.and_comm]

theorem natbeq {a b : Nat} : (((a : Int) == ((b : Nat) : Int)) : Bool) = (a == b) := by
  rw [Bool.eq_iff_iff]; simp; omega

theorem tdiv_nn {a b : Nat} : ((a : Int).tdiv (b : Int)) = ((a / b : Nat) : Int) := by
  rw [Int.tdiv_eq_ediv_of_nonneg (by omega)]; rfl
theorem tmod_nn {a b : Nat} : ((a : Int).tmod (b : Int)) = ((a % b : Nat) : Int) := by
  rw [Int.tmod_eq_emod_of_nonneg (by omega)]; rfl

theorem lbeq_refl (k : EK) (hr : ∀ x : k.den, k.beq x x = true) : ∀ l : List k.den, lbeq k l l = true
  | [] => rfl
  | x :: r => by simp [lbeq, hr x, lbeq_refl k hr r]
theorem lbeq_int (k : IntKind) (l : List Int) : lbeq (.int k) l l = true := lbeq_refl (.int k) (fun x => by simp [EK.beq]) l
theorem lbeq_int_iff (k : IntKind) : ∀ (l r : List Int), lbeq (.int k) l r = true ↔ l = r
  | [], [] => by simp [lbeq]
  | [], _ :: _ => by simp [lbeq]
  | _ :: _, [] => by simp [lbeq]
  | x :: l, y :: r => by simp [lbeq, EK.beq, lbeq_int_iff k l r]

theorem ct {α : Sort _} {p : Prop} [Decidable p] {a b : α} (h : p) : cond (decide p) a b = a := by simp [h]
theorem cf {α : Sort _} {p : Prop} [Decidable p] {a b : α} (h : ¬ p) : cond (decide p) a b = b := by simp [h]

end Go.Proofs.YtillbabmlfjegaaGreatDoor.X
end

section
/- A disk: what each act of the program's and of the document's comes to, in one form (each function has one way out: gen.py moves the lists). -/
namespace Go.Proofs.YtillbabmlfjegaaGreatDoor.X
open Go Go.Proofs.YtillbabmlfjegaaGreatDoor.Ev
set_option linter.unusedSectionVars false
variable [FZ]
set_option linter.unusedVariables false
set_option linter.unusedSimpArgs false

abbrev WL := List (Int × ByteArray)

/-- What is so of a disk of n sectors, behind at most k acts. -/
structure DS (n k : Nat) (a c : Int) (l : List ByteArray) (w : WL) : Prop where
  n40 : n ≤ 2000
  k300 : k ≤ 300
  len : l.length = n
  wl : w.length ≤ k
  wb : ∀ p ∈ w, 0 ≤ p.1 ∧ p.1 < n
  ar : -1 ≤ a ∧ a ≤ 9223372036854775807
  cr : 0 ≤ c ∧ c ≤ k

theorem getD_of_drop {α : Type} {l r : List α} {i : Nat} {x d : α} (h : l.drop i = x :: r) : i < l.length ∧ l.getD (0 + (i : Int).toNat) d = x ∧ l.drop (i + 1) = r := by
  have h1 : i < l.length := by
    rcases Nat.lt_or_ge i l.length with h1 | h1
    · exact h1
    · rw [List.drop_eq_nil_of_le h1] at h; cases h
  rw [List.drop_eq_getElem_cons h1] at h
  injection h with h2 h3
  refine ⟨h1, ?_, h3⟩
  simp [h1, h2]

theorem getD_out {α : Type} {l : List α} {i : Nat} {d : α} (h : l.length ≤ i) : l.getD i d = d := by simp [List.getD_eq_getElem?_getD, List.getElem?_eq_none h]

theorem len_of_drop_nil {α : Type} {l : List α} {i : Nat} (h : l.drop i = []) (hi : i ≤ l.length) : i = l.length := by
  have := congrArg List.length h
  simp at this; omega

/-! ### A sector as it is flushed; as it was written last -/

def kp (x : Int) (l : List ByteArray) : ByteArray × Int := if 0 ≤ x ∧ x < (l.length : Int) then (l.getD x.toNat ByteArray.empty, 0) else (ByteArray.empty, 3)

theorem keptP {β : Type} {F : Nat} {x a c : Int} {b : Bool} {l : List ByteArray} {w : WL} {K : ByteArray → Int → Option β} : f50_1 F x a b c l w K = K (kp x l).1 (kp x l).2 := by
  rw [f50_1, f25_1, kp]
  by_cases h1 : 0 ≤ x
  · rw [ct (by omega)]
    by_cases h2 : x < (l.length : Int)
    · rw [if_pos ⟨h1, h2⟩, decide_eq_true h2, Bool.not_true, cond_false, ct ⟨h1, h2⟩, ct (by omega), Nat.zero_add]
    · rw [if_neg (by omega), decide_eq_false h2, Bool.not_false, cond_true]
  · rw [cf (by omega), if_neg (by omega), Bool.not_false, cond_true]

theorem keptR {β : Type} {F : Nat} {x a c : Int} {b : Bool} {l : List ByteArray} {w : WL} {K : ByteArray → Int → Option β} : f56_1 F x a b c l w K = K (kp x l).1 (kp x l).2 := by
  rw [f56_1, kp]
  by_cases h1 : 0 ≤ x
  · rw [cf (by omega)]
    by_cases h2 : x < (l.length : Int)
    · rw [if_pos ⟨h1, h2⟩, cf (by omega), ct ⟨h1, h2⟩, ct (by omega), Nat.zero_add]
    · rw [if_neg (by omega), ct (by omega)]
  · rw [ct (by omega), if_neg (by omega)]

/-- What was written last to a sector, in place of s. -/
def last (x : Int) (s : ByteArray) (w : WL) : ByteArray := w.foldl (fun s p => if p.1 = x then p.2 else s) s

def rd (x : Int) (b : Bool) (l : List ByteArray) (w : WL) : ByteArray × Int :=
  if b then (ByteArray.empty, 5) else (if 0 ≤ x ∧ x < (l.length : Int) then last x (l.getD x.toNat ByteArray.empty) w else ByteArray.empty, (kp x l).2)

theorem readRl {β : Type} {F : Nat} {x a c : Int} {b : Bool} {l : List ByteArray} {w : WL} {K : ByteArray → Option β} (hw : w.length ≤ 300) : ∀ (r : WL) (i k : Nat) (s : ByteArray), w.drop i = r → i ≤ w.length → r.length < k →
    f33_1_l5 F x 0 a b c l w K k s (i : Int) = K (last x s r)
  | [], i, 0, s, _, _, hk => by simp at hk
  | _ :: _, i, 0, s, _, _, hk => by simp at hk
  | [], i, k + 1, s, hd, hi, _ => by
    have := len_of_drop_nil hd hi
    rw [f33_1_l5, cf (by omega)]; rfl
  | p :: r, i, k + 1, s, hd, hi, hk => by
    obtain ⟨h1, h2, h3⟩ := getD_of_drop (d := ((0, ByteArray.empty) : Int × ByteArray)) hd
    rw [f33_1_l5, ct (by omega), show ((0 : Int) == 0) = true from rfl, cond_true, ct (by omega), ct (by omega), h2, w64 (by omega) (by omega), ct (by omega), ct (by omega)]
    have ih := fun s => readRl (F := F) (x := x) (a := a) (b := b) (c := c) (l := l) (K := K) hw r (i + 1) k s h3 (by omega) (by simp at hk; omega)
    push_cast at ih
    by_cases hx : p.1 = x
    · rw [show (p.1 == x) = true from by simp [hx], cond_true, ih, last, last, List.foldl_cons, if_pos hx]
    · rw [show (p.1 == x) = false from by simp [hx], cond_false, ih, last, last, List.foldl_cons, if_neg hx]

theorem readRl3 {β : Type} {F : Nat} {x a c : Int} {b : Bool} {l : List ByteArray} {w : WL} {s : ByteArray} {K : ByteArray → Option β} {k : Nat} : f33_1_l5 F x 3 a b c l w K (k + 1) s 0 = K s := by
  rw [f33_1_l5]
  by_cases h : (0 : Int) < ((w.length : Nat) : Int)
  · rw [ct h]; rfl
  · rw [cf h]

theorem readR {β : Type} {F n k : Nat} (hF : 400 ≤ F) {x a c : Int} {b : Bool} {l : List ByteArray} {w : WL} (h : DS n k a c l w) {K : ByteArray → Int → Option β} : f33_1 F x a b c l w K = K (rd x b l w).1 (rd x b l w).2 := by
  have hk := h.k300; have hwl := h.wl
  rw [f33_1]
  cases b with
  | true => rfl
  | false =>
    rw [cond_false, keptR, rd, if_neg (by simp), kp]
    by_cases hx : 0 ≤ x ∧ x < (l.length : Int)
    · rw [if_pos hx, if_pos hx]
      exact readRl (by omega) w 0 F _ rfl (by omega) (by omega)
    · rw [if_neg hx, if_neg hx]
      obtain ⟨F', rfl⟩ : ∃ F', F = F' + 1 := ⟨F - 1, by omega⟩
      exact readRl3

/-- The last write to a sector. -/
def lastW (x : Int) : WL → Option ByteArray
  | [] => none
  | p :: r => match lastW x r with
    | some s => some s
    | none => if p.1 = x then some p.2 else none

theorem last_eq (x : Int) : ∀ (w : WL) (s : ByteArray), last x s w = (match lastW x w with | some t => t | none => s)
  | [], s => rfl
  | p :: r, s => by
    rw [last, List.foldl_cons, ← last, last_eq x r, lastW]
    cases lastW x r with
    | some t => rfl
    | none =>
      by_cases hp : p.1 = x
      · simp [hp]
      · simp [hp]

theorem lastW_app (x : Int) (p : Int × ByteArray) : ∀ w : WL, lastW x (w ++ [p]) = if p.1 = x then some p.2 else lastW x w
  | [] => by simp [lastW]
  | q :: r => by
    rw [List.cons_append, lastW, lastW_app x p r, lastW]
    by_cases hp : p.1 = x
    · simp [hp]
    · simp [hp]

theorem readPl {β : Type} {F : Nat} {x a c z : Int} {b : Bool} {l : List ByteArray} {w : WL} {s : ByteArray} {K0 : ByteArray → Int → ByteArray → Option β} {K1 : Option β} (hw : w.length ≤ 300) : ∀ (i k : Nat), i ≤ w.length → i < k →
    f30_1_r2000006_l1 F a b c l w x s z K0 K1 k ((i : Int) - 1) = (match lastW x (w.take i) with | some t => K0 t x t | none => K1)
  | _, 0, _, h => by omega
  | 0, k + 1, _, _ => by
    rw [f30_1_r2000006_l1, cf (by omega)]; rfl
  | i + 1, k + 1, hi, hk => by
    have h1 : i < w.length := by omega
    have e1 : (((i + 1 : Nat) : Int) - 1) = (i : Int) := by omega
    rw [e1, f30_1_r2000006_l1, ct (by omega), ct (by omega), ct (by omega), w64 (by omega) (by omega), readPl hw i k (by omega) (by omega)]
    have hg : w.getD (0 + (i : Int).toNat) ((0, ByteArray.empty) : Int × ByteArray) = w[i] := by simp [h1]
    rw [hg, List.take_succ_eq_append_getElem h1, lastW_app]
    by_cases hp : w[i].1 = x
    · rw [if_pos hp, show (w[i].1 == x) = true from by simp [hp], cond_true, hp]
    · rw [if_neg hp, show (w[i].1 == x) = false from by simp [hp], cond_false]

theorem lastW_none {x : Int} : ∀ {w : WL}, (∀ p ∈ w, p.1 ≠ x) → lastW x w = none
  | [], _ => rfl
  | p :: r, h => by rw [lastW, lastW_none (fun q hq => h q (by simp [hq]))]; simp [h p (by simp)]

theorem readP {β : Type} {F n k : Nat} (hF : 400 ≤ F) {x a c : Int} {b : Bool} {l : List ByteArray} {w : WL} (h : DS n k a c l w) {K : ByteArray → Int → Option β} : f30_1 F x a b c l w K = K (rd x b l w).1 (rd x b l w).2 := by
  have hk := h.k300; have hwl := h.wl
  rw [f30_1]
  cases b with
  | true => rfl
  | false =>
    rw [cond_false, f49_1, f30_1_r2000006, w64 (by omega) (by omega), readPl (by omega) w.length F (Nat.le_refl _) (by omega), List.take_length, rd, if_neg (by simp)]
    by_cases hx : 0 ≤ x ∧ x < (l.length : Int)
    · rw [if_pos hx, last_eq]
      cases hq : lastW x w with
      | none => simp only [keptP]; rw [kp, if_pos hx]
      | some t => simp only [kp, if_pos hx]
    · rw [if_neg hx, lastW_none (fun p hp he => hx (by have := h.wb p hp; have := h.len; omega))]
      simp only [keptP]; rw [kp, if_neg hx]

/-! ### A write -/

def dec (a : Int) : Int := if a = -1 then a else a - 1

def wS (x : Int) (t : ByteArray) (a : Int) (b : Bool) (c : Int) (l : List ByteArray) (w : WL) : Int × Int × Bool × Int × WL :=
  if b then (5, a, b, c, w) else if ¬ (0 ≤ x ∧ x < (l.length : Int)) then (3, a, b, c, w) else if t.size ≠ 64 then (4, a, b, c, w) else if a = 0 then (5, -1, true, c, w) else (0, dec a, b, c + 1, w ++ [(x, t)])

theorem writeP {β : Type} {F n k : Nat} {x a c : Int} {t : ByteArray} {b : Bool} {l : List ByteArray} {w : WL} (h : DS n k a c l w) {K : Int → Int → Bool → Int → WL → Option β} :
    f7_1 F x t a b c l w K = K (wS x t a b c l w).1 (wS x t a b c l w).2.1 (wS x t a b c l w).2.2.1 (wS x t a b c l w).2.2.2.1 (wS x t a b c l w).2.2.2.2 := by
  have hk := h.k300; have hwl := h.wl; have ha := h.ar; have hc := h.cr
  rw [f7_1, wS]
  cases b with
  | true => rfl
  | false =>
    rw [cond_false, if_neg (by simp), f25_1, f26_1, f27_1]
    by_cases h1 : 0 ≤ x
    · rw [ct (by omega)]
      by_cases h2 : x < (l.length : Int)
      · rw [if_neg (by simp [h1, h2]), decide_eq_true h2, Bool.not_true, cond_false]
        by_cases h3 : t.size = 64
        · rw [if_neg (by simp [h3]), show ((t.size : Int) == 64) = true from by simp [h3], Bool.not_true, cond_false]
          by_cases h4 : a = 0
          · subst h4; rfl
          · rw [if_neg h4, show (a == 0) = false from by simp [h4], cond_false, dec]
            by_cases h5 : a = -1
            · rw [if_pos h5, show (a == -1) = true from by simp [h5], cond_true, cond_false, ct (by omega), w64 (by omega) (by omega)]
            · rw [if_neg h5, show (a == -1) = false from by simp [h5], cond_false, cond_false, ct (by omega), w64 (x := a - 1) (by omega) (by omega), w64 (by omega) (by omega)]
        · rw [if_pos (by simpa using h3), show ((t.size : Int) == 64) = false from by simp; omega]; rfl
      · rw [if_pos (by omega), decide_eq_false h2]; rfl
    · rw [cf (by omega), if_pos (by omega)]; rfl

theorem writeR {β : Type} {F n k : Nat} {x a c : Int} {t : ByteArray} {b : Bool} {l : List ByteArray} {w : WL} (h : DS n k a c l w) {K : Int → Int → Bool → Int → WL → Option β} :
    f8_1 F x t a b c l w K = K (wS x t a b c l w).1 (wS x t a b c l w).2.1 (wS x t a b c l w).2.2.1 (wS x t a b c l w).2.2.2.1 (wS x t a b c l w).2.2.2.2 := by
  have hk := h.k300; have hwl := h.wl; have ha := h.ar; have hc := h.cr
  rw [f8_1, wS]
  cases b with
  | true => rfl
  | false =>
    rw [cond_false, if_neg (by simp), f28_1, f29_1]
    by_cases h1 : 0 ≤ x
    · rw [cf (by omega)]
      by_cases h2 : x < (l.length : Int)
      · rw [if_neg (by simp [h1, h2]), cf (by omega)]
        by_cases h3 : t.size = 64
        · rw [if_neg (by simp [h3]), show ((t.size : Int) == 64) = true from by simp [h3], Bool.not_true, cond_false]
          by_cases h4 : a = 0
          · subst h4; rfl
          · rw [if_neg h4, show (a == 0) = false from by simp [h4], cond_false, dec]
            by_cases h5 : a = -1
            · rw [if_pos h5, cf (by omega), cond_false, ct (by omega), w64 (by omega) (by omega)]
            · rw [if_neg h5, ct (by omega), cond_false, ct (by omega), w64 (x := a - 1) (by omega) (by omega), w64 (by omega) (by omega)]
        · rw [if_pos (by simpa using h3), show ((t.size : Int) == 64) = false from by simp; omega]; rfl
      · rw [if_pos (by omega), ct (by omega)]
    · rw [ct (by omega), if_pos (by omega)]

/-! ### A flush -/

def put1 (l : List ByteArray) (p : Int × ByteArray) : List ByteArray := l.set p.1.toNat p.2
theorem put1_len (l : List ByteArray) (p : Int × ByteArray) : (put1 l p).length = l.length := by simp [put1]
theorem puts_len : ∀ (w : WL) (l : List ByteArray), (w.foldl put1 l).length = l.length
  | [], l => rfl
  | p :: r, l => by rw [List.foldl_cons, puts_len r, put1_len]

theorem flushPl {β : Type} {F n : Nat} {a c : Int} {b : Bool} {w : WL} {K : List ByteArray → Option β} (hw : w.length ≤ 300) (hb : ∀ p ∈ w, 0 ≤ p.1 ∧ p.1 < (n : Int)) : ∀ (r : WL) (i k : Nat) (l : List ByteArray), w.drop i = r → i ≤ w.length → r.length < k → l.length = n →
    f39_1_l6 F ((w.length : Nat) : Int) a b c w K k (i : Int) l = K (r.foldl put1 l)
  | [], i, 0, s, _, _, hk, _ => by simp at hk
  | _ :: _, i, 0, s, _, _, hk, _ => by simp at hk
  | [], i, k + 1, s, hd, hi, _, _ => by
    have := len_of_drop_nil hd hi
    rw [f39_1_l6, cf (by omega)]; rfl
  | p :: r, i, k + 1, l, hd, hi, hk, hl => by
    obtain ⟨h1, h2, h3⟩ := getD_of_drop (d := ((0, ByteArray.empty) : Int × ByteArray)) hd
    have hp := hb p (List.mem_of_mem_drop (by rw [hd]; simp))
    rw [f39_1_l6, ct (by omega), ct (by omega), ct (by omega), h2, ct (by omega), ct (by omega), w64 (by omega) (by omega), Nat.zero_add, List.foldl_cons]
    exact flushPl hw hb r (i + 1) k (put1 l p) h3 (by omega) (by simp at hk; omega) (by rw [put1_len]; exact hl)

theorem flushRl {β : Type} {F n : Nat} {a c : Int} {b : Bool} {w : WL} {K : List ByteArray → Option β} (hw : w.length ≤ 300) (hb : ∀ p ∈ w, 0 ≤ p.1 ∧ p.1 < (n : Int)) : ∀ (r : WL) (i k : Nat) (l : List ByteArray), w.drop i = r → i ≤ w.length → r.length < k → l.length = n →
    f43_1_l4 F a b c w K k (i : Int) l = K (r.foldl put1 l)
  | [], i, 0, s, _, _, hk, _ => by simp at hk
  | _ :: _, i, 0, s, _, _, hk, _ => by simp at hk
  | [], i, k + 1, s, hd, hi, _, _ => by
    have := len_of_drop_nil hd hi
    rw [f43_1_l4, cf (by omega)]; rfl
  | p :: r, i, k + 1, l, hd, hi, hk, hl => by
    obtain ⟨h1, h2, h3⟩ := getD_of_drop (d := ((0, ByteArray.empty) : Int × ByteArray)) hd
    have hp := hb p (List.mem_of_mem_drop (by rw [hd]; simp))
    rw [f43_1_l4, ct (by omega), ct (by omega), ct (by omega), h2, ct (by omega), ct (by omega), w64 (by omega) (by omega), Nat.zero_add, List.foldl_cons]
    exact flushRl hw hb r (i + 1) k (put1 l p) h3 (by omega) (by simp at hk; omega) (by rw [put1_len]; exact hl)

def fS (a : Int) (b : Bool) (c : Int) (l : List ByteArray) (w : WL) : Int × Int × Bool × Int × List ByteArray × WL :=
  if b then (5, a, b, c, l, w) else if a = 0 then (5, -1, true, c, l, w) else (0, dec a, b, c + 1, w.foldl put1 l, [])

theorem flushP {β : Type} {F n k : Nat} (hF : 400 ≤ F) {a c : Int} {b : Bool} {l : List ByteArray} {w : WL} (h : DS n k a c l w) {K : Int → Int → Bool → Int → List ByteArray → WL → Option β} :
    f39_1 F a b c l w K = K (fS a b c l w).1 (fS a b c l w).2.1 (fS a b c l w).2.2.1 (fS a b c l w).2.2.2.1 (fS a b c l w).2.2.2.2.1 (fS a b c l w).2.2.2.2.2 := by
  have hk := h.k300; have hwl := h.wl; have ha := h.ar; have hc := h.cr
  rw [f39_1, fS, f27_1]
  cases b with
  | true => rfl
  | false =>
    rw [cond_false, if_neg (by simp)]
    by_cases h4 : a = 0
    · subst h4; rfl
    · rw [if_neg h4, show (a == 0) = false from by simp [h4], cond_false, dec]
      by_cases h5 : a = -1
      · rw [if_pos h5, show (a == -1) = true from by simp [h5], cond_true, Bool.not_true, cond_false, w64 (by omega) (by omega)]
        exact flushPl (by omega) h.wb w 0 F l rfl (by omega) (by omega) h.len
      · rw [if_neg h5, show (a == -1) = false from by simp [h5], cond_false, Bool.not_true, cond_false, w64 (x := a - 1) (by omega) (by omega), w64 (by omega) (by omega)]
        exact flushPl (by omega) h.wb w 0 F l rfl (by omega) (by omega) h.len

theorem flushR {β : Type} {F n k : Nat} (hF : 400 ≤ F) {a c : Int} {b : Bool} {l : List ByteArray} {w : WL} (h : DS n k a c l w) {K : Int → Int → Bool → Int → List ByteArray → WL → Option β} :
    f43_1 F a b c l w K = K (fS a b c l w).1 (fS a b c l w).2.1 (fS a b c l w).2.2.1 (fS a b c l w).2.2.2.1 (fS a b c l w).2.2.2.2.1 (fS a b c l w).2.2.2.2.2 := by
  have hk := h.k300; have hwl := h.wl; have ha := h.ar; have hc := h.cr
  rw [f43_1, fS, f29_1]
  cases b with
  | true => rfl
  | false =>
    rw [cond_false, if_neg (by simp)]
    by_cases h4 : a = 0
    · subst h4; rfl
    · rw [if_neg h4, show (a == 0) = false from by simp [h4], cond_false, dec]
      by_cases h5 : a = -1
      · rw [if_pos h5, cf (by omega), Bool.not_true, cond_false, w64 (by omega) (by omega)]
        exact flushRl (by omega) h.wb w 0 F l rfl (by omega) (by omega) h.len
      · rw [if_neg h5, ct (by omega), Bool.not_true, cond_false, w64 (x := a - 1) (by omega) (by omega), w64 (by omega) (by omega)]
        exact flushRl (by omega) h.wb w 0 F l rfl (by omega) (by omega) h.len

section
variable {n k : Nat} {a c : Int} {l : List ByteArray} {w : WL}
theorem DS.more (h : DS n k a c l w) (hk : k < 300) : DS n (k + 1) a c l w := ⟨h.n40, by omega, h.len, by have := h.wl; omega, h.wb, h.ar, by have := h.cr; omega⟩
theorem DS.off (h : DS n k a c l w) (hk : k < 300) : DS n (k + 1) (-1) c l w := ⟨h.n40, by omega, h.len, by have := h.wl; omega, h.wb, by omega, by have := h.cr; omega⟩
theorem DS.fuse (h : DS n k a c l w) (hk : k < 300) {x : Int} (hx : x ≤ 9223372036854775807) : DS n (k + 1) (if (-1) > x then (-1) else x) c l w := ⟨h.n40, by omega, h.len, by have := h.wl; omega, h.wb, by split <;> omega, by have := h.cr; omega⟩
theorem DS.wrote (h : DS n k a c l w) (hk : k < 300) (h0 : a ≠ 0) {x : Int} {t : ByteArray} (hx : 0 ≤ x ∧ x < (l.length : Int)) : DS n (k + 1) (dec a) (c + 1) l (w ++ [(x, t)]) :=
  ⟨h.n40, by omega, h.len, by have := h.wl; simp; omega, fun p hp => by
    rcases List.mem_append.1 hp with hp | hp
    · exact h.wb p hp
    · simp at hp; subst hp; rw [← h.len]; exact hx, by have := h.ar; unfold dec; split <;> omega, by have := h.cr; omega⟩
theorem DS.flushed (h : DS n k a c l w) (hk : k < 300) (h0 : a ≠ 0) : DS n (k + 1) (dec a) (c + 1) (w.foldl put1 l) [] :=
  ⟨h.n40, by omega, by rw [puts_len]; exact h.len, by simp, fun p hp => (by cases hp), by have := h.ar; unfold dec; split <;> omega, by have := h.cr; omega⟩
end

theorem wS_same {x a c : Int} {t : ByteArray} {b : Bool} {l : List ByteArray} {w : WL} (h : (wS x t a b c l w).1 ≠ 0) : (wS x t a b c l w).2.2.2.2 = w := by
  unfold wS at h ⊢
  split
  · rfl
  · split
    · rfl
    · split
      · rfl
      · split
        · rfl
        · rename_i h1 h2 h3 h4
          rw [if_neg h1, if_neg h2, if_neg h3, if_neg h4] at h
          exact (h rfl).elim

theorem wS_ok {n k : Nat} {x a c : Int} {t : ByteArray} {b : Bool} {l : List ByteArray} {w : WL} (h : DS n k a c l w) (hk : k < 300) : DS n (k + 1) (wS x t a b c l w).2.1 (wS x t a b c l w).2.2.2.1 l (wS x t a b c l w).2.2.2.2 := by
  unfold wS
  split
  · exact h.more hk
  · split
    · exact h.more hk
    · rename_i h2
      split
      · exact h.more hk
      · split
        · exact h.off hk
        · rename_i h4
          exact h.wrote hk h4 (Classical.not_not.1 h2)

theorem fS_same {a c : Int} {b : Bool} {l : List ByteArray} {w : WL} (h : (fS a b c l w).1 ≠ 0) : (fS a b c l w).1 = 5 ∧ (fS a b c l w).2.2.2.2.1 = l ∧ (fS a b c l w).2.2.2.2.2 = w := by
  unfold fS at h ⊢
  split
  · exact ⟨rfl, rfl, rfl⟩
  · split
    · exact ⟨rfl, rfl, rfl⟩
    · rename_i h1 h2
      rw [if_neg h1, if_neg h2] at h
      exact (h rfl).elim

theorem fS_ok {n k : Nat} {a c : Int} {b : Bool} {l : List ByteArray} {w : WL} (h : DS n k a c l w) (hk : k < 300) : DS n (k + 1) (fS a b c l w).2.1 (fS a b c l w).2.2.2.1 (fS a b c l w).2.2.2.2.1 (fS a b c l w).2.2.2.2.2 := by
  unfold fS
  split
  · exact h.more hk
  · split
    · exact h.off hk
    · rename_i h4
      exact h.flushed hk h4

end Go.Proofs.YtillbabmlfjegaaGreatDoor.X
end

section
/- A disk: crashes; a write, then a flush. -/
namespace Go.Proofs.YtillbabmlfjegaaGreatDoor.X
open Go Go.Proofs.YtillbabmlfjegaaGreatDoor.Ev
set_option linter.unusedSectionVars false
variable [FZ]
set_option linter.unusedVariables false
set_option linter.unusedSimpArgs false

/-- A crash: the i-th write is kept where the i-th word says so. -/
def crB (ks : List Bool) : Nat → WL → List ByteArray → List ByteArray
  | _, [], l => l
  | i, p :: r, l => crB ks (i + 1) r (if ks.getD i false then put1 l p else l)

theorem crB_len (ks : List Bool) : ∀ (w : WL) (i : Nat) (l : List ByteArray), (crB ks i w l).length = l.length
  | [], _, l => rfl
  | p :: r, i, l => by
    rw [crB, crB_len ks r]
    split
    · exact put1_len l p
    · rfl

theorem crB_stop (ks : List Bool) : ∀ (w : WL) (i : Nat) (l : List ByteArray), ks.length ≤ i → crB ks i w l = l
  | [], _, l, _ => rfl
  | p :: r, i, l, h => by
    rw [crB, crB_stop ks r (i + 1) _ (by omega), getD_out h]; rfl

theorem crashPl {β : Type} {F n : Nat} {a c : Int} {b : Bool} {w : WL} {ks : List Bool} {K : List ByteArray → Option β} (hw : w.length ≤ 300) (hb : ∀ p ∈ w, 0 ≤ p.1 ∧ p.1 < (n : Int)) : ∀ (r : WL) (i k : Nat) (l : List ByteArray), w.drop i = r → i ≤ w.length → r.length < k → l.length = n →
    f9_1_l2 F ((w.length : Nat) : Int) a b c w ks K k (i : Int) l = K (crB ks i r l)
  | [], i, 0, s, _, _, hk, _ => by simp at hk
  | _ :: _, i, 0, s, _, _, hk, _ => by simp at hk
  | [], i, k + 1, s, hd, hi, _, _ => by
    have := len_of_drop_nil hd hi
    rw [f9_1_l2, cf (by omega)]; rfl
  | p :: r, i, k + 1, l, hd, hi, hk, hl => by
    obtain ⟨h1, h2, h3⟩ := getD_of_drop (d := ((0, ByteArray.empty) : Int × ByteArray)) hd
    have hp := hb p (List.mem_of_mem_drop (by rw [hd]; simp))
    have ih := fun l hl => crashPl (F := F) (a := a) (b := b) (c := c) (ks := ks) (K := K) hw hb r (i + 1) k l h3 (by omega) (by simp at hk; omega) hl
    push_cast at ih
    rw [f9_1_l2, ct (by omega), ct (by omega), ct (by omega), h2, w64 (by omega) (by omega), crB]
    by_cases hq : (i : Int) < ((ks.length : Nat) : Int)
    · have hg : ks.getD (0 + (i : Int).toNat) false = ks.getD i false := by rw [Nat.zero_add]; rfl
      rw [ct hq, ct (by omega), ct (by omega), hg]
      cases ks.getD i false with
      | false => rw [cond_false, ih l hl]; rfl
      | true => rw [cond_true, ct (by omega), ct (by omega), Nat.zero_add]; exact ih (put1 l p) (by rw [put1_len]; exact hl)
    · rw [cf hq, ih l hl, getD_out (by omega)]; rfl

theorem crashRl {β : Type} {F n : Nat} {a c : Int} {b : Bool} {w : WL} {ks : List Bool} {K : List ByteArray → Option β} (hw : w.length ≤ 300) (hb : ∀ p ∈ w, 0 ≤ p.1 ∧ p.1 < (n : Int)) : ∀ (r : WL) (i k : Nat) (l : List ByteArray), w.drop i = r → i ≤ w.length → r.length < k → l.length = n →
    f10_1_l1 F a b c w ks K k (i : Int) l = K (crB ks i r l)
  | [], i, 0, s, _, _, hk, _ => by simp at hk
  | _ :: _, i, 0, s, _, _, hk, _ => by simp at hk
  | [], i, k + 1, s, hd, hi, _, _ => by
    have := len_of_drop_nil hd hi
    rw [f10_1_l1, cf (by omega)]; rfl
  | p :: r, i, k + 1, l, hd, hi, hk, hl => by
    obtain ⟨h1, h2, h3⟩ := getD_of_drop (d := ((0, ByteArray.empty) : Int × ByteArray)) hd
    have hp := hb p (List.mem_of_mem_drop (by rw [hd]; simp))
    rw [f10_1_l1, ct (by omega)]
    by_cases hq : (i : Int) < ((ks.length : Nat) : Int)
    · have ih := fun l hl => crashRl (F := F) (a := a) (b := b) (c := c) (ks := ks) (K := K) hw hb r (i + 1) k l h3 (by omega) (by simp at hk; omega) hl
      push_cast at ih
      have hg : ks.getD (0 + (i : Int).toNat) false = ks.getD i false := by rw [Nat.zero_add]; rfl
      rw [ct hq, ct (by omega), ct (by omega), h2, w64 (by omega) (by omega), crB, ct (by omega), ct (by omega), hg]
      cases ks.getD i false with
      | false => rw [cond_false, ih l hl]; rfl
      | true => rw [cond_true, ct (by omega), ct (by omega), Nat.zero_add]; exact ih (put1 l p) (by rw [put1_len]; exact hl)
    · rw [cf hq, crB_stop ks _ i l (by omega)]

theorem crashP {β : Type} {F n k : Nat} (hF : 400 ≤ F) {a c : Int} {b : Bool} {l : List ByteArray} {w : WL} (h : DS n k a c l w) {ks : List Bool} {K : List ByteArray → WL → Option β} :
    f9_1 F a b c l w ks K = K (crB ks 0 w l) [] := by
  have hk := h.k300; have hwl := h.wl
  rw [f9_1]
  exact crashPl (by omega) h.wb w 0 F l rfl (by omega) (by omega) h.len

theorem crashR {β : Type} {F n k : Nat} (hF : 400 ≤ F) {a c : Int} {b : Bool} {l : List ByteArray} {w : WL} (h : DS n k a c l w) {ks : List Bool} {K : List ByteArray → WL → Option β} :
    f10_1 F a b c l w ks K = K (crB ks 0 w l) [] := by
  have hk := h.k300; have hwl := h.wl
  rw [f10_1]
  exact crashRl (by omega) h.wb w 0 F l rfl (by omega) (by omega) h.len

section
variable {n k : Nat} {a c : Int} {l : List ByteArray} {w : WL}
theorem DS.crashed (h : DS n k a c l w) (hk : k < 300) (ks : List Bool) : DS n (k + 1) (-1) c (crB ks 0 w l) [] :=
  ⟨h.n40, by omega, by rw [crB_len]; exact h.len, by simp, fun p hp => (by cases hp), by omega, by have := h.cr; omega⟩
theorem DS.came (h : DS n k a c l w) (hk : k < 300) : DS n (k + 1) (-1) c l [] :=
  ⟨h.n40, by omega, h.len, by simp, fun p hp => (by cases hp), by omega, by have := h.cr; omega⟩

end

abbrev St := Int × Int × Bool × Int × List ByteArray × WL

/-- A write, then a flush; or why not. -/
def svS (x : Int) (t : ByteArray) (a : Int) (b : Bool) (c : Int) (l : List ByteArray) (w : WL) : St :=
  if (wS x t a b c l w).1 ≠ 0 then ((wS x t a b c l w).1, (wS x t a b c l w).2.1, (wS x t a b c l w).2.2.1, (wS x t a b c l w).2.2.2.1, l, (wS x t a b c l w).2.2.2.2)
  else fS (wS x t a b c l w).2.1 (wS x t a b c l w).2.2.1 (wS x t a b c l w).2.2.2.1 l (wS x t a b c l w).2.2.2.2

def app {β : Type} (K : Int → Int → Bool → Int → List ByteArray → WL → Option β) (s : St) : Option β := K s.1 s.2.1 s.2.2.1 s.2.2.2.1 s.2.2.2.2.1 s.2.2.2.2.2

theorem svS_ok {m k : Nat} {a d : Int} {b : Bool} {l : List ByteArray} {w : WL} {x : Int} {t : ByteArray} (h : DS m k a d l w) (hk : k < 299) : DS m (k + 2) (svS x t a b d l w).2.1 (svS x t a b d l w).2.2.2.1 (svS x t a b d l w).2.2.2.2.1 (svS x t a b d l w).2.2.2.2.2 := by
  have h1 := wS_ok (x := x) (t := t) (b := b) h (by omega)
  unfold svS
  by_cases q : (wS x t a b d l w).1 = 0
  · rw [if_neg (show ¬ (wS x t a b d l w).1 ≠ 0 from fun hh => hh q)]
    exact fS_ok h1 (by omega)
  · rw [if_pos (show (wS x t a b d l w).1 ≠ 0 from q)]
    exact h1.more (by omega)

theorem svS_P {β : Type} {m k : Nat} {a d : Int} {b : Bool} {l : List ByteArray} {w : WL} {x : Int} {t : ByteArray} (h : DS m k a d l w) (hk : k < 299) {K : Int → Int → Bool → Int → List ByteArray → WL → Option β} :
    f7_1 20000 x t a b d l w (fun e a b c w => cond (e != 0) (K e a b c l w) (f39_1 20000 a b c l w K)) = app K (svS x t a b d l w) := by
  rw [writeP h, svS]
  by_cases q : (wS x t a b d l w).1 = 0
  · rw [if_neg (fun hh => hh q), flushP (by omega) (wS_ok h (by omega)), q]; rfl
  · rw [if_pos q, show ((wS x t a b d l w).1 != 0) = true from by simp [q]]; rfl

theorem svS_R {β : Type} {m k : Nat} {a d : Int} {b : Bool} {l : List ByteArray} {w : WL} {x : Int} {t : ByteArray} (h : DS m k a d l w) (hk : k < 299) {K : Int → Int → Bool → Int → List ByteArray → WL → Option β} :
    f8_1 20000 x t a b d l w (fun e a b c w => cond (e != 0) (K e a b c l w) (f43_1 20000 a b c l w K)) = app K (svS x t a b d l w) := by
  rw [writeR h, svS]
  by_cases q : (wS x t a b d l w).1 = 0
  · rw [if_neg (fun hh => hh q), flushR (by omega) (wS_ok h (by omega)), q]; rfl
  · rw [if_pos q, show ((wS x t a b d l w).1 != 0) = true from by simp [q]]; rfl

end Go.Proofs.YtillbabmlfjegaaGreatDoor.X
end
