/- Merged: EvF13, EvF29, EvF32, EvF33, EvF64, EvF153, EvF101, EvF175, EvF124, EvF138, EvF140, EvF143, EvF112, EvF74, EvF137, EvF25, EvF192, EvF154, EvF102, EvF100, EvF38, EvF70, EvF128, EvF168, EvF142, EvF184, EvF139, EvF71, EvF72, EvF73, EvF75, EvF76, EvF14, EvF64v7155, EvF124v6206, EvF70v9797, EvF71v3384, EvF74v1385, EvF75v6206. -/
import Derived.Test.YtlgopekjjkdkiaaGreatDoorMCowPlaysCard3
import Derived.Test.YtlgopekjjkdkiaaGreatDoorProg
import Derived.KernelRfl
import Derived.Test.YtlgopekjjkdkiaaGreatDoorMCowPlaysCard4
section
namespace Go.Proofs.YtlgopekjjkdkiaaGreatDoor.X
open Go Go.Proofs.YtlgopekjjkdkiaaGreatDoor.Ev Go.Proofs
set_option linter.unusedVariables false
set_option linter.unusedSectionVars false
/-! pentimentoref06.New -/
noncomputable def f13_1_l5 {β : Type} (F : Nat) (v1 : Int) (v3 : Int) (v4 : Bool) (v5 : Int) (v7 : List (Int × ByteArray)) (K0 : List ByteArray → Option β) : Nat → Int → List ByteArray → Option β
  | 0, _, _ => none
  | k + 1, v2, v6 => cond (decide (v2 < v1)) (f54_1 F  (fun x8 => cond (decide ((v6.length + 1) * 16 ≤ 70368744177664)) (f13_1_l5 F v1 v3 v4 v5 v7 K0 k (IntKind.i64.wrap (v2 + 1)) (v6 ++ [x8])) none) ) (K0 v6)
noncomputable def f13_1 {β : Type} (F : Nat) (a1 : Int) (K0 : Option β) (K1 : List ByteArray → List (Int × ByteArray) → Option β) : Option β := cond (decide (a1 < 1)) (K0) (cond (decide (a1 > 1200)) (K0) (f13_1_l5 F a1 (-1) false 0 [] (fun x9 => K1 x9 []) F 0 []))
variable [FZ]
def sh13_1 : Sh := ⟨[.lf (.int .i64)], []⟩
abbrev Y13_1 := Int → (Option Res) → (List ByteArray → List (Int × ByteArray) → Option Res) → Option Res
noncomputable def A13_1 (g : Y13_1) (d : sh13_1.den) (K : KF) : Option Res := g d.1.1 (K [.lf (.nilp), .lf (.int .i64 2)] []) (fun (y4 : List ByteArray) (y5 : List (Int × ByteArray)) => K [.lf (.ptr 0 0), .lf (.int .i64 0)] [some ⟨false, [.full 1, .full 2, .int .i64 (-1), .bool false, .int .i64 0]⟩, some ⟨false, [.seq .str 0 y4]⟩, some ⟨false, [.seq (.pair (.int .i64) .str) 0 y5]⟩])
noncomputable def S13_1 (F : Nat) (o : Summ) : Summ := mkS sh13_1 (fun d K => A13_1 (f13_1 F) d K) o
noncomputable def code13 : Code := bodyOf Tryz.f13
noncomputable def b13_0 : Code := cB (cB (cR (cL (cR (cR (cR (code13)))))))
theorem scopes13 : scopesOf code13 = [] := by kernel_rfl
theorem ranges13 : rangesOf code13 = [] := by kernel_rfl
theorem loops13 : loopsOf code13 = [b13_0] := by kernel_rfl
theorem enter13 : ∀ args w, (callFunc 13 args).run Tryz.prog w = .ok (.enter 13 args) w := enter_of (fn := Tryz.f13) (by kernel_rfl) (by kernel_rfl) (by kernel_rfl)
noncomputable def T13_1 (F : Nat) : FuncId → Option Summ := tab [(54, (S54_1 F noS))]
noncomputable def TB13_1 (c54_1 : Y54_1) : FuncId → Option Summ := tab [(54, (mkS sh54_1 (fun d K => A54_1 c54_1 d K) noS))]
def sh13_1_l5 : Sh := ⟨[.lf (.int .i64), .lf (.ptr 0 0), .lf (.int .i64)], [some ⟨some false, [.full 1, .full 2, .int .i64, .bool, .int .i64]⟩, some ⟨some false, [.seq .str 0]⟩, some ⟨some false, [.seq (.pair (.int .i64) .str) 0]⟩]⟩
abbrev Y13_1_l5 := Int → Int → Bool → Int → List (Int × ByteArray) → (List ByteArray → Option Res) → Nat → Int → List ByteArray → Option Res
noncomputable def A13_1_l5 (g : Y13_1_l5) (k : Nat) (d : sh13_1_l5.den) (K : KL) : Option Res := g d.1.1 d.2.1.2.2.2.1 d.2.1.2.2.2.2.1 d.2.1.2.2.2.2.2.1 d.2.2.2.1.2.1 (fun (y3 : List ByteArray) => K (.exit 0) [.tv (.lf (.ptr 0 0))] [some ⟨false, [.full 1, .full 2, .int .i64 d.2.1.2.2.2.1, .bool d.2.1.2.2.2.2.1, .int .i64 d.2.1.2.2.2.2.2.1]⟩, some ⟨false, [.seq .str 0 y3]⟩, some ⟨false, [.seq (.pair (.int .i64) .str) 0 d.2.2.2.1.2.1]⟩]) k d.1.2.2.1 d.2.2.1.2.1
noncomputable def G13_1_5 (F k : Nat) : LoopS := mkG sh13_1_l5 [0, 4, 5] (outT [(.exit 0, [4])]) (fun d K => A13_1_l5 (f13_1_l5 F) k d K) []
noncomputable def LT13_1 (F : Nat) : Nat → Option LoopS := ltab [(5, G13_1_5 F F)]
theorem L13_1_l5g (F k : Nat) (c54_1 : Y54_1)  (l5 : Y13_1_l5) (X5 : LoopS) (d : sh13_1_l5.den) (K : KL) : A13_1_l5 ((fun (v1 : Int) (v3 : Int) (v4 : Bool) (v5 : Int) (v7 : List (Int × ByteArray)) (K0 : (List ByteArray → Option Res)) (k : Nat) (v2 : Int) (v6 : List ByteArray) => cond (decide (v2 < v1)) (c54_1  (fun x8 => cond (decide ((v6.length + 1) * 16 ≤ 70368744177664)) (l5 v1 v3 v4 v5 v7 K0 k (IntKind.i64.wrap (v2 + 1)) (v6 ++ [x8])) none) ) (K0 v6))) k d K = roundOf Tryz.prog (TB13_1 c54_1) (xw []) 30 0 (ltab [(5, X5)]) (mkG sh13_1_l5 [0, 4, 5] (outT [(.exit 0, [4])]) (fun d K => A13_1_l5 l5 k d K) []) b13_0 (encT sh13_1_l5.vs d.1) (encH sh13_1_l5.h d.2) K := by kernel_rfl
theorem L13_1_5 (F : Nat) : LoopOK Tryz.prog (T13_1 F) (xw []) 30 0 (LT13_1 F) (G13_1_5 F F) b13_0 :=
  loopOK_of (s := sh13_1_l5) (live := [0, 4, 5]) (out := (outT [(.exit 0, [4])])) (mv := []) (fun k d K => A13_1_l5 (f13_1_l5 F) k d K) F (fun d K => by kernel_rfl)  (fun k d K => Eq.mp (by kernel_rfl) (L13_1_l5g F k (f54_1 F)  (f13_1_l5 F) (G13_1_5 F F) d K))
theorem E13_1g (F : Nat) (c54_1 : Y54_1) (l5 : Y13_1_l5)  (d : sh13_1.den) (K : KF) : evBody Tryz.prog (TB13_1 c54_1) (xw []) 30 0 (ltab [(5, mkG sh13_1_l5 [0, 4, 5] (outT [(.exit 0, [4])]) (fun d K => A13_1_l5 l5 F d K) [])]) [] code13 Tryz.f13.results.toList (encT sh13_1.vs d.1) (encH sh13_1.h d.2) K = A13_1 (fun (a1 : Int) (K0 : (Option Res)) (K1 : (List ByteArray → List (Int × ByteArray) → Option Res)) => cond (decide (a1 < 1)) (K0) (cond (decide (a1 > 1200)) (K0) (l5 a1 (-1) false 0 [] (fun x9 => K1 x9 []) F 0 []))) d K := by kernel_rfl
theorem E13_1 (F : Nat) (d : sh13_1.den) (K : KF) : evBody Tryz.prog (T13_1 F) (xw []) 30 0 (LT13_1 F) [] code13 Tryz.f13.results.toList (encT sh13_1.vs d.1) (encH sh13_1.h d.2) K = A13_1 (f13_1 F) d K := Eq.mp (by kernel_rfl) (E13_1g F (f54_1 F) (f13_1_l5 F)  d K)
theorem S13_1_ok (F : Nat) (o : Summ) (ho : SoundFn Tryz.prog 13 o) : SoundFn Tryz.prog 13 (S13_1 F o) :=
  soundFn_of (fn := Tryz.f13) (c := code13) rfl rfl (by kernel_rfl) (tab_cons (S54_1_ok F _ (noS_sound enter54)) tab_nil) (by kernel_rfl) (by kernel_rfl) ho (by rw [loops13]; exact (loopsOK_cons (by kernel_rfl) (L13_1_5 F) loopsOK_nil)) (by rw [scopes13]; exact scopesOK_nil) (by rw [ranges13]; exact rangesOK_nil) (E13_1 F)
end Go.Proofs.YtlgopekjjkdkiaaGreatDoor.X
end

section
namespace Go.Proofs.YtlgopekjjkdkiaaGreatDoor.X
open Go Go.Proofs.YtlgopekjjkdkiaaGreatDoor.Ev Go.Proofs
set_option linter.unusedVariables false
set_option linter.unusedSectionVars false
/-! disk.Disk).Fuse -/
noncomputable def f29_1 {β : Type} (F : Nat) (a1 : Int) (a2 : Int) (a3 : Bool) (a4 : Int) (a5 : List ByteArray) (a6 : List (Int × ByteArray)) (K0 : Int → Option β) : Option β := K0 (if (-1) > a1 then (-1) else a1)
variable [FZ]
def sh29_1 : Sh := ⟨[.lf (.ptr 0 0), .lf (.int .i64)], [some ⟨some false, [.full 1, .full 2, .int .i64, .bool, .int .i64]⟩, some ⟨none, [.seq .str 0]⟩, some ⟨none, [.seq (.pair (.int .i64) .str) 0]⟩]⟩
abbrev Y29_1 := Int → Int → Bool → Int → List ByteArray → List (Int × ByteArray) → (Int → Option Res) → Option Res
noncomputable def A29_1 (g : Y29_1) (d : sh29_1.den) (K : KF) : Option Res := g d.1.2.1 d.2.1.2.2.2.1 d.2.1.2.2.2.2.1 d.2.1.2.2.2.2.2.1 d.2.2.1.2.1 d.2.2.2.1.2.1 (fun (y0 : Int) => K [] [some ⟨false, [.full 1, .full 2, .int .i64 y0, .bool d.2.1.2.2.2.2.1, .int .i64 d.2.1.2.2.2.2.2.1]⟩, some ⟨d.2.2.1.1, [.seq .str 0 d.2.2.1.2.1]⟩, some ⟨d.2.2.2.1.1, [.seq (.pair (.int .i64) .str) 0 d.2.2.2.1.2.1]⟩])
noncomputable def S29_1 (F : Nat) (o : Summ) : Summ := mkS sh29_1 (fun d K => A29_1 (f29_1 F) d K) o
noncomputable def code29 : Code := bodyOf Tryz.f29
theorem scopes29 : scopesOf code29 = [] := by kernel_rfl
theorem ranges29 : rangesOf code29 = [] := by kernel_rfl
theorem loops29 : loopsOf code29 = [] := by kernel_rfl
theorem enter29 : ∀ args w, (callFunc 29 args).run Tryz.prog w = .ok (.enter 29 args) w := enter_of (fn := Tryz.f29) (by kernel_rfl) (by kernel_rfl) (by kernel_rfl)
noncomputable def T29_1 (F : Nat) : FuncId → Option Summ := tab []
noncomputable def TB29_1  : FuncId → Option Summ := tab []
noncomputable def LT29_1 (F : Nat) : Nat → Option LoopS := ltab []
theorem E29_1g (F : Nat)    (d : sh29_1.den) (K : KF) : evBody Tryz.prog TB29_1 (xw []) 11 3 (ltab []) [] code29 Tryz.f29.results.toList (encT sh29_1.vs d.1) (encH sh29_1.h d.2) K = A29_1 (fun (a1 : Int) (a2 : Int) (a3 : Bool) (a4 : Int) (a5 : List ByteArray) (a6 : List (Int × ByteArray)) (K0 : (Int → Option Res)) => K0 (if (-1) > a1 then (-1) else a1)) d K := by kernel_rfl
theorem E29_1 (F : Nat) (d : sh29_1.den) (K : KF) : evBody Tryz.prog (T29_1 F) (xw []) 11 3 (LT29_1 F) [] code29 Tryz.f29.results.toList (encT sh29_1.vs d.1) (encH sh29_1.h d.2) K = A29_1 (f29_1 F) d K := Eq.mp (by kernel_rfl) (E29_1g F    d K)
theorem S29_1_ok (F : Nat) (o : Summ) (ho : SoundFn Tryz.prog 29 o) : SoundFn Tryz.prog 29 (S29_1 F o) :=
  soundFn_of (fn := Tryz.f29) (c := code29) rfl rfl (by kernel_rfl) tab_nil (by kernel_rfl) (by kernel_rfl) ho (by rw [loops29]; exact loopsOK_nil) (by rw [scopes29]; exact scopesOK_nil) (by rw [ranges29]; exact rangesOK_nil) (E29_1 F)
end Go.Proofs.YtlgopekjjkdkiaaGreatDoor.X
end

section
namespace Go.Proofs.YtlgopekjjkdkiaaGreatDoor.X
open Go Go.Proofs.YtlgopekjjkdkiaaGreatDoor.Ev Go.Proofs
set_option linter.unusedVariables false
set_option linter.unusedSectionVars false
/-! disk.Disk).Crash -/
noncomputable def f32_1_l2 {β : Type} (F : Nat) (v1 : Int) (v3 : Int) (v4 : Bool) (v5 : Int) (v7 : List (Int × ByteArray)) (v8 : List Bool) (K0 : List ByteArray → Option β) : Nat → Int → List ByteArray → Option β
  | 0, _, _ => none
  | k + 1, v2, v6 => cond (decide (v2 < v1)) (cond (decide ((0 : Int) ≤ v2 ∧ v2 < ((v7.length : Nat) : Int))) (cond (decide (0 + v2.toNat < v7.length)) (cond (decide (v2 < ((v8.length : Nat) : Int))) (cond (decide ((0 : Int) ≤ v2 ∧ v2 < ((v8.length : Nat) : Int))) (cond (decide (0 + v2.toNat < v8.length)) (cond (v8.getD (0 + v2.toNat) false) (cond (decide ((0 : Int) ≤ (v7.getD (0 + v2.toNat) (0, ByteArray.empty)).1 ∧ (v7.getD (0 + v2.toNat) (0, ByteArray.empty)).1 < ((v6.length : Nat) : Int))) (cond (decide (0 + (((v7.getD (0 + v2.toNat) (0, ByteArray.empty)).1).toNat) < v6.length)) (f32_1_l2 F v1 v3 v4 v5 v7 v8 K0 k (IntKind.i64.wrap (v2 + 1)) (v6.set (0 + (((v7.getD (0 + v2.toNat) (0, ByteArray.empty)).1).toNat)) ((v7.getD (0 + v2.toNat) (0, ByteArray.empty)).2))) none) none) (f32_1_l2 F v1 v3 v4 v5 v7 v8 K0 k (IntKind.i64.wrap (v2 + 1)) v6)) none) none) (f32_1_l2 F v1 v3 v4 v5 v7 v8 K0 k (IntKind.i64.wrap (v2 + 1)) v6)) none) none) (K0 v6)
noncomputable def f32_1 {β : Type} (F : Nat) (a1 : Int) (a2 : Bool) (a3 : Int) (a4 : List ByteArray) (a5 : List (Int × ByteArray)) (a6 : List Bool) (K0 : List ByteArray → List (Int × ByteArray) → Option β) : Option β := f32_1_l2 F ((a5.length : Nat) : Int) a1 a2 a3 a5 a6 (fun x9 => K0 x9 []) F 0 a4
variable [FZ]
def sh32_1 : Sh := ⟨[.lf (.ptr 0 0), .lf (.full 3)], [some ⟨some false, [.full 1, .full 2, .int .i64, .bool, .int .i64]⟩, some ⟨some false, [.seq .str 0]⟩, some ⟨none, [.seq (.pair (.int .i64) .str) 0]⟩, some ⟨none, [.seq .bool 0]⟩]⟩
abbrev Y32_1 := Int → Bool → Int → List ByteArray → List (Int × ByteArray) → List Bool → (List ByteArray → List (Int × ByteArray) → Option Res) → Option Res
noncomputable def A32_1 (g : Y32_1) (d : sh32_1.den) (K : KF) : Option Res := g d.2.1.2.2.2.1 d.2.1.2.2.2.2.1 d.2.1.2.2.2.2.2.1 d.2.2.1.2.1 d.2.2.2.1.2.1 d.2.2.2.2.1.2.1 (fun (y3 : List ByteArray) (y5 : List (Int × ByteArray)) => K [] [some ⟨false, [.full 1, .full 4, .int .i64 (-1), .bool true, .int .i64 d.2.1.2.2.2.2.2.1]⟩, some ⟨false, [.seq .str 0 y3]⟩, none, some ⟨d.2.2.2.2.1.1, [.seq .bool 0 d.2.2.2.2.1.2.1]⟩, some ⟨false, [.seq (.pair (.int .i64) .str) 0 y5]⟩])
noncomputable def S32_1 (F : Nat) (o : Summ) : Summ := mkS sh32_1 (fun d K => A32_1 (f32_1 F) d K) o
noncomputable def code32 : Code := bodyOf Tryz.f32
noncomputable def b32_0 : Code := cB (cB (cR (cL (cR (code32)))))
theorem scopes32 : scopesOf code32 = [] := by kernel_rfl
theorem ranges32 : rangesOf code32 = [] := by kernel_rfl
theorem loops32 : loopsOf code32 = [b32_0] := by kernel_rfl
theorem enter32 : ∀ args w, (callFunc 32 args).run Tryz.prog w = .ok (.enter 32 args) w := enter_of (fn := Tryz.f32) (by kernel_rfl) (by kernel_rfl) (by kernel_rfl)
noncomputable def T32_1 (F : Nat) : FuncId → Option Summ := tab []
noncomputable def TB32_1  : FuncId → Option Summ := tab []
def sh32_1_l2 : Sh := ⟨[.lf (.ptr 0 0), .lf (.full 3), .lf (.full 2), .lf (.int .i64), .lf (.int .i64)], [some ⟨some false, [.full 1, .full 2, .int .i64, .bool, .int .i64]⟩, some ⟨some false, [.seq .str 0]⟩, some ⟨none, [.seq (.pair (.int .i64) .str) 0]⟩, some ⟨none, [.seq .bool 0]⟩]⟩
abbrev Y32_1_l2 := Int → Int → Bool → Int → List (Int × ByteArray) → List Bool → (List ByteArray → Option Res) → Nat → Int → List ByteArray → Option Res
noncomputable def A32_1_l2 (g : Y32_1_l2) (k : Nat) (d : sh32_1_l2.den) (K : KL) : Option Res := g d.1.2.2.2.1 d.2.1.2.2.2.1 d.2.1.2.2.2.2.1 d.2.1.2.2.2.2.2.1 d.2.2.2.1.2.1 d.2.2.2.2.1.2.1 (fun (y3 : List ByteArray) => K (.exit 0) [.tv (.lf (.ptr 0 0))] [some ⟨false, [.full 1, .full 2, .int .i64 d.2.1.2.2.2.1, .bool d.2.1.2.2.2.2.1, .int .i64 d.2.1.2.2.2.2.2.1]⟩, some ⟨false, [.seq .str 0 y3]⟩, some ⟨d.2.2.2.1.1, [.seq (.pair (.int .i64) .str) 0 d.2.2.2.1.2.1]⟩, some ⟨d.2.2.2.2.1.1, [.seq .bool 0 d.2.2.2.2.1.2.1]⟩]) k d.1.2.2.2.2.1 d.2.2.1.2.1
noncomputable def G32_1_2 (F k : Nat) : LoopS := mkG sh32_1_l2 [0, 1, 11, 12, 13] (outT [(.exit 0, [0])]) (fun d K => A32_1_l2 (f32_1_l2 F) k d K) []
noncomputable def LT32_1 (F : Nat) : Nat → Option LoopS := ltab [(2, G32_1_2 F F)]
theorem L32_1_l2g (F k : Nat)   (l2 : Y32_1_l2) (X2 : LoopS) (d : sh32_1_l2.den) (K : KL) : A32_1_l2 ((fun (v1 : Int) (v3 : Int) (v4 : Bool) (v5 : Int) (v7 : List (Int × ByteArray)) (v8 : List Bool) (K0 : (List ByteArray → Option Res)) (k : Nat) (v2 : Int) (v6 : List ByteArray) => cond (decide (v2 < v1)) (cond (decide ((0 : Int) ≤ v2 ∧ v2 < ((v7.length : Nat) : Int))) (cond (decide (0 + v2.toNat < v7.length)) (cond (decide (v2 < ((v8.length : Nat) : Int))) (cond (decide ((0 : Int) ≤ v2 ∧ v2 < ((v8.length : Nat) : Int))) (cond (decide (0 + v2.toNat < v8.length)) (cond (v8.getD (0 + v2.toNat) false) (cond (decide ((0 : Int) ≤ (v7.getD (0 + v2.toNat) (0, ByteArray.empty)).1 ∧ (v7.getD (0 + v2.toNat) (0, ByteArray.empty)).1 < ((v6.length : Nat) : Int))) (cond (decide (0 + (((v7.getD (0 + v2.toNat) (0, ByteArray.empty)).1).toNat) < v6.length)) (l2 v1 v3 v4 v5 v7 v8 K0 k (IntKind.i64.wrap (v2 + 1)) (v6.set (0 + (((v7.getD (0 + v2.toNat) (0, ByteArray.empty)).1).toNat)) ((v7.getD (0 + v2.toNat) (0, ByteArray.empty)).2))) none) none) (l2 v1 v3 v4 v5 v7 v8 K0 k (IntKind.i64.wrap (v2 + 1)) v6)) none) none) (l2 v1 v3 v4 v5 v7 v8 K0 k (IntKind.i64.wrap (v2 + 1)) v6)) none) none) (K0 v6))) k d K = roundOf Tryz.prog TB32_1 (xw []) 47 4 (ltab [(2, X2)]) (mkG sh32_1_l2 [0, 1, 11, 12, 13] (outT [(.exit 0, [0])]) (fun d K => A32_1_l2 l2 k d K) []) b32_0 (encT sh32_1_l2.vs d.1) (encH sh32_1_l2.h d.2) K := by kernel_rfl
theorem L32_1_2 (F : Nat) : LoopOK Tryz.prog (T32_1 F) (xw []) 47 4 (LT32_1 F) (G32_1_2 F F) b32_0 :=
  loopOK_of (s := sh32_1_l2) (live := [0, 1, 11, 12, 13]) (out := (outT [(.exit 0, [0])])) (mv := []) (fun k d K => A32_1_l2 (f32_1_l2 F) k d K) F (fun d K => by kernel_rfl)  (fun k d K => Eq.mp (by kernel_rfl) (L32_1_l2g F k   (f32_1_l2 F) (G32_1_2 F F) d K))
theorem E32_1g (F : Nat)  (l2 : Y32_1_l2)  (d : sh32_1.den) (K : KF) : evBody Tryz.prog TB32_1 (xw []) 47 4 (ltab [(2, mkG sh32_1_l2 [0, 1, 11, 12, 13] (outT [(.exit 0, [0])]) (fun d K => A32_1_l2 l2 F d K) [])]) [2] code32 Tryz.f32.results.toList (encT sh32_1.vs d.1) (encH sh32_1.h d.2) K = A32_1 (fun (a1 : Int) (a2 : Bool) (a3 : Int) (a4 : List ByteArray) (a5 : List (Int × ByteArray)) (a6 : List Bool) (K0 : (List ByteArray → List (Int × ByteArray) → Option Res)) => l2 ((a5.length : Nat) : Int) a1 a2 a3 a5 a6 (fun x9 => K0 x9 []) F 0 a4) d K := by kernel_rfl
theorem E32_1 (F : Nat) (d : sh32_1.den) (K : KF) : evBody Tryz.prog (T32_1 F) (xw []) 47 4 (LT32_1 F) [2] code32 Tryz.f32.results.toList (encT sh32_1.vs d.1) (encH sh32_1.h d.2) K = A32_1 (f32_1 F) d K := Eq.mp (by kernel_rfl) (E32_1g F  (f32_1_l2 F)  d K)
theorem S32_1_ok (F : Nat) (o : Summ) (ho : SoundFn Tryz.prog 32 o) : SoundFn Tryz.prog 32 (S32_1 F o) :=
  soundFn_of (fn := Tryz.f32) (c := code32) rfl rfl (by kernel_rfl) tab_nil (by kernel_rfl) (by kernel_rfl) ho (by rw [loops32]; exact (loopsOK_cons (by kernel_rfl) (L32_1_2 F) loopsOK_nil)) (by rw [scopes32]; exact scopesOK_nil) (by rw [ranges32]; exact rangesOK_nil) (E32_1 F)
end Go.Proofs.YtlgopekjjkdkiaaGreatDoor.X
end

section
namespace Go.Proofs.YtlgopekjjkdkiaaGreatDoor.X
open Go Go.Proofs.YtlgopekjjkdkiaaGreatDoor.Ev Go.Proofs
set_option linter.unusedVariables false
set_option linter.unusedSectionVars false
/-! disk.Disk).Up -/
noncomputable def f33_1 {β : Type} (F : Nat) (a1 : Int) (a2 : Bool) (a3 : Int) (a4 : List ByteArray) (a5 : List (Int × ByteArray)) (K0 : Int → Int → Bool → List (Int × ByteArray) → Option β) : Option β := cond (!a2) (K0 21 a1 a2 a5) (K0 0 (-1) false [])
variable [FZ]
def sh33_1 : Sh := ⟨[.lf (.ptr 0 0)], [some ⟨some false, [.full 1, .full 2, .int .i64, .bool, .int .i64]⟩, some ⟨none, [.seq .str 0]⟩, some ⟨some false, [.seq (.pair (.int .i64) .str) 0]⟩]⟩
abbrev Y33_1 := Int → Bool → Int → List ByteArray → List (Int × ByteArray) → (Int → Int → Bool → List (Int × ByteArray) → Option Res) → Option Res
noncomputable def A33_1 (g : Y33_1) (d : sh33_1.den) (K : KF) : Option Res := g d.2.1.2.2.2.1 d.2.1.2.2.2.2.1 d.2.1.2.2.2.2.2.1 d.2.2.1.2.1 d.2.2.2.1.2.1 (fun (y0 : Int) (y1 : Int) (y2 : Bool) (y5 : List (Int × ByteArray)) => K [.lf (.int .i64 y0)] [some ⟨false, [.full 1, .full 3, .int .i64 y1, .bool y2, .int .i64 d.2.1.2.2.2.2.2.1]⟩, some ⟨d.2.2.1.1, [.seq .str 0 d.2.2.1.2.1]⟩, none, some ⟨false, [.seq (.pair (.int .i64) .str) 0 y5]⟩])
noncomputable def S33_1 (F : Nat) (o : Summ) : Summ := mkS sh33_1 (fun d K => A33_1 (f33_1 F) d K) o
noncomputable def code33 : Code := bodyOf Tryz.f33
theorem scopes33 : scopesOf code33 = [] := by kernel_rfl
theorem ranges33 : rangesOf code33 = [] := by kernel_rfl
theorem loops33 : loopsOf code33 = [] := by kernel_rfl
theorem enter33 : ∀ args w, (callFunc 33 args).run Tryz.prog w = .ok (.enter 33 args) w := enter_of (fn := Tryz.f33) (by kernel_rfl) (by kernel_rfl) (by kernel_rfl)
noncomputable def T33_1 (F : Nat) : FuncId → Option Summ := tab []
noncomputable def TB33_1  : FuncId → Option Summ := tab []
noncomputable def LT33_1 (F : Nat) : Nat → Option LoopS := ltab []
theorem E33_1g (F : Nat)    (d : sh33_1.den) (K : KF) : evBody Tryz.prog TB33_1 (xw []) 21 3 (ltab []) [2] code33 Tryz.f33.results.toList (encT sh33_1.vs d.1) (encH sh33_1.h d.2) K = A33_1 (fun (a1 : Int) (a2 : Bool) (a3 : Int) (a4 : List ByteArray) (a5 : List (Int × ByteArray)) (K0 : (Int → Int → Bool → List (Int × ByteArray) → Option Res)) => cond (!a2) (K0 21 a1 a2 a5) (K0 0 (-1) false [])) d K := by kernel_rfl
theorem E33_1 (F : Nat) (d : sh33_1.den) (K : KF) : evBody Tryz.prog (T33_1 F) (xw []) 21 3 (LT33_1 F) [2] code33 Tryz.f33.results.toList (encT sh33_1.vs d.1) (encH sh33_1.h d.2) K = A33_1 (f33_1 F) d K := Eq.mp (by kernel_rfl) (E33_1g F    d K)
theorem S33_1_ok (F : Nat) (o : Summ) (ho : SoundFn Tryz.prog 33 o) : SoundFn Tryz.prog 33 (S33_1 F o) :=
  soundFn_of (fn := Tryz.f33) (c := code33) rfl rfl (by kernel_rfl) tab_nil (by kernel_rfl) (by kernel_rfl) ho (by rw [loops33]; exact loopsOK_nil) (by rw [scopes33]; exact scopesOK_nil) (by rw [ranges33]; exact rangesOK_nil) (E33_1 F)
end Go.Proofs.YtlgopekjjkdkiaaGreatDoor.X
end

section
namespace Go.Proofs.YtlgopekjjkdkiaaGreatDoor.X
open Go Go.Proofs.YtlgopekjjkdkiaaGreatDoor.Ev Go.Proofs
set_option linter.unusedVariables false
set_option linter.unusedSectionVars false
/-! pentimentoref06.Disk).Crash -/
noncomputable def f64_1_l1 {β : Type} (F : Nat) (v2 : Int) (v3 : Bool) (v4 : Int) (v6 : List (Int × ByteArray)) (v7 : List Bool) (K0 : List ByteArray → Option β) : Nat → Int → List ByteArray → Option β
  | 0, _, _ => none
  | k + 1, v1, v5 => cond (decide (v1 < ((v6.length : Nat) : Int))) (cond (decide (v1 < ((v7.length : Nat) : Int))) (cond (decide ((0 : Int) ≤ v1 ∧ v1 < ((v6.length : Nat) : Int))) (cond (decide (0 + v1.toNat < v6.length)) (cond (decide ((0 : Int) ≤ v1 ∧ v1 < ((v7.length : Nat) : Int))) (cond (decide (0 + v1.toNat < v7.length)) (cond (v7.getD (0 + v1.toNat) false) (cond (decide ((0 : Int) ≤ (v6.getD (0 + v1.toNat) (0, ByteArray.empty)).1 ∧ (v6.getD (0 + v1.toNat) (0, ByteArray.empty)).1 < ((v5.length : Nat) : Int))) (cond (decide (0 + (((v6.getD (0 + v1.toNat) (0, ByteArray.empty)).1).toNat) < v5.length)) (f64_1_l1 F v2 v3 v4 v6 v7 K0 k (IntKind.i64.wrap (v1 + 1)) (v5.set (0 + (((v6.getD (0 + v1.toNat) (0, ByteArray.empty)).1).toNat)) ((v6.getD (0 + v1.toNat) (0, ByteArray.empty)).2))) none) none) (f64_1_l1 F v2 v3 v4 v6 v7 K0 k (IntKind.i64.wrap (v1 + 1)) v5)) none) none) none) none) (K0 v5)) (K0 v5)
noncomputable def f64_1 {β : Type} (F : Nat) (a1 : Int) (a2 : Bool) (a3 : Int) (a4 : List ByteArray) (a5 : List (Int × ByteArray)) (a6 : List Bool) (K0 : List ByteArray → List (Int × ByteArray) → Option β) : Option β := f64_1_l1 F a1 a2 a3 a5 a6 (fun x8 => K0 x8 []) F 0 a4
variable [FZ]
def sh64_1 : Sh := ⟨[.lf (.ptr 0 0), .lf (.full 3)], [some ⟨some false, [.full 1, .full 2, .int .i64, .bool, .int .i64]⟩, some ⟨some false, [.seq .str 0]⟩, some ⟨none, [.seq (.pair (.int .i64) .str) 0]⟩, some ⟨none, [.seq .bool 0]⟩]⟩
abbrev Y64_1 := Int → Bool → Int → List ByteArray → List (Int × ByteArray) → List Bool → (List ByteArray → List (Int × ByteArray) → Option Res) → Option Res
noncomputable def A64_1 (g : Y64_1) (d : sh64_1.den) (K : KF) : Option Res := g d.2.1.2.2.2.1 d.2.1.2.2.2.2.1 d.2.1.2.2.2.2.2.1 d.2.2.1.2.1 d.2.2.2.1.2.1 d.2.2.2.2.1.2.1 (fun (y3 : List ByteArray) (y5 : List (Int × ByteArray)) => K [] [some ⟨false, [.full 1, .full 4, .int .i64 (-1), .bool true, .int .i64 d.2.1.2.2.2.2.2.1]⟩, some ⟨false, [.seq .str 0 y3]⟩, none, some ⟨d.2.2.2.2.1.1, [.seq .bool 0 d.2.2.2.2.1.2.1]⟩, some ⟨false, [.seq (.pair (.int .i64) .str) 0 y5]⟩])
noncomputable def S64_1 (F : Nat) (o : Summ) : Summ := mkS sh64_1 (fun d K => A64_1 (f64_1 F) d K) o
noncomputable def code64 : Code := bodyOf Tryz.f64
noncomputable def b64_0 : Code := cB (cB (cR (cL (code64))))
theorem scopes64 : scopesOf code64 = [] := by kernel_rfl
theorem ranges64 : rangesOf code64 = [] := by kernel_rfl
theorem loops64 : loopsOf code64 = [b64_0] := by kernel_rfl
theorem enter64 : ∀ args w, (callFunc 64 args).run Tryz.prog w = .ok (.enter 64 args) w := enter_of (fn := Tryz.f64) (by kernel_rfl) (by kernel_rfl) (by kernel_rfl)
noncomputable def T64_1 (F : Nat) : FuncId → Option Summ := tab []
noncomputable def TB64_1  : FuncId → Option Summ := tab []
def sh64_1_l1 : Sh := ⟨[.lf (.ptr 0 0), .lf (.full 3), .lf (.int .i64)], [some ⟨some false, [.full 1, .full 2, .int .i64, .bool, .int .i64]⟩, some ⟨some false, [.seq .str 0]⟩, some ⟨none, [.seq (.pair (.int .i64) .str) 0]⟩, some ⟨none, [.seq .bool 0]⟩]⟩
abbrev Y64_1_l1 := Int → Bool → Int → List (Int × ByteArray) → List Bool → (List ByteArray → Option Res) → Nat → Int → List ByteArray → Option Res
noncomputable def A64_1_l1 (g : Y64_1_l1) (k : Nat) (d : sh64_1_l1.den) (K : KL) : Option Res := g d.2.1.2.2.2.1 d.2.1.2.2.2.2.1 d.2.1.2.2.2.2.2.1 d.2.2.2.1.2.1 d.2.2.2.2.1.2.1 (fun (y3 : List ByteArray) => K (.exit 0) [.tv (.lf (.ptr 0 0))] [some ⟨false, [.full 1, .full 2, .int .i64 d.2.1.2.2.2.1, .bool d.2.1.2.2.2.2.1, .int .i64 d.2.1.2.2.2.2.2.1]⟩, some ⟨false, [.seq .str 0 y3]⟩, some ⟨d.2.2.2.1.1, [.seq (.pair (.int .i64) .str) 0 d.2.2.2.1.2.1]⟩, some ⟨d.2.2.2.2.1.1, [.seq .bool 0 d.2.2.2.2.1.2.1]⟩]) k d.1.2.2.1 d.2.2.1.2.1
noncomputable def G64_1_1 (F k : Nat) : LoopS := mkG sh64_1_l1 [0, 1, 4] (outT [(.exit 0, [0])]) (fun d K => A64_1_l1 (f64_1_l1 F) k d K) []
noncomputable def LT64_1 (F : Nat) : Nat → Option LoopS := ltab [(1, G64_1_1 F F)]
theorem L64_1_l1g (F k : Nat)   (l1 : Y64_1_l1) (X1 : LoopS) (d : sh64_1_l1.den) (K : KL) : A64_1_l1 ((fun (v2 : Int) (v3 : Bool) (v4 : Int) (v6 : List (Int × ByteArray)) (v7 : List Bool) (K0 : (List ByteArray → Option Res)) (k : Nat) (v1 : Int) (v5 : List ByteArray) => cond (decide (v1 < ((v6.length : Nat) : Int))) (cond (decide (v1 < ((v7.length : Nat) : Int))) (cond (decide ((0 : Int) ≤ v1 ∧ v1 < ((v6.length : Nat) : Int))) (cond (decide (0 + v1.toNat < v6.length)) (cond (decide ((0 : Int) ≤ v1 ∧ v1 < ((v7.length : Nat) : Int))) (cond (decide (0 + v1.toNat < v7.length)) (cond (v7.getD (0 + v1.toNat) false) (cond (decide ((0 : Int) ≤ (v6.getD (0 + v1.toNat) (0, ByteArray.empty)).1 ∧ (v6.getD (0 + v1.toNat) (0, ByteArray.empty)).1 < ((v5.length : Nat) : Int))) (cond (decide (0 + (((v6.getD (0 + v1.toNat) (0, ByteArray.empty)).1).toNat) < v5.length)) (l1 v2 v3 v4 v6 v7 K0 k (IntKind.i64.wrap (v1 + 1)) (v5.set (0 + (((v6.getD (0 + v1.toNat) (0, ByteArray.empty)).1).toNat)) ((v6.getD (0 + v1.toNat) (0, ByteArray.empty)).2))) none) none) (l1 v2 v3 v4 v6 v7 K0 k (IntKind.i64.wrap (v1 + 1)) v5)) none) none) none) none) (K0 v5)) (K0 v5))) k d K = roundOf Tryz.prog TB64_1 (xw []) 50 4 (ltab [(1, X1)]) (mkG sh64_1_l1 [0, 1, 4] (outT [(.exit 0, [0])]) (fun d K => A64_1_l1 l1 k d K) []) b64_0 (encT sh64_1_l1.vs d.1) (encH sh64_1_l1.h d.2) K := by kernel_rfl
theorem L64_1_1 (F : Nat) : LoopOK Tryz.prog (T64_1 F) (xw []) 50 4 (LT64_1 F) (G64_1_1 F F) b64_0 :=
  loopOK_of (s := sh64_1_l1) (live := [0, 1, 4]) (out := (outT [(.exit 0, [0])])) (mv := []) (fun k d K => A64_1_l1 (f64_1_l1 F) k d K) F (fun d K => by kernel_rfl)  (fun k d K => Eq.mp (by kernel_rfl) (L64_1_l1g F k   (f64_1_l1 F) (G64_1_1 F F) d K))
theorem E64_1g (F : Nat)  (l1 : Y64_1_l1)  (d : sh64_1.den) (K : KF) : evBody Tryz.prog TB64_1 (xw []) 50 4 (ltab [(1, mkG sh64_1_l1 [0, 1, 4] (outT [(.exit 0, [0])]) (fun d K => A64_1_l1 l1 F d K) [])]) [2] code64 Tryz.f64.results.toList (encT sh64_1.vs d.1) (encH sh64_1.h d.2) K = A64_1 (fun (a1 : Int) (a2 : Bool) (a3 : Int) (a4 : List ByteArray) (a5 : List (Int × ByteArray)) (a6 : List Bool) (K0 : (List ByteArray → List (Int × ByteArray) → Option Res)) => l1 a1 a2 a3 a5 a6 (fun x8 => K0 x8 []) F 0 a4) d K := by kernel_rfl
theorem E64_1 (F : Nat) (d : sh64_1.den) (K : KF) : evBody Tryz.prog (T64_1 F) (xw []) 50 4 (LT64_1 F) [2] code64 Tryz.f64.results.toList (encT sh64_1.vs d.1) (encH sh64_1.h d.2) K = A64_1 (f64_1 F) d K := Eq.mp (by kernel_rfl) (E64_1g F  (f64_1_l1 F)  d K)
theorem S64_1_ok (F : Nat) (o : Summ) (ho : SoundFn Tryz.prog 64 o) : SoundFn Tryz.prog 64 (S64_1 F o) :=
  soundFn_of (fn := Tryz.f64) (c := code64) rfl rfl (by kernel_rfl) tab_nil (by kernel_rfl) (by kernel_rfl) ho (by rw [loops64]; exact (loopsOK_cons (by kernel_rfl) (L64_1_1 F) loopsOK_nil)) (by rw [scopes64]; exact scopesOK_nil) (by rw [ranges64]; exact rangesOK_nil) (E64_1 F)
end Go.Proofs.YtlgopekjjkdkiaaGreatDoor.X
end

section
namespace Go.Proofs.YtlgopekjjkdkiaaGreatDoor.X
open Go Go.Proofs.YtlgopekjjkdkiaaGreatDoor.Ev Go.Proofs
set_option linter.unusedVariables false
set_option linter.unusedSectionVars false
/-! pentimentoref01.Put -/
noncomputable def f153_1_l6 {β : Type} (F : Nat) (v1 : Int) (v3 : List Int) (K0 : List Int → Option β) : Nat → Int → List Int → Option β
  | 0, _, _ => none
  | k + 1, v2, v4 => cond (decide (v2 ≥ 0)) (cond (decide (IntKind.u64.wrap (IntKind.i64.wrap (8 * v2)) < 0)) none (cond (decide ((v4.length + 1) * 1 ≤ 70368744177664)) (f153_1_l6 F v1 v3 K0 k (IntKind.i64.wrap (v2 - 1)) (v4 ++ [IntKind.u8.wrap (ishr .u64 v1 (IntKind.u64.wrap (IntKind.i64.wrap (8 * v2))))])) none)) (K0 v4)
noncomputable def f153_1 {β : Type} (F : Nat) (a1 : Int) (a2 : Int) (a3 : List Int) (K0 : List Int → Option β) : Option β := cond (decide (a3.length * 1 ≤ 70368744177664)) (cond (decide (a1 < 1)) (K0 a3) (cond (decide (a1 > 8)) (K0 a3) (f153_1_l6 F a2 a3 (fun x5 => K0 x5) F (IntKind.i64.wrap (a1 - 1)) a3))) none
variable [FZ]
def sh153_1 : Sh := ⟨[.lf (.full 0), .lf (.int .i64), .lf (.int .u64)], [some ⟨none, [.seq (.int .u8) 0]⟩]⟩
abbrev Y153_1 := Int → Int → List Int → (List Int → Option Res) → Option Res
noncomputable def A153_1 (g : Y153_1) (d : sh153_1.den) (K : KF) : Option Res := g d.1.2.1 d.1.2.2.1 d.2.1.2.1 (fun (y1 : List Int) => K [.lf (.full 1)] [some ⟨d.2.1.1, [.seq (.int .u8) 0 d.2.1.2.1]⟩, some ⟨false, [.seq (.int .u8) 0 y1]⟩])
noncomputable def S153_1 (F : Nat) (o : Summ) : Summ := mkS sh153_1 (fun d K => A153_1 (f153_1 F) d K) o
noncomputable def code153 : Code := bodyOf Tryz.f153
noncomputable def b153_0 : Code := cB (cB (cR (cL (cR (cR (cR (cR (code153))))))))
theorem scopes153 : scopesOf code153 = [] := by kernel_rfl
theorem ranges153 : rangesOf code153 = [] := by kernel_rfl
theorem loops153 : loopsOf code153 = [b153_0] := by kernel_rfl
theorem enter153 : ∀ args w, (callFunc 153 args).run Tryz.prog w = .ok (.enter 153 args) w := enter_of (fn := Tryz.f153) (by kernel_rfl) (by kernel_rfl) (by kernel_rfl)
noncomputable def T153_1 (F : Nat) : FuncId → Option Summ := tab []
noncomputable def TB153_1  : FuncId → Option Summ := tab []
def sh153_1_l6 : Sh := ⟨[.lf (.int .u64), .lf (.full 1), .lf (.int .i64)], [some ⟨none, [.seq (.int .u8) 0]⟩, some ⟨some false, [.seq (.int .u8) 0]⟩]⟩
abbrev Y153_1_l6 := Int → List Int → (List Int → Option Res) → Nat → Int → List Int → Option Res
noncomputable def A153_1_l6 (g : Y153_1_l6) (k : Nat) (d : sh153_1_l6.den) (K : KL) : Option Res := g d.1.1 d.2.1.2.1 (fun (y1 : List Int) => K (.exit 0) [.tv (.lf (.full 1))] [some ⟨d.2.1.1, [.seq (.int .u8) 0 d.2.1.2.1]⟩, some ⟨false, [.seq (.int .u8) 0 y1]⟩]) k d.1.2.2.1 d.2.2.1.2.1
noncomputable def G153_1_6 (F k : Nat) : LoopS := mkG sh153_1_l6 [2, 7, 8] (outT [(.exit 0, [7])]) (fun d K => A153_1_l6 (f153_1_l6 F) k d K) []
noncomputable def LT153_1 (F : Nat) : Nat → Option LoopS := ltab [(6, G153_1_6 F F)]
theorem L153_1_l6g (F k : Nat)   (l6 : Y153_1_l6) (X6 : LoopS) (d : sh153_1_l6.den) (K : KL) : A153_1_l6 ((fun (v1 : Int) (v3 : List Int) (K0 : (List Int → Option Res)) (k : Nat) (v2 : Int) (v4 : List Int) => cond (decide (v2 ≥ 0)) (cond (decide (IntKind.u64.wrap (IntKind.i64.wrap (8 * v2)) < 0)) none (cond (decide ((v4.length + 1) * 1 ≤ 70368744177664)) (l6 v1 v3 K0 k (IntKind.i64.wrap (v2 - 1)) (v4 ++ [IntKind.u8.wrap (ishr .u64 v1 (IntKind.u64.wrap (IntKind.i64.wrap (8 * v2))))])) none)) (K0 v4))) k d K = roundOf Tryz.prog TB153_1 (xw []) 35 1 (ltab [(6, X6)]) (mkG sh153_1_l6 [2, 7, 8] (outT [(.exit 0, [7])]) (fun d K => A153_1_l6 l6 k d K) []) b153_0 (encT sh153_1_l6.vs d.1) (encH sh153_1_l6.h d.2) K := by kernel_rfl
theorem L153_1_6 (F : Nat) : LoopOK Tryz.prog (T153_1 F) (xw []) 35 1 (LT153_1 F) (G153_1_6 F F) b153_0 :=
  loopOK_of (s := sh153_1_l6) (live := [2, 7, 8]) (out := (outT [(.exit 0, [7])])) (mv := []) (fun k d K => A153_1_l6 (f153_1_l6 F) k d K) F (fun d K => by kernel_rfl)  (fun k d K => Eq.mp (by kernel_rfl) (L153_1_l6g F k   (f153_1_l6 F) (G153_1_6 F F) d K))
theorem E153_1g (F : Nat)  (l6 : Y153_1_l6)  (d : sh153_1.den) (K : KF) : evBody Tryz.prog TB153_1 (xw []) 35 1 (ltab [(6, mkG sh153_1_l6 [2, 7, 8] (outT [(.exit 0, [7])]) (fun d K => A153_1_l6 l6 F d K) [])]) [] code153 Tryz.f153.results.toList (encT sh153_1.vs d.1) (encH sh153_1.h d.2) K = A153_1 (fun (a1 : Int) (a2 : Int) (a3 : List Int) (K0 : (List Int → Option Res)) => cond (decide (a3.length * 1 ≤ 70368744177664)) (cond (decide (a1 < 1)) (K0 a3) (cond (decide (a1 > 8)) (K0 a3) (l6 a2 a3 (fun x5 => K0 x5) F (IntKind.i64.wrap (a1 - 1)) a3))) none) d K := by kernel_rfl
theorem E153_1 (F : Nat) (d : sh153_1.den) (K : KF) : evBody Tryz.prog (T153_1 F) (xw []) 35 1 (LT153_1 F) [] code153 Tryz.f153.results.toList (encT sh153_1.vs d.1) (encH sh153_1.h d.2) K = A153_1 (f153_1 F) d K := Eq.mp (by kernel_rfl) (E153_1g F  (f153_1_l6 F)  d K)
theorem S153_1_ok (F : Nat) (o : Summ) (ho : SoundFn Tryz.prog 153 o) : SoundFn Tryz.prog 153 (S153_1 F o) :=
  soundFn_of (fn := Tryz.f153) (c := code153) rfl rfl (by kernel_rfl) tab_nil (by kernel_rfl) (by kernel_rfl) ho (by rw [loops153]; exact (loopsOK_cons (by kernel_rfl) (L153_1_6 F) loopsOK_nil)) (by rw [scopes153]; exact scopesOK_nil) (by rw [ranges153]; exact rangesOK_nil) (E153_1 F)
end Go.Proofs.YtlgopekjjkdkiaaGreatDoor.X
end

section
namespace Go.Proofs.YtlgopekjjkdkiaaGreatDoor.X
open Go Go.Proofs.YtlgopekjjkdkiaaGreatDoor.Ev Go.Proofs
set_option linter.unusedVariables false
set_option linter.unusedSectionVars false
/-! pentimentoref01.Text -/
noncomputable def f101_1 {β : Type} (F : Nat) (a1 : Int) (a2 : Int) (K0 : ByteArray → Option β) : Option β := f153_1 F a1 a2 [] (fun x1 => K0 (ofInts x1)) 
variable [FZ]
def sh101_1 : Sh := ⟨[.lf (.int .i64), .lf (.int .u64)], []⟩
abbrev Y101_1 := Int → Int → (ByteArray → Option Res) → Option Res
noncomputable def A101_1 (g : Y101_1) (d : sh101_1.den) (K : KF) : Option Res := g d.1.1 d.1.2.1 (fun (y0 : ByteArray) => K [.lf (.str y0)] [])
noncomputable def S101_1 (F : Nat) (o : Summ) : Summ := mkS sh101_1 (fun d K => A101_1 (f101_1 F) d K) o
noncomputable def code101 : Code := bodyOf Tryz.f101
theorem scopes101 : scopesOf code101 = [] := by kernel_rfl
theorem ranges101 : rangesOf code101 = [] := by kernel_rfl
theorem loops101 : loopsOf code101 = [] := by kernel_rfl
theorem enter101 : ∀ args w, (callFunc 101 args).run Tryz.prog w = .ok (.enter 101 args) w := enter_of (fn := Tryz.f101) (by kernel_rfl) (by kernel_rfl) (by kernel_rfl)
noncomputable def T101_1 (F : Nat) : FuncId → Option Summ := tab [(153, (S153_1 F noS))]
noncomputable def TB101_1 (c153_1 : Y153_1) : FuncId → Option Summ := tab [(153, (mkS sh153_1 (fun d K => A153_1 c153_1 d K) noS))]
noncomputable def LT101_1 (F : Nat) : Nat → Option LoopS := ltab []
theorem E101_1g (F : Nat) (c153_1 : Y153_1)   (d : sh101_1.den) (K : KF) : evBody Tryz.prog (TB101_1 c153_1) (xw []) 9 0 (ltab []) [] code101 Tryz.f101.results.toList (encT sh101_1.vs d.1) (encH sh101_1.h d.2) K = A101_1 (fun (a1 : Int) (a2 : Int) (K0 : (ByteArray → Option Res)) => c153_1 a1 a2 [] (fun x1 => K0 (ofInts x1)) ) d K := by kernel_rfl
theorem E101_1 (F : Nat) (d : sh101_1.den) (K : KF) : evBody Tryz.prog (T101_1 F) (xw []) 9 0 (LT101_1 F) [] code101 Tryz.f101.results.toList (encT sh101_1.vs d.1) (encH sh101_1.h d.2) K = A101_1 (f101_1 F) d K := Eq.mp (by kernel_rfl) (E101_1g F (f153_1 F)   d K)
theorem S101_1_ok (F : Nat) (o : Summ) (ho : SoundFn Tryz.prog 101 o) : SoundFn Tryz.prog 101 (S101_1 F o) :=
  soundFn_of (fn := Tryz.f101) (c := code101) rfl rfl (by kernel_rfl) (tab_cons (S153_1_ok F _ (noS_sound enter153)) tab_nil) (by kernel_rfl) (by kernel_rfl) ho (by rw [loops101]; exact loopsOK_nil) (by rw [scopes101]; exact scopesOK_nil) (by rw [ranges101]; exact rangesOK_nil) (E101_1 F)
end Go.Proofs.YtlgopekjjkdkiaaGreatDoor.X
end

section
namespace Go.Proofs.YtlgopekjjkdkiaaGreatDoor.X
open Go Go.Proofs.YtlgopekjjkdkiaaGreatDoor.Ev Go.Proofs
set_option linter.unusedVariables false
set_option linter.unusedSectionVars false
/-! pentimentoref06.Disk).Kept -/
noncomputable def f175_1 {β : Type} (F : Nat) (a1 : Int) (a2 : Int) (a3 : Bool) (a4 : Int) (a5 : List ByteArray) (a6 : List (Int × ByteArray)) (K0 : ByteArray → Int → Option β) : Option β := cond (decide (a1 < 0)) (K0 ByteArray.empty 3) (cond (decide (a1 ≥ ((a5.length : Nat) : Int))) (K0 ByteArray.empty 3) (cond (decide ((0 : Int) ≤ a1 ∧ a1 < ((a5.length : Nat) : Int))) (cond (decide (0 + a1.toNat < a5.length)) (K0 (a5.getD (0 + a1.toNat) ByteArray.empty) 0) none) none))
variable [FZ]
def sh175_1 : Sh := ⟨[.lf (.ptr 0 0), .lf (.int .i64)], [some ⟨none, [.full 1, .full 2, .int .i64, .bool, .int .i64]⟩, some ⟨none, [.seq .str 0]⟩, some ⟨none, [.seq (.pair (.int .i64) .str) 0]⟩]⟩
abbrev Y175_1 := Int → Int → Bool → Int → List ByteArray → List (Int × ByteArray) → (ByteArray → Int → Option Res) → Option Res
noncomputable def A175_1 (g : Y175_1) (d : sh175_1.den) (K : KF) : Option Res := g d.1.2.1 d.2.1.2.2.2.1 d.2.1.2.2.2.2.1 d.2.1.2.2.2.2.2.1 d.2.2.1.2.1 d.2.2.2.1.2.1 (fun (y0 : ByteArray) (y1 : Int) => K [.lf (.str y0), .lf (.int .i64 y1)] [some ⟨d.2.1.1, [.full 1, .full 2, .int .i64 d.2.1.2.2.2.1, .bool d.2.1.2.2.2.2.1, .int .i64 d.2.1.2.2.2.2.2.1]⟩, some ⟨d.2.2.1.1, [.seq .str 0 d.2.2.1.2.1]⟩, some ⟨d.2.2.2.1.1, [.seq (.pair (.int .i64) .str) 0 d.2.2.2.1.2.1]⟩])
noncomputable def S175_1 (F : Nat) (o : Summ) : Summ := mkS sh175_1 (fun d K => A175_1 (f175_1 F) d K) o
noncomputable def code175 : Code := bodyOf Tryz.f175
theorem scopes175 : scopesOf code175 = [] := by kernel_rfl
theorem ranges175 : rangesOf code175 = [] := by kernel_rfl
theorem loops175 : loopsOf code175 = [] := by kernel_rfl
theorem enter175 : ∀ args w, (callFunc 175 args).run Tryz.prog w = .ok (.enter 175 args) w := enter_of (fn := Tryz.f175) (by kernel_rfl) (by kernel_rfl) (by kernel_rfl)
noncomputable def T175_1 (F : Nat) : FuncId → Option Summ := tab []
noncomputable def TB175_1  : FuncId → Option Summ := tab []
noncomputable def LT175_1 (F : Nat) : Nat → Option LoopS := ltab []
theorem E175_1g (F : Nat)    (d : sh175_1.den) (K : KF) : evBody Tryz.prog TB175_1 (xw []) 24 3 (ltab []) [] code175 Tryz.f175.results.toList (encT sh175_1.vs d.1) (encH sh175_1.h d.2) K = A175_1 (fun (a1 : Int) (a2 : Int) (a3 : Bool) (a4 : Int) (a5 : List ByteArray) (a6 : List (Int × ByteArray)) (K0 : (ByteArray → Int → Option Res)) => cond (decide (a1 < 0)) (K0 ByteArray.empty 3) (cond (decide (a1 ≥ ((a5.length : Nat) : Int))) (K0 ByteArray.empty 3) (cond (decide ((0 : Int) ≤ a1 ∧ a1 < ((a5.length : Nat) : Int))) (cond (decide (0 + a1.toNat < a5.length)) (K0 (a5.getD (0 + a1.toNat) ByteArray.empty) 0) none) none))) d K := by kernel_rfl
theorem E175_1 (F : Nat) (d : sh175_1.den) (K : KF) : evBody Tryz.prog (T175_1 F) (xw []) 24 3 (LT175_1 F) [] code175 Tryz.f175.results.toList (encT sh175_1.vs d.1) (encH sh175_1.h d.2) K = A175_1 (f175_1 F) d K := Eq.mp (by kernel_rfl) (E175_1g F    d K)
theorem S175_1_ok (F : Nat) (o : Summ) (ho : SoundFn Tryz.prog 175 o) : SoundFn Tryz.prog 175 (S175_1 F o) :=
  soundFn_of (fn := Tryz.f175) (c := code175) rfl rfl (by kernel_rfl) tab_nil (by kernel_rfl) (by kernel_rfl) ho (by rw [loops175]; exact loopsOK_nil) (by rw [scopes175]; exact scopesOK_nil) (by rw [ranges175]; exact rangesOK_nil) (E175_1 F)
end Go.Proofs.YtlgopekjjkdkiaaGreatDoor.X
end

section
namespace Go.Proofs.YtlgopekjjkdkiaaGreatDoor.X
open Go Go.Proofs.YtlgopekjjkdkiaaGreatDoor.Ev Go.Proofs
set_option linter.unusedVariables false
set_option linter.unusedSectionVars false
/-! pentimentoref06.Disk).Read -/
noncomputable def f124_1_l5 {β : Type} (F : Nat) (v3 : Int) (v5 : Int) (v7 : Int) (v8 : Bool) (v9 : Int) (v10 : List ByteArray) (v11 : List (Int × ByteArray)) (K0 : ByteArray → Option β) : Nat → ByteArray → Int → Option β
  | 0, _, _ => none
  | k + 1, v4, v6 => cond (decide (v6 < ((v11.length : Nat) : Int))) (cond (v5 == 0) (cond (decide ((0 : Int) ≤ v6 ∧ v6 < ((v11.length : Nat) : Int))) (cond (decide (0 + v6.toNat < v11.length)) (cond (((v11.getD (0 + v6.toNat) (0, ByteArray.empty)).1) == v3) (cond (decide ((0 : Int) ≤ v6 ∧ v6 < ((v11.length : Nat) : Int))) (cond (decide (0 + v6.toNat < v11.length)) (f124_1_l5 F v3 v5 v7 v8 v9 v10 v11 K0 k ((v11.getD (0 + v6.toNat) (0, ByteArray.empty)).2) (IntKind.i64.wrap (v6 + 1))) none) none) (f124_1_l5 F v3 v5 v7 v8 v9 v10 v11 K0 k v4 (IntKind.i64.wrap (v6 + 1)))) none) none) (K0 v4)) (K0 v4)
noncomputable def f124_1 {β : Type} (F : Nat) (a1 : Int) (a2 : Int) (a3 : Bool) (a4 : Int) (a5 : List ByteArray) (a6 : List (Int × ByteArray)) (K0 : ByteArray → Int → Option β) : Option β := cond a3 (K0 ByteArray.empty 5) (f175_1 F a1 a2 a3 a4 a5 a6 (fun x1 x2 => f124_1_l5 F a1 x2 a2 a3 a4 a5 a6 (fun x12 => K0 x12 x2) F x1 0) )
variable [FZ]
def sh124_1 : Sh := ⟨[.lf (.ptr 0 0), .lf (.int .i64)], [some ⟨none, [.full 1, .full 2, .int .i64, .bool, .int .i64]⟩, some ⟨none, [.seq .str 0]⟩, some ⟨none, [.seq (.pair (.int .i64) .str) 0]⟩]⟩
abbrev Y124_1 := Int → Int → Bool → Int → List ByteArray → List (Int × ByteArray) → (ByteArray → Int → Option Res) → Option Res
noncomputable def A124_1 (g : Y124_1) (d : sh124_1.den) (K : KF) : Option Res := g d.1.2.1 d.2.1.2.2.2.1 d.2.1.2.2.2.2.1 d.2.1.2.2.2.2.2.1 d.2.2.1.2.1 d.2.2.2.1.2.1 (fun (y0 : ByteArray) (y1 : Int) => K [.lf (.str y0), .lf (.int .i64 y1)] [some ⟨d.2.1.1, [.full 1, .full 2, .int .i64 d.2.1.2.2.2.1, .bool d.2.1.2.2.2.2.1, .int .i64 d.2.1.2.2.2.2.2.1]⟩, some ⟨d.2.2.1.1, [.seq .str 0 d.2.2.1.2.1]⟩, some ⟨d.2.2.2.1.1, [.seq (.pair (.int .i64) .str) 0 d.2.2.2.1.2.1]⟩])
noncomputable def S124_1 (F : Nat) (o : Summ) : Summ := mkS sh124_1 (fun d K => A124_1 (f124_1 F) d K) o
noncomputable def code124 : Code := bodyOf Tryz.f124
noncomputable def b124_0 : Code := cB (cB (cR (cL (cR (cR (cR (code124)))))))
theorem scopes124 : scopesOf code124 = [] := by kernel_rfl
theorem ranges124 : rangesOf code124 = [] := by kernel_rfl
theorem loops124 : loopsOf code124 = [b124_0] := by kernel_rfl
theorem enter124 : ∀ args w, (callFunc 124 args).run Tryz.prog w = .ok (.enter 124 args) w := enter_of (fn := Tryz.f124) (by kernel_rfl) (by kernel_rfl) (by kernel_rfl)
noncomputable def T124_1 (F : Nat) : FuncId → Option Summ := tab [(175, (S175_1 F noS))]
noncomputable def TB124_1 (c175_1 : Y175_1) : FuncId → Option Summ := tab [(175, (mkS sh175_1 (fun d K => A175_1 c175_1 d K) noS))]
def sh124_1_l5 : Sh := ⟨[.lf (.ptr 0 0), .lf (.int .i64), .lf (.str), .lf (.int .i64), .lf (.int .i64)], [some ⟨none, [.full 1, .full 2, .int .i64, .bool, .int .i64]⟩, some ⟨none, [.seq .str 0]⟩, some ⟨none, [.seq (.pair (.int .i64) .str) 0]⟩]⟩
abbrev Y124_1_l5 := Int → Int → Int → Bool → Int → List ByteArray → List (Int × ByteArray) → (ByteArray → Option Res) → Nat → ByteArray → Int → Option Res
noncomputable def A124_1_l5 (g : Y124_1_l5) (k : Nat) (d : sh124_1_l5.den) (K : KL) : Option Res := g d.1.2.1 d.1.2.2.2.1 d.2.1.2.2.2.1 d.2.1.2.2.2.2.1 d.2.1.2.2.2.2.2.1 d.2.2.1.2.1 d.2.2.2.1.2.1 (fun (y0 : ByteArray) => K (.exit 0) [.tv (.lf (.str y0)), .tv (.lf (.int .i64 d.1.2.2.2.1))] [some ⟨d.2.1.1, [.full 1, .full 2, .int .i64 d.2.1.2.2.2.1, .bool d.2.1.2.2.2.2.1, .int .i64 d.2.1.2.2.2.2.2.1]⟩, some ⟨d.2.2.1.1, [.seq .str 0 d.2.2.1.2.1]⟩, some ⟨d.2.2.2.1.1, [.seq (.pair (.int .i64) .str) 0 d.2.2.2.1.2.1]⟩]) k d.1.2.2.1 d.1.2.2.2.2.1
noncomputable def G124_1_5 (F k : Nat) : LoopS := mkG sh124_1_l5 [0, 1, 6, 7, 8] (outT [(.exit 0, [6, 7])]) (fun d K => A124_1_l5 (f124_1_l5 F) k d K) []
noncomputable def LT124_1 (F : Nat) : Nat → Option LoopS := ltab [(5, G124_1_5 F F)]
theorem L124_1_l5g (F k : Nat) (c175_1 : Y175_1)  (l5 : Y124_1_l5) (X5 : LoopS) (d : sh124_1_l5.den) (K : KL) : A124_1_l5 ((fun (v3 : Int) (v5 : Int) (v7 : Int) (v8 : Bool) (v9 : Int) (v10 : List ByteArray) (v11 : List (Int × ByteArray)) (K0 : (ByteArray → Option Res)) (k : Nat) (v4 : ByteArray) (v6 : Int) => cond (decide (v6 < ((v11.length : Nat) : Int))) (cond (v5 == 0) (cond (decide ((0 : Int) ≤ v6 ∧ v6 < ((v11.length : Nat) : Int))) (cond (decide (0 + v6.toNat < v11.length)) (cond (((v11.getD (0 + v6.toNat) (0, ByteArray.empty)).1) == v3) (cond (decide ((0 : Int) ≤ v6 ∧ v6 < ((v11.length : Nat) : Int))) (cond (decide (0 + v6.toNat < v11.length)) (l5 v3 v5 v7 v8 v9 v10 v11 K0 k ((v11.getD (0 + v6.toNat) (0, ByteArray.empty)).2) (IntKind.i64.wrap (v6 + 1))) none) none) (l5 v3 v5 v7 v8 v9 v10 v11 K0 k v4 (IntKind.i64.wrap (v6 + 1)))) none) none) (K0 v4)) (K0 v4))) k d K = roundOf Tryz.prog (TB124_1 c175_1) (xw []) 52 3 (ltab [(5, X5)]) (mkG sh124_1_l5 [0, 1, 6, 7, 8] (outT [(.exit 0, [6, 7])]) (fun d K => A124_1_l5 l5 k d K) []) b124_0 (encT sh124_1_l5.vs d.1) (encH sh124_1_l5.h d.2) K := by kernel_rfl
theorem L124_1_5 (F : Nat) : LoopOK Tryz.prog (T124_1 F) (xw []) 52 3 (LT124_1 F) (G124_1_5 F F) b124_0 :=
  loopOK_of (s := sh124_1_l5) (live := [0, 1, 6, 7, 8]) (out := (outT [(.exit 0, [6, 7])])) (mv := []) (fun k d K => A124_1_l5 (f124_1_l5 F) k d K) F (fun d K => by kernel_rfl)  (fun k d K => Eq.mp (by kernel_rfl) (L124_1_l5g F k (f175_1 F)  (f124_1_l5 F) (G124_1_5 F F) d K))
theorem E124_1g (F : Nat) (c175_1 : Y175_1) (l5 : Y124_1_l5)  (d : sh124_1.den) (K : KF) : evBody Tryz.prog (TB124_1 c175_1) (xw []) 52 3 (ltab [(5, mkG sh124_1_l5 [0, 1, 6, 7, 8] (outT [(.exit 0, [6, 7])]) (fun d K => A124_1_l5 l5 F d K) [])]) [] code124 Tryz.f124.results.toList (encT sh124_1.vs d.1) (encH sh124_1.h d.2) K = A124_1 (fun (a1 : Int) (a2 : Int) (a3 : Bool) (a4 : Int) (a5 : List ByteArray) (a6 : List (Int × ByteArray)) (K0 : (ByteArray → Int → Option Res)) => cond a3 (K0 ByteArray.empty 5) (c175_1 a1 a2 a3 a4 a5 a6 (fun x1 x2 => l5 a1 x2 a2 a3 a4 a5 a6 (fun x12 => K0 x12 x2) F x1 0) )) d K := by kernel_rfl
theorem E124_1 (F : Nat) (d : sh124_1.den) (K : KF) : evBody Tryz.prog (T124_1 F) (xw []) 52 3 (LT124_1 F) [] code124 Tryz.f124.results.toList (encT sh124_1.vs d.1) (encH sh124_1.h d.2) K = A124_1 (f124_1 F) d K := Eq.mp (by kernel_rfl) (E124_1g F (f175_1 F) (f124_1_l5 F)  d K)
theorem S124_1_ok (F : Nat) (o : Summ) (ho : SoundFn Tryz.prog 124 o) : SoundFn Tryz.prog 124 (S124_1 F o) :=
  soundFn_of (fn := Tryz.f124) (c := code124) rfl rfl (by kernel_rfl) (tab_cons (S175_1_ok F _ (noS_sound enter175)) tab_nil) (by kernel_rfl) (by kernel_rfl) ho (by rw [loops124]; exact (loopsOK_cons (by kernel_rfl) (L124_1_5 F) loopsOK_nil)) (by rw [scopes124]; exact scopesOK_nil) (by rw [ranges124]; exact rangesOK_nil) (E124_1 F)
end Go.Proofs.YtlgopekjjkdkiaaGreatDoor.X
end

section
namespace Go.Proofs.YtlgopekjjkdkiaaGreatDoor.X
open Go Go.Proofs.YtlgopekjjkdkiaaGreatDoor.Ev Go.Proofs
set_option linter.unusedVariables false
set_option linter.unusedSectionVars false
/-! pentimentoref07.Area -/
noncomputable def f138_1 {β : Type} (F : Nat) (a1 : Int) (a2 : Int) (a3 : Int) (a4 : Int) (a5 : Int) (a6 : Int) (K0 : Int → Option β) : Option β := f21_1 F a1 a2 a3 a4 (fun x1 => cond (!x1) (K0 (-1)) (cond (decide (a6 < 0)) (K0 (-1)) (f84_1 F a1 a2 a3 a4 a5 (fun x2 => cond (decide (a6 ≥ x2)) (K0 (-1)) (f36_1 F a1 a2 a3 a4 (fun x3 => K0 (IntKind.i64.wrap ((IntKind.i64.wrap ((IntKind.i64.wrap (6 + a1)) + x3)) + a6))) )) ))) 
variable [FZ]
def sh138_1 : Sh := ⟨[.agg [.int .i64, .int .i64, .int .i64, .int .i64], .lf (.int .i64), .lf (.int .i64)], []⟩
abbrev Y138_1 := Int → Int → Int → Int → Int → Int → (Int → Option Res) → Option Res
noncomputable def A138_1 (g : Y138_1) (d : sh138_1.den) (K : KF) : Option Res := g d.1.1.1 d.1.1.2.1 d.1.1.2.2.1 d.1.1.2.2.2.1 d.1.2.1 d.1.2.2.1 (fun (y0 : Int) => K [.lf (.int .i64 y0)] [])
noncomputable def S138_1 (F : Nat) (o : Summ) : Summ := mkS sh138_1 (fun d K => A138_1 (f138_1 F) d K) o
noncomputable def code138 : Code := bodyOf Tryz.f138
theorem scopes138 : scopesOf code138 = [] := by kernel_rfl
theorem ranges138 : rangesOf code138 = [] := by kernel_rfl
theorem loops138 : loopsOf code138 = [] := by kernel_rfl
theorem enter138 : ∀ args w, (callFunc 138 args).run Tryz.prog w = .ok (.enter 138 args) w := enter_of (fn := Tryz.f138) (by kernel_rfl) (by kernel_rfl) (by kernel_rfl)
noncomputable def T138_1 (F : Nat) : FuncId → Option Summ := tab [(21, (S21_1 F noS)), (36, (S36_1 F noS)), (84, (S84_1 F noS))]
noncomputable def TB138_1 (c21_1 : Y21_1) (c36_1 : Y36_1) (c84_1 : Y84_1) : FuncId → Option Summ := tab [(21, (mkS sh21_1 (fun d K => A21_1 c21_1 d K) noS)), (36, (mkS sh36_1 (fun d K => A36_1 c36_1 d K) noS)), (84, (mkS sh84_1 (fun d K => A84_1 c84_1 d K) noS))]
noncomputable def LT138_1 (F : Nat) : Nat → Option LoopS := ltab []
theorem E138_1g (F : Nat) (c21_1 : Y21_1) (c36_1 : Y36_1) (c84_1 : Y84_1)   (d : sh138_1.den) (K : KF) : evBody Tryz.prog (TB138_1 c21_1 c36_1 c84_1) (xw []) 29 0 (ltab []) [] code138 Tryz.f138.results.toList (encT sh138_1.vs d.1) (encH sh138_1.h d.2) K = A138_1 (fun (a1 : Int) (a2 : Int) (a3 : Int) (a4 : Int) (a5 : Int) (a6 : Int) (K0 : (Int → Option Res)) => c21_1 a1 a2 a3 a4 (fun x1 => cond (!x1) (K0 (-1)) (cond (decide (a6 < 0)) (K0 (-1)) (c84_1 a1 a2 a3 a4 a5 (fun x2 => cond (decide (a6 ≥ x2)) (K0 (-1)) (c36_1 a1 a2 a3 a4 (fun x3 => K0 (IntKind.i64.wrap ((IntKind.i64.wrap ((IntKind.i64.wrap (6 + a1)) + x3)) + a6))) )) ))) ) d K := by kernel_rfl
theorem E138_1 (F : Nat) (d : sh138_1.den) (K : KF) : evBody Tryz.prog (T138_1 F) (xw []) 29 0 (LT138_1 F) [] code138 Tryz.f138.results.toList (encT sh138_1.vs d.1) (encH sh138_1.h d.2) K = A138_1 (f138_1 F) d K := Eq.mp (by kernel_rfl) (E138_1g F (f21_1 F) (f36_1 F) (f84_1 F)   d K)
theorem S138_1_ok (F : Nat) (o : Summ) (ho : SoundFn Tryz.prog 138 o) : SoundFn Tryz.prog 138 (S138_1 F o) :=
  soundFn_of (fn := Tryz.f138) (c := code138) rfl rfl (by kernel_rfl) (tab_cons (S21_1_ok F _ (noS_sound enter21)) (tab_cons (S36_1_ok F _ (noS_sound enter36)) (tab_cons (S84_1_ok F _ (noS_sound enter84)) tab_nil))) (by kernel_rfl) (by kernel_rfl) ho (by rw [loops138]; exact loopsOK_nil) (by rw [scopes138]; exact scopesOK_nil) (by rw [ranges138]; exact rangesOK_nil) (E138_1 F)
end Go.Proofs.YtlgopekjjkdkiaaGreatDoor.X
end

section
namespace Go.Proofs.YtlgopekjjkdkiaaGreatDoor.X
open Go Go.Proofs.YtlgopekjjkdkiaaGreatDoor.Ev Go.Proofs
set_option linter.unusedVariables false
set_option linter.unusedSectionVars false
/-! pentimentoref06.Disk).burn -/
noncomputable def f140_1 {β : Type} (F : Nat) (a1 : Int) (a2 : Bool) (a3 : Int) (a4 : List ByteArray) (a5 : List (Int × ByteArray)) (K0 : Bool → Int → Bool → Int → Option β) : Option β := cond (a1 == 0) (K0 false (-1) true a3) (cond (decide (a1 > 0)) (K0 true (IntKind.i64.wrap (a1 - 1)) a2 (IntKind.i64.wrap (a3 + 1))) (K0 true a1 a2 (IntKind.i64.wrap (a3 + 1))))
variable [FZ]
def sh140_1 : Sh := ⟨[.lf (.ptr 0 0)], [some ⟨some false, [.full 1, .full 2, .int .i64, .bool, .int .i64]⟩, some ⟨none, [.seq .str 0]⟩, some ⟨none, [.seq (.pair (.int .i64) .str) 0]⟩]⟩
abbrev Y140_1 := Int → Bool → Int → List ByteArray → List (Int × ByteArray) → (Bool → Int → Bool → Int → Option Res) → Option Res
noncomputable def A140_1 (g : Y140_1) (d : sh140_1.den) (K : KF) : Option Res := g d.2.1.2.2.2.1 d.2.1.2.2.2.2.1 d.2.1.2.2.2.2.2.1 d.2.2.1.2.1 d.2.2.2.1.2.1 (fun (y0 : Bool) (y1 : Int) (y2 : Bool) (y3 : Int) => K [.lf (.bool y0)] [some ⟨false, [.full 1, .full 2, .int .i64 y1, .bool y2, .int .i64 y3]⟩, some ⟨d.2.2.1.1, [.seq .str 0 d.2.2.1.2.1]⟩, some ⟨d.2.2.2.1.1, [.seq (.pair (.int .i64) .str) 0 d.2.2.2.1.2.1]⟩])
noncomputable def S140_1 (F : Nat) (o : Summ) : Summ := mkS sh140_1 (fun d K => A140_1 (f140_1 F) d K) o
noncomputable def code140 : Code := bodyOf Tryz.f140
theorem scopes140 : scopesOf code140 = [] := by kernel_rfl
theorem ranges140 : rangesOf code140 = [] := by kernel_rfl
theorem loops140 : loopsOf code140 = [] := by kernel_rfl
theorem enter140 : ∀ args w, (callFunc 140 args).run Tryz.prog w = .ok (.enter 140 args) w := enter_of (fn := Tryz.f140) (by kernel_rfl) (by kernel_rfl) (by kernel_rfl)
noncomputable def T140_1 (F : Nat) : FuncId → Option Summ := tab []
noncomputable def TB140_1  : FuncId → Option Summ := tab []
noncomputable def LT140_1 (F : Nat) : Nat → Option LoopS := ltab []
theorem E140_1g (F : Nat)    (d : sh140_1.den) (K : KF) : evBody Tryz.prog TB140_1 (xw []) 35 3 (ltab []) [] code140 Tryz.f140.results.toList (encT sh140_1.vs d.1) (encH sh140_1.h d.2) K = A140_1 (fun (a1 : Int) (a2 : Bool) (a3 : Int) (a4 : List ByteArray) (a5 : List (Int × ByteArray)) (K0 : (Bool → Int → Bool → Int → Option Res)) => cond (a1 == 0) (K0 false (-1) true a3) (cond (decide (a1 > 0)) (K0 true (IntKind.i64.wrap (a1 - 1)) a2 (IntKind.i64.wrap (a3 + 1))) (K0 true a1 a2 (IntKind.i64.wrap (a3 + 1))))) d K := by kernel_rfl
theorem E140_1 (F : Nat) (d : sh140_1.den) (K : KF) : evBody Tryz.prog (T140_1 F) (xw []) 35 3 (LT140_1 F) [] code140 Tryz.f140.results.toList (encT sh140_1.vs d.1) (encH sh140_1.h d.2) K = A140_1 (f140_1 F) d K := Eq.mp (by kernel_rfl) (E140_1g F    d K)
theorem S140_1_ok (F : Nat) (o : Summ) (ho : SoundFn Tryz.prog 140 o) : SoundFn Tryz.prog 140 (S140_1 F o) :=
  soundFn_of (fn := Tryz.f140) (c := code140) rfl rfl (by kernel_rfl) tab_nil (by kernel_rfl) (by kernel_rfl) ho (by rw [loops140]; exact loopsOK_nil) (by rw [scopes140]; exact scopesOK_nil) (by rw [ranges140]; exact rangesOK_nil) (E140_1 F)
end Go.Proofs.YtlgopekjjkdkiaaGreatDoor.X
end

section
namespace Go.Proofs.YtlgopekjjkdkiaaGreatDoor.X
open Go Go.Proofs.YtlgopekjjkdkiaaGreatDoor.Ev Go.Proofs
set_option linter.unusedVariables false
set_option linter.unusedSectionVars false
/-! pentimentoref06.Disk).Flush -/
noncomputable def f143_1_l4 {β : Type} (F : Nat) (v6 : Int) (v7 : Bool) (v8 : Int) (v10 : List (Int × ByteArray)) (K0 : List ByteArray → Option β) : Nat → Int → List ByteArray → Option β
  | 0, _, _ => none
  | k + 1, v5, v9 => cond (decide (v5 < ((v10.length : Nat) : Int))) (cond (decide ((0 : Int) ≤ v5 ∧ v5 < ((v10.length : Nat) : Int))) (cond (decide (0 + v5.toNat < v10.length)) (cond (decide ((0 : Int) ≤ (v10.getD (0 + v5.toNat) (0, ByteArray.empty)).1 ∧ (v10.getD (0 + v5.toNat) (0, ByteArray.empty)).1 < ((v9.length : Nat) : Int))) (cond (decide (0 + (((v10.getD (0 + v5.toNat) (0, ByteArray.empty)).1).toNat) < v9.length)) (f143_1_l4 F v6 v7 v8 v10 K0 k (IntKind.i64.wrap (v5 + 1)) (v9.set (0 + (((v10.getD (0 + v5.toNat) (0, ByteArray.empty)).1).toNat)) ((v10.getD (0 + v5.toNat) (0, ByteArray.empty)).2))) none) none) none) none) (K0 v9)
noncomputable def f143_1 {β : Type} (F : Nat) (a1 : Int) (a2 : Bool) (a3 : Int) (a4 : List ByteArray) (a5 : List (Int × ByteArray)) (K0 : Int → Int → Bool → Int → List ByteArray → List (Int × ByteArray) → Option β) : Option β := cond a2 (K0 5 a1 a2 a3 a4 a5) (f140_1 F a1 a2 a3 a4 a5 (fun x1 x2 x3 x4 => cond (!x1) (K0 5 x2 x3 x4 a4 a5) (f143_1_l4 F x2 x3 x4 a5 (fun x11 => K0 0 x2 x3 x4 x11 []) F 0 a4)) )
variable [FZ]
def sh143_1 : Sh := ⟨[.lf (.ptr 0 0)], [some ⟨some false, [.full 1, .full 2, .int .i64, .bool, .int .i64]⟩, some ⟨some false, [.seq .str 0]⟩, some ⟨some false, [.seq (.pair (.int .i64) .str) 0]⟩]⟩
abbrev Y143_1 := Int → Bool → Int → List ByteArray → List (Int × ByteArray) → (Int → Int → Bool → Int → List ByteArray → List (Int × ByteArray) → Option Res) → Option Res
noncomputable def A143_1 (g : Y143_1) (d : sh143_1.den) (K : KF) : Option Res := g d.2.1.2.2.2.1 d.2.1.2.2.2.2.1 d.2.1.2.2.2.2.2.1 d.2.2.1.2.1 d.2.2.2.1.2.1 (fun (y0 : Int) (y1 : Int) (y2 : Bool) (y3 : Int) (y4 : List ByteArray) (y5 : List (Int × ByteArray)) => K [.lf (.int .i64 y0)] [some ⟨false, [.full 1, .full 3, .int .i64 y1, .bool y2, .int .i64 y3]⟩, some ⟨false, [.seq .str 0 y4]⟩, none, some ⟨false, [.seq (.pair (.int .i64) .str) 0 y5]⟩])
noncomputable def S143_1 (F : Nat) (o : Summ) : Summ := mkS sh143_1 (fun d K => A143_1 (f143_1 F) d K) o
noncomputable def code143 : Code := bodyOf Tryz.f143
noncomputable def b143_0 : Code := cB (cB (cR (cL (cR (cR (code143))))))
theorem scopes143 : scopesOf code143 = [] := by kernel_rfl
theorem ranges143 : rangesOf code143 = [] := by kernel_rfl
theorem loops143 : loopsOf code143 = [b143_0] := by kernel_rfl
theorem enter143 : ∀ args w, (callFunc 143 args).run Tryz.prog w = .ok (.enter 143 args) w := enter_of (fn := Tryz.f143) (by kernel_rfl) (by kernel_rfl) (by kernel_rfl)
noncomputable def T143_1 (F : Nat) : FuncId → Option Summ := tab [(140, (S140_1 F noS))]
noncomputable def TB143_1 (c140_1 : Y140_1) : FuncId → Option Summ := tab [(140, (mkS sh140_1 (fun d K => A140_1 c140_1 d K) noS))]
def sh143_1_l4 : Sh := ⟨[.lf (.ptr 0 0), .lf (.int .i64)], [some ⟨some false, [.full 1, .full 2, .int .i64, .bool, .int .i64]⟩, some ⟨some false, [.seq .str 0]⟩, some ⟨some false, [.seq (.pair (.int .i64) .str) 0]⟩]⟩
abbrev Y143_1_l4 := Int → Bool → Int → List (Int × ByteArray) → (List ByteArray → Option Res) → Nat → Int → List ByteArray → Option Res
noncomputable def A143_1_l4 (g : Y143_1_l4) (k : Nat) (d : sh143_1_l4.den) (K : KL) : Option Res := g d.2.1.2.2.2.1 d.2.1.2.2.2.2.1 d.2.1.2.2.2.2.2.1 d.2.2.2.1.2.1 (fun (y3 : List ByteArray) => K (.exit 0) [.tv (.lf (.ptr 0 0))] [some ⟨false, [.full 1, .full 2, .int .i64 d.2.1.2.2.2.1, .bool d.2.1.2.2.2.2.1, .int .i64 d.2.1.2.2.2.2.2.1]⟩, some ⟨false, [.seq .str 0 y3]⟩, some ⟨false, [.seq (.pair (.int .i64) .str) 0 d.2.2.2.1.2.1]⟩]) k d.1.2.1 d.2.2.1.2.1
noncomputable def G143_1_4 (F k : Nat) : LoopS := mkG sh143_1_l4 [0, 3] (outT [(.exit 0, [0])]) (fun d K => A143_1_l4 (f143_1_l4 F) k d K) []
noncomputable def LT143_1 (F : Nat) : Nat → Option LoopS := ltab [(4, G143_1_4 F F)]
theorem L143_1_l4g (F k : Nat) (c140_1 : Y140_1)  (l4 : Y143_1_l4) (X4 : LoopS) (d : sh143_1_l4.den) (K : KL) : A143_1_l4 ((fun (v6 : Int) (v7 : Bool) (v8 : Int) (v10 : List (Int × ByteArray)) (K0 : (List ByteArray → Option Res)) (k : Nat) (v5 : Int) (v9 : List ByteArray) => cond (decide (v5 < ((v10.length : Nat) : Int))) (cond (decide ((0 : Int) ≤ v5 ∧ v5 < ((v10.length : Nat) : Int))) (cond (decide (0 + v5.toNat < v10.length)) (cond (decide ((0 : Int) ≤ (v10.getD (0 + v5.toNat) (0, ByteArray.empty)).1 ∧ (v10.getD (0 + v5.toNat) (0, ByteArray.empty)).1 < ((v9.length : Nat) : Int))) (cond (decide (0 + (((v10.getD (0 + v5.toNat) (0, ByteArray.empty)).1).toNat) < v9.length)) (l4 v6 v7 v8 v10 K0 k (IntKind.i64.wrap (v5 + 1)) (v9.set (0 + (((v10.getD (0 + v5.toNat) (0, ByteArray.empty)).1).toNat)) ((v10.getD (0 + v5.toNat) (0, ByteArray.empty)).2))) none) none) none) none) (K0 v9))) k d K = roundOf Tryz.prog (TB143_1 c140_1) (xw []) 42 3 (ltab [(4, X4)]) (mkG sh143_1_l4 [0, 3] (outT [(.exit 0, [0])]) (fun d K => A143_1_l4 l4 k d K) []) b143_0 (encT sh143_1_l4.vs d.1) (encH sh143_1_l4.h d.2) K := by kernel_rfl
theorem L143_1_4 (F : Nat) : LoopOK Tryz.prog (T143_1 F) (xw []) 42 3 (LT143_1 F) (G143_1_4 F F) b143_0 :=
  loopOK_of (s := sh143_1_l4) (live := [0, 3]) (out := (outT [(.exit 0, [0])])) (mv := []) (fun k d K => A143_1_l4 (f143_1_l4 F) k d K) F (fun d K => by kernel_rfl)  (fun k d K => Eq.mp (by kernel_rfl) (L143_1_l4g F k (f140_1 F)  (f143_1_l4 F) (G143_1_4 F F) d K))
theorem E143_1g (F : Nat) (c140_1 : Y140_1) (l4 : Y143_1_l4)  (d : sh143_1.den) (K : KF) : evBody Tryz.prog (TB143_1 c140_1) (xw []) 42 3 (ltab [(4, mkG sh143_1_l4 [0, 3] (outT [(.exit 0, [0])]) (fun d K => A143_1_l4 l4 F d K) [])]) [2] code143 Tryz.f143.results.toList (encT sh143_1.vs d.1) (encH sh143_1.h d.2) K = A143_1 (fun (a1 : Int) (a2 : Bool) (a3 : Int) (a4 : List ByteArray) (a5 : List (Int × ByteArray)) (K0 : (Int → Int → Bool → Int → List ByteArray → List (Int × ByteArray) → Option Res)) => cond a2 (K0 5 a1 a2 a3 a4 a5) (c140_1 a1 a2 a3 a4 a5 (fun x1 x2 x3 x4 => cond (!x1) (K0 5 x2 x3 x4 a4 a5) (l4 x2 x3 x4 a5 (fun x11 => K0 0 x2 x3 x4 x11 []) F 0 a4)) )) d K := by kernel_rfl
theorem E143_1 (F : Nat) (d : sh143_1.den) (K : KF) : evBody Tryz.prog (T143_1 F) (xw []) 42 3 (LT143_1 F) [2] code143 Tryz.f143.results.toList (encT sh143_1.vs d.1) (encH sh143_1.h d.2) K = A143_1 (f143_1 F) d K := Eq.mp (by kernel_rfl) (E143_1g F (f140_1 F) (f143_1_l4 F)  d K)
theorem S143_1_ok (F : Nat) (o : Summ) (ho : SoundFn Tryz.prog 143 o) : SoundFn Tryz.prog 143 (S143_1 F o) :=
  soundFn_of (fn := Tryz.f143) (c := code143) rfl rfl (by kernel_rfl) (tab_cons (S140_1_ok F _ (noS_sound enter140)) tab_nil) (by kernel_rfl) (by kernel_rfl) ho (by rw [loops143]; exact (loopsOK_cons (by kernel_rfl) (L143_1_4 F) loopsOK_nil)) (by rw [scopes143]; exact scopesOK_nil) (by rw [ranges143]; exact rangesOK_nil) (E143_1 F)
end Go.Proofs.YtlgopekjjkdkiaaGreatDoor.X
end

section
namespace Go.Proofs.YtlgopekjjkdkiaaGreatDoor.X
open Go Go.Proofs.YtlgopekjjkdkiaaGreatDoor.Ev Go.Proofs
set_option linter.unusedVariables false
set_option linter.unusedSectionVars false
/-! pentimentoref05.Right -/
noncomputable def f112_1 {β : Type} (F : Nat) (a1 : ByteArray) (K0 : Bool → Option β) : Option β := K0 ((a1.size : Int) == 64)
variable [FZ]
def sh112_1 : Sh := ⟨[.lf (.str)], []⟩
abbrev Y112_1 := ByteArray → (Bool → Option Res) → Option Res
noncomputable def A112_1 (g : Y112_1) (d : sh112_1.den) (K : KF) : Option Res := g d.1.1 (fun (y0 : Bool) => K [.lf (.bool y0)] [])
noncomputable def S112_1 (F : Nat) (o : Summ) : Summ := mkS sh112_1 (fun d K => A112_1 (f112_1 F) d K) o
noncomputable def code112 : Code := bodyOf Tryz.f112
theorem scopes112 : scopesOf code112 = [] := by kernel_rfl
theorem ranges112 : rangesOf code112 = [] := by kernel_rfl
theorem loops112 : loopsOf code112 = [] := by kernel_rfl
theorem enter112 : ∀ args w, (callFunc 112 args).run Tryz.prog w = .ok (.enter 112 args) w := enter_of (fn := Tryz.f112) (by kernel_rfl) (by kernel_rfl) (by kernel_rfl)
noncomputable def T112_1 (F : Nat) : FuncId → Option Summ := tab []
noncomputable def TB112_1  : FuncId → Option Summ := tab []
noncomputable def LT112_1 (F : Nat) : Nat → Option LoopS := ltab []
theorem E112_1g (F : Nat)    (d : sh112_1.den) (K : KF) : evBody Tryz.prog TB112_1 (xw []) 6 0 (ltab []) [] code112 Tryz.f112.results.toList (encT sh112_1.vs d.1) (encH sh112_1.h d.2) K = A112_1 (fun (a1 : ByteArray) (K0 : (Bool → Option Res)) => K0 ((a1.size : Int) == 64)) d K := by kernel_rfl
theorem E112_1 (F : Nat) (d : sh112_1.den) (K : KF) : evBody Tryz.prog (T112_1 F) (xw []) 6 0 (LT112_1 F) [] code112 Tryz.f112.results.toList (encT sh112_1.vs d.1) (encH sh112_1.h d.2) K = A112_1 (f112_1 F) d K := Eq.mp (by kernel_rfl) (E112_1g F    d K)
theorem S112_1_ok (F : Nat) (o : Summ) (ho : SoundFn Tryz.prog 112 o) : SoundFn Tryz.prog 112 (S112_1 F o) :=
  soundFn_of (fn := Tryz.f112) (c := code112) rfl rfl (by kernel_rfl) tab_nil (by kernel_rfl) (by kernel_rfl) ho (by rw [loops112]; exact loopsOK_nil) (by rw [scopes112]; exact scopesOK_nil) (by rw [ranges112]; exact rangesOK_nil) (E112_1 F)
end Go.Proofs.YtlgopekjjkdkiaaGreatDoor.X
end

section
namespace Go.Proofs.YtlgopekjjkdkiaaGreatDoor.X
open Go Go.Proofs.YtlgopekjjkdkiaaGreatDoor.Ev Go.Proofs
set_option linter.unusedVariables false
set_option linter.unusedSectionVars false
/-! pentimentoref06.Disk).Write -/
noncomputable def f74_1 {β : Type} (F : Nat) (a1 : Int) (a2 : ByteArray) (a3 : Int) (a4 : Bool) (a5 : Int) (a6 : List ByteArray) (a7 : List (Int × ByteArray)) (K0 : Int → Int → Bool → Int → List (Int × ByteArray) → Option β) : Option β := cond a4 (K0 5 a3 a4 a5 a7) (cond (decide (a1 < 0)) (K0 3 a3 a4 a5 a7) (cond (decide (a1 ≥ ((a6.length : Nat) : Int))) (K0 3 a3 a4 a5 a7) (f112_1 F a2 (fun x1 => cond (!x1) (K0 4 a3 a4 a5 a7) (f140_1 F a3 a4 a5 a6 a7 (fun x2 x3 x4 x5 => cond (!x2) (K0 5 x3 x4 x5 a7) (cond (decide ((a7.length + 1) * 24 ≤ 70368744177664)) (K0 0 x3 x4 x5 (a7 ++ [(a1, a2)])) none)) )) )))
variable [FZ]
def sh74_1 : Sh := ⟨[.lf (.ptr 0 0), .lf (.int .i64), .lf (.str)], [some ⟨some false, [.full 1, .full 2, .int .i64, .bool, .int .i64]⟩, some ⟨none, [.seq .str 0]⟩, some ⟨some false, [.seq (.pair (.int .i64) .str) 0]⟩]⟩
abbrev Y74_1 := Int → ByteArray → Int → Bool → Int → List ByteArray → List (Int × ByteArray) → (Int → Int → Bool → Int → List (Int × ByteArray) → Option Res) → Option Res
noncomputable def A74_1 (g : Y74_1) (d : sh74_1.den) (K : KF) : Option Res := g d.1.2.1 d.1.2.2.1 d.2.1.2.2.2.1 d.2.1.2.2.2.2.1 d.2.1.2.2.2.2.2.1 d.2.2.1.2.1 d.2.2.2.1.2.1 (fun (y0 : Int) (y1 : Int) (y2 : Bool) (y3 : Int) (y5 : List (Int × ByteArray)) => K [.lf (.int .i64 y0)] [some ⟨false, [.full 1, .full 3, .int .i64 y1, .bool y2, .int .i64 y3]⟩, some ⟨d.2.2.1.1, [.seq .str 0 d.2.2.1.2.1]⟩, none, some ⟨false, [.seq (.pair (.int .i64) .str) 0 y5]⟩])
noncomputable def S74_1 (F : Nat) (o : Summ) : Summ := mkS sh74_1 (fun d K => A74_1 (f74_1 F) d K) o
noncomputable def code74 : Code := bodyOf Tryz.f74
theorem scopes74 : scopesOf code74 = [] := by kernel_rfl
theorem ranges74 : rangesOf code74 = [] := by kernel_rfl
theorem loops74 : loopsOf code74 = [] := by kernel_rfl
theorem enter74 : ∀ args w, (callFunc 74 args).run Tryz.prog w = .ok (.enter 74 args) w := enter_of (fn := Tryz.f74) (by kernel_rfl) (by kernel_rfl) (by kernel_rfl)
noncomputable def T74_1 (F : Nat) : FuncId → Option Summ := tab [(112, (S112_1 F noS)), (140, (S140_1 F noS))]
noncomputable def TB74_1 (c112_1 : Y112_1) (c140_1 : Y140_1) : FuncId → Option Summ := tab [(112, (mkS sh112_1 (fun d K => A112_1 c112_1 d K) noS)), (140, (mkS sh140_1 (fun d K => A140_1 c140_1 d K) noS))]
noncomputable def LT74_1 (F : Nat) : Nat → Option LoopS := ltab []
theorem E74_1g (F : Nat) (c112_1 : Y112_1) (c140_1 : Y140_1)   (d : sh74_1.den) (K : KF) : evBody Tryz.prog (TB74_1 c112_1 c140_1) (xw []) 40 3 (ltab []) [2] code74 Tryz.f74.results.toList (encT sh74_1.vs d.1) (encH sh74_1.h d.2) K = A74_1 (fun (a1 : Int) (a2 : ByteArray) (a3 : Int) (a4 : Bool) (a5 : Int) (a6 : List ByteArray) (a7 : List (Int × ByteArray)) (K0 : (Int → Int → Bool → Int → List (Int × ByteArray) → Option Res)) => cond a4 (K0 5 a3 a4 a5 a7) (cond (decide (a1 < 0)) (K0 3 a3 a4 a5 a7) (cond (decide (a1 ≥ ((a6.length : Nat) : Int))) (K0 3 a3 a4 a5 a7) (c112_1 a2 (fun x1 => cond (!x1) (K0 4 a3 a4 a5 a7) (c140_1 a3 a4 a5 a6 a7 (fun x2 x3 x4 x5 => cond (!x2) (K0 5 x3 x4 x5 a7) (cond (decide ((a7.length + 1) * 24 ≤ 70368744177664)) (K0 0 x3 x4 x5 (a7 ++ [(a1, a2)])) none)) )) )))) d K := by kernel_rfl
theorem E74_1 (F : Nat) (d : sh74_1.den) (K : KF) : evBody Tryz.prog (T74_1 F) (xw []) 40 3 (LT74_1 F) [2] code74 Tryz.f74.results.toList (encT sh74_1.vs d.1) (encH sh74_1.h d.2) K = A74_1 (f74_1 F) d K := Eq.mp (by kernel_rfl) (E74_1g F (f112_1 F) (f140_1 F)   d K)
theorem S74_1_ok (F : Nat) (o : Summ) (ho : SoundFn Tryz.prog 74 o) : SoundFn Tryz.prog 74 (S74_1 F o) :=
  soundFn_of (fn := Tryz.f74) (c := code74) rfl rfl (by kernel_rfl) (tab_cons (S112_1_ok F _ (noS_sound enter112)) (tab_cons (S140_1_ok F _ (noS_sound enter140)) tab_nil)) (by kernel_rfl) (by kernel_rfl) ho (by rw [loops74]; exact loopsOK_nil) (by rw [scopes74]; exact scopesOK_nil) (by rw [ranges74]; exact rangesOK_nil) (E74_1 F)
end Go.Proofs.YtlgopekjjkdkiaaGreatDoor.X
end

section
namespace Go.Proofs.YtlgopekjjkdkiaaGreatDoor.X
open Go Go.Proofs.YtlgopekjjkdkiaaGreatDoor.Ev Go.Proofs
set_option linter.unusedVariables false
set_option linter.unusedSectionVars false
/-! pentimentoref15.Lay -/
noncomputable def f137_1 {β : Type} (F : Nat) (a1 : Int) (a2 : Int) (a3 : Int) (a4 : Int) (a5 : Int) (a6 : Int) (a7 : ByteArray) (a8 : ByteArray) (a9 : Int) (a10 : Bool) (a11 : Int) (a12 : List ByteArray) (a13 : List (Int × ByteArray)) (K0 : Int → Int → Bool → Int → List ByteArray → List (Int × ByteArray) → Option β) : Option β := f138_1 F a1 a2 a3 a4 a5 (IntKind.i64.wrap ((IntKind.i64.wrap (2 * a6)) + 1)) (fun x1 => f74_1 F x1 a8 a9 a10 a11 a12 a13 (fun x2 x3 x4 x5 x6 => cond (x2 != 0) (K0 x2 x3 x4 x5 a12 x6) (f143_1 F x3 x4 x5 a12 x6 (fun x7 x8 x9 x10 x11 x12 => cond (x7 != 0) (K0 x7 x8 x9 x10 x11 x12) (f138_1 F a1 a2 a3 a4 a5 (IntKind.i64.wrap (2 * a6)) (fun x13 => f74_1 F x13 a7 x8 x9 x10 x11 x12 (fun x14 x15 x16 x17 x18 => cond (x14 != 0) (K0 x14 x15 x16 x17 x11 x18) (f143_1 F x15 x16 x17 x11 x18 (fun x19 x20 x21 x22 x23 x24 => K0 x19 x20 x21 x22 x23 x24) )) ) )) )) ) 
variable [FZ]
def sh137_1 : Sh := ⟨[.lf (.ptr 0 0), .agg [.int .i64, .int .i64, .int .i64, .int .i64], .lf (.int .i64), .lf (.int .i64), .lf (.str), .lf (.str)], [some ⟨some false, [.full 1, .full 2, .int .i64, .bool, .int .i64]⟩, some ⟨some false, [.seq .str 0]⟩, some ⟨some false, [.seq (.pair (.int .i64) .str) 0]⟩]⟩
abbrev Y137_1 := Int → Int → Int → Int → Int → Int → ByteArray → ByteArray → Int → Bool → Int → List ByteArray → List (Int × ByteArray) → (Int → Int → Bool → Int → List ByteArray → List (Int × ByteArray) → Option Res) → Option Res
noncomputable def A137_1 (g : Y137_1) (d : sh137_1.den) (K : KF) : Option Res := g d.1.2.1.1 d.1.2.1.2.1 d.1.2.1.2.2.1 d.1.2.1.2.2.2.1 d.1.2.2.1 d.1.2.2.2.1 d.1.2.2.2.2.1 d.1.2.2.2.2.2.1 d.2.1.2.2.2.1 d.2.1.2.2.2.2.1 d.2.1.2.2.2.2.2.1 d.2.2.1.2.1 d.2.2.2.1.2.1 (fun (y0 : Int) (y1 : Int) (y2 : Bool) (y3 : Int) (y4 : List ByteArray) (y5 : List (Int × ByteArray)) => K [.lf (.int .i64 y0)] [some ⟨false, [.full 1, .full 3, .int .i64 y1, .bool y2, .int .i64 y3]⟩, some ⟨false, [.seq .str 0 y4]⟩, none, some ⟨false, [.seq (.pair (.int .i64) .str) 0 y5]⟩])
noncomputable def S137_1 (F : Nat) (o : Summ) : Summ := mkS sh137_1 (fun d K => A137_1 (f137_1 F) d K) o
noncomputable def code137 : Code := bodyOf Tryz.f137
theorem scopes137 : scopesOf code137 = [] := by kernel_rfl
theorem ranges137 : rangesOf code137 = [] := by kernel_rfl
theorem loops137 : loopsOf code137 = [] := by kernel_rfl
theorem enter137 : ∀ args w, (callFunc 137 args).run Tryz.prog w = .ok (.enter 137 args) w := enter_of (fn := Tryz.f137) (by kernel_rfl) (by kernel_rfl) (by kernel_rfl)
noncomputable def T137_1 (F : Nat) : FuncId → Option Summ := tab [(74, (S74_1 F noS)), (138, (S138_1 F noS)), (143, (S143_1 F noS))]
noncomputable def TB137_1 (c74_1 : Y74_1) (c138_1 : Y138_1) (c143_1 : Y143_1) : FuncId → Option Summ := tab [(74, (mkS sh74_1 (fun d K => A74_1 c74_1 d K) noS)), (138, (mkS sh138_1 (fun d K => A138_1 c138_1 d K) noS)), (143, (mkS sh143_1 (fun d K => A143_1 c143_1 d K) noS))]
noncomputable def LT137_1 (F : Nat) : Nat → Option LoopS := ltab []
theorem E137_1g (F : Nat) (c74_1 : Y74_1) (c138_1 : Y138_1) (c143_1 : Y143_1)   (d : sh137_1.den) (K : KF) : evBody Tryz.prog (TB137_1 c74_1 c138_1 c143_1) (xw []) 44 3 (ltab []) [2] code137 Tryz.f137.results.toList (encT sh137_1.vs d.1) (encH sh137_1.h d.2) K = A137_1 (fun (a1 : Int) (a2 : Int) (a3 : Int) (a4 : Int) (a5 : Int) (a6 : Int) (a7 : ByteArray) (a8 : ByteArray) (a9 : Int) (a10 : Bool) (a11 : Int) (a12 : List ByteArray) (a13 : List (Int × ByteArray)) (K0 : (Int → Int → Bool → Int → List ByteArray → List (Int × ByteArray) → Option Res)) => c138_1 a1 a2 a3 a4 a5 (IntKind.i64.wrap ((IntKind.i64.wrap (2 * a6)) + 1)) (fun x1 => c74_1 x1 a8 a9 a10 a11 a12 a13 (fun x2 x3 x4 x5 x6 => cond (x2 != 0) (K0 x2 x3 x4 x5 a12 x6) (c143_1 x3 x4 x5 a12 x6 (fun x7 x8 x9 x10 x11 x12 => cond (x7 != 0) (K0 x7 x8 x9 x10 x11 x12) (c138_1 a1 a2 a3 a4 a5 (IntKind.i64.wrap (2 * a6)) (fun x13 => c74_1 x13 a7 x8 x9 x10 x11 x12 (fun x14 x15 x16 x17 x18 => cond (x14 != 0) (K0 x14 x15 x16 x17 x11 x18) (c143_1 x15 x16 x17 x11 x18 (fun x19 x20 x21 x22 x23 x24 => K0 x19 x20 x21 x22 x23 x24) )) ) )) )) ) ) d K := by kernel_rfl
theorem E137_1 (F : Nat) (d : sh137_1.den) (K : KF) : evBody Tryz.prog (T137_1 F) (xw []) 44 3 (LT137_1 F) [2] code137 Tryz.f137.results.toList (encT sh137_1.vs d.1) (encH sh137_1.h d.2) K = A137_1 (f137_1 F) d K := Eq.mp (by kernel_rfl) (E137_1g F (f74_1 F) (f138_1 F) (f143_1 F)   d K)
theorem S137_1_ok (F : Nat) (o : Summ) (ho : SoundFn Tryz.prog 137 o) : SoundFn Tryz.prog 137 (S137_1 F o) :=
  soundFn_of (fn := Tryz.f137) (c := code137) rfl rfl (by kernel_rfl) (tab_cons (S74_1_ok F _ (noS_sound enter74)) (tab_cons (S138_1_ok F _ (noS_sound enter138)) (tab_cons (S143_1_ok F _ (noS_sound enter143)) tab_nil))) (by kernel_rfl) (by kernel_rfl) ho (by rw [loops137]; exact loopsOK_nil) (by rw [scopes137]; exact scopesOK_nil) (by rw [ranges137]; exact rangesOK_nil) (E137_1 F)
end Go.Proofs.YtlgopekjjkdkiaaGreatDoor.X
end

section
namespace Go.Proofs.YtlgopekjjkdkiaaGreatDoor.X
open Go Go.Proofs.YtlgopekjjkdkiaaGreatDoor.Ev Go.Proofs
set_option linter.unusedVariables false
set_option linter.unusedSectionVars false
/-! pentimentoref07.Data -/
noncomputable def f25_1 {β : Type} (F : Nat) (a1 : Int) (a2 : Int) (a3 : Int) (a4 : Int) (a5 : Int) (K0 : Int → Option β) : Option β := f21_1 F a1 a2 a3 a4 (fun x1 => cond (!x1) (K0 (-1)) (cond (decide (a5 < 0)) (K0 (-1)) (cond (decide (a5 ≥ a1)) (K0 (-1)) (K0 (IntKind.i64.wrap (6 + a5)))))) 
variable [FZ]
def sh25_1 : Sh := ⟨[.agg [.int .i64, .int .i64, .int .i64, .int .i64], .lf (.int .i64)], []⟩
abbrev Y25_1 := Int → Int → Int → Int → Int → (Int → Option Res) → Option Res
noncomputable def A25_1 (g : Y25_1) (d : sh25_1.den) (K : KF) : Option Res := g d.1.1.1 d.1.1.2.1 d.1.1.2.2.1 d.1.1.2.2.2.1 d.1.2.1 (fun (y0 : Int) => K [.lf (.int .i64 y0)] [])
noncomputable def S25_1 (F : Nat) (o : Summ) : Summ := mkS sh25_1 (fun d K => A25_1 (f25_1 F) d K) o
noncomputable def code25 : Code := bodyOf Tryz.f25
theorem scopes25 : scopesOf code25 = [] := by kernel_rfl
theorem ranges25 : rangesOf code25 = [] := by kernel_rfl
theorem loops25 : loopsOf code25 = [] := by kernel_rfl
theorem enter25 : ∀ args w, (callFunc 25 args).run Tryz.prog w = .ok (.enter 25 args) w := enter_of (fn := Tryz.f25) (by kernel_rfl) (by kernel_rfl) (by kernel_rfl)
noncomputable def T25_1 (F : Nat) : FuncId → Option Summ := tab [(21, (S21_1 F noS))]
noncomputable def TB25_1 (c21_1 : Y21_1) : FuncId → Option Summ := tab [(21, (mkS sh21_1 (fun d K => A21_1 c21_1 d K) noS))]
noncomputable def LT25_1 (F : Nat) : Nat → Option LoopS := ltab []
theorem E25_1g (F : Nat) (c21_1 : Y21_1)   (d : sh25_1.den) (K : KF) : evBody Tryz.prog (TB25_1 c21_1) (xw []) 20 0 (ltab []) [] code25 Tryz.f25.results.toList (encT sh25_1.vs d.1) (encH sh25_1.h d.2) K = A25_1 (fun (a1 : Int) (a2 : Int) (a3 : Int) (a4 : Int) (a5 : Int) (K0 : (Int → Option Res)) => c21_1 a1 a2 a3 a4 (fun x1 => cond (!x1) (K0 (-1)) (cond (decide (a5 < 0)) (K0 (-1)) (cond (decide (a5 ≥ a1)) (K0 (-1)) (K0 (IntKind.i64.wrap (6 + a5)))))) ) d K := by kernel_rfl
theorem E25_1 (F : Nat) (d : sh25_1.den) (K : KF) : evBody Tryz.prog (T25_1 F) (xw []) 20 0 (LT25_1 F) [] code25 Tryz.f25.results.toList (encT sh25_1.vs d.1) (encH sh25_1.h d.2) K = A25_1 (f25_1 F) d K := Eq.mp (by kernel_rfl) (E25_1g F (f21_1 F)   d K)
theorem S25_1_ok (F : Nat) (o : Summ) (ho : SoundFn Tryz.prog 25 o) : SoundFn Tryz.prog 25 (S25_1 F o) :=
  soundFn_of (fn := Tryz.f25) (c := code25) rfl rfl (by kernel_rfl) (tab_cons (S21_1_ok F _ (noS_sound enter21)) tab_nil) (by kernel_rfl) (by kernel_rfl) ho (by rw [loops25]; exact loopsOK_nil) (by rw [scopes25]; exact scopesOK_nil) (by rw [ranges25]; exact rangesOK_nil) (E25_1 F)
end Go.Proofs.YtlgopekjjkdkiaaGreatDoor.X
end

section
namespace Go.Proofs.YtlgopekjjkdkiaaGreatDoor.X
open Go Go.Proofs.YtlgopekjjkdkiaaGreatDoor.Ev Go.Proofs
set_option linter.unusedVariables false
set_option linter.unusedSectionVars false
/-! pentimentoref02.Entry -/
noncomputable def f192_1_l3 {β : Type} (F : Nat)  (K0 : Int → Option β) : Nat → Int → Int → Option β
  | 0, _, _ => none
  | k + 1, v1, v2 => cond (decide (v2 < 8)) (cond ((v1.tmod 2) == 1) (f192_1_l3 F K0 k (ixor .u32 (IntKind.u32.wrap (v1.tdiv 2)) 2197175160) (IntKind.i64.wrap (v2 + 1))) (f192_1_l3 F K0 k (IntKind.u32.wrap (v1.tdiv 2)) (IntKind.i64.wrap (v2 + 1)))) (K0 v1)
noncomputable def f192_1 {β : Type} (F : Nat) (a1 : Int) (K0 : Int → Option β) : Option β := f192_1_l3 F  (fun x3 => K0 x3) F (IntKind.u32.wrap a1) 0
variable [FZ]
def sh192_1 : Sh := ⟨[.lf (.int .u8)], []⟩
abbrev Y192_1 := Int → (Int → Option Res) → Option Res
noncomputable def A192_1 (g : Y192_1) (d : sh192_1.den) (K : KF) : Option Res := g d.1.1 (fun (y0 : Int) => K [.lf (.int .u32 y0)] [])
noncomputable def S192_1 (F : Nat) (o : Summ) : Summ := mkS sh192_1 (fun d K => A192_1 (f192_1 F) d K) o
noncomputable def code192 : Code := bodyOf Tryz.f192
noncomputable def b192_0 : Code := cB (cB (cR (cL (cR (cR (code192))))))
theorem scopes192 : scopesOf code192 = [] := by kernel_rfl
theorem ranges192 : rangesOf code192 = [] := by kernel_rfl
theorem loops192 : loopsOf code192 = [b192_0] := by kernel_rfl
theorem enter192 : ∀ args w, (callFunc 192 args).run Tryz.prog w = .ok (.enter 192 args) w := enter_of (fn := Tryz.f192) (by kernel_rfl) (by kernel_rfl) (by kernel_rfl)
noncomputable def T192_1 (F : Nat) : FuncId → Option Summ := tab []
noncomputable def TB192_1  : FuncId → Option Summ := tab []
def sh192_1_l3 : Sh := ⟨[.lf (.int .u32), .lf (.int .i64)], []⟩
abbrev Y192_1_l3 := (Int → Option Res) → Nat → Int → Int → Option Res
noncomputable def A192_1_l3 (g : Y192_1_l3) (k : Nat) (d : sh192_1_l3.den) (K : KL) : Option Res := g (fun (y0 : Int) => K (.exit 0) [.tv (.lf (.int .u32 y0))] []) k d.1.1 d.1.2.1
noncomputable def G192_1_3 (F k : Nat) : LoopS := mkG sh192_1_l3 [3, 4] (outT [(.exit 0, [3])]) (fun d K => A192_1_l3 (f192_1_l3 F) k d K) []
noncomputable def LT192_1 (F : Nat) : Nat → Option LoopS := ltab [(3, G192_1_3 F F)]
theorem L192_1_l3g (F k : Nat)   (l3 : Y192_1_l3) (X3 : LoopS) (d : sh192_1_l3.den) (K : KL) : A192_1_l3 ((fun (K0 : (Int → Option Res)) (k : Nat) (v1 : Int) (v2 : Int) => cond (decide (v2 < 8)) (cond ((v1.tmod 2) == 1) (l3 K0 k (ixor .u32 (IntKind.u32.wrap (v1.tdiv 2)) 2197175160) (IntKind.i64.wrap (v2 + 1))) (l3 K0 k (IntKind.u32.wrap (v1.tdiv 2)) (IntKind.i64.wrap (v2 + 1)))) (K0 v1))) k d K = roundOf Tryz.prog TB192_1 (xw []) 20 0 (ltab [(3, X3)]) (mkG sh192_1_l3 [3, 4] (outT [(.exit 0, [3])]) (fun d K => A192_1_l3 l3 k d K) []) b192_0 (encT sh192_1_l3.vs d.1) (encH sh192_1_l3.h d.2) K := by kernel_rfl
theorem L192_1_3 (F : Nat) : LoopOK Tryz.prog (T192_1 F) (xw []) 20 0 (LT192_1 F) (G192_1_3 F F) b192_0 :=
  loopOK_of (s := sh192_1_l3) (live := [3, 4]) (out := (outT [(.exit 0, [3])])) (mv := []) (fun k d K => A192_1_l3 (f192_1_l3 F) k d K) F (fun d K => by kernel_rfl)  (fun k d K => Eq.mp (by kernel_rfl) (L192_1_l3g F k   (f192_1_l3 F) (G192_1_3 F F) d K))
theorem E192_1g (F : Nat)  (l3 : Y192_1_l3)  (d : sh192_1.den) (K : KF) : evBody Tryz.prog TB192_1 (xw []) 20 0 (ltab [(3, mkG sh192_1_l3 [3, 4] (outT [(.exit 0, [3])]) (fun d K => A192_1_l3 l3 F d K) [])]) [] code192 Tryz.f192.results.toList (encT sh192_1.vs d.1) (encH sh192_1.h d.2) K = A192_1 (fun (a1 : Int) (K0 : (Int → Option Res)) => l3  (fun x3 => K0 x3) F (IntKind.u32.wrap a1) 0) d K := by kernel_rfl
theorem E192_1 (F : Nat) (d : sh192_1.den) (K : KF) : evBody Tryz.prog (T192_1 F) (xw []) 20 0 (LT192_1 F) [] code192 Tryz.f192.results.toList (encT sh192_1.vs d.1) (encH sh192_1.h d.2) K = A192_1 (f192_1 F) d K := Eq.mp (by kernel_rfl) (E192_1g F  (f192_1_l3 F)  d K)
theorem S192_1_ok (F : Nat) (o : Summ) (ho : SoundFn Tryz.prog 192 o) : SoundFn Tryz.prog 192 (S192_1 F o) :=
  soundFn_of (fn := Tryz.f192) (c := code192) rfl rfl (by kernel_rfl) tab_nil (by kernel_rfl) (by kernel_rfl) ho (by rw [loops192]; exact (loopsOK_cons (by kernel_rfl) (L192_1_3 F) loopsOK_nil)) (by rw [scopes192]; exact scopesOK_nil) (by rw [ranges192]; exact rangesOK_nil) (E192_1 F)
end Go.Proofs.YtlgopekjjkdkiaaGreatDoor.X
end

section
namespace Go.Proofs.YtlgopekjjkdkiaaGreatDoor.X
open Go Go.Proofs.YtlgopekjjkdkiaaGreatDoor.Ev Go.Proofs
set_option linter.unusedVariables false
set_option linter.unusedSectionVars false
/-! pentimentoref02.Add -/
noncomputable def f154_1_l3 {β : Type} (F : Nat) (v3 : List Int) (K0 : Int → Option β) : Nat → Int → Int → Option β
  | 0, _, _ => none
  | k + 1, v1, v2 => cond (decide (v2 < ((v3.length : Nat) : Int))) (cond (decide ((0 : Int) ≤ v2 ∧ v2 < ((v3.length : Nat) : Int))) (cond (decide (0 + v2.toNat < v3.length)) (f192_1 F (ixor .u8 (IntKind.u8.wrap v1) (v3.getD (0 + v2.toNat) 0)) (fun x4 => f154_1_l3 F v3 K0 k (ixor .u32 (IntKind.u32.wrap (v1.tdiv 256)) x4) (IntKind.i64.wrap (v2 + 1))) ) none) none) (K0 v1)
noncomputable def f154_1 {β : Type} (F : Nat) (a1 : Int) (a2 : List Int) (K0 : Int → Option β) : Option β := f154_1_l3 F a2 (fun x5 => K0 (ixor .u32 4294967295 x5)) F (ixor .u32 4294967295 a1) 0
variable [FZ]
def sh154_1 : Sh := ⟨[.lf (.int .u32), .lf (.full 0)], [some ⟨none, [.seq (.int .u8) 0]⟩]⟩
abbrev Y154_1 := Int → List Int → (Int → Option Res) → Option Res
noncomputable def A154_1 (g : Y154_1) (d : sh154_1.den) (K : KF) : Option Res := g d.1.1 d.2.1.2.1 (fun (y0 : Int) => K [.lf (.int .u32 y0)] [some ⟨d.2.1.1, [.seq (.int .u8) 0 d.2.1.2.1]⟩])
noncomputable def S154_1 (F : Nat) (o : Summ) : Summ := mkS sh154_1 (fun d K => A154_1 (f154_1 F) d K) o
noncomputable def code154 : Code := bodyOf Tryz.f154
noncomputable def b154_0 : Code := cB (cB (cR (cL (cR (cR (code154))))))
theorem scopes154 : scopesOf code154 = [] := by kernel_rfl
theorem ranges154 : rangesOf code154 = [] := by kernel_rfl
theorem loops154 : loopsOf code154 = [b154_0] := by kernel_rfl
theorem enter154 : ∀ args w, (callFunc 154 args).run Tryz.prog w = .ok (.enter 154 args) w := enter_of (fn := Tryz.f154) (by kernel_rfl) (by kernel_rfl) (by kernel_rfl)
noncomputable def T154_1 (F : Nat) : FuncId → Option Summ := tab [(192, (S192_1 F noS))]
noncomputable def TB154_1 (c192_1 : Y192_1) : FuncId → Option Summ := tab [(192, (mkS sh192_1 (fun d K => A192_1 c192_1 d K) noS))]
def sh154_1_l3 : Sh := ⟨[.lf (.full 0), .lf (.int .u32), .lf (.int .i64)], [some ⟨none, [.seq (.int .u8) 0]⟩]⟩
abbrev Y154_1_l3 := List Int → (Int → Option Res) → Nat → Int → Int → Option Res
noncomputable def A154_1_l3 (g : Y154_1_l3) (k : Nat) (d : sh154_1_l3.den) (K : KL) : Option Res := g d.2.1.2.1 (fun (y0 : Int) => K (.exit 0) [.tv (.lf (.int .u32 y0))] [some ⟨d.2.1.1, [.seq (.int .u8) 0 d.2.1.2.1]⟩]) k d.1.2.1 d.1.2.2.1
noncomputable def G154_1_3 (F k : Nat) : LoopS := mkG sh154_1_l3 [1, 5, 6] (outT [(.exit 0, [5])]) (fun d K => A154_1_l3 (f154_1_l3 F) k d K) []
noncomputable def LT154_1 (F : Nat) : Nat → Option LoopS := ltab [(3, G154_1_3 F F)]
theorem L154_1_l3g (F k : Nat) (c192_1 : Y192_1)  (l3 : Y154_1_l3) (X3 : LoopS) (d : sh154_1_l3.den) (K : KL) : A154_1_l3 ((fun (v3 : List Int) (K0 : (Int → Option Res)) (k : Nat) (v1 : Int) (v2 : Int) => cond (decide (v2 < ((v3.length : Nat) : Int))) (cond (decide ((0 : Int) ≤ v2 ∧ v2 < ((v3.length : Nat) : Int))) (cond (decide (0 + v2.toNat < v3.length)) (c192_1 (ixor .u8 (IntKind.u8.wrap v1) (v3.getD (0 + v2.toNat) 0)) (fun x4 => l3 v3 K0 k (ixor .u32 (IntKind.u32.wrap (v1.tdiv 256)) x4) (IntKind.i64.wrap (v2 + 1))) ) none) none) (K0 v1))) k d K = roundOf Tryz.prog (TB154_1 c192_1) (xw []) 28 1 (ltab [(3, X3)]) (mkG sh154_1_l3 [1, 5, 6] (outT [(.exit 0, [5])]) (fun d K => A154_1_l3 l3 k d K) []) b154_0 (encT sh154_1_l3.vs d.1) (encH sh154_1_l3.h d.2) K := by kernel_rfl
theorem L154_1_3 (F : Nat) : LoopOK Tryz.prog (T154_1 F) (xw []) 28 1 (LT154_1 F) (G154_1_3 F F) b154_0 :=
  loopOK_of (s := sh154_1_l3) (live := [1, 5, 6]) (out := (outT [(.exit 0, [5])])) (mv := []) (fun k d K => A154_1_l3 (f154_1_l3 F) k d K) F (fun d K => by kernel_rfl)  (fun k d K => Eq.mp (by kernel_rfl) (L154_1_l3g F k (f192_1 F)  (f154_1_l3 F) (G154_1_3 F F) d K))
theorem E154_1g (F : Nat) (c192_1 : Y192_1) (l3 : Y154_1_l3)  (d : sh154_1.den) (K : KF) : evBody Tryz.prog (TB154_1 c192_1) (xw []) 28 1 (ltab [(3, mkG sh154_1_l3 [1, 5, 6] (outT [(.exit 0, [5])]) (fun d K => A154_1_l3 l3 F d K) [])]) [] code154 Tryz.f154.results.toList (encT sh154_1.vs d.1) (encH sh154_1.h d.2) K = A154_1 (fun (a1 : Int) (a2 : List Int) (K0 : (Int → Option Res)) => l3 a2 (fun x5 => K0 (ixor .u32 4294967295 x5)) F (ixor .u32 4294967295 a1) 0) d K := by kernel_rfl
theorem E154_1 (F : Nat) (d : sh154_1.den) (K : KF) : evBody Tryz.prog (T154_1 F) (xw []) 28 1 (LT154_1 F) [] code154 Tryz.f154.results.toList (encT sh154_1.vs d.1) (encH sh154_1.h d.2) K = A154_1 (f154_1 F) d K := Eq.mp (by kernel_rfl) (E154_1g F (f192_1 F) (f154_1_l3 F)  d K)
theorem S154_1_ok (F : Nat) (o : Summ) (ho : SoundFn Tryz.prog 154 o) : SoundFn Tryz.prog 154 (S154_1 F o) :=
  soundFn_of (fn := Tryz.f154) (c := code154) rfl rfl (by kernel_rfl) (tab_cons (S192_1_ok F _ (noS_sound enter192)) tab_nil) (by kernel_rfl) (by kernel_rfl) ho (by rw [loops154]; exact (loopsOK_cons (by kernel_rfl) (L154_1_3 F) loopsOK_nil)) (by rw [scopes154]; exact scopesOK_nil) (by rw [ranges154]; exact rangesOK_nil) (E154_1 F)
end Go.Proofs.YtlgopekjjkdkiaaGreatDoor.X
end

section
namespace Go.Proofs.YtlgopekjjkdkiaaGreatDoor.X
open Go Go.Proofs.YtlgopekjjkdkiaaGreatDoor.Ev Go.Proofs
set_option linter.unusedVariables false
set_option linter.unusedSectionVars false
/-! pentimentoref02.Sum -/
noncomputable def f102_1 {β : Type} (F : Nat) (a1 : List Int) (K0 : Int → Option β) : Option β := f154_1 F 0 a1 (fun x1 => K0 x1) 
variable [FZ]
def sh102_1 : Sh := ⟨[.lf (.full 0)], [some ⟨none, [.seq (.int .u8) 0]⟩]⟩
abbrev Y102_1 := List Int → (Int → Option Res) → Option Res
noncomputable def A102_1 (g : Y102_1) (d : sh102_1.den) (K : KF) : Option Res := g d.2.1.2.1 (fun (y0 : Int) => K [.lf (.int .u32 y0)] [some ⟨d.2.1.1, [.seq (.int .u8) 0 d.2.1.2.1]⟩])
noncomputable def S102_1 (F : Nat) (o : Summ) : Summ := mkS sh102_1 (fun d K => A102_1 (f102_1 F) d K) o
noncomputable def code102 : Code := bodyOf Tryz.f102
theorem scopes102 : scopesOf code102 = [] := by kernel_rfl
theorem ranges102 : rangesOf code102 = [] := by kernel_rfl
theorem loops102 : loopsOf code102 = [] := by kernel_rfl
theorem enter102 : ∀ args w, (callFunc 102 args).run Tryz.prog w = .ok (.enter 102 args) w := enter_of (fn := Tryz.f102) (by kernel_rfl) (by kernel_rfl) (by kernel_rfl)
noncomputable def T102_1 (F : Nat) : FuncId → Option Summ := tab [(154, (S154_1 F noS))]
noncomputable def TB102_1 (c154_1 : Y154_1) : FuncId → Option Summ := tab [(154, (mkS sh154_1 (fun d K => A154_1 c154_1 d K) noS))]
noncomputable def LT102_1 (F : Nat) : Nat → Option LoopS := ltab []
theorem E102_1g (F : Nat) (c154_1 : Y154_1)   (d : sh102_1.den) (K : KF) : evBody Tryz.prog (TB102_1 c154_1) (xw []) 5 1 (ltab []) [] code102 Tryz.f102.results.toList (encT sh102_1.vs d.1) (encH sh102_1.h d.2) K = A102_1 (fun (a1 : List Int) (K0 : (Int → Option Res)) => c154_1 0 a1 (fun x1 => K0 x1) ) d K := by kernel_rfl
theorem E102_1 (F : Nat) (d : sh102_1.den) (K : KF) : evBody Tryz.prog (T102_1 F) (xw []) 5 1 (LT102_1 F) [] code102 Tryz.f102.results.toList (encT sh102_1.vs d.1) (encH sh102_1.h d.2) K = A102_1 (f102_1 F) d K := Eq.mp (by kernel_rfl) (E102_1g F (f154_1 F)   d K)
theorem S102_1_ok (F : Nat) (o : Summ) (ho : SoundFn Tryz.prog 102 o) : SoundFn Tryz.prog 102 (S102_1 F o) :=
  soundFn_of (fn := Tryz.f102) (c := code102) rfl rfl (by kernel_rfl) (tab_cons (S154_1_ok F _ (noS_sound enter154)) tab_nil) (by kernel_rfl) (by kernel_rfl) ho (by rw [loops102]; exact loopsOK_nil) (by rw [scopes102]; exact scopesOK_nil) (by rw [ranges102]; exact rangesOK_nil) (E102_1 F)
end Go.Proofs.YtlgopekjjkdkiaaGreatDoor.X
end

section
namespace Go.Proofs.YtlgopekjjkdkiaaGreatDoor.X
open Go Go.Proofs.YtlgopekjjkdkiaaGreatDoor.Ev Go.Proofs
set_option linter.unusedVariables false
set_option linter.unusedSectionVars false
/-! pentimentoref08.Make -/
noncomputable def f100_1 {β : Type} (F : Nat) (a1 : Int) (a2 : ByteArray) (K0 : ByteArray → Int → Option β) : Option β := cond (decide (a1 < 1)) (K0 ByteArray.empty 22) (cond (decide (a1 > 8)) (K0 ByteArray.empty 22) (cond (decide ((a2.size : Int) > 58)) (K0 ByteArray.empty 8) (f101_1 F 1 (IntKind.u64.wrap a1) (fun x1 => f101_1 F 1 (IntKind.u64.wrap (a2.size : Int)) (fun x2 => cond (decide (x1.size + x2.size ≤ 4611686018427387904)) (cond (decide ((x1 ++ x2).size + a2.size ≤ 4611686018427387904)) (f54_1 F  (fun x3 => cond (decide ((0 : Int) ≤ (((x1 ++ x2) ++ a2).size : Int) ∧ (((x1 ++ x2) ++ a2).size : Int) ≤ (60 : Int) ∧ (60 : Int) ≤ (x3.size : Int))) (cond (decide (((x1 ++ x2) ++ a2).size + (x3.extract ((((x1 ++ x2) ++ a2).size : Int).toNat) 60).size ≤ 4611686018427387904)) (f102_1 F (toInts (((x1 ++ x2) ++ a2) ++ (x3.extract ((((x1 ++ x2) ++ a2).size : Int).toNat) 60))) (fun x4 => f101_1 F 4 (IntKind.u64.wrap x4) (fun x5 => cond (decide ((((x1 ++ x2) ++ a2) ++ (x3.extract ((((x1 ++ x2) ++ a2).size : Int).toNat) 60)).size + x5.size ≤ 4611686018427387904)) (K0 ((((x1 ++ x2) ++ a2) ++ (x3.extract ((((x1 ++ x2) ++ a2).size : Int).toNat) 60)) ++ x5) 0) none) ) ) none) none) ) none) none) ) )))
variable [FZ]
def sh100_1 : Sh := ⟨[.lf (.int .i64), .lf (.str)], []⟩
abbrev Y100_1 := Int → ByteArray → (ByteArray → Int → Option Res) → Option Res
noncomputable def A100_1 (g : Y100_1) (d : sh100_1.den) (K : KF) : Option Res := g d.1.1 d.1.2.1 (fun (y0 : ByteArray) (y1 : Int) => K [.lf (.str y0), .lf (.int .i64 y1)] [])
noncomputable def S100_1 (F : Nat) (o : Summ) : Summ := mkS sh100_1 (fun d K => A100_1 (f100_1 F) d K) o
noncomputable def code100 : Code := bodyOf Tryz.f100
theorem scopes100 : scopesOf code100 = [] := by kernel_rfl
theorem ranges100 : rangesOf code100 = [] := by kernel_rfl
theorem loops100 : loopsOf code100 = [] := by kernel_rfl
theorem enter100 : ∀ args w, (callFunc 100 args).run Tryz.prog w = .ok (.enter 100 args) w := enter_of (fn := Tryz.f100) (by kernel_rfl) (by kernel_rfl) (by kernel_rfl)
noncomputable def T100_1 (F : Nat) : FuncId → Option Summ := tab [(54, (S54_1 F noS)), (101, (S101_1 F noS)), (102, (S102_1 F noS))]
noncomputable def TB100_1 (c54_1 : Y54_1) (c101_1 : Y101_1) (c102_1 : Y102_1) : FuncId → Option Summ := tab [(54, (mkS sh54_1 (fun d K => A54_1 c54_1 d K) noS)), (101, (mkS sh101_1 (fun d K => A101_1 c101_1 d K) noS)), (102, (mkS sh102_1 (fun d K => A102_1 c102_1 d K) noS))]
noncomputable def LT100_1 (F : Nat) : Nat → Option LoopS := ltab []
theorem E100_1g (F : Nat) (c54_1 : Y54_1) (c101_1 : Y101_1) (c102_1 : Y102_1)   (d : sh100_1.den) (K : KF) : evBody Tryz.prog (TB100_1 c54_1 c101_1 c102_1) (xw []) 41 0 (ltab []) [] code100 Tryz.f100.results.toList (encT sh100_1.vs d.1) (encH sh100_1.h d.2) K = A100_1 (fun (a1 : Int) (a2 : ByteArray) (K0 : (ByteArray → Int → Option Res)) => cond (decide (a1 < 1)) (K0 ByteArray.empty 22) (cond (decide (a1 > 8)) (K0 ByteArray.empty 22) (cond (decide ((a2.size : Int) > 58)) (K0 ByteArray.empty 8) (c101_1 1 (IntKind.u64.wrap a1) (fun x1 => c101_1 1 (IntKind.u64.wrap (a2.size : Int)) (fun x2 => cond (decide (x1.size + x2.size ≤ 4611686018427387904)) (cond (decide ((x1 ++ x2).size + a2.size ≤ 4611686018427387904)) (c54_1  (fun x3 => cond (decide ((0 : Int) ≤ (((x1 ++ x2) ++ a2).size : Int) ∧ (((x1 ++ x2) ++ a2).size : Int) ≤ (60 : Int) ∧ (60 : Int) ≤ (x3.size : Int))) (cond (decide (((x1 ++ x2) ++ a2).size + (x3.extract ((((x1 ++ x2) ++ a2).size : Int).toNat) 60).size ≤ 4611686018427387904)) (c102_1 (toInts (((x1 ++ x2) ++ a2) ++ (x3.extract ((((x1 ++ x2) ++ a2).size : Int).toNat) 60))) (fun x4 => c101_1 4 (IntKind.u64.wrap x4) (fun x5 => cond (decide ((((x1 ++ x2) ++ a2) ++ (x3.extract ((((x1 ++ x2) ++ a2).size : Int).toNat) 60)).size + x5.size ≤ 4611686018427387904)) (K0 ((((x1 ++ x2) ++ a2) ++ (x3.extract ((((x1 ++ x2) ++ a2).size : Int).toNat) 60)) ++ x5) 0) none) ) ) none) none) ) none) none) ) )))) d K := by kernel_rfl
theorem E100_1 (F : Nat) (d : sh100_1.den) (K : KF) : evBody Tryz.prog (T100_1 F) (xw []) 41 0 (LT100_1 F) [] code100 Tryz.f100.results.toList (encT sh100_1.vs d.1) (encH sh100_1.h d.2) K = A100_1 (f100_1 F) d K := Eq.mp (by kernel_rfl) (E100_1g F (f54_1 F) (f101_1 F) (f102_1 F)   d K)
theorem S100_1_ok (F : Nat) (o : Summ) (ho : SoundFn Tryz.prog 100 o) : SoundFn Tryz.prog 100 (S100_1 F o) :=
  soundFn_of (fn := Tryz.f100) (c := code100) rfl rfl (by kernel_rfl) (tab_cons (S54_1_ok F _ (noS_sound enter54)) (tab_cons (S101_1_ok F _ (noS_sound enter101)) (tab_cons (S102_1_ok F _ (noS_sound enter102)) tab_nil))) (by kernel_rfl) (by kernel_rfl) ho (by rw [loops100]; exact loopsOK_nil) (by rw [scopes100]; exact scopesOK_nil) (by rw [ranges100]; exact rangesOK_nil) (E100_1 F)
end Go.Proofs.YtlgopekjjkdkiaaGreatDoor.X
end

section
namespace Go.Proofs.YtlgopekjjkdkiaaGreatDoor.X
open Go Go.Proofs.YtlgopekjjkdkiaaGreatDoor.Ev Go.Proofs
set_option linter.unusedVariables false
set_option linter.unusedSectionVars false
/-! pentimentoref15.Head -/
noncomputable def f38_1 {β : Type} (F : Nat) (a1 : Int) (a2 : ByteArray) (a3 : Int) (a4 : Int) (a5 : ByteArray) (K0 : ByteArray → Option β) : Option β := f101_1 F 4 (IntKind.u64.wrap a3) (fun x1 => cond (decide (a2.size + x1.size ≤ 4611686018427387904)) (f101_1 F 4 (IntKind.u64.wrap a4) (fun x2 => cond (decide ((a2 ++ x1).size + x2.size ≤ 4611686018427387904)) (f102_1 F (toInts a5) (fun x3 => f101_1 F 4 (IntKind.u64.wrap x3) (fun x4 => cond (decide (((a2 ++ x1) ++ x2).size + x4.size ≤ 4611686018427387904)) (f100_1 F a1 (((a2 ++ x1) ++ x2) ++ x4) (fun x5 x6 => K0 x5) ) none) ) ) none) ) none) 
variable [FZ]
def sh38_1 : Sh := ⟨[.lf (.int .i64), .lf (.str), .lf (.int .i64), .lf (.int .i64), .lf (.str)], []⟩
abbrev Y38_1 := Int → ByteArray → Int → Int → ByteArray → (ByteArray → Option Res) → Option Res
noncomputable def A38_1 (g : Y38_1) (d : sh38_1.den) (K : KF) : Option Res := g d.1.1 d.1.2.1 d.1.2.2.1 d.1.2.2.2.1 d.1.2.2.2.2.1 (fun (y0 : ByteArray) => K [.lf (.str y0)] [])
noncomputable def S38_1 (F : Nat) (o : Summ) : Summ := mkS sh38_1 (fun d K => A38_1 (f38_1 F) d K) o
noncomputable def code38 : Code := bodyOf Tryz.f38
theorem scopes38 : scopesOf code38 = [] := by kernel_rfl
theorem ranges38 : rangesOf code38 = [] := by kernel_rfl
theorem loops38 : loopsOf code38 = [] := by kernel_rfl
theorem enter38 : ∀ args w, (callFunc 38 args).run Tryz.prog w = .ok (.enter 38 args) w := enter_of (fn := Tryz.f38) (by kernel_rfl) (by kernel_rfl) (by kernel_rfl)
noncomputable def T38_1 (F : Nat) : FuncId → Option Summ := tab [(100, (S100_1 F noS)), (101, (S101_1 F noS)), (102, (S102_1 F noS))]
noncomputable def TB38_1 (c100_1 : Y100_1) (c101_1 : Y101_1) (c102_1 : Y102_1) : FuncId → Option Summ := tab [(100, (mkS sh100_1 (fun d K => A100_1 c100_1 d K) noS)), (101, (mkS sh101_1 (fun d K => A101_1 c101_1 d K) noS)), (102, (mkS sh102_1 (fun d K => A102_1 c102_1 d K) noS))]
noncomputable def LT38_1 (F : Nat) : Nat → Option LoopS := ltab []
theorem E38_1g (F : Nat) (c100_1 : Y100_1) (c101_1 : Y101_1) (c102_1 : Y102_1)   (d : sh38_1.den) (K : KF) : evBody Tryz.prog (TB38_1 c100_1 c101_1 c102_1) (xw []) 34 0 (ltab []) [] code38 Tryz.f38.results.toList (encT sh38_1.vs d.1) (encH sh38_1.h d.2) K = A38_1 (fun (a1 : Int) (a2 : ByteArray) (a3 : Int) (a4 : Int) (a5 : ByteArray) (K0 : (ByteArray → Option Res)) => c101_1 4 (IntKind.u64.wrap a3) (fun x1 => cond (decide (a2.size + x1.size ≤ 4611686018427387904)) (c101_1 4 (IntKind.u64.wrap a4) (fun x2 => cond (decide ((a2 ++ x1).size + x2.size ≤ 4611686018427387904)) (c102_1 (toInts a5) (fun x3 => c101_1 4 (IntKind.u64.wrap x3) (fun x4 => cond (decide (((a2 ++ x1) ++ x2).size + x4.size ≤ 4611686018427387904)) (c100_1 a1 (((a2 ++ x1) ++ x2) ++ x4) (fun x5 x6 => K0 x5) ) none) ) ) none) ) none) ) d K := by kernel_rfl
theorem E38_1 (F : Nat) (d : sh38_1.den) (K : KF) : evBody Tryz.prog (T38_1 F) (xw []) 34 0 (LT38_1 F) [] code38 Tryz.f38.results.toList (encT sh38_1.vs d.1) (encH sh38_1.h d.2) K = A38_1 (f38_1 F) d K := Eq.mp (by kernel_rfl) (E38_1g F (f100_1 F) (f101_1 F) (f102_1 F)   d K)
theorem S38_1_ok (F : Nat) (o : Summ) (ho : SoundFn Tryz.prog 38 o) : SoundFn Tryz.prog 38 (S38_1 F o) :=
  soundFn_of (fn := Tryz.f38) (c := code38) rfl rfl (by kernel_rfl) (tab_cons (S100_1_ok F _ (noS_sound enter100)) (tab_cons (S101_1_ok F _ (noS_sound enter101)) (tab_cons (S102_1_ok F _ (noS_sound enter102)) tab_nil))) (by kernel_rfl) (by kernel_rfl) ho (by rw [loops38]; exact loopsOK_nil) (by rw [scopes38]; exact scopesOK_nil) (by rw [ranges38]; exact rangesOK_nil) (E38_1 F)
end Go.Proofs.YtlgopekjjkdkiaaGreatDoor.X
end

section
namespace Go.Proofs.YtlgopekjjkdkiaaGreatDoor.X
open Go Go.Proofs.YtlgopekjjkdkiaaGreatDoor.Ev Go.Proofs
set_option linter.unusedVariables false
set_option linter.unusedSectionVars false
/-! pentimentoref17.Append -/
noncomputable def f70_1 {β : Type} (F : Nat) (a1 : Int) (a2 : Int) (a3 : Int) (a4 : Int) (a5 : Int) (a6 : Int) (a7 : Int) (a8 : Int) (a9 : Bool) (a10 : Int) (a11 : List ByteArray) (a12 : List (Int × ByteArray)) (K0 : Int → Int → ByteArray → Int → Int → Bool → Int → List ByteArray → List (Int × ByteArray) → Option β) : Option β := f21_1 F a1 a2 a3 a4 (fun x1 => cond (!x1) (K0 0 0 ByteArray.empty 12 a8 a9 a10 a11 a12) (cond (decide (a5 < 0)) (K0 0 0 ByteArray.empty 11 a8 a9 a10 a11 a12) (cond (decide (a5 ≥ a3)) (K0 0 0 ByteArray.empty 11 a8 a9 a10 a11 a12) (cond (decide (a7 < 0)) (K0 0 0 ByteArray.empty 3 a8 a9 a10 a11 a12) (cond (decide (a7 ≥ a1)) (K0 0 0 ByteArray.empty 3 a8 a9 a10 a11 a12) (f25_1 F a1 a2 a3 a4 a7 (fun x2 => f124_1 F x2 a8 a9 a10 a11 a12 (fun x3 x4 => cond (x4 != 0) (K0 0 0 ByteArray.empty x4 a8 a9 a10 a11 a12) (amb (f101_1 F 8 a6 (fun x5 => f38_1 F 8 x5 a5 a7 x3 (fun x6 => f137_1 F a1 a2 a3 a4 0 a5 x6 x3 a8 a9 a10 a11 a12 (fun x7 x8 x9 x10 x11 x12 => cond (x7 != 0) (K0 0 0 ByteArray.empty x7 x8 x9 x10 x11 x12) (K0 a6 a7 x3 0 x8 x9 x10 x11 x12)) ) ) ) (f101_1 F 8 a6 (fun x13 => (fun z1 => amb z1 z1) (f38_1 F 8 x13 a5 a7 x3 (fun x14 => f137_1 F a1 a2 a3 a4 0 a5 x14 x3 a8 a9 a10 a11 a12 (fun x15 x16 x17 x18 x19 x20 => cond (x15 != 0) (K0 0 0 ByteArray.empty x15 x16 x17 x18 x19 x20) (K0 a6 a7 x3 0 x16 x17 x18 x19 x20)) ) )) ))) ) )))))) 
variable [FZ]
def sh70_1 : Sh := ⟨[.lf (.ptr 0 0), .agg [.int .i64, .int .i64, .int .i64, .int .i64], .lf (.int .i64), .lf (.int .u64), .lf (.int .i64)], [some ⟨some false, [.full 1, .full 2, .int .i64, .bool, .int .i64]⟩, some ⟨some false, [.seq .str 0]⟩, some ⟨some false, [.seq (.pair (.int .i64) .str) 0]⟩]⟩
abbrev Y70_1 := Int → Int → Int → Int → Int → Int → Int → Int → Bool → Int → List ByteArray → List (Int × ByteArray) → (Int → Int → ByteArray → Int → Int → Bool → Int → List ByteArray → List (Int × ByteArray) → Option Res) → Option Res
noncomputable def A70_1 (g : Y70_1) (d : sh70_1.den) (K : KF) : Option Res := g d.1.2.1.1 d.1.2.1.2.1 d.1.2.1.2.2.1 d.1.2.1.2.2.2.1 d.1.2.2.1 d.1.2.2.2.1 d.1.2.2.2.2.1 d.2.1.2.2.2.1 d.2.1.2.2.2.2.1 d.2.1.2.2.2.2.2.1 d.2.2.1.2.1 d.2.2.2.1.2.1 (fun (y1 : Int) (y2 : Int) (y3 : ByteArray) (y4 : Int) (y5 : Int) (y6 : Bool) (y7 : Int) (y8 : List ByteArray) (y9 : List (Int × ByteArray)) => K [.agg [.int .u64 0, .int .u64 y1, .int .i64 y2, .str y3], .lf (.int .i64 y4)] [some ⟨false, [.full 1, .full 3, .int .i64 y5, .bool y6, .int .i64 y7]⟩, some ⟨false, [.seq .str 0 y8]⟩, none, some ⟨false, [.seq (.pair (.int .i64) .str) 0 y9]⟩])
noncomputable def S70_1 (F : Nat) (o : Summ) : Summ := mkS sh70_1 (fun d K => A70_1 (f70_1 F) d K) o
noncomputable def code70 : Code := bodyOf Tryz.f70
theorem scopes70 : scopesOf code70 = [] := by kernel_rfl
theorem ranges70 : rangesOf code70 = [] := by kernel_rfl
theorem loops70 : loopsOf code70 = [] := by kernel_rfl
theorem enter70 : ∀ args w, (callFunc 70 args).run Tryz.prog w = .ok (.enter 70 args) w := enter_of (fn := Tryz.f70) (by kernel_rfl) (by kernel_rfl) (by kernel_rfl)
noncomputable def T70_1 (F : Nat) : FuncId → Option Summ := tab [(21, (S21_1 F noS)), (25, (S25_1 F noS)), (38, (S38_1 F noS)), (101, (S101_1 F noS)), (124, (S124_1 F noS)), (137, (S137_1 F noS))]
noncomputable def TB70_1 (c21_1 : Y21_1) (c25_1 : Y25_1) (c38_1 : Y38_1) (c101_1 : Y101_1) (c124_1 : Y124_1) (c137_1 : Y137_1) : FuncId → Option Summ := tab [(21, (mkS sh21_1 (fun d K => A21_1 c21_1 d K) noS)), (25, (mkS sh25_1 (fun d K => A25_1 c25_1 d K) noS)), (38, (mkS sh38_1 (fun d K => A38_1 c38_1 d K) noS)), (101, (mkS sh101_1 (fun d K => A101_1 c101_1 d K) noS)), (124, (mkS sh124_1 (fun d K => A124_1 c124_1 d K) noS)), (137, (mkS sh137_1 (fun d K => A137_1 c137_1 d K) noS))]
noncomputable def LT70_1 (F : Nat) : Nat → Option LoopS := ltab []
theorem E70_1g (F : Nat) (c21_1 : Y21_1) (c25_1 : Y25_1) (c38_1 : Y38_1) (c101_1 : Y101_1) (c124_1 : Y124_1) (c137_1 : Y137_1)   (d : sh70_1.den) (K : KF) : evBody Tryz.prog (TB70_1 c21_1 c25_1 c38_1 c101_1 c124_1 c137_1) (xw [10]) 67 3 (ltab []) [2] code70 Tryz.f70.results.toList (encT sh70_1.vs d.1) (encH sh70_1.h d.2) K = A70_1 (fun (a1 : Int) (a2 : Int) (a3 : Int) (a4 : Int) (a5 : Int) (a6 : Int) (a7 : Int) (a8 : Int) (a9 : Bool) (a10 : Int) (a11 : List ByteArray) (a12 : List (Int × ByteArray)) (K0 : (Int → Int → ByteArray → Int → Int → Bool → Int → List ByteArray → List (Int × ByteArray) → Option Res)) => c21_1 a1 a2 a3 a4 (fun x1 => cond (!x1) (K0 0 0 ByteArray.empty 12 a8 a9 a10 a11 a12) (cond (decide (a5 < 0)) (K0 0 0 ByteArray.empty 11 a8 a9 a10 a11 a12) (cond (decide (a5 ≥ a3)) (K0 0 0 ByteArray.empty 11 a8 a9 a10 a11 a12) (cond (decide (a7 < 0)) (K0 0 0 ByteArray.empty 3 a8 a9 a10 a11 a12) (cond (decide (a7 ≥ a1)) (K0 0 0 ByteArray.empty 3 a8 a9 a10 a11 a12) (c25_1 a1 a2 a3 a4 a7 (fun x2 => c124_1 x2 a8 a9 a10 a11 a12 (fun x3 x4 => cond (x4 != 0) (K0 0 0 ByteArray.empty x4 a8 a9 a10 a11 a12) (amb (c101_1 8 a6 (fun x5 => c38_1 8 x5 a5 a7 x3 (fun x6 => c137_1 a1 a2 a3 a4 0 a5 x6 x3 a8 a9 a10 a11 a12 (fun x7 x8 x9 x10 x11 x12 => cond (x7 != 0) (K0 0 0 ByteArray.empty x7 x8 x9 x10 x11 x12) (K0 a6 a7 x3 0 x8 x9 x10 x11 x12)) ) ) ) (c101_1 8 a6 (fun x13 => (fun z1 => amb z1 z1) (c38_1 8 x13 a5 a7 x3 (fun x14 => c137_1 a1 a2 a3 a4 0 a5 x14 x3 a8 a9 a10 a11 a12 (fun x15 x16 x17 x18 x19 x20 => cond (x15 != 0) (K0 0 0 ByteArray.empty x15 x16 x17 x18 x19 x20) (K0 a6 a7 x3 0 x16 x17 x18 x19 x20)) ) )) ))) ) )))))) ) d K := by kernel_rfl
theorem E70_1 (F : Nat) (d : sh70_1.den) (K : KF) : evBody Tryz.prog (T70_1 F) (xw [10]) 67 3 (LT70_1 F) [2] code70 Tryz.f70.results.toList (encT sh70_1.vs d.1) (encH sh70_1.h d.2) K = A70_1 (f70_1 F) d K := Eq.mp (by kernel_rfl) (E70_1g F (f21_1 F) (f25_1 F) (f38_1 F) (f101_1 F) (f124_1 F) (f137_1 F)   d K)
theorem S70_1_ok (F : Nat) (o : Summ) (ho : SoundFn Tryz.prog 70 o) : SoundFn Tryz.prog 70 (S70_1 F o) :=
  soundFn_of (fn := Tryz.f70) (c := code70) rfl rfl (by kernel_rfl) (tab_cons (S21_1_ok F _ (noS_sound enter21)) (tab_cons (S25_1_ok F _ (noS_sound enter25)) (tab_cons (S38_1_ok F _ (noS_sound enter38)) (tab_cons (S101_1_ok F _ (noS_sound enter101)) (tab_cons (S124_1_ok F _ (noS_sound enter124)) (tab_cons (S137_1_ok F _ (noS_sound enter137)) tab_nil)))))) (by kernel_rfl) (by kernel_rfl) ho (by rw [loops70]; exact loopsOK_nil) (by rw [scopes70]; exact scopesOK_nil) (by rw [ranges70]; exact rangesOK_nil) (E70_1 F)
end Go.Proofs.YtlgopekjjkdkiaaGreatDoor.X
end

section
namespace Go.Proofs.YtlgopekjjkdkiaaGreatDoor.X
open Go Go.Proofs.YtlgopekjjkdkiaaGreatDoor.Ev Go.Proofs
set_option linter.unusedVariables false
set_option linter.unusedSectionVars false
/-! pentimentoref08.Kind -/
noncomputable def f128_1_l8 {β : Type} (F : Nat) (v4 : ByteArray) (K0 : Option β) (K1 : Option β) : Nat → Int → Option β
  | 0, _ => none
  | k + 1, v5 => cond (decide (v5 < 60)) (cond (decide ((0 : Int) ≤ v5 ∧ v5 < (v4.size : Int))) (cond (((v4.data.getD v5.toNat 0).toNat : Int) != 0) (K0) (f128_1_l8 F v4 K0 K1 k (IntKind.i64.wrap (v5 + 1)))) none) (K1)
noncomputable def f128_1 {β : Type} (F : Nat) (a1 : ByteArray) (K0 : Int → Int → Option β) : Option β := f112_1 F a1 (fun x1 => cond (!x1) (K0 0 4) (cond (decide ((0 : Int) ≤ (0 : Int) ∧ (0 : Int) ≤ (60 : Int) ∧ (60 : Int) ≤ (a1.size : Int))) (cond (decide ((0 : Int) ≤ (60 : Int) ∧ (60 : Int) ≤ (a1.size : Int) ∧ (a1.size : Int) ≤ (a1.size : Int))) (f102_1 F (toInts (a1.extract 0 60)) (fun x2 => f101_1 F 4 (IntKind.u64.wrap x2) (fun x3 => cond (!(x3.toList == (a1.extract 60 ((a1.size : Int).toNat)).toList)) (K0 0 9) (cond (decide ((0 : Int) ≤ (0 : Int) ∧ (0 : Int) < (a1.size : Int))) (cond (decide (((a1.data.getD 0 0).toNat : Int) < 1)) (K0 0 6) (cond (decide ((0 : Int) ≤ (0 : Int) ∧ (0 : Int) < (a1.size : Int))) (cond (decide (((a1.data.getD 0 0).toNat : Int) > 8)) (K0 0 6) (cond (decide ((0 : Int) ≤ (1 : Int) ∧ (1 : Int) < (a1.size : Int))) (cond (decide (((a1.data.getD 1 0).toNat : Int) > 58)) (K0 0 6) (cond (decide ((0 : Int) ≤ (1 : Int) ∧ (1 : Int) < (a1.size : Int))) (f128_1_l8 F a1 (K0 0 6) (cond (decide ((0 : Int) ≤ (0 : Int) ∧ (0 : Int) < (a1.size : Int))) (K0 (IntKind.i64.wrap ((a1.data.getD 0 0).toNat : Int)) 0) none) F (IntKind.i64.wrap (2 + (IntKind.i64.wrap ((a1.data.getD 1 0).toNat : Int))))) none)) none)) none)) none)) ) ) none) none)) 
variable [FZ]
def sh128_1 : Sh := ⟨[.lf (.str)], []⟩
abbrev Y128_1 := ByteArray → (Int → Int → Option Res) → Option Res
noncomputable def A128_1 (g : Y128_1) (d : sh128_1.den) (K : KF) : Option Res := g d.1.1 (fun (y0 : Int) (y1 : Int) => K [.lf (.int .i64 y0), .lf (.int .i64 y1)] [])
noncomputable def S128_1 (F : Nat) (o : Summ) : Summ := mkS sh128_1 (fun d K => A128_1 (f128_1 F) d K) o
noncomputable def code128 : Code := bodyOf Tryz.f128
noncomputable def b128_0 : Code := cB (cB (cR (cL (cR (cR (cR (cR (code128))))))))
theorem scopes128 : scopesOf code128 = [] := by kernel_rfl
theorem ranges128 : rangesOf code128 = [] := by kernel_rfl
theorem loops128 : loopsOf code128 = [b128_0] := by kernel_rfl
theorem enter128 : ∀ args w, (callFunc 128 args).run Tryz.prog w = .ok (.enter 128 args) w := enter_of (fn := Tryz.f128) (by kernel_rfl) (by kernel_rfl) (by kernel_rfl)
noncomputable def T128_1 (F : Nat) : FuncId → Option Summ := tab [(101, (S101_1 F noS)), (102, (S102_1 F noS)), (112, (S112_1 F noS))]
noncomputable def TB128_1 (c101_1 : Y101_1) (c102_1 : Y102_1) (c112_1 : Y112_1) : FuncId → Option Summ := tab [(101, (mkS sh101_1 (fun d K => A101_1 c101_1 d K) noS)), (102, (mkS sh102_1 (fun d K => A102_1 c102_1 d K) noS)), (112, (mkS sh112_1 (fun d K => A112_1 c112_1 d K) noS))]
def sh128_1_l8 : Sh := ⟨[.lf (.str), .lf (.int .i64)], []⟩
abbrev Y128_1_l8 := ByteArray → (Option Res) → (Option Res) → Nat → Int → Option Res
noncomputable def A128_1_l8 (g : Y128_1_l8) (k : Nat) (d : sh128_1_l8.den) (K : KL) : Option Res := g d.1.1 (K .ret [.tv (.lf (.int .i64 0)), .tv (.lf (.int .i64 6))] []) (K (.exit 0) [.tv (.lf (.str d.1.1))] []) k d.1.2.1
noncomputable def G128_1_8 (F k : Nat) : LoopS := mkG sh128_1_l8 [0, 4] (outT [(.exit 0, [0]), (.ret, [2, 3])]) (fun d K => A128_1_l8 (f128_1_l8 F) k d K) []
noncomputable def LT128_1 (F : Nat) : Nat → Option LoopS := ltab [(8, G128_1_8 F F)]
theorem L128_1_l8g (F k : Nat) (c101_1 : Y101_1) (c102_1 : Y102_1) (c112_1 : Y112_1)  (l8 : Y128_1_l8) (X8 : LoopS) (d : sh128_1_l8.den) (K : KL) : A128_1_l8 ((fun (v4 : ByteArray) (K0 : (Option Res)) (K1 : (Option Res)) (k : Nat) (v5 : Int) => cond (decide (v5 < 60)) (cond (decide ((0 : Int) ≤ v5 ∧ v5 < (v4.size : Int))) (cond (((v4.data.getD v5.toNat 0).toNat : Int) != 0) (K0) (l8 v4 K0 K1 k (IntKind.i64.wrap (v5 + 1)))) none) (K1))) k d K = roundOf Tryz.prog (TB128_1 c101_1 c102_1 c112_1) (xw []) 45 0 (ltab [(8, X8)]) (mkG sh128_1_l8 [0, 4] (outT [(.exit 0, [0]), (.ret, [2, 3])]) (fun d K => A128_1_l8 l8 k d K) []) b128_0 (encT sh128_1_l8.vs d.1) (encH sh128_1_l8.h d.2) K := by kernel_rfl
theorem L128_1_8 (F : Nat) : LoopOK Tryz.prog (T128_1 F) (xw []) 45 0 (LT128_1 F) (G128_1_8 F F) b128_0 :=
  loopOK_of (s := sh128_1_l8) (live := [0, 4]) (out := (outT [(.exit 0, [0]), (.ret, [2, 3])])) (mv := []) (fun k d K => A128_1_l8 (f128_1_l8 F) k d K) F (fun d K => by kernel_rfl)  (fun k d K => Eq.mp (by kernel_rfl) (L128_1_l8g F k (f101_1 F) (f102_1 F) (f112_1 F)  (f128_1_l8 F) (G128_1_8 F F) d K))
theorem E128_1g (F : Nat) (c101_1 : Y101_1) (c102_1 : Y102_1) (c112_1 : Y112_1) (l8 : Y128_1_l8)  (d : sh128_1.den) (K : KF) : evBody Tryz.prog (TB128_1 c101_1 c102_1 c112_1) (xw []) 45 0 (ltab [(8, mkG sh128_1_l8 [0, 4] (outT [(.exit 0, [0]), (.ret, [2, 3])]) (fun d K => A128_1_l8 l8 F d K) [])]) [] code128 Tryz.f128.results.toList (encT sh128_1.vs d.1) (encH sh128_1.h d.2) K = A128_1 (fun (a1 : ByteArray) (K0 : (Int → Int → Option Res)) => c112_1 a1 (fun x1 => cond (!x1) (K0 0 4) (cond (decide ((0 : Int) ≤ (0 : Int) ∧ (0 : Int) ≤ (60 : Int) ∧ (60 : Int) ≤ (a1.size : Int))) (cond (decide ((0 : Int) ≤ (60 : Int) ∧ (60 : Int) ≤ (a1.size : Int) ∧ (a1.size : Int) ≤ (a1.size : Int))) (c102_1 (toInts (a1.extract 0 60)) (fun x2 => c101_1 4 (IntKind.u64.wrap x2) (fun x3 => cond (!(x3.toList == (a1.extract 60 ((a1.size : Int).toNat)).toList)) (K0 0 9) (cond (decide ((0 : Int) ≤ (0 : Int) ∧ (0 : Int) < (a1.size : Int))) (cond (decide (((a1.data.getD 0 0).toNat : Int) < 1)) (K0 0 6) (cond (decide ((0 : Int) ≤ (0 : Int) ∧ (0 : Int) < (a1.size : Int))) (cond (decide (((a1.data.getD 0 0).toNat : Int) > 8)) (K0 0 6) (cond (decide ((0 : Int) ≤ (1 : Int) ∧ (1 : Int) < (a1.size : Int))) (cond (decide (((a1.data.getD 1 0).toNat : Int) > 58)) (K0 0 6) (cond (decide ((0 : Int) ≤ (1 : Int) ∧ (1 : Int) < (a1.size : Int))) (l8 a1 (K0 0 6) (cond (decide ((0 : Int) ≤ (0 : Int) ∧ (0 : Int) < (a1.size : Int))) (K0 (IntKind.i64.wrap ((a1.data.getD 0 0).toNat : Int)) 0) none) F (IntKind.i64.wrap (2 + (IntKind.i64.wrap ((a1.data.getD 1 0).toNat : Int))))) none)) none)) none)) none)) ) ) none) none)) ) d K := by kernel_rfl
theorem E128_1 (F : Nat) (d : sh128_1.den) (K : KF) : evBody Tryz.prog (T128_1 F) (xw []) 45 0 (LT128_1 F) [] code128 Tryz.f128.results.toList (encT sh128_1.vs d.1) (encH sh128_1.h d.2) K = A128_1 (f128_1 F) d K := Eq.mp (by kernel_rfl) (E128_1g F (f101_1 F) (f102_1 F) (f112_1 F) (f128_1_l8 F)  d K)
theorem S128_1_ok (F : Nat) (o : Summ) (ho : SoundFn Tryz.prog 128 o) : SoundFn Tryz.prog 128 (S128_1 F o) :=
  soundFn_of (fn := Tryz.f128) (c := code128) rfl rfl (by kernel_rfl) (tab_cons (S101_1_ok F _ (noS_sound enter101)) (tab_cons (S102_1_ok F _ (noS_sound enter102)) (tab_cons (S112_1_ok F _ (noS_sound enter112)) tab_nil))) (by kernel_rfl) (by kernel_rfl) ho (by rw [loops128]; exact (loopsOK_cons (by kernel_rfl) (L128_1_8 F) loopsOK_nil)) (by rw [scopes128]; exact scopesOK_nil) (by rw [ranges128]; exact rangesOK_nil) (E128_1 F)
end Go.Proofs.YtlgopekjjkdkiaaGreatDoor.X
end

section
namespace Go.Proofs.YtlgopekjjkdkiaaGreatDoor.X
open Go Go.Proofs.YtlgopekjjkdkiaaGreatDoor.Ev Go.Proofs
set_option linter.unusedVariables false
set_option linter.unusedSectionVars false
/-! pentimentoref08.Open -/
noncomputable def f168_1 {β : Type} (F : Nat) (a1 : Int) (a2 : ByteArray) (K0 : ByteArray → Int → Option β) : Option β := f128_1 F a2 (fun x1 x2 => cond (x2 != 0) (K0 ByteArray.empty x2) (cond (x1 != a1) (K0 ByteArray.empty 22) (cond (decide ((0 : Int) ≤ (1 : Int) ∧ (1 : Int) < (a2.size : Int))) (cond (decide ((0 : Int) ≤ (2 : Int) ∧ (2 : Int) ≤ IntKind.i64.wrap (2 + (IntKind.i64.wrap ((a2.data.getD 1 0).toNat : Int))) ∧ IntKind.i64.wrap (2 + (IntKind.i64.wrap ((a2.data.getD 1 0).toNat : Int))) ≤ (a2.size : Int))) (K0 (a2.extract 2 ((IntKind.i64.wrap (2 + (IntKind.i64.wrap ((a2.data.getD 1 0).toNat : Int)))).toNat)) 0) none) none))) 
variable [FZ]
def sh168_1 : Sh := ⟨[.lf (.int .i64), .lf (.str)], []⟩
abbrev Y168_1 := Int → ByteArray → (ByteArray → Int → Option Res) → Option Res
noncomputable def A168_1 (g : Y168_1) (d : sh168_1.den) (K : KF) : Option Res := g d.1.1 d.1.2.1 (fun (y0 : ByteArray) (y1 : Int) => K [.lf (.str y0), .lf (.int .i64 y1)] [])
noncomputable def S168_1 (F : Nat) (o : Summ) : Summ := mkS sh168_1 (fun d K => A168_1 (f168_1 F) d K) o
noncomputable def code168 : Code := bodyOf Tryz.f168
theorem scopes168 : scopesOf code168 = [] := by kernel_rfl
theorem ranges168 : rangesOf code168 = [] := by kernel_rfl
theorem loops168 : loopsOf code168 = [] := by kernel_rfl
theorem enter168 : ∀ args w, (callFunc 168 args).run Tryz.prog w = .ok (.enter 168 args) w := enter_of (fn := Tryz.f168) (by kernel_rfl) (by kernel_rfl) (by kernel_rfl)
noncomputable def T168_1 (F : Nat) : FuncId → Option Summ := tab [(128, (S128_1 F noS))]
noncomputable def TB168_1 (c128_1 : Y128_1) : FuncId → Option Summ := tab [(128, (mkS sh128_1 (fun d K => A128_1 c128_1 d K) noS))]
noncomputable def LT168_1 (F : Nat) : Nat → Option LoopS := ltab []
theorem E168_1g (F : Nat) (c128_1 : Y128_1)   (d : sh168_1.den) (K : KF) : evBody Tryz.prog (TB168_1 c128_1) (xw []) 25 0 (ltab []) [] code168 Tryz.f168.results.toList (encT sh168_1.vs d.1) (encH sh168_1.h d.2) K = A168_1 (fun (a1 : Int) (a2 : ByteArray) (K0 : (ByteArray → Int → Option Res)) => c128_1 a2 (fun x1 x2 => cond (x2 != 0) (K0 ByteArray.empty x2) (cond (x1 != a1) (K0 ByteArray.empty 22) (cond (decide ((0 : Int) ≤ (1 : Int) ∧ (1 : Int) < (a2.size : Int))) (cond (decide ((0 : Int) ≤ (2 : Int) ∧ (2 : Int) ≤ IntKind.i64.wrap (2 + (IntKind.i64.wrap ((a2.data.getD 1 0).toNat : Int))) ∧ IntKind.i64.wrap (2 + (IntKind.i64.wrap ((a2.data.getD 1 0).toNat : Int))) ≤ (a2.size : Int))) (K0 (a2.extract 2 ((IntKind.i64.wrap (2 + (IntKind.i64.wrap ((a2.data.getD 1 0).toNat : Int)))).toNat)) 0) none) none))) ) d K := by kernel_rfl
theorem E168_1 (F : Nat) (d : sh168_1.den) (K : KF) : evBody Tryz.prog (T168_1 F) (xw []) 25 0 (LT168_1 F) [] code168 Tryz.f168.results.toList (encT sh168_1.vs d.1) (encH sh168_1.h d.2) K = A168_1 (f168_1 F) d K := Eq.mp (by kernel_rfl) (E168_1g F (f128_1 F)   d K)
theorem S168_1_ok (F : Nat) (o : Summ) (ho : SoundFn Tryz.prog 168 o) : SoundFn Tryz.prog 168 (S168_1 F o) :=
  soundFn_of (fn := Tryz.f168) (c := code168) rfl rfl (by kernel_rfl) (tab_cons (S128_1_ok F _ (noS_sound enter128)) tab_nil) (by kernel_rfl) (by kernel_rfl) ho (by rw [loops168]; exact loopsOK_nil) (by rw [scopes168]; exact scopesOK_nil) (by rw [ranges168]; exact rangesOK_nil) (E168_1 F)
end Go.Proofs.YtlgopekjjkdkiaaGreatDoor.X
end

section
namespace Go.Proofs.YtlgopekjjkdkiaaGreatDoor.X
open Go Go.Proofs.YtlgopekjjkdkiaaGreatDoor.Ev Go.Proofs
set_option linter.unusedVariables false
set_option linter.unusedSectionVars false
/-! pentimentoref01.Get -/
noncomputable def f142_1_l7 {β : Type} (F : Nat) (v1 : Int) (v2 : Int) (v5 : List Int) (K0 : Int → Option β) : Nat → Int → Int → Option β
  | 0, _, _ => none
  | k + 1, v3, v4 => cond (decide (v4 < v2)) (cond (decide ((0 : Int) ≤ IntKind.i64.wrap (v1 + v4) ∧ IntKind.i64.wrap (v1 + v4) < ((v5.length : Nat) : Int))) (cond (decide (0 + ((IntKind.i64.wrap (v1 + v4)).toNat) < v5.length)) (f142_1_l7 F v1 v2 v5 K0 k (IntKind.u64.wrap ((IntKind.u64.wrap (v3 * 256)) + (IntKind.u64.wrap (v5.getD (0 + ((IntKind.i64.wrap (v1 + v4)).toNat)) 0)))) (IntKind.i64.wrap (v4 + 1))) none) none) (K0 v3)
noncomputable def f142_1 {β : Type} (F : Nat) (a1 : Int) (a2 : Int) (a3 : List Int) (K0 : Int → Int → Option β) : Option β := cond (decide (a2 < 1)) (K0 0 2) (cond (decide (a2 > 8)) (K0 0 2) (cond (decide (a1 < 0)) (K0 0 2) (cond (decide (a1 > ((a3.length : Nat) : Int))) (K0 0 7) (cond (decide (IntKind.i64.wrap (((a3.length : Nat) : Int) - a1) < a2)) (K0 0 7) (f142_1_l7 F a1 a2 a3 (fun x6 => K0 x6 0) F 0 0)))))
variable [FZ]
def sh142_1 : Sh := ⟨[.lf (.full 0), .lf (.int .i64), .lf (.int .i64)], [some ⟨none, [.seq (.int .u8) 0]⟩]⟩
abbrev Y142_1 := Int → Int → List Int → (Int → Int → Option Res) → Option Res
noncomputable def A142_1 (g : Y142_1) (d : sh142_1.den) (K : KF) : Option Res := g d.1.2.1 d.1.2.2.1 d.2.1.2.1 (fun (y0 : Int) (y1 : Int) => K [.lf (.int .u64 y0), .lf (.int .i64 y1)] [some ⟨d.2.1.1, [.seq (.int .u8) 0 d.2.1.2.1]⟩])
noncomputable def S142_1 (F : Nat) (o : Summ) : Summ := mkS sh142_1 (fun d K => A142_1 (f142_1 F) d K) o
noncomputable def code142 : Code := bodyOf Tryz.f142
noncomputable def b142_0 : Code := cB (cB (cR (cL (cR (cR (cR (cR (code142))))))))
theorem scopes142 : scopesOf code142 = [] := by kernel_rfl
theorem ranges142 : rangesOf code142 = [] := by kernel_rfl
theorem loops142 : loopsOf code142 = [b142_0] := by kernel_rfl
theorem enter142 : ∀ args w, (callFunc 142 args).run Tryz.prog w = .ok (.enter 142 args) w := enter_of (fn := Tryz.f142) (by kernel_rfl) (by kernel_rfl) (by kernel_rfl)
noncomputable def T142_1 (F : Nat) : FuncId → Option Summ := tab []
noncomputable def TB142_1  : FuncId → Option Summ := tab []
def sh142_1_l7 : Sh := ⟨[.lf (.full 0), .lf (.int .i64), .lf (.int .i64), .lf (.int .u64), .lf (.int .i64)], [some ⟨none, [.seq (.int .u8) 0]⟩]⟩
abbrev Y142_1_l7 := Int → Int → List Int → (Int → Option Res) → Nat → Int → Int → Option Res
noncomputable def A142_1_l7 (g : Y142_1_l7) (k : Nat) (d : sh142_1_l7.den) (K : KL) : Option Res := g d.1.2.1 d.1.2.2.1 d.2.1.2.1 (fun (y0 : Int) => K (.exit 0) [.tv (.lf (.int .u64 y0))] [some ⟨d.2.1.1, [.seq (.int .u8) 0 d.2.1.2.1]⟩]) k d.1.2.2.2.1 d.1.2.2.2.2.1
noncomputable def G142_1_7 (F k : Nat) : LoopS := mkG sh142_1_l7 [0, 1, 2, 8, 9] (outT [(.exit 0, [8])]) (fun d K => A142_1_l7 (f142_1_l7 F) k d K) []
noncomputable def LT142_1 (F : Nat) : Nat → Option LoopS := ltab [(7, G142_1_7 F F)]
theorem L142_1_l7g (F k : Nat)   (l7 : Y142_1_l7) (X7 : LoopS) (d : sh142_1_l7.den) (K : KL) : A142_1_l7 ((fun (v1 : Int) (v2 : Int) (v5 : List Int) (K0 : (Int → Option Res)) (k : Nat) (v3 : Int) (v4 : Int) => cond (decide (v4 < v2)) (cond (decide ((0 : Int) ≤ IntKind.i64.wrap (v1 + v4) ∧ IntKind.i64.wrap (v1 + v4) < ((v5.length : Nat) : Int))) (cond (decide (0 + ((IntKind.i64.wrap (v1 + v4)).toNat) < v5.length)) (l7 v1 v2 v5 K0 k (IntKind.u64.wrap ((IntKind.u64.wrap (v3 * 256)) + (IntKind.u64.wrap (v5.getD (0 + ((IntKind.i64.wrap (v1 + v4)).toNat)) 0)))) (IntKind.i64.wrap (v4 + 1))) none) none) (K0 v3))) k d K = roundOf Tryz.prog TB142_1 (xw []) 48 1 (ltab [(7, X7)]) (mkG sh142_1_l7 [0, 1, 2, 8, 9] (outT [(.exit 0, [8])]) (fun d K => A142_1_l7 l7 k d K) []) b142_0 (encT sh142_1_l7.vs d.1) (encH sh142_1_l7.h d.2) K := by kernel_rfl
theorem L142_1_7 (F : Nat) : LoopOK Tryz.prog (T142_1 F) (xw []) 48 1 (LT142_1 F) (G142_1_7 F F) b142_0 :=
  loopOK_of (s := sh142_1_l7) (live := [0, 1, 2, 8, 9]) (out := (outT [(.exit 0, [8])])) (mv := []) (fun k d K => A142_1_l7 (f142_1_l7 F) k d K) F (fun d K => by kernel_rfl)  (fun k d K => Eq.mp (by kernel_rfl) (L142_1_l7g F k   (f142_1_l7 F) (G142_1_7 F F) d K))
theorem E142_1g (F : Nat)  (l7 : Y142_1_l7)  (d : sh142_1.den) (K : KF) : evBody Tryz.prog TB142_1 (xw []) 48 1 (ltab [(7, mkG sh142_1_l7 [0, 1, 2, 8, 9] (outT [(.exit 0, [8])]) (fun d K => A142_1_l7 l7 F d K) [])]) [] code142 Tryz.f142.results.toList (encT sh142_1.vs d.1) (encH sh142_1.h d.2) K = A142_1 (fun (a1 : Int) (a2 : Int) (a3 : List Int) (K0 : (Int → Int → Option Res)) => cond (decide (a2 < 1)) (K0 0 2) (cond (decide (a2 > 8)) (K0 0 2) (cond (decide (a1 < 0)) (K0 0 2) (cond (decide (a1 > ((a3.length : Nat) : Int))) (K0 0 7) (cond (decide (IntKind.i64.wrap (((a3.length : Nat) : Int) - a1) < a2)) (K0 0 7) (l7 a1 a2 a3 (fun x6 => K0 x6 0) F 0 0)))))) d K := by kernel_rfl
theorem E142_1 (F : Nat) (d : sh142_1.den) (K : KF) : evBody Tryz.prog (T142_1 F) (xw []) 48 1 (LT142_1 F) [] code142 Tryz.f142.results.toList (encT sh142_1.vs d.1) (encH sh142_1.h d.2) K = A142_1 (f142_1 F) d K := Eq.mp (by kernel_rfl) (E142_1g F  (f142_1_l7 F)  d K)
theorem S142_1_ok (F : Nat) (o : Summ) (ho : SoundFn Tryz.prog 142 o) : SoundFn Tryz.prog 142 (S142_1 F o) :=
  soundFn_of (fn := Tryz.f142) (c := code142) rfl rfl (by kernel_rfl) tab_nil (by kernel_rfl) (by kernel_rfl) ho (by rw [loops142]; exact (loopsOK_cons (by kernel_rfl) (L142_1_7 F) loopsOK_nil)) (by rw [scopes142]; exact scopesOK_nil) (by rw [ranges142]; exact rangesOK_nil) (E142_1 F)
end Go.Proofs.YtlgopekjjkdkiaaGreatDoor.X
end

section
namespace Go.Proofs.YtlgopekjjkdkiaaGreatDoor.X
open Go Go.Proofs.YtlgopekjjkdkiaaGreatDoor.Ev Go.Proofs
set_option linter.unusedVariables false
set_option linter.unusedSectionVars false
/-! pentimentoref01.Reader).Num -/
noncomputable def f184_1 {β : Type} (F : Nat) (a1 : Int) (a2 : Int) (a3 : Int) (a4 : List Int) (K0 : Int → Int → Int → Option β) : Option β := cond (a3 != 0) (K0 0 a2 a3) (f142_1 F a2 a1 a4 (fun x1 x2 => cond (x2 == 0) (K0 x1 (IntKind.i64.wrap (a2 + a1)) x2) (K0 x1 a2 x2)) )
variable [FZ]
def sh184_1 : Sh := ⟨[.lf (.ptr 0 0), .lf (.int .i64)], [some ⟨some false, [.full 1, .int .i64, .int .i64]⟩, some ⟨none, [.seq (.int .u8) 0]⟩]⟩
abbrev Y184_1 := Int → Int → Int → List Int → (Int → Int → Int → Option Res) → Option Res
noncomputable def A184_1 (g : Y184_1) (d : sh184_1.den) (K : KF) : Option Res := g d.1.2.1 d.2.1.2.2.1 d.2.1.2.2.2.1 d.2.2.1.2.1 (fun (y0 : Int) (y1 : Int) (y2 : Int) => K [.lf (.int .u64 y0)] [some ⟨false, [.full 1, .int .i64 y1, .int .i64 y2]⟩, some ⟨d.2.2.1.1, [.seq (.int .u8) 0 d.2.2.1.2.1]⟩])
noncomputable def S184_1 (F : Nat) (o : Summ) : Summ := mkS sh184_1 (fun d K => A184_1 (f184_1 F) d K) o
noncomputable def code184 : Code := bodyOf Tryz.f184
theorem scopes184 : scopesOf code184 = [] := by kernel_rfl
theorem ranges184 : rangesOf code184 = [] := by kernel_rfl
theorem loops184 : loopsOf code184 = [] := by kernel_rfl
theorem enter184 : ∀ args w, (callFunc 184 args).run Tryz.prog w = .ok (.enter 184 args) w := enter_of (fn := Tryz.f184) (by kernel_rfl) (by kernel_rfl) (by kernel_rfl)
noncomputable def T184_1 (F : Nat) : FuncId → Option Summ := tab [(142, (S142_1 F noS))]
noncomputable def TB184_1 (c142_1 : Y142_1) : FuncId → Option Summ := tab [(142, (mkS sh142_1 (fun d K => A142_1 c142_1 d K) noS))]
noncomputable def LT184_1 (F : Nat) : Nat → Option LoopS := ltab []
theorem E184_1g (F : Nat) (c142_1 : Y142_1)   (d : sh184_1.den) (K : KF) : evBody Tryz.prog (TB184_1 c142_1) (xw []) 41 2 (ltab []) [] code184 Tryz.f184.results.toList (encT sh184_1.vs d.1) (encH sh184_1.h d.2) K = A184_1 (fun (a1 : Int) (a2 : Int) (a3 : Int) (a4 : List Int) (K0 : (Int → Int → Int → Option Res)) => cond (a3 != 0) (K0 0 a2 a3) (c142_1 a2 a1 a4 (fun x1 x2 => cond (x2 == 0) (K0 x1 (IntKind.i64.wrap (a2 + a1)) x2) (K0 x1 a2 x2)) )) d K := by kernel_rfl
theorem E184_1 (F : Nat) (d : sh184_1.den) (K : KF) : evBody Tryz.prog (T184_1 F) (xw []) 41 2 (LT184_1 F) [] code184 Tryz.f184.results.toList (encT sh184_1.vs d.1) (encH sh184_1.h d.2) K = A184_1 (f184_1 F) d K := Eq.mp (by kernel_rfl) (E184_1g F (f142_1 F)   d K)
theorem S184_1_ok (F : Nat) (o : Summ) (ho : SoundFn Tryz.prog 184 o) : SoundFn Tryz.prog 184 (S184_1 F o) :=
  soundFn_of (fn := Tryz.f184) (c := code184) rfl rfl (by kernel_rfl) (tab_cons (S142_1_ok F _ (noS_sound enter142)) tab_nil) (by kernel_rfl) (by kernel_rfl) ho (by rw [loops184]; exact loopsOK_nil) (by rw [scopes184]; exact scopesOK_nil) (by rw [ranges184]; exact rangesOK_nil) (E184_1 F)
end Go.Proofs.YtlgopekjjkdkiaaGreatDoor.X
end

section
namespace Go.Proofs.YtlgopekjjkdkiaaGreatDoor.X
open Go Go.Proofs.YtlgopekjjkdkiaaGreatDoor.Ev Go.Proofs
set_option linter.unusedVariables false
set_option linter.unusedSectionVars false
/-! pentimentoref15.Part -/
noncomputable def f139_1 {β : Type} (F : Nat) (a1 : ByteArray) (a2 : Int) (a3 : Int) (a4 : Int) (K0 : ByteArray → Int → Int → Bool → Option β) : Option β := f168_1 F a2 a1 (fun x1 x2 => cond (x2 != 0) (K0 ByteArray.empty 0 0 false) (cond ((x1.size : Int) != (IntKind.i64.wrap (a3 + 12))) (K0 ByteArray.empty 0 0 false) (cond (decide ((0 : Int) ≤ a3 ∧ a3 ≤ IntKind.i64.wrap (a3 + 4) ∧ IntKind.i64.wrap (a3 + 4) ≤ (x1.size : Int))) (f101_1 F 4 (IntKind.u64.wrap a4) (fun x3 => cond (!((x1.extract a3.toNat ((IntKind.i64.wrap (a3 + 4)).toNat)).toList == x3.toList)) (K0 ByteArray.empty 0 0 false) (cond (decide ((0 : Int) ≤ IntKind.i64.wrap (a3 + 4) ∧ IntKind.i64.wrap (a3 + 4) ≤ (x1.size : Int) ∧ (x1.size : Int) ≤ (x1.size : Int))) (f184_1 F 4 0 0 (toInts (x1.extract ((IntKind.i64.wrap (a3 + 4)).toNat) ((x1.size : Int).toNat))) (fun x4 x5 x6 => cond (decide ((0 : Int) ≤ (0 : Int) ∧ (0 : Int) ≤ a3 ∧ a3 ≤ (x1.size : Int))) (f184_1 F 4 x5 x6 (toInts (x1.extract ((IntKind.i64.wrap (a3 + 4)).toNat) ((x1.size : Int).toNat))) (fun x7 x8 x9 => K0 (x1.extract 0 a3.toNat) (IntKind.i64.wrap x4) (IntKind.u32.wrap x7) true) ) none) ) none)) ) none))) 
variable [FZ]
def sh139_1 : Sh := ⟨[.lf (.str), .lf (.int .i64), .lf (.int .i64), .lf (.int .i64)], []⟩
abbrev Y139_1 := ByteArray → Int → Int → Int → (ByteArray → Int → Int → Bool → Option Res) → Option Res
noncomputable def A139_1 (g : Y139_1) (d : sh139_1.den) (K : KF) : Option Res := g d.1.1 d.1.2.1 d.1.2.2.1 d.1.2.2.2.1 (fun (y0 : ByteArray) (y1 : Int) (y2 : Int) (y3 : Bool) => K [.lf (.str y0), .lf (.int .i64 y1), .lf (.int .u32 y2), .lf (.bool y3)] [])
noncomputable def S139_1 (F : Nat) (o : Summ) : Summ := mkS sh139_1 (fun d K => A139_1 (f139_1 F) d K) o
noncomputable def code139 : Code := bodyOf Tryz.f139
theorem scopes139 : scopesOf code139 = [] := by kernel_rfl
theorem ranges139 : rangesOf code139 = [] := by kernel_rfl
theorem loops139 : loopsOf code139 = [] := by kernel_rfl
theorem enter139 : ∀ args w, (callFunc 139 args).run Tryz.prog w = .ok (.enter 139 args) w := enter_of (fn := Tryz.f139) (by kernel_rfl) (by kernel_rfl) (by kernel_rfl)
noncomputable def T139_1 (F : Nat) : FuncId → Option Summ := tab [(101, (S101_1 F noS)), (168, (S168_1 F noS)), (184, (S184_1 F noS))]
noncomputable def TB139_1 (c101_1 : Y101_1) (c168_1 : Y168_1) (c184_1 : Y184_1) : FuncId → Option Summ := tab [(101, (mkS sh101_1 (fun d K => A101_1 c101_1 d K) noS)), (168, (mkS sh168_1 (fun d K => A168_1 c168_1 d K) noS)), (184, (mkS sh184_1 (fun d K => A184_1 c184_1 d K) noS))]
noncomputable def LT139_1 (F : Nat) : Nat → Option LoopS := ltab []
theorem E139_1g (F : Nat) (c101_1 : Y101_1) (c168_1 : Y168_1) (c184_1 : Y184_1)   (d : sh139_1.den) (K : KF) : evBody Tryz.prog (TB139_1 c101_1 c168_1 c184_1) (xw [6]) 59 0 (ltab []) [] code139 Tryz.f139.results.toList (encT sh139_1.vs d.1) (encH sh139_1.h d.2) K = A139_1 (fun (a1 : ByteArray) (a2 : Int) (a3 : Int) (a4 : Int) (K0 : (ByteArray → Int → Int → Bool → Option Res)) => c168_1 a2 a1 (fun x1 x2 => cond (x2 != 0) (K0 ByteArray.empty 0 0 false) (cond ((x1.size : Int) != (IntKind.i64.wrap (a3 + 12))) (K0 ByteArray.empty 0 0 false) (cond (decide ((0 : Int) ≤ a3 ∧ a3 ≤ IntKind.i64.wrap (a3 + 4) ∧ IntKind.i64.wrap (a3 + 4) ≤ (x1.size : Int))) (c101_1 4 (IntKind.u64.wrap a4) (fun x3 => cond (!((x1.extract a3.toNat ((IntKind.i64.wrap (a3 + 4)).toNat)).toList == x3.toList)) (K0 ByteArray.empty 0 0 false) (cond (decide ((0 : Int) ≤ IntKind.i64.wrap (a3 + 4) ∧ IntKind.i64.wrap (a3 + 4) ≤ (x1.size : Int) ∧ (x1.size : Int) ≤ (x1.size : Int))) (c184_1 4 0 0 (toInts (x1.extract ((IntKind.i64.wrap (a3 + 4)).toNat) ((x1.size : Int).toNat))) (fun x4 x5 x6 => cond (decide ((0 : Int) ≤ (0 : Int) ∧ (0 : Int) ≤ a3 ∧ a3 ≤ (x1.size : Int))) (c184_1 4 x5 x6 (toInts (x1.extract ((IntKind.i64.wrap (a3 + 4)).toNat) ((x1.size : Int).toNat))) (fun x7 x8 x9 => K0 (x1.extract 0 a3.toNat) (IntKind.i64.wrap x4) (IntKind.u32.wrap x7) true) ) none) ) none)) ) none))) ) d K := by kernel_rfl
theorem E139_1 (F : Nat) (d : sh139_1.den) (K : KF) : evBody Tryz.prog (T139_1 F) (xw [6]) 59 0 (LT139_1 F) [] code139 Tryz.f139.results.toList (encT sh139_1.vs d.1) (encH sh139_1.h d.2) K = A139_1 (f139_1 F) d K := Eq.mp (by kernel_rfl) (E139_1g F (f101_1 F) (f168_1 F) (f184_1 F)   d K)
theorem S139_1_ok (F : Nat) (o : Summ) (ho : SoundFn Tryz.prog 139 o) : SoundFn Tryz.prog 139 (S139_1 F o) :=
  soundFn_of (fn := Tryz.f139) (c := code139) rfl rfl (by kernel_rfl) (tab_cons (S101_1_ok F _ (noS_sound enter101)) (tab_cons (S168_1_ok F _ (noS_sound enter168)) (tab_cons (S184_1_ok F _ (noS_sound enter184)) tab_nil))) (by kernel_rfl) (by kernel_rfl) ho (by rw [loops139]; exact loopsOK_nil) (by rw [scopes139]; exact scopesOK_nil) (by rw [ranges139]; exact rangesOK_nil) (E139_1 F)
end Go.Proofs.YtlgopekjjkdkiaaGreatDoor.X
end

section
namespace Go.Proofs.YtlgopekjjkdkiaaGreatDoor.X
open Go Go.Proofs.YtlgopekjjkdkiaaGreatDoor.Ev Go.Proofs
set_option linter.unusedVariables false
set_option linter.unusedSectionVars false
/-! pentimentoref17.Scan -/
noncomputable def f71_1_l5 {β : Type} (F : Nat) (v2 : Int) (v4 : Int) (v5 : Bool) (v6 : Int) (v7 : List ByteArray) (v8 : List (Int × ByteArray)) (v9 : Int) (v10 : Int) (v11 : Int) (v12 : Int) (K0 : Int → List (Int × (Int × (Int × ByteArray))) → Option β) (K1 : List (Int × (Int × (Int × ByteArray))) → Option β) (K2 : List (Int × (Int × (Int × ByteArray))) → List Int → Option β) (K3 : List (Int × (Int × (Int × ByteArray))) → Option β) : Nat → Int → List (Int × (Int × (Int × ByteArray))) → Option β
  | 0, _, _ => none
  | k + 1, v3, v13 => cond (decide (v3 < v11)) (f138_1 F v9 v10 v11 v12 0 (IntKind.i64.wrap (2 * v3)) (fun x14 => f124_1 F x14 v4 v5 v6 v7 v8 (fun x15 x16 => cond (x16 != 0) (K0 x16 v13) (f139_1 F x15 8 8 v3 (fun x17 x18 x19 x20 => cond (!x20) (K1 v13) (cond (decide (x18 ≥ v9)) (K1 v13) (f101_1 F 8 v2 (fun x21 => cond (!(x17.toList == x21.toList)) (K1 v13) (f138_1 F v9 v10 v11 v12 0 (IntKind.i64.wrap ((IntKind.i64.wrap (2 * v3)) + 1)) (fun x22 => f124_1 F x22 v4 v5 v6 v7 v8 (fun x23 x24 => cond (x24 != 0) (K0 x24 v13) (f102_1 F (toInts x23) (fun x25 => cond (x25 != x19) (K2 v13 (toInts x23)) (cond (decide ((v13.length + 1) * 40 ≤ 70368744177664)) (f71_1_l5 F v2 v4 v5 v6 v7 v8 v9 v10 v11 v12 K0 K1 K2 K3 k (IntKind.i64.wrap (v3 + 1)) (v13 ++ [(0, (v2, (x18, x23)))])) none)) )) ) )) ))) )) ) ) (K3 v13)
noncomputable def f71_1 {β : Type} (F : Nat) (a1 : Int) (a2 : Int) (a3 : Int) (a4 : Int) (a5 : Int) (a6 : Int) (a7 : Bool) (a8 : Int) (a9 : List ByteArray) (a10 : List (Int × ByteArray)) (K0 : Int → List (Int × (Int × (Int × ByteArray))) → Option β) : Option β := f21_1 F a1 a2 a3 a4 (fun x1 => cond (!x1) (K0 12 []) (f71_1_l5 F a5 a6 a7 a8 a9 a10 a1 a2 a3 a4 (fun x26 x27 => K0 x26 []) (fun x28 => K0 0 x28) (fun x29 x30 => K0 0 x29) (fun x31 => K0 0 x31) F 0 [])) 
variable [FZ]
def sh71_1 : Sh := ⟨[.lf (.ptr 0 0), .agg [.int .i64, .int .i64, .int .i64, .int .i64], .lf (.int .u64)], [some ⟨none, [.full 1, .full 2, .int .i64, .bool, .int .i64]⟩, some ⟨none, [.seq .str 0]⟩, some ⟨none, [.seq (.pair (.int .i64) .str) 0]⟩]⟩
abbrev Y71_1 := Int → Int → Int → Int → Int → Int → Bool → Int → List ByteArray → List (Int × ByteArray) → (Int → List (Int × (Int × (Int × ByteArray))) → Option Res) → Option Res
noncomputable def A71_1 (g : Y71_1) (d : sh71_1.den) (K : KF) : Option Res := g d.1.2.1.1 d.1.2.1.2.1 d.1.2.1.2.2.1 d.1.2.1.2.2.2.1 d.1.2.2.1 d.2.1.2.2.2.1 d.2.1.2.2.2.2.1 d.2.1.2.2.2.2.2.1 d.2.2.1.2.1 d.2.2.2.1.2.1 (fun (y0 : Int) (y6 : List (Int × (Int × (Int × ByteArray)))) => K [.lf (.full 3), .lf (.int .i64 y0)] [some ⟨d.2.1.1, [.full 1, .full 2, .int .i64 d.2.1.2.2.2.1, .bool d.2.1.2.2.2.2.1, .int .i64 d.2.1.2.2.2.2.2.1]⟩, some ⟨d.2.2.1.1, [.seq .str 0 d.2.2.1.2.1]⟩, some ⟨d.2.2.2.1.1, [.seq (.pair (.int .i64) .str) 0 d.2.2.2.1.2.1]⟩, some ⟨false, [.seq (.pair (.int .u64) (.pair (.int .u64) (.pair (.int .i64) .str))) 0 y6]⟩])
noncomputable def S71_1 (F : Nat) (o : Summ) : Summ := mkS sh71_1 (fun d K => A71_1 (f71_1 F) d K) o
noncomputable def code71 : Code := bodyOf Tryz.f71
noncomputable def b71_0 : Code := cB (cB (cR (cL (cR (cR (cR (code71)))))))
theorem scopes71 : scopesOf code71 = [] := by kernel_rfl
theorem ranges71 : rangesOf code71 = [] := by kernel_rfl
theorem loops71 : loopsOf code71 = [b71_0] := by kernel_rfl
theorem enter71 : ∀ args w, (callFunc 71 args).run Tryz.prog w = .ok (.enter 71 args) w := enter_of (fn := Tryz.f71) (by kernel_rfl) (by kernel_rfl) (by kernel_rfl)
noncomputable def T71_1 (F : Nat) : FuncId → Option Summ := tab [(21, (S21_1 F noS)), (101, (S101_1 F noS)), (102, (S102_1 F noS)), (124, (S124_1 F noS)), (138, (S138_1 F noS)), (139, (S139_1 F noS))]
noncomputable def TB71_1 (c21_1 : Y21_1) (c101_1 : Y101_1) (c102_1 : Y102_1) (c124_1 : Y124_1) (c138_1 : Y138_1) (c139_1 : Y139_1) : FuncId → Option Summ := tab [(21, (mkS sh21_1 (fun d K => A21_1 c21_1 d K) noS)), (101, (mkS sh101_1 (fun d K => A101_1 c101_1 d K) noS)), (102, (mkS sh102_1 (fun d K => A102_1 c102_1 d K) noS)), (124, (mkS sh124_1 (fun d K => A124_1 c124_1 d K) noS)), (138, (mkS sh138_1 (fun d K => A138_1 c138_1 d K) noS)), (139, (mkS sh139_1 (fun d K => A139_1 c139_1 d K) noS))]
def sh71_1_l5 : Sh := ⟨[.lf (.ptr 0 0), .lf (.int .u64), .lf (.ptr 3 0), .lf (.full 4), .lf (.int .i64)], [some ⟨none, [.full 1, .full 2, .int .i64, .bool, .int .i64]⟩, some ⟨none, [.seq .str 0]⟩, some ⟨none, [.seq (.pair (.int .i64) .str) 0]⟩, some ⟨some false, [.int .i64, .int .i64, .int .i64, .int .i64]⟩, some ⟨some false, [.seq (.pair (.int .u64) (.pair (.int .u64) (.pair (.int .i64) .str))) 0]⟩]⟩
abbrev Y71_1_l5 := Int → Int → Bool → Int → List ByteArray → List (Int × ByteArray) → Int → Int → Int → Int → (Int → List (Int × (Int × (Int × ByteArray))) → Option Res) → (List (Int × (Int × (Int × ByteArray))) → Option Res) → (List (Int × (Int × (Int × ByteArray))) → List Int → Option Res) → (List (Int × (Int × (Int × ByteArray))) → Option Res) → Nat → Int → List (Int × (Int × (Int × ByteArray))) → Option Res
noncomputable def A71_1_l5 (g : Y71_1_l5) (k : Nat) (d : sh71_1_l5.den) (K : KL) : Option Res := g d.1.2.1 d.2.1.2.2.2.1 d.2.1.2.2.2.2.1 d.2.1.2.2.2.2.2.1 d.2.2.1.2.1 d.2.2.2.1.2.1 d.2.2.2.2.1.2.1 d.2.2.2.2.1.2.2.1 d.2.2.2.2.1.2.2.2.1 d.2.2.2.2.1.2.2.2.2.1 (fun (y0 : Int) (y10 : List (Int × (Int × (Int × ByteArray)))) => K .ret [.tv (.lf (.nils (some (.pair (.int .u64) (.pair (.int .u64) (.pair (.int .i64) .str)))))), .tv (.lf (.int .i64 y0))] [some ⟨d.2.1.1, [.full 1, .full 2, .int .i64 d.2.1.2.2.2.1, .bool d.2.1.2.2.2.2.1, .int .i64 d.2.1.2.2.2.2.2.1]⟩, some ⟨d.2.2.1.1, [.seq .str 0 d.2.2.1.2.1]⟩, some ⟨d.2.2.2.1.1, [.seq (.pair (.int .i64) .str) 0 d.2.2.2.1.2.1]⟩, some ⟨false, [.int .i64 d.2.2.2.2.1.2.1, .int .i64 d.2.2.2.2.1.2.2.1, .int .i64 d.2.2.2.2.1.2.2.2.1, .int .i64 d.2.2.2.2.1.2.2.2.2.1]⟩, some ⟨false, [.seq (.pair (.int .u64) (.pair (.int .u64) (.pair (.int .i64) .str))) 0 y10]⟩]) (fun (y10 : List (Int × (Int × (Int × ByteArray)))) => K .ret [.tv (.lf (.full 4)), .tv (.lf (.int .i64 0))] [some ⟨d.2.1.1, [.full 1, .full 2, .int .i64 d.2.1.2.2.2.1, .bool d.2.1.2.2.2.2.1, .int .i64 d.2.1.2.2.2.2.2.1]⟩, some ⟨d.2.2.1.1, [.seq .str 0 d.2.2.1.2.1]⟩, some ⟨d.2.2.2.1.1, [.seq (.pair (.int .i64) .str) 0 d.2.2.2.1.2.1]⟩, some ⟨false, [.int .i64 d.2.2.2.2.1.2.1, .int .i64 d.2.2.2.2.1.2.2.1, .int .i64 d.2.2.2.2.1.2.2.2.1, .int .i64 d.2.2.2.2.1.2.2.2.2.1]⟩, some ⟨false, [.seq (.pair (.int .u64) (.pair (.int .u64) (.pair (.int .i64) .str))) 0 y10]⟩]) (fun (y10 : List (Int × (Int × (Int × ByteArray)))) (y11 : List Int) => K .ret [.tv (.lf (.full 4)), .tv (.lf (.int .i64 0))] [some ⟨d.2.1.1, [.full 1, .full 2, .int .i64 d.2.1.2.2.2.1, .bool d.2.1.2.2.2.2.1, .int .i64 d.2.1.2.2.2.2.2.1]⟩, some ⟨d.2.2.1.1, [.seq .str 0 d.2.2.1.2.1]⟩, some ⟨d.2.2.2.1.1, [.seq (.pair (.int .i64) .str) 0 d.2.2.2.1.2.1]⟩, some ⟨false, [.int .i64 d.2.2.2.2.1.2.1, .int .i64 d.2.2.2.2.1.2.2.1, .int .i64 d.2.2.2.2.1.2.2.2.1, .int .i64 d.2.2.2.2.1.2.2.2.2.1]⟩, some ⟨false, [.seq (.pair (.int .u64) (.pair (.int .u64) (.pair (.int .i64) .str))) 0 y10]⟩, some ⟨false, [.seq (.int .u8) 0 y11]⟩]) (fun (y9 : List (Int × (Int × (Int × ByteArray)))) => K (.exit 0) [.tv (.lf (.full 4))] [some ⟨d.2.1.1, [.full 1, .full 2, .int .i64 d.2.1.2.2.2.1, .bool d.2.1.2.2.2.2.1, .int .i64 d.2.1.2.2.2.2.2.1]⟩, some ⟨d.2.2.1.1, [.seq .str 0 d.2.2.1.2.1]⟩, some ⟨d.2.2.2.1.1, [.seq (.pair (.int .i64) .str) 0 d.2.2.2.1.2.1]⟩, some ⟨false, [.int .i64 d.2.2.2.2.1.2.1, .int .i64 d.2.2.2.2.1.2.2.1, .int .i64 d.2.2.2.2.1.2.2.2.1, .int .i64 d.2.2.2.2.1.2.2.2.2.1]⟩, some ⟨false, [.seq (.pair (.int .u64) (.pair (.int .u64) (.pair (.int .i64) .str))) 0 y9]⟩]) k d.1.2.2.2.2.1 d.2.2.2.2.2.1.2.1
noncomputable def G71_1_5 (F k : Nat) : LoopS := mkG sh71_1_l5 [0, 2, 4, 8, 9] (outT [(.exit 0, [8]), (.ret, [6, 7])]) (fun d K => A71_1_l5 (f71_1_l5 F) k d K) []
noncomputable def LT71_1 (F : Nat) : Nat → Option LoopS := ltab [(5, G71_1_5 F F)]
theorem L71_1_l5g (F k : Nat) (c21_1 : Y21_1) (c101_1 : Y101_1) (c102_1 : Y102_1) (c124_1 : Y124_1) (c138_1 : Y138_1) (c139_1 : Y139_1)  (l5 : Y71_1_l5) (X5 : LoopS) (d : sh71_1_l5.den) (K : KL) : A71_1_l5 ((fun (v2 : Int) (v4 : Int) (v5 : Bool) (v6 : Int) (v7 : List ByteArray) (v8 : List (Int × ByteArray)) (v9 : Int) (v10 : Int) (v11 : Int) (v12 : Int) (K0 : (Int → List (Int × (Int × (Int × ByteArray))) → Option Res)) (K1 : (List (Int × (Int × (Int × ByteArray))) → Option Res)) (K2 : (List (Int × (Int × (Int × ByteArray))) → List Int → Option Res)) (K3 : (List (Int × (Int × (Int × ByteArray))) → Option Res)) (k : Nat) (v3 : Int) (v13 : List (Int × (Int × (Int × ByteArray)))) => cond (decide (v3 < v11)) (c138_1 v9 v10 v11 v12 0 (IntKind.i64.wrap (2 * v3)) (fun x14 => c124_1 x14 v4 v5 v6 v7 v8 (fun x15 x16 => cond (x16 != 0) (K0 x16 v13) (c139_1 x15 8 8 v3 (fun x17 x18 x19 x20 => cond (!x20) (K1 v13) (cond (decide (x18 ≥ v9)) (K1 v13) (c101_1 8 v2 (fun x21 => cond (!(x17.toList == x21.toList)) (K1 v13) (c138_1 v9 v10 v11 v12 0 (IntKind.i64.wrap ((IntKind.i64.wrap (2 * v3)) + 1)) (fun x22 => c124_1 x22 v4 v5 v6 v7 v8 (fun x23 x24 => cond (x24 != 0) (K0 x24 v13) (c102_1 (toInts x23) (fun x25 => cond (x25 != x19) (K2 v13 (toInts x23)) (cond (decide ((v13.length + 1) * 40 ≤ 70368744177664)) (l5 v2 v4 v5 v6 v7 v8 v9 v10 v11 v12 K0 K1 K2 K3 k (IntKind.i64.wrap (v3 + 1)) (v13 ++ [(0, (v2, (x18, x23)))])) none)) )) ) )) ))) )) ) ) (K3 v13))) k d K = roundOf Tryz.prog (TB71_1 c21_1 c101_1 c102_1 c124_1 c138_1 c139_1) (xw []) 88 3 (ltab [(5, X5)]) (mkG sh71_1_l5 [0, 2, 4, 8, 9] (outT [(.exit 0, [8]), (.ret, [6, 7])]) (fun d K => A71_1_l5 l5 k d K) []) b71_0 (encT sh71_1_l5.vs d.1) (encH sh71_1_l5.h d.2) K := by kernel_rfl
theorem L71_1_5 (F : Nat) : LoopOK Tryz.prog (T71_1 F) (xw []) 88 3 (LT71_1 F) (G71_1_5 F F) b71_0 :=
  loopOK_of (s := sh71_1_l5) (live := [0, 2, 4, 8, 9]) (out := (outT [(.exit 0, [8]), (.ret, [6, 7])])) (mv := []) (fun k d K => A71_1_l5 (f71_1_l5 F) k d K) F (fun d K => by kernel_rfl)  (fun k d K => Eq.mp (by kernel_rfl) (L71_1_l5g F k (f21_1 F) (f101_1 F) (f102_1 F) (f124_1 F) (f138_1 F) (f139_1 F)  (f71_1_l5 F) (G71_1_5 F F) d K))
theorem E71_1g (F : Nat) (c21_1 : Y21_1) (c101_1 : Y101_1) (c102_1 : Y102_1) (c124_1 : Y124_1) (c138_1 : Y138_1) (c139_1 : Y139_1) (l5 : Y71_1_l5)  (d : sh71_1.den) (K : KF) : evBody Tryz.prog (TB71_1 c21_1 c101_1 c102_1 c124_1 c138_1 c139_1) (xw []) 88 3 (ltab [(5, mkG sh71_1_l5 [0, 2, 4, 8, 9] (outT [(.exit 0, [8]), (.ret, [6, 7])]) (fun d K => A71_1_l5 l5 F d K) [])]) [] code71 Tryz.f71.results.toList (encT sh71_1.vs d.1) (encH sh71_1.h d.2) K = A71_1 (fun (a1 : Int) (a2 : Int) (a3 : Int) (a4 : Int) (a5 : Int) (a6 : Int) (a7 : Bool) (a8 : Int) (a9 : List ByteArray) (a10 : List (Int × ByteArray)) (K0 : (Int → List (Int × (Int × (Int × ByteArray))) → Option Res)) => c21_1 a1 a2 a3 a4 (fun x1 => cond (!x1) (K0 12 []) (l5 a5 a6 a7 a8 a9 a10 a1 a2 a3 a4 (fun x26 x27 => K0 x26 []) (fun x28 => K0 0 x28) (fun x29 x30 => K0 0 x29) (fun x31 => K0 0 x31) F 0 [])) ) d K := by kernel_rfl
theorem E71_1 (F : Nat) (d : sh71_1.den) (K : KF) : evBody Tryz.prog (T71_1 F) (xw []) 88 3 (LT71_1 F) [] code71 Tryz.f71.results.toList (encT sh71_1.vs d.1) (encH sh71_1.h d.2) K = A71_1 (f71_1 F) d K := Eq.mp (by kernel_rfl) (E71_1g F (f21_1 F) (f101_1 F) (f102_1 F) (f124_1 F) (f138_1 F) (f139_1 F) (f71_1_l5 F)  d K)
theorem S71_1_ok (F : Nat) (o : Summ) (ho : SoundFn Tryz.prog 71 o) : SoundFn Tryz.prog 71 (S71_1 F o) :=
  soundFn_of (fn := Tryz.f71) (c := code71) rfl rfl (by kernel_rfl) (tab_cons (S21_1_ok F _ (noS_sound enter21)) (tab_cons (S101_1_ok F _ (noS_sound enter101)) (tab_cons (S102_1_ok F _ (noS_sound enter102)) (tab_cons (S124_1_ok F _ (noS_sound enter124)) (tab_cons (S138_1_ok F _ (noS_sound enter138)) (tab_cons (S139_1_ok F _ (noS_sound enter139)) tab_nil)))))) (by kernel_rfl) (by kernel_rfl) ho (by rw [loops71]; exact (loopsOK_cons (by kernel_rfl) (L71_1_5 F) loopsOK_nil)) (by rw [scopes71]; exact scopesOK_nil) (by rw [ranges71]; exact rangesOK_nil) (E71_1 F)
end Go.Proofs.YtlgopekjjkdkiaaGreatDoor.X
end

section
namespace Go.Proofs.YtlgopekjjkdkiaaGreatDoor.X
open Go Go.Proofs.YtlgopekjjkdkiaaGreatDoor.Ev Go.Proofs
set_option linter.unusedVariables false
set_option linter.unusedSectionVars false
/-! pentimentoref16.Find -/
noncomputable def f72_1_l2 {β : Type} (F : Nat) (v1 : Int) (v3 : List (Int × (Int × (Int × ByteArray)))) (K0 : ByteArray → Option β) (K1 : Option β) : Nat → Int → Option β
  | 0, _ => none
  | k + 1, v2 => cond (decide (v2 < ((v3.length : Nat) : Int))) (cond (decide ((0 : Int) ≤ v2 ∧ v2 < ((v3.length : Nat) : Int))) (cond (decide (0 + v2.toNat < v3.length)) (cond (((((v3.getD (0 + v2.toNat) (0, (0, (0, ByteArray.empty)))).2).2).1) == v1) (cond (decide ((0 : Int) ≤ v2 ∧ v2 < ((v3.length : Nat) : Int))) (cond (decide (0 + v2.toNat < v3.length)) (K0 ((((v3.getD (0 + v2.toNat) (0, (0, (0, ByteArray.empty)))).2).2).2)) none) none) (f72_1_l2 F v1 v3 K0 K1 k (IntKind.i64.wrap (v2 + 1)))) none) none) (K1)
noncomputable def f72_1 {β : Type} (F : Nat) (a1 : Int) (a2 : List (Int × (Int × (Int × ByteArray)))) (K0 : ByteArray → Bool → Option β) : Option β := f72_1_l2 F a1 a2 (fun x4 => K0 x4 true) (K0 ByteArray.empty false) F 0
variable [FZ]
def sh72_1 : Sh := ⟨[.lf (.full 0), .lf (.int .i64)], [some ⟨none, [.seq (.pair (.int .u64) (.pair (.int .u64) (.pair (.int .i64) .str))) 0]⟩]⟩
abbrev Y72_1 := Int → List (Int × (Int × (Int × ByteArray))) → (ByteArray → Bool → Option Res) → Option Res
noncomputable def A72_1 (g : Y72_1) (d : sh72_1.den) (K : KF) : Option Res := g d.1.2.1 d.2.1.2.1 (fun (y0 : ByteArray) (y1 : Bool) => K [.lf (.str y0), .lf (.bool y1)] [some ⟨d.2.1.1, [.seq (.pair (.int .u64) (.pair (.int .u64) (.pair (.int .i64) .str))) 0 d.2.1.2.1]⟩])
noncomputable def S72_1 (F : Nat) (o : Summ) : Summ := mkS sh72_1 (fun d K => A72_1 (f72_1 F) d K) o
noncomputable def code72 : Code := bodyOf Tryz.f72
noncomputable def b72_0 : Code := cB (cB (cR (cL (cR (code72)))))
theorem scopes72 : scopesOf code72 = [] := by kernel_rfl
theorem ranges72 : rangesOf code72 = [] := by kernel_rfl
theorem loops72 : loopsOf code72 = [b72_0] := by kernel_rfl
theorem enter72 : ∀ args w, (callFunc 72 args).run Tryz.prog w = .ok (.enter 72 args) w := enter_of (fn := Tryz.f72) (by kernel_rfl) (by kernel_rfl) (by kernel_rfl)
noncomputable def T72_1 (F : Nat) : FuncId → Option Summ := tab []
noncomputable def TB72_1  : FuncId → Option Summ := tab []
def sh72_1_l2 : Sh := ⟨[.lf (.full 0), .lf (.int .i64), .lf (.int .i64)], [some ⟨none, [.seq (.pair (.int .u64) (.pair (.int .u64) (.pair (.int .i64) .str))) 0]⟩]⟩
abbrev Y72_1_l2 := Int → List (Int × (Int × (Int × ByteArray))) → (ByteArray → Option Res) → (Option Res) → Nat → Int → Option Res
noncomputable def A72_1_l2 (g : Y72_1_l2) (k : Nat) (d : sh72_1_l2.den) (K : KL) : Option Res := g d.1.2.1 d.2.1.2.1 (fun (y0 : ByteArray) => K .ret [.tv (.lf (.str y0)), .tv (.lf (.bool true))] [some ⟨d.2.1.1, [.seq (.pair (.int .u64) (.pair (.int .u64) (.pair (.int .i64) .str))) 0 d.2.1.2.1]⟩]) (K (.exit 0) [] [some ⟨d.2.1.1, [.seq (.pair (.int .u64) (.pair (.int .u64) (.pair (.int .i64) .str))) 0 d.2.1.2.1]⟩]) k d.1.2.2.1
noncomputable def G72_1_2 (F k : Nat) : LoopS := mkG sh72_1_l2 [0, 1, 6] (outT [(.exit 0, []), (.ret, [4, 5])]) (fun d K => A72_1_l2 (f72_1_l2 F) k d K) []
noncomputable def LT72_1 (F : Nat) : Nat → Option LoopS := ltab [(2, G72_1_2 F F)]
theorem L72_1_l2g (F k : Nat)   (l2 : Y72_1_l2) (X2 : LoopS) (d : sh72_1_l2.den) (K : KL) : A72_1_l2 ((fun (v1 : Int) (v3 : List (Int × (Int × (Int × ByteArray)))) (K0 : (ByteArray → Option Res)) (K1 : (Option Res)) (k : Nat) (v2 : Int) => cond (decide (v2 < ((v3.length : Nat) : Int))) (cond (decide ((0 : Int) ≤ v2 ∧ v2 < ((v3.length : Nat) : Int))) (cond (decide (0 + v2.toNat < v3.length)) (cond (((((v3.getD (0 + v2.toNat) (0, (0, (0, ByteArray.empty)))).2).2).1) == v1) (cond (decide ((0 : Int) ≤ v2 ∧ v2 < ((v3.length : Nat) : Int))) (cond (decide (0 + v2.toNat < v3.length)) (K0 ((((v3.getD (0 + v2.toNat) (0, (0, (0, ByteArray.empty)))).2).2).2)) none) none) (l2 v1 v3 K0 K1 k (IntKind.i64.wrap (v2 + 1)))) none) none) (K1))) k d K = roundOf Tryz.prog TB72_1 (xw []) 25 1 (ltab [(2, X2)]) (mkG sh72_1_l2 [0, 1, 6] (outT [(.exit 0, []), (.ret, [4, 5])]) (fun d K => A72_1_l2 l2 k d K) []) b72_0 (encT sh72_1_l2.vs d.1) (encH sh72_1_l2.h d.2) K := by kernel_rfl
theorem L72_1_2 (F : Nat) : LoopOK Tryz.prog (T72_1 F) (xw []) 25 1 (LT72_1 F) (G72_1_2 F F) b72_0 :=
  loopOK_of (s := sh72_1_l2) (live := [0, 1, 6]) (out := (outT [(.exit 0, []), (.ret, [4, 5])])) (mv := []) (fun k d K => A72_1_l2 (f72_1_l2 F) k d K) F (fun d K => by kernel_rfl)  (fun k d K => Eq.mp (by kernel_rfl) (L72_1_l2g F k   (f72_1_l2 F) (G72_1_2 F F) d K))
theorem E72_1g (F : Nat)  (l2 : Y72_1_l2)  (d : sh72_1.den) (K : KF) : evBody Tryz.prog TB72_1 (xw []) 25 1 (ltab [(2, mkG sh72_1_l2 [0, 1, 6] (outT [(.exit 0, []), (.ret, [4, 5])]) (fun d K => A72_1_l2 l2 F d K) [])]) [] code72 Tryz.f72.results.toList (encT sh72_1.vs d.1) (encH sh72_1.h d.2) K = A72_1 (fun (a1 : Int) (a2 : List (Int × (Int × (Int × ByteArray)))) (K0 : (ByteArray → Bool → Option Res)) => l2 a1 a2 (fun x4 => K0 x4 true) (K0 ByteArray.empty false) F 0) d K := by kernel_rfl
theorem E72_1 (F : Nat) (d : sh72_1.den) (K : KF) : evBody Tryz.prog (T72_1 F) (xw []) 25 1 (LT72_1 F) [] code72 Tryz.f72.results.toList (encT sh72_1.vs d.1) (encH sh72_1.h d.2) K = A72_1 (f72_1 F) d K := Eq.mp (by kernel_rfl) (E72_1g F  (f72_1_l2 F)  d K)
theorem S72_1_ok (F : Nat) (o : Summ) (ho : SoundFn Tryz.prog 72 o) : SoundFn Tryz.prog 72 (S72_1 F o) :=
  soundFn_of (fn := Tryz.f72) (c := code72) rfl rfl (by kernel_rfl) tab_nil (by kernel_rfl) (by kernel_rfl) ho (by rw [loops72]; exact (loopsOK_cons (by kernel_rfl) (L72_1_2 F) loopsOK_nil)) (by rw [scopes72]; exact scopesOK_nil) (by rw [ranges72]; exact rangesOK_nil) (E72_1 F)
end Go.Proofs.YtlgopekjjkdkiaaGreatDoor.X
end

section
namespace Go.Proofs.YtlgopekjjkdkiaaGreatDoor.X
open Go Go.Proofs.YtlgopekjjkdkiaaGreatDoor.Ev Go.Proofs
set_option linter.unusedVariables false
set_option linter.unusedSectionVars false
/-! pentimentoref15.Entries -/
noncomputable def f73_1_l4 {β : Type} (F : Nat) (v2 : List (Int × (Int × (Int × ByteArray)))) (v3 : List (Int × (Int × (Int × ByteArray)))) (K0 : Option β) (K1 : Option β) : Nat → Int → Option β
  | 0, _ => none
  | k + 1, v1 => cond (decide (v1 < ((v2.length : Nat) : Int))) (cond (decide ((0 : Int) ≤ v1 ∧ v1 < ((v2.length : Nat) : Int))) (cond (decide (0 + v1.toNat < v2.length)) (cond (decide ((0 : Int) ≤ v1 ∧ v1 < ((v3.length : Nat) : Int))) (cond (decide (0 + v1.toNat < v3.length)) (cond (!((((v2.getD (0 + v1.toNat) (0, (0, (0, ByteArray.empty)))).1) == ((v3.getD (0 + v1.toNat) (0, (0, (0, ByteArray.empty)))).1)) && (((((v2.getD (0 + v1.toNat) (0, (0, (0, ByteArray.empty)))).2).1) == (((v3.getD (0 + v1.toNat) (0, (0, (0, ByteArray.empty)))).2).1)) && ((((((v2.getD (0 + v1.toNat) (0, (0, (0, ByteArray.empty)))).2).2).1) == ((((v3.getD (0 + v1.toNat) (0, (0, (0, ByteArray.empty)))).2).2).1)) && (((((v2.getD (0 + v1.toNat) (0, (0, (0, ByteArray.empty)))).2).2).2).toList == ((((v3.getD (0 + v1.toNat) (0, (0, (0, ByteArray.empty)))).2).2).2).toList))))) (K0) (f73_1_l4 F v2 v3 K0 K1 k (IntKind.i64.wrap (v1 + 1)))) none) none) none) none) (K1)
noncomputable def f73_1 {β : Type} (F : Nat) (a1 : List (Int × (Int × (Int × ByteArray)))) (a2 : List (Int × (Int × (Int × ByteArray)))) (K0 : Bool → Option β) : Option β := cond (((a1.length : Nat) : Int) != ((a2.length : Nat) : Int)) (K0 false) (f73_1_l4 F a1 a2 (K0 false) (K0 true) F 0)
variable [FZ]
def sh73_1 : Sh := ⟨[.lf (.full 0), .lf (.full 1)], [some ⟨none, [.seq (.pair (.int .u64) (.pair (.int .u64) (.pair (.int .i64) .str))) 0]⟩, some ⟨none, [.seq (.pair (.int .u64) (.pair (.int .u64) (.pair (.int .i64) .str))) 0]⟩]⟩
abbrev Y73_1 := List (Int × (Int × (Int × ByteArray))) → List (Int × (Int × (Int × ByteArray))) → (Bool → Option Res) → Option Res
noncomputable def A73_1 (g : Y73_1) (d : sh73_1.den) (K : KF) : Option Res := g d.2.1.2.1 d.2.2.1.2.1 (fun (y0 : Bool) => K [.lf (.bool y0)] [some ⟨d.2.1.1, [.seq (.pair (.int .u64) (.pair (.int .u64) (.pair (.int .i64) .str))) 0 d.2.1.2.1]⟩, some ⟨d.2.2.1.1, [.seq (.pair (.int .u64) (.pair (.int .u64) (.pair (.int .i64) .str))) 0 d.2.2.1.2.1]⟩])
noncomputable def S73_1 (F : Nat) (o : Summ) : Summ := mkS sh73_1 (fun d K => A73_1 (f73_1 F) d K) o
noncomputable def code73 : Code := bodyOf Tryz.f73
noncomputable def b73_0 : Code := cB (cB (cR (cL (cR (cR (code73))))))
theorem scopes73 : scopesOf code73 = [] := by kernel_rfl
theorem ranges73 : rangesOf code73 = [] := by kernel_rfl
theorem loops73 : loopsOf code73 = [b73_0] := by kernel_rfl
theorem enter73 : ∀ args w, (callFunc 73 args).run Tryz.prog w = .ok (.enter 73 args) w := enter_of (fn := Tryz.f73) (by kernel_rfl) (by kernel_rfl) (by kernel_rfl)
noncomputable def T73_1 (F : Nat) : FuncId → Option Summ := tab []
noncomputable def TB73_1  : FuncId → Option Summ := tab []
def sh73_1_l4 : Sh := ⟨[.lf (.full 0), .lf (.full 1), .lf (.int .i64)], [some ⟨none, [.seq (.pair (.int .u64) (.pair (.int .u64) (.pair (.int .i64) .str))) 0]⟩, some ⟨none, [.seq (.pair (.int .u64) (.pair (.int .u64) (.pair (.int .i64) .str))) 0]⟩]⟩
abbrev Y73_1_l4 := List (Int × (Int × (Int × ByteArray))) → List (Int × (Int × (Int × ByteArray))) → (Option Res) → (Option Res) → Nat → Int → Option Res
noncomputable def A73_1_l4 (g : Y73_1_l4) (k : Nat) (d : sh73_1_l4.den) (K : KL) : Option Res := g d.2.1.2.1 d.2.2.1.2.1 (K .ret [.tv (.lf (.bool false))] [some ⟨d.2.1.1, [.seq (.pair (.int .u64) (.pair (.int .u64) (.pair (.int .i64) .str))) 0 d.2.1.2.1]⟩, some ⟨d.2.2.1.1, [.seq (.pair (.int .u64) (.pair (.int .u64) (.pair (.int .i64) .str))) 0 d.2.2.1.2.1]⟩]) (K (.exit 0) [] [some ⟨d.2.1.1, [.seq (.pair (.int .u64) (.pair (.int .u64) (.pair (.int .i64) .str))) 0 d.2.1.2.1]⟩, some ⟨d.2.2.1.1, [.seq (.pair (.int .u64) (.pair (.int .u64) (.pair (.int .i64) .str))) 0 d.2.2.1.2.1]⟩]) k d.1.2.2.1
noncomputable def G73_1_4 (F k : Nat) : LoopS := mkG sh73_1_l4 [0, 1, 5] (outT [(.exit 0, []), (.ret, [4])]) (fun d K => A73_1_l4 (f73_1_l4 F) k d K) []
noncomputable def LT73_1 (F : Nat) : Nat → Option LoopS := ltab [(4, G73_1_4 F F)]
theorem L73_1_l4g (F k : Nat)   (l4 : Y73_1_l4) (X4 : LoopS) (d : sh73_1_l4.den) (K : KL) : A73_1_l4 ((fun (v2 : List (Int × (Int × (Int × ByteArray)))) (v3 : List (Int × (Int × (Int × ByteArray)))) (K0 : (Option Res)) (K1 : (Option Res)) (k : Nat) (v1 : Int) => cond (decide (v1 < ((v2.length : Nat) : Int))) (cond (decide ((0 : Int) ≤ v1 ∧ v1 < ((v2.length : Nat) : Int))) (cond (decide (0 + v1.toNat < v2.length)) (cond (decide ((0 : Int) ≤ v1 ∧ v1 < ((v3.length : Nat) : Int))) (cond (decide (0 + v1.toNat < v3.length)) (cond (!((((v2.getD (0 + v1.toNat) (0, (0, (0, ByteArray.empty)))).1) == ((v3.getD (0 + v1.toNat) (0, (0, (0, ByteArray.empty)))).1)) && (((((v2.getD (0 + v1.toNat) (0, (0, (0, ByteArray.empty)))).2).1) == (((v3.getD (0 + v1.toNat) (0, (0, (0, ByteArray.empty)))).2).1)) && ((((((v2.getD (0 + v1.toNat) (0, (0, (0, ByteArray.empty)))).2).2).1) == ((((v3.getD (0 + v1.toNat) (0, (0, (0, ByteArray.empty)))).2).2).1)) && (((((v2.getD (0 + v1.toNat) (0, (0, (0, ByteArray.empty)))).2).2).2).toList == ((((v3.getD (0 + v1.toNat) (0, (0, (0, ByteArray.empty)))).2).2).2).toList))))) (K0) (l4 v2 v3 K0 K1 k (IntKind.i64.wrap (v1 + 1)))) none) none) none) none) (K1))) k d K = roundOf Tryz.prog TB73_1 (xw []) 26 2 (ltab [(4, X4)]) (mkG sh73_1_l4 [0, 1, 5] (outT [(.exit 0, []), (.ret, [4])]) (fun d K => A73_1_l4 l4 k d K) []) b73_0 (encT sh73_1_l4.vs d.1) (encH sh73_1_l4.h d.2) K := by kernel_rfl
theorem L73_1_4 (F : Nat) : LoopOK Tryz.prog (T73_1 F) (xw []) 26 2 (LT73_1 F) (G73_1_4 F F) b73_0 :=
  loopOK_of (s := sh73_1_l4) (live := [0, 1, 5]) (out := (outT [(.exit 0, []), (.ret, [4])])) (mv := []) (fun k d K => A73_1_l4 (f73_1_l4 F) k d K) F (fun d K => by kernel_rfl)  (fun k d K => Eq.mp (by kernel_rfl) (L73_1_l4g F k   (f73_1_l4 F) (G73_1_4 F F) d K))
theorem E73_1g (F : Nat)  (l4 : Y73_1_l4)  (d : sh73_1.den) (K : KF) : evBody Tryz.prog TB73_1 (xw []) 26 2 (ltab [(4, mkG sh73_1_l4 [0, 1, 5] (outT [(.exit 0, []), (.ret, [4])]) (fun d K => A73_1_l4 l4 F d K) [])]) [] code73 Tryz.f73.results.toList (encT sh73_1.vs d.1) (encH sh73_1.h d.2) K = A73_1 (fun (a1 : List (Int × (Int × (Int × ByteArray)))) (a2 : List (Int × (Int × (Int × ByteArray)))) (K0 : (Bool → Option Res)) => cond (((a1.length : Nat) : Int) != ((a2.length : Nat) : Int)) (K0 false) (l4 a1 a2 (K0 false) (K0 true) F 0)) d K := by kernel_rfl
theorem E73_1 (F : Nat) (d : sh73_1.den) (K : KF) : evBody Tryz.prog (T73_1 F) (xw []) 26 2 (LT73_1 F) [] code73 Tryz.f73.results.toList (encT sh73_1.vs d.1) (encH sh73_1.h d.2) K = A73_1 (f73_1 F) d K := Eq.mp (by kernel_rfl) (E73_1g F  (f73_1_l4 F)  d K)
theorem S73_1_ok (F : Nat) (o : Summ) (ho : SoundFn Tryz.prog 73 o) : SoundFn Tryz.prog 73 (S73_1 F o) :=
  soundFn_of (fn := Tryz.f73) (c := code73) rfl rfl (by kernel_rfl) tab_nil (by kernel_rfl) (by kernel_rfl) ho (by rw [loops73]; exact (loopsOK_cons (by kernel_rfl) (L73_1_4 F) loopsOK_nil)) (by rw [scopes73]; exact scopesOK_nil) (by rw [ranges73]; exact rangesOK_nil) (E73_1 F)
end Go.Proofs.YtlgopekjjkdkiaaGreatDoor.X
end

section
namespace Go.Proofs.YtlgopekjjkdkiaaGreatDoor.X
open Go Go.Proofs.YtlgopekjjkdkiaaGreatDoor.Ev Go.Proofs
set_option linter.unusedVariables false
set_option linter.unusedSectionVars false
/-! pentimentoref06.Disk).Fuse -/
noncomputable def f75_1 {β : Type} (F : Nat) (a1 : Int) (a2 : Int) (a3 : Bool) (a4 : Int) (a5 : List ByteArray) (a6 : List (Int × ByteArray)) (K0 : Int → Option β) : Option β := K0 (if (-1) > a1 then (-1) else a1)
variable [FZ]
def sh75_1 : Sh := ⟨[.lf (.ptr 0 0), .lf (.int .i64)], [some ⟨some false, [.full 1, .full 2, .int .i64, .bool, .int .i64]⟩, some ⟨none, [.seq .str 0]⟩, some ⟨none, [.seq (.pair (.int .i64) .str) 0]⟩]⟩
abbrev Y75_1 := Int → Int → Bool → Int → List ByteArray → List (Int × ByteArray) → (Int → Option Res) → Option Res
noncomputable def A75_1 (g : Y75_1) (d : sh75_1.den) (K : KF) : Option Res := g d.1.2.1 d.2.1.2.2.2.1 d.2.1.2.2.2.2.1 d.2.1.2.2.2.2.2.1 d.2.2.1.2.1 d.2.2.2.1.2.1 (fun (y0 : Int) => K [] [some ⟨false, [.full 1, .full 2, .int .i64 y0, .bool d.2.1.2.2.2.2.1, .int .i64 d.2.1.2.2.2.2.2.1]⟩, some ⟨d.2.2.1.1, [.seq .str 0 d.2.2.1.2.1]⟩, some ⟨d.2.2.2.1.1, [.seq (.pair (.int .i64) .str) 0 d.2.2.2.1.2.1]⟩])
noncomputable def S75_1 (F : Nat) (o : Summ) : Summ := mkS sh75_1 (fun d K => A75_1 (f75_1 F) d K) o
noncomputable def code75 : Code := bodyOf Tryz.f75
theorem scopes75 : scopesOf code75 = [] := by kernel_rfl
theorem ranges75 : rangesOf code75 = [] := by kernel_rfl
theorem loops75 : loopsOf code75 = [] := by kernel_rfl
theorem enter75 : ∀ args w, (callFunc 75 args).run Tryz.prog w = .ok (.enter 75 args) w := enter_of (fn := Tryz.f75) (by kernel_rfl) (by kernel_rfl) (by kernel_rfl)
noncomputable def T75_1 (F : Nat) : FuncId → Option Summ := tab []
noncomputable def TB75_1  : FuncId → Option Summ := tab []
noncomputable def LT75_1 (F : Nat) : Nat → Option LoopS := ltab []
theorem E75_1g (F : Nat)    (d : sh75_1.den) (K : KF) : evBody Tryz.prog TB75_1 (xw []) 9 3 (ltab []) [] code75 Tryz.f75.results.toList (encT sh75_1.vs d.1) (encH sh75_1.h d.2) K = A75_1 (fun (a1 : Int) (a2 : Int) (a3 : Bool) (a4 : Int) (a5 : List ByteArray) (a6 : List (Int × ByteArray)) (K0 : (Int → Option Res)) => K0 (if (-1) > a1 then (-1) else a1)) d K := by kernel_rfl
theorem E75_1 (F : Nat) (d : sh75_1.den) (K : KF) : evBody Tryz.prog (T75_1 F) (xw []) 9 3 (LT75_1 F) [] code75 Tryz.f75.results.toList (encT sh75_1.vs d.1) (encH sh75_1.h d.2) K = A75_1 (f75_1 F) d K := Eq.mp (by kernel_rfl) (E75_1g F    d K)
theorem S75_1_ok (F : Nat) (o : Summ) (ho : SoundFn Tryz.prog 75 o) : SoundFn Tryz.prog 75 (S75_1 F o) :=
  soundFn_of (fn := Tryz.f75) (c := code75) rfl rfl (by kernel_rfl) tab_nil (by kernel_rfl) (by kernel_rfl) ho (by rw [loops75]; exact loopsOK_nil) (by rw [scopes75]; exact scopesOK_nil) (by rw [ranges75]; exact rangesOK_nil) (E75_1 F)
end Go.Proofs.YtlgopekjjkdkiaaGreatDoor.X
end

section
namespace Go.Proofs.YtlgopekjjkdkiaaGreatDoor.X
open Go Go.Proofs.YtlgopekjjkdkiaaGreatDoor.Ev Go.Proofs
set_option linter.unusedVariables false
set_option linter.unusedSectionVars false
/-! pentimentoref06.Disk).Up -/
noncomputable def f76_1 {β : Type} (F : Nat) (a1 : Int) (a2 : Bool) (a3 : Int) (a4 : List ByteArray) (a5 : List (Int × ByteArray)) (K0 : Int → Int → Bool → List (Int × ByteArray) → Option β) : Option β := cond (!a2) (K0 21 a1 a2 a5) (K0 0 (-1) false [])
variable [FZ]
def sh76_1 : Sh := ⟨[.lf (.ptr 0 0)], [some ⟨some false, [.full 1, .full 2, .int .i64, .bool, .int .i64]⟩, some ⟨none, [.seq .str 0]⟩, some ⟨some false, [.seq (.pair (.int .i64) .str) 0]⟩]⟩
abbrev Y76_1 := Int → Bool → Int → List ByteArray → List (Int × ByteArray) → (Int → Int → Bool → List (Int × ByteArray) → Option Res) → Option Res
noncomputable def A76_1 (g : Y76_1) (d : sh76_1.den) (K : KF) : Option Res := g d.2.1.2.2.2.1 d.2.1.2.2.2.2.1 d.2.1.2.2.2.2.2.1 d.2.2.1.2.1 d.2.2.2.1.2.1 (fun (y0 : Int) (y1 : Int) (y2 : Bool) (y5 : List (Int × ByteArray)) => K [.lf (.int .i64 y0)] [some ⟨false, [.full 1, .full 3, .int .i64 y1, .bool y2, .int .i64 d.2.1.2.2.2.2.2.1]⟩, some ⟨d.2.2.1.1, [.seq .str 0 d.2.2.1.2.1]⟩, none, some ⟨false, [.seq (.pair (.int .i64) .str) 0 y5]⟩])
noncomputable def S76_1 (F : Nat) (o : Summ) : Summ := mkS sh76_1 (fun d K => A76_1 (f76_1 F) d K) o
noncomputable def code76 : Code := bodyOf Tryz.f76
theorem scopes76 : scopesOf code76 = [] := by kernel_rfl
theorem ranges76 : rangesOf code76 = [] := by kernel_rfl
theorem loops76 : loopsOf code76 = [] := by kernel_rfl
theorem enter76 : ∀ args w, (callFunc 76 args).run Tryz.prog w = .ok (.enter 76 args) w := enter_of (fn := Tryz.f76) (by kernel_rfl) (by kernel_rfl) (by kernel_rfl)
noncomputable def T76_1 (F : Nat) : FuncId → Option Summ := tab []
noncomputable def TB76_1  : FuncId → Option Summ := tab []
noncomputable def LT76_1 (F : Nat) : Nat → Option LoopS := ltab []
theorem E76_1g (F : Nat)    (d : sh76_1.den) (K : KF) : evBody Tryz.prog TB76_1 (xw []) 17 3 (ltab []) [2] code76 Tryz.f76.results.toList (encT sh76_1.vs d.1) (encH sh76_1.h d.2) K = A76_1 (fun (a1 : Int) (a2 : Bool) (a3 : Int) (a4 : List ByteArray) (a5 : List (Int × ByteArray)) (K0 : (Int → Int → Bool → List (Int × ByteArray) → Option Res)) => cond (!a2) (K0 21 a1 a2 a5) (K0 0 (-1) false [])) d K := by kernel_rfl
theorem E76_1 (F : Nat) (d : sh76_1.den) (K : KF) : evBody Tryz.prog (T76_1 F) (xw []) 17 3 (LT76_1 F) [2] code76 Tryz.f76.results.toList (encT sh76_1.vs d.1) (encH sh76_1.h d.2) K = A76_1 (f76_1 F) d K := Eq.mp (by kernel_rfl) (E76_1g F    d K)
theorem S76_1_ok (F : Nat) (o : Summ) (ho : SoundFn Tryz.prog 76 o) : SoundFn Tryz.prog 76 (S76_1 F o) :=
  soundFn_of (fn := Tryz.f76) (c := code76) rfl rfl (by kernel_rfl) tab_nil (by kernel_rfl) (by kernel_rfl) ho (by rw [loops76]; exact loopsOK_nil) (by rw [scopes76]; exact scopesOK_nil) (by rw [ranges76]; exact rangesOK_nil) (E76_1 F)
end Go.Proofs.YtlgopekjjkdkiaaGreatDoor.X
end

section
namespace Go.Proofs.YtlgopekjjkdkiaaGreatDoor.X
open Go Go.Proofs.YtlgopekjjkdkiaaGreatDoor.Ev Go.Proofs
set_option linter.unusedVariables false
set_option linter.unusedSectionVars false
/-! pentimentolaw17.do -/
noncomputable def f14_1 [FZ] {β : Type} (F : Nat) (a1 : Int) (a2 : Int) (a3 : Int) (a4 : Int) (a5 : Int) (a6 : Int) (a7 : Int) (a8 : Int) (a9 : ByteArray) (a10 : Sl .bool) (a11 : Int) (a12 : Bool) (a13 : Int) (a14 : List ByteArray) (a15 : List (Int × ByteArray)) (a16 : Int) (a17 : Bool) (a18 : Int) (a19 : List ByteArray) (a20 : List (Int × ByteArray)) (K0 : Bool → Int → Bool → Int → List ByteArray → Int → Bool → Int → List ByteArray → List (Int × ByteArray) → List (Int × ByteArray) → Option β) : Option β := cond ((a5.tmod 5) == 0) (f65_1 F a1 a2 a3 a4 a6 a7 a8 a11 a12 a13 a14 a15 (fun x1 x2 x3 x4 x5 x6 x7 x8 x9 => f70_1 F a1 a2 a3 a4 a6 a7 a8 a16 a17 a18 a19 a20 (fun x10 x11 x12 x13 x14 x15 x16 x17 x18 => cond (true && ((x1 == x10) && ((x2 == x11) && (x3.toList == x12.toList)))) (K0 (x4 == x13) x5 x6 x7 x8 x14 x15 x16 x17 x9 x18) (K0 false x5 x6 x7 x8 x14 x15 x16 x17 x9 x18)) ) ) (cond ((a5.tmod 5) == 1) (f66_1 F a1 a2 a3 a4 a7 a11 a12 a13 a14 a15 (fun x19 x20 => f71_1 F a1 a2 a3 a4 a7 a16 a17 a18 a19 a20 (fun x21 x22 => f67_1 F a8 x20 (fun x23 x24 => f72_1 F a8 x22 (fun x25 x26 => f73_1 F x20 x22 (fun x27 => cond x27 (cond (x19 == x21) (cond (x23.toList == x25.toList) (K0 (x24 == x26) a11 a12 a13 a14 a16 a17 a18 a19 a15 a20) (K0 false a11 a12 a13 a14 a16 a17 a18 a19 a15 a20)) (K0 false a11 a12 a13 a14 a16 a17 a18 a19 a15 a20)) (K0 false a11 a12 a13 a14 a16 a17 a18 a19 a15 a20)) ) ) ) ) ) (cond ((a5.tmod 5) == 2) ((fun z1 => amb z1 (amb (amb z1 z1) (amb z1 z1))) (f24_1 F a8 a9 a11 a12 a13 a14 a15 (fun x28 x29 x30 x31 x32 => f74_1 F a8 a9 a16 a17 a18 a19 a20 (fun x33 x34 x35 x36 x37 => K0 (x28 == x33) x29 x30 x31 a14 x34 x35 x36 a19 x32 x37) ) )) (cond ((a5.tmod 5) == 3) (f29_1 F a6 a11 a12 a13 a14 a15 (fun x78 => f75_1 F a6 a16 a17 a18 a19 a20 (fun x79 => K0 true x78 a12 a13 a14 x79 a17 a18 a19 a15 a20) ) ) (f32_1 F a11 a12 a13 a14 a15 a10.dat (fun x80 x81 => f64_1 F a16 a17 a18 a19 a20 a10.dat (fun x82 x83 => f33_1 F (-1) true a13 x80 x81 (fun x84 x85 x86 x87 => f76_1 F (-1) true a18 x82 x83 (fun x88 x89 x90 x91 => K0 (x84 == x88) x85 x86 a13 x80 x89 x90 a18 x82 x87 x91) ) ) ) ))))
variable [FZ]
def sh14_1 : Sh := ⟨[.lf (.ptr 0 0), .lf (.ptr 3 0), .agg [.int .i64, .int .i64, .int .i64, .int .i64], .agg [.int .i64, .int .i64, .int .u64, .int .i64, .str, .sl .bool]], [some ⟨some false, [.full 1, .full 2, .int .i64, .bool, .int .i64]⟩, some ⟨some false, [.seq .str 0]⟩, some ⟨some false, [.seq (.pair (.int .i64) .str) 0]⟩, some ⟨some false, [.full 4, .full 5, .int .i64, .bool, .int .i64]⟩, some ⟨some false, [.seq .str 0]⟩, some ⟨some false, [.seq (.pair (.int .i64) .str) 0]⟩]⟩
abbrev Y14_1 := Int → Int → Int → Int → Int → Int → Int → Int → ByteArray → Sl .bool → Int → Bool → Int → List ByteArray → List (Int × ByteArray) → Int → Bool → Int → List ByteArray → List (Int × ByteArray) → (Bool → Int → Bool → Int → List ByteArray → Int → Bool → Int → List ByteArray → List (Int × ByteArray) → List (Int × ByteArray) → Option Res) → Option Res
noncomputable def A14_1 (g : Y14_1) (d : sh14_1.den) (K : KF) : Option Res := g d.1.2.2.1.1 d.1.2.2.1.2.1 d.1.2.2.1.2.2.1 d.1.2.2.1.2.2.2.1 d.1.2.2.2.1.1 d.1.2.2.2.1.2.1 d.1.2.2.2.1.2.2.1 d.1.2.2.2.1.2.2.2.1 d.1.2.2.2.1.2.2.2.2.1 d.1.2.2.2.1.2.2.2.2.2.1 d.2.1.2.2.2.1 d.2.1.2.2.2.2.1 d.2.1.2.2.2.2.2.1 d.2.2.1.2.1 d.2.2.2.1.2.1 d.2.2.2.2.1.2.2.2.1 d.2.2.2.2.1.2.2.2.2.1 d.2.2.2.2.1.2.2.2.2.2.1 d.2.2.2.2.2.1.2.1 d.2.2.2.2.2.2.1.2.1 (fun (y0 : Bool) (y1 : Int) (y2 : Bool) (y3 : Int) (y4 : List ByteArray) (y5 : Int) (y6 : Bool) (y7 : Int) (y8 : List ByteArray) (y9 : List (Int × ByteArray)) (y10 : List (Int × ByteArray)) => K [.lf (.bool y0)] [some ⟨false, [.full 1, .full 6, .int .i64 y1, .bool y2, .int .i64 y3]⟩, some ⟨false, [.seq .str 0 y4]⟩, none, some ⟨false, [.full 4, .full 7, .int .i64 y5, .bool y6, .int .i64 y7]⟩, some ⟨false, [.seq .str 0 y8]⟩, none, some ⟨false, [.seq (.pair (.int .i64) .str) 0 y9]⟩, some ⟨false, [.seq (.pair (.int .i64) .str) 0 y10]⟩])
noncomputable def S14_1 (F : Nat) (o : Summ) : Summ := mkS sh14_1 (fun d K => A14_1 (f14_1 F) d K) o
noncomputable def code14 : Code := bodyOf Tryz.f14
theorem scopes14 : scopesOf code14 = [] := by kernel_rfl
theorem ranges14 : rangesOf code14 = [] := by kernel_rfl
theorem loops14 : loopsOf code14 = [] := by kernel_rfl
theorem enter14 : ∀ args w, (callFunc 14 args).run Tryz.prog w = .ok (.enter 14 args) w := enter_of (fn := Tryz.f14) (by kernel_rfl) (by kernel_rfl) (by kernel_rfl)
noncomputable def T14_1 (F : Nat) : FuncId → Option Summ := tab [(24, (S24_1 F noS)), (29, (S29_1 F noS)), (32, (S32_1 F noS)), (33, (S33_1 F noS)), (64, (S64_1 F noS)), (65, (S65_1 F noS)), (66, (S66_1 F noS)), (67, (S67_1 F noS)), (70, (S70_1 F noS)), (71, (S71_1 F noS)), (72, (S72_1 F noS)), (73, (S73_1 F noS)), (74, (S74_1 F noS)), (75, (S75_1 F noS)), (76, (S76_1 F noS))]
noncomputable def TB14_1 (c24_1 : Y24_1) (c29_1 : Y29_1) (c32_1 : Y32_1) (c33_1 : Y33_1) (c64_1 : Y64_1) (c65_1 : Y65_1) (c66_1 : Y66_1) (c67_1 : Y67_1) (c70_1 : Y70_1) (c71_1 : Y71_1) (c72_1 : Y72_1) (c73_1 : Y73_1) (c74_1 : Y74_1) (c75_1 : Y75_1) (c76_1 : Y76_1) : FuncId → Option Summ := tab [(24, (mkS sh24_1 (fun d K => A24_1 c24_1 d K) noS)), (29, (mkS sh29_1 (fun d K => A29_1 c29_1 d K) noS)), (32, (mkS sh32_1 (fun d K => A32_1 c32_1 d K) noS)), (33, (mkS sh33_1 (fun d K => A33_1 c33_1 d K) noS)), (64, (mkS sh64_1 (fun d K => A64_1 c64_1 d K) noS)), (65, (mkS sh65_1 (fun d K => A65_1 c65_1 d K) noS)), (66, (mkS sh66_1 (fun d K => A66_1 c66_1 d K) noS)), (67, (mkS sh67_1 (fun d K => A67_1 c67_1 d K) noS)), (70, (mkS sh70_1 (fun d K => A70_1 c70_1 d K) noS)), (71, (mkS sh71_1 (fun d K => A71_1 c71_1 d K) noS)), (72, (mkS sh72_1 (fun d K => A72_1 c72_1 d K) noS)), (73, (mkS sh73_1 (fun d K => A73_1 c73_1 d K) noS)), (74, (mkS sh74_1 (fun d K => A74_1 c74_1 d K) noS)), (75, (mkS sh75_1 (fun d K => A75_1 c75_1 d K) noS)), (76, (mkS sh76_1 (fun d K => A76_1 c76_1 d K) noS))]
noncomputable def LT14_1 (F : Nat) : Nat → Option LoopS := ltab []
theorem E14_1g (F : Nat) (c24_1 : Y24_1) (c29_1 : Y29_1) (c32_1 : Y32_1) (c33_1 : Y33_1) (c64_1 : Y64_1) (c65_1 : Y65_1) (c66_1 : Y66_1) (c67_1 : Y67_1) (c70_1 : Y70_1) (c71_1 : Y71_1) (c72_1 : Y72_1) (c73_1 : Y73_1) (c74_1 : Y74_1) (c75_1 : Y75_1) (c76_1 : Y76_1)   (d : sh14_1.den) (K : KF) : evBody Tryz.prog (TB14_1 c24_1 c29_1 c32_1 c33_1 c64_1 c65_1 c66_1 c67_1 c70_1 c71_1 c72_1 c73_1 c74_1 c75_1 c76_1) (xw [16]) 146 6 (ltab []) [2, 5] code14 Tryz.f14.results.toList (encT sh14_1.vs d.1) (encH sh14_1.h d.2) K = A14_1 (fun (a1 : Int) (a2 : Int) (a3 : Int) (a4 : Int) (a5 : Int) (a6 : Int) (a7 : Int) (a8 : Int) (a9 : ByteArray) (a10 : Sl .bool) (a11 : Int) (a12 : Bool) (a13 : Int) (a14 : List ByteArray) (a15 : List (Int × ByteArray)) (a16 : Int) (a17 : Bool) (a18 : Int) (a19 : List ByteArray) (a20 : List (Int × ByteArray)) (K0 : (Bool → Int → Bool → Int → List ByteArray → Int → Bool → Int → List ByteArray → List (Int × ByteArray) → List (Int × ByteArray) → Option Res)) => cond ((a5.tmod 5) == 0) (c65_1 a1 a2 a3 a4 a6 a7 a8 a11 a12 a13 a14 a15 (fun x1 x2 x3 x4 x5 x6 x7 x8 x9 => c70_1 a1 a2 a3 a4 a6 a7 a8 a16 a17 a18 a19 a20 (fun x10 x11 x12 x13 x14 x15 x16 x17 x18 => cond (true && ((x1 == x10) && ((x2 == x11) && (x3.toList == x12.toList)))) (K0 (x4 == x13) x5 x6 x7 x8 x14 x15 x16 x17 x9 x18) (K0 false x5 x6 x7 x8 x14 x15 x16 x17 x9 x18)) ) ) (cond ((a5.tmod 5) == 1) (c66_1 a1 a2 a3 a4 a7 a11 a12 a13 a14 a15 (fun x19 x20 => c71_1 a1 a2 a3 a4 a7 a16 a17 a18 a19 a20 (fun x21 x22 => c67_1 a8 x20 (fun x23 x24 => c72_1 a8 x22 (fun x25 x26 => c73_1 x20 x22 (fun x27 => cond x27 (cond (x19 == x21) (cond (x23.toList == x25.toList) (K0 (x24 == x26) a11 a12 a13 a14 a16 a17 a18 a19 a15 a20) (K0 false a11 a12 a13 a14 a16 a17 a18 a19 a15 a20)) (K0 false a11 a12 a13 a14 a16 a17 a18 a19 a15 a20)) (K0 false a11 a12 a13 a14 a16 a17 a18 a19 a15 a20)) ) ) ) ) ) (cond ((a5.tmod 5) == 2) ((fun z1 => amb z1 (amb (amb z1 z1) (amb z1 z1))) (c24_1 a8 a9 a11 a12 a13 a14 a15 (fun x28 x29 x30 x31 x32 => c74_1 a8 a9 a16 a17 a18 a19 a20 (fun x33 x34 x35 x36 x37 => K0 (x28 == x33) x29 x30 x31 a14 x34 x35 x36 a19 x32 x37) ) )) (cond ((a5.tmod 5) == 3) (c29_1 a6 a11 a12 a13 a14 a15 (fun x78 => c75_1 a6 a16 a17 a18 a19 a20 (fun x79 => K0 true x78 a12 a13 a14 x79 a17 a18 a19 a15 a20) ) ) (c32_1 a11 a12 a13 a14 a15 a10.dat (fun x80 x81 => c64_1 a16 a17 a18 a19 a20 a10.dat (fun x82 x83 => c33_1 (-1) true a13 x80 x81 (fun x84 x85 x86 x87 => c76_1 (-1) true a18 x82 x83 (fun x88 x89 x90 x91 => K0 (x84 == x88) x85 x86 a13 x80 x89 x90 a18 x82 x87 x91) ) ) ) ))))) d K := by kernel_rfl
theorem E14_1 (F : Nat) (d : sh14_1.den) (K : KF) : evBody Tryz.prog (T14_1 F) (xw [16]) 146 6 (LT14_1 F) [2, 5] code14 Tryz.f14.results.toList (encT sh14_1.vs d.1) (encH sh14_1.h d.2) K = A14_1 (f14_1 F) d K := Eq.mp (by kernel_rfl) (E14_1g F (f24_1 F) (f29_1 F) (f32_1 F) (f33_1 F) (f64_1 F) (f65_1 F) (f66_1 F) (f67_1 F) (f70_1 F) (f71_1 F) (f72_1 F) (f73_1 F) (f74_1 F) (f75_1 F) (f76_1 F)   d K)
theorem S14_1_ok (F : Nat) (o : Summ) (ho : SoundFn Tryz.prog 14 o) : SoundFn Tryz.prog 14 (S14_1 F o) :=
  soundFn_of (fn := Tryz.f14) (c := code14) rfl rfl (by kernel_rfl) (tab_cons (S24_1_ok F _ (noS_sound enter24)) (tab_cons (S29_1_ok F _ (noS_sound enter29)) (tab_cons (S32_1_ok F _ (noS_sound enter32)) (tab_cons (S33_1_ok F _ (noS_sound enter33)) (tab_cons (S64_1_ok F _ (noS_sound enter64)) (tab_cons (S65_1_ok F _ (noS_sound enter65)) (tab_cons (S66_1_ok F _ (noS_sound enter66)) (tab_cons (S67_1_ok F _ (noS_sound enter67)) (tab_cons (S70_1_ok F _ (noS_sound enter70)) (tab_cons (S71_1_ok F _ (noS_sound enter71)) (tab_cons (S72_1_ok F _ (noS_sound enter72)) (tab_cons (S73_1_ok F _ (noS_sound enter73)) (tab_cons (S74_1_ok F _ (noS_sound enter74)) (tab_cons (S75_1_ok F _ (noS_sound enter75)) (tab_cons (S76_1_ok F _ (noS_sound enter76)) tab_nil))))))))))))))) (by kernel_rfl) (by kernel_rfl) ho (by rw [loops14]; exact loopsOK_nil) (by rw [scopes14]; exact scopesOK_nil) (by rw [ranges14]; exact rangesOK_nil) (E14_1 F)
end Go.Proofs.YtlgopekjjkdkiaaGreatDoor.X
end

section
namespace Go.Proofs.YtlgopekjjkdkiaaGreatDoor.X
open Go Go.Proofs.YtlgopekjjkdkiaaGreatDoor.Ev Go.Proofs
set_option linter.unusedVariables false
set_option linter.unusedSectionVars false
/-! pentimentoref06.Disk).Crash -/
noncomputable def f64_7155_l1 {β : Type} (F : Nat) (v1 : Int) (v2 : List Bool)  : Nat → Option β
  | 0 => none
  | k + 1 => none
noncomputable def f64_7155 {β : Type} (F : Nat) (a1 : List Bool)  : Option β := f64_7155_l1 F 0 a1 F
variable [FZ]
def sh64_7155 : Sh := ⟨[.lf (.nilp), .lf (.full 0)], [some ⟨none, [.seq .bool 0]⟩]⟩
abbrev Y64_7155 := List Bool → Option Res
noncomputable def A64_7155 (g : Y64_7155) (d : sh64_7155.den) (K : KF) : Option Res := g d.2.1.2.1
noncomputable def S64_7155 (F : Nat) (o : Summ) : Summ := mkS sh64_7155 (fun d K => A64_7155 (f64_7155 F) d K) o
noncomputable def T64_7155 (F : Nat) : FuncId → Option Summ := tab []
noncomputable def TB64_7155  : FuncId → Option Summ := tab []
def sh64_7155_l1 : Sh := ⟨[.lf (.nilp), .lf (.full 0), .lf (.int .i64)], [some ⟨none, [.seq .bool 0]⟩]⟩
abbrev Y64_7155_l1 := Int → List Bool → Nat → Option Res
noncomputable def A64_7155_l1 (g : Y64_7155_l1) (k : Nat) (d : sh64_7155_l1.den) (K : KL) : Option Res := g d.1.2.2.1 d.2.1.2.1 k
noncomputable def G64_7155_1 (F k : Nat) : LoopS := mkG sh64_7155_l1 [0, 1, 4] (outT []) (fun d K => A64_7155_l1 (f64_7155_l1 F) k d K) []
noncomputable def LT64_7155 (F : Nat) : Nat → Option LoopS := ltab [(1, G64_7155_1 F F)]
theorem L64_7155_l1g (F k : Nat)   (l1 : Y64_7155_l1) (X1 : LoopS) (d : sh64_7155_l1.den) (K : KL) : A64_7155_l1 ((fun (v1 : Int) (v2 : List Bool)  (k : Nat)  => none)) k d K = roundOf Tryz.prog TB64_7155 (xw []) 50 1 (ltab [(1, X1)]) (mkG sh64_7155_l1 [0, 1, 4] (outT []) (fun d K => A64_7155_l1 l1 k d K) []) b64_0 (encT sh64_7155_l1.vs d.1) (encH sh64_7155_l1.h d.2) K := by kernel_rfl
theorem L64_7155_1 (F : Nat) : LoopOK Tryz.prog (T64_7155 F) (xw []) 50 1 (LT64_7155 F) (G64_7155_1 F F) b64_0 :=
  loopOK_of (s := sh64_7155_l1) (live := [0, 1, 4]) (out := (outT [])) (mv := []) (fun k d K => A64_7155_l1 (f64_7155_l1 F) k d K) F (fun d K => by kernel_rfl)  (fun k d K => Eq.mp (by kernel_rfl) (L64_7155_l1g F k   (f64_7155_l1 F) (G64_7155_1 F F) d K))
theorem E64_7155g (F : Nat)  (l1 : Y64_7155_l1)  (d : sh64_7155.den) (K : KF) : evBody Tryz.prog TB64_7155 (xw []) 50 1 (ltab [(1, mkG sh64_7155_l1 [0, 1, 4] (outT []) (fun d K => A64_7155_l1 l1 F d K) [])]) [] code64 Tryz.f64.results.toList (encT sh64_7155.vs d.1) (encH sh64_7155.h d.2) K = A64_7155 (fun (a1 : List Bool)  => l1 0 a1 F) d K := by kernel_rfl
theorem E64_7155 (F : Nat) (d : sh64_7155.den) (K : KF) : evBody Tryz.prog (T64_7155 F) (xw []) 50 1 (LT64_7155 F) [] code64 Tryz.f64.results.toList (encT sh64_7155.vs d.1) (encH sh64_7155.h d.2) K = A64_7155 (f64_7155 F) d K := Eq.mp (by kernel_rfl) (E64_7155g F  (f64_7155_l1 F)  d K)
theorem S64_7155_ok (F : Nat) (o : Summ) (ho : SoundFn Tryz.prog 64 o) : SoundFn Tryz.prog 64 (S64_7155 F o) :=
  soundFn_of (fn := Tryz.f64) (c := code64) rfl rfl (by kernel_rfl) tab_nil (by kernel_rfl) (by kernel_rfl) ho (by rw [loops64]; exact (loopsOK_cons (by kernel_rfl) (L64_7155_1 F) loopsOK_nil)) (by rw [scopes64]; exact scopesOK_nil) (by rw [ranges64]; exact rangesOK_nil) (E64_7155 F)
end Go.Proofs.YtlgopekjjkdkiaaGreatDoor.X
end

section
namespace Go.Proofs.YtlgopekjjkdkiaaGreatDoor.X
open Go Go.Proofs.YtlgopekjjkdkiaaGreatDoor.Ev Go.Proofs
set_option linter.unusedVariables false
set_option linter.unusedSectionVars false
/-! pentimentoref06.Disk).Read -/
noncomputable def f124_6206 {β : Type} (F : Nat) (a1 : Int)  : Option β := none
variable [FZ]
def sh124_6206 : Sh := ⟨[.lf (.nilp), .lf (.int .i64)], []⟩
abbrev Y124_6206 := Int → Option Res
noncomputable def A124_6206 (g : Y124_6206) (d : sh124_6206.den) (K : KF) : Option Res := g d.1.2.1
noncomputable def S124_6206 (F : Nat) (o : Summ) : Summ := mkS sh124_6206 (fun d K => A124_6206 (f124_6206 F) d K) o
noncomputable def T124_6206 (F : Nat) : FuncId → Option Summ := tab []
noncomputable def TB124_6206  : FuncId → Option Summ := tab []
noncomputable def LT124_6206 (F : Nat) : Nat → Option LoopS := ltab []
theorem E124_6206g (F : Nat)    (d : sh124_6206.den) (K : KF) : evBody Tryz.prog TB124_6206 (xw []) 52 0 (ltab []) [] code124 Tryz.f124.results.toList (encT sh124_6206.vs d.1) (encH sh124_6206.h d.2) K = A124_6206 (fun (a1 : Int)  => none) d K := by kernel_rfl
theorem E124_6206 (F : Nat) (d : sh124_6206.den) (K : KF) : evBody Tryz.prog (T124_6206 F) (xw []) 52 0 (LT124_6206 F) [] code124 Tryz.f124.results.toList (encT sh124_6206.vs d.1) (encH sh124_6206.h d.2) K = A124_6206 (f124_6206 F) d K := Eq.mp (by kernel_rfl) (E124_6206g F    d K)
theorem S124_6206_ok (F : Nat) (o : Summ) (ho : SoundFn Tryz.prog 124 o) : SoundFn Tryz.prog 124 (S124_6206 F o) :=
  soundFn_of (fn := Tryz.f124) (c := code124) rfl rfl (by kernel_rfl) tab_nil (by kernel_rfl) (by kernel_rfl) ho (by rw [loops124]; exact (loopsOK_skip (by kernel_rfl) loopsOK_nil)) (by rw [scopes124]; exact scopesOK_nil) (by rw [ranges124]; exact rangesOK_nil) (E124_6206 F)
end Go.Proofs.YtlgopekjjkdkiaaGreatDoor.X
end

section
namespace Go.Proofs.YtlgopekjjkdkiaaGreatDoor.X
open Go Go.Proofs.YtlgopekjjkdkiaaGreatDoor.Ev Go.Proofs
set_option linter.unusedVariables false
set_option linter.unusedSectionVars false
/-! pentimentoref17.Append -/
noncomputable def f70_9797 {β : Type} (F : Nat) (a1 : Int) (a2 : Int) (a3 : Int) (a4 : Int) (a5 : Int) (a6 : Int) (a7 : Int) (K0 : Int → Option β) : Option β := f21_1 F a1 a2 a3 a4 (fun x1 => cond (!x1) (K0 12) (cond (decide (a5 < 0)) (K0 11) (cond (decide (a5 ≥ a3)) (K0 11) (cond (decide (a7 < 0)) (K0 3) (cond (decide (a7 ≥ a1)) (K0 3) (f25_1 F a1 a2 a3 a4 a7 (fun x2 => f124_6206 F x2 ) )))))) 
variable [FZ]
def sh70_9797 : Sh := ⟨[.lf (.nilp), .agg [.int .i64, .int .i64, .int .i64, .int .i64], .lf (.int .i64), .lf (.int .u64), .lf (.int .i64)], []⟩
abbrev Y70_9797 := Int → Int → Int → Int → Int → Int → Int → (Int → Option Res) → Option Res
noncomputable def A70_9797 (g : Y70_9797) (d : sh70_9797.den) (K : KF) : Option Res := g d.1.2.1.1 d.1.2.1.2.1 d.1.2.1.2.2.1 d.1.2.1.2.2.2.1 d.1.2.2.1 d.1.2.2.2.1 d.1.2.2.2.2.1 (fun (y4 : Int) => K [.agg [.int .u64 0, .int .u64 0, .int .i64 0, .str ByteArray.empty], .lf (.int .i64 y4)] [])
noncomputable def S70_9797 (F : Nat) (o : Summ) : Summ := mkS sh70_9797 (fun d K => A70_9797 (f70_9797 F) d K) o
noncomputable def T70_9797 (F : Nat) : FuncId → Option Summ := tab [(21, (S21_1 F noS)), (25, (S25_1 F noS)), (124, (S124_6206 F noS))]
noncomputable def TB70_9797 (c21_1 : Y21_1) (c25_1 : Y25_1) (c124_6206 : Y124_6206) : FuncId → Option Summ := tab [(21, (mkS sh21_1 (fun d K => A21_1 c21_1 d K) noS)), (25, (mkS sh25_1 (fun d K => A25_1 c25_1 d K) noS)), (124, (mkS sh124_6206 (fun d K => A124_6206 c124_6206 d K) noS))]
noncomputable def LT70_9797 (F : Nat) : Nat → Option LoopS := ltab []
theorem E70_9797g (F : Nat) (c21_1 : Y21_1) (c25_1 : Y25_1) (c124_6206 : Y124_6206)   (d : sh70_9797.den) (K : KF) : evBody Tryz.prog (TB70_9797 c21_1 c25_1 c124_6206) (xw []) 67 0 (ltab []) [] code70 Tryz.f70.results.toList (encT sh70_9797.vs d.1) (encH sh70_9797.h d.2) K = A70_9797 (fun (a1 : Int) (a2 : Int) (a3 : Int) (a4 : Int) (a5 : Int) (a6 : Int) (a7 : Int) (K0 : (Int → Option Res)) => c21_1 a1 a2 a3 a4 (fun x1 => cond (!x1) (K0 12) (cond (decide (a5 < 0)) (K0 11) (cond (decide (a5 ≥ a3)) (K0 11) (cond (decide (a7 < 0)) (K0 3) (cond (decide (a7 ≥ a1)) (K0 3) (c25_1 a1 a2 a3 a4 a7 (fun x2 => c124_6206 x2 ) )))))) ) d K := by kernel_rfl
theorem E70_9797 (F : Nat) (d : sh70_9797.den) (K : KF) : evBody Tryz.prog (T70_9797 F) (xw []) 67 0 (LT70_9797 F) [] code70 Tryz.f70.results.toList (encT sh70_9797.vs d.1) (encH sh70_9797.h d.2) K = A70_9797 (f70_9797 F) d K := Eq.mp (by kernel_rfl) (E70_9797g F (f21_1 F) (f25_1 F) (f124_6206 F)   d K)
theorem S70_9797_ok (F : Nat) (o : Summ) (ho : SoundFn Tryz.prog 70 o) : SoundFn Tryz.prog 70 (S70_9797 F o) :=
  soundFn_of (fn := Tryz.f70) (c := code70) rfl rfl (by kernel_rfl) (tab_cons (S21_1_ok F _ (noS_sound enter21)) (tab_cons (S25_1_ok F _ (noS_sound enter25)) (tab_cons (S124_6206_ok F _ (noS_sound enter124)) tab_nil))) (by kernel_rfl) (by kernel_rfl) ho (by rw [loops70]; exact loopsOK_nil) (by rw [scopes70]; exact scopesOK_nil) (by rw [ranges70]; exact rangesOK_nil) (E70_9797 F)
end Go.Proofs.YtlgopekjjkdkiaaGreatDoor.X
end

section
namespace Go.Proofs.YtlgopekjjkdkiaaGreatDoor.X
open Go Go.Proofs.YtlgopekjjkdkiaaGreatDoor.Ev Go.Proofs
set_option linter.unusedVariables false
set_option linter.unusedSectionVars false
/-! pentimentoref17.Scan -/
noncomputable def f71_3384_l5 {β : Type} (F : Nat) (v2 : Int) (v3 : Int) (v4 : Int) (v5 : Int) (v6 : Int) (v7 : Int) (v8 : List (Int × (Int × (Int × ByteArray)))) (K0 : Option β) : Nat → Option β
  | 0 => none
  | k + 1 => cond (decide (v3 < v6)) (f138_1 F v4 v5 v6 v7 0 (IntKind.i64.wrap (2 * v3)) (fun x9 => f124_6206 F x9 ) ) (K0)
noncomputable def f71_3384 {β : Type} (F : Nat) (a1 : Int) (a2 : Int) (a3 : Int) (a4 : Int) (a5 : Int) (K0 : Int → List (Int × (Int × (Int × ByteArray))) → Option β) : Option β := f21_1 F a1 a2 a3 a4 (fun x1 => cond (!x1) (K0 12 []) (f71_3384_l5 F a5 0 a1 a2 a3 a4 [] (K0 0 []) F)) 
variable [FZ]
def sh71_3384 : Sh := ⟨[.lf (.nilp), .agg [.int .i64, .int .i64, .int .i64, .int .i64], .lf (.int .u64)], []⟩
abbrev Y71_3384 := Int → Int → Int → Int → Int → (Int → List (Int × (Int × (Int × ByteArray))) → Option Res) → Option Res
noncomputable def A71_3384 (g : Y71_3384) (d : sh71_3384.den) (K : KF) : Option Res := g d.1.2.1.1 d.1.2.1.2.1 d.1.2.1.2.2.1 d.1.2.1.2.2.2.1 d.1.2.2.1 (fun (y0 : Int) (y1 : List (Int × (Int × (Int × ByteArray)))) => K [.lf (.full 0), .lf (.int .i64 y0)] [some ⟨false, [.seq (.pair (.int .u64) (.pair (.int .u64) (.pair (.int .i64) .str))) 0 y1]⟩])
noncomputable def S71_3384 (F : Nat) (o : Summ) : Summ := mkS sh71_3384 (fun d K => A71_3384 (f71_3384 F) d K) o
noncomputable def T71_3384 (F : Nat) : FuncId → Option Summ := tab [(21, (S21_1 F noS)), (124, (S124_6206 F noS)), (138, (S138_1 F noS))]
noncomputable def TB71_3384 (c21_1 : Y21_1) (c124_6206 : Y124_6206) (c138_1 : Y138_1) : FuncId → Option Summ := tab [(21, (mkS sh21_1 (fun d K => A21_1 c21_1 d K) noS)), (124, (mkS sh124_6206 (fun d K => A124_6206 c124_6206 d K) noS)), (138, (mkS sh138_1 (fun d K => A138_1 c138_1 d K) noS))]
def sh71_3384_l5 : Sh := ⟨[.lf (.nilp), .lf (.int .u64), .lf (.ptr 0 0), .lf (.full 1), .lf (.int .i64)], [some ⟨some false, [.int .i64, .int .i64, .int .i64, .int .i64]⟩, some ⟨some false, [.seq (.pair (.int .u64) (.pair (.int .u64) (.pair (.int .i64) .str))) 0]⟩]⟩
abbrev Y71_3384_l5 := Int → Int → Int → Int → Int → Int → List (Int × (Int × (Int × ByteArray))) → (Option Res) → Nat → Option Res
noncomputable def A71_3384_l5 (g : Y71_3384_l5) (k : Nat) (d : sh71_3384_l5.den) (K : KL) : Option Res := g d.1.2.1 d.1.2.2.2.2.1 d.2.1.2.1 d.2.1.2.2.1 d.2.1.2.2.2.1 d.2.1.2.2.2.2.1 d.2.2.1.2.1 (K (.exit 0) [.tv (.lf (.full 1))] [some ⟨false, [.int .i64 d.2.1.2.1, .int .i64 d.2.1.2.2.1, .int .i64 d.2.1.2.2.2.1, .int .i64 d.2.1.2.2.2.2.1]⟩, some ⟨false, [.seq (.pair (.int .u64) (.pair (.int .u64) (.pair (.int .i64) .str))) 0 d.2.2.1.2.1]⟩]) k
noncomputable def G71_3384_5 (F k : Nat) : LoopS := mkG sh71_3384_l5 [0, 2, 4, 8, 9] (outT [(.exit 0, [8])]) (fun d K => A71_3384_l5 (f71_3384_l5 F) k d K) []
noncomputable def LT71_3384 (F : Nat) : Nat → Option LoopS := ltab [(5, G71_3384_5 F F)]
theorem L71_3384_l5g (F k : Nat) (c21_1 : Y21_1) (c124_6206 : Y124_6206) (c138_1 : Y138_1)  (l5 : Y71_3384_l5) (X5 : LoopS) (d : sh71_3384_l5.den) (K : KL) : A71_3384_l5 ((fun (v2 : Int) (v3 : Int) (v4 : Int) (v5 : Int) (v6 : Int) (v7 : Int) (v8 : List (Int × (Int × (Int × ByteArray)))) (K0 : (Option Res)) (k : Nat)  => cond (decide (v3 < v6)) (c138_1 v4 v5 v6 v7 0 (IntKind.i64.wrap (2 * v3)) (fun x9 => c124_6206 x9 ) ) (K0))) k d K = roundOf Tryz.prog (TB71_3384 c21_1 c124_6206 c138_1) (xw []) 88 0 (ltab [(5, X5)]) (mkG sh71_3384_l5 [0, 2, 4, 8, 9] (outT [(.exit 0, [8])]) (fun d K => A71_3384_l5 l5 k d K) []) b71_0 (encT sh71_3384_l5.vs d.1) (encH sh71_3384_l5.h d.2) K := by kernel_rfl
theorem L71_3384_5 (F : Nat) : LoopOK Tryz.prog (T71_3384 F) (xw []) 88 0 (LT71_3384 F) (G71_3384_5 F F) b71_0 :=
  loopOK_of (s := sh71_3384_l5) (live := [0, 2, 4, 8, 9]) (out := (outT [(.exit 0, [8])])) (mv := []) (fun k d K => A71_3384_l5 (f71_3384_l5 F) k d K) F (fun d K => by kernel_rfl)  (fun k d K => Eq.mp (by kernel_rfl) (L71_3384_l5g F k (f21_1 F) (f124_6206 F) (f138_1 F)  (f71_3384_l5 F) (G71_3384_5 F F) d K))
theorem E71_3384g (F : Nat) (c21_1 : Y21_1) (c124_6206 : Y124_6206) (c138_1 : Y138_1) (l5 : Y71_3384_l5)  (d : sh71_3384.den) (K : KF) : evBody Tryz.prog (TB71_3384 c21_1 c124_6206 c138_1) (xw []) 88 0 (ltab [(5, mkG sh71_3384_l5 [0, 2, 4, 8, 9] (outT [(.exit 0, [8])]) (fun d K => A71_3384_l5 l5 F d K) [])]) [] code71 Tryz.f71.results.toList (encT sh71_3384.vs d.1) (encH sh71_3384.h d.2) K = A71_3384 (fun (a1 : Int) (a2 : Int) (a3 : Int) (a4 : Int) (a5 : Int) (K0 : (Int → List (Int × (Int × (Int × ByteArray))) → Option Res)) => c21_1 a1 a2 a3 a4 (fun x1 => cond (!x1) (K0 12 []) (l5 a5 0 a1 a2 a3 a4 [] (K0 0 []) F)) ) d K := by kernel_rfl
theorem E71_3384 (F : Nat) (d : sh71_3384.den) (K : KF) : evBody Tryz.prog (T71_3384 F) (xw []) 88 0 (LT71_3384 F) [] code71 Tryz.f71.results.toList (encT sh71_3384.vs d.1) (encH sh71_3384.h d.2) K = A71_3384 (f71_3384 F) d K := Eq.mp (by kernel_rfl) (E71_3384g F (f21_1 F) (f124_6206 F) (f138_1 F) (f71_3384_l5 F)  d K)
theorem S71_3384_ok (F : Nat) (o : Summ) (ho : SoundFn Tryz.prog 71 o) : SoundFn Tryz.prog 71 (S71_3384 F o) :=
  soundFn_of (fn := Tryz.f71) (c := code71) rfl rfl (by kernel_rfl) (tab_cons (S21_1_ok F _ (noS_sound enter21)) (tab_cons (S124_6206_ok F _ (noS_sound enter124)) (tab_cons (S138_1_ok F _ (noS_sound enter138)) tab_nil))) (by kernel_rfl) (by kernel_rfl) ho (by rw [loops71]; exact (loopsOK_cons (by kernel_rfl) (L71_3384_5 F) loopsOK_nil)) (by rw [scopes71]; exact scopesOK_nil) (by rw [ranges71]; exact rangesOK_nil) (E71_3384 F)
end Go.Proofs.YtlgopekjjkdkiaaGreatDoor.X
end

section
namespace Go.Proofs.YtlgopekjjkdkiaaGreatDoor.X
open Go Go.Proofs.YtlgopekjjkdkiaaGreatDoor.Ev Go.Proofs
set_option linter.unusedVariables false
set_option linter.unusedSectionVars false
/-! pentimentoref06.Disk).Write -/
noncomputable def f74_1385 {β : Type} (F : Nat) (a1 : Int) (a2 : ByteArray)  : Option β := none
variable [FZ]
def sh74_1385 : Sh := ⟨[.lf (.nilp), .lf (.int .i64), .lf (.str)], []⟩
abbrev Y74_1385 := Int → ByteArray → Option Res
noncomputable def A74_1385 (g : Y74_1385) (d : sh74_1385.den) (K : KF) : Option Res := g d.1.2.1 d.1.2.2.1
noncomputable def S74_1385 (F : Nat) (o : Summ) : Summ := mkS sh74_1385 (fun d K => A74_1385 (f74_1385 F) d K) o
noncomputable def T74_1385 (F : Nat) : FuncId → Option Summ := tab []
noncomputable def TB74_1385  : FuncId → Option Summ := tab []
noncomputable def LT74_1385 (F : Nat) : Nat → Option LoopS := ltab []
theorem E74_1385g (F : Nat)    (d : sh74_1385.den) (K : KF) : evBody Tryz.prog TB74_1385 (xw []) 40 0 (ltab []) [] code74 Tryz.f74.results.toList (encT sh74_1385.vs d.1) (encH sh74_1385.h d.2) K = A74_1385 (fun (a1 : Int) (a2 : ByteArray)  => none) d K := by kernel_rfl
theorem E74_1385 (F : Nat) (d : sh74_1385.den) (K : KF) : evBody Tryz.prog (T74_1385 F) (xw []) 40 0 (LT74_1385 F) [] code74 Tryz.f74.results.toList (encT sh74_1385.vs d.1) (encH sh74_1385.h d.2) K = A74_1385 (f74_1385 F) d K := Eq.mp (by kernel_rfl) (E74_1385g F    d K)
theorem S74_1385_ok (F : Nat) (o : Summ) (ho : SoundFn Tryz.prog 74 o) : SoundFn Tryz.prog 74 (S74_1385 F o) :=
  soundFn_of (fn := Tryz.f74) (c := code74) rfl rfl (by kernel_rfl) tab_nil (by kernel_rfl) (by kernel_rfl) ho (by rw [loops74]; exact loopsOK_nil) (by rw [scopes74]; exact scopesOK_nil) (by rw [ranges74]; exact rangesOK_nil) (E74_1385 F)
end Go.Proofs.YtlgopekjjkdkiaaGreatDoor.X
end

section
namespace Go.Proofs.YtlgopekjjkdkiaaGreatDoor.X
open Go Go.Proofs.YtlgopekjjkdkiaaGreatDoor.Ev Go.Proofs
set_option linter.unusedVariables false
set_option linter.unusedSectionVars false
/-! pentimentoref06.Disk).Fuse -/
noncomputable def f75_6206 {β : Type} (F : Nat) (a1 : Int)  : Option β := none
variable [FZ]
def sh75_6206 : Sh := ⟨[.lf (.nilp), .lf (.int .i64)], []⟩
abbrev Y75_6206 := Int → Option Res
noncomputable def A75_6206 (g : Y75_6206) (d : sh75_6206.den) (K : KF) : Option Res := g d.1.2.1
noncomputable def S75_6206 (F : Nat) (o : Summ) : Summ := mkS sh75_6206 (fun d K => A75_6206 (f75_6206 F) d K) o
noncomputable def T75_6206 (F : Nat) : FuncId → Option Summ := tab []
noncomputable def TB75_6206  : FuncId → Option Summ := tab []
noncomputable def LT75_6206 (F : Nat) : Nat → Option LoopS := ltab []
theorem E75_6206g (F : Nat)    (d : sh75_6206.den) (K : KF) : evBody Tryz.prog TB75_6206 (xw []) 9 0 (ltab []) [] code75 Tryz.f75.results.toList (encT sh75_6206.vs d.1) (encH sh75_6206.h d.2) K = A75_6206 (fun (a1 : Int)  => none) d K := by kernel_rfl
theorem E75_6206 (F : Nat) (d : sh75_6206.den) (K : KF) : evBody Tryz.prog (T75_6206 F) (xw []) 9 0 (LT75_6206 F) [] code75 Tryz.f75.results.toList (encT sh75_6206.vs d.1) (encH sh75_6206.h d.2) K = A75_6206 (f75_6206 F) d K := Eq.mp (by kernel_rfl) (E75_6206g F    d K)
theorem S75_6206_ok (F : Nat) (o : Summ) (ho : SoundFn Tryz.prog 75 o) : SoundFn Tryz.prog 75 (S75_6206 F o) :=
  soundFn_of (fn := Tryz.f75) (c := code75) rfl rfl (by kernel_rfl) tab_nil (by kernel_rfl) (by kernel_rfl) ho (by rw [loops75]; exact loopsOK_nil) (by rw [scopes75]; exact scopesOK_nil) (by rw [ranges75]; exact rangesOK_nil) (E75_6206 F)
end Go.Proofs.YtlgopekjjkdkiaaGreatDoor.X
end
