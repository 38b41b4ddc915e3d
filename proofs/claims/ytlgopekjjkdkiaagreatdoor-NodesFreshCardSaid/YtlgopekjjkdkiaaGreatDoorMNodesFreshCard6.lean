/- Merged: EvF43v5478, EvF112, EvF165, EvF166, EvF113, EvF44, EvF45, EvF46, EvF6, EvF175, EvF124, EvF140, EvF74, EvF143, EvF29, DiskN, EvF192, EvF154, EvF102, EvF153, EvF101, RecA, EvF128, EvF168, EvF100, RecB, RecC, EvF211, EvF142, NumA, EvF181, NumC, NumD, GeoA, GeoB, EvF170, GeoC, EvF167, EvF114, EvF169, EvF115, EvF116, NodeA, GeoD, EvF203, EvF177, GeoP, EvF171, NodeB, ShaB. -/
import Derived.Test.YtlgopekjjkdkiaaGreatDoorMNodesFreshCard3
import Derived.Test.YtlgopekjjkdkiaaGreatDoorProg
import Derived.KernelRfl
import Derived.Test.YtlgopekjjkdkiaaGreatDoorMNodesFreshCard4
import Derived.Test.YtlgopekjjkdkiaaGreatDoorMNodesFreshCard5
section
namespace Go.Proofs.YtlgopekjjkdkiaaGreatDoor.X
open Go Go.Proofs.YtlgopekjjkdkiaaGreatDoor.Ev Go.Proofs
set_option linter.unusedVariables false
set_option linter.unusedSectionVars false
section
noncomputable def f43_5478_l5 {β : Type} (F : Nat) (v3 v5 v6 v7 v8 : Int) (K0 : Int → List ByteArray → Option β) (K1 : List ByteArray → Option β) : Nat → Int → List ByteArray → Option β
  | 0, _, _ => none
  | k + 1, v4, v9 => cond (decide (v4 < v3)) (f103_6615 F v5 v6 v7 v8 v4 (fun x10 => cond (x10 != 0) (K0 x10 v9) (cond (decide ((v9.length + 1) * 16 ≤ 70368744177664)) (f43_5478_l5 F v3 v5 v6 v7 v8 K0 K1 k (IntKind.i64.wrap (v4 + 1)) (v9 ++ [ByteArray.empty])) none)) ) (K1 v9)
noncomputable def f43_5478 {β : Type} (F : Nat) (a1 a2 a3 a4 : Int) (K0 : Int → List ByteArray → Option β) : Option β := f90_1 F a1 a2 a3 a4 (fun x1 => cond (!x1) (K0 12 []) (f111_1 F a1 a2 a3 a4 (fun x2 => f43_5478_l5 F x2 a1 a2 a3 a4 (fun x11 x12 => K0 x11 []) (fun x13 => K0 0 x13) F 0 []) )) 
variable [FZ]
def sh43_5478 : Sh := ⟨[.lf (.nilp), .agg [.int .i64, .int .i64, .int .i64, .int .i64]], []⟩
abbrev Y43_5478 := Int → Int → Int → Int → (Int → List ByteArray → Option Res) → Option Res
noncomputable def A43_5478 (g : Y43_5478) (d : sh43_5478.den) (K : KF) : Option Res := g d.1.2.1.1 d.1.2.1.2.1 d.1.2.1.2.2.1 d.1.2.1.2.2.2.1 (fun y0 y1 => K [.lf (.full 0), .lf (.int .i64 y0)] [some ⟨false, [.seq .str 0 y1]⟩])
noncomputable def S43_5478 (F : Nat) (o : Summ) : Summ := mkS sh43_5478 (fun d K => A43_5478 (f43_5478 F) d K) o
noncomputable def T43_5478 (F : Nat) : FuncId → Option Summ := tab [(90, (S90_1 F noS)), (103, (S103_6615 F noS)), (111, (S111_1 F noS))]
def sh43_5478_l5 : Sh := ⟨[.lf (.nilp), .lf (.ptr 0 0), .lf (.full 1), .lf (.int .i64), .lf (.int .i64)], [some ⟨some false, [.int .i64, .int .i64, .int .i64, .int .i64]⟩, some ⟨some false, [.seq .str 0]⟩]⟩
abbrev Y43_5478_l5 := Int → Int → Int → Int → Int → (Int → List ByteArray → Option Res) → (List ByteArray → Option Res) → Nat → Int → List ByteArray → Option Res
noncomputable def A43_5478_l5 (g : Y43_5478_l5) (k : Nat) (d : sh43_5478_l5.den) (K : KL) : Option Res := g d.1.2.2.2.1 d.2.1.2.1 d.2.1.2.2.1 d.2.1.2.2.2.1 d.2.1.2.2.2.2.1 (fun y0 y5 => K .ret [.tv (.lf (.nils (some .str))), .tv (.lf (.int .i64 y0))] [some ⟨false, [.int .i64 d.2.1.2.1, .int .i64 d.2.1.2.2.1, .int .i64 d.2.1.2.2.2.1, .int .i64 d.2.1.2.2.2.2.1]⟩, some ⟨false, [.seq .str 0 y5]⟩]) (fun y4 => K (.exit 0) [.tv (.lf (.full 1))] [some ⟨false, [.int .i64 d.2.1.2.1, .int .i64 d.2.1.2.2.1, .int .i64 d.2.1.2.2.2.1, .int .i64 d.2.1.2.2.2.2.1]⟩, some ⟨false, [.seq .str 0 y4]⟩]) k d.1.2.2.2.2.1 d.2.2.1.2.1
noncomputable def G43_5478_5 (F k : Nat) : LoopS := mkG sh43_5478_l5 [0, 3, 6, 14, 15] (outT [(.exit 0, [6]), (.ret, [4, 5])]) (fun d K => A43_5478_l5 (f43_5478_l5 F) k d K) []
noncomputable def LT43_5478 (F : Nat) : Nat → Option LoopS := ltab [(5, G43_5478_5 F F)]
theorem L43_5478_5 (F : Nat) : LoopOK Tryz.prog (T43_5478 F) (xw []) 34 0 (LT43_5478 F) (G43_5478_5 F F) b43_0 :=
  loopOK_of (s := sh43_5478_l5) (live := [0, 3, 6, 14, 15]) (out := (outT [(.exit 0, [6]), (.ret, [4, 5])])) (mv := []) (fun k d K => A43_5478_l5 (f43_5478_l5 F) k d K) F (fun d K => by kernel_rfl)  (fun k d K => by delta A43_5478_l5; refine (f43_5478_l5.eq_2 ..).trans ?_; delta T43_5478 S90_1 S103_6615 S111_1 LT43_5478; generalize (G43_5478_5 F F) = c;  (try delta G43_5478_5); generalize (f90_1 F : Y90_1) = c, (f103_6615 F : Y103_6615) = c, (f111_1 F : Y111_1) = c, (f43_5478_l5 F : Y43_5478_l5) = c; as_aux_lemma => kernel_rfl)
theorem E43_5478 (F : Nat) (d : sh43_5478.den) (K : KF) : EB Tryz.prog (T43_5478 F) (xw []) 34 0 (LT43_5478 F) [] false Tryz.f43 sh43_5478 d K = A43_5478 (f43_5478 F) d K := by delta A43_5478 f43_5478 T43_5478 S90_1 S103_6615 S111_1 LT43_5478;  delta G43_5478_5; generalize (f90_1 F : Y90_1) = c, (f103_6615 F : Y103_6615) = c, (f111_1 F : Y111_1) = c, (f43_5478_l5 F : Y43_5478_l5) = c; as_aux_lemma => kernel_rfl
theorem S43_5478_ok : So Tryz.prog 43 S43_5478 :=
  fun F o ho => sOf (fn := Tryz.f43) (c := code43) (tab_cons (S90_1_ok F _ (noS_sound enter90)) (tab_cons (S103_6615_ok F _ (noS_sound enter103)) (tab_cons (S111_1_ok F _ (noS_sound enter111)) tab_nil))) ho (by rw [loops43]; exact (loopsOK_cons (by kernel_rfl) (L43_5478_5 F) loopsOK_nil)) snil rnil (E43_5478 F)
end
section
noncomputable def f112_1 {β : Type} (F : Nat) (a1 : ByteArray) (K0 : Bool → Option β) : Option β := K0 ((a1.size : Int) == 64)
variable [FZ]
def sh112_1 : Sh := ⟨[.lf (.str)], []⟩
abbrev Y112_1 := ByteArray → (Bool → Option Res) → Option Res
noncomputable def A112_1 (g : Y112_1) (d : sh112_1.den) (K : KF) : Option Res := g d.1.1 (fun y0 => K [.lf (.bool y0)] [])
noncomputable def S112_1 (F : Nat) (o : Summ) : Summ := mkS sh112_1 (fun d K => A112_1 (f112_1 F) d K) o
noncomputable def code112 : Code := bodyOf Tryz.f112
theorem enter112 : En Tryz.prog 112 := enO (fn := Tryz.f112)
noncomputable def T112_1 (F : Nat) : FuncId → Option Summ := tab []
noncomputable def LT112_1 (F : Nat) : Nat → Option LoopS := ltab []
theorem E112_1 (F : Nat) (d : sh112_1.den) (K : KF) : EB Tryz.prog (T112_1 F) (xw []) 6 0 (LT112_1 F) [] false Tryz.f112 sh112_1 d K = A112_1 (f112_1 F) d K := by delta A112_1 f112_1 T112_1 LT112_1;   as_aux_lemma => kernel_rfl
theorem S112_1_ok : So Tryz.prog 112 S112_1 :=
  fun F o ho => sOf (fn := Tryz.f112) (c := code112) tab_nil ho lnil snil rnil (E112_1 F)
end
section
noncomputable def f165_1_l10 {β : Type} (F : Nat) (v10 v11 v12 v13 v15 v16 v17 v18 : Int) (v19 : List Int) (K0 : List Int → Option β) : Nat → Int → List Int → Option β
  | 0, _, _ => none
  | k + 1, v14, v20 => cond (decide (v14 < v16)) (cond (decide ((0 : Int) ≤ v12 ∧ v12 < ((v19.length : Nat) : Int))) (cond (decide (0 + v12.toNat < v19.length)) (cond (decide (IntKind.i64.wrap ((IntKind.i64.wrap ((IntKind.i64.wrap (v10 - v13)) * v16)) + v14) < v19.getD (0 + v12.toNat) 0)) (cond (decide ((v20.length + 1) * 8 ≤ 70368744177664)) (f165_1_l10 F v10 v11 v12 v13 v15 v16 v17 v18 v19 K0 k (IntKind.i64.wrap (v14 + 1)) (v20 ++ [IntKind.i64.wrap (v11 + (IntKind.i64.wrap ((IntKind.i64.wrap ((IntKind.i64.wrap (v10 - v13)) * v16)) + v14)))])) none) (f165_1_l10 F v10 v11 v12 v13 v15 v16 v17 v18 v19 K0 k (IntKind.i64.wrap (v14 + 1)) v20)) none) none) (K0 v20)
noncomputable def f165_1_l4 {β : Type} (F : Nat) (v2 v5 v6 v7 v8 : Int) (v9 : List Int) (K0 : List Int → Option β) (K1 : Option β) : Nat → Int → Int → Option β
  | 0, _, _ => none
  | k + 1, v3, v4 => cond (decide (IntKind.i64.wrap (v4 + 1) < ((v9.length : Nat) : Int))) (cond (decide ((0 : Int) ≤ v4 ∧ v4 < ((v9.length : Nat) : Int))) (cond (decide (0 + v4.toNat < v9.length)) (cond (decide (v2 ≥ IntKind.i64.wrap (v3 + (v9.getD (0 + v4.toNat) 0)))) (cond (decide ((0 : Int) ≤ IntKind.i64.wrap (v4 + 1) ∧ IntKind.i64.wrap (v4 + 1) < ((v9.length : Nat) : Int))) (cond (decide (0 + ((IntKind.i64.wrap (v4 + 1)).toNat) < v9.length)) (cond (decide (v2 < IntKind.i64.wrap ((IntKind.i64.wrap (v3 + (v9.getD (0 + v4.toNat) 0))) + (v9.getD (0 + ((IntKind.i64.wrap (v4 + 1)).toNat)) 0)))) (f165_1_l10 F v2 v3 v4 (IntKind.i64.wrap (v3 + (v9.getD (0 + v4.toNat) 0))) v5 v6 v7 v8 v9 (fun x21 => K0 x21) F 0 []) (f165_1_l4 F v2 v5 v6 v7 v8 v9 K0 K1 k (IntKind.i64.wrap (v3 + (v9.getD (0 + v4.toNat) 0))) (IntKind.i64.wrap (v4 + 1)))) none) none) (f165_1_l4 F v2 v5 v6 v7 v8 v9 K0 K1 k (IntKind.i64.wrap (v3 + (v9.getD (0 + v4.toNat) 0))) (IntKind.i64.wrap (v4 + 1)))) none) none) (K1)
noncomputable def f165_1 {β : Type} (F : Nat) (a1 a2 a3 a4 a5 : Int) (K0 : List Int → Option β) : Option β := f98_1 F a1 a2 a3 a4 (fun x1 => f165_1_l4 F a5 a1 a2 a3 a4 x1 (fun x22 => K0 x22) (K0 []) F 0 0) 
variable [FZ]
def sh165_1 : Sh := ⟨[.agg [.int .i64, .int .i64, .int .i64, .int .i64], .lf (.int .i64)], []⟩
abbrev Y165_1 := Int → Int → Int → Int → Int → (List Int → Option Res) → Option Res
noncomputable def A165_1 (g : Y165_1) (d : sh165_1.den) (K : KF) : Option Res := g d.1.1.1 d.1.1.2.1 d.1.1.2.2.1 d.1.1.2.2.2.1 d.1.2.1 (fun y0 => K [.lf (.full 0)] [some ⟨false, [.seq (.int .i64) 0 y0]⟩])
noncomputable def S165_1 (F : Nat) (o : Summ) : Summ := mkS sh165_1 (fun d K => A165_1 (f165_1 F) d K) o
noncomputable def code165 : Code := bodyOf Tryz.f165
noncomputable def b165_0 : Code := cB (cB (cR (cL (cR (cR (cR (code165)))))))
noncomputable def b165_1 : Code := cB (cB (cR (cL (cR (cT (cR (cL (cR (cB (cL (cR (cB (cB (cR (cL (cR (cR (cR (code165)))))))))))))))))))
theorem loops165 : loopsOf code165 = [b165_0, b165_1] := by kernel_rfl
theorem enter165 : En Tryz.prog 165 := enO (fn := Tryz.f165)
noncomputable def T165_1 (F : Nat) : FuncId → Option Summ := tab [(98, (S98_1 F noS))]
def sh165_1_l10 : Sh := ⟨[.lf (.int .i64), .lf (.ptr 0 0), .lf (.full 1), .lf (.int .i64), .lf (.int .i64), .lf (.int .i64), .lf (.full 2), .lf (.int .i64)], [some ⟨some false, [.int .i64, .int .i64, .int .i64, .int .i64]⟩, some ⟨some false, [.seq (.int .i64) 0]⟩, some ⟨some false, [.seq (.int .i64) 0]⟩]⟩
abbrev Y165_1_l10 := Int → Int → Int → Int → Int → Int → Int → Int → List Int → (List Int → Option Res) → Nat → Int → List Int → Option Res
noncomputable def A165_1_l10 (g : Y165_1_l10) (k : Nat) (d : sh165_1_l10.den) (K : KL) : Option Res := g d.1.1 d.1.2.2.2.1 d.1.2.2.2.2.1 d.1.2.2.2.2.2.1 d.2.1.2.1 d.2.1.2.2.1 d.2.1.2.2.2.1 d.2.1.2.2.2.2.1 d.2.2.1.2.1 (fun y5 => K (.exit 2) [.tv (.lf (.full 2))] [some ⟨false, [.int .i64 d.2.1.2.1, .int .i64 d.2.1.2.2.1, .int .i64 d.2.1.2.2.2.1, .int .i64 d.2.1.2.2.2.2.1]⟩, some ⟨false, [.seq (.int .i64) 0 d.2.2.1.2.1]⟩, some ⟨false, [.seq (.int .i64) 0 y5]⟩]) k d.1.2.2.2.2.2.2.2.1 d.2.2.2.1.2.1
def sh165_1_l4 : Sh := ⟨[.lf (.int .i64), .lf (.ptr 0 0), .lf (.full 1), .lf (.int .i64), .lf (.int .i64)], [some ⟨some false, [.int .i64, .int .i64, .int .i64, .int .i64]⟩, some ⟨some false, [.seq (.int .i64) 0]⟩]⟩
abbrev Y165_1_l4 := Int → Int → Int → Int → Int → List Int → (List Int → Option Res) → (Option Res) → Nat → Int → Int → Option Res
noncomputable def A165_1_l4 (g : Y165_1_l4) (k : Nat) (d : sh165_1_l4.den) (K : KL) : Option Res := g d.1.1 d.2.1.2.1 d.2.1.2.2.1 d.2.1.2.2.2.1 d.2.1.2.2.2.2.1 d.2.2.1.2.1 (fun y5 => K .ret [.tv (.lf (.full 2))] [some ⟨false, [.int .i64 d.2.1.2.1, .int .i64 d.2.1.2.2.1, .int .i64 d.2.1.2.2.2.1, .int .i64 d.2.1.2.2.2.2.1]⟩, some ⟨false, [.seq (.int .i64) 0 d.2.2.1.2.1]⟩, some ⟨false, [.seq (.int .i64) 0 y5]⟩]) (K (.exit 0) [] [some ⟨false, [.int .i64 d.2.1.2.1, .int .i64 d.2.1.2.2.1, .int .i64 d.2.1.2.2.2.1, .int .i64 d.2.1.2.2.2.2.1]⟩, some ⟨false, [.seq (.int .i64) 0 d.2.2.1.2.1]⟩]) k d.1.2.2.2.1 d.1.2.2.2.2.1
noncomputable def G165_1_10 (F k : Nat) : LoopS := mkG sh165_1_l10 [1, 2, 5, 6, 7, 8, 9, 10] (outT [(.exit 2, [9])]) (fun d K => A165_1_l10 (f165_1_l10 F) k d K) []
noncomputable def G165_1_4 (F k : Nat) : LoopS := mkG sh165_1_l4 [1, 2, 5, 6, 7] (outT [(.exit 0, []), (.ret, [4])]) (fun d K => A165_1_l4 (f165_1_l4 F) k d K) []
noncomputable def LT165_1 (F : Nat) : Nat → Option LoopS := ltab [(10, G165_1_10 F F), (4, G165_1_4 F F)]
theorem L165_1_10 (F : Nat) : LoopOK Tryz.prog (T165_1 F) (xw []) 69 0 (LT165_1 F) (G165_1_10 F F) b165_1 :=
  loopOK_of (s := sh165_1_l10) (live := [1, 2, 5, 6, 7, 8, 9, 10]) (out := (outT [(.exit 2, [9])])) (mv := []) (fun k d K => A165_1_l10 (f165_1_l10 F) k d K) F (fun d K => by kernel_rfl)  (fun k d K => by delta A165_1_l10; refine (f165_1_l10.eq_2 ..).trans ?_; delta T165_1 S98_1 LT165_1; generalize (G165_1_10 F F) = c, (G165_1_4 F F) = c;  (try delta G165_1_10); generalize (f98_1 F : Y98_1) = c, (f165_1_l10 F : Y165_1_l10) = c; as_aux_lemma => kernel_rfl)
theorem L165_1_4 (F : Nat) : LoopOK Tryz.prog (T165_1 F) (xw []) 69 0 (LT165_1 F) (G165_1_4 F F) b165_0 :=
  loopOK_of (s := sh165_1_l4) (live := [1, 2, 5, 6, 7]) (out := (outT [(.exit 0, []), (.ret, [4])])) (mv := []) (fun k d K => A165_1_l4 (f165_1_l4 F) k d K) F (fun d K => by kernel_rfl)  (fun k d K => by delta A165_1_l4; refine (f165_1_l4.eq_2 ..).trans ?_; delta T165_1 S98_1 LT165_1; generalize (G165_1_4 F F) = c;  (try delta G165_1_10 G165_1_4); generalize (f98_1 F : Y98_1) = c, (f165_1_l10 F : Y165_1_l10) = c, (f165_1_l4 F : Y165_1_l4) = c; as_aux_lemma => kernel_rfl)
theorem E165_1 (F : Nat) (d : sh165_1.den) (K : KF) : EB Tryz.prog (T165_1 F) (xw []) 69 0 (LT165_1 F) [] false Tryz.f165 sh165_1 d K = A165_1 (f165_1 F) d K := by delta A165_1 f165_1 T165_1 S98_1 LT165_1; generalize (G165_1_10 F F) = c;  delta G165_1_4; generalize (f98_1 F : Y98_1) = c, (f165_1_l4 F : Y165_1_l4) = c; as_aux_lemma => kernel_rfl
theorem S165_1_ok : So Tryz.prog 165 S165_1 :=
  fun F o ho => sOf (fn := Tryz.f165) (c := code165) (tab_cons (S98_1_ok F _ (noS_sound enter98)) tab_nil) ho (by rw [loops165]; exact (loopsOK_cons (by kernel_rfl) (L165_1_4 F) (loopsOK_cons (by kernel_rfl) (L165_1_10 F) loopsOK_nil))) snil rnil (E165_1 F)
end
section
noncomputable def f166_1_l3 {β : Type} (F : Nat) (v3 : List ByteArray) (K0 : ByteArray → Option β) : Nat → ByteArray → Int → Option β
  | 0, _, _ => none
  | k + 1, v1, v2 => cond (decide (v2 < ((v3.length : Nat) : Int))) (cond (decide ((0 : Int) ≤ v2 ∧ v2 < ((v3.length : Nat) : Int))) (cond (decide (0 + v2.toNat < v3.length)) (cond (decide (v1.size + (v3.getD (0 + v2.toNat) ByteArray.empty).size ≤ 4611686018427387904)) (f166_1_l3 F v3 K0 k (v1 ++ (v3.getD (0 + v2.toNat) ByteArray.empty)) (IntKind.i64.wrap (v2 + 1))) none) none) none) (K0 v1)
noncomputable def f166_1 {β : Type} (F : Nat) (a1 : List ByteArray) (K0 : ByteArray → Option β) : Option β := f166_1_l3 F a1 (fun x4 => f158_1 F (toInts x4) (fun x5 => K0 x5) ) F (⟨#[1]⟩ : ByteArray) 0
variable [FZ]
def sh166_1 : Sh := ⟨[.lf (.full 0)], [some ⟨none, [.seq .str 0]⟩]⟩
abbrev Y166_1 := List ByteArray → (ByteArray → Option Res) → Option Res
noncomputable def A166_1 (g : Y166_1) (d : sh166_1.den) (K : KF) : Option Res := g d.2.1.2.1 (fun y0 => K [.lf (.str y0)] [some ⟨d.2.1.1, [.seq .str 0 d.2.1.2.1]⟩])
noncomputable def S166_1 (F : Nat) (o : Summ) : Summ := mkS sh166_1 (fun d K => A166_1 (f166_1 F) d K) o
noncomputable def code166 : Code := bodyOf Tryz.f166
noncomputable def b166_0 : Code := cB (cB (cR (cL (cR (cR (code166))))))
theorem loops166 : loopsOf code166 = [b166_0] := by kernel_rfl
theorem enter166 : En Tryz.prog 166 := enO (fn := Tryz.f166)
noncomputable def T166_1 (F : Nat) : FuncId → Option Summ := tab [(158, (S158_1 F noS))]
def sh166_1_l3 : Sh := ⟨[.lf (.full 0), .lf (.str), .lf (.int .i64)], [some ⟨none, [.seq .str 0]⟩]⟩
abbrev Y166_1_l3 := List ByteArray → (ByteArray → Option Res) → Nat → ByteArray → Int → Option Res
noncomputable def A166_1_l3 (g : Y166_1_l3) (k : Nat) (d : sh166_1_l3.den) (K : KL) : Option Res := g d.2.1.2.1 (fun y0 => K (.exit 0) [.tv (.lf (.str y0))] [some ⟨d.2.1.1, [.seq .str 0 d.2.1.2.1]⟩]) k d.1.2.1 d.1.2.2.1
noncomputable def G166_1_3 (F k : Nat) : LoopS := mkG sh166_1_l3 [0, 3, 4] (outT [(.exit 0, [3])]) (fun d K => A166_1_l3 (f166_1_l3 F) k d K) []
noncomputable def LT166_1 (F : Nat) : Nat → Option LoopS := ltab [(3, G166_1_3 F F)]
theorem L166_1_3 (F : Nat) : LoopOK Tryz.prog (T166_1 F) (xw []) 20 1 (LT166_1 F) (G166_1_3 F F) b166_0 :=
  loopOK_of (s := sh166_1_l3) (live := [0, 3, 4]) (out := (outT [(.exit 0, [3])])) (mv := []) (fun k d K => A166_1_l3 (f166_1_l3 F) k d K) F (fun d K => by kernel_rfl)  (fun k d K => by delta A166_1_l3; refine (f166_1_l3.eq_2 ..).trans ?_; delta T166_1 S158_1 LT166_1; generalize (G166_1_3 F F) = c;  (try delta G166_1_3); generalize (f158_1 F : Y158_1) = c, (f166_1_l3 F : Y166_1_l3) = c; as_aux_lemma => kernel_rfl)
theorem E166_1 (F : Nat) (d : sh166_1.den) (K : KF) : EB Tryz.prog (T166_1 F) (xw []) 20 1 (LT166_1 F) [] false Tryz.f166 sh166_1 d K = A166_1 (f166_1 F) d K := by delta A166_1 f166_1 T166_1 S158_1 LT166_1;  delta G166_1_3; generalize (f158_1 F : Y158_1) = c, (f166_1_l3 F : Y166_1_l3) = c; as_aux_lemma => kernel_rfl
theorem S166_1_ok : So Tryz.prog 166 S166_1 :=
  fun F o ho => sOf (fn := Tryz.f166) (c := code166) (tab_cons (S158_1_ok F _ (noS_sound enter158)) tab_nil) ho (by rw [loops166]; exact (loopsOK_cons (by kernel_rfl) (L166_1_3 F) loopsOK_nil)) snil rnil (E166_1 F)
end
section
noncomputable def f113_1_l4 {β : Type} (F : Nat) (v3 : List ByteArray) (v5 : List Int) (K0 : List ByteArray → Option β) : Nat → Int → List ByteArray → Option β
  | 0, _, _ => none
  | k + 1, v2, v4 => cond (decide (v2 < ((v5.length : Nat) : Int))) (cond (decide ((0 : Int) ≤ v2 ∧ v2 < ((v5.length : Nat) : Int))) (cond (decide (0 + v2.toNat < v5.length)) (cond (decide ((0 : Int) ≤ v5.getD (0 + v2.toNat) 0 ∧ v5.getD (0 + v2.toNat) 0 < ((v3.length : Nat) : Int))) (cond (decide (0 + ((v5.getD (0 + v2.toNat) 0).toNat) < v3.length)) (cond (decide ((v4.length + 1) * 16 ≤ 70368744177664)) (f113_1_l4 F v3 v5 K0 k (IntKind.i64.wrap (v2 + 1)) (v4 ++ [v3.getD (0 + ((v5.getD (0 + v2.toNat) 0).toNat)) ByteArray.empty])) none) none) none) none) none) (K0 v4)
noncomputable def f113_1 {β : Type} (F : Nat) (a1 a2 a3 a4 a5 : Int) (a6 : List ByteArray) (K0 : ByteArray → Option β) : Option β := f165_1 F a1 a2 a3 a4 a5 (fun x1 => f113_1_l4 F a6 x1 (fun x6 => f166_1 F x6 (fun x7 => K0 x7) ) F 0 []) 
variable [FZ]
def sh113_1 : Sh := ⟨[.agg [.int .i64, .int .i64, .int .i64, .int .i64], .lf (.full 0), .lf (.int .i64)], [some ⟨none, [.seq .str 0]⟩]⟩
abbrev Y113_1 := Int → Int → Int → Int → Int → List ByteArray → (ByteArray → Option Res) → Option Res
noncomputable def A113_1 (g : Y113_1) (d : sh113_1.den) (K : KF) : Option Res := g d.1.1.1 d.1.1.2.1 d.1.1.2.2.1 d.1.1.2.2.2.1 d.1.2.2.1 d.2.1.2.1 (fun y0 => K [.lf (.str y0)] [some ⟨d.2.1.1, [.seq .str 0 d.2.1.2.1]⟩])
noncomputable def S113_1 (F : Nat) (o : Summ) : Summ := mkS sh113_1 (fun d K => A113_1 (f113_1 F) d K) o
noncomputable def code113 : Code := bodyOf Tryz.f113
noncomputable def b113_0 : Code := cB (cB (cR (cL (cR (cR (cR (code113)))))))
theorem loops113 : loopsOf code113 = [b113_0] := by kernel_rfl
theorem enter113 : En Tryz.prog 113 := enO (fn := Tryz.f113)
noncomputable def T113_1 (F : Nat) : FuncId → Option Summ := tab [(165, (S165_1 F noS)), (166, (S166_1 F noS))]
def sh113_1_l4 : Sh := ⟨[.lf (.full 0), .lf (.full 1), .lf (.full 2), .lf (.int .i64)], [some ⟨none, [.seq .str 0]⟩, some ⟨some false, [.seq .str 0]⟩, some ⟨some false, [.seq (.int .i64) 0]⟩]⟩
abbrev Y113_1_l4 := List ByteArray → List Int → (List ByteArray → Option Res) → Nat → Int → List ByteArray → Option Res
noncomputable def A113_1_l4 (g : Y113_1_l4) (k : Nat) (d : sh113_1_l4.den) (K : KL) : Option Res := g d.2.1.2.1 d.2.2.2.1.2.1 (fun y1 => K (.exit 0) [.tv (.lf (.full 1))] [some ⟨d.2.1.1, [.seq .str 0 d.2.1.2.1]⟩, some ⟨false, [.seq .str 0 y1]⟩, some ⟨false, [.seq (.int .i64) 0 d.2.2.2.1.2.1]⟩]) k d.1.2.2.2.1 d.2.2.1.2.1
noncomputable def G113_1_4 (F k : Nat) : LoopS := mkG sh113_1_l4 [1, 7, 8, 9] (outT [(.exit 0, [7])]) (fun d K => A113_1_l4 (f113_1_l4 F) k d K) []
noncomputable def LT113_1 (F : Nat) : Nat → Option LoopS := ltab [(4, G113_1_4 F F)]
theorem L113_1_4 (F : Nat) : LoopOK Tryz.prog (T113_1 F) (xw []) 31 1 (LT113_1 F) (G113_1_4 F F) b113_0 :=
  loopOK_of (s := sh113_1_l4) (live := [1, 7, 8, 9]) (out := (outT [(.exit 0, [7])])) (mv := []) (fun k d K => A113_1_l4 (f113_1_l4 F) k d K) F (fun d K => by kernel_rfl)  (fun k d K => by delta A113_1_l4; refine (f113_1_l4.eq_2 ..).trans ?_; delta T113_1 S165_1 S166_1 LT113_1; generalize (G113_1_4 F F) = c;  (try delta G113_1_4); generalize (f165_1 F : Y165_1) = c, (f166_1 F : Y166_1) = c, (f113_1_l4 F : Y113_1_l4) = c; as_aux_lemma => kernel_rfl)
theorem E113_1 (F : Nat) (d : sh113_1.den) (K : KF) : EB Tryz.prog (T113_1 F) (xw []) 31 1 (LT113_1 F) [] false Tryz.f113 sh113_1 d K = A113_1 (f113_1 F) d K := by delta A113_1 f113_1 T113_1 S165_1 S166_1 LT113_1;  delta G113_1_4; generalize (f165_1 F : Y165_1) = c, (f166_1 F : Y166_1) = c, (f113_1_l4 F : Y113_1_l4) = c; as_aux_lemma => kernel_rfl
theorem S113_1_ok : So Tryz.prog 113 S113_1 :=
  fun F o ho => sOf (fn := Tryz.f113) (c := code113) (tab_cons (S165_1_ok F _ (noS_sound enter165)) (tab_cons (S166_1_ok F _ (noS_sound enter166)) tab_nil)) ho (by rw [loops113]; exact (loopsOK_cons (by kernel_rfl) (L113_1_4 F) loopsOK_nil)) snil rnil (E113_1 F)
end
section
noncomputable def f44_1_l7 {β : Type} (F : Nat) (v3 : List ByteArray) (v4 v5 v6 v7 v8 v9 v10 v11 : Int) (K0 K1 : List ByteArray → Option β) : Nat → Int → List ByteArray → Option β
  | 0, _, _ => none
  | k + 1, v2, v12 => cond (decide (v2 < ((v3.length : Nat) : Int))) (cond (decide ((0 : Int) ≤ v2 ∧ v2 < ((v3.length : Nat) : Int))) (cond (decide (0 + v2.toNat < v3.length)) (f112_1 F (v3.getD (0 + v2.toNat) ByteArray.empty) (fun x13 => cond (!x13) (K0 v12) (cond (decide ((0 : Int) ≤ v2 ∧ v2 < ((v3.length : Nat) : Int))) (cond (decide (0 + v2.toNat < v3.length)) (f104_1 F (v3.getD (0 + v2.toNat) ByteArray.empty) (fun x14 => cond (decide ((v12.length + 1) * 16 ≤ 70368744177664)) (f44_1_l7 F v3 v4 v5 v6 v7 v8 v9 v10 v11 K0 K1 k (IntKind.i64.wrap (v2 + 1)) (v12 ++ [x14])) none) ) none) none)) ) none) none) (K1 v12)
noncomputable def f44_1_l14 {β : Type} (F : Nat) (v18 : Int) (v20 : List ByteArray) (v21 v22 v23 v24 v25 v26 v27 v28 : Int) (K0 : List ByteArray → Option β) : Nat → Int → List ByteArray → Option β
  | 0, _, _ => none
  | k + 1, v19, v29 => cond (decide (v19 < v18)) (f113_1 F v21 v22 v23 v24 v19 v29 (fun x30 => cond (decide ((v29.length + 1) * 16 ≤ 70368744177664)) (f44_1_l14 F v18 v20 v21 v22 v23 v24 v25 v26 v27 v28 K0 k (IntKind.i64.wrap (v19 + 1)) (v29 ++ [x30])) none) ) (K0 v29)
noncomputable def f44_1 {β : Type} (F : Nat) (a1 a2 a3 a4 : Int) (a5 : List ByteArray) (K0 : Int → Option β) (K1 : List ByteArray → Option β) : Option β := f21_1 F a1 a2 a3 a4 (fun x1 => cond (!x1) (K0 12) (cond (((a5.length : Nat) : Int) != a1) (K0 8) (f44_1_l7 F a5 a1 a2 a3 a4 a1 a2 a3 a4 (fun x15 => K0 4) (fun x16 => f36_1 F a1 a2 a3 a4 (fun x17 => f44_1_l14 F x17 a5 a1 a2 a3 a4 a1 a2 a3 a4 (fun x31 => K1 x31) F a1 x16) ) F 0 []))) 
variable [FZ]
def sh44_1 : Sh := ⟨[.agg [.int .i64, .int .i64, .int .i64, .int .i64], .lf (.full 0)], [some ⟨none, [.seq .str 0]⟩]⟩
abbrev Y44_1 := Int → Int → Int → Int → List ByteArray → (Int → Option Res) → (List ByteArray → Option Res) → Option Res
noncomputable def A44_1 (g : Y44_1) (d : sh44_1.den) (K : KF) : Option Res := g d.1.1.1 d.1.1.2.1 d.1.1.2.2.1 d.1.1.2.2.2.1 d.2.1.2.1 (fun y0 => K [.lf (.nilp), .lf (.int .i64 y0)] [some ⟨d.2.1.1, [.seq .str 0 d.2.1.2.1]⟩]) (fun y6 => K [.lf (.ptr 1 0), .lf (.int .i64 0)] [some ⟨d.2.1.1, [.seq .str 0 d.2.1.2.1]⟩, some ⟨false, [.int .i64 d.1.1.1, .int .i64 d.1.1.2.1, .int .i64 d.1.1.2.2.1, .int .i64 d.1.1.2.2.2.1, .full 2]⟩, some ⟨false, [.seq .str 0 y6]⟩])
noncomputable def S44_1 (F : Nat) (o : Summ) : Summ := mkS sh44_1 (fun d K => A44_1 (f44_1 F) d K) o
noncomputable def code44 : Code := bodyOf Tryz.f44
noncomputable def b44_0 : Code := cB (cB (cR (cL (cR (cR (cR (cR (code44))))))))
noncomputable def b44_1 : Code := cB (cB (cR (cL (cR (cR (cR (cR (cR (cR (code44))))))))))
theorem loops44 : loopsOf code44 = [b44_0, b44_1] := by kernel_rfl
theorem enter44 : En Tryz.prog 44 := enO (fn := Tryz.f44)
noncomputable def T44_1 (F : Nat) : FuncId → Option Summ := tab [(21, (S21_1 F noS)), (36, (S36_1 F noS)), (104, (S104_1 F noS)), (112, (S112_1 F noS)), (113, (S113_1 F noS))]
def sh44_1_l7 : Sh := ⟨[.lf (.full 0), .lf (.ptr 1 0), .lf (.ptr 2 0), .lf (.int .i64)], [some ⟨none, [.seq .str 0]⟩, some ⟨some false, [.int .i64, .int .i64, .int .i64, .int .i64]⟩, some ⟨some false, [.int .i64, .int .i64, .int .i64, .int .i64, .full 3]⟩, some ⟨some false, [.seq .str 0]⟩]⟩
abbrev Y44_1_l7 := List ByteArray → Int → Int → Int → Int → Int → Int → Int → Int → (List ByteArray → Option Res) → (List ByteArray → Option Res) → Nat → Int → List ByteArray → Option Res
noncomputable def A44_1_l7 (g : Y44_1_l7) (k : Nat) (d : sh44_1_l7.den) (K : KL) : Option Res := g d.2.1.2.1 d.2.2.1.2.1 d.2.2.1.2.2.1 d.2.2.1.2.2.2.1 d.2.2.1.2.2.2.2.1 d.2.2.2.1.2.1 d.2.2.2.1.2.2.1 d.2.2.2.1.2.2.2.1 d.2.2.2.1.2.2.2.2.1 (fun y10 => K .ret [.tv (.lf (.nilp)), .tv (.lf (.int .i64 4))] [some ⟨d.2.1.1, [.seq .str 0 d.2.1.2.1]⟩, some ⟨false, [.int .i64 d.2.2.1.2.1, .int .i64 d.2.2.1.2.2.1, .int .i64 d.2.2.1.2.2.2.1, .int .i64 d.2.2.1.2.2.2.2.1]⟩, some ⟨false, [.int .i64 d.2.2.2.1.2.1, .int .i64 d.2.2.2.1.2.2.1, .int .i64 d.2.2.2.1.2.2.2.1, .int .i64 d.2.2.2.1.2.2.2.2.1, .full 3]⟩, some ⟨false, [.seq .str 0 y10]⟩]) (fun y9 => K (.exit 0) [.tv (.lf (.ptr 1 0)), .tv (.lf (.ptr 2 0))] [some ⟨d.2.1.1, [.seq .str 0 d.2.1.2.1]⟩, some ⟨false, [.int .i64 d.2.2.1.2.1, .int .i64 d.2.2.1.2.2.1, .int .i64 d.2.2.1.2.2.2.1, .int .i64 d.2.2.1.2.2.2.2.1]⟩, some ⟨false, [.int .i64 d.2.2.2.1.2.1, .int .i64 d.2.2.2.1.2.2.1, .int .i64 d.2.2.2.1.2.2.2.1, .int .i64 d.2.2.2.1.2.2.2.2.1, .full 3]⟩, some ⟨false, [.seq .str 0 y9]⟩]) k d.1.2.2.2.1 d.2.2.2.2.1.2.1
def sh44_1_l14 : Sh := ⟨[.lf (.ptr 1 0), .lf (.ptr 2 0), .lf (.int .i64), .lf (.int .i64)], [some ⟨none, [.seq .str 0]⟩, some ⟨some false, [.int .i64, .int .i64, .int .i64, .int .i64]⟩, some ⟨some false, [.int .i64, .int .i64, .int .i64, .int .i64, .full 3]⟩, some ⟨some false, [.seq .str 0]⟩]⟩
abbrev Y44_1_l14 := Int → List ByteArray → Int → Int → Int → Int → Int → Int → Int → Int → (List ByteArray → Option Res) → Nat → Int → List ByteArray → Option Res
noncomputable def A44_1_l14 (g : Y44_1_l14) (k : Nat) (d : sh44_1_l14.den) (K : KL) : Option Res := g d.1.2.2.1 d.2.1.2.1 d.2.2.1.2.1 d.2.2.1.2.2.1 d.2.2.1.2.2.2.1 d.2.2.1.2.2.2.2.1 d.2.2.2.1.2.1 d.2.2.2.1.2.2.1 d.2.2.2.1.2.2.2.1 d.2.2.2.1.2.2.2.2.1 (fun y9 => K (.exit 2) [.tv (.lf (.ptr 2 0))] [some ⟨d.2.1.1, [.seq .str 0 d.2.1.2.1]⟩, some ⟨false, [.int .i64 d.2.2.1.2.1, .int .i64 d.2.2.1.2.2.1, .int .i64 d.2.2.1.2.2.2.1, .int .i64 d.2.2.1.2.2.2.2.1]⟩, some ⟨false, [.int .i64 d.2.2.2.1.2.1, .int .i64 d.2.2.2.1.2.2.1, .int .i64 d.2.2.2.1.2.2.2.1, .int .i64 d.2.2.2.1.2.2.2.2.1, .full 3]⟩, some ⟨false, [.seq .str 0 y9]⟩]) k d.1.2.2.2.1 d.2.2.2.2.1.2.1
noncomputable def G44_1_7 (F k : Nat) : LoopS := mkG sh44_1_l7 [1, 2, 6, 7] (outT [(.exit 0, [2, 6]), (.ret, [4, 5])]) (fun d K => A44_1_l7 (f44_1_l7 F) k d K) []
noncomputable def G44_1_14 (F k : Nat) : LoopS := mkG sh44_1_l14 [2, 6, 8, 9] (outT [(.exit 2, [6])]) (fun d K => A44_1_l14 (f44_1_l14 F) k d K) []
noncomputable def LT44_1 (F : Nat) : Nat → Option LoopS := ltab [(7, G44_1_7 F F), (14, G44_1_14 F F)]
theorem L44_1_7 (F : Nat) : LoopOK Tryz.prog (T44_1 F) (xw []) 73 1 (LT44_1 F) (G44_1_7 F F) b44_0 :=
  loopOK_of (s := sh44_1_l7) (live := [1, 2, 6, 7]) (out := (outT [(.exit 0, [2, 6]), (.ret, [4, 5])])) (mv := []) (fun k d K => A44_1_l7 (f44_1_l7 F) k d K) F (fun d K => by kernel_rfl)  (fun k d K => by delta A44_1_l7; refine (f44_1_l7.eq_2 ..).trans ?_; delta T44_1 S21_1 S36_1 S104_1 S112_1 S113_1 LT44_1; generalize (G44_1_7 F F) = c, (G44_1_14 F F) = c;  (try delta G44_1_7); generalize (f21_1 F : Y21_1) = c, (f36_1 F : Y36_1) = c, (f104_1 F : Y104_1) = c, (f112_1 F : Y112_1) = c, (f113_1 F : Y113_1) = c, (f44_1_l7 F : Y44_1_l7) = c; as_aux_lemma => kernel_rfl)
theorem L44_1_14 (F : Nat) : LoopOK Tryz.prog (T44_1 F) (xw []) 73 1 (LT44_1 F) (G44_1_14 F F) b44_1 :=
  loopOK_of (s := sh44_1_l14) (live := [2, 6, 8, 9]) (out := (outT [(.exit 2, [6])])) (mv := []) (fun k d K => A44_1_l14 (f44_1_l14 F) k d K) F (fun d K => by kernel_rfl)  (fun k d K => by delta A44_1_l14; refine (f44_1_l14.eq_2 ..).trans ?_; delta T44_1 S21_1 S36_1 S104_1 S112_1 S113_1 LT44_1; generalize (G44_1_7 F F) = c, (G44_1_14 F F) = c;  (try delta G44_1_14); generalize (f21_1 F : Y21_1) = c, (f36_1 F : Y36_1) = c, (f104_1 F : Y104_1) = c, (f112_1 F : Y112_1) = c, (f113_1 F : Y113_1) = c, (f44_1_l14 F : Y44_1_l14) = c; as_aux_lemma => kernel_rfl)
theorem E44_1 (F : Nat) (d : sh44_1.den) (K : KF) : EB Tryz.prog (T44_1 F) (xw []) 73 1 (LT44_1 F) [] false Tryz.f44 sh44_1 d K = A44_1 (f44_1 F) d K := by delta A44_1 f44_1 T44_1 S21_1 S36_1 S104_1 S112_1 S113_1 LT44_1;  delta G44_1_7 G44_1_14; generalize (f21_1 F : Y21_1) = c, (f36_1 F : Y36_1) = c, (f104_1 F : Y104_1) = c, (f112_1 F : Y112_1) = c, (f113_1 F : Y113_1) = c, (f44_1_l7 F : Y44_1_l7) = c, (f44_1_l14 F : Y44_1_l14) = c; as_aux_lemma => kernel_rfl
theorem S44_1_ok : So Tryz.prog 44 S44_1 :=
  fun F o ho => sOf (fn := Tryz.f44) (c := code44) (tab_cons (S21_1_ok F _ (noS_sound enter21)) (tab_cons (S36_1_ok F _ (noS_sound enter36)) (tab_cons (S104_1_ok F _ (noS_sound enter104)) (tab_cons (S112_1_ok F _ (noS_sound enter112)) (tab_cons (S113_1_ok F _ (noS_sound enter113)) tab_nil))))) ho (by rw [loops44]; exact (loopsOK_cons (by kernel_rfl) (L44_1_7 F) (loopsOK_cons (by kernel_rfl) (L44_1_14 F) loopsOK_nil))) snil rnil (E44_1 F)
end
section
noncomputable def f45_1_l4 {β : Type} (F : Nat) (v2 v3 : List ByteArray) (K0 K1 : Option β) : Nat → Int → Option β
  | 0, _ => none
  | k + 1, v1 => cond (decide (v1 < ((v2.length : Nat) : Int))) (cond (decide ((0 : Int) ≤ v1 ∧ v1 < ((v2.length : Nat) : Int))) (cond (decide (0 + v1.toNat < v2.length)) (cond (decide ((0 : Int) ≤ v1 ∧ v1 < ((v3.length : Nat) : Int))) (cond (decide (0 + v1.toNat < v3.length)) (cond (!((v2.getD (0 + v1.toNat) ByteArray.empty).toList == (v3.getD (0 + v1.toNat) ByteArray.empty).toList)) (K0) (f45_1_l4 F v2 v3 K0 K1 k (IntKind.i64.wrap (v1 + 1)))) none) none) none) none) (K1)
noncomputable def f45_1 {β : Type} (F : Nat) (a1 a2 : List ByteArray) (K0 : Bool → Option β) : Option β := cond (((a1.length : Nat) : Int) != ((a2.length : Nat) : Int)) (K0 false) (f45_1_l4 F a1 a2 (K0 false) (K0 true) F 0)
variable [FZ]
def sh45_1 : Sh := ⟨[.lf (.full 0), .lf (.full 1)], [some ⟨none, [.seq .str 0]⟩, some ⟨none, [.seq .str 0]⟩]⟩
abbrev Y45_1 := List ByteArray → List ByteArray → (Bool → Option Res) → Option Res
noncomputable def A45_1 (g : Y45_1) (d : sh45_1.den) (K : KF) : Option Res := g d.2.1.2.1 d.2.2.1.2.1 (fun y0 => K [.lf (.bool y0)] [some ⟨d.2.1.1, [.seq .str 0 d.2.1.2.1]⟩, some ⟨d.2.2.1.1, [.seq .str 0 d.2.2.1.2.1]⟩])
noncomputable def S45_1 (F : Nat) (o : Summ) : Summ := mkS sh45_1 (fun d K => A45_1 (f45_1 F) d K) o
noncomputable def code45 : Code := bodyOf Tryz.f45
noncomputable def b45_0 : Code := cB (cB (cR (cL (cR (cR (code45))))))
theorem loops45 : loopsOf code45 = [b45_0] := by kernel_rfl
theorem enter45 : En Tryz.prog 45 := enO (fn := Tryz.f45)
noncomputable def T45_1 (F : Nat) : FuncId → Option Summ := tab []
def sh45_1_l4 : Sh := ⟨[.lf (.full 0), .lf (.full 1), .lf (.int .i64)], [some ⟨none, [.seq .str 0]⟩, some ⟨none, [.seq .str 0]⟩]⟩
abbrev Y45_1_l4 := List ByteArray → List ByteArray → (Option Res) → (Option Res) → Nat → Int → Option Res
noncomputable def A45_1_l4 (g : Y45_1_l4) (k : Nat) (d : sh45_1_l4.den) (K : KL) : Option Res := g d.2.1.2.1 d.2.2.1.2.1 (K .ret [.tv (.lf (.bool false))] [some ⟨d.2.1.1, [.seq .str 0 d.2.1.2.1]⟩, some ⟨d.2.2.1.1, [.seq .str 0 d.2.2.1.2.1]⟩]) (K (.exit 0) [] [some ⟨d.2.1.1, [.seq .str 0 d.2.1.2.1]⟩, some ⟨d.2.2.1.1, [.seq .str 0 d.2.2.1.2.1]⟩]) k d.1.2.2.1
noncomputable def G45_1_4 (F k : Nat) : LoopS := mkG sh45_1_l4 [0, 1, 5] (outT [(.exit 0, []), (.ret, [4])]) (fun d K => A45_1_l4 (f45_1_l4 F) k d K) []
noncomputable def LT45_1 (F : Nat) : Nat → Option LoopS := ltab [(4, G45_1_4 F F)]
theorem L45_1_4 (F : Nat) : LoopOK Tryz.prog (T45_1 F) (xw []) 26 2 (LT45_1 F) (G45_1_4 F F) b45_0 :=
  loopOK_of (s := sh45_1_l4) (live := [0, 1, 5]) (out := (outT [(.exit 0, []), (.ret, [4])])) (mv := []) (fun k d K => A45_1_l4 (f45_1_l4 F) k d K) F (fun d K => by kernel_rfl)  (fun k d K => by delta A45_1_l4; refine (f45_1_l4.eq_2 ..).trans ?_; delta T45_1 LT45_1; generalize (G45_1_4 F F) = c;  (try delta G45_1_4); generalize (f45_1_l4 F : Y45_1_l4) = c; as_aux_lemma => kernel_rfl)
theorem E45_1 (F : Nat) (d : sh45_1.den) (K : KF) : EB Tryz.prog (T45_1 F) (xw []) 26 2 (LT45_1 F) [] false Tryz.f45 sh45_1 d K = A45_1 (f45_1 F) d K := by delta A45_1 f45_1 T45_1 LT45_1;  delta G45_1_4; generalize (f45_1_l4 F : Y45_1_l4) = c; as_aux_lemma => kernel_rfl
theorem S45_1_ok : So Tryz.prog 45 S45_1 :=
  fun F o ho => sOf (fn := Tryz.f45) (c := code45) tab_nil ho (by rw [loops45]; exact (loopsOK_cons (by kernel_rfl) (L45_1_4 F) loopsOK_nil)) snil rnil (E45_1 F)
end
section
noncomputable def f46_1 {β : Type} (F : Nat) (a1 a2 a3 a4 : Int) (a5 : List ByteArray) (K0 : ByteArray → Option β) : Option β := cond (decide ((0 : Int) ≤ IntKind.i64.wrap (((a5.length : Nat) : Int) - 1) ∧ IntKind.i64.wrap (((a5.length : Nat) : Int) - 1) < ((a5.length : Nat) : Int))) (cond (decide (0 + ((IntKind.i64.wrap (((a5.length : Nat) : Int) - 1)).toNat) < a5.length)) (K0 (a5.getD (0 + ((IntKind.i64.wrap (((a5.length : Nat) : Int) - 1)).toNat)) ByteArray.empty)) none) none
variable [FZ]
def sh46_1 : Sh := ⟨[.lf (.ptr 0 0)], [some ⟨none, [.int .i64, .int .i64, .int .i64, .int .i64, .full 1]⟩, some ⟨none, [.seq .str 0]⟩]⟩
abbrev Y46_1 := Int → Int → Int → Int → List ByteArray → (ByteArray → Option Res) → Option Res
noncomputable def A46_1 (g : Y46_1) (d : sh46_1.den) (K : KF) : Option Res := g d.2.1.2.1 d.2.1.2.2.1 d.2.1.2.2.2.1 d.2.1.2.2.2.2.1 d.2.2.1.2.1 (fun y0 => K [.lf (.str y0)] [some ⟨d.2.1.1, [.int .i64 d.2.1.2.1, .int .i64 d.2.1.2.2.1, .int .i64 d.2.1.2.2.2.1, .int .i64 d.2.1.2.2.2.2.1, .full 1]⟩, some ⟨d.2.2.1.1, [.seq .str 0 d.2.2.1.2.1]⟩])
noncomputable def S46_1 (F : Nat) (o : Summ) : Summ := mkS sh46_1 (fun d K => A46_1 (f46_1 F) d K) o
noncomputable def code46 : Code := bodyOf Tryz.f46
theorem enter46 : En Tryz.prog 46 := enO (fn := Tryz.f46)
noncomputable def T46_1 (F : Nat) : FuncId → Option Summ := tab []
noncomputable def LT46_1 (F : Nat) : Nat → Option LoopS := ltab []
theorem E46_1 (F : Nat) (d : sh46_1.den) (K : KF) : EB Tryz.prog (T46_1 F) (xw []) 15 2 (LT46_1 F) [] false Tryz.f46 sh46_1 d K = A46_1 (f46_1 F) d K := by delta A46_1 f46_1 T46_1 LT46_1;   as_aux_lemma => kernel_rfl
theorem S46_1_ok : So Tryz.prog 46 S46_1 :=
  fun F o ho => sOf (fn := Tryz.f46) (c := code46) tab_nil ho lnil snil rnil (E46_1 F)
end
section
noncomputable def f6_1_l7 {β : Type} (F : Nat) (v8 : Int) (v10 : List (Int × ByteArray)) (v11 v12 v13 v14 : Int) (v15 : List Int) (K0 : Option β) : Nat → Int → Option β
  | 0, _ => none
  | k + 1, v9 => cond (decide (v9 < ((v10.length : Nat) : Int))) (cond (decide ((0 : Int) ≤ v9 ∧ v9 < ((v10.length : Nat) : Int))) (cond (decide (0 + v9.toNat < v10.length)) (f25_1 F v11 v12 v13 v14 ((v10.getD (0 + v9.toNat) (0, ByteArray.empty)).1) (fun x16 => cond (decide (x16 ≥ 0)) (cond (decide ((0 : Int) ≤ v9 ∧ v9 < ((v10.length : Nat) : Int))) (cond (decide (0 + v9.toNat < v10.length)) (f24_1385 F x16 ((v10.getD (0 + v9.toNat) (0, ByteArray.empty)).2) (f6_1_l7 F v8 v10 v11 v12 v13 v14 v15 K0 k (IntKind.i64.wrap (v9 + 1))) ) none) none) (f6_1_l7 F v8 v10 v11 v12 v13 v14 v15 K0 k (IntKind.i64.wrap (v9 + 1)))) ) none) none) (K0)
noncomputable def f6_1_l16 {β : Type} (F : Nat) (v20 : Int) (v21 : ByteArray) (v22 v23 : Int) (v25 : List (Int × ByteArray)) (v26 v27 v28 v29 : Int) (v30 : List ByteArray) (K0 : List ByteArray → Option β) : Nat → Int → List ByteArray → Option β
  | 0, _, _ => none
  | k + 1, v24, v31 => cond (decide (v24 < v26)) (cond (decide (v24 < 20)) (f25_1 F v26 v27 v28 v29 v24 (fun x32 => f37_6206 F x32 (cond (decide ((v31.length + 1) * 16 ≤ 70368744177664)) (f6_1_l16 F v20 v21 v22 v23 v25 v26 v27 v28 v29 v30 K0 k (IntKind.i64.wrap (v24 + 1)) (v31 ++ [ByteArray.empty])) none) ) ) (K0 v31)) (K0 v31)
noncomputable def f6_1_l7_2 {β : Type} (F : Nat) (v48 : Int) (v50 : List (Int × ByteArray)) (v51 v52 v53 v54 : Int) (v58 : List ByteArray) (K0 : Int → Bool → Int → List (Int × ByteArray) → List Int → Option β) : Nat → Int → Int → Bool → Int → List (Int × ByteArray) → List Int → Option β
  | 0, _, _, _, _, _, _ => none
  | k + 1, v49, v55, v56, v57, v59, v60 => cond (decide (v49 < ((v50.length : Nat) : Int))) (cond (decide ((0 : Int) ≤ v49 ∧ v49 < ((v50.length : Nat) : Int))) (cond (decide (0 + v49.toNat < v50.length)) (f25_1 F v51 v52 v53 v54 ((v50.getD (0 + v49.toNat) (0, ByteArray.empty)).1) (fun x61 => cond (decide (x61 ≥ 0)) (cond (decide ((0 : Int) ≤ v49 ∧ v49 < ((v50.length : Nat) : Int))) (cond (decide (0 + v49.toNat < v50.length)) (f24_1 F x61 ((v50.getD (0 + v49.toNat) (0, ByteArray.empty)).2) v55 v56 v57 v58 v59 (fun x62 x63 x64 x65 x66 => cond (x62 == 0) (cond (decide ((0 : Int) ≤ v49 ∧ v49 < ((v50.length : Nat) : Int))) (cond (decide (0 + v49.toNat < v50.length)) (cond (decide ((v60.length + 1) * 8 ≤ 70368744177664)) (f6_1_l7_2 F v48 v50 v51 v52 v53 v54 v58 K0 k (IntKind.i64.wrap (v49 + 1)) x63 x64 x65 x66 (v60 ++ [(v50.getD (0 + v49.toNat) (0, ByteArray.empty)).1])) none) none) none) (f6_1_l7_2 F v48 v50 v51 v52 v53 v54 v58 K0 k (IntKind.i64.wrap (v49 + 1)) x63 x64 x65 x66 v60)) ) none) none) (f6_1_l7_2 F v48 v50 v51 v52 v53 v54 v58 K0 k (IntKind.i64.wrap (v49 + 1)) v55 v56 v57 v59 v60)) ) none) none) (K0 v55 v56 v57 v59 v60)
noncomputable def f6_1_l16_2 {β : Type} (F : Nat) (v81 : Int) (v82 : ByteArray) (v83 v84 : Int) (v86 : List (Int × ByteArray)) (v87 v88 v89 v90 v91 : Int) (v92 : Bool) (v93 : Int) (v94 : List ByteArray) (v95 : List (Int × ByteArray)) (v96 : List ByteArray) (K0 : List ByteArray → Option β) : Nat → Int → List ByteArray → Option β
  | 0, _, _ => none
  | k + 1, v85, v97 => cond (decide (v85 < v87)) (cond (decide (v85 < 20)) (f25_1 F v87 v88 v89 v90 v85 (fun x98 => f37_1 F x98 v91 v92 v93 v94 v95 (fun x99 x100 => cond (decide ((v97.length + 1) * 16 ≤ 70368744177664)) (f6_1_l16_2 F v81 v82 v83 v84 v86 v87 v88 v89 v90 v91 v92 v93 v94 v95 v96 K0 k (IntKind.i64.wrap (v85 + 1)) (v97 ++ [x99])) none) ) ) (K0 v97)) (K0 v97)
noncomputable def f6_1 {β : Type} (F : Nat) (a1 a2 a3 a4 : Int) (a5 : List (Int × ByteArray)) (K0 : Bool → Option β) : Option β := f39_1 F a1 a2 a3 a4 (fun x1 => cond (!x1) (f40_1 F  (fun x2 => K0 x2) ) (f21_1 F a1 a2 a3 a4 (fun x3 => cond (!x3) (f40_1 F  (fun x4 => K0 x4) ) (cond (decide (((a5.length : Nat) : Int) > 30)) (f40_1 F  (fun x5 => K0 x5) ) (f23_1 F a1 a2 a3 a4 0 (fun x6 => f12_1 F x6 (f41_5478 F a1 a2 a3 a4 (fun x7 => f6_1_l7 F x7 a5 a1 a2 a3 a4 [] (f42_2949 F a1 a2 a3 a4 [] (fun x17 => f43_5478 F a1 a2 a3 a4 (fun x18 x19 => f6_1_l16 F x7 ByteArray.empty x17 x18 a5 a1 a2 a3 a4 x19 (fun x33 => f44_1 F a1 a2 a3 a4 x33 (fun x34 => cond (x7 == 0) (cond (x17 == 0) (cond (x18 == 0) (none) (K0 false)) (K0 false)) (K0 false)) (fun x35 => cond (x7 == 0) (cond (x17 == 0) (cond (x18 == 0) (f45_1 F x19 x35 (fun x36 => cond x36 (f46_1 F a1 a2 a3 a4 x35 (fun x37 => cond (ByteArray.empty.toList == x37.toList) (f40_1 F  (fun x38 => K0 x38) ) (K0 false)) ) (K0 false)) ) (K0 false)) (K0 false)) (K0 false)) ) F 0 []) ) ) F 0) ) (fun x39 x40 => f41_1 F a1 a2 a3 a4 (-1) false 0 x39 x40 (fun x41 x42 x43 x44 x45 x46 x47 => f6_1_l7_2 F x42 a5 a1 a2 a3 a4 x46 (fun x67 x68 x69 x70 x71 => f42_1 F a1 a2 a3 a4 x67 x68 x69 x46 x70 x71 (fun x72 x73 x74 x75 x76 x77 x78 => f43_1 F a1 a2 a3 a4 x74 x75 x76 x77 x78 (fun x79 x80 => f6_1_l16_2 F x42 x72 x73 x79 a5 a1 a2 a3 a4 x74 x75 x76 x77 x78 x80 (fun x101 => f44_1 F a1 a2 a3 a4 x101 (fun x102 => cond (x42 == 0) (cond (x73 == 0) (cond (x79 == 0) (none) (K0 false)) (K0 false)) (K0 false)) (fun x103 => cond (x42 == 0) (cond (x73 == 0) (cond (x79 == 0) (f45_1 F x80 x103 (fun x104 => cond x104 (f46_1 F a1 a2 a3 a4 x103 (fun x105 => cond (x72.toList == x105.toList) (f40_1 F  (fun x106 => K0 x106) ) (K0 false)) ) (K0 false)) ) (K0 false)) (K0 false)) (K0 false)) ) F 0 []) ) ) F 0 x43 x44 x45 x47 []) ) ) ))) )) 
variable [FZ]
def sh6_1 : Sh := ⟨[.agg [.int .i64, .int .i64, .int .i64, .int .i64], .lf (.full 0)], [some ⟨none, [.seq (.pair (.int .i64) .str) 0]⟩]⟩
abbrev Y6_1 := Int → Int → Int → Int → List (Int × ByteArray) → (Bool → Option Res) → Option Res
noncomputable def A6_1 (g : Y6_1) (d : sh6_1.den) (K : KF) : Option Res := g d.1.1.1 d.1.1.2.1 d.1.1.2.2.1 d.1.1.2.2.2.1 d.2.1.2.1 (fun y0 => K [.lf (.bool y0)] [some ⟨d.2.1.1, [.seq (.pair (.int .i64) .str) 0 d.2.1.2.1]⟩])
noncomputable def S6_1 (F : Nat) (o : Summ) : Summ := mkS sh6_1 (fun d K => A6_1 (f6_1 F) d K) o
noncomputable def code6 : Code := bodyOf Tryz.f6
noncomputable def b6_0 : Code := cB (cB (cR (cL (cR (cR (cR (cR (cR (code6)))))))))
noncomputable def b6_1 : Code := cB (cB (cR (cL (cR (cR (cR (cR (cR (cR (cR (cR (cR (code6)))))))))))))
theorem loops6 : loopsOf code6 = [b6_0, b6_1] := by kernel_rfl
theorem enter6 : En Tryz.prog 6 := enO (fn := Tryz.f6)
noncomputable def T6_1 (F : Nat) : FuncId → Option Summ := tab [(12, (S12_1 F noS)), (21, (S21_1 F noS)), (23, (S23_1 F noS)), (24, (S24_1 F (S24_1385 F noS))), (25, (S25_1 F noS)), (37, (S37_1 F (S37_6206 F noS))), (39, (S39_1 F noS)), (40, (S40_1 F noS)), (41, (S41_1 F (S41_5478 F noS))), (42, (S42_1 F (S42_2949 F noS))), (43, (S43_1 F (S43_5478 F noS))), (44, (S44_1 F noS)), (45, (S45_1 F noS)), (46, (S46_1 F noS))]
def sh6_1_l7 : Sh := ⟨[.lf (.full 0), .lf (.ptr 1 0), .lf (.nilp), .lf (.int .i64), .lf (.full 2), .lf (.int .i64)], [some ⟨none, [.seq (.pair (.int .i64) .str) 0]⟩, some ⟨some false, [.int .i64, .int .i64, .int .i64, .int .i64]⟩, some ⟨some false, [.seq (.int .i64) 0]⟩]⟩
abbrev Y6_1_l7 := Int → List (Int × ByteArray) → Int → Int → Int → Int → List Int → (Option Res) → Nat → Int → Option Res
noncomputable def A6_1_l7 (g : Y6_1_l7) (k : Nat) (d : sh6_1_l7.den) (K : KL) : Option Res := g d.1.2.2.2.1 d.2.1.2.1 d.2.2.1.2.1 d.2.2.1.2.2.1 d.2.2.1.2.2.2.1 d.2.2.1.2.2.2.2.1 d.2.2.2.1.2.1 (K (.exit 0) [.tv (.lf (.ptr 1 0)), .tv (.lf (.nilp)), .tv (.lf (.int .i64 d.1.2.2.2.1)), .tv (.lf (.full 2))] [some ⟨d.2.1.1, [.seq (.pair (.int .i64) .str) 0 d.2.1.2.1]⟩, some ⟨false, [.int .i64 d.2.2.1.2.1, .int .i64 d.2.2.1.2.2.1, .int .i64 d.2.2.1.2.2.2.1, .int .i64 d.2.2.1.2.2.2.2.1]⟩, some ⟨false, [.seq (.int .i64) 0 d.2.2.2.1.2.1]⟩]) k d.1.2.2.2.2.2.1
def sh6_1_l16 : Sh := ⟨[.lf (.ptr 1 0), .lf (.nilp), .lf (.int .i64), .lf (.str), .lf (.int .i64), .lf (.full 2), .lf (.int .i64), .lf (.full 3), .lf (.int .i64)], [some ⟨none, [.seq (.pair (.int .i64) .str) 0]⟩, some ⟨some false, [.int .i64, .int .i64, .int .i64, .int .i64]⟩, some ⟨some false, [.seq .str 0]⟩, some ⟨some false, [.seq .str 0]⟩]⟩
abbrev Y6_1_l16 := Int → ByteArray → Int → Int → List (Int × ByteArray) → Int → Int → Int → Int → List ByteArray → (List ByteArray → Option Res) → Nat → Int → List ByteArray → Option Res
noncomputable def A6_1_l16 (g : Y6_1_l16) (k : Nat) (d : sh6_1_l16.den) (K : KL) : Option Res := g d.1.2.2.1 d.1.2.2.2.1 d.1.2.2.2.2.1 d.1.2.2.2.2.2.2.1 d.2.1.2.1 d.2.2.1.2.1 d.2.2.1.2.2.1 d.2.2.1.2.2.2.1 d.2.2.1.2.2.2.2.1 d.2.2.2.1.2.1 (fun y10 => K (.exit 2) [.tv (.lf (.ptr 1 0)), .tv (.lf (.int .i64 d.1.2.2.1)), .tv (.lf (.str d.1.2.2.2.1)), .tv (.lf (.int .i64 d.1.2.2.2.2.1)), .tv (.lf (.full 2)), .tv (.lf (.int .i64 d.1.2.2.2.2.2.2.1)), .tv (.lf (.full 3))] [some ⟨d.2.1.1, [.seq (.pair (.int .i64) .str) 0 d.2.1.2.1]⟩, some ⟨false, [.int .i64 d.2.2.1.2.1, .int .i64 d.2.2.1.2.2.1, .int .i64 d.2.2.1.2.2.2.1, .int .i64 d.2.2.1.2.2.2.2.1]⟩, some ⟨false, [.seq .str 0 d.2.2.2.1.2.1]⟩, some ⟨false, [.seq .str 0 y10]⟩]) k d.1.2.2.2.2.2.2.2.2.1 d.2.2.2.2.1.2.1
def sh6_1_l7_2 : Sh := ⟨[.lf (.full 0), .lf (.ptr 1 0), .lf (.ptr 2 0), .lf (.int .i64), .lf (.full 5), .lf (.int .i64)], [some ⟨none, [.seq (.pair (.int .i64) .str) 0]⟩, some ⟨some false, [.int .i64, .int .i64, .int .i64, .int .i64]⟩, some ⟨some false, [.full 3, .full 4, .int .i64, .bool, .int .i64]⟩, some ⟨some false, [.seq .str 0]⟩, some ⟨some false, [.seq (.pair (.int .i64) .str) 0]⟩, some ⟨some false, [.seq (.int .i64) 0]⟩]⟩
abbrev Y6_1_l7_2 := Int → List (Int × ByteArray) → Int → Int → Int → Int → List ByteArray → (Int → Bool → Int → List (Int × ByteArray) → List Int → Option Res) → Nat → Int → Int → Bool → Int → List (Int × ByteArray) → List Int → Option Res
noncomputable def A6_1_l7_2 (g : Y6_1_l7_2) (k : Nat) (d : sh6_1_l7_2.den) (K : KL) : Option Res := g d.1.2.2.2.1 d.2.1.2.1 d.2.2.1.2.1 d.2.2.1.2.2.1 d.2.2.1.2.2.2.1 d.2.2.1.2.2.2.2.1 d.2.2.2.2.1.2.1 (fun y6 y7 y8 y10 y11 => K (.exit 0) [.tv (.lf (.ptr 1 0)), .tv (.lf (.ptr 2 0)), .tv (.lf (.int .i64 d.1.2.2.2.1)), .tv (.lf (.full 5))] [some ⟨d.2.1.1, [.seq (.pair (.int .i64) .str) 0 d.2.1.2.1]⟩, some ⟨false, [.int .i64 d.2.2.1.2.1, .int .i64 d.2.2.1.2.2.1, .int .i64 d.2.2.1.2.2.2.1, .int .i64 d.2.2.1.2.2.2.2.1]⟩, some ⟨false, [.full 3, .full 4, .int .i64 y6, .bool y7, .int .i64 y8]⟩, some ⟨false, [.seq .str 0 d.2.2.2.2.1.2.1]⟩, some ⟨false, [.seq (.pair (.int .i64) .str) 0 y10]⟩, some ⟨false, [.seq (.int .i64) 0 y11]⟩]) k d.1.2.2.2.2.2.1 d.2.2.2.1.2.2.2.1 d.2.2.2.1.2.2.2.2.1 d.2.2.2.1.2.2.2.2.2.1 d.2.2.2.2.2.1.2.1 d.2.2.2.2.2.2.1.2.1
def sh6_1_l16_2 : Sh := ⟨[.lf (.ptr 1 0), .lf (.ptr 2 0), .lf (.int .i64), .lf (.str), .lf (.int .i64), .lf (.full 5), .lf (.int .i64), .lf (.full 6), .lf (.int .i64)], [some ⟨none, [.seq (.pair (.int .i64) .str) 0]⟩, some ⟨some false, [.int .i64, .int .i64, .int .i64, .int .i64]⟩, some ⟨some false, [.full 3, .full 4, .int .i64, .bool, .int .i64]⟩, some ⟨some false, [.seq .str 0]⟩, some ⟨some false, [.seq (.pair (.int .i64) .str) 0]⟩, some ⟨some false, [.seq .str 0]⟩, some ⟨some false, [.seq .str 0]⟩]⟩
abbrev Y6_1_l16_2 := Int → ByteArray → Int → Int → List (Int × ByteArray) → Int → Int → Int → Int → Int → Bool → Int → List ByteArray → List (Int × ByteArray) → List ByteArray → (List ByteArray → Option Res) → Nat → Int → List ByteArray → Option Res
noncomputable def A6_1_l16_2 (g : Y6_1_l16_2) (k : Nat) (d : sh6_1_l16_2.den) (K : KL) : Option Res := g d.1.2.2.1 d.1.2.2.2.1 d.1.2.2.2.2.1 d.1.2.2.2.2.2.2.1 d.2.1.2.1 d.2.2.1.2.1 d.2.2.1.2.2.1 d.2.2.1.2.2.2.1 d.2.2.1.2.2.2.2.1 d.2.2.2.1.2.2.2.1 d.2.2.2.1.2.2.2.2.1 d.2.2.2.1.2.2.2.2.2.1 d.2.2.2.2.1.2.1 d.2.2.2.2.2.1.2.1 d.2.2.2.2.2.2.1.2.1 (fun y15 => K (.exit 2) [.tv (.lf (.ptr 1 0)), .tv (.lf (.int .i64 d.1.2.2.1)), .tv (.lf (.str d.1.2.2.2.1)), .tv (.lf (.int .i64 d.1.2.2.2.2.1)), .tv (.lf (.full 5)), .tv (.lf (.int .i64 d.1.2.2.2.2.2.2.1)), .tv (.lf (.full 6))] [some ⟨d.2.1.1, [.seq (.pair (.int .i64) .str) 0 d.2.1.2.1]⟩, some ⟨false, [.int .i64 d.2.2.1.2.1, .int .i64 d.2.2.1.2.2.1, .int .i64 d.2.2.1.2.2.2.1, .int .i64 d.2.2.1.2.2.2.2.1]⟩, some ⟨false, [.full 3, .full 4, .int .i64 d.2.2.2.1.2.2.2.1, .bool d.2.2.2.1.2.2.2.2.1, .int .i64 d.2.2.2.1.2.2.2.2.2.1]⟩, some ⟨false, [.seq .str 0 d.2.2.2.2.1.2.1]⟩, some ⟨false, [.seq (.pair (.int .i64) .str) 0 d.2.2.2.2.2.1.2.1]⟩, some ⟨false, [.seq .str 0 d.2.2.2.2.2.2.1.2.1]⟩, some ⟨false, [.seq .str 0 y15]⟩]) k d.1.2.2.2.2.2.2.2.2.1 d.2.2.2.2.2.2.2.1.2.1
noncomputable def G6_1_7 (F k : Nat) : LoopS := orG sh6_1_l7 (fun d K => A6_1_l7 (f6_1_l7 F) k d K) (mkG sh6_1_l7_2 [1, 2, 5, 8, 9, 10] (outT [(.exit 0, [2, 5, 8, 9])]) (fun d K => A6_1_l7_2 (f6_1_l7_2 F) k d K) [])
noncomputable def G6_1_16 (F k : Nat) : LoopS := orG sh6_1_l16 (fun d K => A6_1_l16 (f6_1_l16 F) k d K) (mkG sh6_1_l16_2 [2, 5, 8, 12, 13, 14, 15, 16, 17] (outT [(.exit 2, [2, 8, 12, 13, 14, 15, 16])]) (fun d K => A6_1_l16_2 (f6_1_l16_2 F) k d K) [])
noncomputable def LT6_1 (F : Nat) : Nat → Option LoopS := ltab [(7, G6_1_7 F F), (16, G6_1_16 F F)]
theorem L6_1_7 (F : Nat) : LoopOK Tryz.prog (T6_1 F) (xw []) 150 1 (LT6_1 F) (G6_1_7 F F) b6_0 :=
  loopOK_vers (G6_1_7 F) F (fun k => ⟨rfl, rfl⟩) (verOK_cons (s := sh6_1_l7) (all := (G6_1_7 F)) (fun k d K => A6_1_l7 (f6_1_l7 F) k d K) (fun d K => by kernel_rfl) (fun k d K => by delta A6_1_l7; refine (f6_1_l7.eq_2 ..).trans ?_; delta T6_1 S12_1 S21_1 S23_1 S24_1 S24_1385 S25_1 S37_1 S37_6206 S39_1 S40_1 S41_1 S41_5478 S42_1 S42_2949 S43_1 S43_5478 S44_1 S45_1 S46_1 LT6_1; generalize (G6_1_7 F F) = c, (G6_1_16 F F) = c;  (try delta G6_1_7); generalize (f12_1 F : Y12_1) = c, (f21_1 F : Y21_1) = c, (f23_1 F : Y23_1) = c, (f24_1 F : Y24_1) = c, (f24_1385 F : Y24_1385) = c, (f25_1 F : Y25_1) = c, (f37_1 F : Y37_1) = c, (f37_6206 F : Y37_6206) = c, (f39_1 F : Y39_1) = c, (f40_1 F : Y40_1) = c, (f41_1 F : Y41_1) = c, (f41_5478 F : Y41_5478) = c, (f42_1 F : Y42_1) = c, (f42_2949 F : Y42_2949) = c, (f43_1 F : Y43_1) = c, (f43_5478 F : Y43_5478) = c, (f44_1 F : Y44_1) = c, (f45_1 F : Y45_1) = c, (f46_1 F : Y46_1) = c, (f6_1_l7 F : Y6_1_l7) = c, (f6_1_l7_2 F : Y6_1_l7_2) = c; as_aux_lemma => kernel_rfl) (verOK_last (s := sh6_1_l7_2) (live := [1, 2, 5, 8, 9, 10]) (out := (outT [(.exit 0, [2, 5, 8, 9])])) (mv := []) (all := (G6_1_7 F)) (fun k d K => A6_1_l7_2 (f6_1_l7_2 F) k d K) (fun d K => by kernel_rfl) (fun k d K => by delta A6_1_l7_2; refine (f6_1_l7_2.eq_2 ..).trans ?_; delta T6_1 S12_1 S21_1 S23_1 S24_1 S24_1385 S25_1 S37_1 S37_6206 S39_1 S40_1 S41_1 S41_5478 S42_1 S42_2949 S43_1 S43_5478 S44_1 S45_1 S46_1 LT6_1; generalize (G6_1_7 F F) = c, (G6_1_16 F F) = c;  (try delta G6_1_7); generalize (f12_1 F : Y12_1) = c, (f21_1 F : Y21_1) = c, (f23_1 F : Y23_1) = c, (f24_1 F : Y24_1) = c, (f24_1385 F : Y24_1385) = c, (f25_1 F : Y25_1) = c, (f37_1 F : Y37_1) = c, (f37_6206 F : Y37_6206) = c, (f39_1 F : Y39_1) = c, (f40_1 F : Y40_1) = c, (f41_1 F : Y41_1) = c, (f41_5478 F : Y41_5478) = c, (f42_1 F : Y42_1) = c, (f42_2949 F : Y42_2949) = c, (f43_1 F : Y43_1) = c, (f43_5478 F : Y43_5478) = c, (f44_1 F : Y44_1) = c, (f45_1 F : Y45_1) = c, (f46_1 F : Y46_1) = c, (f6_1_l7 F : Y6_1_l7) = c, (f6_1_l7_2 F : Y6_1_l7_2) = c; as_aux_lemma => kernel_rfl)))
theorem L6_1_16 (F : Nat) : LoopOK Tryz.prog (T6_1 F) (xw []) 150 1 (LT6_1 F) (G6_1_16 F F) b6_1 :=
  loopOK_vers (G6_1_16 F) F (fun k => ⟨rfl, rfl⟩) (verOK_cons (s := sh6_1_l16) (all := (G6_1_16 F)) (fun k d K => A6_1_l16 (f6_1_l16 F) k d K) (fun d K => by kernel_rfl) (fun k d K => by delta A6_1_l16; refine (f6_1_l16.eq_2 ..).trans ?_; delta T6_1 S12_1 S21_1 S23_1 S24_1 S24_1385 S25_1 S37_1 S37_6206 S39_1 S40_1 S41_1 S41_5478 S42_1 S42_2949 S43_1 S43_5478 S44_1 S45_1 S46_1 LT6_1; generalize (G6_1_7 F F) = c, (G6_1_16 F F) = c;  (try delta G6_1_16); generalize (f12_1 F : Y12_1) = c, (f21_1 F : Y21_1) = c, (f23_1 F : Y23_1) = c, (f24_1 F : Y24_1) = c, (f24_1385 F : Y24_1385) = c, (f25_1 F : Y25_1) = c, (f37_1 F : Y37_1) = c, (f37_6206 F : Y37_6206) = c, (f39_1 F : Y39_1) = c, (f40_1 F : Y40_1) = c, (f41_1 F : Y41_1) = c, (f41_5478 F : Y41_5478) = c, (f42_1 F : Y42_1) = c, (f42_2949 F : Y42_2949) = c, (f43_1 F : Y43_1) = c, (f43_5478 F : Y43_5478) = c, (f44_1 F : Y44_1) = c, (f45_1 F : Y45_1) = c, (f46_1 F : Y46_1) = c, (f6_1_l16 F : Y6_1_l16) = c, (f6_1_l16_2 F : Y6_1_l16_2) = c; as_aux_lemma => kernel_rfl) (verOK_last (s := sh6_1_l16_2) (live := [2, 5, 8, 12, 13, 14, 15, 16, 17]) (out := (outT [(.exit 2, [2, 8, 12, 13, 14, 15, 16])])) (mv := []) (all := (G6_1_16 F)) (fun k d K => A6_1_l16_2 (f6_1_l16_2 F) k d K) (fun d K => by kernel_rfl) (fun k d K => by delta A6_1_l16_2; refine (f6_1_l16_2.eq_2 ..).trans ?_; delta T6_1 S12_1 S21_1 S23_1 S24_1 S24_1385 S25_1 S37_1 S37_6206 S39_1 S40_1 S41_1 S41_5478 S42_1 S42_2949 S43_1 S43_5478 S44_1 S45_1 S46_1 LT6_1; generalize (G6_1_7 F F) = c, (G6_1_16 F F) = c;  (try delta G6_1_16); generalize (f12_1 F : Y12_1) = c, (f21_1 F : Y21_1) = c, (f23_1 F : Y23_1) = c, (f24_1 F : Y24_1) = c, (f24_1385 F : Y24_1385) = c, (f25_1 F : Y25_1) = c, (f37_1 F : Y37_1) = c, (f37_6206 F : Y37_6206) = c, (f39_1 F : Y39_1) = c, (f40_1 F : Y40_1) = c, (f41_1 F : Y41_1) = c, (f41_5478 F : Y41_5478) = c, (f42_1 F : Y42_1) = c, (f42_2949 F : Y42_2949) = c, (f43_1 F : Y43_1) = c, (f43_5478 F : Y43_5478) = c, (f44_1 F : Y44_1) = c, (f45_1 F : Y45_1) = c, (f46_1 F : Y46_1) = c, (f6_1_l16 F : Y6_1_l16) = c, (f6_1_l16_2 F : Y6_1_l16_2) = c; as_aux_lemma => kernel_rfl)))
theorem E6_1 (F : Nat) (d : sh6_1.den) (K : KF) : EB Tryz.prog (T6_1 F) (xw []) 150 1 (LT6_1 F) [] false Tryz.f6 sh6_1 d K = A6_1 (f6_1 F) d K := by delta A6_1 f6_1 T6_1 S12_1 S21_1 S23_1 S24_1 S24_1385 S25_1 S37_1 S37_6206 S39_1 S40_1 S41_1 S41_5478 S42_1 S42_2949 S43_1 S43_5478 S44_1 S45_1 S46_1 LT6_1;  delta G6_1_7 G6_1_16; generalize (f12_1 F : Y12_1) = c, (f21_1 F : Y21_1) = c, (f23_1 F : Y23_1) = c, (f24_1 F : Y24_1) = c, (f24_1385 F : Y24_1385) = c, (f25_1 F : Y25_1) = c, (f37_1 F : Y37_1) = c, (f37_6206 F : Y37_6206) = c, (f39_1 F : Y39_1) = c, (f40_1 F : Y40_1) = c, (f41_1 F : Y41_1) = c, (f41_5478 F : Y41_5478) = c, (f42_1 F : Y42_1) = c, (f42_2949 F : Y42_2949) = c, (f43_1 F : Y43_1) = c, (f43_5478 F : Y43_5478) = c, (f44_1 F : Y44_1) = c, (f45_1 F : Y45_1) = c, (f46_1 F : Y46_1) = c, (f6_1_l7 F : Y6_1_l7) = c, (f6_1_l7_2 F : Y6_1_l7_2) = c, (f6_1_l16 F : Y6_1_l16) = c, (f6_1_l16_2 F : Y6_1_l16_2) = c; as_aux_lemma => kernel_rfl
theorem S6_1_ok : So Tryz.prog 6 S6_1 :=
  fun F o ho => sOf (fn := Tryz.f6) (c := code6) (tab_cons (S12_1_ok F _ (noS_sound enter12)) (tab_cons (S21_1_ok F _ (noS_sound enter21)) (tab_cons (S23_1_ok F _ (noS_sound enter23)) (tab_cons (S24_1_ok F _ (S24_1385_ok F _ (noS_sound enter24))) (tab_cons (S25_1_ok F _ (noS_sound enter25)) (tab_cons (S37_1_ok F _ (S37_6206_ok F _ (noS_sound enter37))) (tab_cons (S39_1_ok F _ (noS_sound enter39)) (tab_cons (S40_1_ok F _ (noS_sound enter40)) (tab_cons (S41_1_ok F _ (S41_5478_ok F _ (noS_sound enter41))) (tab_cons (S42_1_ok F _ (S42_2949_ok F _ (noS_sound enter42))) (tab_cons (S43_1_ok F _ (S43_5478_ok F _ (noS_sound enter43))) (tab_cons (S44_1_ok F _ (noS_sound enter44)) (tab_cons (S45_1_ok F _ (noS_sound enter45)) (tab_cons (S46_1_ok F _ (noS_sound enter46)) tab_nil)))))))))))))) ho (by rw [loops6]; exact (loopsOK_cons (by kernel_rfl) (L6_1_7 F) (loopsOK_cons (by kernel_rfl) (L6_1_16 F) loopsOK_nil))) snil rnil (E6_1 F)
end
section
variable [FZ]
end
section
variable [FZ]
end
section
variable [FZ]
end
section
variable [FZ]
end
section
variable [FZ]
end
section
variable [FZ]
end
end Go.Proofs.YtlgopekjjkdkiaaGreatDoor.X
end
section
namespace Go.Proofs.YtlgopekjjkdkiaaGreatDoor.X
open Go Go.Proofs.YtlgopekjjkdkiaaGreatDoor.Ev
set_option linter.unusedSectionVars false
set_option linter.unusedVariables false
set_option linter.unusedSimpArgs false
section
variable [FZ]
abbrev WL := List (Int × ByteArray)
structure DS (n k : Nat) (a c : Int) (l : List ByteArray) (w : WL) : Prop where
  n40 : n ≤ 2000
  k300 : k ≤ 6000
  len : l.length = n
  wl : w.length ≤ k
  wb : ∀ p ∈ w, 0 ≤ p.1 ∧ p.1 < n
  ar : -1 ≤ a ∧ a ≤ 9223372036854775807
  cr : 0 ≤ c ∧ c ≤ k
theorem getD_of_drop {α : Type} {l r : List α} {i : Nat} {x d : α} (h : l.drop i = x :: r) : i < l.length ∧ l.getD (0 + (i : Int).toNat) d = x ∧ l.drop (i + 1) = r := by
  have h1 : i < l.length := by
    rcases Nat.lt_or_ge i l.length with h1 | h1
    · exact h1
    · rw [List.drop_eq_nil_of_le h1] at h; cases h
  rw [List.drop_eq_getElem_cons h1] at h
  injection h with h2 h3
  refine ⟨h1, ?_, h3⟩
  simp [h1, h2]
theorem len_of_drop_nil {α : Type} {l : List α} {i : Nat} (h : l.drop i = []) (hi : i ≤ l.length) : i = l.length := by
  have := congrArg List.length h
  simp at this; omega
def kp (x : Int) (l : List ByteArray) : ByteArray × Int := if 0 ≤ x ∧ x < (l.length : Int) then (l.getD x.toNat ByteArray.empty, 0) else (ByteArray.empty, 3)
theorem keptP {β : Type} {F : Nat} {x a c : Int} {b : Bool} {l : List ByteArray} {w : WL} {K : ByteArray → Int → Option β} : f15_1 F x a b c l w K = K (kp x l).1 (kp x l).2 := by
  rw [f15_1, f77_1, kp]
  by_cases h1 : 0 ≤ x
  · rw [ct (by omega)]
    by_cases h2 : x < (l.length : Int)
    · rw [if_pos ⟨h1, h2⟩, decide_eq_true h2, Bool.not_true, cond_false, ct ⟨h1, h2⟩, ct (by omega), Nat.zero_add]
    · rw [if_neg (by omega), decide_eq_false h2, Bool.not_false, cond_true]
  · rw [cf (by omega), if_neg (by omega), Bool.not_false, cond_true]
def last (x : Int) (s : ByteArray) (w : WL) : ByteArray := w.foldl (fun s p => if p.1 = x then p.2 else s) s
def rd (x : Int) (b : Bool) (l : List ByteArray) (w : WL) : ByteArray × Int :=
  if b then (ByteArray.empty, 5) else (if 0 ≤ x ∧ x < (l.length : Int) then last x (l.getD x.toNat ByteArray.empty) w else ByteArray.empty, (kp x l).2)
def lastW (x : Int) : WL → Option ByteArray
  | [] => none
  | p :: r => match lastW x r with
    | some s => some s
    | none => if p.1 = x then some p.2 else none
theorem last_eq (x : Int) : ∀ (w : WL) (s : ByteArray), last x s w = (match lastW x w with | some t => t | none => s)
  | [], s => rfl
  | p :: r, s => by
    rw [last, List.foldl_cons, ← last, last_eq x r, lastW]
    cases lastW x r with
    | some t => rfl
    | none =>
      by_cases hp : p.1 = x
      · simp [hp]
      · simp [hp]
theorem lastW_app (x : Int) (p : Int × ByteArray) : ∀ w : WL, lastW x (w ++ [p]) = if p.1 = x then some p.2 else lastW x w
  | [] => by simp [lastW]
  | q :: r => by
    rw [List.cons_append, lastW, lastW_app x p r, lastW]
    by_cases hp : p.1 = x
    · simp [hp]
    · simp [hp]
theorem readPl {β : Type} {F : Nat} {x a c z : Int} {b : Bool} {l : List ByteArray} {w : WL} {s : ByteArray} {K0 : ByteArray → Int → ByteArray → Option β} {K1 : Option β} (hw : w.length ≤ 6000) : ∀ (i k : Nat), i ≤ w.length → i < k →
    f37_1_r2000006_l1 F a b c l w x s z K0 K1 k ((i : Int) - 1) = (match lastW x (w.take i) with | some t => K0 t x t | none => K1)
  | _, 0, _, h => by omega
  | 0, k + 1, _, _ => by
    rw [f37_1_r2000006_l1, cf (by omega)]; rfl
  | i + 1, k + 1, hi, hk => by
    have h1 : i < w.length := by omega
    have e1 : (((i + 1 : Nat) : Int) - 1) = (i : Int) := by omega
    rw [e1, f37_1_r2000006_l1, ct (by omega), ct (by omega), ct (by omega), w64 (by omega) (by omega), readPl hw i k (by omega) (by omega)]
    have hg : w.getD (0 + (i : Int).toNat) ((0, ByteArray.empty) : Int × ByteArray) = w[i] := by simp [h1]
    rw [hg, List.take_succ_eq_append_getElem h1, lastW_app]
    by_cases hp : w[i].1 = x
    · rw [if_pos hp, show (w[i].1 == x) = true from by simp [hp], cond_true, hp]
    · rw [if_neg hp, show (w[i].1 == x) = false from by simp [hp], cond_false]
theorem lastW_none {x : Int} : ∀ {w : WL}, (∀ p ∈ w, p.1 ≠ x) → lastW x w = none
  | [], _ => rfl
  | p :: r, h => by rw [lastW, lastW_none (fun q hq => h q (by simp [hq]))]; simp [h p (by simp)]
theorem readP {β : Type} {F n k : Nat} (hF : 7000 ≤ F) {x a c : Int} {b : Bool} {l : List ByteArray} {w : WL} (h : DS n k a c l w) {K : ByteArray → Int → Option β} : f37_1 F x a b c l w K = K (rd x b l w).1 (rd x b l w).2 := by
  have hk := h.k300; have hwl := h.wl
  rw [f37_1]
  cases b with
  | true => rfl
  | false =>
    rw [cond_false, f99_1, f37_1_r2000006, w64 (by omega) (by omega), readPl (by omega) w.length F (Nat.le_refl _) (by omega), List.take_length, rd, if_neg (by simp)]
    by_cases hx : 0 ≤ x ∧ x < (l.length : Int)
    · rw [if_pos hx, last_eq]
      cases hq : lastW x w with
      | none => simp only [keptP]; rw [kp, if_pos hx]
      | some t => simp only [kp, if_pos hx]
    · rw [if_neg hx, lastW_none (fun p hp he => hx (by have := h.wb p hp; have := h.len; omega))]
      simp only [keptP]; rw [kp, if_neg hx]
def dec (a : Int) : Int := if a = -1 then a else a - 1
def wS (x : Int) (t : ByteArray) (a : Int) (b : Bool) (c : Int) (l : List ByteArray) (w : WL) : Int × Int × Bool × Int × WL :=
  if b then (5, a, b, c, w) else if ¬ (0 ≤ x ∧ x < (l.length : Int)) then (3, a, b, c, w) else if t.size ≠ 64 then (4, a, b, c, w) else if a = 0 then (5, -1, true, c, w) else (0, dec a, b, c + 1, w ++ [(x, t)])
theorem writeP {β : Type} {F n k : Nat} {x a c : Int} {t : ByteArray} {b : Bool} {l : List ByteArray} {w : WL} (h : DS n k a c l w) {K : Int → Int → Bool → Int → WL → Option β} :
    f24_1 F x t a b c l w K = K (wS x t a b c l w).1 (wS x t a b c l w).2.1 (wS x t a b c l w).2.2.1 (wS x t a b c l w).2.2.2.1 (wS x t a b c l w).2.2.2.2 := by
  have hk := h.k300; have hwl := h.wl; have ha := h.ar; have hc := h.cr
  rw [f24_1, wS]
  cases b with
  | true => rfl
  | false =>
    rw [cond_false, if_neg (by simp), f77_1, f85_1, f86_1]
    by_cases h1 : 0 ≤ x
    · rw [ct (by omega)]
      by_cases h2 : x < (l.length : Int)
      · rw [if_neg (by simp [h1, h2]), decide_eq_true h2, Bool.not_true, cond_false]
        by_cases h3 : t.size = 64
        · rw [if_neg (by simp [h3]), show ((t.size : Int) == 64) = true from by simp [h3], Bool.not_true, cond_false]
          by_cases h4 : a = 0
          · subst h4; rfl
          · rw [if_neg h4, show (a == 0) = false from by simp [h4], cond_false, dec]
            by_cases h5 : a = -1
            · rw [if_pos h5, show (a == -1) = true from by simp [h5], cond_true, cond_false, ct (by omega), w64 (by omega) (by omega)]
            · rw [if_neg h5, show (a == -1) = false from by simp [h5], cond_false, cond_false, ct (by omega), w64 (x := a - 1) (by omega) (by omega), w64 (by omega) (by omega)]
        · rw [if_pos (by simpa using h3), show ((t.size : Int) == 64) = false from by simp; omega]; rfl
      · rw [if_pos (by omega), decide_eq_false h2]; rfl
    · rw [cf (by omega), if_pos (by omega)]; rfl
def put1 (l : List ByteArray) (p : Int × ByteArray) : List ByteArray := l.set p.1.toNat p.2
theorem put1_len (l : List ByteArray) (p : Int × ByteArray) : (put1 l p).length = l.length := by simp [put1]
theorem puts_len : ∀ (w : WL) (l : List ByteArray), (w.foldl put1 l).length = l.length
  | [], l => rfl
  | p :: r, l => by rw [List.foldl_cons, puts_len r, put1_len]
theorem flushPl {β : Type} {F n : Nat} {a c : Int} {b : Bool} {w : WL} {K : List ByteArray → Option β} (hw : w.length ≤ 6000) (hb : ∀ p ∈ w, 0 ≤ p.1 ∧ p.1 < (n : Int)) : ∀ (r : WL) (i k : Nat) (l : List ByteArray), w.drop i = r → i ≤ w.length → r.length < k → l.length = n →
    f27_1_l6 F ((w.length : Nat) : Int) a b c w K k (i : Int) l = K (r.foldl put1 l)
  | [], i, 0, s, _, _, hk, _ => by simp at hk
  | _ :: _, i, 0, s, _, _, hk, _ => by simp at hk
  | [], i, k + 1, s, hd, hi, _, _ => by
    have := len_of_drop_nil hd hi
    rw [f27_1_l6, cf (by omega)]; rfl
  | p :: r, i, k + 1, l, hd, hi, hk, hl => by
    obtain ⟨h1, h2, h3⟩ := getD_of_drop (d := ((0, ByteArray.empty) : Int × ByteArray)) hd
    have hp := hb p (List.mem_of_mem_drop (by rw [hd]; simp))
    rw [f27_1_l6, ct (by omega), ct (by omega), ct (by omega), h2, ct (by omega), ct (by omega), w64 (by omega) (by omega), Nat.zero_add, List.foldl_cons]
    exact flushPl hw hb r (i + 1) k (put1 l p) h3 (by omega) (by simp at hk; omega) (by rw [put1_len]; exact hl)
def fS (a : Int) (b : Bool) (c : Int) (l : List ByteArray) (w : WL) : Int × Int × Bool × Int × List ByteArray × WL :=
  if b then (5, a, b, c, l, w) else if a = 0 then (5, -1, true, c, l, w) else (0, dec a, b, c + 1, w.foldl put1 l, [])
theorem flushP {β : Type} {F n k : Nat} (hF : 7000 ≤ F) {a c : Int} {b : Bool} {l : List ByteArray} {w : WL} (h : DS n k a c l w) {K : Int → Int → Bool → Int → List ByteArray → WL → Option β} :
    f27_1 F a b c l w K = K (fS a b c l w).1 (fS a b c l w).2.1 (fS a b c l w).2.2.1 (fS a b c l w).2.2.2.1 (fS a b c l w).2.2.2.2.1 (fS a b c l w).2.2.2.2.2 := by
  have hk := h.k300; have hwl := h.wl; have ha := h.ar; have hc := h.cr
  rw [f27_1, fS, f86_1]
  cases b with
  | true => rfl
  | false =>
    rw [cond_false, if_neg (by simp)]
    by_cases h4 : a = 0
    · subst h4; rfl
    · rw [if_neg h4, show (a == 0) = false from by simp [h4], cond_false, dec]
      by_cases h5 : a = -1
      · rw [if_pos h5, show (a == -1) = true from by simp [h5], cond_true, Bool.not_true, cond_false, w64 (by omega) (by omega)]
        exact flushPl (by omega) h.wb w 0 F l rfl (by omega) (by omega) h.len
      · rw [if_neg h5, show (a == -1) = false from by simp [h5], cond_false, Bool.not_true, cond_false, w64 (x := a - 1) (by omega) (by omega), w64 (by omega) (by omega)]
        exact flushPl (by omega) h.wb w 0 F l rfl (by omega) (by omega) h.len
section
variable {n k : Nat} {a c : Int} {l : List ByteArray} {w : WL}
theorem DS.more (h : DS n k a c l w) (hk : k < 6000) : DS n (k + 1) a c l w := ⟨h.n40, by omega, h.len, by have := h.wl; omega, h.wb, h.ar, by have := h.cr; omega⟩
theorem DS.off (h : DS n k a c l w) (hk : k < 6000) : DS n (k + 1) (-1) c l w := ⟨h.n40, by omega, h.len, by have := h.wl; omega, h.wb, by omega, by have := h.cr; omega⟩
theorem DS.fuse (h : DS n k a c l w) (hk : k < 6000) {x : Int} (hx : x ≤ 9223372036854775807) : DS n (k + 1) (if (-1) > x then (-1) else x) c l w := ⟨h.n40, by omega, h.len, by have := h.wl; omega, h.wb, by split <;> omega, by have := h.cr; omega⟩
theorem DS.wrote (h : DS n k a c l w) (hk : k < 6000) (h0 : a ≠ 0) {x : Int} {t : ByteArray} (hx : 0 ≤ x ∧ x < (l.length : Int)) : DS n (k + 1) (dec a) (c + 1) l (w ++ [(x, t)]) :=
  ⟨h.n40, by omega, h.len, by have := h.wl; simp; omega, fun p hp => by
    rcases List.mem_append.1 hp with hp | hp
    · exact h.wb p hp
    · simp at hp; subst hp; rw [← h.len]; exact hx, by have := h.ar; unfold dec; split <;> omega, by have := h.cr; omega⟩
theorem DS.flushed (h : DS n k a c l w) (hk : k < 6000) (h0 : a ≠ 0) : DS n (k + 1) (dec a) (c + 1) (w.foldl put1 l) [] :=
  ⟨h.n40, by omega, by rw [puts_len]; exact h.len, by simp, fun p hp => (by cases hp), by have := h.ar; unfold dec; split <;> omega, by have := h.cr; omega⟩
end
theorem wS_ok {n k : Nat} {x a c : Int} {t : ByteArray} {b : Bool} {l : List ByteArray} {w : WL} (h : DS n k a c l w) (hk : k < 6000) : DS n (k + 1) (wS x t a b c l w).2.1 (wS x t a b c l w).2.2.2.1 l (wS x t a b c l w).2.2.2.2 := by
  unfold wS
  split
  · exact h.more hk
  · split
    · exact h.more hk
    · rename_i h2
      split
      · exact h.more hk
      · split
        · exact h.off hk
        · rename_i h4
          exact h.wrote hk h4 (Classical.not_not.1 h2)
theorem fS_ok {n k : Nat} {a c : Int} {b : Bool} {l : List ByteArray} {w : WL} (h : DS n k a c l w) (hk : k < 6000) : DS n (k + 1) (fS a b c l w).2.1 (fS a b c l w).2.2.2.1 (fS a b c l w).2.2.2.2.1 (fS a b c l w).2.2.2.2.2 := by
  unfold fS
  split
  · exact h.more hk
  · split
    · exact h.off hk
    · rename_i h4
      exact h.flushed hk h4
end
end Go.Proofs.YtlgopekjjkdkiaaGreatDoor.X
end
section
namespace Go.Proofs.YtlgopekjjkdkiaaGreatDoor.X
open Go Go.Proofs.YtlgopekjjkdkiaaGreatDoor.Ev Go.Proofs
set_option linter.unusedVariables false
set_option linter.unusedSectionVars false
section
variable [FZ]
end
section
variable [FZ]
end
section
variable [FZ]
end
section
variable [FZ]
end
section
variable [FZ]
end
end Go.Proofs.YtlgopekjjkdkiaaGreatDoor.X
end
section
namespace Go.Proofs.YtlgopekjjkdkiaaGreatDoor.X
open Go Go.Proofs.YtlgopekjjkdkiaaGreatDoor.Ev
set_option linter.unusedSectionVars false
set_option linter.unusedVariables false
set_option linter.unusedSimpArgs false
section
variable [FZ]
theorem x32 (x y : Int) : 0 ≤ ixor .u32 x y ∧ ixor .u32 x y < 4294967296 := by
  unfold ixor; rw [wu32m]; omega
theorem x8 (x y : Int) : 0 ≤ ixor .u8 x y ∧ ixor .u8 x y < 256 := by
  unfold ixor; rw [wu8m]; omega
def eStep (x : Int) : Int := if (iand .u32 x 1) == 1 then ixor .u32 (ishr .u32 x 1) 2197175160 else ishr .u32 x 1
def ent (x : Int) : Int := eStep (eStep (eStep (eStep (eStep (eStep (eStep (eStep x)))))))
def tb : List Int := (List.range 256).map fun (i : Nat) => ent (i : Int)
theorem tb_len : tb.length = 256 := by simp [tb]
set_option maxRecDepth 100000 in
theorem tableP {β : Type} {K : List Int → Option β} : f215_1 20000 K = K tb := by kernel_rfl
def crcS : Int → List Int → Int
  | n, [] => n
  | n, c :: r => crcS (ixor .u32 (ishr .u32 n 8) (tb.getD (ixor .u8 (IntKind.u8.wrap n) c).toNat 0)) r
def crc (b : List Int) : Int := ixor .u32 4294967295 (crcS (ixor .u32 4294967295 0) b)
theorem atL {α : Type} {l r : List α} {x d : α} {i : Nat} (hd : l.drop i = x :: r) : i < l.length ∧ l.getD (0 + (i : Int).toNat) d = x ∧ l.drop (i + 1) = r := by
  have h1 : i < l.length := by
    rcases Nat.lt_or_ge i l.length with h1 | h1
    · exact h1
    · rw [List.drop_eq_nil_of_le h1] at hd; cases hd
  rw [List.drop_eq_getElem_cons h1] at hd
  injection hd with h2 h3
  refine ⟨h1, ?_, h3⟩
  simp [h1, h2]
theorem nilL {α : Type} {l : List α} {i : Nat} (h : l.drop i = []) (hi : i ≤ l.length) : i = l.length := by
  have := congrArg List.length h
  simp at this; omega
theorem crcPl {β : Type} {F : Nat} {b : List Int} {K : Int → Option β} (hb : b.length ≤ 100000) : ∀ (r : List Int) (i k : Nat) (n : Int), b.drop i = r → i ≤ b.length → r.length < k →
    f191_1_l4 F ((b.length : Nat) : Int) b tb K k n (i : Int) = K (crcS n r)
  | [], i, 0, _, _, _, hk => by simp at hk
  | _ :: _, i, 0, _, _, _, hk => by simp at hk
  | [], i, k + 1, n, hd, hi, _ => by
    have := nilL hd hi
    rw [f191_1_l4, cf (by omega)]; rfl
  | c :: r, i, k + 1, n, hd, hi, hk => by
    obtain ⟨h1, h2, h3⟩ := atL (d := (0 : Int)) hd
    have hx := x8 (IntKind.u8.wrap n) c
    rw [f191_1_l4, ct (by omega), ct (by omega), ct (by omega), h2, ct hx, ct (by rw [tb_len]; omega), w64 (by omega) (by omega), crcS]
    exact crcPl hb r (i + 1) k _ h3 (by omega) (by simp at hk; omega)
theorem crcP {β : Type} {b : List Int} {K : Int → Option β} (hb : b.length ≤ 10000) : f148_1 20000 b K = K (crc b) := by
  rw [f148_1, f191_1, tableP]
  exact crcPl (K := fun x7 => K (ixor .u32 4294967295 x7)) (by omega) b 0 20000 _ rfl (by omega) (by omega)
def b4 (n : Int) : List Int := [IntKind.u8.wrap (ishr .u64 n 24), IntKind.u8.wrap (ishr .u64 n 16), IntKind.u8.wrap (ishr .u64 n 8), IntKind.u8.wrap (ishr .u64 n 0)]
theorem put4 {β : Type} {n : Int} {K : List Int → Option β} : f147_1 20000 4 n [] K = K (b4 n) := by kernel_rfl
end
end Go.Proofs.YtlgopekjjkdkiaaGreatDoor.X
end
section
namespace Go.Proofs.YtlgopekjjkdkiaaGreatDoor.X
open Go Go.Proofs.YtlgopekjjkdkiaaGreatDoor.Ev Go.Proofs
set_option linter.unusedVariables false
set_option linter.unusedSectionVars false
section
variable [FZ]
end
section
variable [FZ]
end
section
variable [FZ]
end
end Go.Proofs.YtlgopekjjkdkiaaGreatDoor.X
end
section
namespace Go.Proofs.YtlgopekjjkdkiaaGreatDoor.X
open Go Go.Proofs.YtlgopekjjkdkiaaGreatDoor.Ev
set_option linter.unusedSectionVars false
set_option linter.unusedVariables false
set_option linter.unusedSimpArgs false
section
variable [FZ]
abbrev D (s : ByteArray) : List UInt8 := s.data.toList
theorem extB {s t : ByteArray} (h : D s = D t) : s = t := by
  cases s; cases t
  congr
  exact Array.toList_inj.1 h
theorem D_app (s t : ByteArray) : D (s ++ t) = D s ++ D t := by simp [D]
theorem D_ext (s : ByteArray) (a b : Nat) : D (s.extract a b) = ((D s).drop a).take (b - a) := by
  simp only [D, ByteArray.data_extract, Array.toList_extract, List.extract_eq_take_drop]
theorem D_size (s : ByteArray) : s.size = (D s).length := Array.length_toList.symm
theorem D_ofInts (l : List Int) : D (ofInts l) = l.map fun n => UInt8.ofNat n.toNat := by simp [D, ofInts]
theorem toInts_D (s : ByteArray) : toInts s = (D s).map fun c => (c.toNat : Int) := rfl
theorem loopB (s : ByteArray) : ∀ (m i : Nat) (r : List UInt8), i + m = s.size → ByteArray.toList.loop s i r = r.reverse ++ (D s).drop i
  | 0, i, r, h => by
    rw [ByteArray.toList.loop, if_neg (by omega), List.drop_eq_nil_of_le (by rw [← D_size]; omega), List.append_nil]
  | m + 1, i, r, h => by
    have h1 : i < (D s).length := by rw [← D_size]; omega
    rw [ByteArray.toList.loop, if_pos (by omega), loopB s m (i + 1) _ (by omega), List.drop_eq_getElem_cons h1]
    have : s.get! i = (D s)[i] := by
      have h2 : i < s.data.size := by have := h1; simpa [D] using this
      simp only [ByteArray.get!, D, Array.getElem_toList]
      exact getElem!_pos s.data i h2
    rw [this]; simp
theorem toList_D (s : ByteArray) : s.toList = D s := by
  rw [ByteArray.toList, loopB s s.size 0 [] (by omega)]; rfl
theorem beqB {s t : ByteArray} : (s.toList == t.toList) = decide (s = t) := by
  rw [toList_D, toList_D, Bool.eq_iff_iff]
  simp only [beq_iff_eq, decide_eq_true_eq]
  exact ⟨extB, fun h => by rw [h]⟩
def front (k : Int) (b : ByteArray) : ByteArray := ⟨(UInt8.ofNat k.toNat :: UInt8.ofNat b.size :: (D b ++ List.replicate (58 - b.size) 0)).toArray⟩
def mkB (k : Int) (b : ByteArray) : ByteArray := front k b ++ ofInts (b4 (crc (toInts (front k b))))
def mkR (k : Int) (b : ByteArray) : ByteArray × Int := if k < 1 ∨ k > 8 then (ByteArray.empty, 22) else if b.size > 58 then (ByteArray.empty, 8) else (mkB k b, 0)
theorem front_D (k : Int) (b : ByteArray) : D (front k b) = UInt8.ofNat k.toNat :: UInt8.ofNat b.size :: (D b ++ List.replicate (58 - b.size) 0) := by simp [D, front]
theorem front_size {k : Int} {b : ByteArray} (h : b.size ≤ 58) : (front k b).size = 60 := by
  rw [D_size, front_D]; simp [← D_size]
  have := D_size b
  simp [D] at this
  omega
theorem crc_r (b : List Int) : 0 ≤ crc b ∧ crc b < 4294967296 := x32 _ _
theorem sumP {β : Type} {s : ByteArray} (h : 60 ≤ s.size) {K : ByteArray → Option β} : f146_1 20000 s K = K (ofInts (b4 (crc (toInts (s.extract 0 60))))) := by
  have hc := crc_r (toInts (s.extract 0 60))
  have hl : (toInts (s.extract 0 60)).length ≤ 60 := by
    rw [toInts_D, D_ext]; simp; omega
  rw [f146_1, ct (by omega), crcP (by omega), wu64 (by omega) (by omega), put4]
theorem ext_all {s : ByteArray} {n : Nat} (h : s.size = n) : s.extract 0 n = s := by
  apply extB
  rw [D_ext, List.drop_zero, List.take_of_length_le (by rw [← D_size]; omega)]
theorem rep0 (n : Nat) : D (rep ⟨#[0]⟩ n) = List.replicate n 0 := by
  show D ⟨(Lib.repeatL [0] n).toArray⟩ = _
  have : ∀ n, Lib.repeatL [(0 : UInt8)] n = List.replicate n 0 := fun n => by
    induction n with
    | zero => rfl
    | succ n ih => simp [Lib.repeatL, ih, List.replicate_succ]
  simp [D, this]
theorem u8n {n : Int} (h : 0 ≤ n ∧ n < 256) : IntKind.u8.wrap n = n := wu8 h.1 h.2
theorem makeP {β : Type} {k : Int} {b : ByteArray} (hb : b.size ≤ maxLen) {K : ByteArray → Int → Option β} : f94_1 20000 k b K = K (mkR k b).1 (mkR k b).2 := by
  rw [f94_1, mkR]
  by_cases h1 : k < 1
  · rw [ct h1, if_pos (.inl h1)]
  · by_cases h2 : k > 8
    · rw [cf h1, ct h2, if_pos (.inr h2)]
    · rw [cf h1, cf h2, if_neg (by omega)]
      by_cases h3 : b.size > 58
      · rw [ct (by omega), if_pos h3]
      · have hs2 : (ofInts [IntKind.u8.wrap k, IntKind.u8.wrap (b.size : Int)]).size = 2 := by rw [D_size, D_ofInts]; rfl
        have hs : (ofInts [IntKind.u8.wrap k, IntKind.u8.wrap (b.size : Int)] ++ b).size = 2 + b.size := by rw [D_size, D_app, List.length_append, ← D_size, ← D_size, hs2]
        rw [cf (by omega), if_neg h3, ct (by omega), f145_1, hs, w64 (by omega) (by omega), ct ⟨by omega, by omega, by
          have : (⟨#[0]⟩ : ByteArray).size = 1 := rfl
          rw [this]; omega⟩]
        have hf : ofInts [IntKind.u8.wrap k, IntKind.u8.wrap (b.size : Int)] ++ b ++ rep ⟨#[0]⟩ (60 - ((2 + b.size : Nat) : Int)).toNat = front k b := by
          apply extB
          rw [D_app, D_app, rep0, D_ofInts, front_D, u8n (by omega), u8n (by omega), show (60 - ((2 + b.size : Nat) : Int)).toNat = 58 - b.size by omega]
          simp
        have hfs := front_size (k := k) (b := b) (by omega)
        have hr : (rep ⟨#[0]⟩ (60 - ((2 + b.size : Nat) : Int)).toNat).size ≤ 60 := by rw [D_size, rep0]; simp; omega
        rw [ct (by omega), hf, sumP (by omega), ext_all hfs, ct (by
          rw [hfs, D_size, D_ofInts]; simp [b4])]
        rfl
noncomputable def Z64 : ByteArray := ofInts (List.replicate 64 0)
theorem Z64_D : D Z64 = List.replicate 64 0 := by rw [Z64, D_ofInts]; rfl
def byt (s : ByteArray) (i : Nat) : Int := ((s.data.getD i 0).toNat : Int)
theorem byt_r (s : ByteArray) (i : Nat) : 0 ≤ byt s i ∧ byt s i < 256 := by
  have := (s.data.getD i 0).toNat_lt
  unfold byt; omega
def sm (s : ByteArray) : ByteArray := ofInts (b4 (crc (toInts (s.extract 0 60))))
def zer (s : ByteArray) (n : Nat) : Bool := (((D s).drop n).take (60 - n)).all (· == 0)
def kd (s : ByteArray) : Int × Int := if s.size ≠ 64 then (0, 4) else if ((sm s).toList == (s.extract 60 64).toList) = false then (0, 9) else
  if byt s 0 < 1 ∨ byt s 0 > 8 ∨ byt s 1 > 58 ∨ zer s (2 + (byt s 1).toNat) = false then (0, 6) else (byt s 0, 0)
theorem dropW_nil {p : UInt8 → Bool} : ∀ l : List UInt8, l.dropWhile p = [] ↔ l.all p = true
  | [] => by simp
  | x :: r => by
    rw [List.dropWhile_cons, List.all_cons]
    cases h : p x with
    | true => simpa using dropW_nil r
    | false => simp
theorem dropW_head {p : UInt8 → Bool} : ∀ (l : List UInt8) {y : UInt8} {r : List UInt8}, l.dropWhile p = y :: r → p y = false
  | [], y, r, h => by cases h
  | x :: l, y, r, h => by
    rw [List.dropWhile_cons] at h
    cases hx : p x with
    | true => rw [hx, if_pos rfl] at h; exact dropW_head l h
    | false => rw [hx, if_neg (by simp)] at h; injection h with h1 h2; rw [← h1]; exact hx
theorem trim_nil (l : List UInt8) : Lib.trimS l [0] = [] ↔ l.all (· == 0) = true := by
  have hp : ∀ x : UInt8, [(0 : UInt8)].contains x = (x == 0) := fun x => by rw [Bool.eq_iff_iff]; simp
  rw [Lib.trimS, Lib.trimLeftS, Lib.trimRightS, dropW_nil]
  constructor
  · intro h
    cases hq : l.reverse.dropWhile ([(0 : UInt8)].contains ·) with
    | nil =>
      have := (dropW_nil _).1 hq
      rw [List.all_reverse] at this
      simpa [hp] using this
    | cons y r =>
      have h1 := dropW_head _ hq
      rw [hq, List.all_reverse, List.all_cons, h1] at h
      cases h
  · intro h
    have : l.reverse.dropWhile ([(0 : UInt8)].contains ·) = [] := (dropW_nil _).2 (by rw [List.all_reverse]; simpa [hp] using h)
    rw [this]; rfl
theorem trm0 (x : ByteArray) : ((trm x ⟨#[0]⟩).toList == ByteArray.empty.toList) = (D x).all (· == 0) := by
  rw [beqB, Bool.eq_iff_iff, decide_eq_true_eq, ← trim_nil]
  constructor
  · intro h
    have : D (trm x ⟨#[0]⟩) = [] := by rw [h]; rfl
    simpa [D, trm] using this
  · intro h
    apply extB
    show D (trm x ⟨#[0]⟩) = []
    simpa [D, trm] using h
theorem kindP {β : Type} {s : ByteArray} {K : Int → Int → Option β} : f127_1 20000 s K = K (kd s).1 (kd s).2 := by
  rw [f127_1, f85_1, kd]
  by_cases h1 : s.size = 64
  · have b0 := byt_r s 0
    have b1 := byt_r s 1
    have e0 : ((s.data.getD 0 0).toNat : Int) = byt s 0 := rfl
    have e1 : ((s.data.getD 1 0).toNat : Int) = byt s 1 := rfl
    rw [show ((s.size : Int) == 64) = true by simp; omega, Bool.not_true, cond_false, if_neg (by omega), ct (by omega), sumP (by omega), show ((s.size : Int).toNat) = 64 by omega, e0, e1, w64 (x := byt s 0) (by omega) (by omega), w64 (x := byt s 1) (by omega) (by omega), ← sm]
    cases h2 : ((sm s).toList == (s.extract 60 64).toList) with
    | false => rfl
    | true =>
      rw [Bool.not_true, cond_false, if_neg (by simp), ct (by omega), ct (by omega)]
      by_cases h3 : byt s 0 < 1
      · rw [ct h3, if_pos (.inl h3)]
      · by_cases h4 : byt s 0 > 8
        · rw [cf h3, ct h4, if_pos (.inr (.inl h4))]
        · by_cases h5 : byt s 1 > 58
          · rw [cf h3, cf h4, ct h5, if_pos (.inr (.inr (.inl h5)))]
          · have hn : (2 + byt s 1).toNat = 2 + (byt s 1).toNat := by omega
            have hx : D (s.extract (2 + byt s 1).toNat 60) = ((D s).drop (2 + (byt s 1).toNat)).take (60 - (2 + (byt s 1).toNat)) := by rw [D_ext, hn]
            have hxs : (s.extract (2 + byt s 1).toNat 60).size ≤ 64 := by rw [D_size, hx]; simp; omega
            rw [cf h3, cf h4, cf h5, w64 (x := 2 + byt s 1) (by omega) (by omega), ct (by omega), f178_1, ct ⟨by omega, by decide, by decide⟩, trm0, hx, ← zer]
            cases h6 : zer s (2 + (byt s 1).toNat) with
            | true => rw [Bool.not_true, cond_false, if_neg (by simp; omega)]
            | false => rw [Bool.not_false, cond_true, if_pos (.inr (.inr (.inr rfl)))]
  · rw [show ((s.size : Int) == 64) = false by simp; omega, Bool.not_false, cond_true, if_pos h1]
theorem kd_size {s : ByteArray} (h : (kd s).2 = 0) : s.size = 64 ∧ byt s 1 ≤ 58 ∧ zer s (2 + (byt s 1).toNat) = true ∧ (kd s).1 = byt s 0 ∧ 1 ≤ byt s 0 ∧ byt s 0 ≤ 8 ∧ ((sm s).toList == (s.extract 60 64).toList) = true := by
  unfold kd at h ⊢
  split at h
  · cases h
  · rename_i h1
    split at h
    · cases h
    · rename_i h2
      split at h
      · cases h
      · rename_i h3
        rw [if_neg h1, if_neg h2, if_neg h3]
        refine ⟨by omega, by omega, ?_, rfl, by omega, by omega, by simpa using h2⟩
        cases hz : zer s (2 + (byt s 1).toNat) with
        | true => rfl
        | false => exact (h3 (.inr (.inr (.inr hz)))).elim
def opn (k : Int) (s : ByteArray) : ByteArray × Int := if (kd s).2 ≠ 0 then (ByteArray.empty, (kd s).2) else if (kd s).1 ≠ k then (ByteArray.empty, 22) else (s.extract 2 (2 + (byt s 1).toNat), 0)
theorem openP {β : Type} {k : Int} {s : ByteArray} {K : ByteArray → Int → Option β} : f156_1 20000 k s K = K (opn k s).1 (opn k s).2 := by
  rw [f156_1, kindP, opn]
  have e1 : ((s.data.getD 1 0).toNat : Int) = byt s 1 := rfl
  have b1 := byt_r s 1
  by_cases h1 : (kd s).2 = 0
  · obtain ⟨q1, q2, _⟩ := kd_size h1
    rw [h1, show ((0 : Int) != 0) = false from rfl, cond_false, if_neg (by simp), e1, w64 (x := byt s 1) (by omega) (by omega), w64 (x := 2 + byt s 1) (by omega) (by omega)]
    by_cases h2 : (kd s).1 = k
    · rw [h2, show (k != k) = false by simp, cond_false, if_neg (by simp), ct (by omega), ct (by omega), show (2 + byt s 1).toNat = 2 + (byt s 1).toNat by omega]
    · rw [show ((kd s).1 != k) = true by simp [h2], cond_true, if_pos h2]
  · rw [show ((kd s).2 != 0) = true by simp [h1], cond_true, if_pos h1]
end
section
variable [FZ]
theorem mkB_D (k : Int) (b : ByteArray) : D (mkB k b) = UInt8.ofNat k.toNat :: UInt8.ofNat b.size :: (D b ++ (List.replicate (58 - b.size) 0 ++ D (ofInts (b4 (crc (toInts (front k b))))))) := by
  rw [mkB, D_app, front_D]; simp
theorem b4_size (n : Int) : (ofInts (b4 n)).size = 4 := by rw [D_size, D_ofInts]; rfl
theorem mkB_size {k : Int} {b : ByteArray} (h : b.size ≤ 58) : (mkB k b).size = 64 := by
  have hf := front_size (k := k) h
  have hc := b4_size (crc (toInts (front k b)))
  rw [D_size] at hf hc
  rw [D_size, mkB, D_app, List.length_append, hf, hc]
theorem mkB_front {k : Int} {b : ByteArray} (h : b.size ≤ 58) : (mkB k b).extract 0 60 = front k b := by
  have hf := front_size (k := k) h
  rw [D_size] at hf
  apply extB
  rw [D_ext, mkB, D_app, List.drop_zero, List.take_append_of_le_length (by omega), List.take_of_length_le (by omega)]
theorem mkB_sum {k : Int} {b : ByteArray} (h : b.size ≤ 58) : (mkB k b).extract 60 64 = sm (mkB k b) := by
  have hf := front_size (k := k) h
  have hc := b4_size (crc (toInts (front k b)))
  rw [D_size] at hf hc
  rw [sm, mkB_front h]
  apply extB
  rw [D_ext, mkB, D_app, List.drop_append_of_le_length (by omega), List.drop_eq_nil_of_le (by omega), List.nil_append, List.take_of_length_le (by omega)]
theorem getD_D (s : ByteArray) (i : Nat) : s.data.getD i 0 = (D s).getD i 0 := by simp [D]
theorem mkB_b0 {k : Int} {b : ByteArray} (h1 : 1 ≤ k) (h2 : k ≤ 8) : byt (mkB k b) 0 = k := by
  rw [byt, getD_D, mkB_D]
  show ((UInt8.ofNat k.toNat).toNat : Int) = k
  rw [UInt8.toNat_ofNat']; omega
theorem mkB_b1 {k : Int} {b : ByteArray} (h : b.size ≤ 58) : byt (mkB k b) 1 = (b.size : Int) := by
  rw [byt, getD_D, mkB_D]
  show ((UInt8.ofNat b.size).toNat : Int) = b.size
  rw [UInt8.toNat_ofNat']; omega
theorem mkB_drop {k : Int} {b : ByteArray} : (D (mkB k b)).drop (2 + b.size) = List.replicate (58 - b.size) 0 ++ D (ofInts (b4 (crc (toInts (front k b))))) := by
  have h := D_size b
  rw [mkB_D, show 2 + b.size = b.size + 1 + 1 by omega, List.drop_succ_cons, List.drop_succ_cons, List.drop_append_of_le_length (by omega), List.drop_eq_nil_of_le (by omega), List.nil_append]
theorem mkB_kd {k : Int} {b : ByteArray} (h1 : 1 ≤ k) (h2 : k ≤ 8) (h : b.size ≤ 58) : kd (mkB k b) = (k, 0) := by
  rw [kd, mkB_size h, if_neg (by omega), mkB_sum h, if_neg (by simp), mkB_b0 h1 h2, mkB_b1 h, if_neg]
  rw [show (2 + ((b.size : Nat) : Int).toNat) = 2 + b.size by omega, zer, mkB_drop, List.take_append_of_le_length (by simp; omega), List.take_of_length_le (by simp; omega)]
  simp; omega
theorem mkB_open {k : Int} {b : ByteArray} (h1 : 1 ≤ k) (h2 : k ≤ 8) (h : b.size ≤ 58) : opn k (mkB k b) = (b, 0) := by
  have hs := D_size b
  rw [opn, mkB_kd h1 h2 h, if_neg (by simp), if_neg (by simp), mkB_b1 h, show (2 + ((b.size : Nat) : Int).toNat) = 2 + b.size by omega]
  congr 1
  apply extB
  rw [D_ext, mkB_D, show (2 : Nat) = 1 + 1 from rfl, List.drop_succ_cons, List.drop_succ_cons, List.drop_zero, show 1 + 1 + b.size - (1 + 1) = b.size by omega, List.take_append_of_le_length (by omega), List.take_of_length_le (by omega)]
end
end Go.Proofs.YtlgopekjjkdkiaaGreatDoor.X
end
section
namespace Go.Proofs.YtlgopekjjkdkiaaGreatDoor.X
open Go Go.Proofs.YtlgopekjjkdkiaaGreatDoor.Ev Go.Proofs
set_option linter.unusedVariables false
set_option linter.unusedSectionVars false
section
variable [FZ]
end
section
variable [FZ]
end
end Go.Proofs.YtlgopekjjkdkiaaGreatDoor.X
end
section
namespace Go.Proofs.YtlgopekjjkdkiaaGreatDoor.X
open Go Go.Proofs.YtlgopekjjkdkiaaGreatDoor.Ev
set_option linter.unusedSectionVars false
set_option linter.unusedVariables false
set_option linter.unusedSimpArgs false
section
variable [FZ]
def num (v : Int) (l : List Int) : Int := l.foldl (fun v b => v * 256 + b) v
end
end Go.Proofs.YtlgopekjjkdkiaaGreatDoor.X
end
section
namespace Go.Proofs.YtlgopekjjkdkiaaGreatDoor.X
open Go Go.Proofs.YtlgopekjjkdkiaaGreatDoor.Ev Go.Proofs
set_option linter.unusedVariables false
set_option linter.unusedSectionVars false
section
variable [FZ]
end
end Go.Proofs.YtlgopekjjkdkiaaGreatDoor.X
end
section
namespace Go.Proofs.YtlgopekjjkdkiaaGreatDoor.X
open Go Go.Proofs.YtlgopekjjkdkiaaGreatDoor.Ev
set_option linter.unusedSectionVars false
set_option linter.unusedVariables false
set_option linter.unusedSimpArgs false
section
variable [FZ]
theorem bnf {a b : Int} (h : a = b) : (a != b) = false := by simp [h]
theorem bnt {a b : Int} (h : a ≠ b) : (a != b) = true := by simp [h]
def b8 (n : Int) : List Int := [IntKind.u8.wrap (ishr .u64 n 56), IntKind.u8.wrap (ishr .u64 n 48), IntKind.u8.wrap (ishr .u64 n 40), IntKind.u8.wrap (ishr .u64 n 32), IntKind.u8.wrap (ishr .u64 n 24), IntKind.u8.wrap (ishr .u64 n 16), IntKind.u8.wrap (ishr .u64 n 8), IntKind.u8.wrap (ishr .u64 n 0)]
theorem app_size (s t : ByteArray) : (s ++ t).size = s.size + t.size := by rw [D_size, D_app, List.length_append, ← D_size, ← D_size]
theorem big60 : 60 ≤ maxLen := by decide
end
section
variable [FZ]
theorem oi_size (l : List Int) : (ofInts l).size = l.length := by rw [D_size, D_ofInts, List.length_map]
end
section
variable [FZ]
def lv : Nat → Int → Int → List Int
  | 0, _, _ => []
  | k + 1, n, f => if n > 1 then ((n + f - 1) / f) :: lv k ((n + f - 1) / f) f else []
theorem step_eq {n f : Int} (hf : 2 ≤ f ∧ f ≤ 4) (h1 : 1 < n) (h2 : n ≤ 128) :
    IntKind.i64.wrap ((IntKind.i64.wrap ((IntKind.i64.wrap (n + f)) - 1)).tdiv f) = (n + f - 1) / f ∧ 1 ≤ (n + f - 1) / f ∧ (n + f - 1) / f < n := by
  rw [w64 (x := n + f) (by omega) (by omega), w64 (x := n + f - 1) (by omega) (by omega), Int.tdiv_eq_ediv_of_nonneg (by omega)]
  have : f = 2 ∨ f = 3 ∨ f = 4 := by omega
  rcases this with rfl | rfl | rfl
  · rw [w64 (by omega) (by omega)]; omega
  · rw [w64 (by omega) (by omega)]; omega
  · rw [w64 (by omega) (by omega)]; omega
theorem lev48 {β : Type} {F : Nat} {x f c u : Int} (hf : 2 ≤ f ∧ f ≤ 4) {K : List Int → Option β} : ∀ (k : Nat) (n : Int) (acc : List Int), 1 ≤ n → n ≤ 128 → n < k → (acc.length : Int) + n ≤ 2000 →
    f164_1_l5 F x f c u K k n acc = K (acc ++ lv k n f)
  | 0, n, acc, h1, h2, h3, h4 => by omega
  | k + 1, n, acc, h1, h2, h3, h4 => by
    simp only [f164_1_l5, lv]
    by_cases hn : n > 1
    · obtain ⟨e, g1, g2⟩ := step_eq hf hn h2
      rw [e]
      have h0 : ¬ f = 0 := by omega
      have hl : (acc.length + 1) * 8 ≤ 70368744177664 := by omega
      simp only [hn, h0, hl, decide_true, decide_false, cond_true, cond_false, if_true]
      rw [lev48 hf k _ _ g1 (by omega) (by omega) (by simp; omega)]
      simp
    · simp [hn]
theorem lev49 {β : Type} {F : Nat} {x f c u : Int} (hf : 2 ≤ f ∧ f ≤ 4) {K : List Int → Option β} : ∀ (k : Nat) (n : Int) (acc : List Int), 1 ≤ n → n ≤ 128 → n < k → (acc.length : Int) + n ≤ 2000 →
    f98_1_l5 F x f c u K k n acc = K (acc ++ lv k n f)
  | 0, n, acc, h1, h2, h3, h4 => by omega
  | k + 1, n, acc, h1, h2, h3, h4 => by
    simp only [f98_1_l5, lv]
    by_cases hn : n > 1
    · obtain ⟨e, g1, g2⟩ := step_eq hf hn h2
      rw [e]
      have h0 : ¬ f = 0 := by omega
      have hl : (acc.length + 1) * 8 ≤ 70368744177664 := by omega
      simp only [hn, h0, hl, decide_true, decide_false, cond_true, cond_false, if_true]
      rw [lev49 hf k _ _ g1 (by omega) (by omega) (by simp; omega)]
      simp
    · simp [hn]
theorem lv_ok {f : Int} (hf : 2 ≤ f ∧ f ≤ 4) : ∀ (k : Nat) (n : Int), 1 ≤ n → n ≤ 128 → ((lv k n f).length : Int) < n ∧ ∀ y ∈ lv k n f, 1 ≤ y ∧ y ≤ 128
  | 0, n, h1, h2 => by simp [lv]; omega
  | k + 1, n, h1, h2 => by
    simp only [lv]
    by_cases hn : n > 1
    · obtain ⟨e, g1, g2⟩ := step_eq hf hn h2
      obtain ⟨q1, q2⟩ := lv_ok hf k _ g1 (by omega)
      rw [if_pos hn]
      refine ⟨by simp; omega, fun y hy => ?_⟩
      rcases List.mem_cons.1 hy with rfl | hy
      · omega
      · exact q2 y hy
    · rw [if_neg hn]; simp; omega
def rt (n f c u : Int) : Prop := (1 ≤ n ∧ n ≤ 128) ∧ (2 ≤ f ∧ f ≤ 4) ∧ (0 ≤ c ∧ c ≤ 64) ∧ (1 ≤ u ∧ u ≤ 320)
instance (n f c u : Int) : Decidable (rt n f c u) := by unfold rt; infer_instance
theorem cnd {β : Type} {p q : Prop} [Decidable p] [Decidable q] {K : Bool → Option β} : cond (decide p) (K (decide q)) (K false) = K (decide (p ∧ q)) := by
  by_cases h : p <;> simp [h]
theorem within87 {β : Type} {F : Nat} {a b c : Int} {K : Bool → Option β} : f144_1 F a b c K = K (decide (a ≥ b ∧ a ≤ c)) := by
  simp only [f144_1, cnd]
theorem right46 {β : Type} {F : Nat} {n f c u : Int} {K : Bool → Option β} : f90_1 F n f c u K = K (decide (rt n f c u)) := by
  simp only [f90_1, within87, cnd]
  congr 1
theorem right47 {β : Type} {F : Nat} {n f c u : Int} {K : Bool → Option β} : f21_1 F n f c u K = K (decide (rt n f c u)) := by
  simp only [f21_1, cnd]
  congr 1
  exact decide_eq_decide.2 (by unfold rt; omega)
def levels (n f c u : Int) : List Int := if rt n f c u then n :: lv 20000 n f else []
theorem levels48 {β : Type} {n f c u : Int} {K : List Int → Option β} : f164_1 20000 n f c u K = K (levels n f c u) := by
  simp only [f164_1, right46, levels]
  by_cases h : rt n f c u
  · simp only [h, decide_true, Bool.not_true, cond_false, if_true]
    rw [lev48 h.2.1 20000 n [n] h.1.1 h.1.2 (by have := h.1.2; omega) (by have := h.1.2; simp; omega)]
    rfl
  · simp [h]
theorem levels49 {β : Type} {n f c u : Int} {K : List Int → Option β} : f98_1 20000 n f c u K = K (levels n f c u) := by
  simp only [f98_1, right47, levels]
  by_cases h : rt n f c u
  · simp only [h, decide_true, Bool.not_true, cond_false, if_true]
    rw [lev49 h.2.1 20000 n [n] h.1.1 h.1.2 (by have := h.1.2; omega) (by have := h.1.2; simp; omega)]
    rfl
  · simp [h]
theorem levels_ok (n f c u : Int) : (levels n f c u).length ≤ 128 ∧ ∀ y ∈ levels n f c u, 1 ≤ y ∧ y ≤ 128 := by
  unfold levels
  split
  · rename_i h
    obtain ⟨q1, q2⟩ := lv_ok h.2.1 20000 n h.1.1 h.1.2
    have := h.1
    refine ⟨by simp; omega, fun y hy => ?_⟩
    rcases List.mem_cons.1 hy with rfl | hy
    · omega
    · exact q2 y hy
  · simp
def sumI : List Int → Int
  | [] => 0
  | x :: r => x + sumI r
theorem sumI_ok : ∀ (l : List Int), (∀ y ∈ l, 1 ≤ y ∧ y ≤ 128) → (l.length : Int) ≤ sumI l ∧ sumI l ≤ 128 * l.length
  | [], _ => by simp [sumI]
  | x :: r, h => by
    obtain ⟨q1, q2⟩ := sumI_ok r fun y hy => h y (by simp [hy])
    have := h x (by simp)
    simp only [sumI, List.length_cons]
    omega
theorem sum50 {β : Type} {F : Nat} {K : Int → Option β} (l : List Int) (hl : l.length ≤ 128) (hy : ∀ y ∈ l, 1 ≤ y ∧ y ≤ 128) : ∀ (r : List Int) (i : Nat) (k : Nat) (s : Int), l.drop i = r → i ≤ l.length → r.length < k → 0 ≤ s → s ≤ 128 * i →
    f111_1_l3 F ((l.length : Nat) : Int) l K k s (i : Int) = K (s + sumI r)
  | [], i, k, s, hd, hi, hk, h0, h1 => by
    cases k with
    | zero => omega
    | succ k =>
      have : i = l.length := by
        have := congrArg List.length hd
        simp at this; omega
      subst this
      simp [f111_1_l3, sumI]
  | x :: r, i, k, s, hd, hi, hk, h0, h1 => by
    cases k with
    | zero => omega
    | succ k =>
      have hlen : l.length - i = r.length + 1 := by
        have := congrArg List.length hd
        simpa using this
      have hlt : i < l.length := by omega
      have hx : l[i]? = some x := by
        have := congrArg (·[0]?) hd
        simpa using this
      have hm := hy x (List.mem_of_getElem? hx)
      have hdr : l.drop (i + 1) = r := by
        rw [← List.drop_drop, hd]; rfl
      simp only [f111_1_l3]
      have e1 : decide ((i : Int) < ((l.length : Nat) : Int)) = true := by simp; omega
      have e2 : decide ((0 : Int) ≤ (i : Int) ∧ (i : Int) < ((l.length : Nat) : Int)) = true := by simp; omega
      have e3 : decide (0 + (i : Int).toNat < l.length) = true := by simp; omega
      have e4 : l.getD (0 + (i : Int).toNat) 0 = x := by
        rw [List.getD_eq_getElem?_getD]; simp [hx]
      rw [e1, e2, e3, e4, cond_true, cond_true, cond_true, w64 (by omega) (by omega), w64 (by omega) (by omega)]
      have := sum50 (F := F) (K := K) l hl hy r (i + 1) k (s + x) hdr (by omega) (by simpa using hk) (by omega) (by omega)
      rw [show ((i : Int) + 1) = ((i + 1 : Nat) : Int) by omega, this]
      congr 1
      simp only [sumI]; omega
theorem sum51 {β : Type} {F : Nat} {K : Int → Option β} (l : List Int) (hl : l.length ≤ 128) (hy : ∀ y ∈ l, 1 ≤ y ∧ y ≤ 128) : ∀ (r : List Int) (i : Nat) (k : Nat) (s : Int), l.drop i = r → i ≤ l.length → r.length < k → 0 ≤ s → s ≤ 128 * i →
    f36_1_l4 F l K k s (i : Int) = K (s + sumI r)
  | [], i, k, s, hd, hi, hk, h0, h1 => by
    cases k with
    | zero => omega
    | succ k =>
      have : i = l.length := by
        have := congrArg List.length hd
        simp at this; omega
      subst this
      simp [f36_1_l4, sumI]
  | x :: r, i, k, s, hd, hi, hk, h0, h1 => by
    cases k with
    | zero => omega
    | succ k =>
      have hlen : l.length - i = r.length + 1 := by
        have := congrArg List.length hd
        simpa using this
      have hlt : i < l.length := by omega
      have hx : l[i]? = some x := by
        have := congrArg (·[0]?) hd
        simpa using this
      have hm := hy x (List.mem_of_getElem? hx)
      have hdr : l.drop (i + 1) = r := by
        rw [← List.drop_drop, hd]; rfl
      simp only [f36_1_l4]
      have e1 : decide ((i : Int) < ((l.length : Nat) : Int)) = true := by simp; omega
      have e2 : decide ((0 : Int) ≤ (i : Int) ∧ (i : Int) < ((l.length : Nat) : Int)) = true := by simp; omega
      have e3 : decide (0 + (i : Int).toNat < l.length) = true := by simp; omega
      have e4 : l.getD (0 + (i : Int).toNat) 0 = x := by
        rw [List.getD_eq_getElem?_getD]; simp [hx]
      rw [e1, e2, e3, e4, cond_true, cond_true, cond_true, w64 (by omega) (by omega), w64 (by omega) (by omega)]
      have := sum51 (F := F) (K := K) l hl hy r (i + 1) k (s + x) hdr (by omega) (by simpa using hk) (by omega) (by omega)
      rw [show ((i : Int) + 1) = ((i + 1 : Nat) : Int) by omega, this]
      congr 1
      simp only [sumI]; omega
def nodes (n f c u : Int) : Int := sumI (levels n f c u)
theorem nodes_ok (n f c u : Int) : 0 ≤ nodes n f c u ∧ nodes n f c u ≤ 16384 ∧ (rt n f c u → 1 ≤ nodes n f c u) ∧ (¬ rt n f c u → nodes n f c u = 0) := by
  obtain ⟨h1, h2⟩ := levels_ok n f c u
  obtain ⟨h3, h4⟩ := sumI_ok _ h2
  unfold nodes
  refine ⟨by omega, by omega, fun h => ?_, fun h => by simp [levels, h, sumI]⟩
  have : 1 ≤ (levels n f c u).length := by simp [levels, h]
  omega
theorem nodes50 {β : Type} {n f c u : Int} {K : Int → Option β} : f111_1 20000 n f c u K = K (nodes n f c u) := by
  obtain ⟨h1, h2⟩ := levels_ok n f c u
  simp only [f111_1, levels48]
  have := sum50 (F := 20000) (K := K) (levels n f c u) h1 h2 _ 0 20000 0 rfl (by omega) (by simp; omega) (by omega) (by omega)
  simp only [List.drop_zero, Int.zero_add] at this
  exact this
theorem nodes51 {β : Type} {n f c u : Int} {K : Int → Option β} : f36_1 20000 n f c u K = K (nodes n f c u) := by
  obtain ⟨h1, h2⟩ := levels_ok n f c u
  simp only [f36_1, levels49]
  have := sum51 (F := 20000) (K := K) (levels n f c u) h1 h2 _ 0 20000 0 rfl (by omega) (by simp; omega) (by omega) (by omega)
  simp only [List.drop_zero, Int.zero_add] at this
  exact this
end
section
variable [FZ]
def kids (f : Int) (from_ a q : Int) : Nat → List Int
  | 0 => []
  | k + 1 => kids f from_ a q k ++ (if q * f + k < a then [from_ + (q * f + k)] else [])
def chl (f : Int) (node : Int) : Int → List Int → List Int
  | s, a :: b :: r => if s + a ≤ node ∧ node < s + a + b then kids f s a (node - (s + a)) f.toNat else chl f node (s + a) (b :: r)
  | _, _ => []
def par (f : Int) (node : Int) : Int → List Int → Int
  | s, a :: b :: r => if s ≤ node ∧ node < s + a then s + a + (node - s) / f else par f node (s + a) (b :: r)
  | _, _ => -1
def chain (f : Int) : List Int → Prop
  | a :: b :: r => 1 < a ∧ b = (a + f - 1) / f ∧ chain f (b :: r)
  | [a] => a = 1
  | [] => True
theorem chain_lv {f : Int} (hf : 2 ≤ f ∧ f ≤ 4) : ∀ (k : Nat) (n : Int), 1 ≤ n → n ≤ 128 → n < k → chain f (n :: lv k n f)
  | 0, n, h1, h2, h3 => by omega
  | k + 1, n, h1, h2, h3 => by
    simp only [lv]
    by_cases hn : n > 1
    · obtain ⟨e, g1, g2⟩ := step_eq hf hn h2
      rw [if_pos hn]
      exact ⟨hn, rfl, chain_lv hf k _ g1 (by omega) (by omega)⟩
    · rw [if_neg hn]
      show n = 1
      omega
def lvl (node : Int) : Int → Nat → List Int → Option (Nat × Int)
  | s, i, a :: r => if s ≤ node ∧ node < s + a then some (i, s) else lvl node (s + a) (i + 1) r
  | _, _, [] => none
theorem at_drop {l r : List Int} {x : Int} {i : Nat} (hd : l.drop i = x :: r) : i < l.length ∧ l.getD (0 + (i : Int).toNat) 0 = x ∧ l.drop (i + 1) = r := by
  have hlen : l.length - i = r.length + 1 := by
    have := congrArg List.length hd
    simpa using this
  have hx : l[i]? = some x := by
    have := congrArg (·[0]?) hd
    simpa using this
  refine ⟨by omega, ?_, ?_⟩
  · rw [List.getD_eq_getElem?_getD]; simp [hx]
  · rw [← List.drop_drop, hd]; rfl
theorem level88 {β : Type} {F : Nat} {node : Int} {K0 : Int → Int → Option β} {K1 : Option β} (l : List Int) (hl : l.length ≤ 128) (hy : ∀ y ∈ l, 1 ≤ y ∧ y ≤ 128) :
    ∀ (r : List Int) (i k : Nat) (s : Int), l.drop i = r → i ≤ l.length → r.length < k → 0 ≤ s → s ≤ 128 * i →
      f217_1_l3 F node ((l.length : Nat) : Int) l K0 K1 k s (i : Int) = match lvl node s i r with | some (j, t) => K0 (j : Int) t | none => K1
  | [], i, k, s, hd, hi, hk, h0, h1 => by
    cases k with
    | zero => omega
    | succ k =>
      have : i = l.length := by
        have := congrArg List.length hd
        simp at this; omega
      subst this
      simp [f217_1_l3, lvl]
  | x :: r, i, k, s, hd, hi, hk, h0, h1 => by
    cases k with
    | zero => omega
    | succ k =>
      obtain ⟨hlt, hx, hdr⟩ := at_drop hd
      have hm := hy x (by
        have : x ∈ l.drop i := by rw [hd]; simp
        exact List.mem_of_mem_drop this)
      simp only [f217_1_l3, within87]
      have e1 : decide ((i : Int) < ((l.length : Nat) : Int)) = true := by simp; omega
      have e2 : decide ((0 : Int) ≤ (i : Int) ∧ (i : Int) < ((l.length : Nat) : Int)) = true := by simp; omega
      have e3 : decide (0 + (i : Int).toNat < l.length) = true := by simp; omega
      rw [e1, e2, e3, hx, cond_true, cond_true, cond_true, w64 (x := s + x) (by omega) (by omega), w64 (x := s + x - 1) (by omega) (by omega), w64 (x := (i : Int) + 1) (by omega) (by omega)]
      simp only [lvl]
      by_cases hn : s ≤ node ∧ node < s + x
      · have e : decide (node ≥ s ∧ node ≤ s + x - 1) = true := by simp; omega
        rw [e, cond_true, if_pos hn]
      · have e : decide (node ≥ s ∧ node ≤ s + x - 1) = false := by simp; omega
        rw [e, cond_false, if_neg hn, show ((i : Int) + 1) = ((i + 1 : Nat) : Int) by omega]
        exact level88 l hl hy r (i + 1) k (s + x) hdr (by omega) (by simpa using hk) (by omega) (by omega)
theorem lvl_spec {node : Int} : ∀ (r : List Int) (s : Int) (i j : Nat) (t : Int), lvl node s i r = some (j, t) → ∃ p a q, r = p ++ a :: q ∧ j = i + p.length ∧ t = s + sumI p ∧ t ≤ node ∧ node < t + a
  | [], s, i, j, t, h => by simp [lvl] at h
  | x :: r, s, i, j, t, h => by
    simp only [lvl] at h
    split at h
    · rename_i hn
      simp only [Option.some.injEq, Prod.mk.injEq] at h
      obtain ⟨rfl, rfl⟩ := h
      exact ⟨[], x, r, rfl, by simp, by simp [sumI], hn.1, hn.2⟩
    · obtain ⟨p, a, q, h1, h2, h3, h4, h5⟩ := lvl_spec r _ _ _ _ h
      refine ⟨x :: p, a, q, by rw [h1]; rfl, by simp; omega, by simp only [sumI]; omega, h4, h5⟩
theorem kids_len (f from_ a q : Int) : ∀ k, (kids f from_ a q k).length ≤ k
  | 0 => by simp [kids]
  | k + 1 => by
    have := kids_len f from_ a q k
    simp only [kids, List.length_append]
    split <;> simp <;> omega
theorem mul_small {f q : Int} (hf : 2 ≤ f ∧ f ≤ 4) (hq : 0 ≤ q ∧ q < 128) : 0 ≤ q * f ∧ q * f < 512 := by
  have : f = 2 ∨ f = 3 ∨ f = 4 := by omega
  rcases this with rfl | rfl | rfl <;> omega
theorem kids58 {β : Type} {F : Nat} {node t below f n c u : Int} {K : List Int → Option β} (hf : 2 ≤ f ∧ f ≤ 4) (ht : 0 ≤ t ∧ t ≤ 16384) (hb : 1 ≤ below ∧ below ≤ 128) (hn : t ≤ node ∧ node < t + 128) :
    ∀ (m i k : Nat), (i : Int) + m = f → m < k → f201_1_l7 F node t below f n f c u K k (i : Int) (kids f (t - below) below (node - t) i) = K (kids f (t - below) below (node - t) f.toNat)
  | 0, i, k, hi, hk => by
    cases k with
    | zero => omega
    | succ k =>
      have e : decide ((i : Int) < f) = false := by simp; omega
      simp only [f201_1_l7, e, cond_false]
      rw [show f.toNat = i by omega]
  | m + 1, i, k, hi, hk => by
    cases k with
    | zero => omega
    | succ k =>
      have e : decide ((i : Int) < f) = true := by simp; omega
      obtain ⟨q1, q2⟩ := mul_small hf (q := node - t) (by omega)
      have hl := kids_len f (t - below) below (node - t) i
      have e8 : decide (((kids f (t - below) below (node - t) i).length + 1) * 8 ≤ 70368744177664) = true := by simp; omega
      simp only [f201_1_l7]
      rw [e, cond_true, w64 (x := node - t) (by omega) (by omega), w64 (x := (node - t) * f) (by omega) (by omega), w64 (x := (node - t) * f + i) (by omega) (by omega), w64 (x := (i : Int) + 1) (by omega) (by omega), w64 (x := t - below) (by omega) (by omega),
        w64 (x := t - below + ((node - t) * f + i)) (by omega) (by omega), e8, cond_true]
      have hk' : kids f (t - below) below (node - t) (i + 1) = kids f (t - below) below (node - t) i ++ (if (node - t) * f + (i : Int) < below then [t - below + ((node - t) * f + (i : Int))] else []) := rfl
      have := kids58 (F := F) (n := n) (c := c) (u := u) (K := K) hf ht hb hn m (i + 1) k (by omega) (by omega)
      rw [hk'] at this
      rw [show ((i : Int) + 1) = ((i + 1 : Nat) : Int) by omega]
      by_cases h : (node - t) * f + (i : Int) < below
      · simp only [h, decide_true, cond_true]
        rw [if_pos h] at this
        exact this
      · simp only [h, decide_false, cond_false]
        rw [if_neg h, List.append_nil] at this
        exact this
theorem kids59 {β : Type} {F : Nat} {node s above a f n c u : Int} {l : List Int} {j : Nat} {K : List Int → Option β} (hf : 2 ≤ f ∧ f ≤ 4) (ht : 0 ≤ s ∧ s ≤ 16384) (hj : j < l.length) (hlj : l.getD (0 + (j : Int).toNat) 0 = a)
    (hb : 1 ≤ a ∧ a ≤ 128) (hab : above = s + a) (hn : above ≤ node ∧ node < above + 128) :
    ∀ (m i k : Nat), (i : Int) + m = f → m < k → f165_1_l10 F node s (j : Int) above n f c u l K k (i : Int) (kids f s a (node - above) i) = K (kids f s a (node - above) f.toNat)
  | 0, i, k, hi, hk => by
    cases k with
    | zero => omega
    | succ k =>
      have e : decide ((i : Int) < f) = false := by simp; omega
      simp only [f165_1_l10, e, cond_false]
      rw [show f.toNat = i by omega]
  | m + 1, i, k, hi, hk => by
    cases k with
    | zero => omega
    | succ k =>
      have e : decide ((i : Int) < f) = true := by simp; omega
      obtain ⟨q1, q2⟩ := mul_small hf (q := node - above) (by omega)
      have hl := kids_len f s a (node - above) i
      have e8 : decide (((kids f s a (node - above) i).length + 1) * 8 ≤ 70368744177664) = true := by simp; omega
      have e2 : decide ((0 : Int) ≤ (j : Int) ∧ (j : Int) < ((l.length : Nat) : Int)) = true := by simp; omega
      have e3 : decide (0 + (j : Int).toNat < l.length) = true := by simp; omega
      simp only [f165_1_l10]
      rw [e, cond_true, e2, cond_true, e3, cond_true, hlj, w64 (x := node - above) (by omega) (by omega), w64 (x := (node - above) * f) (by omega) (by omega), w64 (x := (node - above) * f + i) (by omega) (by omega), w64 (x := (i : Int) + 1) (by omega) (by omega),
        w64 (x := s + ((node - above) * f + i)) (by omega) (by omega), e8, cond_true]
      have hk' : kids f s a (node - above) (i + 1) = kids f s a (node - above) i ++ (if (node - above) * f + (i : Int) < a then [s + ((node - above) * f + (i : Int))] else []) := rfl
      have := kids59 (F := F) (n := n) (c := c) (u := u) (K := K) hf ht hj hlj hb hab hn m (i + 1) k (by omega) (by omega)
      rw [hk'] at this
      rw [show ((i : Int) + 1) = ((i + 1 : Nat) : Int) by omega]
      by_cases h : (node - above) * f + (i : Int) < a
      · simp only [h, decide_true, cond_true]
        rw [if_pos h] at this
        exact this
      · simp only [h, decide_false, cond_false]
        rw [if_neg h, List.append_nil] at this
        exact this
def chs (f node : Int) (L : List Int) : List Int := match lvl node 0 0 L with
  | some (j + 1, t) => kids f (t - L.getD j 0) (L.getD j 0) (node - t) f.toNat
  | _ => []
theorem level88' {β : Type} {n f c u node : Int} {K0 : Int → Int → Bool → Option β} : f217_1 20000 n f c u node K0 = match lvl node 0 0 (levels n f c u) with | some (j, t) => K0 (j : Int) t true | none => K0 0 0 false := by
  obtain ⟨h1, h2⟩ := levels_ok n f c u
  simp only [f217_1, levels48]
  have := level88 (F := 20000) (node := node) (K0 := fun x8 x9 => K0 x8 x9 true) (K1 := K0 0 0 false) (levels n f c u) h1 h2 _ 0 20000 0 rfl (by omega) (by simp; omega) (by omega) (by omega)
  simp only [List.drop_zero] at this
  exact this
theorem mem_getD {l : List Int} {j : Nat} (h : j < l.length) : l.getD j 0 ∈ l := by
  rw [List.getD_eq_getElem?_getD, List.getElem?_eq_getElem h]; simp
theorem chs58 {β : Type} {n f c u node : Int} {K : List Int → Option β} : f201_1 20000 n f c u node K = K (chs f node (levels n f c u)) := by
  obtain ⟨h1, h2⟩ := levels_ok n f c u
  simp only [f201_1, level88', levels48, chs]
  cases hl : lvl node 0 0 (levels n f c u) with
  | none => rfl
  | some q =>
    obtain ⟨j, t⟩ := q
    obtain ⟨p, a, r, e1, e2, e3, e4, e5⟩ := lvl_spec _ _ _ _ _ hl
    have hrt : rt n f c u := by
      by_cases h : rt n f c u
      · exact h
      · simp [levels, h] at e1
    cases j with
    | zero => simp
    | succ j =>
      have hlen : (levels n f c u).length = p.length + 1 + r.length := by rw [e1]; simp; omega
      have ha := h2 a (by rw [e1]; simp)
      have hp := sumI_ok p fun y hy => h2 y (by rw [e1]; simp [hy])
      have hj : j < (levels n f c u).length := by omega
      have hm := h2 _ (mem_getD hj)
      have x0 : (((j + 1 : Nat) : Int) == 0) = false := by simp; omega
      have x1 : IntKind.i64.wrap (((j + 1 : Nat) : Int) - 1) = (j : Int) := by rw [w64 (by omega) (by omega)]; omega
      have x2 : decide ((0 : Int) ≤ (j : Int) ∧ (j : Int) < (((levels n f c u).length : Nat) : Int)) = true := by simp; omega
      have x3 : decide (0 + (j : Int).toNat < (levels n f c u).length) = true := by simp; omega
      have x4 : (levels n f c u).getD (0 + (j : Int).toNat) 0 = (levels n f c u).getD j 0 := by simp
      simp only [Bool.not_true, cond_false, x0, x1, x2, x3, x4, cond_true]
      have := kids58 (F := 20000) (n := n) (c := c) (u := u) (K := K) (node := node) (t := t) (below := (levels n f c u).getD j 0) hrt.2.1 (by omega) hm (by omega) f.toNat 0 20000 (by have := hrt.2.1; omega) (by have := hrt.2.1; omega)
      simpa [kids] using this
end
end Go.Proofs.YtlgopekjjkdkiaaGreatDoor.X
end
section
namespace Go.Proofs.YtlgopekjjkdkiaaGreatDoor.X
open Go Go.Proofs.YtlgopekjjkdkiaaGreatDoor.Ev Go.Proofs
set_option linter.unusedVariables false
set_option linter.unusedSectionVars false
section
variable [FZ]
end
end Go.Proofs.YtlgopekjjkdkiaaGreatDoor.X
end
section
namespace Go.Proofs.YtlgopekjjkdkiaaGreatDoor.X
open Go Go.Proofs.YtlgopekjjkdkiaaGreatDoor.Ev
set_option linter.unusedSectionVars false
set_option linter.unusedVariables false
set_option linter.unusedSimpArgs false
section
variable [FZ]
theorem kids_mem0 {f s a q x : Int} : ∀ k : Nat, x ∈ kids f s a q k ↔ ∃ i : Nat, i < k ∧ q * f + i < a ∧ x = s + (q * f + i)
  | 0 => by simp [kids]
  | k + 1 => by
    simp only [kids, List.mem_append, kids_mem0 k]
    constructor
    · rintro (⟨i, h1, h2, h3⟩ | h)
      · exact ⟨i, by omega, h2, h3⟩
      · split at h
        · simp at h
          exact ⟨k, by omega, by assumption, h⟩
        · simp at h
    · rintro ⟨i, h1, h2, h3⟩
      by_cases hi : i = k
      · subst hi
        exact Or.inr (by rw [if_pos h2]; simp [h3])
      · exact Or.inl ⟨i, by omega, h2, h3⟩
theorem kids_mem {f s a q x : Int} (hf : 2 ≤ f ∧ f ≤ 4) (hq : 0 ≤ q) : x ∈ kids f s a q f.toNat ↔ s ≤ x ∧ x < s + a ∧ (x - s) / f = q := by
  rw [kids_mem0]
  have : f = 2 ∨ f = 3 ∨ f = 4 := by omega
  constructor
  · rintro ⟨i, h1, h2, h3⟩
    rcases this with rfl | rfl | rfl <;> simp at h1 <;> omega
  · rintro ⟨h1, h2, h3⟩
    refine ⟨((x - s) - q * f).toNat, ?_⟩
    rcases this with rfl | rfl | rfl <;> (simp only [Int.reduceToNat]; omega)
def pos (L : List Int) : Prop := ∀ y ∈ L, 1 ≤ y ∧ y ≤ 128
theorem pos_tl {a : Int} {r : List Int} (h : pos (a :: r)) : (1 ≤ a ∧ a ≤ 128) ∧ pos r := ⟨h a (by simp), fun y hy => h y (by simp [hy])⟩
theorem sum_nn {L : List Int} (h : pos L) : 0 ≤ sumI L := by have := (sumI_ok L h).1; omega
theorem par_lt {f x : Int} : ∀ (L : List Int) (s : Int), pos L → x < s → par f x s L = -1
  | [], s, h, hx => rfl
  | [a], s, h, hx => rfl
  | a :: b :: r, s, h, hx => by
    have ha := (pos_tl h).1
    simp only [par]
    rw [if_neg (by omega)]
    exact par_lt (b :: r) _ (pos_tl h).2 (by omega)
theorem div_up {f a b y : Int} (hf : 2 ≤ f ∧ f ≤ 4) (hb : b = (a + f - 1) / f) (hy : 0 ≤ y ∧ y < a) : 0 ≤ y / f ∧ y / f < b := by
  have : f = 2 ∨ f = 3 ∨ f = 4 := by omega
  rcases this with rfl | rfl | rfl <;> omega
theorem par_bd {f x : Int} (hf : 2 ≤ f ∧ f ≤ 4) : ∀ (r : List Int) (a s : Int), pos (a :: r) → chain f (a :: r) → par f x s (a :: r) = -1 ∨ (s ≤ x ∧ x < par f x s (a :: r) ∧ s + a ≤ par f x s (a :: r) ∧ par f x s (a :: r) < s + sumI (a :: r))
  | [], a, s, h, hc => Or.inl rfl
  | b :: r, a, s, h, hc => by
    have ha := (pos_tl h).1
    have hb := (pos_tl (pos_tl h).2).1
    have hs := sum_nn (pos_tl (pos_tl h).2).2
    obtain ⟨h1, h2, h3⟩ := hc
    simp only [par]
    split
    · rename_i hx
      have := div_up (y := x - s) hf h2 (by omega)
      simp only [sumI]
      exact Or.inr (by omega)
    · rcases par_bd (x := x) hf r b (s + a) (pos_tl h).2 h3 with h4 | h4
      · exact Or.inl h4
      · refine Or.inr ?_
        simp only [sumI] at h4 ⊢
        omega
theorem mem_chl {f x k : Int} (hf : 2 ≤ f ∧ f ≤ 4) : ∀ (r : List Int) (a s : Int), pos (a :: r) → chain f (a :: r) → 0 ≤ s → 0 ≤ k → (x ∈ chl f k s (a :: r) ↔ par f x s (a :: r) = k)
  | [], a, s, h, hc, hs, hk => by simp [chl, par]; omega
  | b :: r, a, s, h, hc, hs, hk => by
    have ha := (pos_tl h).1
    have hb := (pos_tl (pos_tl h).2).1
    obtain ⟨h1, h2, h3⟩ := hc
    have hbd := par_bd (x := x) hf r b (s + a) (pos_tl h).2 h3
    have ih := mem_chl (x := x) (k := k) hf r b (s + a) (pos_tl h).2 h3 (by omega) hk
    simp only [par, chl]
    by_cases hq : s + a ≤ k ∧ k < s + a + b
    · rw [if_pos hq, kids_mem hf (by omega)]
      by_cases hx : s ≤ x ∧ x < s + a
      · rw [if_pos hx]; omega
      · rw [if_neg hx]; omega
    · rw [if_neg hq, ih]
      by_cases hx : s ≤ x ∧ x < s + a
      · rw [if_pos hx]
        have := div_up (y := x - s) hf h2 (by omega)
        have h0 := par_lt (f := f) (x := x) (b :: r) (s + a) (pos_tl h).2 (by omega)
        rw [h0]; omega
      · rw [if_neg hx]
theorem lvl_lt {x : Int} : ∀ (L : List Int) (s : Int) (i : Nat), pos L → x < s → lvl x s i L = none
  | [], _, _, _, _ => rfl
  | a :: r, s, i, h, hx => by
    have ha := (pos_tl h).1
    simp only [lvl]
    rw [if_neg (by omega)]
    exact lvl_lt r _ _ (pos_tl h).2 (by omega)
theorem chl_lvl {f x : Int} (L : List Int) : ∀ (r : List Int) (a s : Int) (i : Nat), L.drop i = a :: r →
    chl f x s (a :: r) = match lvl x (s + a) (i + 1) r with | some (j, t) => kids f (t - L.getD (j - 1) 0) (L.getD (j - 1) 0) (x - t) f.toNat | none => []
  | [], a, s, i, h => rfl
  | b :: r, a, s, i, h => by
    obtain ⟨h1, h2, h3⟩ := at_drop h
    have h4 : L.getD i 0 = a := by simpa using h2
    simp only [chl, lvl]
    by_cases hq : s + a ≤ x ∧ x < s + a + b
    · rw [if_pos hq, if_pos hq]
      simp only [Nat.add_sub_cancel, h4]
      rw [show s + a - a = s by omega]
    · rw [if_neg hq, if_neg hq]
      exact chl_lvl L r b (s + a) (i + 1) h3
theorem chs_chl {f x : Int} : ∀ L : List Int, pos L → chs f x L = chl f x 0 L
  | [], h => rfl
  | a :: r, h => by
    rw [chl_lvl (a :: r) r a 0 0 rfl]
    unfold chs
    simp only [lvl]
    by_cases hq : (0 : Int) ≤ x ∧ x < 0 + a
    · rw [if_pos hq, lvl_lt r _ _ (pos_tl h).2 (by omega)]
    · rw [if_neg hq]
      cases e : lvl x (0 + a) (0 + 1) r with
      | none => rfl
      | some v =>
        obtain ⟨j, t⟩ := v
        obtain ⟨p, a', q, e1, e2, e3, e4, e5⟩ := lvl_spec _ _ _ _ _ e
        cases j with
        | zero => omega
        | succ j => simp
theorem chs59l {β : Type} {x n f c u : Int} {K : List Int → Option β} (hf : 2 ≤ f ∧ f ≤ 4) {L : List Int} (hL : pos L) (hl : L.length ≤ 128) : ∀ (r : List Int) (i k : Nat) (s : Int), L.drop i = r → i ≤ L.length → r.length < k → 0 ≤ s → s ≤ 128 * i →
    f165_1_l4 20000 x n f c u L K (K []) k s (i : Int) = K (chl f x s r)
  | [], i, k, s, hd, hi, hk, h0, h1 => by
    cases k with
    | zero => omega
    | succ k =>
      have : i = L.length := by
        have := congrArg List.length hd
        simp at this; omega
      subst this
      simp only [f165_1_l4]
      rw [w64 (by omega) (by omega), cf (by omega)]
      rfl
  | [a], i, k, s, hd, hi, hk, h0, h1 => by
    cases k with
    | zero => omega
    | succ k =>
      have : i + 1 = L.length := by
        have := congrArg List.length hd
        simp at this; omega
      simp only [f165_1_l4]
      rw [w64 (by omega) (by omega), cf (by omega)]
      rfl
  | a :: b :: r, i, k, s, hd, hi, hk, h0, h1 => by
    cases k with
    | zero => omega
    | succ k =>
      obtain ⟨d1, d2, d3⟩ := at_drop hd
      obtain ⟨d4, d5, d6⟩ := at_drop d3
      have ha : 1 ≤ a ∧ a ≤ 128 := hL a (by
        have : a ∈ L.drop i := by rw [hd]; simp
        exact List.mem_of_mem_drop this)
      have hb : 1 ≤ b ∧ b ≤ 128 := hL b (by
        have : b ∈ L.drop (i + 1) := by rw [d3]; simp
        exact List.mem_of_mem_drop this)
      have e1 : IntKind.i64.wrap ((i : Int) + 1) = ((i + 1 : Nat) : Int) := by rw [w64 (by omega) (by omega)]; omega
      have ih := chs59l (x := x) (n := n) (c := c) (u := u) (K := K) hf hL hl (b :: r) (i + 1) k (s + a) d3 (by omega) (by simpa using hk) (by omega) (by omega)
      simp only [f165_1_l4]
      rw [e1, ct (by omega), ct (by omega), ct (by omega), d2, w64 (x := s + a) (by omega) (by omega)]
      simp only [chl]
      by_cases hq : x ≥ s + a
      · rw [ct hq, ct (by omega), ct (by omega), d5, w64 (x := s + a + b) (by omega) (by omega)]
        by_cases hq2 : x < s + a + b
        · rw [ct hq2, if_pos (by omega)]
          have := kids59 (F := 20000) (n := n) (c := c) (u := u) (K := K) (node := x) (s := s) (above := s + a) (a := a) (l := L) (j := i) hf (by omega) d1 d2 ha rfl (by omega) f.toNat 0 20000 (by omega) (by omega)
          simpa [kids] using this
        · rw [cf hq2, if_neg (by omega)]
          exact ih
      · rw [cf hq, if_neg (by omega)]
        exact ih
theorem lev_pos (n f c u : Int) : pos (levels n f c u) := (levels_ok n f c u).2
theorem levels_not {n f c u : Int} (h : ¬ rt n f c u) : levels n f c u = [] := by simp [levels, h]
theorem levels_cons {n f c u : Int} (h : rt n f c u) : ∃ r, levels n f c u = n :: r := ⟨_, by simp [levels, h]; rfl⟩
theorem lev_chain {n f c u : Int} : rt n f c u → chain f (levels n f c u) := fun h => by
  simp only [levels, h, if_true]
  have h1 := h.1
  exact chain_lv h.2.1 20000 n h1.1 h1.2 (by omega)
theorem nil59 {β : Type} {x n f c u : Int} {K : List Int → Option β} : ∀ k : Nat, 0 < k → f165_1_l4 20000 x n f c u [] K (K []) k 0 0 = K []
  | 0, h => by omega
  | k + 1, _ => by
    simp only [f165_1_l4]
    rw [w64 (by omega) (by omega), cf (by simp)]
theorem chs59 {β : Type} {n f c u x : Int} {K : List Int → Option β} : f165_1 20000 n f c u x K = K (chs f x (levels n f c u)) := by
  rw [chs_chl _ (lev_pos n f c u)]
  simp only [f165_1, levels49]
  by_cases h : rt n f c u
  · have := chs59l (x := x) (n := n) (c := c) (u := u) (K := K) h.2.1 (lev_pos n f c u) (levels_ok n f c u).1 _ 0 20000 0 rfl (by omega) (by have := (levels_ok n f c u).1; simp; omega) (by omega) (by omega)
    simpa using this
  · rw [levels_not h]
    exact nil59 20000 (by omega)
def prn (n f c u x : Int) : Int := par f x 0 (levels n f c u)
theorem par_lvl {f x : Int} (hf : 2 ≤ f ∧ f ≤ 4) : ∀ (r : List Int) (a s : Int) (i : Nat), pos (a :: r) → chain f (a :: r) →
    par f x s (a :: r) = match lvl x s i (a :: r) with | some (j, t) => if x = s + sumI (a :: r) - 1 then -1 else t + (a :: r).getD (j - i) 0 + (x - t) / f | none => -1
  | [], a, s, i, h, hc => by
    have hc : a = 1 := hc
    subst hc
    have e1 : sumI [1] = 1 := rfl
    simp only [par, lvl]
    by_cases hx : s ≤ x ∧ x < s + 1
    · rw [if_pos hx]
      simp only
      rw [if_pos (by omega)]
    · rw [if_neg hx]
  | b :: r, a, s, i, h, hc => by
    have ha := (pos_tl h).1
    have hb := (pos_tl (pos_tl h).2).1
    have hs := sum_nn (pos_tl (pos_tl h).2).2
    obtain ⟨h1, h2, h3⟩ := hc
    rw [par, lvl]
    by_cases hx : s ≤ x ∧ x < s + a
    · have e1 : sumI (a :: b :: r) = a + (b + sumI r) := rfl
      rw [if_pos hx, if_pos hx]
      simp only
      rw [if_neg (by omega)]
      simp
    · rw [if_neg hx, if_neg hx, par_lvl hf r b (s + a) (i + 1) (pos_tl h).2 h3]
      cases e : lvl x (s + a) (i + 1) (b :: r) with
      | none => rfl
      | some v =>
        obtain ⟨j, t⟩ := v
        obtain ⟨p, a', q, e1, e2, e3, e4, e5⟩ := lvl_spec _ _ _ _ _ e
        simp only
        have g1 : s + sumI (a :: b :: r) - 1 = s + a + sumI (b :: r) - 1 := by simp only [sumI]; omega
        have g2 : (a :: b :: r).getD (j - i) 0 = (b :: r).getD (j - (i + 1)) 0 := by
          rw [show j - i = (j - (i + 1)) + 1 by omega]
          simp
        rw [g1, g2]
theorem chs_len (f x : Int) (L : List Int) : (chs f x L).length ≤ f.toNat := by
  unfold chs
  split
  · exact kids_len _ _ _ _ _
  · simp
theorem chs_mem {n f c u x k : Int} (h : rt n f c u) (hk : 0 ≤ k) : x ∈ chs f k (levels n f c u) ↔ prn n f c u x = k := by
  obtain ⟨r, hr⟩ := levels_cons h
  have hc := lev_chain h
  have hp := lev_pos n f c u
  rw [chs_chl _ hp, prn]
  rw [hr] at hc hp ⊢
  exact mem_chl h.2.1 r n 0 hp hc (by omega) hk
theorem prn_bd {n f c u x : Int} (h : rt n f c u) : prn n f c u x = -1 ∨ (0 ≤ x ∧ x < prn n f c u x ∧ n ≤ prn n f c u x ∧ prn n f c u x < nodes n f c u) := by
  obtain ⟨r, hr⟩ := levels_cons h
  have hc := lev_chain h
  have hp := lev_pos n f c u
  unfold nodes prn
  rw [hr] at hc hp ⊢
  have := par_bd (x := x) h.2.1 r n 0 hp hc
  omega
def root (n f c u : Int) : Int := if rt n f c u then nodes n f c u - 1 else 0
theorem root54 {β : Type} {n f c u : Int} {K : Int → Option β} : f106_1 20000 n f c u K = K (root n f c u) := by
  obtain ⟨n0, n1, n2, n3⟩ := nodes_ok n f c u
  simp only [f106_1, nodes50, root]
  rw [w64 (by omega) (by omega)]
  by_cases h : rt n f c u
  · have := n2 h
    rw [if_pos h]; congr 1; split <;> omega
  · rw [if_neg h, n3 h]; rfl
end
end Go.Proofs.YtlgopekjjkdkiaaGreatDoor.X
end
section
namespace Go.Proofs.YtlgopekjjkdkiaaGreatDoor.X
open Go Go.Proofs.YtlgopekjjkdkiaaGreatDoor.Ev Go.Proofs
set_option linter.unusedVariables false
set_option linter.unusedSectionVars false
section
variable [FZ]
end
section
variable [FZ]
end
section
variable [FZ]
end
section
variable [FZ]
end
section
variable [FZ]
end
end Go.Proofs.YtlgopekjjkdkiaaGreatDoor.X
end
section
namespace Go.Proofs.YtlgopekjjkdkiaaGreatDoor.X
open Go Go.Proofs.YtlgopekjjkdkiaaGreatDoor.Ev
set_option linter.unusedSectionVars false
set_option linter.unusedVariables false
set_option linter.unusedSimpArgs false
section
variable [FZ]
def c2 (n : Int) : List Int := [IntKind.u8.wrap (ishr .u64 n 8), IntKind.u8.wrap (ishr .u64 n 0)]
theorem putc2 {β : Type} {n : Int} {K : List Int → Option β} : f147_1 20000 2 n [] K = K (c2 n) := by kernel_rfl
theorem c2_size (n : Int) : (ofInts (c2 n)).size = 2 := by rw [oi_size]; rfl
theorem app_e (s : ByteArray) : s ++ ByteArray.empty = s := extB (by rw [D_app]; simp [D])
def nod (n f c u x : Int) : Int := if 0 ≤ x ∧ x < nodes n f c u then 6 + n + x else -1
theorem nodP {β : Type} {n f c u x : Int} {K : Int → Option β} : f155_1 20000 n f c u x K = K (nod n f c u x) := by
  have hno := nodes_ok n f c u
  rw [f155_1, right46, nod]
  by_cases h : rt n f c u
  · have hn := h.1
    rw [decide_eq_true h, Bool.not_true, cond_false, root54, root, if_pos h, within87]
    by_cases h1 : 0 ≤ x ∧ x < nodes n f c u
    · rw [decide_eq_true (show x ≥ 0 ∧ x ≤ nodes n f c u - 1 by omega), Bool.not_true, cond_false, if_pos h1, w64 (x := 6 + n) (by omega) (by omega), w64 (by omega) (by omega)]
    · rw [decide_eq_false (show ¬ (x ≥ 0 ∧ x ≤ nodes n f c u - 1) by omega), Bool.not_false, cond_true, if_neg h1]
  · have := hno.2.2.2 h
    rw [decide_eq_false h, Bool.not_false, cond_true, if_neg (by omega)]
def bdy (x : Int) (s : ByteArray) : ByteArray := ofInts (c2 (IntKind.u64.wrap x)) ++ s
theorem bdy_size (x : Int) (s : ByteArray) : (bdy x s).size = 2 + s.size := by rw [bdy, app_size, c2_size]
theorem bodyN {β : Type} {F : Nat} {x : Int} {s : ByteArray} (hs : s.size ≤ 1000) {K : ByteArray → Option β} : f157_1 20000 x s K = K (bdy x s) := by
  rw [f157_1, putc2, ct (by rw [c2_size]; omega)]; rfl
def gtN (n f c u x : Int) (b : Bool) (l : List ByteArray) (w : WL) : ByteArray × Int :=
  if nod n f c u x < 0 then (ByteArray.empty, 3) else
  if (rd (nod n f c u x) b l w).2 ≠ 0 then (ByteArray.empty, (rd (nod n f c u x) b l w).2) else
  if (opn 6 (rd (nod n f c u x) b l w).1).2 ≠ 0 then (ByteArray.empty, (opn 6 (rd (nod n f c u x) b l w).1).2) else
  if (opn 6 (rd (nod n f c u x) b l w).1).1.size ≠ 34 then (ByteArray.empty, 6) else
  if (opn 6 (rd (nod n f c u x) b l w).1).1.extract 0 2 ≠ ofInts (c2 (IntKind.u64.wrap x)) then (ByteArray.empty, 6) else
  ((opn 6 (rd (nod n f c u x) b l w).1).1.extract 2 34, 0)
theorem gtP {β : Type} {m q : Nat} {n f c u x a d : Int} {b : Bool} {l : List ByteArray} {w : WL} (h : DS m q a d l w) {K : ByteArray → Int → Option β} :
    f103_1 20000 n f c u x a b d l w K = K (gtN n f c u x b l w).1 (gtN n f c u x b l w).2 := by
  rw [f103_1, nodP, gtN]
  by_cases h0 : nod n f c u x < 0
  · rw [ct h0, if_pos h0]
  · rw [cf h0, if_neg h0, readP (by omega) h]
    by_cases h1 : (rd (nod n f c u x) b l w).2 = 0
    · rw [bnf h1, cond_false, if_neg (by omega), openP]
      by_cases h2 : (opn 6 (rd (nod n f c u x) b l w).1).2 = 0
      · rw [bnf h2, cond_false, if_neg (by omega)]
        by_cases h3 : (opn 6 (rd (nod n f c u x) b l w).1).1.size = 34
        · have hb := bodyN (F := 0) (x := x) (s := ByteArray.empty) (by decide) (K := fun x6 => cond (!(((opn 6 (rd (nod n f c u x) b l w).1).1.extract 0 2).toList == x6.toList)) (K ByteArray.empty 6) (cond (decide ((0 : Int) ≤ (2 : Int) ∧ (2 : Int) ≤ ((opn 6 (rd (nod n f c u x) b l w).1).1.size : Int) ∧ ((opn 6 (rd (nod n f c u x) b l w).1).1.size : Int) ≤ ((opn 6 (rd (nod n f c u x) b l w).1).1.size : Int))) (K ((opn 6 (rd (nod n f c u x) b l w).1).1.extract 2 (((opn 6 (rd (nod n f c u x) b l w).1).1.size : Int).toNat)) 0) none))
          rw [bnf (by omega), cond_false, ct (by omega), hb, bdy, app_e, beqB, ct (by omega), Int.toNat_natCast, h3, if_neg (by omega)]
          by_cases h4 : (opn 6 (rd (nod n f c u x) b l w).1).1.extract 0 2 = ofInts (c2 (IntKind.u64.wrap x))
          · rw [decide_eq_true h4, Bool.not_true, cond_false, if_neg (fun hh => hh h4)]
          · rw [decide_eq_false h4, Bool.not_false, cond_true, if_pos h4]
        · rw [bnt (by omega), cond_true, if_pos h3]
      · rw [bnt h2, cond_true, if_pos h2]
    · rw [bnt h1, cond_true, if_pos h1]
abbrev St5 := Int × Int × Bool × Int × WL
def app5 {β : Type} (K : Int → Int → Bool → Int → WL → Option β) (s : St5) : Option β := K s.1 s.2.1 s.2.2.1 s.2.2.2.1 s.2.2.2.2
def ptS (n f c u x : Int) (s : ByteArray) (a : Int) (b : Bool) (d : Int) (l : List ByteArray) (w : WL) : St5 :=
  if nod n f c u x < 0 then (3, a, b, d, w) else if s.size ≠ 32 then (4, a, b, d, w) else wS (nod n f c u x) (mkB 6 (bdy x s)) a b d l w
theorem ptP {β : Type} {m q : Nat} {n f c u x a d : Int} {s : ByteArray} {b : Bool} {l : List ByteArray} {w : WL} (h : DS m q a d l w) {K : Int → Int → Bool → Int → WL → Option β} :
    f109_1 20000 n f c u x s a b d l w K = app5 K (ptS n f c u x s a b d l w) := by
  rw [f109_1, nodP, ptS]
  by_cases h0 : nod n f c u x < 0
  · rw [ct h0, if_pos h0]; rfl
  · rw [cf h0, if_neg h0, f163_1]
    by_cases h1 : s.size = 32
    · have hk : mkR 6 (bdy x s) = (mkB 6 (bdy x s), 0) := by rw [mkR, if_neg (by omega), if_neg (by rw [bdy_size]; omega)]
      rw [show ((s.size : Int) == 32) = true by simp [h1], Bool.not_true, cond_false, if_neg (fun hh => hh h1), bodyN (F := 0) (by omega), makeP (by rw [bdy_size]; have := big60; omega), hk]
      show cond ((0 : Int) != 0) _ (f24_1 20000 _ _ _ _ _ _ _ _) = _
      rw [bnf rfl, cond_false, writeP h]; rfl
    · rw [show ((s.size : Int) == 32) = false by simp; omega, Bool.not_false, cond_true, if_pos h1]; rfl
theorem ptS_ok {m k : Nat} {n f c u x a d : Int} {s : ByteArray} {b : Bool} {l : List ByteArray} {w : WL} (h : DS m k a d l w) (hk : k < 6000) :
    DS m (k + 1) (ptS n f c u x s a b d l w).2.1 (ptS n f c u x s a b d l w).2.2.2.1 l (ptS n f c u x s a b d l w).2.2.2.2 := by
  rw [ptS]
  split
  · exact h.more hk
  · split
    · exact h.more hk
    · exact wS_ok h hk
def allN (n f c u : Int) (b : Bool) (l : List ByteArray) (w : WL) : Nat → Nat → List ByteArray → Int × List ByteArray
  | 0, _, acc => (0, acc)
  | m + 1, k, acc => if (gtN n f c u (k : Int) b l w).2 ≠ 0 then ((gtN n f c u (k : Int) b l w).2, []) else allN n f c u b l w m (k + 1) (acc ++ [(gtN n f c u (k : Int) b l w).1])
theorem allPl {β : Type} {q p : Nat} {n f c u a d N : Int} {b : Bool} {l : List ByteArray} {w : WL} (h : DS q p a d l w) (hN : N ≤ 400) {K : Int → List ByteArray → Option β} : ∀ (m k fu : Nat) (acc : List ByteArray), (m : Int) + k = N → m < fu → acc.length = k →
    f43_1_l5 20000 N a b d l w n f c u (fun x17 x18 => K x17 []) (fun x19 => K 0 x19) fu (k : Int) acc = K (allN n f c u b l w m k acc).1 (allN n f c u b l w m k acc).2
  | _, _, 0, _, _, hf, _ => by omega
  | 0, k, fu + 1, acc, hm, _, _ => by rw [f43_1_l5, cf (by omega)]; rfl
  | m + 1, k, fu + 1, acc, hm, hf, ha => by
    rw [f43_1_l5, ct (by omega), gtP h, allN]
    by_cases h1 : (gtN n f c u (k : Int) b l w).2 = 0
    · rw [bnf h1, cond_false, if_neg (fun hh => hh h1), ct (by omega), w64 (by omega) (by omega)]
      exact allPl h hN m (k + 1) fu _ (by omega) (by omega) (by simp [ha])
    · rw [bnt h1, cond_true, if_pos h1]
def alN (n f c u : Int) (b : Bool) (l : List ByteArray) (w : WL) : Int × List ByteArray := if rt n f c u then allN n f c u b l w (nodes n f c u).toNat 0 [] else (12, [])
theorem alP {β : Type} {q p : Nat} {n f c u a d : Int} {b : Bool} {l : List ByteArray} {w : WL} (h : DS q p a d l w) (hn : rt n f c u → nodes n f c u ≤ 400) {K : Int → List ByteArray → Option β} :
    f43_1 20000 n f c u a b d l w K = K (alN n f c u b l w).1 (alN n f c u b l w).2 := by
  have hno := nodes_ok n f c u
  rw [f43_1, right46, alN]
  by_cases h0 : rt n f c u
  · rw [decide_eq_true h0, Bool.not_true, cond_false, nodes50, if_pos h0]
    exact allPl h (hn h0) _ 0 20000 [] (by omega) (by have := hn h0; omega) rfl
  · rw [decide_eq_false h0, Bool.not_false, cond_true, if_neg h0]
end
section
variable [FZ]
theorem chl_ne {f k : Int} (hf : 2 ≤ f ∧ f ≤ 4) : ∀ (r : List Int) (a s : Int), pos (a :: r) → chain f (a :: r) → s + a ≤ k → k < s + sumI (a :: r) → chl f k s (a :: r) ≠ []
  | [], a, s, h, hc, h0, h1 => by
    have e1 : sumI [a] = a + 0 := rfl
    omega
  | b :: r, a, s, h, hc, h0, h1 => by
    obtain ⟨g1, g2, g3⟩ := hc
    have e1 : sumI (a :: b :: r) = a + sumI (b :: r) := rfl
    simp only [chl]
    by_cases hq : s + a ≤ k ∧ k < s + a + b
    · rw [if_pos hq]
      intro hn
      have hm := (kids_mem (f := f) (s := s) (a := a) (q := k - (s + a)) (x := s + (k - (s + a)) * f) hf (by omega)).2
      rw [hn] at hm
      have : f = 2 ∨ f = 3 ∨ f = 4 := by omega
      rcases this with rfl | rfl | rfl <;> exact List.not_mem_nil (hm (by omega))
    · rw [if_neg hq]
      exact chl_ne hf r b (s + a) (pos_tl h).2 g3 (by omega) (by omega)
theorem chs_empty {n f c u k : Int} (h : rt n f c u) (h0 : 0 ≤ k) (h1 : k < nodes n f c u) : (((chs f k (levels n f c u)).length : Int) == 0) = decide (k < n) := by
  by_cases hk : k < n
  · have : chs f k (levels n f c u) = [] := by
      apply List.eq_nil_iff_forall_not_mem.2
      intro x hx
      have := (chs_mem h h0).1 hx
      have := prn_bd (x := x) h
      omega
    simp [this, hk]
  · have : chs f k (levels n f c u) ≠ [] := by
      obtain ⟨r, hr⟩ := levels_cons h
      have hc := lev_chain h
      have hp := lev_pos n f c u
      unfold nodes at h1
      rw [chs_chl _ hp]
      rw [hr] at hc hp h1 ⊢
      exact chl_ne h.2.1 r n 0 hp hc (by omega) (by omega)
    have : (chs f k (levels n f c u)).length ≠ 0 := fun h => this (List.length_eq_zero_iff.1 h)
    simp only [hk, decide_false]
    simpa using this
theorem n_le {n f c u : Int} (h : rt n f c u) : n ≤ nodes n f c u := by
  obtain ⟨r, hr⟩ := levels_cons h
  have hp := lev_pos n f c u
  unfold nodes
  rw [hr] at hp ⊢
  have := sum_nn (pos_tl hp).2
  simp only [sumI]; omega
theorem sum_up {f : Int} (hf : 2 ≤ f ∧ f ≤ 4) : ∀ (r : List Int) (a : Int), pos (a :: r) → chain f (a :: r) → sumI (a :: r) ≤ 3 * a - 2
  | [], a, h, hc => by
    have hc : a = 1 := hc
    subst hc
    decide
  | b :: r, a, h, hc => by
    obtain ⟨g1, g2, g3⟩ := hc
    have e1 : sumI (a :: b :: r) = a + sumI (b :: r) := rfl
    have ih := sum_up hf r b (pos_tl h).2 g3
    have : f = 2 ∨ f = 3 ∨ f = 4 := by omega
    rcases this with rfl | rfl | rfl <;> omega
theorem nodes_up {n f c u : Int} (h : rt n f c u) : nodes n f c u ≤ 384 := by
  obtain ⟨r, hr⟩ := levels_cons h
  have hc := lev_chain h
  have hp := lev_pos n f c u
  have h1 := h.1
  unfold nodes
  rw [hr] at hc hp ⊢
  have := sum_up h.2.1 r n hp hc
  omega
end
end Go.Proofs.YtlgopekjjkdkiaaGreatDoor.X
end
section
namespace Go.Proofs.YtlgopekjjkdkiaaGreatDoor.X
open Go Go.Proofs.YtlgopekjjkdkiaaGreatDoor.Ev Go.Proofs
set_option linter.unusedVariables false
set_option linter.unusedSectionVars false
section
variable [FZ]
end
section
variable [FZ]
end
end Go.Proofs.YtlgopekjjkdkiaaGreatDoor.X
end
section
namespace Go.Proofs.YtlgopekjjkdkiaaGreatDoor.X
open Go Go.Proofs.YtlgopekjjkdkiaaGreatDoor.Ev
set_option linter.unusedSectionVars false
set_option linter.unusedVariables false
set_option linter.unusedSimpArgs false
section
variable [FZ]
theorem par56 {β : Type} {n f c u x : Int} {K : Int → Option β} : f196_1 20000 n f c u x K = K (prn n f c u x) := by
  obtain ⟨n0, n1, n2, n3⟩ := nodes_ok n f c u
  simp only [f196_1, f106_1, level88', levels48, nodes50, prn]
  by_cases h : rt n f c u
  · have hc := lev_chain h
    have hp := lev_pos n f c u
    have hlen := (levels_ok n f c u).1
    obtain ⟨r, hr⟩ := levels_cons h
    have hf := h.2.1
    have hnn := n2 h
    have hsum : nodes n f c u = sumI (n :: r) := by unfold nodes; rw [hr]
    rw [hr] at hc hp hlen ⊢
    rw [par_lvl hf r n 0 0 hp hc]
    cases e : lvl x 0 0 (n :: r) with
    | none => rfl
    | some v =>
      obtain ⟨j, t⟩ := v
      obtain ⟨p, a', q, e1, e2, e3, e4, e5⟩ := lvl_spec _ _ _ _ _ e
      simp only [Bool.not_true, cond_false]
      have hroot : (if IntKind.i64.wrap (nodes n f c u - 1) > 0 then IntKind.i64.wrap (nodes n f c u - 1) else 0) = nodes n f c u - 1 := by
        rw [w64 (by omega) (by omega)]; split <;> omega
      rw [hroot, hsum]
      by_cases hx : x = 0 + sumI (n :: r) - 1
      · have hx' : (x == sumI (n :: r) - 1) = true := by simp; omega
        rw [hx', cond_true, if_pos hx]
      · have hx' : (x == sumI (n :: r) - 1) = false := by simp; omega
        have ha := hp a' (by rw [e1]; simp)
        have hlen2 : (n :: r).length = p.length + 1 + q.length := by rw [e1]; simp; omega
        have hp2 := sumI_ok p fun y hy => hp y (by rw [e1]; simp [hy])
        have hg : (n :: r).getD (0 + ((j : Nat) : Int).toNat) 0 = a' := by
          have : j = p.length := by omega
          rw [this, e1]; simp
        have hg2 : (n :: r).getD (j - 0) 0 = a' := by rw [← hg]; simp
        have hd := div_up (f := f) (a := 128) (b := (128 + f - 1) / f) (y := x - t) hf rfl (by omega)
        have hd2 : (128 + f - 1) / f ≤ 128 := by
          have : f = 2 ∨ f = 3 ∨ f = 4 := by omega
          rcases this with rfl | rfl | rfl <;> omega
        rw [hx', cond_false, if_neg hx, cf (by omega), ct (by omega), ct (by omega), hg, hg2, w64 (x := t + a') (by omega) (by omega), w64 (x := x - t) (by omega) (by omega),
          Int.tdiv_eq_ediv_of_nonneg (by omega), w64 (x := (x - t) / f) (by omega) (by omega), w64 (by omega) (by omega)]
  · rw [levels_not h]
    rfl
def pth (f : Int) : Int → Int → List Int → List Int
  | x, s, a :: r => if s ≤ x ∧ x < s + a then x :: pth f (s + a + (x - s) / f) (s + a) r else pth f x (s + a) r
  | _, _, [] => []
theorem pth_lt {f x : Int} : ∀ (L : List Int) (s : Int), pos L → x < s → pth f x s L = []
  | [], s, h, hx => rfl
  | a :: r, s, h, hx => by
    have ha := (pos_tl h).1
    simp only [pth]
    rw [if_neg (by omega)]
    exact pth_lt r _ (pos_tl h).2 (by omega)
theorem pth_step {f x : Int} (hf : 2 ≤ f ∧ f ≤ 4) : ∀ (r : List Int) (a s : Int), pos (a :: r) → chain f (a :: r) → 0 ≤ s → s ≤ x → x < s + sumI (a :: r) → pth f x s (a :: r) = x :: pth f (par f x s (a :: r)) s (a :: r)
  | [], a, s, h, hc, hs, h0, h1 => by
    have hc : a = 1 := hc
    subst hc
    have e1 : sumI [1] = 1 := rfl
    rw [show par f x s [1] = -1 from rfl, pth_lt (x := -1) [1] s h (by omega), pth, if_pos (by omega)]
    rfl
  | b :: r, a, s, h, hc, hs, h0, h1 => by
    have ha := (pos_tl h).1
    have hb := (pos_tl (pos_tl h).2).1
    have hn := sum_nn (pos_tl (pos_tl h).2).2
    have e1 : sumI (a :: b :: r) = a + sumI (b :: r) := rfl
    obtain ⟨g1, g2, g3⟩ := hc
    rw [pth, par]
    by_cases hx : s ≤ x ∧ x < s + a
    · have hd := div_up (y := x - s) hf g2 (by omega)
      rw [if_pos hx, if_pos hx, pth.eq_1 f (s + a + (x - s) / f) s a (b :: r), if_neg (by omega)]
    · have hbd := par_bd (x := x) hf r b (s + a) (pos_tl h).2 g3
      rw [if_neg hx, if_neg hx, pth_step hf r b (s + a) (pos_tl h).2 g3 (by omega) (by omega) (by omega), pth.eq_1 f (par f x (s + a) (b :: r)) s a (b :: r), if_neg (by omega)]
def path (n f c u x : Int) : List Int := if 0 ≤ x ∧ x < n then pth f x 0 (levels n f c u) else []
theorem pth_prn {n f c u x : Int} (h : rt n f c u) (h0 : 0 ≤ x) (h1 : x < nodes n f c u) : pth f x 0 (levels n f c u) = x :: pth f (prn n f c u x) 0 (levels n f c u) := by
  obtain ⟨r, hr⟩ := levels_cons h
  have hc := lev_chain h
  have hp := lev_pos n f c u
  unfold nodes at h1
  unfold prn
  rw [hr] at hc hp h1 ⊢
  exact pth_step h.2.1 r n 0 hp hc (by omega) h0 (by omega)
theorem pth_m1 {n f c u : Int} : pth f (-1) 0 (levels n f c u) = [] := pth_lt _ _ (lev_pos n f c u) (by omega)
theorem path60l {β : Type} {n f c u : Int} (h : rt n f c u) {K : List Int → Option β} : ∀ (k : Nat) (x : Int) (acc : List Int), (x = -1 ∨ (0 ≤ x ∧ x < nodes n f c u)) → nodes n f c u - x < k → (acc.length : Int) + (nodes n f c u - x) ≤ 40000 →
    f159_1_l5 20000 n f c u K k x acc = K (acc ++ pth f x 0 (levels n f c u))
  | 0, x, acc, hx, hk, ha => by have := nodes_ok n f c u; omega
  | k + 1, x, acc, hx, hk, ha => by
    have hn := nodes_ok n f c u
    simp only [f159_1_l5]
    rcases hx with rfl | hx
    · rw [pth_m1]
      simp
    · have e : (x != -1) = true := by simp; omega
      have hb := prn_bd (x := x) h
      rw [e, cond_true, ct (by omega), par56, pth_prn h hx.1 hx.2]
      rcases hb with hb | hb
      · rw [hb]
        cases k with
        | zero => omega
        | succ k =>
          have e : ((-1 : Int) != -1) = false := rfl
          simp only [f159_1_l5]
          rw [e, cond_false, pth_m1]
      · rw [path60l h k _ _ (Or.inr (by omega)) (by omega) (by simp; omega)]
        simp
theorem path60 {β : Type} {n f c u x : Int} {K : List Int → Option β} : f159_1 20000 n f c u x K = K (path n f c u x) := by
  have hn := nodes_ok n f c u
  simp only [f159_1, right46, within87, path]
  by_cases h : rt n f c u
  · have hn2 := n_le h
    have h1 := h.1
    simp only [h, decide_true, Bool.not_true, cond_false]
    rw [w64 (by omega) (by omega)]
    by_cases hx : 0 ≤ x ∧ x < n
    · have e : decide (x ≥ 0 ∧ x ≤ n - 1) = true := by simp; omega
      rw [e, if_pos hx]
      simp only [Bool.not_true, cond_false]
      rw [path60l h 20000 x [] (Or.inr (by omega)) (by omega) (by simp; omega)]
      rfl
    · have e : decide (x ≥ 0 ∧ x ≤ n - 1) = false := by simp; omega
      rw [e, if_neg hx]
      rfl
  · rw [levels_not h]
    simp only [h, decide_false, Bool.not_false, cond_true, pth]
    split <;> rfl
theorem pth_len {f : Int} : ∀ (L : List Int) (x s : Int), (pth f x s L).length ≤ L.length
  | [], x, s => by simp [pth]
  | a :: r, x, s => by
    simp only [pth]
    split
    · have := pth_len (f := f) r (s + a + (x - s) / f) (s + a)
      simp; omega
    · have := pth_len (f := f) r x (s + a)
      simp; omega
theorem path_len (n f c u x : Int) : (path n f c u x).length ≤ 128 := by
  have := (levels_ok n f c u).1
  unfold path
  split
  · have := pth_len (f := f) (levels n f c u) x 0
    omega
  · simp
end
end Go.Proofs.YtlgopekjjkdkiaaGreatDoor.X
end
section
namespace Go.Proofs.YtlgopekjjkdkiaaGreatDoor.X
open Go Go.Proofs.YtlgopekjjkdkiaaGreatDoor.Ev Go.Proofs
set_option linter.unusedVariables false
set_option linter.unusedSectionVars false
section
variable [FZ]
end
end Go.Proofs.YtlgopekjjkdkiaaGreatDoor.X
end
section
namespace Go.Proofs.YtlgopekjjkdkiaaGreatDoor.X
open Go Go.Proofs.YtlgopekjjkdkiaaGreatDoor.Ev
set_option linter.unusedSectionVars false
set_option linter.unusedVariables false
set_option linter.unusedSimpArgs false
section
variable [FZ]
theorem pathNl {β : Type} {n f c u : Int} (h : rt n f c u) {K : List Int → Option β} : ∀ (k : Nat) (x : Int) (acc : List Int), (x = -1 ∨ (0 ≤ x ∧ x < nodes n f c u)) → nodes n f c u - x < k → (acc.length : Int) + (nodes n f c u - x) ≤ 40000 →
    f159_5436_l5 20000 n f c u K k x acc = K (acc ++ pth f x 0 (levels n f c u))
  | 0, x, acc, hx, hk, ha => by have := nodes_ok n f c u; omega
  | k + 1, x, acc, hx, hk, ha => by
    have hn := nodes_ok n f c u
    simp only [f159_5436_l5]
    rcases hx with rfl | hx
    · rw [pth_m1]
      simp
    · have e : (x != -1) = true := by simp; omega
      have hb := prn_bd (x := x) h
      rw [e, cond_true, ct (by omega), par56, pth_prn h hx.1 hx.2]
      rcases hb with hb | hb
      · rw [hb]
        cases k with
        | zero => omega
        | succ k =>
          have e : ((-1 : Int) != -1) = false := rfl
          simp only [f159_5436_l5]
          rw [e, cond_false, pth_m1]
      · rw [pathNl h k _ _ (Or.inr (by omega)) (by omega) (by simp; omega)]
        simp
theorem pathN {β : Type} {n f c u x : Int} (h : rt n f c u) {K0 : Option β} {K1 : List Int → Option β} : f159_5436 20000 n f c u x K0 K1 = if 0 ≤ x ∧ x < n then K1 (path n f c u x) else K0 := by
  have hn := nodes_ok n f c u
  have hn2 := n_le h
  have h1 := h.1
  rw [f159_5436, right46, decide_eq_true h, Bool.not_true, cond_false, within87, w64 (by omega) (by omega)]
  by_cases hx : 0 ≤ x ∧ x < n
  · rw [decide_eq_true (show x ≥ 0 ∧ x ≤ n - 1 by omega), Bool.not_true, cond_false, if_pos hx, pathNl h 20000 x [] (Or.inr (by omega)) (by omega) (by simp; omega), path, if_pos hx]
    rfl
  · rw [decide_eq_false (show ¬ (x ≥ 0 ∧ x ≤ n - 1) by omega), Bool.not_false, cond_true, if_neg hx]
def mark (p : List Int) (V : List Bool) : List Bool := p.foldl (fun V k => V.set k.toNat true) V
def marks (n f c u : Int) (lv : List Int) (V : List Bool) : List Bool := lv.foldl (fun V y => mark (path n f c u y) V) V
def frs (n f c u : Int) (lv : List Int) (k : Nat) : Bool := lv.any fun y => (path n f c u y).any fun z => z == (k : Int)
theorem mark_len : ∀ (p : List Int) (V : List Bool), (mark p V).length = V.length
  | [], V => rfl
  | k :: p, V => by rw [mark, List.foldl_cons, ← mark, mark_len p]; simp
theorem marks_len (n f c u : Int) : ∀ (lv : List Int) (V : List Bool), (marks n f c u lv V).length = V.length
  | [], V => rfl
  | y :: r, V => by rw [marks, List.foldl_cons, ← marks, marks_len n f c u r, mark_len]
theorem mark_get {k : Nat} : ∀ (p : List Int) (V : List Bool), (∀ z ∈ p, 0 ≤ z) → k < V.length → (mark p V).getD k false = (V.getD k false || p.any fun z => z == (k : Int))
  | [], V, _, _ => by simp [mark]
  | z :: p, V, hz, hk => by
    have h0 := hz z (by simp)
    rw [mark, List.foldl_cons, ← mark, mark_get p _ (fun y hy => hz y (by simp [hy])) (by simpa using hk), List.any_cons, List.getD_eq_getElem?_getD, List.getElem?_set]
    by_cases he : z.toNat = k
    · rw [if_pos he, if_pos (by omega), show (z == (k : Int)) = true by simp; omega]; simp
    · rw [if_neg he, show (z == (k : Int)) = false by simp; omega, List.getD_eq_getElem?_getD]; simp
theorem path_in {n f c u y : Int} (h : rt n f c u) : ∀ z ∈ path n f c u y, 0 ≤ z ∧ z < nodes n f c u := by
  intro z hz
  by_cases hy : 0 ≤ y ∧ y < n
  · have hn := n_le h
    unfold path at hz
    rw [if_pos hy] at hz
    have key : ∀ (m : Nat) (x : Int), 0 ≤ x → x < nodes n f c u → nodes n f c u - x ≤ m → ∀ z ∈ pth f x 0 (levels n f c u), 0 ≤ z ∧ z < nodes n f c u := by
      intro m
      induction m with
      | zero => intro x h0 h1 h2; omega
      | succ m ih =>
        intro x h0 h1 h2 z hz
        rw [pth_prn h h0 h1] at hz
        rcases List.mem_cons.1 hz with rfl | hz
        · exact ⟨h0, h1⟩
        · rcases prn_bd (x := x) h with hb | hb
          · rw [hb, pth_m1] at hz; cases hz
          · exact ih _ (by omega) (by omega) (by omega) z hz
    exact key (nodes n f c u).toNat y hy.1 (by omega) (by omega) z hz
  · unfold path at hz; rw [if_neg hy] at hz; cases hz
theorem marks_get {n f c u : Int} (h : rt n f c u) {k : Nat} : ∀ (lv : List Int) (V : List Bool), k < V.length → (marks n f c u lv V).getD k false = (V.getD k false || frs n f c u lv k)
  | [], V, _ => by simp [marks, frs]
  | y :: r, V, hk => by
    rw [marks, List.foldl_cons, ← marks, marks_get h r _ (by rw [mark_len]; exact hk), mark_get _ _ (fun z hz => (path_in h z hz).1) hk, frs, frs, List.any_cons, Bool.or_assoc]
theorem path_pos {n f c u y : Int} (h : rt n f c u) (hy : 0 ≤ y ∧ y < n) : 0 < (path n f c u y).length := by
  have hn := n_le h
  rw [path, if_pos hy, pth_prn h hy.1 (by omega)]; simp
theorem markPl {β : Type} {n f c u a b : Int} {lv p : List Int} {V0 : List Bool} {K : List Bool → Option β} (hp : p.length ≤ 200) (hp2 : ∀ z ∈ p, 0 ≤ z ∧ z < 256) : ∀ (r : List Int) (i k : Nat) (V : List Bool), p.drop i = r → i ≤ p.length → r.length < k → V.length = 256 →
    f105_1_l9 20000 a b ((p.length : Nat) : Int) lv n f c u V0 p K k (i : Int) V = K (mark r V)
  | _, i, 0, _, _, _, hk, _ => by omega
  | [], i, k + 1, V, hd, hi, _, _ => by
    have := nilL hd hi
    rw [f105_1_l9, cf (by omega)]; rfl
  | z :: r, i, k + 1, V, hd, hi, hk, hV => by
    obtain ⟨d1, d2, d3⟩ := at_drop hd
    have hz := hp2 z (List.mem_of_mem_drop (by rw [hd]; simp))
    rw [f105_1_l9, ct (by omega), ct (by omega), ct (by omega), d2, ct (by omega), ct (by omega), w64 (by omega) (by omega)]
    exact markPl hp hp2 r (i + 1) k _ d3 (by omega) (by simp at hk; omega) (by simpa using hV)
theorem abvPl {β : Type} {n f c u : Int} {lv : List Int} {V0 : List Bool} {K0 K1 K2} {z : Option β} (h : rt n f c u) (hN : nodes n f c u ≤ 250) (hl : lv.length ≤ 1000) (h0 : ∀ a b, K0 a b = z) : ∀ (r : List Int) (i k : Nat) (V : List Bool), lv.drop i = r → i ≤ lv.length → r.length < k → V.length = 256 →
    f105_1_l3 20000 ((lv.length : Nat) : Int) lv n f c u V0 K0 K1 K2 k (i : Int) V = if r.all (fun y => decide (0 ≤ y ∧ y < n)) then K2 (marks n f c u r V) else z
  | _, i, 0, _, _, _, hk, _ => by omega
  | [], i, k + 1, V, hd, hi, _, _ => by
    have := nilL hd hi
    rw [f105_1_l3, cf (by omega)]; rfl
  | y :: r, i, k + 1, V, hd, hi, hk, hV => by
    obtain ⟨d1, d2, d3⟩ := at_drop hd
    rw [f105_1_l3, ct (by omega), ct (by omega), ct (by omega), d2, pathN h, List.all_cons]
    by_cases hy : 0 ≤ y ∧ y < n
    · have hpl := path_len n f c u y
      have hpp := path_pos h hy
      rw [if_pos hy, ct hpp]
      have e := markPl (n := n) (f := f) (c := c) (u := u) (a := ((lv.length : Nat) : Int)) (b := (i : Int)) (lv := lv) (V0 := V0) (p := path n f c u y) (K := fun x23 => f105_1_l3 20000 ((lv.length : Nat) : Int) lv n f c u V0 K0 K1 K2 k (IntKind.i64.wrap ((i : Int) + 1)) x23) (by omega) (fun z hz => by have := path_in h z hz; omega) (path n f c u y) 0 20000 V rfl (by omega) (by omega) hV
      rw [show ((0 : Nat) : Int) = 0 from rfl] at e
      rw [e, w64 (by omega) (by omega), decide_eq_true hy, Bool.true_and, marks, List.foldl_cons, ← marks]
      exact abvPl h hN hl h0 r (i + 1) k _ d3 (by omega) (by simp at hk; omega) (by rw [mark_len]; exact hV)
    · rw [if_neg hy, decide_eq_false hy, Bool.false_and, h0]; rfl
def V256 : List Bool := List.replicate 256 false
theorem aboveN {β : Type} {n f c u : Int} {lv : List Int} {K : List Bool → Int → Option β} {z : Option β} (h : rt n f c u) (hN : nodes n f c u ≤ 250) (hl : lv.length ≤ 1000) (h0 : ∀ a, K a 3 = z) :
    f105_1 20000 n f c u lv K = if lv.all (fun y => decide (0 ≤ y ∧ y < n)) then K (marks n f c u lv V256) 0 else z := by
  have e : f105_1 20000 n f c u lv K = f105_1_l3 20000 ((lv.length : Nat) : Int) lv n f c u V256 (fun x25 x26 => K x25 3) (fun x27 x28 x29 => K x27 3) (fun x30 => K x30 0) 20000 ((0 : Nat) : Int) V256 := by kernel_rfl
  rw [e]
  exact abvPl h hN hl (fun a b => h0 a) lv 0 20000 V256 rfl (by omega) (by omega) List.length_replicate
structure Mk (N : Nat) (fr : Nat → Bool) (V : List Bool) : Prop where
  len : N ≤ V.length
  get : ∀ k : Nat, k < N → V.getD k false = fr k
theorem getD_rep {N k : Nat} : (List.replicate N false).getD k false = false := by
  rw [List.getD_eq_getElem?_getD, List.getElem?_replicate]; split <;> rfl
theorem mk_marks {n f c u : Int} {lv : List Int} {N M : Nat} (h : rt n f c u) (hM : N ≤ M) : Mk N (frs n f c u lv) (marks n f c u lv (List.replicate M false)) :=
  ⟨by rw [marks_len, List.length_replicate]; exact hM, fun k hk => by rw [marks_get h _ _ (by rw [List.length_replicate]; omega), getD_rep, Bool.false_or]⟩
end
section
variable [FZ]
def sS1 (e : Int) : Int := ixor .u32 (ixor .u32 (rot e 6) (rot e 11)) (rot e 25)
def sS0 (a : Int) : Int := ixor .u32 (ixor .u32 (rot a 2) (rot a 13)) (rot a 22)
def t1 (e f g h k w : Int) : Int := IntKind.u32.wrap (IntKind.u32.wrap (IntKind.u32.wrap (IntKind.u32.wrap (h + sS1 e) + ixor .u32 (iand .u32 e f) (iand .u32 (ixor .u32 4294967295 e) g)) + k) + w)
def t2 (a b c : Int) : Int := IntKind.u32.wrap (sS0 a + ixor .u32 (ixor .u32 (iand .u32 a b) (iand .u32 a c)) (iand .u32 b c))
def stp (v : List Int) (k w : Int) : List Int := match v with
  | [a, b, c, d, e, f, g, h] => [IntKind.u32.wrap (t1 e f g h k w + t2 a b c), a, b, c, IntKind.u32.wrap (d + t1 e f g h k w), e, f, g]
  | v => v
def rds (kk ww : List Int) : Nat → Nat → List Int → List Int
  | 0, _, v => v
  | m + 1, i, v => rds kk ww m (i + 1) (stp v (kk.getD i 0) (ww.getD i 0))
def fin8 (s v : List Int) : List Int := match s, v with
  | [a, b, c, d, e, f, g, h], [a', b', c', d', e', f', g', h'] => [IntKind.u32.wrap (a' + a), IntKind.u32.wrap (b' + b), IntKind.u32.wrap (c' + c), IntKind.u32.wrap (d' + d), IntKind.u32.wrap (e' + e), IntKind.u32.wrap (f' + f), IntKind.u32.wrap (g' + g), IntKind.u32.wrap (h' + h)]
  | _, _ => []
def eight (s : List Int) : Prop := ∃ a b c d e f g h, s = [a, b, c, d, e, f, g, h]
theorem stp_eight {v : List Int} (h : eight v) (k w : Int) : eight (stp v k w) := by
  obtain ⟨a, b, c, d, e, f, g, h, rfl⟩ := h
  exact ⟨_, _, _, _, _, _, _, _, rfl⟩
theorem rds_eight {kk ww : List Int} : ∀ (m i : Nat) {v : List Int}, eight v → eight (rds kk ww m i v)
  | 0, _, v, h => h
  | m + 1, i, v, h => rds_eight m (i + 1) (stp_eight h _ _)
def blk (s b : List Int) : List Int := fin8 s (rds k64 (wds b) 64 0 s)
theorem blk_eight {s : List Int} (b : List Int) (h : eight s) : eight (blk s b) := by
  have h2 := rds_eight (kk := k64) (ww := wds b) 64 0 h
  obtain ⟨a, b', c, d, e, f, g, h, rfl⟩ := h
  obtain ⟨a', b'', c', d', e', f', g', h', h3⟩ := h2
  unfold blk
  rw [h3]
  exact ⟨_, _, _, _, _, _, _, _, rfl⟩
theorem k64_len : k64.length = 64 := rfl
theorem rdP {β : Type} {F : Nat} {b s z ww : List Int} {K : List Int → Option β} (hw : ww.length = 64) : ∀ (m i k : Nat) (v : List Int), eight v → i + m = 64 → m < k →
    f234_0_l3 F b s z k64 ww K k (i : Int) v = K (rds k64 ww m i v)
  | 0, i, k, v, he, hi, hk => by
    obtain ⟨k, rfl⟩ : ∃ j, k = j + 1 := ⟨k - 1, by omega⟩
    simp only [f234_0_l3]
    rw [cf (by omega)]; rfl
  | m + 1, i, k, v, he, hi, hk => by
    obtain ⟨k, rfl⟩ : ∃ j, k = j + 1 := ⟨k - 1, by omega⟩
    have e4 : IntKind.i64.wrap ((i : Int) + 1) = ((i + 1 : Nat) : Int) := by rw [w64 (by omega) (by omega)]; omega
    have ih := rdP (F := F) (b := b) (s := s) (z := z) (K := K) hw m (i + 1) k _ (stp_eight he (k64.getD i 0) (ww.getD i 0)) (by omega) (by omega)
    obtain ⟨va, vb, vc, vd, ve, vf, vg, vh, rfl⟩ := he
    simp only [f234_0_l3, e4, hw, Int.toNat_natCast]
    have q0 : i < k64.length := by rw [k64_len]; omega
    rw [ct (by omega), ct (by simp), ct (by simp), ct (by simp), ct (by simp), ct (by simp), ct (by simp), ct (by simp), ct (by simp), ct (by simp), ct (by omega), ct q0, ct (by omega), ct (by omega),
      turnP (by omega) (by omega), turnP (by omega) (by omega), turnP (by omega) (by omega), turnP (by omega) (by omega), turnP (by omega) (by omega), turnP (by omega) (by omega)]
    rw [ct (by simp), ct (by simp), ct (by simp)]
    exact ih
def adds (s : List Int) : Nat → Nat → List Int → List Int
  | 0, _, v => v
  | m + 1, i, v => adds s m (i + 1) (v.set i (IntKind.u32.wrap (v.getD i 0 + s.getD i 0)))
theorem addP {β : Type} {F : Nat} {b z s : List Int} {K : List Int → Option β} (hs : s.length = 8) : ∀ (m i k : Nat) (v : List Int), v.length = 8 → i + m = 8 → m < k →
    f234_0_l14 F b s z K k (i : Int) v = K (adds s m i v)
  | 0, i, k, v, he, hi, hk => by
    obtain ⟨k, rfl⟩ : ∃ j, k = j + 1 := ⟨k - 1, by omega⟩
    simp only [f234_0_l14]
    rw [cf (by omega)]; rfl
  | m + 1, i, k, v, he, hi, hk => by
    obtain ⟨k, rfl⟩ : ∃ j, k = j + 1 := ⟨k - 1, by omega⟩
    have e4 : IntKind.i64.wrap ((i : Int) + 1) = ((i + 1 : Nat) : Int) := by rw [w64 (by omega) (by omega)]; omega
    simp only [f234_0_l14, e4, hs, he, Int.toNat_natCast]
    rw [ct (by omega), ct (by omega), ct (by omega), ct (by omega), ct (by omega), ct (by omega), ct (by omega)]
    exact addP hs m (i + 1) k _ (by simp [he]) (by omega) (by omega)
theorem fnP {β : Type} {F : Nat} {b z s v : List Int} {K : List Int → Option β} (hF : 9 ≤ F) (hs : eight s) (hv : eight v) : f234_0_l14 F b s z K F 0 v = K (fin8 s v) := by
  obtain ⟨a, b', c, d, e, f, g, h, rfl⟩ := hs
  obtain ⟨va, vb, vc, vd, ve, vf, vg, vh, rfl⟩ := hv
  exact addP rfl 8 0 F _ rfl (by omega) (by omega)
theorem blkP {β : Type} {F : Nat} {s b : List Int} {K : List Int → Option β} (hF : 100 ≤ F) (hs : eight s) (hb : 64 ≤ b.length) : f234_1 F s b K = K (blk s b) := by
  simp only [f234_1]
  rw [ct ⟨hF, hb⟩]
  simp only [f234_0]
  have h1 := rdP (F := F) (b := b) (s := s) (z := [0, 0, 0, 0, 0, 0, 0, 0]) (K := fun x14 => f234_0_l14 F b s [0, 0, 0, 0, 0, 0, 0, 0] (fun x20 => K x20) F 0 x14) (wds_len b) 64 0 F s hs (by omega) (by omega)
  rw [show ((0 : Nat) : Int) = 0 from rfl] at h1
  rw [h1, fnP (by omega) hs (rds_eight 64 0 hs)]
  rfl
theorem rdR {β : Type} {F : Nat} {b s z ww : List Int} {K : Int → Int → Int → Int → Int → Int → Int → Int → Option β} {K' : List Int → Option β} (hK : ∀ a b c d e f g h, K a b c d e f g h = K' [a, b, c, d, e, f, g, h]) (hw : ww.length = 64) : ∀ (m i k : Nat) (va vb vc vd ve vf vg vh : Int), i + m = 64 → m < k →
    f195_1_l21 F k64 b s z ww K k va vb vc vd ve vf vg vh (i : Int) = K' (rds k64 ww m i [va, vb, vc, vd, ve, vf, vg, vh])
  | 0, i, k, va, vb, vc, vd, ve, vf, vg, vh, hi, hk => by
    obtain ⟨k, rfl⟩ : ∃ j, k = j + 1 := ⟨k - 1, by omega⟩
    simp only [f195_1_l21]
    rw [cf (by omega), hK]; rfl
  | m + 1, i, k, va, vb, vc, vd, ve, vf, vg, vh, hi, hk => by
    obtain ⟨k, rfl⟩ : ∃ j, k = j + 1 := ⟨k - 1, by omega⟩
    have e4 : IntKind.i64.wrap ((i : Int) + 1) = ((i + 1 : Nat) : Int) := by rw [w64 (by omega) (by omega)]; omega
    have q0 : i < k64.length := by rw [k64_len]; omega
    simp only [f195_1_l21, e4, hw, Int.toNat_natCast, Nat.zero_add]
    rw [ct (by omega), ct (by omega), ct q0, ct (by omega), ct (by omega),
      turnR (by omega) (by omega), turnR (by omega) (by omega), turnR (by omega) (by omega), turnR (by omega) (by omega), turnR (by omega) (by omega), turnR (by omega) (by omega)]
    exact rdR hK hw m (i + 1) k _ _ _ _ _ _ _ _ (by omega) (by omega)
theorem blkR {β : Type} {F : Nat} {s b : List Int} {K : List Int → Option β} (hF : 100 ≤ F) (hs : eight s) (hb : 64 ≤ b.length) : f195_1 F s k64 b K = K (blk s b) := by
  simp only [f195_1]
  rw [show ([0, 0, 0, 0, 0, 0, 0, 0, 0, 0, 0, 0, 0, 0, 0, 0, 0, 0, 0, 0, 0, 0, 0, 0, 0, 0, 0, 0, 0, 0, 0, 0, 0, 0, 0, 0, 0, 0, 0, 0, 0, 0, 0, 0, 0, 0, 0, 0, 0, 0, 0, 0, 0, 0, 0, 0, 0, 0, 0, 0, 0, 0, 0, 0] : List Int) = List.replicate 64 0 from rfl]
  have h0 := ldR (F := F) (b := b) (z := [0, 0, 0, 0, 0, 0, 0, 0]) (s := s) (y := k64) (K := fun x7 => f195_1_l7 F k64 b s [0, 0, 0, 0, 0, 0, 0, 0] (fun x18 => cond (decide (0 < s.length)) (cond (decide (1 < s.length)) (cond (decide (2 < s.length)) (cond (decide (3 < s.length)) (cond (decide (4 < s.length)) (cond (decide (5 < s.length)) (cond (decide (6 < s.length)) (cond (decide (7 < s.length)) (f195_1_l21 F k64 b s [0, 0, 0, 0, 0, 0, 0, 0] x18 (fun x39 x40 x41 x42 x43 x44 x45 x46 => cond (decide (0 < s.length)) (cond (decide (1 < s.length)) (cond (decide (2 < s.length)) (cond (decide (3 < s.length)) (cond (decide (4 < s.length)) (cond (decide (5 < s.length)) (cond (decide (6 < s.length)) (cond (decide (7 < s.length)) (K [IntKind.u32.wrap ((s.getD 0 0) + x39), IntKind.u32.wrap ((s.getD 1 0) + x40), IntKind.u32.wrap ((s.getD 2 0) + x41), IntKind.u32.wrap ((s.getD 3 0) + x42), IntKind.u32.wrap ((s.getD 4 0) + x43), IntKind.u32.wrap ((s.getD 5 0) + x44), IntKind.u32.wrap ((s.getD 6 0) + x45), IntKind.u32.wrap ((s.getD 7 0) + x46)]) none) none) none) none) none) none) none) none) F (s.getD 0 0) (s.getD 1 0) (s.getD 2 0) (s.getD 3 0) (s.getD 4 0) (s.getD 5 0) (s.getD 6 0) (s.getD 7 0) 0) none) none) none) none) none) none) none) none) F 16 x7) hb 16 0 F (List.replicate 64 0) (by omega) (by omega) (by simp)
  rw [show ((0 : Nat) : Int) = 0 from rfl] at h0
  rw [h0]
  rw [show (16 : Int) = ((16 : Nat) : Int) from rfl, exR 48 16 F _ (by omega) (by omega) (by omega) (by rw [ldr_len]; simp)]
  obtain ⟨a, b', c, d, e, f, g, h, rfl⟩ := hs
  have hw := wds_len b
  unfold blk
  unfold wds at hw ⊢
  rw [ct (by simp), ct (by simp), ct (by simp), ct (by simp), ct (by simp), ct (by simp), ct (by simp), ct (by simp)]
  have h1 := rdR (F := F) (b := b) (s := [a, b', c, d, e, f, g, h]) (z := [0, 0, 0, 0, 0, 0, 0, 0]) (K' := fun v => K (fin8 [a, b', c, d, e, f, g, h] v)) (K := fun x39 x40 x41 x42 x43 x44 x45 x46 =>
    K [IntKind.u32.wrap (a + x39), IntKind.u32.wrap (b' + x40), IntKind.u32.wrap (c + x41), IntKind.u32.wrap (d + x42), IntKind.u32.wrap (e + x43), IntKind.u32.wrap (f + x44), IntKind.u32.wrap (g + x45), IntKind.u32.wrap (h + x46)])
    (fun x1 x2 x3 x4 x5 x6 x7 x8 => by simp only [fin8]; rw [Int.add_comm a, Int.add_comm b', Int.add_comm c, Int.add_comm d, Int.add_comm e, Int.add_comm f, Int.add_comm g, Int.add_comm h]) hw 64 0 F a b' c d e f g h (by omega) (by omega)
  rw [show ((0 : Nat) : Int) = 0 from rfl] at h1
  exact h1
end
end Go.Proofs.YtlgopekjjkdkiaaGreatDoor.X
end