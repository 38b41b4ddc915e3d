/- Merged: EvF164, EvF111, EvF91, EvF179, EvF131, EvF92, EvF27, EvF93, EvF190, EvF147, EvF226, EvF215, EvF191, EvF148, EvF146, EvF94, EvF95, EvF31, EvF37v6206, EvF31v4108, EvF81, EvF97, EvF35, EvF27v568, EvF35v455, EvF54, EvF89v345, EvF88v2085, EvF30, EvF83, EvF83v7538, EvF22, EvF25, EvF78, EvF87, EvF28, EvF28v568, EvF29, EvF29v6206, EvF32, EvF32v7155, EvF33, EvF33v568, Trm, TrimC, EvF127, EvF156, EvF180, EvF211, EvF181, EvF150, EvF96, EvF34. -/
import Derived.Test.YtlgopekjjkdkiaaGreatDoorMRollBackCard3
import Derived.Test.YtlgopekjjkdkiaaGreatDoorProg
import Derived.KernelRfl
import Derived.Shelf.Strings.SlTrimAscii
section
namespace Go.Proofs.YtlgopekjjkdkiaaGreatDoor.X
open Go Go.Proofs.YtlgopekjjkdkiaaGreatDoor.Ev Go.Proofs
set_option linter.unusedVariables false
set_option linter.unusedSectionVars false
section
noncomputable def f164_1_l5 {β : Type} (F : Nat) (v3 v4 v5 v6 : Int) (K0 : List Int → Option β) : Nat → Int → List Int → Option β
  | 0, _, _ => none
  | k + 1, v2, v7 => cond (decide (v2 > 1)) (cond (decide (v4 = 0)) none (cond (decide ((v7.length + 1) * 8 ≤ 70368744177664)) (f164_1_l5 F v3 v4 v5 v6 K0 k (IntKind.i64.wrap ((IntKind.i64.wrap ((IntKind.i64.wrap (v2 + v4)) - 1)).tdiv v4)) (v7 ++ [IntKind.i64.wrap ((IntKind.i64.wrap ((IntKind.i64.wrap (v2 + v4)) - 1)).tdiv v4)])) none)) (K0 v7)
noncomputable def f164_1 {β : Type} (F : Nat) (a1 a2 a3 a4 : Int) (K0 : List Int → Option β) : Option β := f90_1 F a1 a2 a3 a4 (fun x1 => cond (!x1) (K0 []) (f164_1_l5 F a1 a2 a3 a4 (fun x8 => K0 x8) F a1 [a1])) 
variable [FZ]
def sh164_1 : Sh := ⟨[.agg [.int .i64, .int .i64, .int .i64, .int .i64]], []⟩
abbrev Y164_1 := Int → Int → Int → Int → (List Int → Option Res) → Option Res
noncomputable def A164_1 (g : Y164_1) (d : sh164_1.den) (K : KF) : Option Res := g d.1.1.1 d.1.1.2.1 d.1.1.2.2.1 d.1.1.2.2.2.1 (fun y0 => K [.lf (.full 0)] [some ⟨false, [.seq (.int .i64) 0 y0]⟩])
noncomputable def S164_1 (F : Nat) (o : Summ) : Summ := mkS sh164_1 (fun d K => A164_1 (f164_1 F) d K) o
noncomputable def code164 : Code := bodyOf Tryz.f164
noncomputable def b164_0 : Code := cB (cB (cR (cL (cR (cR (cR (code164)))))))
theorem loops164 : loopsOf code164 = [b164_0] := by kernel_rfl
theorem enter164 : En Tryz.prog 164 := enO (fn := Tryz.f164)
noncomputable def T164_1 (F : Nat) : FuncId → Option Summ := tab [(90, (S90_1 F noS))]
def sh164_1_l5 : Sh := ⟨[.lf (.ptr 0 0), .lf (.full 1), .lf (.int .i64)], [some ⟨some false, [.int .i64, .int .i64, .int .i64, .int .i64]⟩, some ⟨some false, [.seq (.int .i64) 0]⟩]⟩
abbrev Y164_1_l5 := Int → Int → Int → Int → (List Int → Option Res) → Nat → Int → List Int → Option Res
noncomputable def A164_1_l5 (g : Y164_1_l5) (k : Nat) (d : sh164_1_l5.den) (K : KL) : Option Res := g d.2.1.2.1 d.2.1.2.2.1 d.2.1.2.2.2.1 d.2.1.2.2.2.2.1 (fun y4 => K (.exit 0) [.tv (.lf (.full 1))] [some ⟨false, [.int .i64 d.2.1.2.1, .int .i64 d.2.1.2.2.1, .int .i64 d.2.1.2.2.2.1, .int .i64 d.2.1.2.2.2.2.1]⟩, some ⟨false, [.seq (.int .i64) 0 y4]⟩]) k d.1.2.2.1 d.2.2.1.2.1
noncomputable def G164_1_5 (F k : Nat) : LoopS := mkG sh164_1_l5 [1, 3, 4] (outT [(.exit 0, [3])]) (fun d K => A164_1_l5 (f164_1_l5 F) k d K) []
noncomputable def LT164_1 (F : Nat) : Nat → Option LoopS := ltab [(5, G164_1_5 F F)]
theorem L164_1_5 (F : Nat) : LoopOK Tryz.prog (T164_1 F) (xw []) 28 0 (LT164_1 F) (G164_1_5 F F) b164_0 :=
  loopOK_of (s := sh164_1_l5) (live := [1, 3, 4]) (out := (outT [(.exit 0, [3])])) (mv := []) (fun k d K => A164_1_l5 (f164_1_l5 F) k d K) F (fun d K => by kernel_rfl)  (fun k d K => by delta A164_1_l5; refine (f164_1_l5.eq_2 ..).trans ?_; delta T164_1 S90_1 LT164_1; generalize (G164_1_5 F F) = c;  (try delta G164_1_5); generalize (f90_1 F : Y90_1) = c, (f164_1_l5 F : Y164_1_l5) = c; as_aux_lemma => kernel_rfl)
theorem E164_1 (F : Nat) (d : sh164_1.den) (K : KF) : EB Tryz.prog (T164_1 F) (xw []) 28 0 (LT164_1 F) [] false Tryz.f164 sh164_1 d K = A164_1 (f164_1 F) d K := by delta A164_1 f164_1 T164_1 S90_1 LT164_1;  delta G164_1_5; generalize (f90_1 F : Y90_1) = c, (f164_1_l5 F : Y164_1_l5) = c; as_aux_lemma => kernel_rfl
theorem S164_1_ok : So Tryz.prog 164 S164_1 :=
  fun F o ho => sOf (fn := Tryz.f164) (c := code164) (tab_cons (S90_1_ok F _ (noS_sound enter90)) tab_nil) ho (by rw [loops164]; exact (loopsOK_cons (by kernel_rfl) (L164_1_5 F) loopsOK_nil)) snil rnil (E164_1 F)
end
section
noncomputable def f111_1_l3 {β : Type} (F : Nat) (v3 : Int) (v5 : List Int) (K0 : Int → Option β) : Nat → Int → Int → Option β
  | 0, _, _ => none
  | k + 1, v2, v4 => cond (decide (v4 < v3)) (cond (decide ((0 : Int) ≤ v4 ∧ v4 < ((v5.length : Nat) : Int))) (cond (decide (0 + v4.toNat < v5.length)) (f111_1_l3 F v3 v5 K0 k (IntKind.i64.wrap (v2 + (v5.getD (0 + v4.toNat) 0))) (IntKind.i64.wrap (v4 + 1))) none) none) (K0 v2)
noncomputable def f111_1 {β : Type} (F : Nat) (a1 a2 a3 a4 : Int) (K0 : Int → Option β) : Option β := f164_1 F a1 a2 a3 a4 (fun x1 => f111_1_l3 F ((x1.length : Nat) : Int) x1 (fun x6 => K0 x6) F 0 0) 
variable [FZ]
def sh111_1 : Sh := ⟨[.agg [.int .i64, .int .i64, .int .i64, .int .i64]], []⟩
abbrev Y111_1 := Int → Int → Int → Int → (Int → Option Res) → Option Res
noncomputable def A111_1 (g : Y111_1) (d : sh111_1.den) (K : KF) : Option Res := g d.1.1.1 d.1.1.2.1 d.1.1.2.2.1 d.1.1.2.2.2.1 (fun y0 => K [.lf (.int .i64 y0)] [])
noncomputable def S111_1 (F : Nat) (o : Summ) : Summ := mkS sh111_1 (fun d K => A111_1 (f111_1 F) d K) o
noncomputable def code111 : Code := bodyOf Tryz.f111
noncomputable def b111_0 : Code := cB (cB (cR (cL (cR (cR (code111))))))
theorem loops111 : loopsOf code111 = [b111_0] := by kernel_rfl
theorem enter111 : En Tryz.prog 111 := enO (fn := Tryz.f111)
noncomputable def T111_1 (F : Nat) : FuncId → Option Summ := tab [(164, (S164_1 F noS))]
def sh111_1_l3 : Sh := ⟨[.lf (.int .i64), .lf (.full 0), .lf (.int .i64), .lf (.int .i64)], [some ⟨some false, [.seq (.int .i64) 0]⟩]⟩
abbrev Y111_1_l3 := Int → List Int → (Int → Option Res) → Nat → Int → Int → Option Res
noncomputable def A111_1_l3 (g : Y111_1_l3) (k : Nat) (d : sh111_1_l3.den) (K : KL) : Option Res := g d.1.2.2.1 d.2.1.2.1 (fun y0 => K (.exit 0) [.tv (.lf (.int .i64 y0))] [some ⟨false, [.seq (.int .i64) 0 d.2.1.2.1]⟩]) k d.1.1 d.1.2.2.2.1
noncomputable def G111_1_3 (F k : Nat) : LoopS := mkG sh111_1_l3 [3, 7, 8, 9] (outT [(.exit 0, [3])]) (fun d K => A111_1_l3 (f111_1_l3 F) k d K) []
noncomputable def LT111_1 (F : Nat) : Nat → Option LoopS := ltab [(3, G111_1_3 F F)]
theorem L111_1_3 (F : Nat) : LoopOK Tryz.prog (T111_1 F) (xw []) 18 0 (LT111_1 F) (G111_1_3 F F) b111_0 :=
  loopOK_of (s := sh111_1_l3) (live := [3, 7, 8, 9]) (out := (outT [(.exit 0, [3])])) (mv := []) (fun k d K => A111_1_l3 (f111_1_l3 F) k d K) F (fun d K => by kernel_rfl)  (fun k d K => by delta A111_1_l3; refine (f111_1_l3.eq_2 ..).trans ?_; delta T111_1 S164_1 LT111_1; generalize (G111_1_3 F F) = c;  (try delta G111_1_3); generalize (f164_1 F : Y164_1) = c, (f111_1_l3 F : Y111_1_l3) = c; as_aux_lemma => kernel_rfl)
theorem E111_1 (F : Nat) (d : sh111_1.den) (K : KF) : EB Tryz.prog (T111_1 F) (xw []) 18 0 (LT111_1 F) [] false Tryz.f111 sh111_1 d K = A111_1 (f111_1 F) d K := by delta A111_1 f111_1 T111_1 S164_1 LT111_1;  delta G111_1_3; generalize (f164_1 F : Y164_1) = c, (f111_1_l3 F : Y111_1_l3) = c; as_aux_lemma => kernel_rfl
theorem S111_1_ok : So Tryz.prog 111 S111_1 :=
  fun F o ho => sOf (fn := Tryz.f111) (c := code111) (tab_cons (S164_1_ok F _ (noS_sound enter164)) tab_nil) ho (by rw [loops111]; exact (loopsOK_cons (by kernel_rfl) (L111_1_3 F) loopsOK_nil)) snil rnil (E111_1 F)
end
section
noncomputable def f91_1 {β : Type} (F : Nat) (a1 a2 a3 a4 a5 : Int) (K0 : Bool → Option β) : Option β := cond (decide (a5 ≥ 6)) (f111_1 F a1 a2 a3 a4 (fun x1 => K0 (decide (a5 < IntKind.i64.wrap ((IntKind.i64.wrap (6 + a1)) + x1)))) ) (K0 false)
variable [FZ]
def sh91_1 : Sh := ⟨[.agg [.int .i64, .int .i64, .int .i64, .int .i64], .lf (.int .i64)], []⟩
abbrev Y91_1 := Int → Int → Int → Int → Int → (Bool → Option Res) → Option Res
noncomputable def A91_1 (g : Y91_1) (d : sh91_1.den) (K : KF) : Option Res := g d.1.1.1 d.1.1.2.1 d.1.1.2.2.1 d.1.1.2.2.2.1 d.1.2.1 (fun y0 => K [.lf (.bool y0)] [])
noncomputable def S91_1 (F : Nat) (o : Summ) : Summ := mkS sh91_1 (fun d K => A91_1 (f91_1 F) d K) o
noncomputable def code91 : Code := bodyOf Tryz.f91
theorem enter91 : En Tryz.prog 91 := enO (fn := Tryz.f91)
noncomputable def T91_1 (F : Nat) : FuncId → Option Summ := tab [(111, (S111_1 F noS))]
noncomputable def LT91_1 (F : Nat) : Nat → Option LoopS := ltab []
theorem E91_1 (F : Nat) (d : sh91_1.den) (K : KF) : EB Tryz.prog (T91_1 F) (xw []) 17 0 (LT91_1 F) [] false Tryz.f91 sh91_1 d K = A91_1 (f91_1 F) d K := by delta A91_1 f91_1 T91_1 S111_1 LT91_1;  generalize (f111_1 F : Y111_1) = c; as_aux_lemma => kernel_rfl
theorem S91_1_ok : So Tryz.prog 91 S91_1 :=
  fun F o ho => sOf (fn := Tryz.f91) (c := code91) (tab_cons (S111_1_ok F _ (noS_sound enter111)) tab_nil) ho lnil snil rnil (E91_1 F)
end
section
noncomputable def f179_1 {β : Type} (F : Nat) (a1 a2 a3 a4 a5 : Int) (K0 : Int → Bool → Option β) : Option β := cond (a5 == 0) (f90_1 F a1 a2 a3 a4 (fun x1 => K0 (IntKind.i64.wrap (2 * a3)) x1) ) (cond (a5 == 1) (f90_1 F a1 a2 a3 a4 (fun x2 => K0 (IntKind.i64.wrap (2 * a4)) x2) ) (K0 0 false))
variable [FZ]
def sh179_1 : Sh := ⟨[.agg [.int .i64, .int .i64, .int .i64, .int .i64], .lf (.int .i64)], []⟩
abbrev Y179_1 := Int → Int → Int → Int → Int → (Int → Bool → Option Res) → Option Res
noncomputable def A179_1 (g : Y179_1) (d : sh179_1.den) (K : KF) : Option Res := g d.1.1.1 d.1.1.2.1 d.1.1.2.2.1 d.1.1.2.2.2.1 d.1.2.1 (fun y0 y1 => K [.lf (.int .i64 y0), .lf (.bool y1)] [])
noncomputable def S179_1 (F : Nat) (o : Summ) : Summ := mkS sh179_1 (fun d K => A179_1 (f179_1 F) d K) o
noncomputable def code179 : Code := bodyOf Tryz.f179
theorem enter179 : En Tryz.prog 179 := enO (fn := Tryz.f179)
noncomputable def T179_1 (F : Nat) : FuncId → Option Summ := tab [(90, (S90_1 F noS))]
noncomputable def LT179_1 (F : Nat) : Nat → Option LoopS := ltab []
theorem E179_1 (F : Nat) (d : sh179_1.den) (K : KF) : EB Tryz.prog (T179_1 F) (xw []) 21 0 (LT179_1 F) [] false Tryz.f179 sh179_1 d K = A179_1 (f179_1 F) d K := by delta A179_1 f179_1 T179_1 S90_1 LT179_1;  generalize (f90_1 F : Y90_1) = c; as_aux_lemma => kernel_rfl
theorem S179_1_ok : So Tryz.prog 179 S179_1 :=
  fun F o ho => sOf (fn := Tryz.f179) (c := code179) (tab_cons (S90_1_ok F _ (noS_sound enter90)) tab_nil) ho lnil snil rnil (E179_1 F)
end
section
noncomputable def f131_1 {β : Type} (F : Nat) (a1 a2 a3 a4 a5 a6 : Int) (K0 : Int → Option β) : Option β := f179_1 F a1 a2 a3 a4 a5 (fun x1 x2 => cond (!x2) (K0 (-1)) (f144_1 F a6 0 (IntKind.i64.wrap (x1 - 1)) (fun x3 => cond (!x3) (K0 (-1)) (f111_1 F a1 a2 a3 a4 (fun x4 => K0 (IntKind.i64.wrap ((IntKind.i64.wrap ((IntKind.i64.wrap (6 + a1)) + x4)) + a6))) )) )) 
variable [FZ]
def sh131_1 : Sh := ⟨[.agg [.int .i64, .int .i64, .int .i64, .int .i64], .lf (.int .i64), .lf (.int .i64)], []⟩
abbrev Y131_1 := Int → Int → Int → Int → Int → Int → (Int → Option Res) → Option Res
noncomputable def A131_1 (g : Y131_1) (d : sh131_1.den) (K : KF) : Option Res := g d.1.1.1 d.1.1.2.1 d.1.1.2.2.1 d.1.1.2.2.2.1 d.1.2.1 d.1.2.2.1 (fun y0 => K [.lf (.int .i64 y0)] [])
noncomputable def S131_1 (F : Nat) (o : Summ) : Summ := mkS sh131_1 (fun d K => A131_1 (f131_1 F) d K) o
noncomputable def code131 : Code := bodyOf Tryz.f131
theorem enter131 : En Tryz.prog 131 := enO (fn := Tryz.f131)
noncomputable def T131_1 (F : Nat) : FuncId → Option Summ := tab [(111, (S111_1 F noS)), (144, (S144_1 F noS)), (179, (S179_1 F noS))]
noncomputable def LT131_1 (F : Nat) : Nat → Option LoopS := ltab []
theorem E131_1 (F : Nat) (d : sh131_1.den) (K : KF) : EB Tryz.prog (T131_1 F) (xw []) 32 0 (LT131_1 F) [] false Tryz.f131 sh131_1 d K = A131_1 (f131_1 F) d K := by delta A131_1 f131_1 T131_1 S111_1 S144_1 S179_1 LT131_1;  generalize (f111_1 F : Y111_1) = c, (f144_1 F : Y144_1) = c, (f179_1 F : Y179_1) = c; as_aux_lemma => kernel_rfl
theorem S131_1_ok : So Tryz.prog 131 S131_1 :=
  fun F o ho => sOf (fn := Tryz.f131) (c := code131) (tab_cons (S111_1_ok F _ (noS_sound enter111)) (tab_cons (S144_1_ok F _ (noS_sound enter144)) (tab_cons (S179_1_ok F _ (noS_sound enter179)) tab_nil))) ho lnil snil rnil (E131_1 F)
end
section
noncomputable def f92_1 {β : Type} (F : Nat) (a1 a2 a3 a4 a5 : Int) (K0 : Int → Int → Option β) : Option β := f131_1 F a1 a2 a3 a4 1 (IntKind.i64.wrap (2 * a5)) (fun x1 => f131_1 F a1 a2 a3 a4 1 (IntKind.i64.wrap ((IntKind.i64.wrap (2 * a5)) + 1)) (fun x2 => K0 x1 x2) ) 
variable [FZ]
def sh92_1 : Sh := ⟨[.agg [.int .i64, .int .i64, .int .i64, .int .i64], .lf (.int .i64)], []⟩
abbrev Y92_1 := Int → Int → Int → Int → Int → (Int → Int → Option Res) → Option Res
noncomputable def A92_1 (g : Y92_1) (d : sh92_1.den) (K : KF) : Option Res := g d.1.1.1 d.1.1.2.1 d.1.1.2.2.1 d.1.1.2.2.2.1 d.1.2.1 (fun y0 y1 => K [.lf (.int .i64 y0), .lf (.int .i64 y1)] [])
noncomputable def S92_1 (F : Nat) (o : Summ) : Summ := mkS sh92_1 (fun d K => A92_1 (f92_1 F) d K) o
noncomputable def code92 : Code := bodyOf Tryz.f92
theorem enter92 : En Tryz.prog 92 := enO (fn := Tryz.f92)
noncomputable def T92_1 (F : Nat) : FuncId → Option Summ := tab [(131, (S131_1 F noS))]
noncomputable def LT92_1 (F : Nat) : Nat → Option LoopS := ltab []
theorem E92_1 (F : Nat) (d : sh92_1.den) (K : KF) : EB Tryz.prog (T92_1 F) (xw []) 15 0 (LT92_1 F) [] false Tryz.f92 sh92_1 d K = A92_1 (f92_1 F) d K := by delta A92_1 f92_1 T92_1 S131_1 LT92_1;  generalize (f131_1 F : Y131_1) = c; as_aux_lemma => kernel_rfl
theorem S92_1_ok : So Tryz.prog 92 S92_1 :=
  fun F o ho => sOf (fn := Tryz.f92) (c := code92) (tab_cons (S131_1_ok F _ (noS_sound enter131)) tab_nil) ho lnil snil rnil (E92_1 F)
end
section
noncomputable def f27_1_l6 {β : Type} (F : Nat) (v5 v7 : Int) (v8 : Bool) (v9 : Int) (v11 : List (Int × ByteArray)) (K0 : List ByteArray → Option β) : Nat → Int → List ByteArray → Option β
  | 0, _, _ => none
  | k + 1, v6, v10 => cond (decide (v6 < v5)) (cond (decide ((0 : Int) ≤ v6 ∧ v6 < ((v11.length : Nat) : Int))) (cond (decide (0 + v6.toNat < v11.length)) (cond (decide ((0 : Int) ≤ (v11.getD (0 + v6.toNat) (0, ByteArray.empty)).1 ∧ (v11.getD (0 + v6.toNat) (0, ByteArray.empty)).1 < ((v10.length : Nat) : Int))) (cond (decide (0 + (((v11.getD (0 + v6.toNat) (0, ByteArray.empty)).1).toNat) < v10.length)) (f27_1_l6 F v5 v7 v8 v9 v11 K0 k (IntKind.i64.wrap (v6 + 1)) (v10.set (0 + (((v11.getD (0 + v6.toNat) (0, ByteArray.empty)).1).toNat)) ((v11.getD (0 + v6.toNat) (0, ByteArray.empty)).2))) none) none) none) none) (K0 v10)
noncomputable def f27_1 {β : Type} (F : Nat) (a1 : Int) (a2 : Bool) (a3 : Int) (a4 : List ByteArray) (a5 : List (Int × ByteArray)) (K0 : Int → Int → Bool → Int → List ByteArray → List (Int × ByteArray) → Option β) : Option β := cond a2 (K0 5 a1 a2 a3 a4 a5) (f86_1 F a1 a2 a3 a4 a5 (fun x1 x2 x3 x4 => cond (!x1) (K0 5 x2 x3 x4 a4 a5) (f27_1_l6 F ((a5.length : Nat) : Int) x2 x3 x4 a5 (fun x12 => K0 0 x2 x3 x4 x12 []) F 0 a4)) )
variable [FZ]
def sh27_1 : Sh := ⟨[.lf (.ptr 0 0)], [some ⟨some false, [.full 1, .full 2, .int .i64, .bool, .int .i64]⟩, some ⟨some false, [.seq .str 0]⟩, some ⟨some false, [.seq (.pair (.int .i64) .str) 0]⟩]⟩
abbrev Y27_1 := Int → Bool → Int → List ByteArray → List (Int × ByteArray) → (Int → Int → Bool → Int → List ByteArray → List (Int × ByteArray) → Option Res) → Option Res
noncomputable def A27_1 (g : Y27_1) (d : sh27_1.den) (K : KF) : Option Res := g d.2.1.2.2.2.1 d.2.1.2.2.2.2.1 d.2.1.2.2.2.2.2.1 d.2.2.1.2.1 d.2.2.2.1.2.1 (fun y0 y1 y2 y3 y4 y5 => K [.lf (.int .i64 y0)] [some ⟨false, [.full 1, .full 3, .int .i64 y1, .bool y2, .int .i64 y3]⟩, some ⟨false, [.seq .str 0 y4]⟩, none, some ⟨false, [.seq (.pair (.int .i64) .str) 0 y5]⟩])
noncomputable def S27_1 (F : Nat) (o : Summ) : Summ := mkS sh27_1 (fun d K => A27_1 (f27_1 F) d K) o
noncomputable def code27 : Code := bodyOf Tryz.f27
noncomputable def b27_0 : Code := cB (cB (cR (cL (cR (cR (code27))))))
theorem loops27 : loopsOf code27 = [b27_0] := by kernel_rfl
theorem enter27 : En Tryz.prog 27 := enO (fn := Tryz.f27)
noncomputable def T27_1 (F : Nat) : FuncId → Option Summ := tab [(86, (S86_1 F noS))]
def sh27_1_l6 : Sh := ⟨[.lf (.ptr 0 0), .lf (.full 2), .lf (.int .i64), .lf (.int .i64)], [some ⟨some false, [.full 1, .full 2, .int .i64, .bool, .int .i64]⟩, some ⟨some false, [.seq .str 0]⟩, some ⟨some false, [.seq (.pair (.int .i64) .str) 0]⟩]⟩
abbrev Y27_1_l6 := Int → Int → Bool → Int → List (Int × ByteArray) → (List ByteArray → Option Res) → Nat → Int → List ByteArray → Option Res
noncomputable def A27_1_l6 (g : Y27_1_l6) (k : Nat) (d : sh27_1_l6.den) (K : KL) : Option Res := g d.1.2.2.1 d.2.1.2.2.2.1 d.2.1.2.2.2.2.1 d.2.1.2.2.2.2.2.1 d.2.2.2.1.2.1 (fun y3 => K (.exit 1) [.tv (.lf (.ptr 0 0))] [some ⟨false, [.full 1, .full 2, .int .i64 d.2.1.2.2.2.1, .bool d.2.1.2.2.2.2.1, .int .i64 d.2.1.2.2.2.2.2.1]⟩, some ⟨false, [.seq .str 0 y3]⟩, some ⟨false, [.seq (.pair (.int .i64) .str) 0 d.2.2.2.1.2.1]⟩]) k d.1.2.2.2.1 d.2.2.1.2.1
noncomputable def G27_1_6 (F k : Nat) : LoopS := mkG sh27_1_l6 [0, 21, 22, 23] (outT [(.exit 1, [0])]) (fun d K => A27_1_l6 (f27_1_l6 F) k d K) []
noncomputable def LT27_1 (F : Nat) : Nat → Option LoopS := ltab [(6, G27_1_6 F F)]
theorem L27_1_6 (F : Nat) : LoopOK Tryz.prog (T27_1 F) (xw []) 40 3 (LT27_1 F) (G27_1_6 F F) b27_0 :=
  loopOK_of (s := sh27_1_l6) (live := [0, 21, 22, 23]) (out := (outT [(.exit 1, [0])])) (mv := []) (fun k d K => A27_1_l6 (f27_1_l6 F) k d K) F (fun d K => by kernel_rfl)  (fun k d K => by delta A27_1_l6; refine (f27_1_l6.eq_2 ..).trans ?_; delta T27_1 S86_1 LT27_1; generalize (G27_1_6 F F) = c;  (try delta G27_1_6); generalize (f86_1 F : Y86_1) = c, (f27_1_l6 F : Y27_1_l6) = c; as_aux_lemma => kernel_rfl)
theorem E27_1 (F : Nat) (d : sh27_1.den) (K : KF) : EB Tryz.prog (T27_1 F) (xw []) 40 3 (LT27_1 F) [2] false Tryz.f27 sh27_1 d K = A27_1 (f27_1 F) d K := by delta A27_1 f27_1 T27_1 S86_1 LT27_1;  delta G27_1_6; generalize (f86_1 F : Y86_1) = c, (f27_1_l6 F : Y27_1_l6) = c; as_aux_lemma => kernel_rfl
theorem S27_1_ok : So Tryz.prog 27 S27_1 :=
  fun F o ho => sOf (fn := Tryz.f27) (c := code27) (tab_cons (S86_1_ok F _ (noS_sound enter86)) tab_nil) ho (by rw [loops27]; exact (loopsOK_cons (by kernel_rfl) (L27_1_6 F) loopsOK_nil)) snil rnil (E27_1 F)
end
section
noncomputable def f93_1 {β : Type} (F : Nat) (a1 : Int) (a2 : ByteArray) (a3 : Int) (a4 : Bool) (a5 : Int) (a6 : List ByteArray) (a7 : List (Int × ByteArray)) (K0 : Int → Int → Bool → Int → List ByteArray → List (Int × ByteArray) → Option β) : Option β := f24_1 F a1 a2 a3 a4 a5 a6 a7 (fun x1 x2 x3 x4 x5 => cond (x1 != 0) (K0 x1 x2 x3 x4 a6 x5) (f27_1 F x2 x3 x4 a6 x5 (fun x6 x7 x8 x9 x10 x11 => K0 x6 x7 x8 x9 x10 x11) )) 
variable [FZ]
def sh93_1 : Sh := ⟨[.lf (.ptr 0 0), .lf (.int .i64), .lf (.str)], [some ⟨some false, [.full 1, .full 2, .int .i64, .bool, .int .i64]⟩, some ⟨some false, [.seq .str 0]⟩, some ⟨some false, [.seq (.pair (.int .i64) .str) 0]⟩]⟩
abbrev Y93_1 := Int → ByteArray → Int → Bool → Int → List ByteArray → List (Int × ByteArray) → (Int → Int → Bool → Int → List ByteArray → List (Int × ByteArray) → Option Res) → Option Res
noncomputable def A93_1 (g : Y93_1) (d : sh93_1.den) (K : KF) : Option Res := g d.1.2.1 d.1.2.2.1 d.2.1.2.2.2.1 d.2.1.2.2.2.2.1 d.2.1.2.2.2.2.2.1 d.2.2.1.2.1 d.2.2.2.1.2.1 (fun y0 y1 y2 y3 y4 y5 => K [.lf (.int .i64 y0)] [some ⟨false, [.full 1, .full 3, .int .i64 y1, .bool y2, .int .i64 y3]⟩, some ⟨false, [.seq .str 0 y4]⟩, none, some ⟨false, [.seq (.pair (.int .i64) .str) 0 y5]⟩])
noncomputable def S93_1 (F : Nat) (o : Summ) : Summ := mkS sh93_1 (fun d K => A93_1 (f93_1 F) d K) o
noncomputable def code93 : Code := bodyOf Tryz.f93
theorem enter93 : En Tryz.prog 93 := enO (fn := Tryz.f93)
noncomputable def T93_1 (F : Nat) : FuncId → Option Summ := tab [(24, (S24_1 F noS)), (27, (S27_1 F noS))]
noncomputable def LT93_1 (F : Nat) : Nat → Option LoopS := ltab []
theorem E93_1 (F : Nat) (d : sh93_1.den) (K : KF) : EB Tryz.prog (T93_1 F) (xw []) 17 3 (LT93_1 F) [2] false Tryz.f93 sh93_1 d K = A93_1 (f93_1 F) d K := by delta A93_1 f93_1 T93_1 S24_1 S27_1 LT93_1;  generalize (f24_1 F : Y24_1) = c, (f27_1 F : Y27_1) = c; as_aux_lemma => kernel_rfl
theorem S93_1_ok : So Tryz.prog 93 S93_1 :=
  fun F o ho => sOf (fn := Tryz.f93) (c := code93) (tab_cons (S24_1_ok F _ (noS_sound enter24)) (tab_cons (S27_1_ok F _ (noS_sound enter27)) tab_nil)) ho lnil snil rnil (E93_1 F)
end
section
noncomputable def f190_1 {β : Type} (F : Nat) (a1 : Int) (K0 : Bool → Option β) : Option β := cond (decide (a1 ≥ 1)) (K0 (decide (a1 ≤ 8))) (K0 false)
variable [FZ]
def sh190_1 : Sh := ⟨[.lf (.int .i64)], []⟩
abbrev Y190_1 := Int → (Bool → Option Res) → Option Res
noncomputable def A190_1 (g : Y190_1) (d : sh190_1.den) (K : KF) : Option Res := g d.1.1 (fun y0 => K [.lf (.bool y0)] [])
noncomputable def S190_1 (F : Nat) (o : Summ) : Summ := mkS sh190_1 (fun d K => A190_1 (f190_1 F) d K) o
noncomputable def code190 : Code := bodyOf Tryz.f190
theorem enter190 : En Tryz.prog 190 := enO (fn := Tryz.f190)
noncomputable def T190_1 (F : Nat) : FuncId → Option Summ := tab []
noncomputable def LT190_1 (F : Nat) : Nat → Option LoopS := ltab []
theorem E190_1 (F : Nat) (d : sh190_1.den) (K : KF) : EB Tryz.prog (T190_1 F) (xw []) 9 0 (LT190_1 F) [] false Tryz.f190 sh190_1 d K = A190_1 (f190_1 F) d K := by delta A190_1 f190_1 T190_1 LT190_1;   as_aux_lemma => kernel_rfl
theorem S190_1_ok : So Tryz.prog 190 S190_1 :=
  fun F o ho => sOf (fn := Tryz.f190) (c := code190) tab_nil ho lnil snil rnil (E190_1 F)
end
section
noncomputable def f147_1_l6 {β : Type} (F : Nat) (v2 : Int) (v4 : List Int) (K0 : List Int → Option β) : Nat → Int → List Int → Option β
  | 0, _, _ => none
  | k + 1, v3, v5 => cond (decide (v3 ≥ 0)) (cond (decide (v3 < 0)) none (cond (decide ((v5.length + 1) * 1 ≤ 70368744177664)) (f147_1_l6 F v2 v4 K0 k (IntKind.i64.wrap (v3 - 8)) (v5 ++ [IntKind.u8.wrap (ishr .u64 v2 v3)])) none)) (K0 v5)
noncomputable def f147_1 {β : Type} (F : Nat) (a1 a2 : Int) (a3 : List Int) (K0 : List Int → Option β) : Option β := cond (decide ((0 : Int) ≤ (0 : Int) ∧ (0 : Int) ≤ IntKind.i64.wrap (((a3.length : Nat) : Int) + 8) ∧ IntKind.i64.wrap (((a3.length : Nat) : Int) + 8) ≤ 70368744177664 ∧ IntKind.i64.wrap (((a3.length : Nat) : Int) + 8) * 1 ≤ 70368744177664)) (cond (decide ((0 + a3.length) * 1 ≤ 70368744177664)) (f190_1 F a1 (fun x1 => cond (!x1) (K0 ((((List.replicate ((IntKind.i64.wrap (((a3.length : Nat) : Int) + 8)).toNat) 0).drop 0).take 0) ++ a3)) (f147_1_l6 F a2 a3 (fun x6 => K0 x6) F (IntKind.i64.wrap (8 * (IntKind.i64.wrap (a1 - 1)))) ((((List.replicate ((IntKind.i64.wrap (((a3.length : Nat) : Int) + 8)).toNat) 0).drop 0).take 0) ++ a3))) ) none) none
variable [FZ]
def sh147_1 : Sh := ⟨[.lf (.full 0), .lf (.int .i64), .lf (.int .u64)], [some ⟨none, [.seq (.int .u8) 0]⟩]⟩
abbrev Y147_1 := Int → Int → List Int → (List Int → Option Res) → Option Res
noncomputable def A147_1 (g : Y147_1) (d : sh147_1.den) (K : KF) : Option Res := g d.1.2.1 d.1.2.2.1 d.2.1.2.1 (fun y1 => K [.lf (.full 1)] [some ⟨d.2.1.1, [.seq (.int .u8) 0 d.2.1.2.1]⟩, some ⟨false, [.seq (.int .u8) 0 y1]⟩])
noncomputable def S147_1 (F : Nat) (o : Summ) : Summ := mkS sh147_1 (fun d K => A147_1 (f147_1 F) d K) o
noncomputable def code147 : Code := bodyOf Tryz.f147
noncomputable def b147_0 : Code := cB (cB (cR (cL (cR (cR (cR (cR (code147))))))))
theorem loops147 : loopsOf code147 = [b147_0] := by kernel_rfl
theorem enter147 : En Tryz.prog 147 := enO (fn := Tryz.f147)
noncomputable def T147_1 (F : Nat) : FuncId → Option Summ := tab [(190, (S190_1 F noS))]
def sh147_1_l6 : Sh := ⟨[.lf (.int .u64), .lf (.full 1), .lf (.int .i64)], [some ⟨none, [.seq (.int .u8) 0]⟩, some ⟨some false, [.seq (.int .u8) 0]⟩]⟩
abbrev Y147_1_l6 := Int → List Int → (List Int → Option Res) → Nat → Int → List Int → Option Res
noncomputable def A147_1_l6 (g : Y147_1_l6) (k : Nat) (d : sh147_1_l6.den) (K : KL) : Option Res := g d.1.1 d.2.1.2.1 (fun y1 => K (.exit 0) [.tv (.lf (.full 1))] [some ⟨d.2.1.1, [.seq (.int .u8) 0 d.2.1.2.1]⟩, some ⟨false, [.seq (.int .u8) 0 y1]⟩]) k d.1.2.2.1 d.2.2.1.2.1
noncomputable def G147_1_6 (F k : Nat) : LoopS := mkG sh147_1_l6 [2, 7, 8] (outT [(.exit 0, [7])]) (fun d K => A147_1_l6 (f147_1_l6 F) k d K) []
noncomputable def LT147_1 (F : Nat) : Nat → Option LoopS := ltab [(6, G147_1_6 F F)]
theorem L147_1_6 (F : Nat) : LoopOK Tryz.prog (T147_1 F) (xw []) 35 1 (LT147_1 F) (G147_1_6 F F) b147_0 :=
  loopOK_of (s := sh147_1_l6) (live := [2, 7, 8]) (out := (outT [(.exit 0, [7])])) (mv := []) (fun k d K => A147_1_l6 (f147_1_l6 F) k d K) F (fun d K => by kernel_rfl)  (fun k d K => by delta A147_1_l6; refine (f147_1_l6.eq_2 ..).trans ?_; delta T147_1 S190_1 LT147_1; generalize (G147_1_6 F F) = c;  (try delta G147_1_6); generalize (f190_1 F : Y190_1) = c, (f147_1_l6 F : Y147_1_l6) = c; as_aux_lemma => kernel_rfl)
theorem E147_1 (F : Nat) (d : sh147_1.den) (K : KF) : EB Tryz.prog (T147_1 F) (xw []) 35 1 (LT147_1 F) [] false Tryz.f147 sh147_1 d K = A147_1 (f147_1 F) d K := by delta A147_1 f147_1 T147_1 S190_1 LT147_1;  delta G147_1_6; generalize (f190_1 F : Y190_1) = c, (f147_1_l6 F : Y147_1_l6) = c; as_aux_lemma => kernel_rfl
theorem S147_1_ok : So Tryz.prog 147 S147_1 :=
  fun F o ho => sOf (fn := Tryz.f147) (c := code147) (tab_cons (S190_1_ok F _ (noS_sound enter190)) tab_nil) ho (by rw [loops147]; exact (loopsOK_cons (by kernel_rfl) (L147_1_6 F) loopsOK_nil)) snil rnil (E147_1 F)
end
section
noncomputable def f226_1_l2 {β : Type} (F : Nat)  (K0 : Int → Option β) : Nat → Int → Int → Option β
  | 0, _, _ => none
  | k + 1, v1, v2 => cond (decide (v2 < 8)) (cond ((iand .u32 v1 1) == 1) (f226_1_l2 F K0 k (ixor .u32 (ishr .u32 v1 1) 2197175160) (IntKind.i64.wrap (v2 + 1))) (f226_1_l2 F K0 k (ishr .u32 v1 1) (IntKind.i64.wrap (v2 + 1)))) (K0 v1)
noncomputable def f226_1 {β : Type} (F : Nat) (a1 : Int) (K0 : Int → Option β) : Option β := f226_1_l2 F  (fun x3 => K0 x3) F a1 0
variable [FZ]
def sh226_1 : Sh := ⟨[.lf (.int .u32)], []⟩
abbrev Y226_1 := Int → (Int → Option Res) → Option Res
noncomputable def A226_1 (g : Y226_1) (d : sh226_1.den) (K : KF) : Option Res := g d.1.1 (fun y0 => K [.lf (.int .u32 y0)] [])
noncomputable def S226_1 (F : Nat) (o : Summ) : Summ := mkS sh226_1 (fun d K => A226_1 (f226_1 F) d K) o
noncomputable def code226 : Code := bodyOf Tryz.f226
noncomputable def b226_0 : Code := cB (cB (cR (cL (cR (code226)))))
theorem loops226 : loopsOf code226 = [b226_0] := by kernel_rfl
theorem enter226 : En Tryz.prog 226 := enO (fn := Tryz.f226)
noncomputable def T226_1 (F : Nat) : FuncId → Option Summ := tab []
def sh226_1_l2 : Sh := ⟨[.lf (.int .u32), .lf (.int .i64)], []⟩
abbrev Y226_1_l2 := (Int → Option Res) → Nat → Int → Int → Option Res
noncomputable def A226_1_l2 (g : Y226_1_l2) (k : Nat) (d : sh226_1_l2.den) (K : KL) : Option Res := g (fun y0 => K (.exit 0) [.tv (.lf (.int .u32 y0))] []) k d.1.1 d.1.2.1
noncomputable def G226_1_2 (F k : Nat) : LoopS := mkG sh226_1_l2 [0, 4] (outT [(.exit 0, [0])]) (fun d K => A226_1_l2 (f226_1_l2 F) k d K) []
noncomputable def LT226_1 (F : Nat) : Nat → Option LoopS := ltab [(2, G226_1_2 F F)]
theorem L226_1_2 (F : Nat) : LoopOK Tryz.prog (T226_1 F) (xw []) 16 0 (LT226_1 F) (G226_1_2 F F) b226_0 :=
  loopOK_of (s := sh226_1_l2) (live := [0, 4]) (out := (outT [(.exit 0, [0])])) (mv := []) (fun k d K => A226_1_l2 (f226_1_l2 F) k d K) F (fun d K => by kernel_rfl)  (fun k d K => by delta A226_1_l2; refine (f226_1_l2.eq_2 ..).trans ?_; delta T226_1 LT226_1; generalize (G226_1_2 F F) = c;  (try delta G226_1_2); generalize (f226_1_l2 F : Y226_1_l2) = c; as_aux_lemma => kernel_rfl)
theorem E226_1 (F : Nat) (d : sh226_1.den) (K : KF) : EB Tryz.prog (T226_1 F) (xw []) 16 0 (LT226_1 F) [] false Tryz.f226 sh226_1 d K = A226_1 (f226_1 F) d K := by delta A226_1 f226_1 T226_1 LT226_1;  delta G226_1_2; generalize (f226_1_l2 F : Y226_1_l2) = c; as_aux_lemma => kernel_rfl
theorem S226_1_ok : So Tryz.prog 226 S226_1 :=
  fun F o ho => sOf (fn := Tryz.f226) (c := code226) tab_nil ho (by rw [loops226]; exact (loopsOK_cons (by kernel_rfl) (L226_1_2 F) loopsOK_nil)) snil rnil (E226_1 F)
end
section
noncomputable def f215_1_l3 {β : Type} (F : Nat) (v2 : List Int) (K0 : List Int → Option β) : Nat → Int → List Int → Option β
  | 0, _, _ => none
  | k + 1, v1, v3 => cond (decide (v1 < 256)) (f226_1 F (IntKind.u32.wrap v1) (fun x4 => cond (decide ((0 : Int) ≤ v1 ∧ v1 < 256)) (cond (decide (v1.toNat < v3.length)) (f215_1_l3 F v2 K0 k (IntKind.i64.wrap (v1 + 1)) (v3.set v1.toNat x4)) none) none) ) (K0 v3)
noncomputable def f215_1 {β : Type} (F : Nat)  (K0 : List Int → Option β) : Option β := f215_1_l3 F [0, 0, 0, 0, 0, 0, 0, 0, 0, 0, 0, 0, 0, 0, 0, 0, 0, 0, 0, 0, 0, 0, 0, 0, 0, 0, 0, 0, 0, 0, 0, 0, 0, 0, 0, 0, 0, 0, 0, 0, 0, 0, 0, 0, 0, 0, 0, 0, 0, 0, 0, 0, 0, 0, 0, 0, 0, 0, 0, 0, 0, 0, 0, 0, 0, 0, 0, 0, 0, 0, 0, 0, 0, 0, 0, 0, 0, 0, 0, 0, 0, 0, 0, 0, 0, 0, 0, 0, 0, 0, 0, 0, 0, 0, 0, 0, 0, 0, 0, 0, 0, 0, 0, 0, 0, 0, 0, 0, 0, 0, 0, 0, 0, 0, 0, 0, 0, 0, 0, 0, 0, 0, 0, 0, 0, 0, 0, 0, 0, 0, 0, 0, 0, 0, 0, 0, 0, 0, 0, 0, 0, 0, 0, 0, 0, 0, 0, 0, 0, 0, 0, 0, 0, 0, 0, 0, 0, 0, 0, 0, 0, 0, 0, 0, 0, 0, 0, 0, 0, 0, 0, 0, 0, 0, 0, 0, 0, 0, 0, 0, 0, 0, 0, 0, 0, 0, 0, 0, 0, 0, 0, 0, 0, 0, 0, 0, 0, 0, 0, 0, 0, 0, 0, 0, 0, 0, 0, 0, 0, 0, 0, 0, 0, 0, 0, 0, 0, 0, 0, 0, 0, 0, 0, 0, 0, 0, 0, 0, 0, 0, 0, 0, 0, 0, 0, 0, 0, 0, 0, 0, 0, 0, 0, 0, 0, 0, 0, 0, 0, 0, 0, 0, 0, 0, 0, 0] (fun x5 => K0 x5) F 0 [0, 0, 0, 0, 0, 0, 0, 0, 0, 0, 0, 0, 0, 0, 0, 0, 0, 0, 0, 0, 0, 0, 0, 0, 0, 0, 0, 0, 0, 0, 0, 0, 0, 0, 0, 0, 0, 0, 0, 0, 0, 0, 0, 0, 0, 0, 0, 0, 0, 0, 0, 0, 0, 0, 0, 0, 0, 0, 0, 0, 0, 0, 0, 0, 0, 0, 0, 0, 0, 0, 0, 0, 0, 0, 0, 0, 0, 0, 0, 0, 0, 0, 0, 0, 0, 0, 0, 0, 0, 0, 0, 0, 0, 0, 0, 0, 0, 0, 0, 0, 0, 0, 0, 0, 0, 0, 0, 0, 0, 0, 0, 0, 0, 0, 0, 0, 0, 0, 0, 0, 0, 0, 0, 0, 0, 0, 0, 0, 0, 0, 0, 0, 0, 0, 0, 0, 0, 0, 0, 0, 0, 0, 0, 0, 0, 0, 0, 0, 0, 0, 0, 0, 0, 0, 0, 0, 0, 0, 0, 0, 0, 0, 0, 0, 0, 0, 0, 0, 0, 0, 0, 0, 0, 0, 0, 0, 0, 0, 0, 0, 0, 0, 0, 0, 0, 0, 0, 0, 0, 0, 0, 0, 0, 0, 0, 0, 0, 0, 0, 0, 0, 0, 0, 0, 0, 0, 0, 0, 0, 0, 0, 0, 0, 0, 0, 0, 0, 0, 0, 0, 0, 0, 0, 0, 0, 0, 0, 0, 0, 0, 0, 0, 0, 0, 0, 0, 0, 0, 0, 0, 0, 0, 0, 0, 0, 0, 0, 0, 0, 0, 0, 0, 0, 0, 0, 0]
variable [FZ]
def sh215_1 : Sh := ⟨[], []⟩
abbrev Y215_1 := (List Int → Option Res) → Option Res
noncomputable def A215_1 (g : Y215_1) (d : sh215_1.den) (K : KF) : Option Res := g (fun y0 => K [.agg [.seq (.int .u32) 256 y0]] [])
noncomputable def S215_1 (F : Nat) (o : Summ) : Summ := mkS sh215_1 (fun d K => A215_1 (f215_1 F) d K) o
noncomputable def code215 : Code := bodyOf Tryz.f215
noncomputable def b215_0 : Code := cB (cB (cR (cL (cR (cR (code215))))))
theorem loops215 : loopsOf code215 = [b215_0] := by kernel_rfl
theorem enter215 : En Tryz.prog 215 := enO (fn := Tryz.f215)
noncomputable def T215_1 (F : Nat) : FuncId → Option Summ := tab [(226, (S226_1 F noS))]
def sh215_1_l3 : Sh := ⟨[.lf (.ptr 0 0), .lf (.ptr 1 0), .lf (.int .i64)], [some ⟨some false, [.seq (.int .u32) 256]⟩, some ⟨some false, [.seq (.int .u32) 256]⟩]⟩
abbrev Y215_1_l3 := List Int → (List Int → Option Res) → Nat → Int → List Int → Option Res
noncomputable def A215_1_l3 (g : Y215_1_l3) (k : Nat) (d : sh215_1_l3.den) (K : KL) : Option Res := g d.2.1.2.1 (fun y1 => K (.exit 0) [.tv (.lf (.ptr 0 0)), .tv (.lf (.ptr 1 0))] [some ⟨false, [.seq (.int .u32) 256 d.2.1.2.1]⟩, some ⟨false, [.seq (.int .u32) 256 y1]⟩]) k d.1.2.2.1 d.2.2.1.2.1
noncomputable def G215_1_3 (F k : Nat) : LoopS := mkG sh215_1_l3 [0, 1, 3] (outT [(.exit 0, [0, 1])]) (fun d K => A215_1_l3 (f215_1_l3 F) k d K) []
noncomputable def LT215_1 (F : Nat) : Nat → Option LoopS := ltab [(3, G215_1_3 F F)]
theorem L215_1_3 (F : Nat) : LoopOK Tryz.prog (T215_1 F) (xw []) 13 0 (LT215_1 F) (G215_1_3 F F) b215_0 :=
  loopOK_of (s := sh215_1_l3) (live := [0, 1, 3]) (out := (outT [(.exit 0, [0, 1])])) (mv := []) (fun k d K => A215_1_l3 (f215_1_l3 F) k d K) F (fun d K => by kernel_rfl)  (fun k d K => by delta A215_1_l3; refine (f215_1_l3.eq_2 ..).trans ?_; delta T215_1 S226_1 LT215_1; generalize (G215_1_3 F F) = c;  (try delta G215_1_3); generalize (f226_1 F : Y226_1) = c, (f215_1_l3 F : Y215_1_l3) = c; as_aux_lemma => kernel_rfl)
theorem E215_1 (F : Nat) (d : sh215_1.den) (K : KF) : EB Tryz.prog (T215_1 F) (xw []) 13 0 (LT215_1 F) [] false Tryz.f215 sh215_1 d K = A215_1 (f215_1 F) d K := by delta A215_1 f215_1 T215_1 S226_1 LT215_1;  delta G215_1_3; generalize (f226_1 F : Y226_1) = c, (f215_1_l3 F : Y215_1_l3) = c; as_aux_lemma => kernel_rfl
theorem S215_1_ok : So Tryz.prog 215 S215_1 :=
  fun F o ho => sOf (fn := Tryz.f215) (c := code215) (tab_cons (S226_1_ok F _ (noS_sound enter226)) tab_nil) ho (by rw [loops215]; exact (loopsOK_cons (by kernel_rfl) (L215_1_3 F) loopsOK_nil)) snil rnil (E215_1 F)
end
section
noncomputable def f191_1_l4 {β : Type} (F : Nat) (v3 : Int) (v5 v6 : List Int) (K0 : Int → Option β) : Nat → Int → Int → Option β
  | 0, _, _ => none
  | k + 1, v2, v4 => cond (decide (v4 < v3)) (cond (decide ((0 : Int) ≤ v4 ∧ v4 < ((v5.length : Nat) : Int))) (cond (decide (0 + v4.toNat < v5.length)) (cond (decide ((0 : Int) ≤ ixor .u8 (IntKind.u8.wrap v2) (v5.getD (0 + v4.toNat) 0) ∧ ixor .u8 (IntKind.u8.wrap v2) (v5.getD (0 + v4.toNat) 0) < 256)) (cond (decide ((ixor .u8 (IntKind.u8.wrap v2) (v5.getD (0 + v4.toNat) 0)).toNat < v6.length)) (f191_1_l4 F v3 v5 v6 K0 k (ixor .u32 (ishr .u32 v2 8) (v6.getD ((ixor .u8 (IntKind.u8.wrap v2) (v5.getD (0 + v4.toNat) 0)).toNat) 0)) (IntKind.i64.wrap (v4 + 1))) none) none) none) none) (K0 v2)
noncomputable def f191_1 {β : Type} (F : Nat) (a1 : Int) (a2 : List Int) (K0 : Int → Option β) : Option β := f215_1 F  (fun x1 => f191_1_l4 F ((a2.length : Nat) : Int) a2 x1 (fun x7 => K0 (ixor .u32 4294967295 x7)) F (ixor .u32 4294967295 a1) 0) 
variable [FZ]
def sh191_1 : Sh := ⟨[.lf (.int .u32), .lf (.full 0)], [some ⟨none, [.seq (.int .u8) 0]⟩]⟩
abbrev Y191_1 := Int → List Int → (Int → Option Res) → Option Res
noncomputable def A191_1 (g : Y191_1) (d : sh191_1.den) (K : KF) : Option Res := g d.1.1 d.2.1.2.1 (fun y0 => K [.lf (.int .u32 y0)] [some ⟨d.2.1.1, [.seq (.int .u8) 0 d.2.1.2.1]⟩])
noncomputable def S191_1 (F : Nat) (o : Summ) : Summ := mkS sh191_1 (fun d K => A191_1 (f191_1 F) d K) o
noncomputable def code191 : Code := bodyOf Tryz.f191
noncomputable def b191_0 : Code := cB (cB (cR (cL (cR (cR (cR (code191)))))))
theorem loops191 : loopsOf code191 = [b191_0] := by kernel_rfl
theorem enter191 : En Tryz.prog 191 := enO (fn := Tryz.f191)
noncomputable def T191_1 (F : Nat) : FuncId → Option Summ := tab [(215, (S215_1 F noS))]
def sh191_1_l4 : Sh := ⟨[.lf (.ptr 1 0), .lf (.int .u32), .lf (.full 0), .lf (.int .i64), .lf (.int .i64)], [some ⟨none, [.seq (.int .u8) 0]⟩, some ⟨some false, [.seq (.int .u32) 256]⟩]⟩
abbrev Y191_1_l4 := Int → List Int → List Int → (Int → Option Res) → Nat → Int → Int → Option Res
noncomputable def A191_1_l4 (g : Y191_1_l4) (k : Nat) (d : sh191_1_l4.den) (K : KL) : Option Res := g d.1.2.2.2.1 d.2.1.2.1 d.2.2.1.2.1 (fun y0 => K (.exit 0) [.tv (.lf (.int .u32 y0))] [some ⟨d.2.1.1, [.seq (.int .u8) 0 d.2.1.2.1]⟩, some ⟨false, [.seq (.int .u32) 256 d.2.2.1.2.1]⟩]) k d.1.2.1 d.1.2.2.2.2.1
noncomputable def G191_1_4 (F k : Nat) : LoopS := mkG sh191_1_l4 [5, 6, 12, 13, 14] (outT [(.exit 0, [6])]) (fun d K => A191_1_l4 (f191_1_l4 F) k d K) []
noncomputable def LT191_1 (F : Nat) : Nat → Option LoopS := ltab [(4, G191_1_4 F F)]
theorem L191_1_4 (F : Nat) : LoopOK Tryz.prog (T191_1 F) (xw []) 30 1 (LT191_1 F) (G191_1_4 F F) b191_0 :=
  loopOK_of (s := sh191_1_l4) (live := [5, 6, 12, 13, 14]) (out := (outT [(.exit 0, [6])])) (mv := []) (fun k d K => A191_1_l4 (f191_1_l4 F) k d K) F (fun d K => by kernel_rfl)  (fun k d K => by delta A191_1_l4; refine (f191_1_l4.eq_2 ..).trans ?_; delta T191_1 S215_1 LT191_1; generalize (G191_1_4 F F) = c;  (try delta G191_1_4); generalize (f215_1 F : Y215_1) = c, (f191_1_l4 F : Y191_1_l4) = c; as_aux_lemma => kernel_rfl)
theorem E191_1 (F : Nat) (d : sh191_1.den) (K : KF) : EB Tryz.prog (T191_1 F) (xw []) 30 1 (LT191_1 F) [] false Tryz.f191 sh191_1 d K = A191_1 (f191_1 F) d K := by delta A191_1 f191_1 T191_1 S215_1 LT191_1;  delta G191_1_4; generalize (f215_1 F : Y215_1) = c, (f191_1_l4 F : Y191_1_l4) = c; as_aux_lemma => kernel_rfl
theorem S191_1_ok : So Tryz.prog 191 S191_1 :=
  fun F o ho => sOf (fn := Tryz.f191) (c := code191) (tab_cons (S215_1_ok F _ (noS_sound enter215)) tab_nil) ho (by rw [loops191]; exact (loopsOK_cons (by kernel_rfl) (L191_1_4 F) loopsOK_nil)) snil rnil (E191_1 F)
end
section
noncomputable def f148_1 {β : Type} (F : Nat) (a1 : List Int) (K0 : Int → Option β) : Option β := f191_1 F 0 a1 (fun x1 => K0 x1) 
variable [FZ]
def sh148_1 : Sh := ⟨[.lf (.full 0)], [some ⟨none, [.seq (.int .u8) 0]⟩]⟩
abbrev Y148_1 := List Int → (Int → Option Res) → Option Res
noncomputable def A148_1 (g : Y148_1) (d : sh148_1.den) (K : KF) : Option Res := g d.2.1.2.1 (fun y0 => K [.lf (.int .u32 y0)] [some ⟨d.2.1.1, [.seq (.int .u8) 0 d.2.1.2.1]⟩])
noncomputable def S148_1 (F : Nat) (o : Summ) : Summ := mkS sh148_1 (fun d K => A148_1 (f148_1 F) d K) o
noncomputable def code148 : Code := bodyOf Tryz.f148
theorem enter148 : En Tryz.prog 148 := enO (fn := Tryz.f148)
noncomputable def T148_1 (F : Nat) : FuncId → Option Summ := tab [(191, (S191_1 F noS))]
noncomputable def LT148_1 (F : Nat) : Nat → Option LoopS := ltab []
theorem E148_1 (F : Nat) (d : sh148_1.den) (K : KF) : EB Tryz.prog (T148_1 F) (xw []) 5 1 (LT148_1 F) [] false Tryz.f148 sh148_1 d K = A148_1 (f148_1 F) d K := by delta A148_1 f148_1 T148_1 S191_1 LT148_1;  generalize (f191_1 F : Y191_1) = c; as_aux_lemma => kernel_rfl
theorem S148_1_ok : So Tryz.prog 148 S148_1 :=
  fun F o ho => sOf (fn := Tryz.f148) (c := code148) (tab_cons (S191_1_ok F _ (noS_sound enter191)) tab_nil) ho lnil snil rnil (E148_1 F)
end
section
noncomputable def f146_1 {β : Type} (F : Nat) (a1 : ByteArray) (K0 : ByteArray → Option β) : Option β := cond (decide ((0 : Int) ≤ (0 : Int) ∧ (0 : Int) ≤ (60 : Int) ∧ (60 : Int) ≤ (a1.size : Int))) (f148_1 F (toInts (a1.extract 0 60)) (fun x1 => f147_1 F 4 (IntKind.u64.wrap x1) [] (fun x2 => K0 (ofInts x2)) ) ) none
variable [FZ]
def sh146_1 : Sh := ⟨[.lf (.str)], []⟩
abbrev Y146_1 := ByteArray → (ByteArray → Option Res) → Option Res
noncomputable def A146_1 (g : Y146_1) (d : sh146_1.den) (K : KF) : Option Res := g d.1.1 (fun y0 => K [.lf (.str y0)] [])
noncomputable def S146_1 (F : Nat) (o : Summ) : Summ := mkS sh146_1 (fun d K => A146_1 (f146_1 F) d K) o
noncomputable def code146 : Code := bodyOf Tryz.f146
theorem enter146 : En Tryz.prog 146 := enO (fn := Tryz.f146)
noncomputable def T146_1 (F : Nat) : FuncId → Option Summ := tab [(147, (S147_1 F noS)), (148, (S148_1 F noS))]
noncomputable def LT146_1 (F : Nat) : Nat → Option LoopS := ltab []
theorem E146_1 (F : Nat) (d : sh146_1.den) (K : KF) : EB Tryz.prog (T146_1 F) (xw []) 10 0 (LT146_1 F) [] false Tryz.f146 sh146_1 d K = A146_1 (f146_1 F) d K := by delta A146_1 f146_1 T146_1 S147_1 S148_1 LT146_1;  generalize (f147_1 F : Y147_1) = c, (f148_1 F : Y148_1) = c; as_aux_lemma => kernel_rfl
theorem S146_1_ok : So Tryz.prog 146 S146_1 :=
  fun F o ho => sOf (fn := Tryz.f146) (c := code146) (tab_cons (S147_1_ok F _ (noS_sound enter147)) (tab_cons (S148_1_ok F _ (noS_sound enter148)) tab_nil)) ho lnil snil rnil (E146_1 F)
end
section
noncomputable def f94_1 {β : Type} (F : Nat) (a1 : Int) (a2 : ByteArray) (K0 : ByteArray → Int → Option β) : Option β := cond (decide (a1 < 1)) (K0 ByteArray.empty 22) (cond (decide (a1 > 8)) (K0 ByteArray.empty 22) (cond (decide ((a2.size : Int) > 58)) (K0 ByteArray.empty 8) (cond (decide ((ofInts [IntKind.u8.wrap a1, IntKind.u8.wrap (a2.size : Int)]).size + a2.size ≤ 4611686018427387904)) (f145_1 F (⟨#[0]⟩ : ByteArray) (IntKind.i64.wrap (60 - (((ofInts [IntKind.u8.wrap a1, IntKind.u8.wrap (a2.size : Int)]) ++ a2).size : Int))) (fun x1 => cond (decide (((ofInts [IntKind.u8.wrap a1, IntKind.u8.wrap (a2.size : Int)]) ++ a2).size + x1.size ≤ 4611686018427387904)) (f146_1 F (((ofInts [IntKind.u8.wrap a1, IntKind.u8.wrap (a2.size : Int)]) ++ a2) ++ x1) (fun x2 => cond (decide ((((ofInts [IntKind.u8.wrap a1, IntKind.u8.wrap (a2.size : Int)]) ++ a2) ++ x1).size + x2.size ≤ 4611686018427387904)) (K0 ((((ofInts [IntKind.u8.wrap a1, IntKind.u8.wrap (a2.size : Int)]) ++ a2) ++ x1) ++ x2) 0) none) ) none) ) none)))
variable [FZ]
def sh94_1 : Sh := ⟨[.lf (.int .i64), .lf (.str)], []⟩
abbrev Y94_1 := Int → ByteArray → (ByteArray → Int → Option Res) → Option Res
noncomputable def A94_1 (g : Y94_1) (d : sh94_1.den) (K : KF) : Option Res := g d.1.1 d.1.2.1 (fun y0 y1 => K [.lf (.str y0), .lf (.int .i64 y1)] [])
noncomputable def S94_1 (F : Nat) (o : Summ) : Summ := mkS sh94_1 (fun d K => A94_1 (f94_1 F) d K) o
noncomputable def code94 : Code := bodyOf Tryz.f94
theorem enter94 : En Tryz.prog 94 := enO (fn := Tryz.f94)
noncomputable def T94_1 (F : Nat) : FuncId → Option Summ := tab [(145, (S145_1 F noS)), (146, (S146_1 F noS))]
noncomputable def LT94_1 (F : Nat) : Nat → Option LoopS := ltab []
theorem E94_1 (F : Nat) (d : sh94_1.den) (K : KF) : EB Tryz.prog (T94_1 F) (xw []) 37 0 (LT94_1 F) [] false Tryz.f94 sh94_1 d K = A94_1 (f94_1 F) d K := by delta A94_1 f94_1 T94_1 S145_1 S146_1 LT94_1;  generalize (f145_1 F : ByteArray → Int → (ByteArray → Option Res) → Option Res) = c, (f146_1 F : Y146_1) = c; as_aux_lemma => kernel_rfl
theorem S94_1_ok : So Tryz.prog 94 S94_1 :=
  fun F o ho => sOf (fn := Tryz.f94) (c := code94) (tab_cons (S145_1_ok F _ (noS_sound enter145)) (tab_cons (S146_1_ok F _ (noS_sound enter146)) tab_nil)) ho lnil snil rnil (E94_1 F)
end
section
noncomputable def f95_1_l4 {β : Type} (F : Nat) (v4 : Int) (v7 : List Int) (K0 : List Int → Option β) : Nat → Int → List Int → Option β
  | 0, _, _ => none
  | k + 1, v5, v6 => cond (decide (v5 < v4)) (cond (decide ((0 : Int) ≤ v5 ∧ v5 < ((v7.length : Nat) : Int))) (cond (decide (0 + v5.toNat < v7.length)) (f147_1 F 4 (IntKind.u64.wrap (v7.getD (0 + v5.toNat) 0)) v6 (fun x8 => f95_1_l4 F v4 v7 K0 k (IntKind.i64.wrap (v5 + 1)) x8) ) none) none) (K0 v6)
noncomputable def f95_1 {β : Type} (F : Nat) (a1 a2 a3 a4 : Int) (a5 : ByteArray) (K0 : ByteArray → Option β) : Option β := f147_1 F 8 a2 [] (fun x1 => f147_1 F 8 a3 x1 (fun x2 => f148_1 F (toInts a5) (fun x3 => f95_1_l4 F 3 [IntKind.u32.wrap a1, IntKind.u32.wrap a4, x3] (fun x9 => K0 (ofInts x9)) F 0 x2) ) ) 
variable [FZ]
def sh95_1 : Sh := ⟨[.lf (.int .i64), .agg [.int .u64, .int .u64, .int .i64, .str]], []⟩
abbrev Y95_1 := Int → Int → Int → Int → ByteArray → (ByteArray → Option Res) → Option Res
noncomputable def A95_1 (g : Y95_1) (d : sh95_1.den) (K : KF) : Option Res := g d.1.1 d.1.2.1.1 d.1.2.1.2.1 d.1.2.1.2.2.1 d.1.2.1.2.2.2.1 (fun y0 => K [.lf (.str y0)] [])
noncomputable def S95_1 (F : Nat) (o : Summ) : Summ := mkS sh95_1 (fun d K => A95_1 (f95_1 F) d K) o
noncomputable def code95 : Code := bodyOf Tryz.f95
noncomputable def b95_0 : Code := cB (cB (cR (cL (cR (cR (cR (code95)))))))
theorem loops95 : loopsOf code95 = [b95_0] := by kernel_rfl
theorem enter95 : En Tryz.prog 95 := enO (fn := Tryz.f95)
noncomputable def T95_1 (F : Nat) : FuncId → Option Summ := tab [(147, (S147_1 F noS)), (148, (S148_1 F noS))]
def sh95_1_l4 : Sh := ⟨[.lf (.full 0), .lf (.full 1), .lf (.int .i64), .lf (.int .i64)], [some ⟨some false, [.seq (.int .u8) 0]⟩, some ⟨some false, [.seq (.int .u32) 0]⟩]⟩
abbrev Y95_1_l4 := Int → List Int → (List Int → Option Res) → Nat → Int → List Int → Option Res
noncomputable def A95_1_l4 (g : Y95_1_l4) (k : Nat) (d : sh95_1_l4.den) (K : KL) : Option Res := g d.1.2.2.1 d.2.2.1.2.1 (fun y0 => K (.exit 0) [.tv (.lf (.full 0))] [some ⟨false, [.seq (.int .u8) 0 y0]⟩, some ⟨false, [.seq (.int .u32) 0 d.2.2.1.2.1]⟩]) k d.1.2.2.2.1 d.2.1.2.1
noncomputable def G95_1_4 (F k : Nat) : LoopS := mkG sh95_1_l4 [5, 24, 25, 26] (outT [(.exit 0, [5])]) (fun d K => A95_1_l4 (f95_1_l4 F) k d K) []
noncomputable def LT95_1 (F : Nat) : Nat → Option LoopS := ltab [(4, G95_1_4 F F)]
theorem L95_1_4 (F : Nat) : LoopOK Tryz.prog (T95_1 F) (xw []) 37 0 (LT95_1 F) (G95_1_4 F F) b95_0 :=
  loopOK_of (s := sh95_1_l4) (live := [5, 24, 25, 26]) (out := (outT [(.exit 0, [5])])) (mv := []) (fun k d K => A95_1_l4 (f95_1_l4 F) k d K) F (fun d K => by kernel_rfl)  (fun k d K => by delta A95_1_l4; refine (f95_1_l4.eq_2 ..).trans ?_; delta T95_1 S147_1 S148_1 LT95_1; generalize (G95_1_4 F F) = c;  (try delta G95_1_4); generalize (f147_1 F : Y147_1) = c, (f148_1 F : Y148_1) = c, (f95_1_l4 F : Y95_1_l4) = c; as_aux_lemma => kernel_rfl)
theorem E95_1 (F : Nat) (d : sh95_1.den) (K : KF) : EB Tryz.prog (T95_1 F) (xw []) 37 0 (LT95_1 F) [] false Tryz.f95 sh95_1 d K = A95_1 (f95_1 F) d K := by delta A95_1 f95_1 T95_1 S147_1 S148_1 LT95_1;  delta G95_1_4; generalize (f147_1 F : Y147_1) = c, (f148_1 F : Y148_1) = c, (f95_1_l4 F : Y95_1_l4) = c; as_aux_lemma => kernel_rfl
theorem S95_1_ok : So Tryz.prog 95 S95_1 :=
  fun F o ho => sOf (fn := Tryz.f95) (c := code95) (tab_cons (S147_1_ok F _ (noS_sound enter147)) (tab_cons (S148_1_ok F _ (noS_sound enter148)) tab_nil)) ho (by rw [loops95]; exact (loopsOK_cons (by kernel_rfl) (L95_1_4 F) loopsOK_nil)) snil rnil (E95_1 F)
end
section
noncomputable def f31_1 {β : Type} (F : Nat) (a1 a2 a3 a4 a5 a6 a7 a8 a9 : Int) (a10 : Bool) (a11 : Int) (a12 : List ByteArray) (a13 : List (Int × ByteArray)) (K0 : Int → Int → Int → ByteArray → Int → Int → Bool → Int → List ByteArray → List (Int × ByteArray) → Option β) : Option β := f90_1 F a1 a2 a3 a4 (fun x1 => cond (!x1) (K0 0 0 0 ByteArray.empty 12 a9 a10 a11 a12 a13) (cond (decide (a5 < 0)) (K0 0 0 0 ByteArray.empty 11 a9 a10 a11 a12 a13) (cond (decide (a5 ≥ a4)) (K0 0 0 0 ByteArray.empty 11 a9 a10 a11 a12 a13) (f91_1 F a1 a2 a3 a4 a8 (fun x2 => cond (!x2) (K0 0 0 0 ByteArray.empty 3 a9 a10 a11 a12 a13) (f37_1 F a8 a9 a10 a11 a12 a13 (fun x3 x4 => cond (x4 != 0) (K0 0 0 0 ByteArray.empty x4 a9 a10 a11 a12 a13) (f92_1 F a1 a2 a3 a4 a5 (fun x5 x6 => f93_1 F x6 x3 a9 a10 a11 a12 a13 (fun x7 x8 x9 x10 x11 x12 => cond (x7 != 0) (K0 0 0 0 ByteArray.empty x7 x8 x9 x10 x11 x12) (f95_1 F a5 a6 a7 a8 x3 (fun x13 => f94_1 F 7 x13 (fun x14 x15 => cond (x15 != 0) (K0 0 0 0 ByteArray.empty x15 x8 x9 x10 x11 x12) (f93_1 F x5 x14 x8 x9 x10 x11 x12 (fun x16 x17 x18 x19 x20 x21 => cond (x16 != 0) (K0 0 0 0 ByteArray.empty x16 x17 x18 x19 x20 x21) (K0 a6 a7 a8 x3 0 x17 x18 x19 x20 x21)) )) ) )) ) )) )) )))) 
variable [FZ]
def sh31_1 : Sh := ⟨[.lf (.ptr 0 0), .agg [.int .i64, .int .i64, .int .i64, .int .i64], .lf (.int .i64), .lf (.int .u64), .lf (.int .u64), .lf (.int .i64)], [some ⟨some false, [.full 1, .full 2, .int .i64, .bool, .int .i64]⟩, some ⟨some false, [.seq .str 0]⟩, some ⟨some false, [.seq (.pair (.int .i64) .str) 0]⟩]⟩
abbrev Y31_1 := Int → Int → Int → Int → Int → Int → Int → Int → Int → Bool → Int → List ByteArray → List (Int × ByteArray) → (Int → Int → Int → ByteArray → Int → Int → Bool → Int → List ByteArray → List (Int × ByteArray) → Option Res) → Option Res
noncomputable def A31_1 (g : Y31_1) (d : sh31_1.den) (K : KF) : Option Res := g d.1.2.1.1 d.1.2.1.2.1 d.1.2.1.2.2.1 d.1.2.1.2.2.2.1 d.1.2.2.1 d.1.2.2.2.1 d.1.2.2.2.2.1 d.1.2.2.2.2.2.1 d.2.1.2.2.2.1 d.2.1.2.2.2.2.1 d.2.1.2.2.2.2.2.1 d.2.2.1.2.1 d.2.2.2.1.2.1 (fun y0 y1 y2 y3 y4 y5 y6 y7 y8 y9 => K [.agg [.int .u64 y0, .int .u64 y1, .int .i64 y2, .str y3], .lf (.int .i64 y4)] [some ⟨false, [.full 1, .full 3, .int .i64 y5, .bool y6, .int .i64 y7]⟩, some ⟨false, [.seq .str 0 y8]⟩, none, some ⟨false, [.seq (.pair (.int .i64) .str) 0 y9]⟩])
noncomputable def S31_1 (F : Nat) (o : Summ) : Summ := mkS sh31_1 (fun d K => A31_1 (f31_1 F) d K) o
noncomputable def code31 : Code := bodyOf Tryz.f31
theorem enter31 : En Tryz.prog 31 := enO (fn := Tryz.f31)
noncomputable def T31_1 (F : Nat) : FuncId → Option Summ := tab [(37, (S37_1 F noS)), (90, (S90_1 F noS)), (91, (S91_1 F noS)), (92, (S92_1 F noS)), (93, (S93_1 F noS)), (94, (S94_1 F noS)), (95, (S95_1 F noS))]
noncomputable def LT31_1 (F : Nat) : Nat → Option LoopS := ltab []
theorem E31_1 (F : Nat) (d : sh31_1.den) (K : KF) : EB Tryz.prog (T31_1 F) (xw []) 92 3 (LT31_1 F) [2] false Tryz.f31 sh31_1 d K = A31_1 (f31_1 F) d K := by delta A31_1 f31_1 T31_1 S37_1 S90_1 S91_1 S92_1 S93_1 S94_1 S95_1 LT31_1;  generalize (f37_1 F : Y37_1) = c, (f90_1 F : Y90_1) = c, (f91_1 F : Y91_1) = c, (f92_1 F : Y92_1) = c, (f93_1 F : Y93_1) = c, (f94_1 F : Y94_1) = c, (f95_1 F : Y95_1) = c; as_aux_lemma => kernel_rfl
theorem S31_1_ok : So Tryz.prog 31 S31_1 :=
  fun F o ho => sOf (fn := Tryz.f31) (c := code31) (tab_cons (S37_1_ok F _ (noS_sound enter37)) (tab_cons (S90_1_ok F _ (noS_sound enter90)) (tab_cons (S91_1_ok F _ (noS_sound enter91)) (tab_cons (S92_1_ok F _ (noS_sound enter92)) (tab_cons (S93_1_ok F _ (noS_sound enter93)) (tab_cons (S94_1_ok F _ (noS_sound enter94)) (tab_cons (S95_1_ok F _ (noS_sound enter95)) tab_nil))))))) ho lnil snil rnil (E31_1 F)
end
section
noncomputable def f37_6206 {β : Type} (F : Nat) (a1 : Int) (K0 : Option β) : Option β := K0
variable [FZ]
def sh37_6206 : Sh := ⟨[.lf (.nilp), .lf (.int .i64)], []⟩
abbrev Y37_6206 := Int → (Option Res) → Option Res
noncomputable def A37_6206 (g : Y37_6206) (d : sh37_6206.den) (K : KF) : Option Res := g d.1.2.1 (K [.lf (.str ByteArray.empty), .lf (.int .i64 1)] [])
noncomputable def S37_6206 (F : Nat) (o : Summ) : Summ := mkS sh37_6206 (fun d K => A37_6206 (f37_6206 F) d K) o
noncomputable def T37_6206 (F : Nat) : FuncId → Option Summ := tab []
noncomputable def LT37_6206 (F : Nat) : Nat → Option LoopS := ltab []
theorem E37_6206 (F : Nat) (d : sh37_6206.den) (K : KF) : EB Tryz.prog (T37_6206 F) (xw []) 34 0 (LT37_6206 F) [] false Tryz.f37 sh37_6206 d K = A37_6206 (f37_6206 F) d K := by delta A37_6206 f37_6206 T37_6206 LT37_6206;   as_aux_lemma => kernel_rfl
theorem S37_6206_ok : So Tryz.prog 37 S37_6206 :=
  fun F o ho => sOf (fn := Tryz.f37) (c := code37) tab_nil ho lnil snil (by rw [ranges37]; exact (rangesOK_skip (by kernel_rfl) rangesOK_nil)) (E37_6206 F)
end
section
noncomputable def f31_4108 {β : Type} (F : Nat) (a1 a2 a3 a4 a5 a6 a7 a8 : Int) (K0 : Int → Option β) : Option β := f90_1 F a1 a2 a3 a4 (fun x1 => cond (!x1) (K0 12) (cond (decide (a5 < 0)) (K0 11) (cond (decide (a5 ≥ a4)) (K0 11) (f91_1 F a1 a2 a3 a4 a8 (fun x2 => cond (!x2) (K0 3) (f37_6206 F a8 (K0 1) )) )))) 
variable [FZ]
def sh31_4108 : Sh := ⟨[.lf (.nilp), .agg [.int .i64, .int .i64, .int .i64, .int .i64], .lf (.int .i64), .lf (.int .u64), .lf (.int .u64), .lf (.int .i64)], []⟩
abbrev Y31_4108 := Int → Int → Int → Int → Int → Int → Int → Int → (Int → Option Res) → Option Res
noncomputable def A31_4108 (g : Y31_4108) (d : sh31_4108.den) (K : KF) : Option Res := g d.1.2.1.1 d.1.2.1.2.1 d.1.2.1.2.2.1 d.1.2.1.2.2.2.1 d.1.2.2.1 d.1.2.2.2.1 d.1.2.2.2.2.1 d.1.2.2.2.2.2.1 (fun y4 => K [.agg [.int .u64 0, .int .u64 0, .int .i64 0, .str ByteArray.empty], .lf (.int .i64 y4)] [])
noncomputable def S31_4108 (F : Nat) (o : Summ) : Summ := mkS sh31_4108 (fun d K => A31_4108 (f31_4108 F) d K) o
noncomputable def T31_4108 (F : Nat) : FuncId → Option Summ := tab [(37, (S37_6206 F noS)), (90, (S90_1 F noS)), (91, (S91_1 F noS))]
noncomputable def LT31_4108 (F : Nat) : Nat → Option LoopS := ltab []
theorem E31_4108 (F : Nat) (d : sh31_4108.den) (K : KF) : EB Tryz.prog (T31_4108 F) (xw []) 92 0 (LT31_4108 F) [] false Tryz.f31 sh31_4108 d K = A31_4108 (f31_4108 F) d K := by delta A31_4108 f31_4108 T31_4108 S37_6206 S90_1 S91_1 LT31_4108;  generalize (f37_6206 F : Y37_6206) = c, (f90_1 F : Y90_1) = c, (f91_1 F : Y91_1) = c; as_aux_lemma => kernel_rfl
theorem S31_4108_ok : So Tryz.prog 31 S31_4108 :=
  fun F o ho => sOf (fn := Tryz.f31) (c := code31) (tab_cons (S37_6206_ok F _ (noS_sound enter37)) (tab_cons (S90_1_ok F _ (noS_sound enter90)) (tab_cons (S91_1_ok F _ (noS_sound enter91)) tab_nil))) ho lnil snil rnil (E31_4108 F)
end
section
noncomputable def f81_1 {β : Type} (F : Nat) (a1 a2 a3 a4 a5 : Int) (a6 : Bool) (a7 : Int) (a8 : List ByteArray) (a9 : List (Int × ByteArray)) (K0 : Int → Int → Bool → Int → List ByteArray → List (Int × ByteArray) → Option β) : Option β := f90_1 F a1 a2 a3 a4 (fun x1 => cond (!x1) (K0 12 a5 a6 a7 a8 a9) (f92_1 F a1 a2 a3 a4 0 (fun x2 x3 => f69_1 F  (fun x4 => f93_1 F x2 x4 a5 a6 a7 a8 a9 (fun x5 x6 x7 x8 x9 x10 => K0 x5 x6 x7 x8 x9 x10) ) ) )) 
variable [FZ]
def sh81_1 : Sh := ⟨[.lf (.ptr 0 0), .agg [.int .i64, .int .i64, .int .i64, .int .i64]], [some ⟨some false, [.full 1, .full 2, .int .i64, .bool, .int .i64]⟩, some ⟨some false, [.seq .str 0]⟩, some ⟨some false, [.seq (.pair (.int .i64) .str) 0]⟩]⟩
abbrev Y81_1 := Int → Int → Int → Int → Int → Bool → Int → List ByteArray → List (Int × ByteArray) → (Int → Int → Bool → Int → List ByteArray → List (Int × ByteArray) → Option Res) → Option Res
noncomputable def A81_1 (g : Y81_1) (d : sh81_1.den) (K : KF) : Option Res := g d.1.2.1.1 d.1.2.1.2.1 d.1.2.1.2.2.1 d.1.2.1.2.2.2.1 d.2.1.2.2.2.1 d.2.1.2.2.2.2.1 d.2.1.2.2.2.2.2.1 d.2.2.1.2.1 d.2.2.2.1.2.1 (fun y0 y1 y2 y3 y4 y5 => K [.lf (.int .i64 y0)] [some ⟨false, [.full 1, .full 3, .int .i64 y1, .bool y2, .int .i64 y3]⟩, some ⟨false, [.seq .str 0 y4]⟩, none, some ⟨false, [.seq (.pair (.int .i64) .str) 0 y5]⟩])
noncomputable def S81_1 (F : Nat) (o : Summ) : Summ := mkS sh81_1 (fun d K => A81_1 (f81_1 F) d K) o
noncomputable def code81 : Code := bodyOf Tryz.f81
theorem enter81 : En Tryz.prog 81 := enO (fn := Tryz.f81)
noncomputable def T81_1 (F : Nat) : FuncId → Option Summ := tab [(69, (S69_1 F noS)), (90, (S90_1 F noS)), (92, (S92_1 F noS)), (93, (S93_1 F noS))]
noncomputable def LT81_1 (F : Nat) : Nat → Option LoopS := ltab []
theorem E81_1 (F : Nat) (d : sh81_1.den) (K : KF) : EB Tryz.prog (T81_1 F) (xw []) 19 3 (LT81_1 F) [2] false Tryz.f81 sh81_1 d K = A81_1 (f81_1 F) d K := by delta A81_1 f81_1 T81_1 S69_1 S90_1 S92_1 S93_1 LT81_1;  generalize (f69_1 F : Y69_1) = c, (f90_1 F : Y90_1) = c, (f92_1 F : Y92_1) = c, (f93_1 F : Y93_1) = c; as_aux_lemma => kernel_rfl
theorem S81_1_ok : So Tryz.prog 81 S81_1 :=
  fun F o ho => sOf (fn := Tryz.f81) (c := code81) (tab_cons (S69_1_ok F _ (noS_sound enter69)) (tab_cons (S90_1_ok F _ (noS_sound enter90)) (tab_cons (S92_1_ok F _ (noS_sound enter92)) (tab_cons (S93_1_ok F _ (noS_sound enter93)) tab_nil)))) ho lnil snil rnil (E81_1 F)
end
section
noncomputable def f97_1 {β : Type} (F : Nat) (a1 : List (Int × (Int × (Int × ByteArray)))) (K0 : Option β) : Option β := K0
variable [FZ]
def sh97_1 : Sh := ⟨[.lf (.full 0)], [some ⟨none, [.seq (.pair (.int .u64) (.pair (.int .u64) (.pair (.int .i64) .str))) 0]⟩]⟩
abbrev Y97_1 := List (Int × (Int × (Int × ByteArray))) → (Option Res) → Option Res
noncomputable def A97_1 (g : Y97_1) (d : sh97_1.den) (K : KF) : Option Res := g d.2.1.2.1 (K [.lf (.clo 151 [1])] [some ⟨d.2.1.1, [.seq (.pair (.int .u64) (.pair (.int .u64) (.pair (.int .i64) .str))) 0 d.2.1.2.1]⟩, some ⟨false, [.full 0]⟩])
noncomputable def S97_1 (F : Nat) (o : Summ) : Summ := mkS sh97_1 (fun d K => A97_1 (f97_1 F) d K) o
noncomputable def code97 : Code := bodyOf Tryz.f97
theorem enter97 : En Tryz.prog 97 := enO (fn := Tryz.f97)
noncomputable def T97_1 (F : Nat) : FuncId → Option Summ := tab []
noncomputable def LT97_1 (F : Nat) : Nat → Option LoopS := ltab []
theorem E97_1 (F : Nat) (d : sh97_1.den) (K : KF) : EB Tryz.prog (T97_1 F) (xw []) 4 1 (LT97_1 F) [] false Tryz.f97 sh97_1 d K = A97_1 (f97_1 F) d K := by delta A97_1 f97_1 T97_1 LT97_1;   as_aux_lemma => kernel_rfl
theorem S97_1_ok : So Tryz.prog 97 S97_1 :=
  fun F o ho => sOf (fn := Tryz.f97) (c := code97) tab_nil ho lnil snil rnil (E97_1 F)
end
section
noncomputable def f35_1_r2000004_l1 {β : Type} (F : Nat) (v17 : List ByteArray) (v18 : List (Int × (Int × (Int × ByteArray)))) (v19 v20 v21 v22 v23 : Int) (K0 : Int → Bool → Int → Int → Int → Int → Int → ByteArray → List (Int × ByteArray) → Option β) (K1 : Int → Bool → Int → List (Int × ByteArray) → Option β) : Nat → Int → Int → Bool → Int → List (Int × ByteArray) → Option β
  | 0, _, _, _, _, _ => none
  | k + 1, v13, v14, v15, v16, v24 => cond (decide (v13 ≥ 0)) (cond (decide ((0 : Int) ≤ v13 ∧ v13 < ((v18.length : Nat) : Int))) (cond (decide (0 + v13.toNat < v18.length)) (f24_1 F ((((v18.getD (0 + v13.toNat) (0, (0, (0, ByteArray.empty)))).2).2).1) ((((v18.getD (0 + v13.toNat) (0, (0, (0, ByteArray.empty)))).2).2).2) v14 v15 v16 v17 v24 (fun x25 x26 x27 x28 x29 => cond (x25 != 0) (K0 x26 x27 x28 x25 ((v18.getD (0 + v13.toNat) (0, (0, (0, ByteArray.empty)))).1) (((v18.getD (0 + v13.toNat) (0, (0, (0, ByteArray.empty)))).2).1) ((((v18.getD (0 + v13.toNat) (0, (0, (0, ByteArray.empty)))).2).2).1) ((((v18.getD (0 + v13.toNat) (0, (0, (0, ByteArray.empty)))).2).2).2) x29) (f35_1_r2000004_l1 F v17 v18 v19 v20 v21 v22 v23 K0 K1 k (IntKind.i64.wrap (v13 - 1)) x26 x27 x28 x29)) ) none) none) (K1 v14 v15 v16 v24)
noncomputable def f35_1_r2000004 {β : Type} (F : Nat) (v2 : Int) (v3 : Bool) (v4 : Int) (v5 : List ByteArray) (v6 : List (Int × ByteArray)) (v7 : List (Int × (Int × (Int × ByteArray)))) (v8 v9 v10 v11 v12 : Int) (K0 : Int → Bool → Int → Int → Int → Int → Int → ByteArray → List (Int × ByteArray) → Option β) (K1 : Int → Bool → Int → List (Int × ByteArray) → Option β) : Option β := f35_1_r2000004_l1 F v5 v7 v8 v9 v10 v11 v12 (fun x30 x31 x32 x33 x34 x35 x36 x37 x38 => K0 x30 x31 x32 x33 x34 x35 x36 x37 x38) (fun x39 x40 x41 x42 => K1 x39 x40 x41 x42) F (IntKind.i64.wrap (((v7.length : Nat) : Int) - 1)) v2 v3 v4 v6
noncomputable def f35_1 {β : Type} (F : Nat) (a1 a2 a3 a4 a5 : Int) (a6 : Bool) (a7 : Int) (a8 : List ByteArray) (a9 : List (Int × ByteArray)) (a10 : List (Int × (Int × (Int × ByteArray)))) (K0 : Int → Int → Bool → Int → List ByteArray → List (Int × ByteArray) → Option β) : Option β := f90_1 F a1 a2 a3 a4 (fun x1 => cond (!x1) (K0 12 a5 a6 a7 a8 a9) (f97_1 F a10 (f35_1_r2000004 F a5 a6 a7 a8 a9 a10 a1 a2 a3 a4 0 (fun x43 x44 x45 x46 x47 x48 x49 x50 x51 => K0 x46 x43 x44 x45 a8 x51) (fun x52 x53 x54 x55 => f27_1 F x52 x53 x54 a8 x55 (fun x56 x57 x58 x59 x60 x61 => cond (x56 != 0) (K0 x56 x57 x58 x59 x60 x61) (f81_1 F a1 a2 a3 a4 x57 x58 x59 x60 x61 (fun x62 x63 x64 x65 x66 x67 => K0 x62 x63 x64 x65 x66 x67) )) ) ) )) 
variable [FZ]
def sh35_1 : Sh := ⟨[.lf (.ptr 0 0), .agg [.int .i64, .int .i64, .int .i64, .int .i64], .lf (.full 3)], [some ⟨some false, [.full 1, .full 2, .int .i64, .bool, .int .i64]⟩, some ⟨some false, [.seq .str 0]⟩, some ⟨some false, [.seq (.pair (.int .i64) .str) 0]⟩, some ⟨none, [.seq (.pair (.int .u64) (.pair (.int .u64) (.pair (.int .i64) .str))) 0]⟩]⟩
abbrev Y35_1 := Int → Int → Int → Int → Int → Bool → Int → List ByteArray → List (Int × ByteArray) → List (Int × (Int × (Int × ByteArray))) → (Int → Int → Bool → Int → List ByteArray → List (Int × ByteArray) → Option Res) → Option Res
noncomputable def A35_1 (g : Y35_1) (d : sh35_1.den) (K : KF) : Option Res := g d.1.2.1.1 d.1.2.1.2.1 d.1.2.1.2.2.1 d.1.2.1.2.2.2.1 d.2.1.2.2.2.1 d.2.1.2.2.2.2.1 d.2.1.2.2.2.2.2.1 d.2.2.1.2.1 d.2.2.2.1.2.1 d.2.2.2.2.1.2.1 (fun y0 y1 y2 y3 y4 y6 => K [.lf (.int .i64 y0)] [some ⟨false, [.full 1, .full 4, .int .i64 y1, .bool y2, .int .i64 y3]⟩, some ⟨false, [.seq .str 0 y4]⟩, none, some ⟨d.2.2.2.2.1.1, [.seq (.pair (.int .u64) (.pair (.int .u64) (.pair (.int .i64) .str))) 0 d.2.2.2.2.1.2.1]⟩, some ⟨false, [.seq (.pair (.int .i64) .str) 0 y6]⟩])
noncomputable def S35_1 (F : Nat) (o : Summ) : Summ := mkS sh35_1 (fun d K => A35_1 (f35_1 F) d K) o
noncomputable def code35 : Code := bodyOf Tryz.f35
noncomputable def rg35_0 : Code := cB (cR (cL (cR (cR (code35)))))
theorem ranges35 : rangesOf code35 = [.rangeFunc (rgG rg35_0) (rgP rg35_0) (rgX rg35_0) (rgY rg35_0)] := by kernel_rfl
theorem enter35 : En Tryz.prog 35 := enO (fn := Tryz.f35)
noncomputable def T35_1 (F : Nat) : FuncId → Option Summ := tab [(24, (S24_1 F noS)), (27, (S27_1 F noS)), (81, (S81_1 F noS)), (90, (S90_1 F noS)), (97, (S97_1 F noS))]
def sh35_1_l2000004 : Sh := ⟨[.lf (.ptr 4 0), .lf (.ptr 5 0), .lf (.ptr 6 0), .lf (.clo 151 [7])], [some ⟨some false, [.full 1, .full 2, .int .i64, .bool, .int .i64]⟩, some ⟨some false, [.seq .str 0]⟩, some ⟨some false, [.seq (.pair (.int .i64) .str) 0]⟩, some ⟨none, [.seq (.pair (.int .u64) (.pair (.int .u64) (.pair (.int .i64) .str))) 0]⟩, some ⟨some false, [.ptr 0 0]⟩, some ⟨some false, [.int .i64, .int .i64, .int .i64, .int .i64]⟩, some ⟨some false, [.int .i64]⟩, some ⟨some false, [.full 3]⟩]⟩
noncomputable def G35_1_2000004 (F k : Nat) : LoopS := mkG sh35_1_l2000004 [3, 4, 6, 15] (outT [(.normal, [3, 4, 6]), (.ret, [6])]) (fun d K => f35_1_r2000004 F d.2.1.2.2.2.1 d.2.1.2.2.2.2.1 d.2.1.2.2.2.2.2.1 d.2.2.1.2.1 d.2.2.2.1.2.1 d.2.2.2.2.1.2.1 d.2.2.2.2.2.2.1.2.1 d.2.2.2.2.2.2.1.2.2.1 d.2.2.2.2.2.2.1.2.2.2.1 d.2.2.2.2.2.2.1.2.2.2.2.1 d.2.2.2.2.2.2.2.1.2.1 (fun y0 y1 y2 y9 y10 y11 y12 y13 y14 => K .ret [.tv (.lf (.ptr 6 0))] [some ⟨false, [.full 1, .full 14, .int .i64 y0, .bool y1, .int .i64 y2]⟩, some ⟨false, [.seq .str 0 d.2.2.1.2.1]⟩, none, some ⟨d.2.2.2.2.1.1, [.seq (.pair (.int .u64) (.pair (.int .u64) (.pair (.int .i64) .str))) 0 d.2.2.2.2.1.2.1]⟩, some ⟨false, [.ptr 0 0]⟩, some ⟨false, [.int .i64 d.2.2.2.2.2.2.1.2.1, .int .i64 d.2.2.2.2.2.2.1.2.2.1, .int .i64 d.2.2.2.2.2.2.1.2.2.2.1, .int .i64 d.2.2.2.2.2.2.1.2.2.2.2.1]⟩, some ⟨false, [.int .i64 y9]⟩, some ⟨false, [.full 3]⟩, none, none, none, none, none, some ⟨false, [.int .u64 y10, .int .u64 y11, .int .i64 y12, .str y13]⟩, some ⟨false, [.seq (.pair (.int .i64) .str) 0 y14]⟩]) (fun y0 y1 y2 y10 => K .normal [.tv (.lf (.ptr 4 0)), .tv (.lf (.ptr 5 0)), .tv (.lf (.ptr 6 0))] [some ⟨false, [.full 1, .full 12, .int .i64 y0, .bool y1, .int .i64 y2]⟩, some ⟨false, [.seq .str 0 d.2.2.1.2.1]⟩, none, some ⟨d.2.2.2.2.1.1, [.seq (.pair (.int .u64) (.pair (.int .u64) (.pair (.int .i64) .str))) 0 d.2.2.2.2.1.2.1]⟩, some ⟨false, [.ptr 0 0]⟩, some ⟨false, [.int .i64 d.2.2.2.2.2.2.1.2.1, .int .i64 d.2.2.2.2.2.2.1.2.2.1, .int .i64 d.2.2.2.2.2.2.1.2.2.2.1, .int .i64 d.2.2.2.2.2.2.1.2.2.2.2.1]⟩, some ⟨false, [.int .i64 d.2.2.2.2.2.2.2.1.2.1]⟩, some ⟨false, [.full 3]⟩, none, none, none, none, some ⟨false, [.seq (.pair (.int .i64) .str) 0 y10]⟩])) []
noncomputable def LT35_1 (F : Nat) : Nat → Option LoopS := ltab [(2000004, G35_1_2000004 F F)]
noncomputable def ic35_1_2000004 : Code := bodyOf Tryz.f151
noncomputable def ic35_1_2000004_b0 : Code := cB (cB (cR (ic35_1_2000004)))
theorem ic35_1_2000004_loops : loopsOf ic35_1_2000004 = [ic35_1_2000004_b0] := by kernel_rfl
theorem ic35_1_2000004_scopes : scopesOf ic35_1_2000004 = [] := by kernel_rfl
def sh35_1_r2000004_l1 : Sh := ⟨[.lf (.yld 8), .lf (.ptr 7 0), .lf (.int .i64)], [some ⟨some false, [.full 1, .full 12, .int .i64, .bool, .int .i64]⟩, some ⟨some false, [.seq .str 0]⟩, none, some ⟨none, [.seq (.pair (.int .u64) (.pair (.int .u64) (.pair (.int .i64) .str))) 0]⟩, some ⟨some false, [.ptr 0 0]⟩, some ⟨some false, [.int .i64, .int .i64, .int .i64, .int .i64]⟩, some ⟨some false, [.int .i64]⟩, some ⟨some false, [.full 3]⟩, some ⟨some false, []⟩, none, none, some ⟨some false, []⟩, some ⟨some false, [.seq (.pair (.int .i64) .str) 0]⟩]⟩
noncomputable def GI35_1_2000004_1 (F : Nat) (d : sh35_1_l2000004.den) (k : Nat) : LoopS := mkG sh35_1_r2000004_l1 [0, 1, 3] (outT [(.exit 0, []), (.ret, [])]) (fun e K => f35_1_r2000004_l1 F e.2.2.1.2.1 e.2.2.2.2.1.2.1 e.2.2.2.2.2.2.1.2.1 e.2.2.2.2.2.2.1.2.2.1 e.2.2.2.2.2.2.1.2.2.2.1 e.2.2.2.2.2.2.1.2.2.2.2.1 e.2.2.2.2.2.2.2.1.2.1 (fun y0 y1 y2 y9 y10 y11 y12 y13 y14 => K .ret [] [some ⟨false, [.full 1, .full 14, .int .i64 y0, .bool y1, .int .i64 y2]⟩, some ⟨false, [.seq .str 0 e.2.2.1.2.1]⟩, none, some ⟨e.2.2.2.2.1.1, [.seq (.pair (.int .u64) (.pair (.int .u64) (.pair (.int .i64) .str))) 0 e.2.2.2.2.1.2.1]⟩, some ⟨false, [.ptr 0 0]⟩, some ⟨false, [.int .i64 e.2.2.2.2.2.2.1.2.1, .int .i64 e.2.2.2.2.2.2.1.2.2.1, .int .i64 e.2.2.2.2.2.2.1.2.2.2.1, .int .i64 e.2.2.2.2.2.2.1.2.2.2.2.1]⟩, some ⟨false, [.int .i64 y9]⟩, some ⟨false, [.full 3]⟩, none, none, some ⟨false, []⟩, some ⟨false, []⟩, none, some ⟨false, [.int .u64 y10, .int .u64 y11, .int .i64 y12, .str y13]⟩, some ⟨false, [.seq (.pair (.int .i64) .str) 0 y14]⟩]) (fun y0 y1 y2 y10 => K (.exit 0) [] [some ⟨false, [.full 1, .full 12, .int .i64 y0, .bool y1, .int .i64 y2]⟩, some ⟨false, [.seq .str 0 e.2.2.1.2.1]⟩, none, some ⟨e.2.2.2.2.1.1, [.seq (.pair (.int .u64) (.pair (.int .u64) (.pair (.int .i64) .str))) 0 e.2.2.2.2.1.2.1]⟩, some ⟨false, [.ptr 0 0]⟩, some ⟨false, [.int .i64 e.2.2.2.2.2.2.1.2.1, .int .i64 e.2.2.2.2.2.2.1.2.2.1, .int .i64 e.2.2.2.2.2.2.1.2.2.2.1, .int .i64 e.2.2.2.2.2.2.1.2.2.2.2.1]⟩, some ⟨false, [.int .i64 e.2.2.2.2.2.2.2.1.2.1]⟩, some ⟨false, [.full 3]⟩, some ⟨false, []⟩, none, none, some ⟨false, []⟩, some ⟨false, [.seq (.pair (.int .i64) .str) 0 y10]⟩]) k e.1.2.2.1 e.2.1.2.2.2.1 e.2.1.2.2.2.2.1 e.2.1.2.2.2.2.2.1 e.2.2.2.2.2.2.2.2.2.2.2.2.2.1.2.1) [2]
noncomputable def it35_1_2000004 (F : Nat) (d : sh35_1_l2000004.den) : Nat → Option LoopS := ltab [(1, GI35_1_2000004_1 F d F)]
theorem LI35_1_2000004_1 (F : Nat) (d : sh35_1_l2000004.den) : LoopOK Tryz.prog (T35_1 F) ⟨[], false, some (yieldOf Tryz.prog (T35_1 F) [] 35 noLT (mkEnv 35 [3, 4, 6, 15] (avsOf (encT sh35_1_l2000004.vs d.1))) (rgP rg35_0).toList (rgX rg35_0) (rgY rg35_0) .ret 8), noJn⟩ 19 12 (it35_1_2000004 F d) (GI35_1_2000004_1 F d F) ic35_1_2000004_b0 :=
  loopOK_of (s := sh35_1_r2000004_l1) (live := [0, 1, 3]) (out := (outT [(.exit 0, []), (.ret, [])])) (mv := [2]) (fun k e K => f35_1_r2000004_l1 F e.2.2.1.2.1 e.2.2.2.2.1.2.1 e.2.2.2.2.2.2.1.2.1 e.2.2.2.2.2.2.1.2.2.1 e.2.2.2.2.2.2.1.2.2.2.1 e.2.2.2.2.2.2.1.2.2.2.2.1 e.2.2.2.2.2.2.2.1.2.1 (fun y0 y1 y2 y9 y10 y11 y12 y13 y14 => K .ret [] [some ⟨false, [.full 1, .full 14, .int .i64 y0, .bool y1, .int .i64 y2]⟩, some ⟨false, [.seq .str 0 e.2.2.1.2.1]⟩, none, some ⟨e.2.2.2.2.1.1, [.seq (.pair (.int .u64) (.pair (.int .u64) (.pair (.int .i64) .str))) 0 e.2.2.2.2.1.2.1]⟩, some ⟨false, [.ptr 0 0]⟩, some ⟨false, [.int .i64 e.2.2.2.2.2.2.1.2.1, .int .i64 e.2.2.2.2.2.2.1.2.2.1, .int .i64 e.2.2.2.2.2.2.1.2.2.2.1, .int .i64 e.2.2.2.2.2.2.1.2.2.2.2.1]⟩, some ⟨false, [.int .i64 y9]⟩, some ⟨false, [.full 3]⟩, none, none, some ⟨false, []⟩, some ⟨false, []⟩, none, some ⟨false, [.int .u64 y10, .int .u64 y11, .int .i64 y12, .str y13]⟩, some ⟨false, [.seq (.pair (.int .i64) .str) 0 y14]⟩]) (fun y0 y1 y2 y10 => K (.exit 0) [] [some ⟨false, [.full 1, .full 12, .int .i64 y0, .bool y1, .int .i64 y2]⟩, some ⟨false, [.seq .str 0 e.2.2.1.2.1]⟩, none, some ⟨e.2.2.2.2.1.1, [.seq (.pair (.int .u64) (.pair (.int .u64) (.pair (.int .i64) .str))) 0 e.2.2.2.2.1.2.1]⟩, some ⟨false, [.ptr 0 0]⟩, some ⟨false, [.int .i64 e.2.2.2.2.2.2.1.2.1, .int .i64 e.2.2.2.2.2.2.1.2.2.1, .int .i64 e.2.2.2.2.2.2.1.2.2.2.1, .int .i64 e.2.2.2.2.2.2.1.2.2.2.2.1]⟩, some ⟨false, [.int .i64 e.2.2.2.2.2.2.2.1.2.1]⟩, some ⟨false, [.full 3]⟩, some ⟨false, []⟩, none, none, some ⟨false, []⟩, some ⟨false, [.seq (.pair (.int .i64) .str) 0 y10]⟩]) k e.1.2.2.1 e.2.1.2.2.2.1 e.2.1.2.2.2.2.1 e.2.1.2.2.2.2.2.1 e.2.2.2.2.2.2.2.2.2.2.2.2.2.1.2.1) F (fun e K => by kernel_rfl) (fun k e K => by refine (f35_1_r2000004_l1.eq_2 ..).trans ?_; delta T35_1 S24_1 S27_1 S81_1 S90_1 S97_1 it35_1_2000004; generalize (GI35_1_2000004_1 F d F) = c;  (try delta GI35_1_2000004_1); generalize (f24_1 F : Y24_1) = c, (f27_1 F : Y27_1) = c, (f81_1 F : Y81_1) = c, (f90_1 F : Y90_1) = c, (f97_1 F : Y97_1) = c, (f35_1_r2000004_l1 F : List ByteArray → List (Int × (Int × (Int × ByteArray))) → Int → Int → Int → Int → Int → (Int → Bool → Int → Int → Int → Int → Int → ByteArray → List (Int × ByteArray) → Option Res) → (Int → Bool → Int → List (Int × ByteArray) → Option Res) → Nat → Int → Int → Bool → Int → List (Int × ByteArray) → Option Res) = c; as_aux_lemma => kernel_rfl)
theorem R35_1_2000004 (F : Nat) : RangeOK Tryz.prog (xw []) 35 4 (G35_1_2000004 F F) (.rangeFunc (rgG rg35_0) (rgP rg35_0) (rgX rg35_0) (rgY rg35_0)) :=
  rangeOK_of (X := (xw [])) (jump := .ret) (fun h => by cases h) rfl rfl (by kernel_rfl) (tab_cons (S24_1_ok F _ (noS_sound enter24)) (tab_cons (S27_1_ok F _ (noS_sound enter27)) (tab_cons (S81_1_ok F _ (noS_sound enter81)) (tab_cons (S90_1_ok F _ (noS_sound enter90)) (tab_cons (S97_1_ok F _ (noS_sound enter97)) tab_nil))))) (s := sh35_1_l2000004) (live := [3, 4, 6, 15]) (out := (outT [(.normal, [3, 4, 6]), (.ret, [6])])) (fun d K => f35_1_r2000004 F d.2.1.2.2.2.1 d.2.1.2.2.2.2.1 d.2.1.2.2.2.2.2.1 d.2.2.1.2.1 d.2.2.2.1.2.1 d.2.2.2.2.1.2.1 d.2.2.2.2.2.2.1.2.1 d.2.2.2.2.2.2.1.2.2.1 d.2.2.2.2.2.2.1.2.2.2.1 d.2.2.2.2.2.2.1.2.2.2.2.1 d.2.2.2.2.2.2.2.1.2.1 (fun y0 y1 y2 y9 y10 y11 y12 y13 y14 => K .ret [.tv (.lf (.ptr 6 0))] [some ⟨false, [.full 1, .full 14, .int .i64 y0, .bool y1, .int .i64 y2]⟩, some ⟨false, [.seq .str 0 d.2.2.1.2.1]⟩, none, some ⟨d.2.2.2.2.1.1, [.seq (.pair (.int .u64) (.pair (.int .u64) (.pair (.int .i64) .str))) 0 d.2.2.2.2.1.2.1]⟩, some ⟨false, [.ptr 0 0]⟩, some ⟨false, [.int .i64 d.2.2.2.2.2.2.1.2.1, .int .i64 d.2.2.2.2.2.2.1.2.2.1, .int .i64 d.2.2.2.2.2.2.1.2.2.2.1, .int .i64 d.2.2.2.2.2.2.1.2.2.2.2.1]⟩, some ⟨false, [.int .i64 y9]⟩, some ⟨false, [.full 3]⟩, none, none, none, none, none, some ⟨false, [.int .u64 y10, .int .u64 y11, .int .i64 y12, .str y13]⟩, some ⟨false, [.seq (.pair (.int .i64) .str) 0 y14]⟩]) (fun y0 y1 y2 y10 => K .normal [.tv (.lf (.ptr 4 0)), .tv (.lf (.ptr 5 0)), .tv (.lf (.ptr 6 0))] [some ⟨false, [.full 1, .full 12, .int .i64 y0, .bool y1, .int .i64 y2]⟩, some ⟨false, [.seq .str 0 d.2.2.1.2.1]⟩, none, some ⟨d.2.2.2.2.1.1, [.seq (.pair (.int .u64) (.pair (.int .u64) (.pair (.int .i64) .str))) 0 d.2.2.2.2.1.2.1]⟩, some ⟨false, [.ptr 0 0]⟩, some ⟨false, [.int .i64 d.2.2.2.2.2.2.1.2.1, .int .i64 d.2.2.2.2.2.2.1.2.2.1, .int .i64 d.2.2.2.2.2.2.1.2.2.2.1, .int .i64 d.2.2.2.2.2.2.1.2.2.2.2.1]⟩, some ⟨false, [.int .i64 d.2.2.2.2.2.2.2.1.2.1]⟩, some ⟨false, [.full 3]⟩, none, none, none, none, some ⟨false, [.seq (.pair (.int .i64) .str) 0 y10]⟩])) (it35_1_2000004 F) (f := 151) (fn := Tryz.f151) (c := ic35_1_2000004) (wrI := []) (enter_of (fn := Tryz.f151) (by kernel_rfl) (by kernel_rfl) (by kernel_rfl)) (by kernel_rfl) (by kernel_rfl) (by kernel_rfl) (fun d K => by delta f35_1_r2000004 T35_1 S24_1 S27_1 S81_1 S90_1 S97_1 it35_1_2000004;  delta GI35_1_2000004_1; generalize (f24_1 F : Y24_1) = c, (f27_1 F : Y27_1) = c, (f81_1 F : Y81_1) = c, (f90_1 F : Y90_1) = c, (f97_1 F : Y97_1) = c, (f35_1_r2000004_l1 F : List ByteArray → List (Int × (Int × (Int × ByteArray))) → Int → Int → Int → Int → Int → (Int → Bool → Int → Int → Int → Int → Int → ByteArray → List (Int × ByteArray) → Option Res) → (Int → Bool → Int → List (Int × ByteArray) → Option Res) → Nat → Int → Int → Bool → Int → List (Int × ByteArray) → Option Res) = c; as_aux_lemma => kernel_rfl) (fun d => by rw [ic35_1_2000004_loops]; exact (loopsOK_cons (by kernel_rfl) (LI35_1_2000004_1 F d) loopsOK_nil)) (fun d => by rw [ic35_1_2000004_scopes]; exact scopesOK_nil) (by kernel_rfl)
theorem E35_1 (F : Nat) (d : sh35_1.den) (K : KF) : EB Tryz.prog (T35_1 F) (xw []) 35 4 (LT35_1 F) [2] false Tryz.f35 sh35_1 d K = A35_1 (f35_1 F) d K := by delta A35_1 f35_1 T35_1 S24_1 S27_1 S81_1 S90_1 S97_1 LT35_1;  delta G35_1_2000004; generalize (f24_1 F : Y24_1) = c, (f27_1 F : Y27_1) = c, (f81_1 F : Y81_1) = c, (f90_1 F : Y90_1) = c, (f97_1 F : Y97_1) = c, (f35_1_r2000004 F : Int → Bool → Int → List ByteArray → List (Int × ByteArray) → List (Int × (Int × (Int × ByteArray))) → Int → Int → Int → Int → Int → (Int → Bool → Int → Int → Int → Int → Int → ByteArray → List (Int × ByteArray) → Option Res) → (Int → Bool → Int → List (Int × ByteArray) → Option Res) → Option Res) = c; as_aux_lemma => kernel_rfl
theorem S35_1_ok : So Tryz.prog 35 S35_1 :=
  fun F o ho => sOf (fn := Tryz.f35) (c := code35) (tab_cons (S24_1_ok F _ (noS_sound enter24)) (tab_cons (S27_1_ok F _ (noS_sound enter27)) (tab_cons (S81_1_ok F _ (noS_sound enter81)) (tab_cons (S90_1_ok F _ (noS_sound enter90)) (tab_cons (S97_1_ok F _ (noS_sound enter97)) tab_nil))))) ho lnil snil (by rw [ranges35]; exact (rangesOK_cons (by kernel_rfl) (R35_1_2000004 F) rangesOK_nil)) (E35_1 F)
end
section
noncomputable def f27_568 {β : Type} (F : Nat)  (K0 : Option β) : Option β := K0
variable [FZ]
def sh27_568 : Sh := ⟨[.lf (.nilp)], []⟩
abbrev Y27_568 := (Option Res) → Option Res
noncomputable def A27_568 (g : Y27_568) (d : sh27_568.den) (K : KF) : Option Res := g (K [.lf (.int .i64 1)] [])
noncomputable def S27_568 (F : Nat) (o : Summ) : Summ := mkS sh27_568 (fun d K => A27_568 (f27_568 F) d K) o
noncomputable def T27_568 (F : Nat) : FuncId → Option Summ := tab []
noncomputable def LT27_568 (F : Nat) : Nat → Option LoopS := ltab []
theorem E27_568 (F : Nat) (d : sh27_568.den) (K : KF) : EB Tryz.prog (T27_568 F) (xw []) 40 0 (LT27_568 F) [] false Tryz.f27 sh27_568 d K = A27_568 (f27_568 F) d K := by delta A27_568 f27_568 T27_568 LT27_568;   as_aux_lemma => kernel_rfl
theorem S27_568_ok : So Tryz.prog 27 S27_568 :=
  fun F o ho => sOf (fn := Tryz.f27) (c := code27) tab_nil ho (by rw [loops27]; exact (loopsOK_skip (by kernel_rfl) loopsOK_nil)) snil rnil (E27_568 F)
end
section
noncomputable def f35_455_r2000004_l1 {β : Type} (F : Nat) (v8 : Int) (v9 : List (Int × (Int × (Int × ByteArray)))) (v10 v11 v12 v13 v14 : Int) (K0 : Int → Int → Int → ByteArray → Option β) (K1 : Option β) : Nat → Option β
  | 0 => none
  | k + 1 => cond (decide (v8 ≥ 0)) (cond (decide ((0 : Int) ≤ v8 ∧ v8 < ((v9.length : Nat) : Int))) (cond (decide (0 + v8.toNat < v9.length)) (f24_1385 F ((((v9.getD (0 + v8.toNat) (0, (0, (0, ByteArray.empty)))).2).2).1) ((((v9.getD (0 + v8.toNat) (0, (0, (0, ByteArray.empty)))).2).2).2) (K0 ((v9.getD (0 + v8.toNat) (0, (0, (0, ByteArray.empty)))).1) (((v9.getD (0 + v8.toNat) (0, (0, (0, ByteArray.empty)))).2).1) ((((v9.getD (0 + v8.toNat) (0, (0, (0, ByteArray.empty)))).2).2).1) ((((v9.getD (0 + v8.toNat) (0, (0, (0, ByteArray.empty)))).2).2).2)) ) none) none) (K1)
noncomputable def f35_455_r2000004 {β : Type} (F : Nat) (v2 : List (Int × (Int × (Int × ByteArray)))) (v3 v4 v5 v6 v7 : Int) (K0 : Int → Int → Int → ByteArray → Option β) (K1 : Option β) : Option β := f35_455_r2000004_l1 F (IntKind.i64.wrap (((v2.length : Nat) : Int) - 1)) v2 v3 v4 v5 v6 v7 (fun x15 x16 x17 x18 => K0 x15 x16 x17 x18) (K1) F
noncomputable def f35_455 {β : Type} (F : Nat) (a1 a2 a3 a4 : Int) (a5 : List (Int × (Int × (Int × ByteArray)))) (K0 : Int → Option β) : Option β := f90_1 F a1 a2 a3 a4 (fun x1 => cond (!x1) (K0 12) (f97_1 F a5 (f35_455_r2000004 F a5 a1 a2 a3 a4 0 (fun x19 x20 x21 x22 => K0 1) (f27_568 F  (K0 1) ) ) )) 
variable [FZ]
def sh35_455 : Sh := ⟨[.lf (.nilp), .agg [.int .i64, .int .i64, .int .i64, .int .i64], .lf (.full 0)], [some ⟨none, [.seq (.pair (.int .u64) (.pair (.int .u64) (.pair (.int .i64) .str))) 0]⟩]⟩
abbrev Y35_455 := Int → Int → Int → Int → List (Int × (Int × (Int × ByteArray))) → (Int → Option Res) → Option Res
noncomputable def A35_455 (g : Y35_455) (d : sh35_455.den) (K : KF) : Option Res := g d.1.2.1.1 d.1.2.1.2.1 d.1.2.1.2.2.1 d.1.2.1.2.2.2.1 d.2.1.2.1 (fun y0 => K [.lf (.int .i64 y0)] [some ⟨d.2.1.1, [.seq (.pair (.int .u64) (.pair (.int .u64) (.pair (.int .i64) .str))) 0 d.2.1.2.1]⟩])
noncomputable def S35_455 (F : Nat) (o : Summ) : Summ := mkS sh35_455 (fun d K => A35_455 (f35_455 F) d K) o
noncomputable def T35_455 (F : Nat) : FuncId → Option Summ := tab [(24, (S24_1385 F noS)), (27, (S27_568 F noS)), (90, (S90_1 F noS)), (97, (S97_1 F noS))]
def sh35_455_l2000004 : Sh := ⟨[.lf (.ptr 1 0), .lf (.ptr 2 0), .lf (.ptr 3 0), .lf (.clo 151 [4])], [some ⟨none, [.seq (.pair (.int .u64) (.pair (.int .u64) (.pair (.int .i64) .str))) 0]⟩, some ⟨some false, [.nilp]⟩, some ⟨some false, [.int .i64, .int .i64, .int .i64, .int .i64]⟩, some ⟨some false, [.int .i64]⟩, some ⟨some false, [.full 0]⟩]⟩
noncomputable def G35_455_2000004 (F k : Nat) : LoopS := mkG sh35_455_l2000004 [3, 4, 6, 15] (outT [(.normal, [3, 4, 6]), (.ret, [6])]) (fun d K => f35_455_r2000004 F d.2.1.2.1 d.2.2.2.1.2.1 d.2.2.2.1.2.2.1 d.2.2.2.1.2.2.2.1 d.2.2.2.1.2.2.2.2.1 d.2.2.2.2.1.2.1 (fun y6 y7 y8 y9 => K .ret [.tv (.lf (.ptr 3 0))] [some ⟨d.2.1.1, [.seq (.pair (.int .u64) (.pair (.int .u64) (.pair (.int .i64) .str))) 0 d.2.1.2.1]⟩, some ⟨false, [.nilp]⟩, some ⟨false, [.int .i64 d.2.2.2.1.2.1, .int .i64 d.2.2.2.1.2.2.1, .int .i64 d.2.2.2.1.2.2.2.1, .int .i64 d.2.2.2.1.2.2.2.2.1]⟩, some ⟨false, [.int .i64 1]⟩, some ⟨false, [.full 0]⟩, none, none, none, none, some ⟨false, [.int .u64 y6, .int .u64 y7, .int .i64 y8, .str y9]⟩]) (K .normal [.tv (.lf (.ptr 1 0)), .tv (.lf (.ptr 2 0)), .tv (.lf (.ptr 3 0))] [some ⟨d.2.1.1, [.seq (.pair (.int .u64) (.pair (.int .u64) (.pair (.int .i64) .str))) 0 d.2.1.2.1]⟩, some ⟨false, [.nilp]⟩, some ⟨false, [.int .i64 d.2.2.2.1.2.1, .int .i64 d.2.2.2.1.2.2.1, .int .i64 d.2.2.2.1.2.2.2.1, .int .i64 d.2.2.2.1.2.2.2.2.1]⟩, some ⟨false, [.int .i64 d.2.2.2.2.1.2.1]⟩, some ⟨false, [.full 0]⟩, none, none, none, none])) []
noncomputable def LT35_455 (F : Nat) : Nat → Option LoopS := ltab [(2000004, G35_455_2000004 F F)]
noncomputable def ic35_455_2000004 : Code := bodyOf Tryz.f151
noncomputable def ic35_455_2000004_b0 : Code := cB (cB (cR (ic35_455_2000004)))
theorem ic35_455_2000004_loops : loopsOf ic35_455_2000004 = [ic35_455_2000004_b0] := by kernel_rfl
theorem ic35_455_2000004_scopes : scopesOf ic35_455_2000004 = [] := by kernel_rfl
def sh35_455_r2000004_l1 : Sh := ⟨[.lf (.yld 5), .lf (.ptr 4 0), .lf (.int .i64)], [some ⟨none, [.seq (.pair (.int .u64) (.pair (.int .u64) (.pair (.int .i64) .str))) 0]⟩, some ⟨some false, [.nilp]⟩, some ⟨some false, [.int .i64, .int .i64, .int .i64, .int .i64]⟩, some ⟨some false, [.int .i64]⟩, some ⟨some false, [.full 0]⟩, some ⟨some false, []⟩, none, none, some ⟨some false, []⟩]⟩
noncomputable def GI35_455_2000004_1 (F : Nat) (d : sh35_455_l2000004.den) (k : Nat) : LoopS := mkG sh35_455_r2000004_l1 [0, 1, 3] (outT [(.exit 0, []), (.ret, [])]) (fun e K => f35_455_r2000004_l1 F e.1.2.2.1 e.2.1.2.1 e.2.2.2.1.2.1 e.2.2.2.1.2.2.1 e.2.2.2.1.2.2.2.1 e.2.2.2.1.2.2.2.2.1 e.2.2.2.2.1.2.1 (fun y6 y7 y8 y9 => K .ret [] [some ⟨e.2.1.1, [.seq (.pair (.int .u64) (.pair (.int .u64) (.pair (.int .i64) .str))) 0 e.2.1.2.1]⟩, some ⟨false, [.nilp]⟩, some ⟨false, [.int .i64 e.2.2.2.1.2.1, .int .i64 e.2.2.2.1.2.2.1, .int .i64 e.2.2.2.1.2.2.2.1, .int .i64 e.2.2.2.1.2.2.2.2.1]⟩, some ⟨false, [.int .i64 1]⟩, some ⟨false, [.full 0]⟩, none, none, some ⟨false, []⟩, some ⟨false, []⟩, some ⟨false, [.int .u64 y6, .int .u64 y7, .int .i64 y8, .str y9]⟩]) (K (.exit 0) [] [some ⟨e.2.1.1, [.seq (.pair (.int .u64) (.pair (.int .u64) (.pair (.int .i64) .str))) 0 e.2.1.2.1]⟩, some ⟨false, [.nilp]⟩, some ⟨false, [.int .i64 e.2.2.2.1.2.1, .int .i64 e.2.2.2.1.2.2.1, .int .i64 e.2.2.2.1.2.2.2.1, .int .i64 e.2.2.2.1.2.2.2.2.1]⟩, some ⟨false, [.int .i64 e.2.2.2.2.1.2.1]⟩, some ⟨false, [.full 0]⟩, some ⟨false, []⟩, none, none, some ⟨false, []⟩]) k) []
noncomputable def it35_455_2000004 (F : Nat) (d : sh35_455_l2000004.den) : Nat → Option LoopS := ltab [(1, GI35_455_2000004_1 F d F)]
theorem LI35_455_2000004_1 (F : Nat) (d : sh35_455_l2000004.den) : LoopOK Tryz.prog (T35_455 F) ⟨[], false, some (yieldOf Tryz.prog (T35_455 F) [] 35 noLT (mkEnv 35 [3, 4, 6, 15] (avsOf (encT sh35_455_l2000004.vs d.1))) (rgP rg35_0).toList (rgX rg35_0) (rgY rg35_0) .ret 5), noJn⟩ 19 9 (it35_455_2000004 F d) (GI35_455_2000004_1 F d F) ic35_455_2000004_b0 :=
  loopOK_of (s := sh35_455_r2000004_l1) (live := [0, 1, 3]) (out := (outT [(.exit 0, []), (.ret, [])])) (mv := []) (fun k e K => f35_455_r2000004_l1 F e.1.2.2.1 e.2.1.2.1 e.2.2.2.1.2.1 e.2.2.2.1.2.2.1 e.2.2.2.1.2.2.2.1 e.2.2.2.1.2.2.2.2.1 e.2.2.2.2.1.2.1 (fun y6 y7 y8 y9 => K .ret [] [some ⟨e.2.1.1, [.seq (.pair (.int .u64) (.pair (.int .u64) (.pair (.int .i64) .str))) 0 e.2.1.2.1]⟩, some ⟨false, [.nilp]⟩, some ⟨false, [.int .i64 e.2.2.2.1.2.1, .int .i64 e.2.2.2.1.2.2.1, .int .i64 e.2.2.2.1.2.2.2.1, .int .i64 e.2.2.2.1.2.2.2.2.1]⟩, some ⟨false, [.int .i64 1]⟩, some ⟨false, [.full 0]⟩, none, none, some ⟨false, []⟩, some ⟨false, []⟩, some ⟨false, [.int .u64 y6, .int .u64 y7, .int .i64 y8, .str y9]⟩]) (K (.exit 0) [] [some ⟨e.2.1.1, [.seq (.pair (.int .u64) (.pair (.int .u64) (.pair (.int .i64) .str))) 0 e.2.1.2.1]⟩, some ⟨false, [.nilp]⟩, some ⟨false, [.int .i64 e.2.2.2.1.2.1, .int .i64 e.2.2.2.1.2.2.1, .int .i64 e.2.2.2.1.2.2.2.1, .int .i64 e.2.2.2.1.2.2.2.2.1]⟩, some ⟨false, [.int .i64 e.2.2.2.2.1.2.1]⟩, some ⟨false, [.full 0]⟩, some ⟨false, []⟩, none, none, some ⟨false, []⟩]) k) F (fun e K => by kernel_rfl) (fun k e K => by refine (f35_455_r2000004_l1.eq_2 ..).trans ?_; delta T35_455 S24_1385 S27_568 S90_1 S97_1 it35_455_2000004; generalize (GI35_455_2000004_1 F d F) = c;  (try delta GI35_455_2000004_1); generalize (f24_1385 F : Y24_1385) = c, (f27_568 F : Y27_568) = c, (f90_1 F : Y90_1) = c, (f97_1 F : Y97_1) = c, (f35_455_r2000004_l1 F : Int → List (Int × (Int × (Int × ByteArray))) → Int → Int → Int → Int → Int → (Int → Int → Int → ByteArray → Option Res) → (Option Res) → Nat → Option Res) = c; as_aux_lemma => kernel_rfl)
theorem R35_455_2000004 (F : Nat) : RangeOK Tryz.prog (xw []) 35 1 (G35_455_2000004 F F) (.rangeFunc (rgG rg35_0) (rgP rg35_0) (rgX rg35_0) (rgY rg35_0)) :=
  rangeOK_of (X := (xw [])) (jump := .ret) (fun h => by cases h) rfl rfl (by kernel_rfl) (tab_cons (S24_1385_ok F _ (noS_sound enter24)) (tab_cons (S27_568_ok F _ (noS_sound enter27)) (tab_cons (S90_1_ok F _ (noS_sound enter90)) (tab_cons (S97_1_ok F _ (noS_sound enter97)) tab_nil)))) (s := sh35_455_l2000004) (live := [3, 4, 6, 15]) (out := (outT [(.normal, [3, 4, 6]), (.ret, [6])])) (fun d K => f35_455_r2000004 F d.2.1.2.1 d.2.2.2.1.2.1 d.2.2.2.1.2.2.1 d.2.2.2.1.2.2.2.1 d.2.2.2.1.2.2.2.2.1 d.2.2.2.2.1.2.1 (fun y6 y7 y8 y9 => K .ret [.tv (.lf (.ptr 3 0))] [some ⟨d.2.1.1, [.seq (.pair (.int .u64) (.pair (.int .u64) (.pair (.int .i64) .str))) 0 d.2.1.2.1]⟩, some ⟨false, [.nilp]⟩, some ⟨false, [.int .i64 d.2.2.2.1.2.1, .int .i64 d.2.2.2.1.2.2.1, .int .i64 d.2.2.2.1.2.2.2.1, .int .i64 d.2.2.2.1.2.2.2.2.1]⟩, some ⟨false, [.int .i64 1]⟩, some ⟨false, [.full 0]⟩, none, none, none, none, some ⟨false, [.int .u64 y6, .int .u64 y7, .int .i64 y8, .str y9]⟩]) (K .normal [.tv (.lf (.ptr 1 0)), .tv (.lf (.ptr 2 0)), .tv (.lf (.ptr 3 0))] [some ⟨d.2.1.1, [.seq (.pair (.int .u64) (.pair (.int .u64) (.pair (.int .i64) .str))) 0 d.2.1.2.1]⟩, some ⟨false, [.nilp]⟩, some ⟨false, [.int .i64 d.2.2.2.1.2.1, .int .i64 d.2.2.2.1.2.2.1, .int .i64 d.2.2.2.1.2.2.2.1, .int .i64 d.2.2.2.1.2.2.2.2.1]⟩, some ⟨false, [.int .i64 d.2.2.2.2.1.2.1]⟩, some ⟨false, [.full 0]⟩, none, none, none, none])) (it35_455_2000004 F) (f := 151) (fn := Tryz.f151) (c := ic35_455_2000004) (wrI := []) (enter_of (fn := Tryz.f151) (by kernel_rfl) (by kernel_rfl) (by kernel_rfl)) (by kernel_rfl) (by kernel_rfl) (by kernel_rfl) (fun d K => by delta f35_455_r2000004 T35_455 S24_1385 S27_568 S90_1 S97_1 it35_455_2000004;  delta GI35_455_2000004_1; generalize (f24_1385 F : Y24_1385) = c, (f27_568 F : Y27_568) = c, (f90_1 F : Y90_1) = c, (f97_1 F : Y97_1) = c, (f35_455_r2000004_l1 F : Int → List (Int × (Int × (Int × ByteArray))) → Int → Int → Int → Int → Int → (Int → Int → Int → ByteArray → Option Res) → (Option Res) → Nat → Option Res) = c; as_aux_lemma => kernel_rfl) (fun d => by rw [ic35_455_2000004_loops]; exact (loopsOK_cons (by kernel_rfl) (LI35_455_2000004_1 F d) loopsOK_nil)) (fun d => by rw [ic35_455_2000004_scopes]; exact scopesOK_nil) (by kernel_rfl)
theorem E35_455 (F : Nat) (d : sh35_455.den) (K : KF) : EB Tryz.prog (T35_455 F) (xw []) 35 1 (LT35_455 F) [] false Tryz.f35 sh35_455 d K = A35_455 (f35_455 F) d K := by delta A35_455 f35_455 T35_455 S24_1385 S27_568 S90_1 S97_1 LT35_455;  delta G35_455_2000004; generalize (f24_1385 F : Y24_1385) = c, (f27_568 F : Y27_568) = c, (f90_1 F : Y90_1) = c, (f97_1 F : Y97_1) = c, (f35_455_r2000004 F : List (Int × (Int × (Int × ByteArray))) → Int → Int → Int → Int → Int → (Int → Int → Int → ByteArray → Option Res) → (Option Res) → Option Res) = c; as_aux_lemma => kernel_rfl
theorem S35_455_ok : So Tryz.prog 35 S35_455 :=
  fun F o ho => sOf (fn := Tryz.f35) (c := code35) (tab_cons (S24_1385_ok F _ (noS_sound enter24)) (tab_cons (S27_568_ok F _ (noS_sound enter27)) (tab_cons (S90_1_ok F _ (noS_sound enter90)) (tab_cons (S97_1_ok F _ (noS_sound enter97)) tab_nil)))) ho lnil snil (by rw [ranges35]; exact (rangesOK_cons (by kernel_rfl) (R35_455_2000004 F) rangesOK_nil)) (E35_455 F)
end
section
noncomputable def f54_1 {β : Type} (F : Nat)  (K0 : ByteArray → Option β) : Option β := f26_1 F 0 (fun x1 => K0 x1) 
variable [FZ]
def sh54_1 : Sh := ⟨[], []⟩
abbrev Y54_1 := (ByteArray → Option Res) → Option Res
noncomputable def A54_1 (g : Y54_1) (d : sh54_1.den) (K : KF) : Option Res := g (fun y0 => K [.lf (.str y0)] [])
noncomputable def S54_1 (F : Nat) (o : Summ) : Summ := mkS sh54_1 (fun d K => A54_1 (f54_1 F) d K) o
noncomputable def code54 : Code := bodyOf Tryz.f54
theorem enter54 : En Tryz.prog 54 := enO (fn := Tryz.f54)
noncomputable def T54_1 (F : Nat) : FuncId → Option Summ := tab [(26, (S26_1 F noS))]
noncomputable def LT54_1 (F : Nat) : Nat → Option LoopS := ltab []
theorem E54_1 (F : Nat) (d : sh54_1.den) (K : KF) : EB Tryz.prog (T54_1 F) (xw []) 2 0 (LT54_1 F) [] false Tryz.f54 sh54_1 d K = A54_1 (f54_1 F) d K := by delta A54_1 f54_1 T54_1 S26_1 LT54_1;  generalize (f26_1 F : Y26_1) = c; as_aux_lemma => kernel_rfl
theorem S54_1_ok : So Tryz.prog 54 S54_1 :=
  fun F o ho => sOf (fn := Tryz.f54) (c := code54) (tab_cons (S26_1_ok F _ (noS_sound enter26)) tab_nil) ho lnil snil rnil (E54_1 F)
end
section
noncomputable def f89_345 {β : Type} (F : Nat) (a1 a2 a3 : Int) (a4 : ByteArray) (a5 : Int) (K0 : Bool → Option β) : Option β := K0 (a3 == a5)
variable [FZ]
def sh89_345 : Sh := ⟨[.agg [.int .u64, .int .u64, .int .i64, .str], .lf (.ptr 0 0)], [some ⟨none, [.int .i64]⟩]⟩
abbrev Y89_345 := Int → Int → Int → ByteArray → Int → (Bool → Option Res) → Option Res
noncomputable def A89_345 (g : Y89_345) (d : sh89_345.den) (K : KF) : Option Res := g d.1.1.1 d.1.1.2.1 d.1.1.2.2.1 d.1.1.2.2.2.1 d.2.1.2.1 (fun y0 => K [.lf (.bool y0)] [some ⟨d.2.1.1, [.int .i64 d.2.1.2.1]⟩])
noncomputable def S89_345 (F : Nat) (o : Summ) : Summ := mkS sh89_345 (fun d K => A89_345 (f89_345 F) d K) o
noncomputable def code89 : Code := bodyOf Tryz.f89
theorem enter89 : En Tryz.prog 89 := enO (fn := Tryz.f89)
noncomputable def T89_345 (F : Nat) : FuncId → Option Summ := tab []
noncomputable def LT89_345 (F : Nat) : Nat → Option LoopS := ltab []
theorem E89_345 (F : Nat) (d : sh89_345.den) (K : KF) : EB Tryz.prog (T89_345 F) (xw []) 8 1 (LT89_345 F) [] false Tryz.f89 sh89_345 d K = A89_345 (f89_345 F) d K := by delta A89_345 f89_345 T89_345 LT89_345;   as_aux_lemma => kernel_rfl
theorem S89_345_ok : So Tryz.prog 89 S89_345 :=
  fun F o ho => sOf (fn := Tryz.f89) (c := code89) tab_nil ho lnil snil rnil (E89_345 F)
end
section
noncomputable def f88_2085_l2 {β : Type} (F : Nat) (v1 : Int) (v3 : List (Int × (Int × (Int × ByteArray)))) (v4 : Int) (K0 : Int → Option β) (K1 : Option β) : Nat → Int → Option β
  | 0, _ => none
  | k + 1, v2 => cond (decide (v2 < v1)) (cond (decide ((0 : Int) ≤ v2 ∧ v2 < ((v3.length : Nat) : Int))) (cond (decide (0 + v2.toNat < v3.length)) (f89_345 F ((v3.getD (0 + v2.toNat) (0, (0, (0, ByteArray.empty)))).1) (((v3.getD (0 + v2.toNat) (0, (0, (0, ByteArray.empty)))).2).1) ((((v3.getD (0 + v2.toNat) (0, (0, (0, ByteArray.empty)))).2).2).1) ((((v3.getD (0 + v2.toNat) (0, (0, (0, ByteArray.empty)))).2).2).2) v4 (fun x5 => cond x5 (K0 v2) (f88_2085_l2 F v1 v3 v4 K0 K1 k (IntKind.i64.wrap (v2 + 1)))) ) none) none) (K1)
noncomputable def f88_2085 {β : Type} (F : Nat) (a1 : List (Int × (Int × (Int × ByteArray)))) (a2 : Int) (K0 : Int → Option β) : Option β := f88_2085_l2 F ((a1.length : Nat) : Int) a1 a2 (fun x6 => K0 x6) (K0 (-1)) F 0
variable [FZ]
def sh88_2085 : Sh := ⟨[.lf (.full 0), .lf (.clo 89 [1])], [some ⟨none, [.seq (.pair (.int .u64) (.pair (.int .u64) (.pair (.int .i64) .str))) 0]⟩, some ⟨none, [.int .i64]⟩]⟩
abbrev Y88_2085 := List (Int × (Int × (Int × ByteArray))) → Int → (Int → Option Res) → Option Res
noncomputable def A88_2085 (g : Y88_2085) (d : sh88_2085.den) (K : KF) : Option Res := g d.2.1.2.1 d.2.2.1.2.1 (fun y0 => K [.lf (.int .i64 y0)] [some ⟨d.2.1.1, [.seq (.pair (.int .u64) (.pair (.int .u64) (.pair (.int .i64) .str))) 0 d.2.1.2.1]⟩, some ⟨d.2.2.1.1, [.int .i64 d.2.2.1.2.1]⟩])
noncomputable def S88_2085 (F : Nat) (o : Summ) : Summ := mkS sh88_2085 (fun d K => A88_2085 (f88_2085 F) d K) o
noncomputable def code88 : Code := bodyOf Tryz.f88
noncomputable def b88_0 : Code := cB (cB (cR (cL (cR (code88)))))
theorem loops88 : loopsOf code88 = [b88_0] := by kernel_rfl
theorem enter88 : En Tryz.prog 88 := enO (fn := Tryz.f88)
noncomputable def T88_2085 (F : Nat) : FuncId → Option Summ := tab [(89, (S89_345 F noS))]
def sh88_2085_l2 : Sh := ⟨[.lf (.full 0), .lf (.clo 89 [1]), .lf (.int .i64), .lf (.int .i64)], [some ⟨none, [.seq (.pair (.int .u64) (.pair (.int .u64) (.pair (.int .i64) .str))) 0]⟩, some ⟨none, [.int .i64]⟩]⟩
abbrev Y88_2085_l2 := Int → List (Int × (Int × (Int × ByteArray))) → Int → (Int → Option Res) → (Option Res) → Nat → Int → Option Res
noncomputable def A88_2085_l2 (g : Y88_2085_l2) (k : Nat) (d : sh88_2085_l2.den) (K : KL) : Option Res := g d.1.2.2.1 d.2.1.2.1 d.2.2.1.2.1 (fun y0 => K .ret [.tv (.lf (.int .i64 y0))] [some ⟨d.2.1.1, [.seq (.pair (.int .u64) (.pair (.int .u64) (.pair (.int .i64) .str))) 0 d.2.1.2.1]⟩, some ⟨d.2.2.1.1, [.int .i64 d.2.2.1.2.1]⟩]) (K (.exit 0) [] [some ⟨d.2.1.1, [.seq (.pair (.int .u64) (.pair (.int .u64) (.pair (.int .i64) .str))) 0 d.2.1.2.1]⟩, some ⟨d.2.2.1.1, [.int .i64 d.2.2.1.2.1]⟩]) k d.1.2.2.2.1
noncomputable def G88_2085_2 (F k : Nat) : LoopS := mkG sh88_2085_l2 [0, 1, 7, 8] (outT [(.exit 0, []), (.ret, [4])]) (fun d K => A88_2085_l2 (f88_2085_l2 F) k d K) []
noncomputable def LT88_2085 (F : Nat) : Nat → Option LoopS := ltab [(2, G88_2085_2 F F)]
theorem L88_2085_2 (F : Nat) : LoopOK Tryz.prog (T88_2085 F) (xw []) 19 2 (LT88_2085 F) (G88_2085_2 F F) b88_0 :=
  loopOK_of (s := sh88_2085_l2) (live := [0, 1, 7, 8]) (out := (outT [(.exit 0, []), (.ret, [4])])) (mv := []) (fun k d K => A88_2085_l2 (f88_2085_l2 F) k d K) F (fun d K => by kernel_rfl)  (fun k d K => by delta A88_2085_l2; refine (f88_2085_l2.eq_2 ..).trans ?_; delta T88_2085 S89_345 LT88_2085; generalize (G88_2085_2 F F) = c;  (try delta G88_2085_2); generalize (f89_345 F : Y89_345) = c, (f88_2085_l2 F : Y88_2085_l2) = c; as_aux_lemma => kernel_rfl)
theorem E88_2085 (F : Nat) (d : sh88_2085.den) (K : KF) : EB Tryz.prog (T88_2085 F) (xw []) 19 2 (LT88_2085 F) [] false Tryz.f88 sh88_2085 d K = A88_2085 (f88_2085 F) d K := by delta A88_2085 f88_2085 T88_2085 S89_345 LT88_2085;  delta G88_2085_2; generalize (f89_345 F : Y89_345) = c, (f88_2085_l2 F : Y88_2085_l2) = c; as_aux_lemma => kernel_rfl
theorem S88_2085_ok : So Tryz.prog 88 S88_2085 :=
  fun F o ho => sOf (fn := Tryz.f88) (c := code88) (tab_cons (S89_345_ok F _ (noS_sound enter89)) tab_nil) ho (by rw [loops88]; exact (loopsOK_cons (by kernel_rfl) (L88_2085_2 F) loopsOK_nil)) snil rnil (E88_2085 F)
end
section
noncomputable def f30_1 {β : Type} (F : Nat) (a1 : Int) (a2 : List (Int × (Int × (Int × ByteArray)))) (K0 : ByteArray → Bool → Option β) : Option β := f88_2085 F a2 a1 (fun x1 => cond (decide (x1 < 0)) (K0 ByteArray.empty false) (cond (decide ((0 : Int) ≤ x1 ∧ x1 < ((a2.length : Nat) : Int))) (cond (decide (0 + x1.toNat < a2.length)) (K0 ((((a2.getD (0 + x1.toNat) (0, (0, (0, ByteArray.empty)))).2).2).2) true) none) none)) 
variable [FZ]
def sh30_1 : Sh := ⟨[.lf (.full 0), .lf (.int .i64)], [some ⟨none, [.seq (.pair (.int .u64) (.pair (.int .u64) (.pair (.int .i64) .str))) 0]⟩]⟩
abbrev Y30_1 := Int → List (Int × (Int × (Int × ByteArray))) → (ByteArray → Bool → Option Res) → Option Res
noncomputable def A30_1 (g : Y30_1) (d : sh30_1.den) (K : KF) : Option Res := g d.1.2.1 d.2.1.2.1 (fun y0 y1 => K [.lf (.str y0), .lf (.bool y1)] [some ⟨d.2.1.1, [.seq (.pair (.int .u64) (.pair (.int .u64) (.pair (.int .i64) .str))) 0 d.2.1.2.1]⟩])
noncomputable def S30_1 (F : Nat) (o : Summ) : Summ := mkS sh30_1 (fun d K => A30_1 (f30_1 F) d K) o
noncomputable def code30 : Code := bodyOf Tryz.f30
theorem enter30 : En Tryz.prog 30 := enO (fn := Tryz.f30)
noncomputable def T30_1 (F : Nat) : FuncId → Option Summ := tab [(88, (S88_2085 F noS))]
noncomputable def LT30_1 (F : Nat) : Nat → Option LoopS := ltab []
theorem E30_1 (F : Nat) (d : sh30_1.den) (K : KF) : EB Tryz.prog (T30_1 F) (xw []) 17 1 (LT30_1 F) [] false Tryz.f30 sh30_1 d K = A30_1 (f30_1 F) d K := by delta A30_1 f30_1 T30_1 S88_2085 LT30_1;  generalize (f88_2085 F : Y88_2085) = c; as_aux_lemma => kernel_rfl
theorem S30_1_ok : So Tryz.prog 30 S30_1 :=
  fun F o ho => sOf (fn := Tryz.f30) (c := code30) (tab_cons (S88_2085_ok F _ (noS_sound enter88)) tab_nil) ho lnil snil rnil (E30_1 F)
end
section
noncomputable def f83_1 {β : Type} (F : Nat) (a1 a2 : Int) (a3 : Bool) (a4 : Int) (a5 : List ByteArray) (a6 : List (Int × ByteArray)) (a7 : List (Int × (Int × (Int × ByteArray)))) (K0 : ByteArray → Int → Option β) : Option β := f37_1 F a1 a2 a3 a4 a5 a6 (fun x1 x2 => cond (x2 != 0) (K0 ByteArray.empty x2) (f30_1 F a1 a7 (fun x3 x4 => cond x4 (K0 x3 0) (K0 x1 0)) )) 
variable [FZ]
def sh83_1 : Sh := ⟨[.lf (.ptr 0 0), .lf (.full 3), .lf (.int .i64)], [some ⟨none, [.full 1, .full 2, .int .i64, .bool, .int .i64]⟩, some ⟨none, [.seq .str 0]⟩, some ⟨none, [.seq (.pair (.int .i64) .str) 0]⟩, some ⟨none, [.seq (.pair (.int .u64) (.pair (.int .u64) (.pair (.int .i64) .str))) 0]⟩]⟩
abbrev Y83_1 := Int → Int → Bool → Int → List ByteArray → List (Int × ByteArray) → List (Int × (Int × (Int × ByteArray))) → (ByteArray → Int → Option Res) → Option Res
noncomputable def A83_1 (g : Y83_1) (d : sh83_1.den) (K : KF) : Option Res := g d.1.2.2.1 d.2.1.2.2.2.1 d.2.1.2.2.2.2.1 d.2.1.2.2.2.2.2.1 d.2.2.1.2.1 d.2.2.2.1.2.1 d.2.2.2.2.1.2.1 (fun y0 y1 => K [.lf (.str y0), .lf (.int .i64 y1)] [some ⟨d.2.1.1, [.full 1, .full 2, .int .i64 d.2.1.2.2.2.1, .bool d.2.1.2.2.2.2.1, .int .i64 d.2.1.2.2.2.2.2.1]⟩, some ⟨d.2.2.1.1, [.seq .str 0 d.2.2.1.2.1]⟩, some ⟨d.2.2.2.1.1, [.seq (.pair (.int .i64) .str) 0 d.2.2.2.1.2.1]⟩, some ⟨d.2.2.2.2.1.1, [.seq (.pair (.int .u64) (.pair (.int .u64) (.pair (.int .i64) .str))) 0 d.2.2.2.2.1.2.1]⟩])
noncomputable def S83_1 (F : Nat) (o : Summ) : Summ := mkS sh83_1 (fun d K => A83_1 (f83_1 F) d K) o
noncomputable def code83 : Code := bodyOf Tryz.f83
theorem enter83 : En Tryz.prog 83 := enO (fn := Tryz.f83)
noncomputable def T83_1 (F : Nat) : FuncId → Option Summ := tab [(30, (S30_1 F noS)), (37, (S37_1 F noS))]
noncomputable def LT83_1 (F : Nat) : Nat → Option LoopS := ltab []
theorem E83_1 (F : Nat) (d : sh83_1.den) (K : KF) : EB Tryz.prog (T83_1 F) (xw []) 30 4 (LT83_1 F) [] false Tryz.f83 sh83_1 d K = A83_1 (f83_1 F) d K := by delta A83_1 f83_1 T83_1 S30_1 S37_1 LT83_1;  generalize (f30_1 F : Y30_1) = c, (f37_1 F : Y37_1) = c; as_aux_lemma => kernel_rfl
theorem S83_1_ok : So Tryz.prog 83 S83_1 :=
  fun F o ho => sOf (fn := Tryz.f83) (c := code83) (tab_cons (S30_1_ok F _ (noS_sound enter30)) (tab_cons (S37_1_ok F _ (noS_sound enter37)) tab_nil)) ho lnil snil rnil (E83_1 F)
end
section
noncomputable def f83_7538 {β : Type} (F : Nat) (a1 : Int) (a2 : List (Int × (Int × (Int × ByteArray)))) (K0 : Option β) : Option β := f37_6206 F a1 (K0) 
variable [FZ]
def sh83_7538 : Sh := ⟨[.lf (.nilp), .lf (.full 0), .lf (.int .i64)], [some ⟨none, [.seq (.pair (.int .u64) (.pair (.int .u64) (.pair (.int .i64) .str))) 0]⟩]⟩
abbrev Y83_7538 := Int → List (Int × (Int × (Int × ByteArray))) → (Option Res) → Option Res
noncomputable def A83_7538 (g : Y83_7538) (d : sh83_7538.den) (K : KF) : Option Res := g d.1.2.2.1 d.2.1.2.1 (K [.lf (.str ByteArray.empty), .lf (.int .i64 1)] [some ⟨d.2.1.1, [.seq (.pair (.int .u64) (.pair (.int .u64) (.pair (.int .i64) .str))) 0 d.2.1.2.1]⟩])
noncomputable def S83_7538 (F : Nat) (o : Summ) : Summ := mkS sh83_7538 (fun d K => A83_7538 (f83_7538 F) d K) o
noncomputable def T83_7538 (F : Nat) : FuncId → Option Summ := tab [(37, (S37_6206 F noS))]
noncomputable def LT83_7538 (F : Nat) : Nat → Option LoopS := ltab []
theorem E83_7538 (F : Nat) (d : sh83_7538.den) (K : KF) : EB Tryz.prog (T83_7538 F) (xw []) 30 1 (LT83_7538 F) [] false Tryz.f83 sh83_7538 d K = A83_7538 (f83_7538 F) d K := by delta A83_7538 f83_7538 T83_7538 S37_6206 LT83_7538;  generalize (f37_6206 F : Y37_6206) = c; as_aux_lemma => kernel_rfl
theorem S83_7538_ok : So Tryz.prog 83 S83_7538 :=
  fun F o ho => sOf (fn := Tryz.f83) (c := code83) (tab_cons (S37_6206_ok F _ (noS_sound enter37)) tab_nil) ho lnil snil rnil (E83_7538 F)
end
section
noncomputable def f22_1 {β : Type} (F : Nat)  (K0 : Bool → Option β) : Option β := f23_1 F 2 2 0 2 1 (fun x1 => f12_1 F x1 (f31_4108 F 2 2 0 2 0 1 1 6 (fun x2 => f26_1 F 9 (fun x3 => f24_1385 F 6 x3 (f83_7538 F 6 [(0, (0, (0, ByteArray.empty)))] (f83_7538 F 6 [] (f35_455 F 2 2 0 2 [(0, (0, (0, ByteArray.empty)))] (fun x4 => f15_6206 F 6 (f54_1 F  (fun x5 => cond (ByteArray.empty.toList == x5.toList) (K0 false) (K0 false)) ) ) ) ) ) ) ) ) (fun x6 x7 => f31_1 F 2 2 0 2 0 1 1 6 (-1) false 0 x6 x7 (fun x8 x9 x10 x11 x12 x13 x14 x15 x16 x17 => f26_1 F 9 (fun x18 => f24_1 F 6 x18 x13 x14 x15 x16 x17 (fun x19 x20 x21 x22 x23 => f83_1 F 6 x20 x21 x22 x16 x23 [(x8, (x9, (x10, x11)))] (fun x24 x25 => f83_1 F 6 x20 x21 x22 x16 x23 [] (fun x26 x27 => f35_1 F 2 2 0 2 x20 x21 x22 x16 x23 [(x8, (x9, (x10, x11)))] (fun x28 x29 x30 x31 x32 x33 => f15_1 F 6 x29 x30 x31 x32 x33 (fun x34 x35 => f54_1 F  (fun x36 => cond (x24.toList == x36.toList) (cond (x25 == 0) (f26_1 F 9 (fun x37 => cond (x26.toList == x37.toList) (cond (x27 == 0) (cond (x28 == 0) (f54_1 F  (fun x38 => cond (x34.toList == x38.toList) (f16_1 F x29 x30 x31 x32 x33 (K0 (x31 == 9)) ) (K0 false)) ) (K0 false)) (K0 false)) (K0 false)) ) (K0 false)) (K0 false)) ) ) ) ) ) ) ) ) ) 
variable [FZ]
def sh22_1 : Sh := ⟨[], []⟩
abbrev Y22_1 := (Bool → Option Res) → Option Res
noncomputable def A22_1 (g : Y22_1) (d : sh22_1.den) (K : KF) : Option Res := g (fun y0 => K [.lf (.bool y0)] [])
noncomputable def S22_1 (F : Nat) (o : Summ) : Summ := mkS sh22_1 (fun d K => A22_1 (f22_1 F) d K) o
noncomputable def code22 : Code := bodyOf Tryz.f22
theorem enter22 : En Tryz.prog 22 := enO (fn := Tryz.f22)
noncomputable def T22_1 (F : Nat) : FuncId → Option Summ := tab [(12, (S12_1 F noS)), (15, (S15_1 F (S15_6206 F noS))), (16, (S16_1 F noS)), (23, (S23_1 F noS)), (24, (S24_1 F (S24_1385 F noS))), (26, (S26_1 F noS)), (31, (S31_1 F (S31_4108 F noS))), (35, (S35_1 F (S35_455 F noS))), (54, (S54_1 F noS)), (83, (S83_1 F (S83_7538 F noS)))]
noncomputable def LT22_1 (F : Nat) : Nat → Option LoopS := ltab []
theorem E22_1 (F : Nat) (d : sh22_1.den) (K : KF) : EB Tryz.prog (T22_1 F) (xw []) 82 0 (LT22_1 F) [] false Tryz.f22 sh22_1 d K = A22_1 (f22_1 F) d K := by delta A22_1 f22_1 T22_1 S12_1 S15_1 S15_6206 S16_1 S23_1 S24_1 S24_1385 S26_1 S31_1 S31_4108 S35_1 S35_455 S54_1 S83_1 S83_7538 LT22_1;  generalize (f12_1 F : Y12_1) = c, (f15_1 F : Y15_1) = c, (f15_6206 F : Y15_6206) = c, (f16_1 F : Y16_1) = c, (f23_1 F : Y23_1) = c, (f24_1 F : Y24_1) = c, (f24_1385 F : Y24_1385) = c, (f26_1 F : Y26_1) = c, (f31_1 F : Y31_1) = c, (f31_4108 F : Y31_4108) = c, (f35_1 F : Y35_1) = c, (f35_455 F : Y35_455) = c, (f54_1 F : Y54_1) = c, (f83_1 F : Y83_1) = c, (f83_7538 F : Y83_7538) = c; as_aux_lemma => kernel_rfl
theorem S22_1_ok : So Tryz.prog 22 S22_1 :=
  fun F o ho => sOf (fn := Tryz.f22) (c := code22) (tab_cons (S12_1_ok F _ (noS_sound enter12)) (tab_cons (S15_1_ok F _ (S15_6206_ok F _ (noS_sound enter15))) (tab_cons (S16_1_ok F _ (noS_sound enter16)) (tab_cons (S23_1_ok F _ (noS_sound enter23)) (tab_cons (S24_1_ok F _ (S24_1385_ok F _ (noS_sound enter24))) (tab_cons (S26_1_ok F _ (noS_sound enter26)) (tab_cons (S31_1_ok F _ (S31_4108_ok F _ (noS_sound enter31))) (tab_cons (S35_1_ok F _ (S35_455_ok F _ (noS_sound enter35))) (tab_cons (S54_1_ok F _ (noS_sound enter54)) (tab_cons (S83_1_ok F _ (S83_7538_ok F _ (noS_sound enter83))) tab_nil)))))))))) ho lnil snil rnil (E22_1 F)
end
section
noncomputable def f25_1 {β : Type} (F : Nat) (a1 a2 a3 a4 a5 : Int) (K0 : Int → Option β) : Option β := f21_1 F a1 a2 a3 a4 (fun x1 => cond (!x1) (K0 (-1)) (cond (decide (a5 < 0)) (K0 (-1)) (cond (decide (a5 ≥ a1)) (K0 (-1)) (K0 (IntKind.i64.wrap (6 + a5)))))) 
variable [FZ]
def sh25_1 : Sh := ⟨[.agg [.int .i64, .int .i64, .int .i64, .int .i64], .lf (.int .i64)], []⟩
abbrev Y25_1 := Int → Int → Int → Int → Int → (Int → Option Res) → Option Res
noncomputable def A25_1 (g : Y25_1) (d : sh25_1.den) (K : KF) : Option Res := g d.1.1.1 d.1.1.2.1 d.1.1.2.2.1 d.1.1.2.2.2.1 d.1.2.1 (fun y0 => K [.lf (.int .i64 y0)] [])
noncomputable def S25_1 (F : Nat) (o : Summ) : Summ := mkS sh25_1 (fun d K => A25_1 (f25_1 F) d K) o
noncomputable def code25 : Code := bodyOf Tryz.f25
theorem enter25 : En Tryz.prog 25 := enO (fn := Tryz.f25)
noncomputable def T25_1 (F : Nat) : FuncId → Option Summ := tab [(21, (S21_1 F noS))]
noncomputable def LT25_1 (F : Nat) : Nat → Option LoopS := ltab []
theorem E25_1 (F : Nat) (d : sh25_1.den) (K : KF) : EB Tryz.prog (T25_1 F) (xw []) 20 0 (LT25_1 F) [] false Tryz.f25 sh25_1 d K = A25_1 (f25_1 F) d K := by delta A25_1 f25_1 T25_1 S21_1 LT25_1;  generalize (f21_1 F : Y21_1) = c; as_aux_lemma => kernel_rfl
theorem S25_1_ok : So Tryz.prog 25 S25_1 :=
  fun F o ho => sOf (fn := Tryz.f25) (c := code25) (tab_cons (S21_1_ok F _ (noS_sound enter21)) tab_nil) ho lnil snil rnil (E25_1 F)
end
section
noncomputable def f78_1 {β : Type} (F : Nat) (a1 : List (Int × ByteArray)) (K0 : List (Int × ByteArray) → Option β) : Option β := cond (decide (0 < a1.length)) (cond (decide ((0 + a1.length) * 24 ≤ 70368744177664)) (K0 ([] ++ a1)) none) (amb (K0 []) (cond (decide ((0 + a1.length) * 24 ≤ 70368744177664)) (K0 ([] ++ a1)) none))
variable [FZ]
def sh78_1 : Sh := ⟨[.lf (.full 0)], [some ⟨none, [.seq (.pair (.int .i64) .str) 0]⟩]⟩
abbrev Y78_1 := List (Int × ByteArray) → (List (Int × ByteArray) → Option Res) → Option Res
noncomputable def A78_1 (g : Y78_1) (d : sh78_1.den) (K : KF) : Option Res := g d.2.1.2.1 (fun y1 => K [.lf (.full 1)] [some ⟨d.2.1.1, [.seq (.pair (.int .i64) .str) 0 d.2.1.2.1]⟩, some ⟨false, [.seq (.pair (.int .i64) .str) 0 y1]⟩])
noncomputable def S78_1 (F : Nat) (o : Summ) : Summ := mkS sh78_1 (fun d K => A78_1 (f78_1 F) d K) o
noncomputable def code78 : Code := bodyOf Tryz.f78
theorem enter78 : En Tryz.prog 78 := enO (fn := Tryz.f78)
noncomputable def T78_1 (F : Nat) : FuncId → Option Summ := tab []
noncomputable def LT78_1 (F : Nat) : Nat → Option LoopS := ltab []
theorem E78_1 (F : Nat) (d : sh78_1.den) (K : KF) : EB Tryz.prog (T78_1 F) (xw []) 8 1 (LT78_1 F) [] false Tryz.f78 sh78_1 d K = A78_1 (f78_1 F) d K := by delta A78_1 f78_1 T78_1 LT78_1;   as_aux_lemma => kernel_rfl
theorem S78_1_ok : So Tryz.prog 78 S78_1 :=
  fun F o ho => sOf (fn := Tryz.f78) (c := code78) tab_nil ho lnil snil rnil (E78_1 F)
end
section
noncomputable def f87_1 {β : Type} (F : Nat) (a1 : List ByteArray) (K0 : List ByteArray → Option β) : Option β := cond (decide (0 < a1.length)) (cond (decide ((0 + a1.length) * 16 ≤ 70368744177664)) (K0 ([] ++ a1)) none) (amb (K0 []) (cond (decide ((0 + a1.length) * 16 ≤ 70368744177664)) (K0 ([] ++ a1)) none))
variable [FZ]
def sh87_1 : Sh := ⟨[.lf (.full 0)], [some ⟨none, [.seq .str 0]⟩]⟩
abbrev Y87_1 := List ByteArray → (List ByteArray → Option Res) → Option Res
noncomputable def A87_1 (g : Y87_1) (d : sh87_1.den) (K : KF) : Option Res := g d.2.1.2.1 (fun y1 => K [.lf (.full 1)] [some ⟨d.2.1.1, [.seq .str 0 d.2.1.2.1]⟩, some ⟨false, [.seq .str 0 y1]⟩])
noncomputable def S87_1 (F : Nat) (o : Summ) : Summ := mkS sh87_1 (fun d K => A87_1 (f87_1 F) d K) o
noncomputable def code87 : Code := bodyOf Tryz.f87
theorem enter87 : En Tryz.prog 87 := enO (fn := Tryz.f87)
noncomputable def T87_1 (F : Nat) : FuncId → Option Summ := tab []
noncomputable def LT87_1 (F : Nat) : Nat → Option LoopS := ltab []
theorem E87_1 (F : Nat) (d : sh87_1.den) (K : KF) : EB Tryz.prog (T87_1 F) (xw []) 8 1 (LT87_1 F) [] false Tryz.f87 sh87_1 d K = A87_1 (f87_1 F) d K := by delta A87_1 f87_1 T87_1 LT87_1;   as_aux_lemma => kernel_rfl
theorem S87_1_ok : So Tryz.prog 87 S87_1 :=
  fun F o ho => sOf (fn := Tryz.f87) (c := code87) tab_nil ho lnil snil rnil (E87_1 F)
end
section
noncomputable def f28_1 {β : Type} (F : Nat) (a1 : Int) (a2 : Bool) (a3 : Int) (a4 : List ByteArray) (a5 : List (Int × ByteArray)) (K0 : List ByteArray → List (Int × ByteArray) → Option β) : Option β := f87_1 F a4 (fun x1 => f78_1 F a5 (fun x2 => K0 x1 x2) ) 
variable [FZ]
def sh28_1 : Sh := ⟨[.lf (.ptr 0 0)], [some ⟨none, [.full 1, .full 2, .int .i64, .bool, .int .i64]⟩, some ⟨none, [.seq .str 0]⟩, some ⟨none, [.seq (.pair (.int .i64) .str) 0]⟩]⟩
abbrev Y28_1 := Int → Bool → Int → List ByteArray → List (Int × ByteArray) → (List ByteArray → List (Int × ByteArray) → Option Res) → Option Res
noncomputable def A28_1 (g : Y28_1) (d : sh28_1.den) (K : KF) : Option Res := g d.2.1.2.2.2.1 d.2.1.2.2.2.2.1 d.2.1.2.2.2.2.2.1 d.2.2.1.2.1 d.2.2.2.1.2.1 (fun y8 y9 => K [.lf (.ptr 3 0)] [some ⟨d.2.1.1, [.full 1, .full 2, .int .i64 d.2.1.2.2.2.1, .bool d.2.1.2.2.2.2.1, .int .i64 d.2.1.2.2.2.2.2.1]⟩, some ⟨d.2.2.1.1, [.seq .str 0 d.2.2.1.2.1]⟩, some ⟨d.2.2.2.1.1, [.seq (.pair (.int .i64) .str) 0 d.2.2.2.1.2.1]⟩, some ⟨false, [.full 4, .full 5, .int .i64 d.2.1.2.2.2.1, .bool d.2.1.2.2.2.2.1, .int .i64 d.2.1.2.2.2.2.2.1]⟩, some ⟨false, [.seq .str 0 y8]⟩, some ⟨false, [.seq (.pair (.int .i64) .str) 0 y9]⟩])
noncomputable def S28_1 (F : Nat) (o : Summ) : Summ := mkS sh28_1 (fun d K => A28_1 (f28_1 F) d K) o
noncomputable def code28 : Code := bodyOf Tryz.f28
theorem enter28 : En Tryz.prog 28 := enO (fn := Tryz.f28)
noncomputable def T28_1 (F : Nat) : FuncId → Option Summ := tab [(78, (S78_1 F noS)), (87, (S87_1 F noS))]
noncomputable def LT28_1 (F : Nat) : Nat → Option LoopS := ltab []
theorem E28_1 (F : Nat) (d : sh28_1.den) (K : KF) : EB Tryz.prog (T28_1 F) (xw []) 21 3 (LT28_1 F) [] false Tryz.f28 sh28_1 d K = A28_1 (f28_1 F) d K := by delta A28_1 f28_1 T28_1 S78_1 S87_1 LT28_1;  generalize (f78_1 F : Y78_1) = c, (f87_1 F : Y87_1) = c; as_aux_lemma => kernel_rfl
theorem S28_1_ok : So Tryz.prog 28 S28_1 :=
  fun F o ho => sOf (fn := Tryz.f28) (c := code28) (tab_cons (S78_1_ok F _ (noS_sound enter78)) (tab_cons (S87_1_ok F _ (noS_sound enter87)) tab_nil)) ho lnil snil rnil (E28_1 F)
end
section
noncomputable def f28_568 {β : Type} (F : Nat)  (K0 : Option β) : Option β := K0
variable [FZ]
def sh28_568 : Sh := ⟨[.lf (.nilp)], []⟩
abbrev Y28_568 := (Option Res) → Option Res
noncomputable def A28_568 (g : Y28_568) (d : sh28_568.den) (K : KF) : Option Res := g (K [.lf (.nilp)] [])
noncomputable def S28_568 (F : Nat) (o : Summ) : Summ := mkS sh28_568 (fun d K => A28_568 (f28_568 F) d K) o
noncomputable def T28_568 (F : Nat) : FuncId → Option Summ := tab []
noncomputable def LT28_568 (F : Nat) : Nat → Option LoopS := ltab []
theorem E28_568 (F : Nat) (d : sh28_568.den) (K : KF) : EB Tryz.prog (T28_568 F) (xw []) 21 0 (LT28_568 F) [] false Tryz.f28 sh28_568 d K = A28_568 (f28_568 F) d K := by delta A28_568 f28_568 T28_568 LT28_568;   as_aux_lemma => kernel_rfl
theorem S28_568_ok : So Tryz.prog 28 S28_568 :=
  fun F o ho => sOf (fn := Tryz.f28) (c := code28) tab_nil ho lnil snil rnil (E28_568 F)
end
section
noncomputable def f29_1 {β : Type} (F : Nat) (a1 a2 : Int) (a3 : Bool) (a4 : Int) (a5 : List ByteArray) (a6 : List (Int × ByteArray)) (K0 : Int → Option β) : Option β := K0 (if (-1) > a1 then (-1) else a1)
variable [FZ]
def sh29_1 : Sh := ⟨[.lf (.ptr 0 0), .lf (.int .i64)], [some ⟨some false, [.full 1, .full 2, .int .i64, .bool, .int .i64]⟩, some ⟨none, [.seq .str 0]⟩, some ⟨none, [.seq (.pair (.int .i64) .str) 0]⟩]⟩
abbrev Y29_1 := Int → Int → Bool → Int → List ByteArray → List (Int × ByteArray) → (Int → Option Res) → Option Res
noncomputable def A29_1 (g : Y29_1) (d : sh29_1.den) (K : KF) : Option Res := g d.1.2.1 d.2.1.2.2.2.1 d.2.1.2.2.2.2.1 d.2.1.2.2.2.2.2.1 d.2.2.1.2.1 d.2.2.2.1.2.1 (fun y0 => K [] [some ⟨false, [.full 1, .full 2, .int .i64 y0, .bool d.2.1.2.2.2.2.1, .int .i64 d.2.1.2.2.2.2.2.1]⟩, some ⟨d.2.2.1.1, [.seq .str 0 d.2.2.1.2.1]⟩, some ⟨d.2.2.2.1.1, [.seq (.pair (.int .i64) .str) 0 d.2.2.2.1.2.1]⟩])
noncomputable def S29_1 (F : Nat) (o : Summ) : Summ := mkS sh29_1 (fun d K => A29_1 (f29_1 F) d K) o
noncomputable def code29 : Code := bodyOf Tryz.f29
theorem enter29 : En Tryz.prog 29 := enO (fn := Tryz.f29)
noncomputable def T29_1 (F : Nat) : FuncId → Option Summ := tab []
noncomputable def LT29_1 (F : Nat) : Nat → Option LoopS := ltab []
theorem E29_1 (F : Nat) (d : sh29_1.den) (K : KF) : EB Tryz.prog (T29_1 F) (xw []) 11 3 (LT29_1 F) [] false Tryz.f29 sh29_1 d K = A29_1 (f29_1 F) d K := by delta A29_1 f29_1 T29_1 LT29_1;   as_aux_lemma => kernel_rfl
theorem S29_1_ok : So Tryz.prog 29 S29_1 :=
  fun F o ho => sOf (fn := Tryz.f29) (c := code29) tab_nil ho lnil snil rnil (E29_1 F)
end
section
noncomputable def f29_6206 {β : Type} (F : Nat) (a1 : Int) (K0 : Option β) : Option β := K0
variable [FZ]
def sh29_6206 : Sh := ⟨[.lf (.nilp), .lf (.int .i64)], []⟩
abbrev Y29_6206 := Int → (Option Res) → Option Res
noncomputable def A29_6206 (g : Y29_6206) (d : sh29_6206.den) (K : KF) : Option Res := g d.1.2.1 (K [] [])
noncomputable def S29_6206 (F : Nat) (o : Summ) : Summ := mkS sh29_6206 (fun d K => A29_6206 (f29_6206 F) d K) o
noncomputable def T29_6206 (F : Nat) : FuncId → Option Summ := tab []
noncomputable def LT29_6206 (F : Nat) : Nat → Option LoopS := ltab []
theorem E29_6206 (F : Nat) (d : sh29_6206.den) (K : KF) : EB Tryz.prog (T29_6206 F) (xw []) 11 0 (LT29_6206 F) [] false Tryz.f29 sh29_6206 d K = A29_6206 (f29_6206 F) d K := by delta A29_6206 f29_6206 T29_6206 LT29_6206;   as_aux_lemma => kernel_rfl
theorem S29_6206_ok : So Tryz.prog 29 S29_6206 :=
  fun F o ho => sOf (fn := Tryz.f29) (c := code29) tab_nil ho lnil snil rnil (E29_6206 F)
end
section
noncomputable def f32_1_l2 {β : Type} (F : Nat) (v1 v3 : Int) (v4 : Bool) (v5 : Int) (v7 : List (Int × ByteArray)) (v8 : List Bool) (K0 : List ByteArray → Option β) : Nat → Int → List ByteArray → Option β
  | 0, _, _ => none
  | k + 1, v2, v6 => cond (decide (v2 < v1)) (cond (decide ((0 : Int) ≤ v2 ∧ v2 < ((v7.length : Nat) : Int))) (cond (decide (0 + v2.toNat < v7.length)) (cond (decide (v2 < ((v8.length : Nat) : Int))) (cond (decide ((0 : Int) ≤ v2 ∧ v2 < ((v8.length : Nat) : Int))) (cond (decide (0 + v2.toNat < v8.length)) (cond (v8.getD (0 + v2.toNat) false) (cond (decide ((0 : Int) ≤ (v7.getD (0 + v2.toNat) (0, ByteArray.empty)).1 ∧ (v7.getD (0 + v2.toNat) (0, ByteArray.empty)).1 < ((v6.length : Nat) : Int))) (cond (decide (0 + (((v7.getD (0 + v2.toNat) (0, ByteArray.empty)).1).toNat) < v6.length)) (f32_1_l2 F v1 v3 v4 v5 v7 v8 K0 k (IntKind.i64.wrap (v2 + 1)) (v6.set (0 + (((v7.getD (0 + v2.toNat) (0, ByteArray.empty)).1).toNat)) ((v7.getD (0 + v2.toNat) (0, ByteArray.empty)).2))) none) none) (f32_1_l2 F v1 v3 v4 v5 v7 v8 K0 k (IntKind.i64.wrap (v2 + 1)) v6)) none) none) (f32_1_l2 F v1 v3 v4 v5 v7 v8 K0 k (IntKind.i64.wrap (v2 + 1)) v6)) none) none) (K0 v6)
noncomputable def f32_1 {β : Type} (F : Nat) (a1 : Int) (a2 : Bool) (a3 : Int) (a4 : List ByteArray) (a5 : List (Int × ByteArray)) (a6 : List Bool) (K0 : List ByteArray → List (Int × ByteArray) → Option β) : Option β := f32_1_l2 F ((a5.length : Nat) : Int) a1 a2 a3 a5 a6 (fun x9 => K0 x9 []) F 0 a4
variable [FZ]
def sh32_1 : Sh := ⟨[.lf (.ptr 0 0), .lf (.full 3)], [some ⟨some false, [.full 1, .full 2, .int .i64, .bool, .int .i64]⟩, some ⟨some false, [.seq .str 0]⟩, some ⟨none, [.seq (.pair (.int .i64) .str) 0]⟩, some ⟨none, [.seq .bool 0]⟩]⟩
abbrev Y32_1 := Int → Bool → Int → List ByteArray → List (Int × ByteArray) → List Bool → (List ByteArray → List (Int × ByteArray) → Option Res) → Option Res
noncomputable def A32_1 (g : Y32_1) (d : sh32_1.den) (K : KF) : Option Res := g d.2.1.2.2.2.1 d.2.1.2.2.2.2.1 d.2.1.2.2.2.2.2.1 d.2.2.1.2.1 d.2.2.2.1.2.1 d.2.2.2.2.1.2.1 (fun y3 y5 => K [] [some ⟨false, [.full 1, .full 4, .int .i64 (-1), .bool true, .int .i64 d.2.1.2.2.2.2.2.1]⟩, some ⟨false, [.seq .str 0 y3]⟩, none, some ⟨d.2.2.2.2.1.1, [.seq .bool 0 d.2.2.2.2.1.2.1]⟩, some ⟨false, [.seq (.pair (.int .i64) .str) 0 y5]⟩])
noncomputable def S32_1 (F : Nat) (o : Summ) : Summ := mkS sh32_1 (fun d K => A32_1 (f32_1 F) d K) o
noncomputable def code32 : Code := bodyOf Tryz.f32
noncomputable def b32_0 : Code := cB (cB (cR (cL (cR (code32)))))
theorem loops32 : loopsOf code32 = [b32_0] := by kernel_rfl
theorem enter32 : En Tryz.prog 32 := enO (fn := Tryz.f32)
noncomputable def T32_1 (F : Nat) : FuncId → Option Summ := tab []
def sh32_1_l2 : Sh := ⟨[.lf (.ptr 0 0), .lf (.full 3), .lf (.full 2), .lf (.int .i64), .lf (.int .i64)], [some ⟨some false, [.full 1, .full 2, .int .i64, .bool, .int .i64]⟩, some ⟨some false, [.seq .str 0]⟩, some ⟨none, [.seq (.pair (.int .i64) .str) 0]⟩, some ⟨none, [.seq .bool 0]⟩]⟩
abbrev Y32_1_l2 := Int → Int → Bool → Int → List (Int × ByteArray) → List Bool → (List ByteArray → Option Res) → Nat → Int → List ByteArray → Option Res
noncomputable def A32_1_l2 (g : Y32_1_l2) (k : Nat) (d : sh32_1_l2.den) (K : KL) : Option Res := g d.1.2.2.2.1 d.2.1.2.2.2.1 d.2.1.2.2.2.2.1 d.2.1.2.2.2.2.2.1 d.2.2.2.1.2.1 d.2.2.2.2.1.2.1 (fun y3 => K (.exit 0) [.tv (.lf (.ptr 0 0))] [some ⟨false, [.full 1, .full 2, .int .i64 d.2.1.2.2.2.1, .bool d.2.1.2.2.2.2.1, .int .i64 d.2.1.2.2.2.2.2.1]⟩, some ⟨false, [.seq .str 0 y3]⟩, some ⟨d.2.2.2.1.1, [.seq (.pair (.int .i64) .str) 0 d.2.2.2.1.2.1]⟩, some ⟨d.2.2.2.2.1.1, [.seq .bool 0 d.2.2.2.2.1.2.1]⟩]) k d.1.2.2.2.2.1 d.2.2.1.2.1
noncomputable def G32_1_2 (F k : Nat) : LoopS := mkG sh32_1_l2 [0, 1, 11, 12, 13] (outT [(.exit 0, [0])]) (fun d K => A32_1_l2 (f32_1_l2 F) k d K) []
noncomputable def LT32_1 (F : Nat) : Nat → Option LoopS := ltab [(2, G32_1_2 F F)]
theorem L32_1_2 (F : Nat) : LoopOK Tryz.prog (T32_1 F) (xw []) 47 4 (LT32_1 F) (G32_1_2 F F) b32_0 :=
  loopOK_of (s := sh32_1_l2) (live := [0, 1, 11, 12, 13]) (out := (outT [(.exit 0, [0])])) (mv := []) (fun k d K => A32_1_l2 (f32_1_l2 F) k d K) F (fun d K => by kernel_rfl)  (fun k d K => by delta A32_1_l2; refine (f32_1_l2.eq_2 ..).trans ?_; delta T32_1 LT32_1; generalize (G32_1_2 F F) = c;  (try delta G32_1_2); generalize (f32_1_l2 F : Y32_1_l2) = c; as_aux_lemma => kernel_rfl)
theorem E32_1 (F : Nat) (d : sh32_1.den) (K : KF) : EB Tryz.prog (T32_1 F) (xw []) 47 4 (LT32_1 F) [2] false Tryz.f32 sh32_1 d K = A32_1 (f32_1 F) d K := by delta A32_1 f32_1 T32_1 LT32_1;  delta G32_1_2; generalize (f32_1_l2 F : Y32_1_l2) = c; as_aux_lemma => kernel_rfl
theorem S32_1_ok : So Tryz.prog 32 S32_1 :=
  fun F o ho => sOf (fn := Tryz.f32) (c := code32) tab_nil ho (by rw [loops32]; exact (loopsOK_cons (by kernel_rfl) (L32_1_2 F) loopsOK_nil)) snil rnil (E32_1 F)
end
section
noncomputable def f32_7155 {β : Type} (F : Nat) (a1 : List Bool) (K0 : Option β) : Option β := K0
variable [FZ]
def sh32_7155 : Sh := ⟨[.lf (.nilp), .lf (.full 0)], [some ⟨none, [.seq .bool 0]⟩]⟩
abbrev Y32_7155 := List Bool → (Option Res) → Option Res
noncomputable def A32_7155 (g : Y32_7155) (d : sh32_7155.den) (K : KF) : Option Res := g d.2.1.2.1 (K [] [some ⟨d.2.1.1, [.seq .bool 0 d.2.1.2.1]⟩])
noncomputable def S32_7155 (F : Nat) (o : Summ) : Summ := mkS sh32_7155 (fun d K => A32_7155 (f32_7155 F) d K) o
noncomputable def T32_7155 (F : Nat) : FuncId → Option Summ := tab []
noncomputable def LT32_7155 (F : Nat) : Nat → Option LoopS := ltab []
theorem E32_7155 (F : Nat) (d : sh32_7155.den) (K : KF) : EB Tryz.prog (T32_7155 F) (xw []) 47 1 (LT32_7155 F) [] false Tryz.f32 sh32_7155 d K = A32_7155 (f32_7155 F) d K := by delta A32_7155 f32_7155 T32_7155 LT32_7155;   as_aux_lemma => kernel_rfl
theorem S32_7155_ok : So Tryz.prog 32 S32_7155 :=
  fun F o ho => sOf (fn := Tryz.f32) (c := code32) tab_nil ho (by rw [loops32]; exact (loopsOK_skip (by kernel_rfl) loopsOK_nil)) snil rnil (E32_7155 F)
end
section
noncomputable def f33_1 {β : Type} (F : Nat) (a1 : Int) (a2 : Bool) (a3 : Int) (a4 : List ByteArray) (a5 : List (Int × ByteArray)) (K0 : Int → Int → Bool → List (Int × ByteArray) → Option β) : Option β := cond (!a2) (K0 21 a1 a2 a5) (K0 0 (-1) false [])
variable [FZ]
def sh33_1 : Sh := ⟨[.lf (.ptr 0 0)], [some ⟨some false, [.full 1, .full 2, .int .i64, .bool, .int .i64]⟩, some ⟨none, [.seq .str 0]⟩, some ⟨some false, [.seq (.pair (.int .i64) .str) 0]⟩]⟩
abbrev Y33_1 := Int → Bool → Int → List ByteArray → List (Int × ByteArray) → (Int → Int → Bool → List (Int × ByteArray) → Option Res) → Option Res
noncomputable def A33_1 (g : Y33_1) (d : sh33_1.den) (K : KF) : Option Res := g d.2.1.2.2.2.1 d.2.1.2.2.2.2.1 d.2.1.2.2.2.2.2.1 d.2.2.1.2.1 d.2.2.2.1.2.1 (fun y0 y1 y2 y5 => K [.lf (.int .i64 y0)] [some ⟨false, [.full 1, .full 3, .int .i64 y1, .bool y2, .int .i64 d.2.1.2.2.2.2.2.1]⟩, some ⟨d.2.2.1.1, [.seq .str 0 d.2.2.1.2.1]⟩, none, some ⟨false, [.seq (.pair (.int .i64) .str) 0 y5]⟩])
noncomputable def S33_1 (F : Nat) (o : Summ) : Summ := mkS sh33_1 (fun d K => A33_1 (f33_1 F) d K) o
noncomputable def code33 : Code := bodyOf Tryz.f33
theorem enter33 : En Tryz.prog 33 := enO (fn := Tryz.f33)
noncomputable def T33_1 (F : Nat) : FuncId → Option Summ := tab []
noncomputable def LT33_1 (F : Nat) : Nat → Option LoopS := ltab []
theorem E33_1 (F : Nat) (d : sh33_1.den) (K : KF) : EB Tryz.prog (T33_1 F) (xw []) 21 3 (LT33_1 F) [2] false Tryz.f33 sh33_1 d K = A33_1 (f33_1 F) d K := by delta A33_1 f33_1 T33_1 LT33_1;   as_aux_lemma => kernel_rfl
theorem S33_1_ok : So Tryz.prog 33 S33_1 :=
  fun F o ho => sOf (fn := Tryz.f33) (c := code33) tab_nil ho lnil snil rnil (E33_1 F)
end
section
noncomputable def f33_568 {β : Type} (F : Nat)  (K0 : Option β) : Option β := K0
variable [FZ]
def sh33_568 : Sh := ⟨[.lf (.nilp)], []⟩
abbrev Y33_568 := (Option Res) → Option Res
noncomputable def A33_568 (g : Y33_568) (d : sh33_568.den) (K : KF) : Option Res := g (K [.lf (.int .i64 1)] [])
noncomputable def S33_568 (F : Nat) (o : Summ) : Summ := mkS sh33_568 (fun d K => A33_568 (f33_568 F) d K) o
noncomputable def T33_568 (F : Nat) : FuncId → Option Summ := tab []
noncomputable def LT33_568 (F : Nat) : Nat → Option LoopS := ltab []
theorem E33_568 (F : Nat) (d : sh33_568.den) (K : KF) : EB Tryz.prog (T33_568 F) (xw []) 21 0 (LT33_568 F) [] false Tryz.f33 sh33_568 d K = A33_568 (f33_568 F) d K := by delta A33_568 f33_568 T33_568 LT33_568;   as_aux_lemma => kernel_rfl
theorem S33_568_ok : So Tryz.prog 33 S33_568 :=
  fun F o ho => sOf (fn := Tryz.f33) (c := code33) tab_nil ho lnil snil rnil (E33_568 F)
end
end Go.Proofs.YtlgopekjjkdkiaaGreatDoor.X
end
section
namespace Go.Proofs.YtlgopekjjkdkiaaGreatDoor.X
open Go Go.Proofs.YtlgopekjjkdkiaaGreatDoor.Ev Go.Proofs Go.Shelf Go.RowKit
set_option linter.unusedVariables false
section
def trmRen : Go.Shelf.Ren := ⟨fun x => match x with | 160 => 178 | 232 => 205 | 231 => 204 | 227 => 206 | 234 => 208 | 233 => 207 | 236 => 210 | 235 => 209 | 228 => 220 | 271 => 223 | 151 => 222 | 197 => 221 | 120 => 232 | 152 => 231 | 260 => 230 | 137 => 235 | 119 => 236 | 224 => 237 | 225 => 238 | 217 => 242 | 266 => 244 | n => n, fun x => match x with | 9 => 9 | 4 => 4 | 3 => 3 | 5 => 5 | 117 => 249 | 116 => 248 | 0 => 0 | 124 => 252 | 21 => 21 | 105 => 265 | 46 => 188 | 119 => 281 | 139 => 284 | 138 => 283 | n => n, fun x => match x with | 3 => 1 | 4 => 2 | n => n⟩
theorem trmLays : Lays.n160 Tryz.prog trmRen where
  mixed := by kernel_rfl
  f119 := Tryz.func236.trans (congrArg some (by kernel_rfl))
  f120 := Tryz.func232.trans (congrArg some (by kernel_rfl))
  f137 := Tryz.func235.trans (congrArg some (by kernel_rfl))
  f151 := Tryz.func222.trans (congrArg some (by kernel_rfl))
  f152 := Tryz.func231.trans (congrArg some (by kernel_rfl))
  f160 := Tryz.func178.trans (congrArg some (by kernel_rfl))
  f197 := Tryz.func221.trans (congrArg some (by kernel_rfl))
  f217 := Tryz.func242.trans (congrArg some (by kernel_rfl))
  f224 := Tryz.func237.trans (congrArg some (by kernel_rfl))
  f225 := Tryz.func238.trans (congrArg some (by kernel_rfl))
  f227 := Tryz.func206.trans (congrArg some (by kernel_rfl))
  f228 := Tryz.func220.trans (congrArg some (by kernel_rfl))
  f231 := Tryz.func204.trans (congrArg some (by kernel_rfl))
  f232 := Tryz.func205.trans (congrArg some (by kernel_rfl))
  f233 := Tryz.func207.trans (congrArg some (by kernel_rfl))
  f234 := Tryz.func208.trans (congrArg some (by kernel_rfl))
  f235 := Tryz.func209.trans (congrArg some (by kernel_rfl))
  f236 := Tryz.func210.trans (congrArg some (by kernel_rfl))
  f260 := Tryz.func230.trans (congrArg some (by kernel_rfl))
  f266 := Tryz.func244.trans (congrArg some (by kernel_rfl))
  f271 := Tryz.func223.trans (congrArg some (by kernel_rfl))
  t0 := Tryz.underlying0
  a0 := Tryz.isAgg0
  z0 := Tryz.sizeOf0
  v0 := Tryz.zeroValue0
  t3 := Tryz.underlying3
  a3 := Tryz.isAgg3
  z3 := Tryz.sizeOf3
  v3 := Tryz.zeroValue3
  t4 := Tryz.underlying4
  a4 := Tryz.isAgg4
  z4 := Tryz.sizeOf4
  v4 := Tryz.zeroValue4
  t5 := Tryz.underlying5
  a5 := Tryz.isAgg5
  z5 := Tryz.sizeOf5
  v5 := Tryz.zeroValue5
  t9 := Tryz.underlying9
  a9 := Tryz.isAgg9
  z9 := Tryz.sizeOf9
  v9 := Tryz.zeroValue9
  t21 := Tryz.underlying21
  a21 := Tryz.isAgg21
  z21 := Tryz.sizeOf21
  v21 := Tryz.zeroValue21
  t46 := Tryz.underlying188
  a46 := Tryz.isAgg188
  z46 := Tryz.sizeOf188
  v46 := Tryz.zeroValue188
  t105 := Tryz.underlying265
  a105 := Tryz.isAgg265
  z105 := Tryz.sizeOf265
  v105 := Tryz.zeroValue265
  t116 := Tryz.underlying248
  a116 := Tryz.isAgg248
  z116 := Tryz.sizeOf248
  t117 := Tryz.underlying249
  a117 := Tryz.isAgg249
  z117 := Tryz.sizeOf249
  v117 := Tryz.zeroValue249
  t119 := Tryz.underlying281
  a119 := Tryz.isAgg281
  z119 := Tryz.sizeOf281
  t124 := Tryz.underlying252
  a124 := Tryz.isAgg252
  z124 := Tryz.sizeOf252
  v124 := Tryz.zeroValue252
  t138 := Tryz.underlying283
  a138 := Tryz.isAgg283
  z138 := Tryz.sizeOf283
  v138 := Tryz.zeroValue283
  t139 := Tryz.underlying284
  a139 := Tryz.isAgg284
  z139 := Tryz.sizeOf284
  v139 := Tryz.zeroValue284
  g3 := by kernel_rfl
  g4 := by kernel_rfl
end
end Go.Proofs.YtlgopekjjkdkiaaGreatDoor.X
end
section
namespace Go.Proofs.YtlgopekjjkdkiaaGreatDoor.X
open Go Go.Proofs.YtlgopekjjkdkiaaGreatDoor.Ev Go.Proofs
set_option linter.unusedVariables false
set_option linter.unusedSimpArgs false
set_option linter.unusedSectionVars false
section
variable [FZ]
noncomputable def trm (s cs : ByteArray) : ByteArray := ⟨(Lib.trimS s.data.toList cs.data.toList).toArray⟩
noncomputable def f178_1 {β : Type} (F : Nat) (a1 : ByteArray) (a2 : ByteArray) (K0 : ByteArray → Option β) : Option β :=
  cond (decide (a1.size ≤ 9223372036854775807 ∧ a2.size < 4294967281 ∧ a2.data.toList.all (fun b => decide (b.toNat < 128)) = true)) (K0 (trm a1 a2)) none
def sh178_1 : Sh := ⟨[.lf (.str), .lf (.str)], []⟩
noncomputable def S178_1 (F : Nat) (o : Summ) : Summ := mkS sh178_1 (fun d K => f178_1 F d.1.1 d.1.2.1 (fun (y0 : ByteArray) => K [.lf (.str y0)] [])) o
theorem enter178 : ∀ args w, (callFunc 178 args).run Tryz.prog w = .ok (.enter 178 args) w := enter_of (fn := Tryz.f178) (by kernel_rfl) (by kernel_rfl) (by kernel_rfl)
theorem trmNum : trmRen.f 160 = 178 := by kernel_rfl
theorem trmB {s cs : ByteArray} (h : s.size ≤ 9223372036854775807 ∧ cs.size < 4294967281 ∧ cs.data.toList.all (fun b => decide (b.toNat < 128)) = true) {K : KF} {r : Res} (he : K [.lf (.str (trm s cs))] [] = some r) :
    Contract Tryz.prog 178 [.lf (.str s), .lf (.str cs)] [] K r := by
  intro G m w cvs hw hgd hgh hi hx
  obtain ⟨v1, v2, rfl, h1, h2⟩ : ∃ v1 v2, cvs = [v1, v2] ∧ v1 = .string s ∧ v2 = .string cs := by
    match cvs, hx with
    | [v1, v2], ⟨h1, h2, _⟩ => exact ⟨v1, v2, rfl, h1, h2⟩
  subst h1 h2
  have := Any.strings_Trim_laid trmLays (by kernel_rfl) s cs w h.1 h.2.1 (ascii_of_all h.2.2)
  rw [trmNum] at this
  refine this.mono fun e w' ⟨h1, h2⟩ => ?_
  have hext : Ext w w' := ⟨⟨h2.os, h2.tape, h2.output⟩, h2.size, h2.block⟩
  exact ⟨_, _, he, _, [], h1, rfl, by rw [List.append_nil]; exact hi.ext hext⟩
theorem S178_1_ok (F : Nat) (o : Summ) (ho : SoundFn Tryz.prog 178 o) : SoundFn Tryz.prog 178 (S178_1 F o) := by
  refine ⟨ho.enter, fun vs h K r he => ?_⟩
  unfold S178_1 mkS at he
  split at he
  rotate_left
  · exact ho.ok vs h K r he
  rename_i dv dh ha hb'
  have e1 := decT_enc _ _ _ ha
  have e2 := decH_enc _ _ _ hb'
  obtain ⟨s, c, _⟩ := dv
  have e1 : vs = [.lf (.str s), .lf (.str c)] := e1
  have e2 : h = [] := e2
  subst e1
  subst e2
  have he : f178_1 F s c (fun (y0 : ByteArray) => K [.lf (.str y0)] []) = some r := he
  unfold f178_1 at he
  obtain ⟨h1, he⟩ := dec_of he
  exact trmB h1 he
end
end Go.Proofs.YtlgopekjjkdkiaaGreatDoor.X
end
section
namespace Go.Proofs.YtlgopekjjkdkiaaGreatDoor.X
open Go Go.Proofs.YtlgopekjjkdkiaaGreatDoor.Ev Go.Proofs
set_option linter.unusedVariables false
set_option linter.unusedSectionVars false
section
noncomputable def f127_1 {β : Type} (F : Nat) (a1 : ByteArray) (K0 : Int → Int → Option β) : Option β := f85_1 F a1 (fun x1 => cond (!x1) (K0 0 4) (cond (decide ((0 : Int) ≤ (60 : Int) ∧ (60 : Int) ≤ (a1.size : Int) ∧ (a1.size : Int) ≤ (a1.size : Int))) (f146_1 F a1 (fun x2 => cond (!(x2.toList == (a1.extract 60 ((a1.size : Int).toNat)).toList)) (K0 0 9) (cond (decide ((0 : Int) ≤ (0 : Int) ∧ (0 : Int) < (a1.size : Int))) (cond (decide ((0 : Int) ≤ (1 : Int) ∧ (1 : Int) < (a1.size : Int))) (cond (decide (IntKind.i64.wrap ((a1.data.getD 0 0).toNat : Int) < 1)) (K0 0 6) (cond (decide (IntKind.i64.wrap ((a1.data.getD 0 0).toNat : Int) > 8)) (K0 0 6) (cond (decide (IntKind.i64.wrap ((a1.data.getD 1 0).toNat : Int) > 58)) (K0 0 6) (cond (decide ((0 : Int) ≤ IntKind.i64.wrap (2 + (IntKind.i64.wrap ((a1.data.getD 1 0).toNat : Int))) ∧ IntKind.i64.wrap (2 + (IntKind.i64.wrap ((a1.data.getD 1 0).toNat : Int))) ≤ (60 : Int) ∧ (60 : Int) ≤ (a1.size : Int))) (f178_1 F (a1.extract ((IntKind.i64.wrap (2 + (IntKind.i64.wrap ((a1.data.getD 1 0).toNat : Int)))).toNat) 60) (⟨#[0]⟩ : ByteArray) (fun x3 => cond (!(x3.toList == ByteArray.empty.toList)) (K0 0 6) (K0 (IntKind.i64.wrap ((a1.data.getD 0 0).toNat : Int)) 0)) ) none)))) none) none)) ) none)) 
variable [FZ]
def sh127_1 : Sh := ⟨[.lf (.str)], []⟩
abbrev Y127_1 := ByteArray → (Int → Int → Option Res) → Option Res
noncomputable def A127_1 (g : Y127_1) (d : sh127_1.den) (K : KF) : Option Res := g d.1.1 (fun y0 y1 => K [.lf (.int .i64 y0), .lf (.int .i64 y1)] [])
noncomputable def S127_1 (F : Nat) (o : Summ) : Summ := mkS sh127_1 (fun d K => A127_1 (f127_1 F) d K) o
noncomputable def code127 : Code := bodyOf Tryz.f127
theorem enter127 : En Tryz.prog 127 := enO (fn := Tryz.f127)
noncomputable def T127_1 (F : Nat) : FuncId → Option Summ := tab [(85, (S85_1 F noS)), (146, (S146_1 F noS)), (178, (S178_1 F noS))]
noncomputable def LT127_1 (F : Nat) : Nat → Option LoopS := ltab []
theorem E127_1 (F : Nat) (d : sh127_1.den) (K : KF) : EB Tryz.prog (T127_1 F) (xw []) 41 0 (LT127_1 F) [] false Tryz.f127 sh127_1 d K = A127_1 (f127_1 F) d K := by delta A127_1 f127_1 T127_1 S85_1 S146_1 S178_1 LT127_1;  generalize (f85_1 F : Y85_1) = c, (f146_1 F : Y146_1) = c, (f178_1 F : ByteArray → ByteArray → (ByteArray → Option Res) → Option Res) = c; as_aux_lemma => kernel_rfl
theorem S127_1_ok : So Tryz.prog 127 S127_1 :=
  fun F o ho => sOf (fn := Tryz.f127) (c := code127) (tab_cons (S85_1_ok F _ (noS_sound enter85)) (tab_cons (S146_1_ok F _ (noS_sound enter146)) (tab_cons (S178_1_ok F _ (noS_sound enter178)) tab_nil))) ho lnil snil rnil (E127_1 F)
end
section
noncomputable def f156_1 {β : Type} (F : Nat) (a1 : Int) (a2 : ByteArray) (K0 : ByteArray → Int → Option β) : Option β := f127_1 F a2 (fun x1 x2 => cond (x2 != 0) (K0 ByteArray.empty x2) (cond (x1 != a1) (K0 ByteArray.empty 22) (cond (decide ((0 : Int) ≤ (1 : Int) ∧ (1 : Int) < (a2.size : Int))) (cond (decide ((0 : Int) ≤ (2 : Int) ∧ (2 : Int) ≤ IntKind.i64.wrap (2 + (IntKind.i64.wrap ((a2.data.getD 1 0).toNat : Int))) ∧ IntKind.i64.wrap (2 + (IntKind.i64.wrap ((a2.data.getD 1 0).toNat : Int))) ≤ (a2.size : Int))) (K0 (a2.extract 2 ((IntKind.i64.wrap (2 + (IntKind.i64.wrap ((a2.data.getD 1 0).toNat : Int)))).toNat)) 0) none) none))) 
variable [FZ]
def sh156_1 : Sh := ⟨[.lf (.int .i64), .lf (.str)], []⟩
abbrev Y156_1 := Int → ByteArray → (ByteArray → Int → Option Res) → Option Res
noncomputable def A156_1 (g : Y156_1) (d : sh156_1.den) (K : KF) : Option Res := g d.1.1 d.1.2.1 (fun y0 y1 => K [.lf (.str y0), .lf (.int .i64 y1)] [])
noncomputable def S156_1 (F : Nat) (o : Summ) : Summ := mkS sh156_1 (fun d K => A156_1 (f156_1 F) d K) o
noncomputable def code156 : Code := bodyOf Tryz.f156
theorem enter156 : En Tryz.prog 156 := enO (fn := Tryz.f156)
noncomputable def T156_1 (F : Nat) : FuncId → Option Summ := tab [(127, (S127_1 F noS))]
noncomputable def LT156_1 (F : Nat) : Nat → Option LoopS := ltab []
theorem E156_1 (F : Nat) (d : sh156_1.den) (K : KF) : EB Tryz.prog (T156_1 F) (xw []) 27 0 (LT156_1 F) [] false Tryz.f156 sh156_1 d K = A156_1 (f156_1 F) d K := by delta A156_1 f156_1 T156_1 S127_1 LT156_1;  generalize (f127_1 F : Y127_1) = c; as_aux_lemma => kernel_rfl
theorem S156_1_ok : So Tryz.prog 156 S156_1 :=
  fun F o ho => sOf (fn := Tryz.f156) (c := code156) (tab_cons (S127_1_ok F _ (noS_sound enter127)) tab_nil) ho lnil snil rnil (E156_1 F)
end
section
noncomputable def f180_1 {β : Type} (F : Nat) (a1 : List Int) (K0 : List Int → Option β) : Option β := cond (decide ((0 + a1.length) * 1 ≤ 70368744177664)) (K0 ([] ++ a1)) none
variable [FZ]
def sh180_1 : Sh := ⟨[.lf (.full 0)], [some ⟨none, [.seq (.int .u8) 0]⟩]⟩
abbrev Y180_1 := List Int → (List Int → Option Res) → Option Res
noncomputable def A180_1 (g : Y180_1) (d : sh180_1.den) (K : KF) : Option Res := g d.2.1.2.1 (fun y2 => K [.lf (.ptr 1 0)] [some ⟨d.2.1.1, [.seq (.int .u8) 0 d.2.1.2.1]⟩, some ⟨false, [.full 2, .int .i64 0]⟩, some ⟨false, [.seq (.int .u8) 0 y2]⟩])
noncomputable def S180_1 (F : Nat) (o : Summ) : Summ := mkS sh180_1 (fun d K => A180_1 (f180_1 F) d K) o
noncomputable def code180 : Code := bodyOf Tryz.f180
theorem enter180 : En Tryz.prog 180 := enO (fn := Tryz.f180)
noncomputable def T180_1 (F : Nat) : FuncId → Option Summ := tab []
noncomputable def LT180_1 (F : Nat) : Nat → Option LoopS := ltab []
theorem E180_1 (F : Nat) (d : sh180_1.den) (K : KF) : EB Tryz.prog (T180_1 F) (xw []) 8 1 (LT180_1 F) [] false Tryz.f180 sh180_1 d K = A180_1 (f180_1 F) d K := by delta A180_1 f180_1 T180_1 LT180_1;   as_aux_lemma => kernel_rfl
theorem S180_1_ok : So Tryz.prog 180 S180_1 :=
  fun F o ho => sOf (fn := Tryz.f180) (c := code180) tab_nil ho lnil snil rnil (E180_1 F)
end
section
noncomputable def f211_1_l7 {β : Type} (F : Nat) (v3 v4 : Nat) (v5 : Int) (v7 : List Int) (K0 : Int → Option β) : Nat → Int → Int → Option β
  | 0, _, _ => none
  | k + 1, v2, v6 => cond (decide (v6 < v5)) (cond (decide ((0 : Int) ≤ v6 ∧ v6 < ((v4 : Nat) : Int))) (cond (decide (v3 + v6.toNat < v7.length)) (f211_1_l7 F v3 v4 v5 v7 K0 k (ior .u64 (ishl .u64 v2 8) (IntKind.u64.wrap (v7.getD (v3 + v6.toNat) 0))) (IntKind.i64.wrap (v6 + 1))) none) none) (K0 v2)
noncomputable def f211_1 {β : Type} (F : Nat) (a1 a2 : Int) (a3 : List Int) (K0 : Int → Int → Option β) : Option β := f190_1 F a2 (fun x1 => cond (!x1) (K0 0 2) (cond (decide (a1 < 0)) (K0 0 2) (cond (decide (a1 > ((a3.length : Nat) : Int))) (K0 0 7) (cond (decide (IntKind.i64.wrap (((a3.length : Nat) : Int) - a1) < a2)) (K0 0 7) (cond (decide ((0 : Int) ≤ a1 ∧ a1 ≤ IntKind.i64.wrap (a1 + a2) ∧ IntKind.i64.wrap (a1 + a2) ≤ ((a3.length : Nat) : Int))) (f211_1_l7 F (0 + a1.toNat) ((IntKind.i64.wrap (a1 + a2) - a1).toNat) (((IntKind.i64.wrap (a1 + a2) - a1).toNat : Nat) : Int) a3 (fun x8 => K0 x8 0) F 0 0) none))))) 
variable [FZ]
def sh211_1 : Sh := ⟨[.lf (.full 0), .lf (.int .i64), .lf (.int .i64)], [some ⟨none, [.seq (.int .u8) 0]⟩]⟩
abbrev Y211_1 := Int → Int → List Int → (Int → Int → Option Res) → Option Res
noncomputable def A211_1 (g : Y211_1) (d : sh211_1.den) (K : KF) : Option Res := g d.1.2.1 d.1.2.2.1 d.2.1.2.1 (fun y0 y1 => K [.lf (.int .u64 y0), .lf (.int .i64 y1)] [some ⟨d.2.1.1, [.seq (.int .u8) 0 d.2.1.2.1]⟩])
noncomputable def S211_1 (F : Nat) (o : Summ) : Summ := mkS sh211_1 (fun d K => A211_1 (f211_1 F) d K) o
noncomputable def code211 : Code := bodyOf Tryz.f211
noncomputable def b211_0 : Code := cB (cB (cR (cL (cR (cR (cR (code211)))))))
theorem loops211 : loopsOf code211 = [b211_0] := by kernel_rfl
theorem enter211 : En Tryz.prog 211 := enO (fn := Tryz.f211)
noncomputable def T211_1 (F : Nat) : FuncId → Option Summ := tab [(190, (S190_1 F noS))]
def sh211_1_l7 : Sh := ⟨[.lf (.int .u64), .lf (.slice 0 0), .lf (.int .i64), .lf (.int .i64)], [some ⟨none, [.seq (.int .u8) 0]⟩]⟩
abbrev Y211_1_l7 := Nat → Nat → Int → List Int → (Int → Option Res) → Nat → Int → Int → Option Res
noncomputable def A211_1_l7 (g : Y211_1_l7) (k : Nat) (d : sh211_1_l7.den) (K : KL) : Option Res := g d.1.2.1.1 d.1.2.1.2 d.1.2.2.1 d.2.1.2.1 (fun y0 => K (.exit 1) [.tv (.lf (.int .u64 y0))] [some ⟨d.2.1.1, [.seq (.int .u8) 0 d.2.1.2.1]⟩]) k d.1.1 d.1.2.2.2.1
noncomputable def G211_1_7 (F k : Nat) : LoopS := mkG sh211_1_l7 [8, 37, 38, 39] (outT [(.exit 1, [8])]) (fun d K => A211_1_l7 (f211_1_l7 F) k d K) []
noncomputable def LT211_1 (F : Nat) : Nat → Option LoopS := ltab [(7, G211_1_7 F F)]
theorem L211_1_7 (F : Nat) : LoopOK Tryz.prog (T211_1 F) (xw []) 50 1 (LT211_1 F) (G211_1_7 F F) b211_0 :=
  loopOK_of (s := sh211_1_l7) (live := [8, 37, 38, 39]) (out := (outT [(.exit 1, [8])])) (mv := []) (fun k d K => A211_1_l7 (f211_1_l7 F) k d K) F (fun d K => by kernel_rfl)  (fun k d K => by delta A211_1_l7; refine (f211_1_l7.eq_2 ..).trans ?_; delta T211_1 S190_1 LT211_1; generalize (G211_1_7 F F) = c;  (try delta G211_1_7); generalize (f190_1 F : Y190_1) = c, (f211_1_l7 F : Y211_1_l7) = c; as_aux_lemma => kernel_rfl)
theorem E211_1 (F : Nat) (d : sh211_1.den) (K : KF) : EB Tryz.prog (T211_1 F) (xw []) 50 1 (LT211_1 F) [] false Tryz.f211 sh211_1 d K = A211_1 (f211_1 F) d K := by delta A211_1 f211_1 T211_1 S190_1 LT211_1;  delta G211_1_7; generalize (f190_1 F : Y190_1) = c, (f211_1_l7 F : Y211_1_l7) = c; as_aux_lemma => kernel_rfl
theorem S211_1_ok : So Tryz.prog 211 S211_1 :=
  fun F o ho => sOf (fn := Tryz.f211) (c := code211) (tab_cons (S190_1_ok F _ (noS_sound enter190)) tab_nil) ho (by rw [loops211]; exact (loopsOK_cons (by kernel_rfl) (L211_1_7 F) loopsOK_nil)) snil rnil (E211_1 F)
end
section
noncomputable def f181_1_l1000000 {β : Type} (F : Nat) (v3 v4 : Int) (v5 : List Int) (K0 : Option β) : Nat → Option β
  | 0 => none
  | k + 1 => K0
noncomputable def f181_1 {β : Type} (F : Nat) (a1 a2 : Int) (a3 : List Int) (K0 : Int → Int → List Int → Option β) : Option β := cond (a2 != 0) (K0 0 a2 a3) (f211_1 F 0 a1 a3 (fun x1 x2 => cond (x2 != 0) (f181_1_l1000000 F x2 a2 a3 (K0 0 x2 a3) F) (cond (decide ((0 : Int) ≤ a1 ∧ a1 ≤ ((a3.length : Nat) : Int) ∧ ((a3.length : Nat) : Int) ≤ ((a3.length : Nat) : Int))) (K0 x1 a2 ((a3.drop (0 + a1.toNat)).take ((((a3.length : Nat) : Int) - a1).toNat))) none)) )
variable [FZ]
def sh181_1 : Sh := ⟨[.lf (.ptr 0 0), .lf (.int .i64)], [some ⟨some false, [.full 1, .int .i64]⟩, some ⟨some false, [.seq (.int .u8) 0]⟩]⟩
abbrev Y181_1 := Int → Int → List Int → (Int → Int → List Int → Option Res) → Option Res
noncomputable def A181_1 (g : Y181_1) (d : sh181_1.den) (K : KF) : Option Res := g d.1.2.1 d.2.1.2.2.1 d.2.2.1.2.1 (fun y0 y1 y2 => K [.lf (.int .u64 y0)] [some ⟨false, [.full 2, .int .i64 y1]⟩, none, some ⟨false, [.seq (.int .u8) 0 y2]⟩])
noncomputable def S181_1 (F : Nat) (o : Summ) : Summ := mkS sh181_1 (fun d K => A181_1 (f181_1 F) d K) o
noncomputable def code181 : Code := bodyOf Tryz.f181
noncomputable def s181_0 : Code := cB (cR (code181))
noncomputable def r181_0 : Code := match findLabel s181_0 0 with | some c => c | none => .skip
theorem find181_0 : findLabel s181_0 0 = some r181_0 := by kernel_rfl
theorem rloops181_0 : loopsOf r181_0 = [] := by kernel_rfl
theorem rscopes181_0 : scopesOf r181_0 = [] := by kernel_rfl
theorem rranges181_0 : rangesOf r181_0 = [] := by kernel_rfl
theorem scopes181 : scopesOf code181 = [s181_0] := by kernel_rfl
theorem enter181 : En Tryz.prog 181 := enO (fn := Tryz.f181)
noncomputable def T181_1 (F : Nat) : FuncId → Option Summ := tab [(211, (S211_1 F noS))]
def sh181_1_l1000000 : Sh := ⟨[.lf (.ptr 0 0), .lf (.int .i64)], [some ⟨some false, [.full 1, .int .i64]⟩, some ⟨some false, [.seq (.int .u8) 0]⟩]⟩
abbrev Y181_1_l1000000 := Int → Int → List Int → (Option Res) → Nat → Option Res
noncomputable def A181_1_l1000000 (g : Y181_1_l1000000) (k : Nat) (d : sh181_1_l1000000.den) (K : KL) : Option Res := g d.1.2.1 d.2.1.2.2.1 d.2.2.1.2.1 (K .ret [.tv (.lf (.int .u64 0))] [some ⟨false, [.full 1, .int .i64 d.1.2.1]⟩, some ⟨false, [.seq (.int .u8) 0 d.2.2.1.2.1]⟩]) k
noncomputable def G181_1_1000000 (F k : Nat) : LoopS := mkG sh181_1_l1000000 [0, 6] (outT [(.ret, [4])]) (fun d K => A181_1_l1000000 (f181_1_l1000000 F) k d K) []
noncomputable def LT181_1 (F : Nat) : Nat → Option LoopS := ltab [(1000000, G181_1_1000000 F F)]
theorem L181_1_1000000 (F : Nat) : LabelOK Tryz.prog (T181_1 F) (xw []) 41 2 (LT181_1 F) (G181_1_1000000 F F) 0 s181_0 :=
  labelOK_of rfl (by kernel_rfl) (tab_cons (S211_1_ok F _ (noS_sound enter211)) tab_nil) (s := sh181_1_l1000000) (live := [0, 6]) (out := (outT [(.ret, [4])])) (mv := []) (fun k d K => A181_1_l1000000 (f181_1_l1000000 F) k d K) F find181_0 (fun d K => by kernel_rfl)  (fun k d K => by delta A181_1_l1000000; refine (f181_1_l1000000.eq_2 ..).trans ?_; delta T181_1 S211_1 LT181_1; generalize (G181_1_1000000 F F) = c;  (try delta G181_1_1000000); generalize (f211_1 F : Y211_1) = c, (f181_1_l1000000 F : Y181_1_l1000000) = c; as_aux_lemma => kernel_rfl) (by rw [rloops181_0]; exact loopsOK_nil) (by rw [rscopes181_0]; exact scopesOK_nil) (by rw [rranges181_0]; exact rangesOK_nil)
theorem E181_1 (F : Nat) (d : sh181_1.den) (K : KF) : EB Tryz.prog (T181_1 F) (xw []) 41 2 (LT181_1 F) [1] false Tryz.f181 sh181_1 d K = A181_1 (f181_1 F) d K := by delta A181_1 f181_1 T181_1 S211_1 LT181_1;  delta G181_1_1000000; generalize (f211_1 F : Y211_1) = c, (f181_1_l1000000 F : Y181_1_l1000000) = c; as_aux_lemma => kernel_rfl
theorem S181_1_ok : So Tryz.prog 181 S181_1 :=
  fun F o ho => sOf (fn := Tryz.f181) (c := code181) (tab_cons (S211_1_ok F _ (noS_sound enter211)) tab_nil) ho lnil (by rw [scopes181]; exact (scopesOK_cons (by kernel_rfl) (by kernel_rfl) (L181_1_1000000 F) scopesOK_nil)) rnil (E181_1 F)
end
section
noncomputable def f150_1 {β : Type} (F : Nat) (a1 a2 a3 a4 a5 a6 a7 a8 a9 : Int) (a10 : ByteArray) (a11 : Int) (a12 : Bool) (a13 : Int) (a14 : List ByteArray) (a15 : List (Int × ByteArray)) (K0 : Int → Int → Int → ByteArray → Bool → Int → Option β) : Option β := f92_1 F a1 a2 a3 a4 a5 (fun x1 x2 => f37_1 F x1 a11 a12 a13 a14 a15 (fun x3 x4 => cond (x4 != 0) (K0 0 0 0 ByteArray.empty false x4) (f156_1 F 7 x3 (fun x5 x6 => cond (x6 != 0) (K0 0 0 0 ByteArray.empty false 0) (cond ((x5.size : Int) != 28) (K0 0 0 0 ByteArray.empty false 0) (f180_1 F (toInts x5) (fun x7 => f181_1 F 8 0 x7 (fun x8 x9 x10 => f181_1 F 8 x9 x10 (fun x11 x12 x13 => f181_1 F 4 x12 x13 (fun x14 x15 x16 => f181_1 F 4 x15 x16 (fun x17 x18 x19 => f181_1 F 4 x18 x19 (fun x20 x21 x22 => cond (decide (a5 > 0)) (cond (x8 != a7) (cond (x14 != (IntKind.u64.wrap a5)) (K0 0 0 0 ByteArray.empty false 0) (f91_1 F a1 a2 a3 a4 (IntKind.i64.wrap x17) (fun x23 => cond (!x23) (K0 0 0 0 ByteArray.empty false 0) (cond (decide (x11 ≤ a6)) (K0 0 0 0 ByteArray.empty false 0) (K0 0 0 0 ByteArray.empty false 0))) )) (cond (x14 != (IntKind.u64.wrap a5)) (K0 0 0 0 ByteArray.empty false 0) (f91_1 F a1 a2 a3 a4 (IntKind.i64.wrap x17) (fun x24 => cond (!x24) (K0 0 0 0 ByteArray.empty false 0) (cond (decide (x11 ≤ a6)) (K0 0 0 0 ByteArray.empty false 0) (cond (x11 != a8) (K0 0 0 0 ByteArray.empty false 0) (f37_1 F x2 a11 a12 a13 a14 a15 (fun x25 x26 => cond (x26 == 0) (f148_1 F (toInts x25) (fun x27 => K0 x8 x11 (IntKind.i64.wrap x17) x25 (x27 == (IntKind.u32.wrap x20)) x26) ) (K0 x8 x11 (IntKind.i64.wrap x17) x25 false x26)) )))) ))) (cond (x14 != (IntKind.u64.wrap a5)) (K0 0 0 0 ByteArray.empty false 0) (f91_1 F a1 a2 a3 a4 (IntKind.i64.wrap x17) (fun x28 => cond (!x28) (K0 0 0 0 ByteArray.empty false 0) (cond (decide (x11 ≤ a6)) (K0 0 0 0 ByteArray.empty false 0) (f37_1 F x2 a11 a12 a13 a14 a15 (fun x29 x30 => cond (x30 == 0) (f148_1 F (toInts x29) (fun x31 => K0 x8 x11 (IntKind.i64.wrap x17) x29 (x31 == (IntKind.u32.wrap x20)) x30) ) (K0 x8 x11 (IntKind.i64.wrap x17) x29 false x30)) ))) ))) ) ) ) ) ) ))) )) ) 
variable [FZ]
def sh150_1 : Sh := ⟨[.lf (.ptr 0 0), .agg [.int .i64, .int .i64, .int .i64, .int .i64], .lf (.int .i64), .lf (.int .u64), .agg [.int .u64, .int .u64, .int .i64, .str]], [some ⟨none, [.full 1, .full 2, .int .i64, .bool, .int .i64]⟩, some ⟨none, [.seq .str 0]⟩, some ⟨none, [.seq (.pair (.int .i64) .str) 0]⟩]⟩
abbrev Y150_1 := Int → Int → Int → Int → Int → Int → Int → Int → Int → ByteArray → Int → Bool → Int → List ByteArray → List (Int × ByteArray) → (Int → Int → Int → ByteArray → Bool → Int → Option Res) → Option Res
noncomputable def A150_1 (g : Y150_1) (d : sh150_1.den) (K : KF) : Option Res := g d.1.2.1.1 d.1.2.1.2.1 d.1.2.1.2.2.1 d.1.2.1.2.2.2.1 d.1.2.2.1 d.1.2.2.2.1 d.1.2.2.2.2.1.1 d.1.2.2.2.2.1.2.1 d.1.2.2.2.2.1.2.2.1 d.1.2.2.2.2.1.2.2.2.1 d.2.1.2.2.2.1 d.2.1.2.2.2.2.1 d.2.1.2.2.2.2.2.1 d.2.2.1.2.1 d.2.2.2.1.2.1 (fun y0 y1 y2 y3 y4 y5 => K [.agg [.int .u64 y0, .int .u64 y1, .int .i64 y2, .str y3], .lf (.bool y4), .lf (.int .i64 y5)] [some ⟨d.2.1.1, [.full 1, .full 2, .int .i64 d.2.1.2.2.2.1, .bool d.2.1.2.2.2.2.1, .int .i64 d.2.1.2.2.2.2.2.1]⟩, some ⟨d.2.2.1.1, [.seq .str 0 d.2.2.1.2.1]⟩, some ⟨d.2.2.2.1.1, [.seq (.pair (.int .i64) .str) 0 d.2.2.2.1.2.1]⟩])
noncomputable def S150_1 (F : Nat) (o : Summ) : Summ := mkS sh150_1 (fun d K => A150_1 (f150_1 F) d K) o
noncomputable def code150 : Code := bodyOf Tryz.f150
theorem enter150 : En Tryz.prog 150 := enO (fn := Tryz.f150)
noncomputable def T150_1 (F : Nat) : FuncId → Option Summ := tab [(37, (S37_1 F noS)), (91, (S91_1 F noS)), (92, (S92_1 F noS)), (148, (S148_1 F noS)), (156, (S156_1 F noS)), (180, (S180_1 F noS)), (181, (S181_1 F noS))]
noncomputable def LT150_1 (F : Nat) : Nat → Option LoopS := ltab []
theorem E150_1 (F : Nat) (d : sh150_1.den) (K : KF) : EB Tryz.prog (T150_1 F) (xw []) 126 3 (LT150_1 F) [] false Tryz.f150 sh150_1 d K = A150_1 (f150_1 F) d K := by delta A150_1 f150_1 T150_1 S37_1 S91_1 S92_1 S148_1 S156_1 S180_1 S181_1 LT150_1;  generalize (f37_1 F : Y37_1) = c, (f91_1 F : Y91_1) = c, (f92_1 F : Y92_1) = c, (f148_1 F : Y148_1) = c, (f156_1 F : Y156_1) = c, (f180_1 F : Y180_1) = c, (f181_1 F : Y181_1) = c; as_aux_lemma => kernel_rfl
theorem S150_1_ok : So Tryz.prog 150 S150_1 :=
  fun F o ho => sOf (fn := Tryz.f150) (c := code150) (tab_cons (S37_1_ok F _ (noS_sound enter37)) (tab_cons (S91_1_ok F _ (noS_sound enter91)) (tab_cons (S92_1_ok F _ (noS_sound enter92)) (tab_cons (S148_1_ok F _ (noS_sound enter148)) (tab_cons (S156_1_ok F _ (noS_sound enter156)) (tab_cons (S180_1_ok F _ (noS_sound enter180)) (tab_cons (S181_1_ok F _ (noS_sound enter181)) tab_nil))))))) ho lnil snil rnil (E150_1 F)
end
section
noncomputable def f96_1 {β : Type} (F : Nat) (a1 a2 a3 a4 a5 a6 : Int) (a7 : Bool) (a8 : Int) (a9 : List ByteArray) (a10 : List (Int × ByteArray)) (K0 : Option β) : Option β := K0
variable [FZ]
def sh96_1 : Sh := ⟨[.lf (.ptr 0 0), .agg [.int .i64, .int .i64, .int .i64, .int .i64], .lf (.int .u64)], [some ⟨none, [.full 1, .full 2, .int .i64, .bool, .int .i64]⟩, some ⟨none, [.seq .str 0]⟩, some ⟨none, [.seq (.pair (.int .i64) .str) 0]⟩]⟩
abbrev Y96_1 := Int → Int → Int → Int → Int → Int → Bool → Int → List ByteArray → List (Int × ByteArray) → (Option Res) → Option Res
noncomputable def A96_1 (g : Y96_1) (d : sh96_1.den) (K : KF) : Option Res := g d.1.2.1.1 d.1.2.1.2.1 d.1.2.1.2.2.1 d.1.2.1.2.2.2.1 d.1.2.2.1 d.2.1.2.2.2.1 d.2.1.2.2.2.2.1 d.2.1.2.2.2.2.2.1 d.2.2.1.2.1 d.2.2.2.1.2.1 (K [.lf (.clo 149 [3, 4, 5])] [some ⟨d.2.1.1, [.full 1, .full 2, .int .i64 d.2.1.2.2.2.1, .bool d.2.1.2.2.2.2.1, .int .i64 d.2.1.2.2.2.2.2.1]⟩, some ⟨d.2.2.1.1, [.seq .str 0 d.2.2.1.2.1]⟩, some ⟨d.2.2.2.1.1, [.seq (.pair (.int .i64) .str) 0 d.2.2.2.1.2.1]⟩, some ⟨false, [.int .i64 d.1.2.1.1, .int .i64 d.1.2.1.2.1, .int .i64 d.1.2.1.2.2.1, .int .i64 d.1.2.1.2.2.2.1]⟩, some ⟨false, [.ptr 0 0]⟩, some ⟨false, [.int .u64 d.1.2.2.1]⟩])
noncomputable def S96_1 (F : Nat) (o : Summ) : Summ := mkS sh96_1 (fun d K => A96_1 (f96_1 F) d K) o
noncomputable def code96 : Code := bodyOf Tryz.f96
theorem enter96 : En Tryz.prog 96 := enO (fn := Tryz.f96)
noncomputable def T96_1 (F : Nat) : FuncId → Option Summ := tab []
noncomputable def LT96_1 (F : Nat) : Nat → Option LoopS := ltab []
theorem E96_1 (F : Nat) (d : sh96_1.den) (K : KF) : EB Tryz.prog (T96_1 F) (xw []) 8 3 (LT96_1 F) [] false Tryz.f96 sh96_1 d K = A96_1 (f96_1 F) d K := by delta A96_1 f96_1 T96_1 LT96_1;   as_aux_lemma => kernel_rfl
theorem S96_1_ok : So Tryz.prog 96 S96_1 :=
  fun F o ho => sOf (fn := Tryz.f96) (c := code96) tab_nil ho lnil snil rnil (E96_1 F)
end
section
noncomputable def f34_1_r2000005_l2 {β : Type} (F : Nat) (v15 v17 : Int) (v18 : Bool) (v19 : Int) (v20 : List ByteArray) (v21 : List (Int × ByteArray)) (v22 : List (Int × (Int × (Int × ByteArray)))) (v23 v24 v25 v26 v27 v28 : Int) (K0 : List (Int × (Int × (Int × ByteArray))) → Int → Int → Int → ByteArray → Int → Int → Int → ByteArray → Option β) (K1 : Int → List (Int × (Int × (Int × ByteArray))) → Int → Int → Int → ByteArray → Int → Int → Int → ByteArray → Int → Int → Int → ByteArray → Option β) (K2 : List (Int × (Int × (Int × ByteArray))) → Int → Int → Int → ByteArray → Option β) : Nat → Int → List (Int × (Int × (Int × ByteArray))) → Int → Int → Int → ByteArray → Option β
  | 0, _, _, _, _, _, _ => none
  | k + 1, v16, v29, v30, v31, v32, v33 => cond (decide (v16 < v15)) (f150_1 F v24 v25 v26 v27 v16 v28 v30 v31 v32 v33 v17 v18 v19 v20 v21 (fun x34 x35 x36 x37 x38 x39 => cond (x39 == 0) (cond (!x38) (K0 v29 v30 v31 v32 v33 x34 x35 x36 x37) (cond (x39 != 0) (K1 x39 v29 v30 v31 v32 v33 x34 x35 x36 x37 x34 x35 x36 x37) (cond (decide ((v29.length + 1) * 40 ≤ 70368744177664)) (f34_1_r2000005_l2 F v15 v17 v18 v19 v20 v21 v22 v23 v24 v25 v26 v27 v28 K0 K1 K2 k (IntKind.i64.wrap (v16 + 1)) (v29 ++ [(x34, (x35, (x36, x37)))]) x34 x35 x36 x37) none))) (cond (x39 != 0) (K1 x39 v29 v30 v31 v32 v33 x34 x35 x36 x37 x34 x35 x36 x37) (cond (decide ((v29.length + 1) * 40 ≤ 70368744177664)) (f34_1_r2000005_l2 F v15 v17 v18 v19 v20 v21 v22 v23 v24 v25 v26 v27 v28 K0 K1 K2 k (IntKind.i64.wrap (v16 + 1)) (v29 ++ [(x34, (x35, (x36, x37)))]) x34 x35 x36 x37) none))) ) (K2 v29 v30 v31 v32 v33)
noncomputable def f34_1_r2000005 {β : Type} (F : Nat) (v2 : Int) (v3 : Bool) (v4 : Int) (v5 : List ByteArray) (v6 : List (Int × ByteArray)) (v7 : List (Int × (Int × (Int × ByteArray)))) (v8 : Int) (v9 : List (Int × (Int × (Int × ByteArray)))) (v10 v11 v12 v13 v14 : Int) (K0 : List (Int × (Int × (Int × ByteArray))) → Int → Int → Int → ByteArray → Int → Int → Int → ByteArray → Option β) (K1 : Int → List (Int × (Int × (Int × ByteArray))) → Int → Int → Int → ByteArray → Int → Int → Int → ByteArray → Int → Int → Int → ByteArray → Option β) (K2 : List (Int × (Int × (Int × ByteArray))) → Int → Int → Int → ByteArray → Option β) : Option β := f34_1_r2000005_l2 F v13 v2 v3 v4 v5 v6 v7 v8 v10 v11 v12 v13 v14 (fun x40 x41 x42 x43 x44 x45 x46 x47 x48 => K0 x40 x41 x42 x43 x44 x45 x46 x47 x48) (fun x49 x50 x51 x52 x53 x54 x55 x56 x57 x58 x59 x60 x61 x62 => K1 x49 x50 x51 x52 x53 x54 x55 x56 x57 x58 x59 x60 x61 x62) (fun x63 x64 x65 x66 x67 => K2 x63 x64 x65 x66 x67) F 0 v9 0 0 0 ByteArray.empty
noncomputable def f34_1 {β : Type} (F : Nat) (a1 a2 a3 a4 a5 a6 : Int) (a7 : Bool) (a8 : Int) (a9 : List ByteArray) (a10 : List (Int × ByteArray)) (K0 : Int → List (Int × (Int × (Int × ByteArray))) → Option β) : Option β := f90_1 F a1 a2 a3 a4 (fun x1 => cond (!x1) (K0 12 []) (f96_1 F a1 a2 a3 a4 a5 a6 a7 a8 a9 a10 (f34_1_r2000005 F a6 a7 a8 a9 a10 [] 0 [] a1 a2 a3 a4 a5 (fun x68 x69 x70 x71 x72 x73 x74 x75 x76 => K0 0 x68) (fun x77 x78 x79 x80 x81 x82 x83 x84 x85 x86 x87 x88 x89 x90 => K0 x77 []) (fun x91 x92 x93 x94 x95 => K0 0 x91) ) )) 
variable [FZ]
def sh34_1 : Sh := ⟨[.lf (.ptr 0 0), .agg [.int .i64, .int .i64, .int .i64, .int .i64], .lf (.int .u64)], [some ⟨none, [.full 1, .full 2, .int .i64, .bool, .int .i64]⟩, some ⟨none, [.seq .str 0]⟩, some ⟨none, [.seq (.pair (.int .i64) .str) 0]⟩]⟩
abbrev Y34_1 := Int → Int → Int → Int → Int → Int → Bool → Int → List ByteArray → List (Int × ByteArray) → (Int → List (Int × (Int × (Int × ByteArray))) → Option Res) → Option Res
noncomputable def A34_1 (g : Y34_1) (d : sh34_1.den) (K : KF) : Option Res := g d.1.2.1.1 d.1.2.1.2.1 d.1.2.1.2.2.1 d.1.2.1.2.2.2.1 d.1.2.2.1 d.2.1.2.2.2.1 d.2.1.2.2.2.2.1 d.2.1.2.2.2.2.2.1 d.2.2.1.2.1 d.2.2.2.1.2.1 (fun y0 y6 => K [.lf (.full 3), .lf (.int .i64 y0)] [some ⟨d.2.1.1, [.full 1, .full 2, .int .i64 d.2.1.2.2.2.1, .bool d.2.1.2.2.2.2.1, .int .i64 d.2.1.2.2.2.2.2.1]⟩, some ⟨d.2.2.1.1, [.seq .str 0 d.2.2.1.2.1]⟩, some ⟨d.2.2.2.1.1, [.seq (.pair (.int .i64) .str) 0 d.2.2.2.1.2.1]⟩, some ⟨false, [.seq (.pair (.int .u64) (.pair (.int .u64) (.pair (.int .i64) .str))) 0 y6]⟩])
noncomputable def S34_1 (F : Nat) (o : Summ) : Summ := mkS sh34_1 (fun d K => A34_1 (f34_1 F) d K) o
noncomputable def code34 : Code := bodyOf Tryz.f34
noncomputable def rg34_0 : Code := cB (cR (cL (cR (cR (cR (code34))))))
theorem ranges34 : rangesOf code34 = [.rangeFunc (rgG rg34_0) (rgP rg34_0) (rgX rg34_0) (rgY rg34_0)] := by kernel_rfl
theorem enter34 : En Tryz.prog 34 := enO (fn := Tryz.f34)
noncomputable def T34_1 (F : Nat) : FuncId → Option Summ := tab [(90, (S90_1 F noS)), (96, (S96_1 F noS)), (150, (S150_1 F noS))]
def sh34_1_l2000005 : Sh := ⟨[.lf (.ptr 3 0), .lf (.ptr 5 0), .lf (.ptr 6 0), .lf (.clo 149 [8, 9, 10])], [some ⟨none, [.full 1, .full 2, .int .i64, .bool, .int .i64]⟩, some ⟨none, [.seq .str 0]⟩, some ⟨none, [.seq (.pair (.int .i64) .str) 0]⟩, some ⟨some false, [.full 4]⟩, some ⟨some false, [.seq (.pair (.int .u64) (.pair (.int .u64) (.pair (.int .i64) .str))) 0]⟩, some ⟨some false, [.int .i64]⟩, some ⟨some false, [.full 7]⟩, some ⟨some false, [.seq (.pair (.int .u64) (.pair (.int .u64) (.pair (.int .i64) .str))) 0]⟩, some ⟨some false, [.int .i64, .int .i64, .int .i64, .int .i64]⟩, some ⟨some false, [.ptr 0 0]⟩, some ⟨some false, [.int .u64]⟩]⟩
noncomputable def G34_1_2000005 (F k : Nat) : LoopS := mkG sh34_1_l2000005 [6, 7, 8, 17] (outT [(.normal, [6, 7, 8]), (.ret, [6, 7])]) (fun d K => f34_1_r2000005 F d.2.1.2.2.2.1 d.2.1.2.2.2.2.1 d.2.1.2.2.2.2.2.1 d.2.2.1.2.1 d.2.2.2.1.2.1 d.2.2.2.2.2.1.2.1 d.2.2.2.2.2.2.1.2.1 d.2.2.2.2.2.2.2.2.1.2.1 d.2.2.2.2.2.2.2.2.2.1.2.1 d.2.2.2.2.2.2.2.2.2.1.2.2.1 d.2.2.2.2.2.2.2.2.2.1.2.2.2.1 d.2.2.2.2.2.2.2.2.2.1.2.2.2.2.1 d.2.2.2.2.2.2.2.2.2.2.2.1.2.1 (fun y12 y13 y14 y15 y16 y17 y18 y19 y20 => K .normal [.tv (.lf (.ptr 3 0)), .tv (.lf (.ptr 5 0)), .tv (.lf (.ptr 6 0))] [some ⟨d.2.1.1, [.full 1, .full 2, .int .i64 d.2.1.2.2.2.1, .bool d.2.1.2.2.2.2.1, .int .i64 d.2.1.2.2.2.2.2.1]⟩, some ⟨d.2.2.1.1, [.seq .str 0 d.2.2.1.2.1]⟩, some ⟨d.2.2.2.1.1, [.seq (.pair (.int .i64) .str) 0 d.2.2.2.1.2.1]⟩, some ⟨false, [.full 4]⟩, some ⟨false, [.seq (.pair (.int .u64) (.pair (.int .u64) (.pair (.int .i64) .str))) 0 d.2.2.2.2.2.1.2.1]⟩, some ⟨false, [.int .i64 d.2.2.2.2.2.2.1.2.1]⟩, some ⟨false, [.full 15]⟩, none, some ⟨false, [.int .i64 d.2.2.2.2.2.2.2.2.2.1.2.1, .int .i64 d.2.2.2.2.2.2.2.2.2.1.2.2.1, .int .i64 d.2.2.2.2.2.2.2.2.2.1.2.2.2.1, .int .i64 d.2.2.2.2.2.2.2.2.2.1.2.2.2.2.1]⟩, some ⟨false, [.ptr 0 0]⟩, some ⟨false, [.int .u64 d.2.2.2.2.2.2.2.2.2.2.2.1.2.1]⟩, none, none, none, none, some ⟨false, [.seq (.pair (.int .u64) (.pair (.int .u64) (.pair (.int .i64) .str))) 0 y12]⟩, some ⟨false, [.int .u64 y13, .int .u64 y14, .int .i64 y15, .str y16]⟩, some ⟨false, [.int .u64 y17, .int .u64 y18, .int .i64 y19, .str y20]⟩]) (fun y6 y12 y13 y14 y15 y16 y17 y18 y19 y20 y21 y22 y23 y24 => K .ret [.tv (.lf (.ptr 3 0)), .tv (.lf (.ptr 5 0))] [some ⟨d.2.1.1, [.full 1, .full 2, .int .i64 d.2.1.2.2.2.1, .bool d.2.1.2.2.2.2.1, .int .i64 d.2.1.2.2.2.2.2.1]⟩, some ⟨d.2.2.1.1, [.seq .str 0 d.2.2.1.2.1]⟩, some ⟨d.2.2.2.1.1, [.seq (.pair (.int .i64) .str) 0 d.2.2.2.1.2.1]⟩, some ⟨false, [.nils (some (.pair (.int .u64) (.pair (.int .u64) (.pair (.int .i64) .str))))]⟩, some ⟨false, [.seq (.pair (.int .u64) (.pair (.int .u64) (.pair (.int .i64) .str))) 0 d.2.2.2.2.2.1.2.1]⟩, some ⟨false, [.int .i64 y6]⟩, some ⟨false, [.full 15]⟩, none, some ⟨false, [.int .i64 d.2.2.2.2.2.2.2.2.2.1.2.1, .int .i64 d.2.2.2.2.2.2.2.2.2.1.2.2.1, .int .i64 d.2.2.2.2.2.2.2.2.2.1.2.2.2.1, .int .i64 d.2.2.2.2.2.2.2.2.2.1.2.2.2.2.1]⟩, some ⟨false, [.ptr 0 0]⟩, some ⟨false, [.int .u64 d.2.2.2.2.2.2.2.2.2.2.2.1.2.1]⟩, none, none, none, none, some ⟨false, [.seq (.pair (.int .u64) (.pair (.int .u64) (.pair (.int .i64) .str))) 0 y12]⟩, some ⟨false, [.int .u64 y13, .int .u64 y14, .int .i64 y15, .str y16]⟩, some ⟨false, [.int .u64 y17, .int .u64 y18, .int .i64 y19, .str y20]⟩, some ⟨false, [.int .u64 y21, .int .u64 y22, .int .i64 y23, .str y24]⟩]) (fun y12 y13 y14 y15 y16 => K .normal [.tv (.lf (.ptr 3 0)), .tv (.lf (.ptr 5 0)), .tv (.lf (.ptr 6 0))] [some ⟨d.2.1.1, [.full 1, .full 2, .int .i64 d.2.1.2.2.2.1, .bool d.2.1.2.2.2.2.1, .int .i64 d.2.1.2.2.2.2.2.1]⟩, some ⟨d.2.2.1.1, [.seq .str 0 d.2.2.1.2.1]⟩, some ⟨d.2.2.2.1.1, [.seq (.pair (.int .i64) .str) 0 d.2.2.2.1.2.1]⟩, some ⟨false, [.full 4]⟩, some ⟨false, [.seq (.pair (.int .u64) (.pair (.int .u64) (.pair (.int .i64) .str))) 0 d.2.2.2.2.2.1.2.1]⟩, some ⟨false, [.int .i64 d.2.2.2.2.2.2.1.2.1]⟩, some ⟨false, [.full 15]⟩, none, some ⟨false, [.int .i64 d.2.2.2.2.2.2.2.2.2.1.2.1, .int .i64 d.2.2.2.2.2.2.2.2.2.1.2.2.1, .int .i64 d.2.2.2.2.2.2.2.2.2.1.2.2.2.1, .int .i64 d.2.2.2.2.2.2.2.2.2.1.2.2.2.2.1]⟩, some ⟨false, [.ptr 0 0]⟩, some ⟨false, [.int .u64 d.2.2.2.2.2.2.2.2.2.2.2.1.2.1]⟩, none, none, none, none, some ⟨false, [.seq (.pair (.int .u64) (.pair (.int .u64) (.pair (.int .i64) .str))) 0 y12]⟩, some ⟨false, [.int .u64 y13, .int .u64 y14, .int .i64 y15, .str y16]⟩])) []
noncomputable def LT34_1 (F : Nat) : Nat → Option LoopS := ltab [(2000005, G34_1_2000005 F F)]
noncomputable def ic34_1_2000005 : Code := bodyOf Tryz.f149
noncomputable def ic34_1_2000005_b0 : Code := cB (cB (cR (cR (ic34_1_2000005))))
theorem ic34_1_2000005_loops : loopsOf ic34_1_2000005 = [ic34_1_2000005_b0] := by kernel_rfl
theorem ic34_1_2000005_scopes : scopesOf ic34_1_2000005 = [] := by kernel_rfl
def sh34_1_r2000005_l2 : Sh := ⟨[.lf (.yld 11), .lf (.ptr 8 0), .lf (.ptr 9 0), .lf (.ptr 10 0), .lf (.ptr 16 0), .lf (.int .i64), .lf (.int .i64)], [some ⟨none, [.full 1, .full 2, .int .i64, .bool, .int .i64]⟩, some ⟨none, [.seq .str 0]⟩, some ⟨none, [.seq (.pair (.int .i64) .str) 0]⟩, some ⟨some false, [.full 4]⟩, some ⟨some false, [.seq (.pair (.int .u64) (.pair (.int .u64) (.pair (.int .i64) .str))) 0]⟩, some ⟨some false, [.int .i64]⟩, some ⟨some false, [.full 15]⟩, none, some ⟨some false, [.int .i64, .int .i64, .int .i64, .int .i64]⟩, some ⟨some false, [.ptr 0 0]⟩, some ⟨some false, [.int .u64]⟩, some ⟨some false, []⟩, none, none, some ⟨some false, []⟩, some ⟨some false, [.seq (.pair (.int .u64) (.pair (.int .u64) (.pair (.int .i64) .str))) 0]⟩, some ⟨some false, [.int .u64, .int .u64, .int .i64, .str]⟩]⟩
noncomputable def GI34_1_2000005_2 (F : Nat) (d : sh34_1_l2000005.den) (k : Nat) : LoopS := mkG sh34_1_r2000005_l2 [0, 1, 2, 3, 5, 11, 12] (outT [(.exit 0, []), (.ret, [])]) (fun e K => f34_1_r2000005_l2 F e.1.2.2.2.2.2.1 e.2.1.2.2.2.1 e.2.1.2.2.2.2.1 e.2.1.2.2.2.2.2.1 e.2.2.1.2.1 e.2.2.2.1.2.1 e.2.2.2.2.2.1.2.1 e.2.2.2.2.2.2.1.2.1 e.2.2.2.2.2.2.2.2.2.1.2.1 e.2.2.2.2.2.2.2.2.2.1.2.2.1 e.2.2.2.2.2.2.2.2.2.1.2.2.2.1 e.2.2.2.2.2.2.2.2.2.1.2.2.2.2.1 e.2.2.2.2.2.2.2.2.2.2.2.1.2.1 (fun y12 y13 y14 y15 y16 y17 y18 y19 y20 => K .ret [] [some ⟨e.2.1.1, [.full 1, .full 2, .int .i64 e.2.1.2.2.2.1, .bool e.2.1.2.2.2.2.1, .int .i64 e.2.1.2.2.2.2.2.1]⟩, some ⟨e.2.2.1.1, [.seq .str 0 e.2.2.1.2.1]⟩, some ⟨e.2.2.2.1.1, [.seq (.pair (.int .i64) .str) 0 e.2.2.2.1.2.1]⟩, some ⟨false, [.full 4]⟩, some ⟨false, [.seq (.pair (.int .u64) (.pair (.int .u64) (.pair (.int .i64) .str))) 0 e.2.2.2.2.2.1.2.1]⟩, some ⟨false, [.int .i64 e.2.2.2.2.2.2.1.2.1]⟩, some ⟨false, [.full 15]⟩, none, some ⟨false, [.int .i64 e.2.2.2.2.2.2.2.2.2.1.2.1, .int .i64 e.2.2.2.2.2.2.2.2.2.1.2.2.1, .int .i64 e.2.2.2.2.2.2.2.2.2.1.2.2.2.1, .int .i64 e.2.2.2.2.2.2.2.2.2.1.2.2.2.2.1]⟩, some ⟨false, [.ptr 0 0]⟩, some ⟨false, [.int .u64 e.2.2.2.2.2.2.2.2.2.2.2.1.2.1]⟩, some ⟨false, []⟩, none, none, some ⟨false, []⟩, some ⟨false, [.seq (.pair (.int .u64) (.pair (.int .u64) (.pair (.int .i64) .str))) 0 y12]⟩, some ⟨false, [.int .u64 y13, .int .u64 y14, .int .i64 y15, .str y16]⟩, some ⟨false, [.int .u64 y17, .int .u64 y18, .int .i64 y19, .str y20]⟩]) (fun y6 y12 y13 y14 y15 y16 y17 y18 y19 y20 y21 y22 y23 y24 => K .ret [] [some ⟨e.2.1.1, [.full 1, .full 2, .int .i64 e.2.1.2.2.2.1, .bool e.2.1.2.2.2.2.1, .int .i64 e.2.1.2.2.2.2.2.1]⟩, some ⟨e.2.2.1.1, [.seq .str 0 e.2.2.1.2.1]⟩, some ⟨e.2.2.2.1.1, [.seq (.pair (.int .i64) .str) 0 e.2.2.2.1.2.1]⟩, some ⟨false, [.nils (some (.pair (.int .u64) (.pair (.int .u64) (.pair (.int .i64) .str))))]⟩, some ⟨false, [.seq (.pair (.int .u64) (.pair (.int .u64) (.pair (.int .i64) .str))) 0 e.2.2.2.2.2.1.2.1]⟩, some ⟨false, [.int .i64 y6]⟩, some ⟨false, [.full 15]⟩, none, some ⟨false, [.int .i64 e.2.2.2.2.2.2.2.2.2.1.2.1, .int .i64 e.2.2.2.2.2.2.2.2.2.1.2.2.1, .int .i64 e.2.2.2.2.2.2.2.2.2.1.2.2.2.1, .int .i64 e.2.2.2.2.2.2.2.2.2.1.2.2.2.2.1]⟩, some ⟨false, [.ptr 0 0]⟩, some ⟨false, [.int .u64 e.2.2.2.2.2.2.2.2.2.2.2.1.2.1]⟩, none, none, some ⟨false, []⟩, some ⟨false, []⟩, some ⟨false, [.seq (.pair (.int .u64) (.pair (.int .u64) (.pair (.int .i64) .str))) 0 y12]⟩, some ⟨false, [.int .u64 y13, .int .u64 y14, .int .i64 y15, .str y16]⟩, some ⟨false, [.int .u64 y17, .int .u64 y18, .int .i64 y19, .str y20]⟩, some ⟨false, [.int .u64 y21, .int .u64 y22, .int .i64 y23, .str y24]⟩]) (fun y12 y13 y14 y15 y16 => K (.exit 0) [] [some ⟨e.2.1.1, [.full 1, .full 2, .int .i64 e.2.1.2.2.2.1, .bool e.2.1.2.2.2.2.1, .int .i64 e.2.1.2.2.2.2.2.1]⟩, some ⟨e.2.2.1.1, [.seq .str 0 e.2.2.1.2.1]⟩, some ⟨e.2.2.2.1.1, [.seq (.pair (.int .i64) .str) 0 e.2.2.2.1.2.1]⟩, some ⟨false, [.full 4]⟩, some ⟨false, [.seq (.pair (.int .u64) (.pair (.int .u64) (.pair (.int .i64) .str))) 0 e.2.2.2.2.2.1.2.1]⟩, some ⟨false, [.int .i64 e.2.2.2.2.2.2.1.2.1]⟩, some ⟨false, [.full 15]⟩, none, some ⟨false, [.int .i64 e.2.2.2.2.2.2.2.2.2.1.2.1, .int .i64 e.2.2.2.2.2.2.2.2.2.1.2.2.1, .int .i64 e.2.2.2.2.2.2.2.2.2.1.2.2.2.1, .int .i64 e.2.2.2.2.2.2.2.2.2.1.2.2.2.2.1]⟩, some ⟨false, [.ptr 0 0]⟩, some ⟨false, [.int .u64 e.2.2.2.2.2.2.2.2.2.2.2.1.2.1]⟩, some ⟨false, []⟩, none, none, some ⟨false, []⟩, some ⟨false, [.seq (.pair (.int .u64) (.pair (.int .u64) (.pair (.int .i64) .str))) 0 y12]⟩, some ⟨false, [.int .u64 y13, .int .u64 y14, .int .i64 y15, .str y16]⟩]) k e.1.2.2.2.2.2.2.1 e.2.2.2.2.2.2.2.2.2.2.2.2.2.2.2.2.1.2.1 e.2.2.2.2.2.2.2.2.2.2.2.2.2.2.2.2.2.1.2.1 e.2.2.2.2.2.2.2.2.2.2.2.2.2.2.2.2.2.1.2.2.1 e.2.2.2.2.2.2.2.2.2.2.2.2.2.2.2.2.2.1.2.2.2.1 e.2.2.2.2.2.2.2.2.2.2.2.2.2.2.2.2.2.1.2.2.2.2.1) [7]
noncomputable def it34_1_2000005 (F : Nat) (d : sh34_1_l2000005.den) : Nat → Option LoopS := ltab [(2, GI34_1_2000005_2 F d F)]
theorem LI34_1_2000005_2 (F : Nat) (d : sh34_1_l2000005.den) : LoopOK Tryz.prog (T34_1 F) ⟨[], false, some (yieldOf Tryz.prog (T34_1 F) [] 28 noLT (mkEnv 28 [6, 7, 8, 17] (avsOf (encT sh34_1_l2000005.vs d.1))) (rgP rg34_0).toList (rgX rg34_0) (rgY rg34_0) .ret 11), noJn⟩ 38 15 (it34_1_2000005 F d) (GI34_1_2000005_2 F d F) ic34_1_2000005_b0 :=
  loopOK_of (s := sh34_1_r2000005_l2) (live := [0, 1, 2, 3, 5, 11, 12]) (out := (outT [(.exit 0, []), (.ret, [])])) (mv := [7]) (fun k e K => f34_1_r2000005_l2 F e.1.2.2.2.2.2.1 e.2.1.2.2.2.1 e.2.1.2.2.2.2.1 e.2.1.2.2.2.2.2.1 e.2.2.1.2.1 e.2.2.2.1.2.1 e.2.2.2.2.2.1.2.1 e.2.2.2.2.2.2.1.2.1 e.2.2.2.2.2.2.2.2.2.1.2.1 e.2.2.2.2.2.2.2.2.2.1.2.2.1 e.2.2.2.2.2.2.2.2.2.1.2.2.2.1 e.2.2.2.2.2.2.2.2.2.1.2.2.2.2.1 e.2.2.2.2.2.2.2.2.2.2.2.1.2.1 (fun y12 y13 y14 y15 y16 y17 y18 y19 y20 => K .ret [] [some ⟨e.2.1.1, [.full 1, .full 2, .int .i64 e.2.1.2.2.2.1, .bool e.2.1.2.2.2.2.1, .int .i64 e.2.1.2.2.2.2.2.1]⟩, some ⟨e.2.2.1.1, [.seq .str 0 e.2.2.1.2.1]⟩, some ⟨e.2.2.2.1.1, [.seq (.pair (.int .i64) .str) 0 e.2.2.2.1.2.1]⟩, some ⟨false, [.full 4]⟩, some ⟨false, [.seq (.pair (.int .u64) (.pair (.int .u64) (.pair (.int .i64) .str))) 0 e.2.2.2.2.2.1.2.1]⟩, some ⟨false, [.int .i64 e.2.2.2.2.2.2.1.2.1]⟩, some ⟨false, [.full 15]⟩, none, some ⟨false, [.int .i64 e.2.2.2.2.2.2.2.2.2.1.2.1, .int .i64 e.2.2.2.2.2.2.2.2.2.1.2.2.1, .int .i64 e.2.2.2.2.2.2.2.2.2.1.2.2.2.1, .int .i64 e.2.2.2.2.2.2.2.2.2.1.2.2.2.2.1]⟩, some ⟨false, [.ptr 0 0]⟩, some ⟨false, [.int .u64 e.2.2.2.2.2.2.2.2.2.2.2.1.2.1]⟩, some ⟨false, []⟩, none, none, some ⟨false, []⟩, some ⟨false, [.seq (.pair (.int .u64) (.pair (.int .u64) (.pair (.int .i64) .str))) 0 y12]⟩, some ⟨false, [.int .u64 y13, .int .u64 y14, .int .i64 y15, .str y16]⟩, some ⟨false, [.int .u64 y17, .int .u64 y18, .int .i64 y19, .str y20]⟩]) (fun y6 y12 y13 y14 y15 y16 y17 y18 y19 y20 y21 y22 y23 y24 => K .ret [] [some ⟨e.2.1.1, [.full 1, .full 2, .int .i64 e.2.1.2.2.2.1, .bool e.2.1.2.2.2.2.1, .int .i64 e.2.1.2.2.2.2.2.1]⟩, some ⟨e.2.2.1.1, [.seq .str 0 e.2.2.1.2.1]⟩, some ⟨e.2.2.2.1.1, [.seq (.pair (.int .i64) .str) 0 e.2.2.2.1.2.1]⟩, some ⟨false, [.nils (some (.pair (.int .u64) (.pair (.int .u64) (.pair (.int .i64) .str))))]⟩, some ⟨false, [.seq (.pair (.int .u64) (.pair (.int .u64) (.pair (.int .i64) .str))) 0 e.2.2.2.2.2.1.2.1]⟩, some ⟨false, [.int .i64 y6]⟩, some ⟨false, [.full 15]⟩, none, some ⟨false, [.int .i64 e.2.2.2.2.2.2.2.2.2.1.2.1, .int .i64 e.2.2.2.2.2.2.2.2.2.1.2.2.1, .int .i64 e.2.2.2.2.2.2.2.2.2.1.2.2.2.1, .int .i64 e.2.2.2.2.2.2.2.2.2.1.2.2.2.2.1]⟩, some ⟨false, [.ptr 0 0]⟩, some ⟨false, [.int .u64 e.2.2.2.2.2.2.2.2.2.2.2.1.2.1]⟩, none, none, some ⟨false, []⟩, some ⟨false, []⟩, some ⟨false, [.seq (.pair (.int .u64) (.pair (.int .u64) (.pair (.int .i64) .str))) 0 y12]⟩, some ⟨false, [.int .u64 y13, .int .u64 y14, .int .i64 y15, .str y16]⟩, some ⟨false, [.int .u64 y17, .int .u64 y18, .int .i64 y19, .str y20]⟩, some ⟨false, [.int .u64 y21, .int .u64 y22, .int .i64 y23, .str y24]⟩]) (fun y12 y13 y14 y15 y16 => K (.exit 0) [] [some ⟨e.2.1.1, [.full 1, .full 2, .int .i64 e.2.1.2.2.2.1, .bool e.2.1.2.2.2.2.1, .int .i64 e.2.1.2.2.2.2.2.1]⟩, some ⟨e.2.2.1.1, [.seq .str 0 e.2.2.1.2.1]⟩, some ⟨e.2.2.2.1.1, [.seq (.pair (.int .i64) .str) 0 e.2.2.2.1.2.1]⟩, some ⟨false, [.full 4]⟩, some ⟨false, [.seq (.pair (.int .u64) (.pair (.int .u64) (.pair (.int .i64) .str))) 0 e.2.2.2.2.2.1.2.1]⟩, some ⟨false, [.int .i64 e.2.2.2.2.2.2.1.2.1]⟩, some ⟨false, [.full 15]⟩, none, some ⟨false, [.int .i64 e.2.2.2.2.2.2.2.2.2.1.2.1, .int .i64 e.2.2.2.2.2.2.2.2.2.1.2.2.1, .int .i64 e.2.2.2.2.2.2.2.2.2.1.2.2.2.1, .int .i64 e.2.2.2.2.2.2.2.2.2.1.2.2.2.2.1]⟩, some ⟨false, [.ptr 0 0]⟩, some ⟨false, [.int .u64 e.2.2.2.2.2.2.2.2.2.2.2.1.2.1]⟩, some ⟨false, []⟩, none, none, some ⟨false, []⟩, some ⟨false, [.seq (.pair (.int .u64) (.pair (.int .u64) (.pair (.int .i64) .str))) 0 y12]⟩, some ⟨false, [.int .u64 y13, .int .u64 y14, .int .i64 y15, .str y16]⟩]) k e.1.2.2.2.2.2.2.1 e.2.2.2.2.2.2.2.2.2.2.2.2.2.2.2.2.1.2.1 e.2.2.2.2.2.2.2.2.2.2.2.2.2.2.2.2.2.1.2.1 e.2.2.2.2.2.2.2.2.2.2.2.2.2.2.2.2.2.1.2.2.1 e.2.2.2.2.2.2.2.2.2.2.2.2.2.2.2.2.2.1.2.2.2.1 e.2.2.2.2.2.2.2.2.2.2.2.2.2.2.2.2.2.1.2.2.2.2.1) F (fun e K => by kernel_rfl) (fun k e K => by refine (f34_1_r2000005_l2.eq_2 ..).trans ?_; delta T34_1 S90_1 S96_1 S150_1 it34_1_2000005; generalize (GI34_1_2000005_2 F d F) = c;  (try delta GI34_1_2000005_2); generalize (f90_1 F : Y90_1) = c, (f96_1 F : Y96_1) = c, (f150_1 F : Y150_1) = c, (f34_1_r2000005_l2 F : Int → Int → Bool → Int → List ByteArray → List (Int × ByteArray) → List (Int × (Int × (Int × ByteArray))) → Int → Int → Int → Int → Int → Int → (List (Int × (Int × (Int × ByteArray))) → Int → Int → Int → ByteArray → Int → Int → Int → ByteArray → Option Res) → (Int → List (Int × (Int × (Int × ByteArray))) → Int → Int → Int → ByteArray → Int → Int → Int → ByteArray → Int → Int → Int → ByteArray → Option Res) → (List (Int × (Int × (Int × ByteArray))) → Int → Int → Int → ByteArray → Option Res) → Nat → Int → List (Int × (Int × (Int × ByteArray))) → Int → Int → Int → ByteArray → Option Res) = c; as_aux_lemma => kernel_rfl)
theorem R34_1_2000005 (F : Nat) : RangeOK Tryz.prog (xw []) 28 3 (G34_1_2000005 F F) (.rangeFunc (rgG rg34_0) (rgP rg34_0) (rgX rg34_0) (rgY rg34_0)) :=
  rangeOK_of (X := (xw [])) (jump := .ret) (fun h => by cases h) rfl rfl (by kernel_rfl) (tab_cons (S90_1_ok F _ (noS_sound enter90)) (tab_cons (S96_1_ok F _ (noS_sound enter96)) (tab_cons (S150_1_ok F _ (noS_sound enter150)) tab_nil))) (s := sh34_1_l2000005) (live := [6, 7, 8, 17]) (out := (outT [(.normal, [6, 7, 8]), (.ret, [6, 7])])) (fun d K => f34_1_r2000005 F d.2.1.2.2.2.1 d.2.1.2.2.2.2.1 d.2.1.2.2.2.2.2.1 d.2.2.1.2.1 d.2.2.2.1.2.1 d.2.2.2.2.2.1.2.1 d.2.2.2.2.2.2.1.2.1 d.2.2.2.2.2.2.2.2.1.2.1 d.2.2.2.2.2.2.2.2.2.1.2.1 d.2.2.2.2.2.2.2.2.2.1.2.2.1 d.2.2.2.2.2.2.2.2.2.1.2.2.2.1 d.2.2.2.2.2.2.2.2.2.1.2.2.2.2.1 d.2.2.2.2.2.2.2.2.2.2.2.1.2.1 (fun y12 y13 y14 y15 y16 y17 y18 y19 y20 => K .normal [.tv (.lf (.ptr 3 0)), .tv (.lf (.ptr 5 0)), .tv (.lf (.ptr 6 0))] [some ⟨d.2.1.1, [.full 1, .full 2, .int .i64 d.2.1.2.2.2.1, .bool d.2.1.2.2.2.2.1, .int .i64 d.2.1.2.2.2.2.2.1]⟩, some ⟨d.2.2.1.1, [.seq .str 0 d.2.2.1.2.1]⟩, some ⟨d.2.2.2.1.1, [.seq (.pair (.int .i64) .str) 0 d.2.2.2.1.2.1]⟩, some ⟨false, [.full 4]⟩, some ⟨false, [.seq (.pair (.int .u64) (.pair (.int .u64) (.pair (.int .i64) .str))) 0 d.2.2.2.2.2.1.2.1]⟩, some ⟨false, [.int .i64 d.2.2.2.2.2.2.1.2.1]⟩, some ⟨false, [.full 15]⟩, none, some ⟨false, [.int .i64 d.2.2.2.2.2.2.2.2.2.1.2.1, .int .i64 d.2.2.2.2.2.2.2.2.2.1.2.2.1, .int .i64 d.2.2.2.2.2.2.2.2.2.1.2.2.2.1, .int .i64 d.2.2.2.2.2.2.2.2.2.1.2.2.2.2.1]⟩, some ⟨false, [.ptr 0 0]⟩, some ⟨false, [.int .u64 d.2.2.2.2.2.2.2.2.2.2.2.1.2.1]⟩, none, none, none, none, some ⟨false, [.seq (.pair (.int .u64) (.pair (.int .u64) (.pair (.int .i64) .str))) 0 y12]⟩, some ⟨false, [.int .u64 y13, .int .u64 y14, .int .i64 y15, .str y16]⟩, some ⟨false, [.int .u64 y17, .int .u64 y18, .int .i64 y19, .str y20]⟩]) (fun y6 y12 y13 y14 y15 y16 y17 y18 y19 y20 y21 y22 y23 y24 => K .ret [.tv (.lf (.ptr 3 0)), .tv (.lf (.ptr 5 0))] [some ⟨d.2.1.1, [.full 1, .full 2, .int .i64 d.2.1.2.2.2.1, .bool d.2.1.2.2.2.2.1, .int .i64 d.2.1.2.2.2.2.2.1]⟩, some ⟨d.2.2.1.1, [.seq .str 0 d.2.2.1.2.1]⟩, some ⟨d.2.2.2.1.1, [.seq (.pair (.int .i64) .str) 0 d.2.2.2.1.2.1]⟩, some ⟨false, [.nils (some (.pair (.int .u64) (.pair (.int .u64) (.pair (.int .i64) .str))))]⟩, some ⟨false, [.seq (.pair (.int .u64) (.pair (.int .u64) (.pair (.int .i64) .str))) 0 d.2.2.2.2.2.1.2.1]⟩, some ⟨false, [.int .i64 y6]⟩, some ⟨false, [.full 15]⟩, none, some ⟨false, [.int .i64 d.2.2.2.2.2.2.2.2.2.1.2.1, .int .i64 d.2.2.2.2.2.2.2.2.2.1.2.2.1, .int .i64 d.2.2.2.2.2.2.2.2.2.1.2.2.2.1, .int .i64 d.2.2.2.2.2.2.2.2.2.1.2.2.2.2.1]⟩, some ⟨false, [.ptr 0 0]⟩, some ⟨false, [.int .u64 d.2.2.2.2.2.2.2.2.2.2.2.1.2.1]⟩, none, none, none, none, some ⟨false, [.seq (.pair (.int .u64) (.pair (.int .u64) (.pair (.int .i64) .str))) 0 y12]⟩, some ⟨false, [.int .u64 y13, .int .u64 y14, .int .i64 y15, .str y16]⟩, some ⟨false, [.int .u64 y17, .int .u64 y18, .int .i64 y19, .str y20]⟩, some ⟨false, [.int .u64 y21, .int .u64 y22, .int .i64 y23, .str y24]⟩]) (fun y12 y13 y14 y15 y16 => K .normal [.tv (.lf (.ptr 3 0)), .tv (.lf (.ptr 5 0)), .tv (.lf (.ptr 6 0))] [some ⟨d.2.1.1, [.full 1, .full 2, .int .i64 d.2.1.2.2.2.1, .bool d.2.1.2.2.2.2.1, .int .i64 d.2.1.2.2.2.2.2.1]⟩, some ⟨d.2.2.1.1, [.seq .str 0 d.2.2.1.2.1]⟩, some ⟨d.2.2.2.1.1, [.seq (.pair (.int .i64) .str) 0 d.2.2.2.1.2.1]⟩, some ⟨false, [.full 4]⟩, some ⟨false, [.seq (.pair (.int .u64) (.pair (.int .u64) (.pair (.int .i64) .str))) 0 d.2.2.2.2.2.1.2.1]⟩, some ⟨false, [.int .i64 d.2.2.2.2.2.2.1.2.1]⟩, some ⟨false, [.full 15]⟩, none, some ⟨false, [.int .i64 d.2.2.2.2.2.2.2.2.2.1.2.1, .int .i64 d.2.2.2.2.2.2.2.2.2.1.2.2.1, .int .i64 d.2.2.2.2.2.2.2.2.2.1.2.2.2.1, .int .i64 d.2.2.2.2.2.2.2.2.2.1.2.2.2.2.1]⟩, some ⟨false, [.ptr 0 0]⟩, some ⟨false, [.int .u64 d.2.2.2.2.2.2.2.2.2.2.2.1.2.1]⟩, none, none, none, none, some ⟨false, [.seq (.pair (.int .u64) (.pair (.int .u64) (.pair (.int .i64) .str))) 0 y12]⟩, some ⟨false, [.int .u64 y13, .int .u64 y14, .int .i64 y15, .str y16]⟩])) (it34_1_2000005 F) (f := 149) (fn := Tryz.f149) (c := ic34_1_2000005) (wrI := []) (enter_of (fn := Tryz.f149) (by kernel_rfl) (by kernel_rfl) (by kernel_rfl)) (by kernel_rfl) (by kernel_rfl) (by kernel_rfl) (fun d K => by delta f34_1_r2000005 T34_1 S90_1 S96_1 S150_1 it34_1_2000005;  delta GI34_1_2000005_2; generalize (f90_1 F : Y90_1) = c, (f96_1 F : Y96_1) = c, (f150_1 F : Y150_1) = c, (f34_1_r2000005_l2 F : Int → Int → Bool → Int → List ByteArray → List (Int × ByteArray) → List (Int × (Int × (Int × ByteArray))) → Int → Int → Int → Int → Int → Int → (List (Int × (Int × (Int × ByteArray))) → Int → Int → Int → ByteArray → Int → Int → Int → ByteArray → Option Res) → (Int → List (Int × (Int × (Int × ByteArray))) → Int → Int → Int → ByteArray → Int → Int → Int → ByteArray → Int → Int → Int → ByteArray → Option Res) → (List (Int × (Int × (Int × ByteArray))) → Int → Int → Int → ByteArray → Option Res) → Nat → Int → List (Int × (Int × (Int × ByteArray))) → Int → Int → Int → ByteArray → Option Res) = c; as_aux_lemma => kernel_rfl) (fun d => by rw [ic34_1_2000005_loops]; exact (loopsOK_cons (by kernel_rfl) (LI34_1_2000005_2 F d) loopsOK_nil)) (fun d => by rw [ic34_1_2000005_scopes]; exact scopesOK_nil) (by kernel_rfl)
theorem E34_1 (F : Nat) (d : sh34_1.den) (K : KF) : EB Tryz.prog (T34_1 F) (xw []) 28 3 (LT34_1 F) [] false Tryz.f34 sh34_1 d K = A34_1 (f34_1 F) d K := by delta A34_1 f34_1 T34_1 S90_1 S96_1 S150_1 LT34_1;  delta G34_1_2000005; generalize (f90_1 F : Y90_1) = c, (f96_1 F : Y96_1) = c, (f150_1 F : Y150_1) = c, (f34_1_r2000005 F : Int → Bool → Int → List ByteArray → List (Int × ByteArray) → List (Int × (Int × (Int × ByteArray))) → Int → List (Int × (Int × (Int × ByteArray))) → Int → Int → Int → Int → Int → (List (Int × (Int × (Int × ByteArray))) → Int → Int → Int → ByteArray → Int → Int → Int → ByteArray → Option Res) → (Int → List (Int × (Int × (Int × ByteArray))) → Int → Int → Int → ByteArray → Int → Int → Int → ByteArray → Int → Int → Int → ByteArray → Option Res) → (List (Int × (Int × (Int × ByteArray))) → Int → Int → Int → ByteArray → Option Res) → Option Res) = c; as_aux_lemma => kernel_rfl
theorem S34_1_ok : So Tryz.prog 34 S34_1 :=
  fun F o ho => sOf (fn := Tryz.f34) (c := code34) (tab_cons (S90_1_ok F _ (noS_sound enter90)) (tab_cons (S96_1_ok F _ (noS_sound enter96)) (tab_cons (S150_1_ok F _ (noS_sound enter150)) tab_nil))) ho lnil snil (by rw [ranges34]; exact (rangesOK_cons (by kernel_rfl) (R34_1_2000005 F) rangesOK_nil)) (E34_1 F)
end
end Go.Proofs.YtlgopekjjkdkiaaGreatDoor.X
end