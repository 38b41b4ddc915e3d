/- Merged: EvF111, EvF106, EvF155, EvF190, EvF147, EvF226, EvF215, EvF191, EvF148, EvF146, Trm, TrimC, EvF127, EvF156, EvF157, EvF103, EvF103v6615, EvF193, EvF194, EvF216, EvF195, EvF158, EvF104, EvF16, EvF16v568, EvF217, EvF196, EvF159, EvF159v5436, EvF105, EvF129, EvF233, EvF227, EvF239, EvF243, EvF241, EvF240, ShaRest, PureW, ShaA, EvMultiDef. -/
import Derived.Test.YtlgopekjjkdkiaaGreatDoorMNodesFreshCard3
import Derived.Test.YtlgopekjjkdkiaaGreatDoorProg
import Derived.KernelRfl
import Derived.Shelf.Strings.SlTrimAscii
section
namespace Go.Proofs.YtlgopekjjkdkiaaGreatDoor.X
open Go Go.Proofs.YtlgopekjjkdkiaaGreatDoor.Ev Go.Proofs
set_option linter.unusedVariables false
set_option linter.unusedSectionVars false
section
noncomputable def f111_1_l3 {β : Type} (F : Nat) (v3 : Int) (v5 : List Int) (K0 : Int → Option β) : Nat → Int → Int → Option β
  | 0, _, _ => none
  | k + 1, v2, v4 => cond (decide (v4 < v3)) (cond (decide ((0 : Int) ≤ v4 ∧ v4 < ((v5.length : Nat) : Int))) (cond (decide (0 + v4.toNat < v5.length)) (f111_1_l3 F v3 v5 K0 k (IntKind.i64.wrap (v2 + (v5.getD (0 + v4.toNat) 0))) (IntKind.i64.wrap (v4 + 1))) none) none) (K0 v2)
noncomputable def f111_1 {β : Type} (F : Nat) (a1 a2 a3 a4 : Int) (K0 : Int → Option β) : Option β := f164_1 F a1 a2 a3 a4 (fun x1 => f111_1_l3 F ((x1.length : Nat) : Int) x1 (fun x6 => K0 x6) F 0 0) 
variable [FZ]
def sh111_1 : Sh := ⟨[.agg [.int .i64, .int .i64, .int .i64, .int .i64]], []⟩
abbrev Y111_1 := Int → Int → Int → Int → (Int → Option Res) → Option Res
noncomputable def A111_1 (g : Y111_1) (d : sh111_1.den) (K : KF) : Option Res := g d.1.1.1 d.1.1.2.1 d.1.1.2.2.1 d.1.1.2.2.2.1 (fun y0 => K [.lf (.int .i64 y0)] [])
noncomputable def S111_1 (F : Nat) (o : Summ) : Summ := mkS sh111_1 (fun d K => A111_1 (f111_1 F) d K) o
noncomputable def code111 : Code := bodyOf Tryz.f111
noncomputable def b111_0 : Code := cB (cB (cR (cL (cR (cR (code111))))))
theorem loops111 : loopsOf code111 = [b111_0] := by kernel_rfl
theorem enter111 : En Tryz.prog 111 := enO (fn := Tryz.f111)
noncomputable def T111_1 (F : Nat) : FuncId → Option Summ := tab [(164, (S164_1 F noS))]
def sh111_1_l3 : Sh := ⟨[.lf (.int .i64), .lf (.full 0), .lf (.int .i64), .lf (.int .i64)], [some ⟨some false, [.seq (.int .i64) 0]⟩]⟩
abbrev Y111_1_l3 := Int → List Int → (Int → Option Res) → Nat → Int → Int → Option Res
noncomputable def A111_1_l3 (g : Y111_1_l3) (k : Nat) (d : sh111_1_l3.den) (K : KL) : Option Res := g d.1.2.2.1 d.2.1.2.1 (fun y0 => K (.exit 0) [.tv (.lf (.int .i64 y0))] [some ⟨false, [.seq (.int .i64) 0 d.2.1.2.1]⟩]) k d.1.1 d.1.2.2.2.1
noncomputable def G111_1_3 (F k : Nat) : LoopS := mkG sh111_1_l3 [3, 7, 8, 9] (outT [(.exit 0, [3])]) (fun d K => A111_1_l3 (f111_1_l3 F) k d K) []
noncomputable def LT111_1 (F : Nat) : Nat → Option LoopS := ltab [(3, G111_1_3 F F)]
theorem L111_1_3 (F : Nat) : LoopOK Tryz.prog (T111_1 F) (xw []) 18 0 (LT111_1 F) (G111_1_3 F F) b111_0 :=
  loopOK_of (s := sh111_1_l3) (live := [3, 7, 8, 9]) (out := (outT [(.exit 0, [3])])) (mv := []) (fun k d K => A111_1_l3 (f111_1_l3 F) k d K) F (fun d K => by kernel_rfl)  (fun k d K => by delta A111_1_l3; refine (f111_1_l3.eq_2 ..).trans ?_; delta T111_1 S164_1 LT111_1; generalize (G111_1_3 F F) = c;  (try delta G111_1_3); generalize (f164_1 F : Y164_1) = c, (f111_1_l3 F : Y111_1_l3) = c; as_aux_lemma => kernel_rfl)
theorem E111_1 (F : Nat) (d : sh111_1.den) (K : KF) : EB Tryz.prog (T111_1 F) (xw []) 18 0 (LT111_1 F) [] false Tryz.f111 sh111_1 d K = A111_1 (f111_1 F) d K := by delta A111_1 f111_1 T111_1 S164_1 LT111_1;  delta G111_1_3; generalize (f164_1 F : Y164_1) = c, (f111_1_l3 F : Y111_1_l3) = c; as_aux_lemma => kernel_rfl
theorem S111_1_ok : So Tryz.prog 111 S111_1 :=
  fun F o ho => sOf (fn := Tryz.f111) (c := code111) (tab_cons (S164_1_ok F _ (noS_sound enter164)) tab_nil) ho (by rw [loops111]; exact (loopsOK_cons (by kernel_rfl) (L111_1_3 F) loopsOK_nil)) snil rnil (E111_1 F)
end
section
noncomputable def f106_1 {β : Type} (F : Nat) (a1 a2 a3 a4 : Int) (K0 : Int → Option β) : Option β := f111_1 F a1 a2 a3 a4 (fun x1 => K0 (if IntKind.i64.wrap (x1 - 1) > 0 then IntKind.i64.wrap (x1 - 1) else 0)) 
variable [FZ]
def sh106_1 : Sh := ⟨[.agg [.int .i64, .int .i64, .int .i64, .int .i64]], []⟩
abbrev Y106_1 := Int → Int → Int → Int → (Int → Option Res) → Option Res
noncomputable def A106_1 (g : Y106_1) (d : sh106_1.den) (K : KF) : Option Res := g d.1.1.1 d.1.1.2.1 d.1.1.2.2.1 d.1.1.2.2.2.1 (fun y0 => K [.lf (.int .i64 y0)] [])
noncomputable def S106_1 (F : Nat) (o : Summ) : Summ := mkS sh106_1 (fun d K => A106_1 (f106_1 F) d K) o
noncomputable def code106 : Code := bodyOf Tryz.f106
theorem enter106 : En Tryz.prog 106 := enO (fn := Tryz.f106)
noncomputable def T106_1 (F : Nat) : FuncId → Option Summ := tab [(111, (S111_1 F noS))]
noncomputable def LT106_1 (F : Nat) : Nat → Option LoopS := ltab []
theorem E106_1 (F : Nat) (d : sh106_1.den) (K : KF) : EB Tryz.prog (T106_1 F) (xw []) 7 0 (LT106_1 F) [] false Tryz.f106 sh106_1 d K = A106_1 (f106_1 F) d K := by delta A106_1 f106_1 T106_1 S111_1 LT106_1;  generalize (f111_1 F : Y111_1) = c; as_aux_lemma => kernel_rfl
theorem S106_1_ok : So Tryz.prog 106 S106_1 :=
  fun F o ho => sOf (fn := Tryz.f106) (c := code106) (tab_cons (S111_1_ok F _ (noS_sound enter111)) tab_nil) ho lnil snil rnil (E106_1 F)
end
section
noncomputable def f155_1 {β : Type} (F : Nat) (a1 a2 a3 a4 a5 : Int) (K0 : Int → Option β) : Option β := f90_1 F a1 a2 a3 a4 (fun x1 => cond (!x1) (K0 (-1)) (f106_1 F a1 a2 a3 a4 (fun x2 => f144_1 F a5 0 x2 (fun x3 => cond (!x3) (K0 (-1)) (K0 (IntKind.i64.wrap ((IntKind.i64.wrap (6 + a1)) + a5)))) ) )) 
variable [FZ]
def sh155_1 : Sh := ⟨[.agg [.int .i64, .int .i64, .int .i64, .int .i64], .lf (.int .i64)], []⟩
abbrev Y155_1 := Int → Int → Int → Int → Int → (Int → Option Res) → Option Res
noncomputable def A155_1 (g : Y155_1) (d : sh155_1.den) (K : KF) : Option Res := g d.1.1.1 d.1.1.2.1 d.1.1.2.2.1 d.1.1.2.2.2.1 d.1.2.1 (fun y0 => K [.lf (.int .i64 y0)] [])
noncomputable def S155_1 (F : Nat) (o : Summ) : Summ := mkS sh155_1 (fun d K => A155_1 (f155_1 F) d K) o
noncomputable def code155 : Code := bodyOf Tryz.f155
theorem enter155 : En Tryz.prog 155 := enO (fn := Tryz.f155)
noncomputable def T155_1 (F : Nat) : FuncId → Option Summ := tab [(90, (S90_1 F noS)), (106, (S106_1 F noS)), (144, (S144_1 F noS))]
noncomputable def LT155_1 (F : Nat) : Nat → Option LoopS := ltab []
theorem E155_1 (F : Nat) (d : sh155_1.den) (K : KF) : EB Tryz.prog (T155_1 F) (xw []) 20 0 (LT155_1 F) [] false Tryz.f155 sh155_1 d K = A155_1 (f155_1 F) d K := by delta A155_1 f155_1 T155_1 S90_1 S106_1 S144_1 LT155_1;  generalize (f90_1 F : Y90_1) = c, (f106_1 F : Y106_1) = c, (f144_1 F : Y144_1) = c; as_aux_lemma => kernel_rfl
theorem S155_1_ok : So Tryz.prog 155 S155_1 :=
  fun F o ho => sOf (fn := Tryz.f155) (c := code155) (tab_cons (S90_1_ok F _ (noS_sound enter90)) (tab_cons (S106_1_ok F _ (noS_sound enter106)) (tab_cons (S144_1_ok F _ (noS_sound enter144)) tab_nil))) ho lnil snil rnil (E155_1 F)
end
section
noncomputable def f190_1 {β : Type} (F : Nat) (a1 : Int) (K0 : Bool → Option β) : Option β := cond (decide (a1 ≥ 1)) (K0 (decide (a1 ≤ 8))) (K0 false)
variable [FZ]
def sh190_1 : Sh := ⟨[.lf (.int .i64)], []⟩
abbrev Y190_1 := Int → (Bool → Option Res) → Option Res
noncomputable def A190_1 (g : Y190_1) (d : sh190_1.den) (K : KF) : Option Res := g d.1.1 (fun y0 => K [.lf (.bool y0)] [])
noncomputable def S190_1 (F : Nat) (o : Summ) : Summ := mkS sh190_1 (fun d K => A190_1 (f190_1 F) d K) o
noncomputable def code190 : Code := bodyOf Tryz.f190
theorem enter190 : En Tryz.prog 190 := enO (fn := Tryz.f190)
noncomputable def T190_1 (F : Nat) : FuncId → Option Summ := tab []
noncomputable def LT190_1 (F : Nat) : Nat → Option LoopS := ltab []
theorem E190_1 (F : Nat) (d : sh190_1.den) (K : KF) : EB Tryz.prog (T190_1 F) (xw []) 9 0 (LT190_1 F) [] false Tryz.f190 sh190_1 d K = A190_1 (f190_1 F) d K := by delta A190_1 f190_1 T190_1 LT190_1;   as_aux_lemma => kernel_rfl
theorem S190_1_ok : So Tryz.prog 190 S190_1 :=
  fun F o ho => sOf (fn := Tryz.f190) (c := code190) tab_nil ho lnil snil rnil (E190_1 F)
end
section
noncomputable def f147_1_l6 {β : Type} (F : Nat) (v2 : Int) (v4 : List Int) (K0 : List Int → Option β) : Nat → Int → List Int → Option β
  | 0, _, _ => none
  | k + 1, v3, v5 => cond (decide (v3 ≥ 0)) (cond (decide (v3 < 0)) none (cond (decide ((v5.length + 1) * 1 ≤ 70368744177664)) (f147_1_l6 F v2 v4 K0 k (IntKind.i64.wrap (v3 - 8)) (v5 ++ [IntKind.u8.wrap (ishr .u64 v2 v3)])) none)) (K0 v5)
noncomputable def f147_1 {β : Type} (F : Nat) (a1 a2 : Int) (a3 : List Int) (K0 : List Int → Option β) : Option β := cond (decide ((0 : Int) ≤ (0 : Int) ∧ (0 : Int) ≤ IntKind.i64.wrap (((a3.length : Nat) : Int) + 8) ∧ IntKind.i64.wrap (((a3.length : Nat) : Int) + 8) ≤ 70368744177664 ∧ IntKind.i64.wrap (((a3.length : Nat) : Int) + 8) * 1 ≤ 70368744177664)) (cond (decide ((0 + a3.length) * 1 ≤ 70368744177664)) (f190_1 F a1 (fun x1 => cond (!x1) (K0 ((((List.replicate ((IntKind.i64.wrap (((a3.length : Nat) : Int) + 8)).toNat) 0).drop 0).take 0) ++ a3)) (f147_1_l6 F a2 a3 (fun x6 => K0 x6) F (IntKind.i64.wrap (8 * (IntKind.i64.wrap (a1 - 1)))) ((((List.replicate ((IntKind.i64.wrap (((a3.length : Nat) : Int) + 8)).toNat) 0).drop 0).take 0) ++ a3))) ) none) none
variable [FZ]
def sh147_1 : Sh := ⟨[.lf (.full 0), .lf (.int .i64), .lf (.int .u64)], [some ⟨none, [.seq (.int .u8) 0]⟩]⟩
abbrev Y147_1 := Int → Int → List Int → (List Int → Option Res) → Option Res
noncomputable def A147_1 (g : Y147_1) (d : sh147_1.den) (K : KF) : Option Res := g d.1.2.1 d.1.2.2.1 d.2.1.2.1 (fun y1 => K [.lf (.full 1)] [some ⟨d.2.1.1, [.seq (.int .u8) 0 d.2.1.2.1]⟩, some ⟨false, [.seq (.int .u8) 0 y1]⟩])
noncomputable def S147_1 (F : Nat) (o : Summ) : Summ := mkS sh147_1 (fun d K => A147_1 (f147_1 F) d K) o
noncomputable def code147 : Code := bodyOf Tryz.f147
noncomputable def b147_0 : Code := cB (cB (cR (cL (cR (cR (cR (cR (code147))))))))
theorem loops147 : loopsOf code147 = [b147_0] := by kernel_rfl
theorem enter147 : En Tryz.prog 147 := enO (fn := Tryz.f147)
noncomputable def T147_1 (F : Nat) : FuncId → Option Summ := tab [(190, (S190_1 F noS))]
def sh147_1_l6 : Sh := ⟨[.lf (.int .u64), .lf (.full 1), .lf (.int .i64)], [some ⟨none, [.seq (.int .u8) 0]⟩, some ⟨some false, [.seq (.int .u8) 0]⟩]⟩
abbrev Y147_1_l6 := Int → List Int → (List Int → Option Res) → Nat → Int → List Int → Option Res
noncomputable def A147_1_l6 (g : Y147_1_l6) (k : Nat) (d : sh147_1_l6.den) (K : KL) : Option Res := g d.1.1 d.2.1.2.1 (fun y1 => K (.exit 0) [.tv (.lf (.full 1))] [some ⟨d.2.1.1, [.seq (.int .u8) 0 d.2.1.2.1]⟩, some ⟨false, [.seq (.int .u8) 0 y1]⟩]) k d.1.2.2.1 d.2.2.1.2.1
noncomputable def G147_1_6 (F k : Nat) : LoopS := mkG sh147_1_l6 [2, 7, 8] (outT [(.exit 0, [7])]) (fun d K => A147_1_l6 (f147_1_l6 F) k d K) []
noncomputable def LT147_1 (F : Nat) : Nat → Option LoopS := ltab [(6, G147_1_6 F F)]
theorem L147_1_6 (F : Nat) : LoopOK Tryz.prog (T147_1 F) (xw []) 35 1 (LT147_1 F) (G147_1_6 F F) b147_0 :=
  loopOK_of (s := sh147_1_l6) (live := [2, 7, 8]) (out := (outT [(.exit 0, [7])])) (mv := []) (fun k d K => A147_1_l6 (f147_1_l6 F) k d K) F (fun d K => by kernel_rfl)  (fun k d K => by delta A147_1_l6; refine (f147_1_l6.eq_2 ..).trans ?_; delta T147_1 S190_1 LT147_1; generalize (G147_1_6 F F) = c;  (try delta G147_1_6); generalize (f190_1 F : Y190_1) = c, (f147_1_l6 F : Y147_1_l6) = c; as_aux_lemma => kernel_rfl)
theorem E147_1 (F : Nat) (d : sh147_1.den) (K : KF) : EB Tryz.prog (T147_1 F) (xw []) 35 1 (LT147_1 F) [] false Tryz.f147 sh147_1 d K = A147_1 (f147_1 F) d K := by delta A147_1 f147_1 T147_1 S190_1 LT147_1;  delta G147_1_6; generalize (f190_1 F : Y190_1) = c, (f147_1_l6 F : Y147_1_l6) = c; as_aux_lemma => kernel_rfl
theorem S147_1_ok : So Tryz.prog 147 S147_1 :=
  fun F o ho => sOf (fn := Tryz.f147) (c := code147) (tab_cons (S190_1_ok F _ (noS_sound enter190)) tab_nil) ho (by rw [loops147]; exact (loopsOK_cons (by kernel_rfl) (L147_1_6 F) loopsOK_nil)) snil rnil (E147_1 F)
end
section
noncomputable def f226_1_l2 {β : Type} (F : Nat)  (K0 : Int → Option β) : Nat → Int → Int → Option β
  | 0, _, _ => none
  | k + 1, v1, v2 => cond (decide (v2 < 8)) (cond ((iand .u32 v1 1) == 1) (f226_1_l2 F K0 k (ixor .u32 (ishr .u32 v1 1) 2197175160) (IntKind.i64.wrap (v2 + 1))) (f226_1_l2 F K0 k (ishr .u32 v1 1) (IntKind.i64.wrap (v2 + 1)))) (K0 v1)
noncomputable def f226_1 {β : Type} (F : Nat) (a1 : Int) (K0 : Int → Option β) : Option β := f226_1_l2 F  (fun x3 => K0 x3) F a1 0
variable [FZ]
def sh226_1 : Sh := ⟨[.lf (.int .u32)], []⟩
abbrev Y226_1 := Int → (Int → Option Res) → Option Res
noncomputable def A226_1 (g : Y226_1) (d : sh226_1.den) (K : KF) : Option Res := g d.1.1 (fun y0 => K [.lf (.int .u32 y0)] [])
noncomputable def S226_1 (F : Nat) (o : Summ) : Summ := mkS sh226_1 (fun d K => A226_1 (f226_1 F) d K) o
noncomputable def code226 : Code := bodyOf Tryz.f226
noncomputable def b226_0 : Code := cB (cB (cR (cL (cR (code226)))))
theorem loops226 : loopsOf code226 = [b226_0] := by kernel_rfl
theorem enter226 : En Tryz.prog 226 := enO (fn := Tryz.f226)
noncomputable def T226_1 (F : Nat) : FuncId → Option Summ := tab []
def sh226_1_l2 : Sh := ⟨[.lf (.int .u32), .lf (.int .i64)], []⟩
abbrev Y226_1_l2 := (Int → Option Res) → Nat → Int → Int → Option Res
noncomputable def A226_1_l2 (g : Y226_1_l2) (k : Nat) (d : sh226_1_l2.den) (K : KL) : Option Res := g (fun y0 => K (.exit 0) [.tv (.lf (.int .u32 y0))] []) k d.1.1 d.1.2.1
noncomputable def G226_1_2 (F k : Nat) : LoopS := mkG sh226_1_l2 [0, 4] (outT [(.exit 0, [0])]) (fun d K => A226_1_l2 (f226_1_l2 F) k d K) []
noncomputable def LT226_1 (F : Nat) : Nat → Option LoopS := ltab [(2, G226_1_2 F F)]
theorem L226_1_2 (F : Nat) : LoopOK Tryz.prog (T226_1 F) (xw []) 16 0 (LT226_1 F) (G226_1_2 F F) b226_0 :=
  loopOK_of (s := sh226_1_l2) (live := [0, 4]) (out := (outT [(.exit 0, [0])])) (mv := []) (fun k d K => A226_1_l2 (f226_1_l2 F) k d K) F (fun d K => by kernel_rfl)  (fun k d K => by delta A226_1_l2; refine (f226_1_l2.eq_2 ..).trans ?_; delta T226_1 LT226_1; generalize (G226_1_2 F F) = c;  (try delta G226_1_2); generalize (f226_1_l2 F : Y226_1_l2) = c; as_aux_lemma => kernel_rfl)
theorem E226_1 (F : Nat) (d : sh226_1.den) (K : KF) : EB Tryz.prog (T226_1 F) (xw []) 16 0 (LT226_1 F) [] false Tryz.f226 sh226_1 d K = A226_1 (f226_1 F) d K := by delta A226_1 f226_1 T226_1 LT226_1;  delta G226_1_2; generalize (f226_1_l2 F : Y226_1_l2) = c; as_aux_lemma => kernel_rfl
theorem S226_1_ok : So Tryz.prog 226 S226_1 :=
  fun F o ho => sOf (fn := Tryz.f226) (c := code226) tab_nil ho (by rw [loops226]; exact (loopsOK_cons (by kernel_rfl) (L226_1_2 F) loopsOK_nil)) snil rnil (E226_1 F)
end
section
noncomputable def f215_1_l3 {β : Type} (F : Nat) (v2 : List Int) (K0 : List Int → Option β) : Nat → Int → List Int → Option β
  | 0, _, _ => none
  | k + 1, v1, v3 => cond (decide (v1 < 256)) (f226_1 F (IntKind.u32.wrap v1) (fun x4 => cond (decide ((0 : Int) ≤ v1 ∧ v1 < 256)) (cond (decide (v1.toNat < v3.length)) (f215_1_l3 F v2 K0 k (IntKind.i64.wrap (v1 + 1)) (v3.set v1.toNat x4)) none) none) ) (K0 v3)
noncomputable def f215_1 {β : Type} (F : Nat)  (K0 : List Int → Option β) : Option β := f215_1_l3 F [0, 0, 0, 0, 0, 0, 0, 0, 0, 0, 0, 0, 0, 0, 0, 0, 0, 0, 0, 0, 0, 0, 0, 0, 0, 0, 0, 0, 0, 0, 0, 0, 0, 0, 0, 0, 0, 0, 0, 0, 0, 0, 0, 0, 0, 0, 0, 0, 0, 0, 0, 0, 0, 0, 0, 0, 0, 0, 0, 0, 0, 0, 0, 0, 0, 0, 0, 0, 0, 0, 0, 0, 0, 0, 0, 0, 0, 0, 0, 0, 0, 0, 0, 0, 0, 0, 0, 0, 0, 0, 0, 0, 0, 0, 0, 0, 0, 0, 0, 0, 0, 0, 0, 0, 0, 0, 0, 0, 0, 0, 0, 0, 0, 0, 0, 0, 0, 0, 0, 0, 0, 0, 0, 0, 0, 0, 0, 0, 0, 0, 0, 0, 0, 0, 0, 0, 0, 0, 0, 0, 0, 0, 0, 0, 0, 0, 0, 0, 0, 0, 0, 0, 0, 0, 0, 0, 0, 0, 0, 0, 0, 0, 0, 0, 0, 0, 0, 0, 0, 0, 0, 0, 0, 0, 0, 0, 0, 0, 0, 0, 0, 0, 0, 0, 0, 0, 0, 0, 0, 0, 0, 0, 0, 0, 0, 0, 0, 0, 0, 0, 0, 0, 0, 0, 0, 0, 0, 0, 0, 0, 0, 0, 0, 0, 0, 0, 0, 0, 0, 0, 0, 0, 0, 0, 0, 0, 0, 0, 0, 0, 0, 0, 0, 0, 0, 0, 0, 0, 0, 0, 0, 0, 0, 0, 0, 0, 0, 0, 0, 0, 0, 0, 0, 0, 0, 0] (fun x5 => K0 x5) F 0 [0, 0, 0, 0, 0, 0, 0, 0, 0, 0, 0, 0, 0, 0, 0, 0, 0, 0, 0, 0, 0, 0, 0, 0, 0, 0, 0, 0, 0, 0, 0, 0, 0, 0, 0, 0, 0, 0, 0, 0, 0, 0, 0, 0, 0, 0, 0, 0, 0, 0, 0, 0, 0, 0, 0, 0, 0, 0, 0, 0, 0, 0, 0, 0, 0, 0, 0, 0, 0, 0, 0, 0, 0, 0, 0, 0, 0, 0, 0, 0, 0, 0, 0, 0, 0, 0, 0, 0, 0, 0, 0, 0, 0, 0, 0, 0, 0, 0, 0, 0, 0, 0, 0, 0, 0, 0, 0, 0, 0, 0, 0, 0, 0, 0, 0, 0, 0, 0, 0, 0, 0, 0, 0, 0, 0, 0, 0, 0, 0, 0, 0, 0, 0, 0, 0, 0, 0, 0, 0, 0, 0, 0, 0, 0, 0, 0, 0, 0, 0, 0, 0, 0, 0, 0, 0, 0, 0, 0, 0, 0, 0, 0, 0, 0, 0, 0, 0, 0, 0, 0, 0, 0, 0, 0, 0, 0, 0, 0, 0, 0, 0, 0, 0, 0, 0, 0, 0, 0, 0, 0, 0, 0, 0, 0, 0, 0, 0, 0, 0, 0, 0, 0, 0, 0, 0, 0, 0, 0, 0, 0, 0, 0, 0, 0, 0, 0, 0, 0, 0, 0, 0, 0, 0, 0, 0, 0, 0, 0, 0, 0, 0, 0, 0, 0, 0, 0, 0, 0, 0, 0, 0, 0, 0, 0, 0, 0, 0, 0, 0, 0, 0, 0, 0, 0, 0, 0]
variable [FZ]
def sh215_1 : Sh := ⟨[], []⟩
abbrev Y215_1 := (List Int → Option Res) → Option Res
noncomputable def A215_1 (g : Y215_1) (d : sh215_1.den) (K : KF) : Option Res := g (fun y0 => K [.agg [.seq (.int .u32) 256 y0]] [])
noncomputable def S215_1 (F : Nat) (o : Summ) : Summ := mkS sh215_1 (fun d K => A215_1 (f215_1 F) d K) o
noncomputable def code215 : Code := bodyOf Tryz.f215
noncomputable def b215_0 : Code := cB (cB (cR (cL (cR (cR (code215))))))
theorem loops215 : loopsOf code215 = [b215_0] := by kernel_rfl
theorem enter215 : En Tryz.prog 215 := enO (fn := Tryz.f215)
noncomputable def T215_1 (F : Nat) : FuncId → Option Summ := tab [(226, (S226_1 F noS))]
def sh215_1_l3 : Sh := ⟨[.lf (.ptr 0 0), .lf (.ptr 1 0), .lf (.int .i64)], [some ⟨some false, [.seq (.int .u32) 256]⟩, some ⟨some false, [.seq (.int .u32) 256]⟩]⟩
abbrev Y215_1_l3 := List Int → (List Int → Option Res) → Nat → Int → List Int → Option Res
noncomputable def A215_1_l3 (g : Y215_1_l3) (k : Nat) (d : sh215_1_l3.den) (K : KL) : Option Res := g d.2.1.2.1 (fun y1 => K (.exit 0) [.tv (.lf (.ptr 0 0)), .tv (.lf (.ptr 1 0))] [some ⟨false, [.seq (.int .u32) 256 d.2.1.2.1]⟩, some ⟨false, [.seq (.int .u32) 256 y1]⟩]) k d.1.2.2.1 d.2.2.1.2.1
noncomputable def G215_1_3 (F k : Nat) : LoopS := mkG sh215_1_l3 [0, 1, 3] (outT [(.exit 0, [0, 1])]) (fun d K => A215_1_l3 (f215_1_l3 F) k d K) []
noncomputable def LT215_1 (F : Nat) : Nat → Option LoopS := ltab [(3, G215_1_3 F F)]
theorem L215_1_3 (F : Nat) : LoopOK Tryz.prog (T215_1 F) (xw []) 13 0 (LT215_1 F) (G215_1_3 F F) b215_0 :=
  loopOK_of (s := sh215_1_l3) (live := [0, 1, 3]) (out := (outT [(.exit 0, [0, 1])])) (mv := []) (fun k d K => A215_1_l3 (f215_1_l3 F) k d K) F (fun d K => by kernel_rfl)  (fun k d K => by delta A215_1_l3; refine (f215_1_l3.eq_2 ..).trans ?_; delta T215_1 S226_1 LT215_1; generalize (G215_1_3 F F) = c;  (try delta G215_1_3); generalize (f226_1 F : Y226_1) = c, (f215_1_l3 F : Y215_1_l3) = c; as_aux_lemma => kernel_rfl)
theorem E215_1 (F : Nat) (d : sh215_1.den) (K : KF) : EB Tryz.prog (T215_1 F) (xw []) 13 0 (LT215_1 F) [] false Tryz.f215 sh215_1 d K = A215_1 (f215_1 F) d K := by delta A215_1 f215_1 T215_1 S226_1 LT215_1;  delta G215_1_3; generalize (f226_1 F : Y226_1) = c, (f215_1_l3 F : Y215_1_l3) = c; as_aux_lemma => kernel_rfl
theorem S215_1_ok : So Tryz.prog 215 S215_1 :=
  fun F o ho => sOf (fn := Tryz.f215) (c := code215) (tab_cons (S226_1_ok F _ (noS_sound enter226)) tab_nil) ho (by rw [loops215]; exact (loopsOK_cons (by kernel_rfl) (L215_1_3 F) loopsOK_nil)) snil rnil (E215_1 F)
end
section
noncomputable def f191_1_l4 {β : Type} (F : Nat) (v3 : Int) (v5 v6 : List Int) (K0 : Int → Option β) : Nat → Int → Int → Option β
  | 0, _, _ => none
  | k + 1, v2, v4 => cond (decide (v4 < v3)) (cond (decide ((0 : Int) ≤ v4 ∧ v4 < ((v5.length : Nat) : Int))) (cond (decide (0 + v4.toNat < v5.length)) (cond (decide ((0 : Int) ≤ ixor .u8 (IntKind.u8.wrap v2) (v5.getD (0 + v4.toNat) 0) ∧ ixor .u8 (IntKind.u8.wrap v2) (v5.getD (0 + v4.toNat) 0) < 256)) (cond (decide ((ixor .u8 (IntKind.u8.wrap v2) (v5.getD (0 + v4.toNat) 0)).toNat < v6.length)) (f191_1_l4 F v3 v5 v6 K0 k (ixor .u32 (ishr .u32 v2 8) (v6.getD ((ixor .u8 (IntKind.u8.wrap v2) (v5.getD (0 + v4.toNat) 0)).toNat) 0)) (IntKind.i64.wrap (v4 + 1))) none) none) none) none) (K0 v2)
noncomputable def f191_1 {β : Type} (F : Nat) (a1 : Int) (a2 : List Int) (K0 : Int → Option β) : Option β := f215_1 F  (fun x1 => f191_1_l4 F ((a2.length : Nat) : Int) a2 x1 (fun x7 => K0 (ixor .u32 4294967295 x7)) F (ixor .u32 4294967295 a1) 0) 
variable [FZ]
def sh191_1 : Sh := ⟨[.lf (.int .u32), .lf (.full 0)], [some ⟨none, [.seq (.int .u8) 0]⟩]⟩
abbrev Y191_1 := Int → List Int → (Int → Option Res) → Option Res
noncomputable def A191_1 (g : Y191_1) (d : sh191_1.den) (K : KF) : Option Res := g d.1.1 d.2.1.2.1 (fun y0 => K [.lf (.int .u32 y0)] [some ⟨d.2.1.1, [.seq (.int .u8) 0 d.2.1.2.1]⟩])
noncomputable def S191_1 (F : Nat) (o : Summ) : Summ := mkS sh191_1 (fun d K => A191_1 (f191_1 F) d K) o
noncomputable def code191 : Code := bodyOf Tryz.f191
noncomputable def b191_0 : Code := cB (cB (cR (cL (cR (cR (cR (code191)))))))
theorem loops191 : loopsOf code191 = [b191_0] := by kernel_rfl
theorem enter191 : En Tryz.prog 191 := enO (fn := Tryz.f191)
noncomputable def T191_1 (F : Nat) : FuncId → Option Summ := tab [(215, (S215_1 F noS))]
def sh191_1_l4 : Sh := ⟨[.lf (.ptr 1 0), .lf (.int .u32), .lf (.full 0), .lf (.int .i64), .lf (.int .i64)], [some ⟨none, [.seq (.int .u8) 0]⟩, some ⟨some false, [.seq (.int .u32) 256]⟩]⟩
abbrev Y191_1_l4 := Int → List Int → List Int → (Int → Option Res) → Nat → Int → Int → Option Res
noncomputable def A191_1_l4 (g : Y191_1_l4) (k : Nat) (d : sh191_1_l4.den) (K : KL) : Option Res := g d.1.2.2.2.1 d.2.1.2.1 d.2.2.1.2.1 (fun y0 => K (.exit 0) [.tv (.lf (.int .u32 y0))] [some ⟨d.2.1.1, [.seq (.int .u8) 0 d.2.1.2.1]⟩, some ⟨false, [.seq (.int .u32) 256 d.2.2.1.2.1]⟩]) k d.1.2.1 d.1.2.2.2.2.1
noncomputable def G191_1_4 (F k : Nat) : LoopS := mkG sh191_1_l4 [5, 6, 12, 13, 14] (outT [(.exit 0, [6])]) (fun d K => A191_1_l4 (f191_1_l4 F) k d K) []
noncomputable def LT191_1 (F : Nat) : Nat → Option LoopS := ltab [(4, G191_1_4 F F)]
theorem L191_1_4 (F : Nat) : LoopOK Tryz.prog (T191_1 F) (xw []) 30 1 (LT191_1 F) (G191_1_4 F F) b191_0 :=
  loopOK_of (s := sh191_1_l4) (live := [5, 6, 12, 13, 14]) (out := (outT [(.exit 0, [6])])) (mv := []) (fun k d K => A191_1_l4 (f191_1_l4 F) k d K) F (fun d K => by kernel_rfl)  (fun k d K => by delta A191_1_l4; refine (f191_1_l4.eq_2 ..).trans ?_; delta T191_1 S215_1 LT191_1; generalize (G191_1_4 F F) = c;  (try delta G191_1_4); generalize (f215_1 F : Y215_1) = c, (f191_1_l4 F : Y191_1_l4) = c; as_aux_lemma => kernel_rfl)
theorem E191_1 (F : Nat) (d : sh191_1.den) (K : KF) : EB Tryz.prog (T191_1 F) (xw []) 30 1 (LT191_1 F) [] false Tryz.f191 sh191_1 d K = A191_1 (f191_1 F) d K := by delta A191_1 f191_1 T191_1 S215_1 LT191_1;  delta G191_1_4; generalize (f215_1 F : Y215_1) = c, (f191_1_l4 F : Y191_1_l4) = c; as_aux_lemma => kernel_rfl
theorem S191_1_ok : So Tryz.prog 191 S191_1 :=
  fun F o ho => sOf (fn := Tryz.f191) (c := code191) (tab_cons (S215_1_ok F _ (noS_sound enter215)) tab_nil) ho (by rw [loops191]; exact (loopsOK_cons (by kernel_rfl) (L191_1_4 F) loopsOK_nil)) snil rnil (E191_1 F)
end
section
noncomputable def f148_1 {β : Type} (F : Nat) (a1 : List Int) (K0 : Int → Option β) : Option β := f191_1 F 0 a1 (fun x1 => K0 x1) 
variable [FZ]
def sh148_1 : Sh := ⟨[.lf (.full 0)], [some ⟨none, [.seq (.int .u8) 0]⟩]⟩
abbrev Y148_1 := List Int → (Int → Option Res) → Option Res
noncomputable def A148_1 (g : Y148_1) (d : sh148_1.den) (K : KF) : Option Res := g d.2.1.2.1 (fun y0 => K [.lf (.int .u32 y0)] [some ⟨d.2.1.1, [.seq (.int .u8) 0 d.2.1.2.1]⟩])
noncomputable def S148_1 (F : Nat) (o : Summ) : Summ := mkS sh148_1 (fun d K => A148_1 (f148_1 F) d K) o
noncomputable def code148 : Code := bodyOf Tryz.f148
theorem enter148 : En Tryz.prog 148 := enO (fn := Tryz.f148)
noncomputable def T148_1 (F : Nat) : FuncId → Option Summ := tab [(191, (S191_1 F noS))]
noncomputable def LT148_1 (F : Nat) : Nat → Option LoopS := ltab []
theorem E148_1 (F : Nat) (d : sh148_1.den) (K : KF) : EB Tryz.prog (T148_1 F) (xw []) 5 1 (LT148_1 F) [] false Tryz.f148 sh148_1 d K = A148_1 (f148_1 F) d K := by delta A148_1 f148_1 T148_1 S191_1 LT148_1;  generalize (f191_1 F : Y191_1) = c; as_aux_lemma => kernel_rfl
theorem S148_1_ok : So Tryz.prog 148 S148_1 :=
  fun F o ho => sOf (fn := Tryz.f148) (c := code148) (tab_cons (S191_1_ok F _ (noS_sound enter191)) tab_nil) ho lnil snil rnil (E148_1 F)
end
section
noncomputable def f146_1 {β : Type} (F : Nat) (a1 : ByteArray) (K0 : ByteArray → Option β) : Option β := cond (decide ((0 : Int) ≤ (0 : Int) ∧ (0 : Int) ≤ (60 : Int) ∧ (60 : Int) ≤ (a1.size : Int))) (f148_1 F (toInts (a1.extract 0 60)) (fun x1 => f147_1 F 4 (IntKind.u64.wrap x1) [] (fun x2 => K0 (ofInts x2)) ) ) none
variable [FZ]
def sh146_1 : Sh := ⟨[.lf (.str)], []⟩
abbrev Y146_1 := ByteArray → (ByteArray → Option Res) → Option Res
noncomputable def A146_1 (g : Y146_1) (d : sh146_1.den) (K : KF) : Option Res := g d.1.1 (fun y0 => K [.lf (.str y0)] [])
noncomputable def S146_1 (F : Nat) (o : Summ) : Summ := mkS sh146_1 (fun d K => A146_1 (f146_1 F) d K) o
noncomputable def code146 : Code := bodyOf Tryz.f146
theorem enter146 : En Tryz.prog 146 := enO (fn := Tryz.f146)
noncomputable def T146_1 (F : Nat) : FuncId → Option Summ := tab [(147, (S147_1 F noS)), (148, (S148_1 F noS))]
noncomputable def LT146_1 (F : Nat) : Nat → Option LoopS := ltab []
theorem E146_1 (F : Nat) (d : sh146_1.den) (K : KF) : EB Tryz.prog (T146_1 F) (xw []) 10 0 (LT146_1 F) [] false Tryz.f146 sh146_1 d K = A146_1 (f146_1 F) d K := by delta A146_1 f146_1 T146_1 S147_1 S148_1 LT146_1;  generalize (f147_1 F : Y147_1) = c, (f148_1 F : Y148_1) = c; as_aux_lemma => kernel_rfl
theorem S146_1_ok : So Tryz.prog 146 S146_1 :=
  fun F o ho => sOf (fn := Tryz.f146) (c := code146) (tab_cons (S147_1_ok F _ (noS_sound enter147)) (tab_cons (S148_1_ok F _ (noS_sound enter148)) tab_nil)) ho lnil snil rnil (E146_1 F)
end
end Go.Proofs.YtlgopekjjkdkiaaGreatDoor.X
end
section
namespace Go.Proofs.YtlgopekjjkdkiaaGreatDoor.X
open Go Go.Proofs.YtlgopekjjkdkiaaGreatDoor.Ev Go.Proofs Go.Shelf Go.RowKit
set_option linter.unusedVariables false
section
def trmRen : Go.Shelf.Ren := ⟨fun x => match x with | 160 => 178 | 232 => 205 | 231 => 204 | 227 => 206 | 234 => 208 | 233 => 207 | 236 => 210 | 235 => 209 | 228 => 220 | 271 => 223 | 151 => 222 | 197 => 221 | 120 => 232 | 152 => 231 | 260 => 230 | 137 => 235 | 119 => 236 | 224 => 237 | 225 => 238 | 217 => 242 | 266 => 244 | n => n, fun x => match x with | 9 => 9 | 4 => 4 | 3 => 3 | 5 => 5 | 117 => 249 | 116 => 248 | 0 => 0 | 124 => 252 | 21 => 21 | 105 => 265 | 46 => 188 | 119 => 281 | 139 => 284 | 138 => 283 | n => n, fun x => match x with | 3 => 1 | 4 => 2 | n => n⟩
theorem trmLays : Lays.n160 Tryz.prog trmRen where
  mixed := by kernel_rfl
  f119 := Tryz.func236.trans (congrArg some (by kernel_rfl))
  f120 := Tryz.func232.trans (congrArg some (by kernel_rfl))
  f137 := Tryz.func235.trans (congrArg some (by kernel_rfl))
  f151 := Tryz.func222.trans (congrArg some (by kernel_rfl))
  f152 := Tryz.func231.trans (congrArg some (by kernel_rfl))
  f160 := Tryz.func178.trans (congrArg some (by kernel_rfl))
  f197 := Tryz.func221.trans (congrArg some (by kernel_rfl))
  f217 := Tryz.func242.trans (congrArg some (by kernel_rfl))
  f224 := Tryz.func237.trans (congrArg some (by kernel_rfl))
  f225 := Tryz.func238.trans (congrArg some (by kernel_rfl))
  f227 := Tryz.func206.trans (congrArg some (by kernel_rfl))
  f228 := Tryz.func220.trans (congrArg some (by kernel_rfl))
  f231 := Tryz.func204.trans (congrArg some (by kernel_rfl))
  f232 := Tryz.func205.trans (congrArg some (by kernel_rfl))
  f233 := Tryz.func207.trans (congrArg some (by kernel_rfl))
  f234 := Tryz.func208.trans (congrArg some (by kernel_rfl))
  f235 := Tryz.func209.trans (congrArg some (by kernel_rfl))
  f236 := Tryz.func210.trans (congrArg some (by kernel_rfl))
  f260 := Tryz.func230.trans (congrArg some (by kernel_rfl))
  f266 := Tryz.func244.trans (congrArg some (by kernel_rfl))
  f271 := Tryz.func223.trans (congrArg some (by kernel_rfl))
  t0 := Tryz.underlying0
  a0 := Tryz.isAgg0
  z0 := Tryz.sizeOf0
  v0 := Tryz.zeroValue0
  t3 := Tryz.underlying3
  a3 := Tryz.isAgg3
  z3 := Tryz.sizeOf3
  v3 := Tryz.zeroValue3
  t4 := Tryz.underlying4
  a4 := Tryz.isAgg4
  z4 := Tryz.sizeOf4
  v4 := Tryz.zeroValue4
  t5 := Tryz.underlying5
  a5 := Tryz.isAgg5
  z5 := Tryz.sizeOf5
  v5 := Tryz.zeroValue5
  t9 := Tryz.underlying9
  a9 := Tryz.isAgg9
  z9 := Tryz.sizeOf9
  v9 := Tryz.zeroValue9
  t21 := Tryz.underlying21
  a21 := Tryz.isAgg21
  z21 := Tryz.sizeOf21
  v21 := Tryz.zeroValue21
  t46 := Tryz.underlying188
  a46 := Tryz.isAgg188
  z46 := Tryz.sizeOf188
  v46 := Tryz.zeroValue188
  t105 := Tryz.underlying265
  a105 := Tryz.isAgg265
  z105 := Tryz.sizeOf265
  v105 := Tryz.zeroValue265
  t116 := Tryz.underlying248
  a116 := Tryz.isAgg248
  z116 := Tryz.sizeOf248
  t117 := Tryz.underlying249
  a117 := Tryz.isAgg249
  z117 := Tryz.sizeOf249
  v117 := Tryz.zeroValue249
  t119 := Tryz.underlying281
  a119 := Tryz.isAgg281
  z119 := Tryz.sizeOf281
  t124 := Tryz.underlying252
  a124 := Tryz.isAgg252
  z124 := Tryz.sizeOf252
  v124 := Tryz.zeroValue252
  t138 := Tryz.underlying283
  a138 := Tryz.isAgg283
  z138 := Tryz.sizeOf283
  v138 := Tryz.zeroValue283
  t139 := Tryz.underlying284
  a139 := Tryz.isAgg284
  z139 := Tryz.sizeOf284
  v139 := Tryz.zeroValue284
  g3 := by kernel_rfl
  g4 := by kernel_rfl
end
end Go.Proofs.YtlgopekjjkdkiaaGreatDoor.X
end
section
namespace Go.Proofs.YtlgopekjjkdkiaaGreatDoor.X
open Go Go.Proofs.YtlgopekjjkdkiaaGreatDoor.Ev Go.Proofs
set_option linter.unusedVariables false
set_option linter.unusedSimpArgs false
set_option linter.unusedSectionVars false
section
variable [FZ]
noncomputable def trm (s cs : ByteArray) : ByteArray := ⟨(Lib.trimS s.data.toList cs.data.toList).toArray⟩
noncomputable def f178_1 {β : Type} (F : Nat) (a1 : ByteArray) (a2 : ByteArray) (K0 : ByteArray → Option β) : Option β :=
  cond (decide (a1.size ≤ 9223372036854775807 ∧ a2.size < 4294967281 ∧ a2.data.toList.all (fun b => decide (b.toNat < 128)) = true)) (K0 (trm a1 a2)) none
def sh178_1 : Sh := ⟨[.lf (.str), .lf (.str)], []⟩
noncomputable def S178_1 (F : Nat) (o : Summ) : Summ := mkS sh178_1 (fun d K => f178_1 F d.1.1 d.1.2.1 (fun (y0 : ByteArray) => K [.lf (.str y0)] [])) o
theorem enter178 : ∀ args w, (callFunc 178 args).run Tryz.prog w = .ok (.enter 178 args) w := enter_of (fn := Tryz.f178) (by kernel_rfl) (by kernel_rfl) (by kernel_rfl)
theorem trmNum : trmRen.f 160 = 178 := by kernel_rfl
theorem trmB {s cs : ByteArray} (h : s.size ≤ 9223372036854775807 ∧ cs.size < 4294967281 ∧ cs.data.toList.all (fun b => decide (b.toNat < 128)) = true) {K : KF} {r : Res} (he : K [.lf (.str (trm s cs))] [] = some r) :
    Contract Tryz.prog 178 [.lf (.str s), .lf (.str cs)] [] K r := by
  intro G m w cvs hw hgd hgh hi hx
  obtain ⟨v1, v2, rfl, h1, h2⟩ : ∃ v1 v2, cvs = [v1, v2] ∧ v1 = .string s ∧ v2 = .string cs := by
    match cvs, hx with
    | [v1, v2], ⟨h1, h2, _⟩ => exact ⟨v1, v2, rfl, h1, h2⟩
  subst h1 h2
  have := Any.strings_Trim_laid trmLays (by kernel_rfl) s cs w h.1 h.2.1 (ascii_of_all h.2.2)
  rw [trmNum] at this
  refine this.mono fun e w' ⟨h1, h2⟩ => ?_
  have hext : Ext w w' := ⟨⟨h2.os, h2.tape, h2.output⟩, h2.size, h2.block⟩
  exact ⟨_, _, he, _, [], h1, rfl, by rw [List.append_nil]; exact hi.ext hext⟩
theorem S178_1_ok (F : Nat) (o : Summ) (ho : SoundFn Tryz.prog 178 o) : SoundFn Tryz.prog 178 (S178_1 F o) := by
  refine ⟨ho.enter, fun vs h K r he => ?_⟩
  unfold S178_1 mkS at he
  split at he
  rotate_left
  · exact ho.ok vs h K r he
  rename_i dv dh ha hb'
  have e1 := decT_enc _ _ _ ha
  have e2 := decH_enc _ _ _ hb'
  obtain ⟨s, c, _⟩ := dv
  have e1 : vs = [.lf (.str s), .lf (.str c)] := e1
  have e2 : h = [] := e2
  subst e1
  subst e2
  have he : f178_1 F s c (fun (y0 : ByteArray) => K [.lf (.str y0)] []) = some r := he
  unfold f178_1 at he
  obtain ⟨h1, he⟩ := dec_of he
  exact trmB h1 he
end
end Go.Proofs.YtlgopekjjkdkiaaGreatDoor.X
end
section
namespace Go.Proofs.YtlgopekjjkdkiaaGreatDoor.X
open Go Go.Proofs.YtlgopekjjkdkiaaGreatDoor.Ev Go.Proofs
set_option linter.unusedVariables false
set_option linter.unusedSectionVars false
section
noncomputable def f127_1 {β : Type} (F : Nat) (a1 : ByteArray) (K0 : Int → Int → Option β) : Option β := f85_1 F a1 (fun x1 => cond (!x1) (K0 0 4) (cond (decide ((0 : Int) ≤ (60 : Int) ∧ (60 : Int) ≤ (a1.size : Int) ∧ (a1.size : Int) ≤ (a1.size : Int))) (f146_1 F a1 (fun x2 => cond (!(x2.toList == (a1.extract 60 ((a1.size : Int).toNat)).toList)) (K0 0 9) (cond (decide ((0 : Int) ≤ (0 : Int) ∧ (0 : Int) < (a1.size : Int))) (cond (decide ((0 : Int) ≤ (1 : Int) ∧ (1 : Int) < (a1.size : Int))) (cond (decide (IntKind.i64.wrap ((a1.data.getD 0 0).toNat : Int) < 1)) (K0 0 6) (cond (decide (IntKind.i64.wrap ((a1.data.getD 0 0).toNat : Int) > 8)) (K0 0 6) (cond (decide (IntKind.i64.wrap ((a1.data.getD 1 0).toNat : Int) > 58)) (K0 0 6) (cond (decide ((0 : Int) ≤ IntKind.i64.wrap (2 + (IntKind.i64.wrap ((a1.data.getD 1 0).toNat : Int))) ∧ IntKind.i64.wrap (2 + (IntKind.i64.wrap ((a1.data.getD 1 0).toNat : Int))) ≤ (60 : Int) ∧ (60 : Int) ≤ (a1.size : Int))) (f178_1 F (a1.extract ((IntKind.i64.wrap (2 + (IntKind.i64.wrap ((a1.data.getD 1 0).toNat : Int)))).toNat) 60) (⟨#[0]⟩ : ByteArray) (fun x3 => cond (!(x3.toList == ByteArray.empty.toList)) (K0 0 6) (K0 (IntKind.i64.wrap ((a1.data.getD 0 0).toNat : Int)) 0)) ) none)))) none) none)) ) none)) 
variable [FZ]
def sh127_1 : Sh := ⟨[.lf (.str)], []⟩
abbrev Y127_1 := ByteArray → (Int → Int → Option Res) → Option Res
noncomputable def A127_1 (g : Y127_1) (d : sh127_1.den) (K : KF) : Option Res := g d.1.1 (fun y0 y1 => K [.lf (.int .i64 y0), .lf (.int .i64 y1)] [])
noncomputable def S127_1 (F : Nat) (o : Summ) : Summ := mkS sh127_1 (fun d K => A127_1 (f127_1 F) d K) o
noncomputable def code127 : Code := bodyOf Tryz.f127
theorem enter127 : En Tryz.prog 127 := enO (fn := Tryz.f127)
noncomputable def T127_1 (F : Nat) : FuncId → Option Summ := tab [(85, (S85_1 F noS)), (146, (S146_1 F noS)), (178, (S178_1 F noS))]
noncomputable def LT127_1 (F : Nat) : Nat → Option LoopS := ltab []
theorem E127_1 (F : Nat) (d : sh127_1.den) (K : KF) : EB Tryz.prog (T127_1 F) (xw []) 41 0 (LT127_1 F) [] false Tryz.f127 sh127_1 d K = A127_1 (f127_1 F) d K := by delta A127_1 f127_1 T127_1 S85_1 S146_1 S178_1 LT127_1;  generalize (f85_1 F : Y85_1) = c, (f146_1 F : Y146_1) = c, (f178_1 F : ByteArray → ByteArray → (ByteArray → Option Res) → Option Res) = c; as_aux_lemma => kernel_rfl
theorem S127_1_ok : So Tryz.prog 127 S127_1 :=
  fun F o ho => sOf (fn := Tryz.f127) (c := code127) (tab_cons (S85_1_ok F _ (noS_sound enter85)) (tab_cons (S146_1_ok F _ (noS_sound enter146)) (tab_cons (S178_1_ok F _ (noS_sound enter178)) tab_nil))) ho lnil snil rnil (E127_1 F)
end
section
noncomputable def f156_1 {β : Type} (F : Nat) (a1 : Int) (a2 : ByteArray) (K0 : ByteArray → Int → Option β) : Option β := f127_1 F a2 (fun x1 x2 => cond (x2 != 0) (K0 ByteArray.empty x2) (cond (x1 != a1) (K0 ByteArray.empty 22) (cond (decide ((0 : Int) ≤ (1 : Int) ∧ (1 : Int) < (a2.size : Int))) (cond (decide ((0 : Int) ≤ (2 : Int) ∧ (2 : Int) ≤ IntKind.i64.wrap (2 + (IntKind.i64.wrap ((a2.data.getD 1 0).toNat : Int))) ∧ IntKind.i64.wrap (2 + (IntKind.i64.wrap ((a2.data.getD 1 0).toNat : Int))) ≤ (a2.size : Int))) (K0 (a2.extract 2 ((IntKind.i64.wrap (2 + (IntKind.i64.wrap ((a2.data.getD 1 0).toNat : Int)))).toNat)) 0) none) none))) 
variable [FZ]
def sh156_1 : Sh := ⟨[.lf (.int .i64), .lf (.str)], []⟩
abbrev Y156_1 := Int → ByteArray → (ByteArray → Int → Option Res) → Option Res
noncomputable def A156_1 (g : Y156_1) (d : sh156_1.den) (K : KF) : Option Res := g d.1.1 d.1.2.1 (fun y0 y1 => K [.lf (.str y0), .lf (.int .i64 y1)] [])
noncomputable def S156_1 (F : Nat) (o : Summ) : Summ := mkS sh156_1 (fun d K => A156_1 (f156_1 F) d K) o
noncomputable def code156 : Code := bodyOf Tryz.f156
theorem enter156 : En Tryz.prog 156 := enO (fn := Tryz.f156)
noncomputable def T156_1 (F : Nat) : FuncId → Option Summ := tab [(127, (S127_1 F noS))]
noncomputable def LT156_1 (F : Nat) : Nat → Option LoopS := ltab []
theorem E156_1 (F : Nat) (d : sh156_1.den) (K : KF) : EB Tryz.prog (T156_1 F) (xw []) 27 0 (LT156_1 F) [] false Tryz.f156 sh156_1 d K = A156_1 (f156_1 F) d K := by delta A156_1 f156_1 T156_1 S127_1 LT156_1;  generalize (f127_1 F : Y127_1) = c; as_aux_lemma => kernel_rfl
theorem S156_1_ok : So Tryz.prog 156 S156_1 :=
  fun F o ho => sOf (fn := Tryz.f156) (c := code156) (tab_cons (S127_1_ok F _ (noS_sound enter127)) tab_nil) ho lnil snil rnil (E156_1 F)
end
section
noncomputable def f157_1 {β : Type} (F : Nat) (a1 : Int) (a2 : ByteArray) (K0 : ByteArray → Option β) : Option β := f147_1 F 2 (IntKind.u64.wrap a1) [] (fun x1 => cond (decide ((ofInts x1).size + a2.size ≤ 4611686018427387904)) (K0 ((ofInts x1) ++ a2)) none) 
variable [FZ]
def sh157_1 : Sh := ⟨[.lf (.int .i64), .lf (.str)], []⟩
abbrev Y157_1 := Int → ByteArray → (ByteArray → Option Res) → Option Res
noncomputable def A157_1 (g : Y157_1) (d : sh157_1.den) (K : KF) : Option Res := g d.1.1 d.1.2.1 (fun y0 => K [.lf (.str y0)] [])
noncomputable def S157_1 (F : Nat) (o : Summ) : Summ := mkS sh157_1 (fun d K => A157_1 (f157_1 F) d K) o
noncomputable def code157 : Code := bodyOf Tryz.f157
theorem enter157 : En Tryz.prog 157 := enO (fn := Tryz.f157)
noncomputable def T157_1 (F : Nat) : FuncId → Option Summ := tab [(147, (S147_1 F noS))]
noncomputable def LT157_1 (F : Nat) : Nat → Option LoopS := ltab []
theorem E157_1 (F : Nat) (d : sh157_1.den) (K : KF) : EB Tryz.prog (T157_1 F) (xw []) 11 0 (LT157_1 F) [] false Tryz.f157 sh157_1 d K = A157_1 (f157_1 F) d K := by delta A157_1 f157_1 T157_1 S147_1 LT157_1;  generalize (f147_1 F : Y147_1) = c; as_aux_lemma => kernel_rfl
theorem S157_1_ok : So Tryz.prog 157 S157_1 :=
  fun F o ho => sOf (fn := Tryz.f157) (c := code157) (tab_cons (S147_1_ok F _ (noS_sound enter147)) tab_nil) ho lnil snil rnil (E157_1 F)
end
section
noncomputable def f103_1 {β : Type} (F : Nat) (a1 a2 a3 a4 a5 a6 : Int) (a7 : Bool) (a8 : Int) (a9 : List ByteArray) (a10 : List (Int × ByteArray)) (K0 : ByteArray → Int → Option β) : Option β := f155_1 F a1 a2 a3 a4 a5 (fun x1 => cond (decide (x1 < 0)) (K0 ByteArray.empty 3) (f37_1 F x1 a6 a7 a8 a9 a10 (fun x2 x3 => cond (x3 != 0) (K0 ByteArray.empty x3) (f156_1 F 6 x2 (fun x4 x5 => cond (x5 != 0) (K0 ByteArray.empty x5) (cond ((x4.size : Int) != 34) (K0 ByteArray.empty 6) (cond (decide ((0 : Int) ≤ (0 : Int) ∧ (0 : Int) ≤ (2 : Int) ∧ (2 : Int) ≤ (x4.size : Int))) (f157_1 F a5 ByteArray.empty (fun x6 => cond (!((x4.extract 0 2).toList == x6.toList)) (K0 ByteArray.empty 6) (cond (decide ((0 : Int) ≤ (2 : Int) ∧ (2 : Int) ≤ (x4.size : Int) ∧ (x4.size : Int) ≤ (x4.size : Int))) (K0 (x4.extract 2 ((x4.size : Int).toNat)) 0) none)) ) none))) )) )) 
variable [FZ]
def sh103_1 : Sh := ⟨[.lf (.ptr 0 0), .agg [.int .i64, .int .i64, .int .i64, .int .i64], .lf (.int .i64)], [some ⟨none, [.full 1, .full 2, .int .i64, .bool, .int .i64]⟩, some ⟨none, [.seq .str 0]⟩, some ⟨none, [.seq (.pair (.int .i64) .str) 0]⟩]⟩
abbrev Y103_1 := Int → Int → Int → Int → Int → Int → Bool → Int → List ByteArray → List (Int × ByteArray) → (ByteArray → Int → Option Res) → Option Res
noncomputable def A103_1 (g : Y103_1) (d : sh103_1.den) (K : KF) : Option Res := g d.1.2.1.1 d.1.2.1.2.1 d.1.2.1.2.2.1 d.1.2.1.2.2.2.1 d.1.2.2.1 d.2.1.2.2.2.1 d.2.1.2.2.2.2.1 d.2.1.2.2.2.2.2.1 d.2.2.1.2.1 d.2.2.2.1.2.1 (fun y0 y1 => K [.lf (.str y0), .lf (.int .i64 y1)] [some ⟨d.2.1.1, [.full 1, .full 2, .int .i64 d.2.1.2.2.2.1, .bool d.2.1.2.2.2.2.1, .int .i64 d.2.1.2.2.2.2.2.1]⟩, some ⟨d.2.2.1.1, [.seq .str 0 d.2.2.1.2.1]⟩, some ⟨d.2.2.2.1.1, [.seq (.pair (.int .i64) .str) 0 d.2.2.2.1.2.1]⟩])
noncomputable def S103_1 (F : Nat) (o : Summ) : Summ := mkS sh103_1 (fun d K => A103_1 (f103_1 F) d K) o
noncomputable def code103 : Code := bodyOf Tryz.f103
theorem enter103 : En Tryz.prog 103 := enO (fn := Tryz.f103)
noncomputable def T103_1 (F : Nat) : FuncId → Option Summ := tab [(37, (S37_1 F noS)), (155, (S155_1 F noS)), (156, (S156_1 F noS)), (157, (S157_1 F noS))]
noncomputable def LT103_1 (F : Nat) : Nat → Option LoopS := ltab []
theorem E103_1 (F : Nat) (d : sh103_1.den) (K : KF) : EB Tryz.prog (T103_1 F) (xw []) 48 3 (LT103_1 F) [] false Tryz.f103 sh103_1 d K = A103_1 (f103_1 F) d K := by delta A103_1 f103_1 T103_1 S37_1 S155_1 S156_1 S157_1 LT103_1;  generalize (f37_1 F : Y37_1) = c, (f155_1 F : Y155_1) = c, (f156_1 F : Y156_1) = c, (f157_1 F : Y157_1) = c; as_aux_lemma => kernel_rfl
theorem S103_1_ok : So Tryz.prog 103 S103_1 :=
  fun F o ho => sOf (fn := Tryz.f103) (c := code103) (tab_cons (S37_1_ok F _ (noS_sound enter37)) (tab_cons (S155_1_ok F _ (noS_sound enter155)) (tab_cons (S156_1_ok F _ (noS_sound enter156)) (tab_cons (S157_1_ok F _ (noS_sound enter157)) tab_nil)))) ho lnil snil rnil (E103_1 F)
end
section
noncomputable def f103_6615 {β : Type} (F : Nat) (a1 a2 a3 a4 a5 : Int) (K0 : Int → Option β) : Option β := f155_1 F a1 a2 a3 a4 a5 (fun x1 => cond (decide (x1 < 0)) (K0 3) (f37_6206 F x1 (K0 1) )) 
variable [FZ]
def sh103_6615 : Sh := ⟨[.lf (.nilp), .agg [.int .i64, .int .i64, .int .i64, .int .i64], .lf (.int .i64)], []⟩
abbrev Y103_6615 := Int → Int → Int → Int → Int → (Int → Option Res) → Option Res
noncomputable def A103_6615 (g : Y103_6615) (d : sh103_6615.den) (K : KF) : Option Res := g d.1.2.1.1 d.1.2.1.2.1 d.1.2.1.2.2.1 d.1.2.1.2.2.2.1 d.1.2.2.1 (fun y1 => K [.lf (.str ByteArray.empty), .lf (.int .i64 y1)] [])
noncomputable def S103_6615 (F : Nat) (o : Summ) : Summ := mkS sh103_6615 (fun d K => A103_6615 (f103_6615 F) d K) o
noncomputable def T103_6615 (F : Nat) : FuncId → Option Summ := tab [(37, (S37_6206 F noS)), (155, (S155_1 F noS))]
noncomputable def LT103_6615 (F : Nat) : Nat → Option LoopS := ltab []
theorem E103_6615 (F : Nat) (d : sh103_6615.den) (K : KF) : EB Tryz.prog (T103_6615 F) (xw []) 48 0 (LT103_6615 F) [] false Tryz.f103 sh103_6615 d K = A103_6615 (f103_6615 F) d K := by delta A103_6615 f103_6615 T103_6615 S37_6206 S155_1 LT103_6615;  generalize (f37_6206 F : Y37_6206) = c, (f155_1 F : Y155_1) = c; as_aux_lemma => kernel_rfl
theorem S103_6615_ok : So Tryz.prog 103 S103_6615 :=
  fun F o ho => sOf (fn := Tryz.f103) (c := code103) (tab_cons (S37_6206_ok F _ (noS_sound enter37)) (tab_cons (S155_1_ok F _ (noS_sound enter155)) tab_nil)) ho lnil snil rnil (E103_6615 F)
end
section
noncomputable def f193_1 {β : Type} (F : Nat)  (K0 : List Int → Option β) : Option β := K0 [1779033703, 3144134277, 1013904242, 2773480762, 1359893119, 2600822924, 528734635, 1541459225]
variable [FZ]
def sh193_1 : Sh := ⟨[], []⟩
abbrev Y193_1 := (List Int → Option Res) → Option Res
noncomputable def A193_1 (g : Y193_1) (d : sh193_1.den) (K : KF) : Option Res := g (fun y0 => K [.agg [.seq (.int .u32) 8 y0]] [])
noncomputable def S193_1 (F : Nat) (o : Summ) : Summ := mkS sh193_1 (fun d K => A193_1 (f193_1 F) d K) o
noncomputable def code193 : Code := bodyOf Tryz.f193
theorem enter193 : En Tryz.prog 193 := enO (fn := Tryz.f193)
noncomputable def T193_1 (F : Nat) : FuncId → Option Summ := tab []
noncomputable def LT193_1 (F : Nat) : Nat → Option LoopS := ltab []
theorem E193_1 (F : Nat) (d : sh193_1.den) (K : KF) : EB Tryz.prog (T193_1 F) (xw []) 2 0 (LT193_1 F) [] false Tryz.f193 sh193_1 d K = A193_1 (f193_1 F) d K := by delta A193_1 f193_1 T193_1 LT193_1;   as_aux_lemma => kernel_rfl
theorem S193_1_ok : So Tryz.prog 193 S193_1 :=
  fun F o ho => sOf (fn := Tryz.f193) (c := code193) tab_nil ho lnil snil rnil (E193_1 F)
end
section
noncomputable def f194_1 {β : Type} (F : Nat)  (K0 : List Int → Option β) : Option β := K0 [1116352408, 1899447441, 3049323471, 3921009573, 961987163, 1508970993, 2453635748, 2870763221, 3624381080, 310598401, 607225278, 1426881987, 1925078388, 2162078206, 2614888103, 3248222580, 3835390401, 4022224774, 264347078, 604807628, 770255983, 1249150122, 1555081692, 1996064986, 2554220882, 2821834349, 2952996808, 3210313671, 3336571891, 3584528711, 113926993, 338241895, 666307205, 773529912, 1294757372, 1396182291, 1695183700, 1986661051, 2177026350, 2456956037, 2730485921, 2820302411, 3259730800, 3345764771, 3516065817, 3600352804, 4094571909, 275423344, 430227734, 506948616, 659060556, 883997877, 958139571, 1322822218, 1537002063, 1747873779, 1955562222, 2024104815, 2227730452, 2361852424, 2428436474, 2756734187, 3204031479, 3329325298]
variable [FZ]
def sh194_1 : Sh := ⟨[], []⟩
abbrev Y194_1 := (List Int → Option Res) → Option Res
noncomputable def A194_1 (g : Y194_1) (d : sh194_1.den) (K : KF) : Option Res := g (fun y0 => K [.lf (.full 0)] [some ⟨false, [.seq (.int .u32) 0 y0]⟩])
noncomputable def S194_1 (F : Nat) (o : Summ) : Summ := mkS sh194_1 (fun d K => A194_1 (f194_1 F) d K) o
noncomputable def code194 : Code := bodyOf Tryz.f194
theorem enter194 : En Tryz.prog 194 := enO (fn := Tryz.f194)
noncomputable def T194_1 (F : Nat) : FuncId → Option Summ := tab []
noncomputable def LT194_1 (F : Nat) : Nat → Option LoopS := ltab []
theorem E194_1 (F : Nat) (d : sh194_1.den) (K : KF) : EB Tryz.prog (T194_1 F) (xw []) 2 0 (LT194_1 F) [] false Tryz.f194 sh194_1 d K = A194_1 (f194_1 F) d K := by delta A194_1 f194_1 T194_1 LT194_1;   as_aux_lemma => kernel_rfl
theorem S194_1_ok : So Tryz.prog 194 S194_1 :=
  fun F o ho => sOf (fn := Tryz.f194) (c := code194) tab_nil ho lnil snil rnil (E194_1 F)
end
section
noncomputable def f216_1 {β : Type} (F : Nat) (a1 a2 : Int) (K0 : Int → Option β) : Option β := cond (decide (a2 < 0)) none (cond (decide (IntKind.u64.wrap (32 - a2) < 0)) none (K0 (ior .u32 (ishr .u32 a1 a2) (ishl .u32 a1 (IntKind.u64.wrap (32 - a2))))))
variable [FZ]
def sh216_1 : Sh := ⟨[.lf (.int .u32), .lf (.int .u64)], []⟩
abbrev Y216_1 := Int → Int → (Int → Option Res) → Option Res
noncomputable def A216_1 (g : Y216_1) (d : sh216_1.den) (K : KF) : Option Res := g d.1.1 d.1.2.1 (fun y0 => K [.lf (.int .u32 y0)] [])
noncomputable def S216_1 (F : Nat) (o : Summ) : Summ := mkS sh216_1 (fun d K => A216_1 (f216_1 F) d K) o
noncomputable def code216 : Code := bodyOf Tryz.f216
theorem enter216 : En Tryz.prog 216 := enO (fn := Tryz.f216)
noncomputable def T216_1 (F : Nat) : FuncId → Option Summ := tab []
noncomputable def LT216_1 (F : Nat) : Nat → Option LoopS := ltab []
theorem E216_1 (F : Nat) (d : sh216_1.den) (K : KF) : EB Tryz.prog (T216_1 F) (xw []) 13 0 (LT216_1 F) [] false Tryz.f216 sh216_1 d K = A216_1 (f216_1 F) d K := by delta A216_1 f216_1 T216_1 LT216_1;   as_aux_lemma => kernel_rfl
theorem S216_1_ok : So Tryz.prog 216 S216_1 :=
  fun F o ho => sOf (fn := Tryz.f216) (c := code216) tab_nil ho lnil snil rnil (E216_1 F)
end
section
noncomputable def f195_1_l3 {β : Type} (F : Nat) (v2 v3 v4 v5 : List Int) (K0 : List Int → Option β) : Nat → Int → List Int → Option β
  | 0, _, _ => none
  | k + 1, v1, v6 => cond (decide (v1 < 16)) (cond (decide ((0 : Int) ≤ IntKind.i64.wrap (4 * v1) ∧ IntKind.i64.wrap (4 * v1) < ((v3.length : Nat) : Int))) (cond (decide (0 + ((IntKind.i64.wrap (4 * v1)).toNat) < v3.length)) (cond (decide ((0 : Int) ≤ IntKind.i64.wrap ((IntKind.i64.wrap (4 * v1)) + 1) ∧ IntKind.i64.wrap ((IntKind.i64.wrap (4 * v1)) + 1) < ((v3.length : Nat) : Int))) (cond (decide (0 + ((IntKind.i64.wrap ((IntKind.i64.wrap (4 * v1)) + 1)).toNat) < v3.length)) (cond (decide ((0 : Int) ≤ IntKind.i64.wrap ((IntKind.i64.wrap (4 * v1)) + 2) ∧ IntKind.i64.wrap ((IntKind.i64.wrap (4 * v1)) + 2) < ((v3.length : Nat) : Int))) (cond (decide (0 + ((IntKind.i64.wrap ((IntKind.i64.wrap (4 * v1)) + 2)).toNat) < v3.length)) (cond (decide ((0 : Int) ≤ IntKind.i64.wrap ((IntKind.i64.wrap (4 * v1)) + 3) ∧ IntKind.i64.wrap ((IntKind.i64.wrap (4 * v1)) + 3) < ((v3.length : Nat) : Int))) (cond (decide (0 + ((IntKind.i64.wrap ((IntKind.i64.wrap (4 * v1)) + 3)).toNat) < v3.length)) (cond (decide ((0 : Int) ≤ v1 ∧ v1 < 64)) (cond (decide (v1.toNat < v6.length)) (f195_1_l3 F v2 v3 v4 v5 K0 k (IntKind.i64.wrap (v1 + 1)) (v6.set v1.toNat (ior .u32 (ior .u32 (ior .u32 (ishl .u32 (IntKind.u32.wrap (v3.getD (0 + ((IntKind.i64.wrap (4 * v1)).toNat)) 0)) 24) (ishl .u32 (IntKind.u32.wrap (v3.getD (0 + ((IntKind.i64.wrap ((IntKind.i64.wrap (4 * v1)) + 1)).toNat)) 0)) 16)) (ishl .u32 (IntKind.u32.wrap (v3.getD (0 + ((IntKind.i64.wrap ((IntKind.i64.wrap (4 * v1)) + 2)).toNat)) 0)) 8)) (IntKind.u32.wrap (v3.getD (0 + ((IntKind.i64.wrap ((IntKind.i64.wrap (4 * v1)) + 3)).toNat)) 0))))) none) none) none) none) none) none) none) none) none) none) (K0 v6)
noncomputable def f195_1_l7 {β : Type} (F : Nat) (v9 v10 v11 v12 : List Int) (K0 : List Int → Option β) : Nat → Int → List Int → Option β
  | 0, _, _ => none
  | k + 1, v8, v13 => cond (decide (v8 < 64)) (cond (decide ((0 : Int) ≤ IntKind.i64.wrap (v8 - 15) ∧ IntKind.i64.wrap (v8 - 15) < 64)) (cond (decide ((IntKind.i64.wrap (v8 - 15)).toNat < v13.length)) (cond (decide ((0 : Int) ≤ IntKind.i64.wrap (v8 - 2) ∧ IntKind.i64.wrap (v8 - 2) < 64)) (cond (decide ((IntKind.i64.wrap (v8 - 2)).toNat < v13.length)) (cond (decide ((0 : Int) ≤ IntKind.i64.wrap (v8 - 16) ∧ IntKind.i64.wrap (v8 - 16) < 64)) (cond (decide ((IntKind.i64.wrap (v8 - 16)).toNat < v13.length)) (cond (decide ((0 : Int) ≤ IntKind.i64.wrap (v8 - 7) ∧ IntKind.i64.wrap (v8 - 7) < 64)) (cond (decide ((IntKind.i64.wrap (v8 - 7)).toNat < v13.length)) (f216_1 F (v13.getD ((IntKind.i64.wrap (v8 - 15)).toNat) 0) 7 (fun x14 => f216_1 F (v13.getD ((IntKind.i64.wrap (v8 - 15)).toNat) 0) 18 (fun x15 => f216_1 F (v13.getD ((IntKind.i64.wrap (v8 - 2)).toNat) 0) 17 (fun x16 => f216_1 F (v13.getD ((IntKind.i64.wrap (v8 - 2)).toNat) 0) 19 (fun x17 => cond (decide ((0 : Int) ≤ v8 ∧ v8 < 64)) (cond (decide (v8.toNat < v13.length)) (f195_1_l7 F v9 v10 v11 v12 K0 k (IntKind.i64.wrap (v8 + 1)) (v13.set v8.toNat (IntKind.u32.wrap ((IntKind.u32.wrap ((IntKind.u32.wrap ((v13.getD ((IntKind.i64.wrap (v8 - 16)).toNat) 0) + (ixor .u32 (ixor .u32 x14 x15) (ishr .u32 (v13.getD ((IntKind.i64.wrap (v8 - 15)).toNat) 0) 3)))) + (v13.getD ((IntKind.i64.wrap (v8 - 7)).toNat) 0))) + (ixor .u32 (ixor .u32 x16 x17) (ishr .u32 (v13.getD ((IntKind.i64.wrap (v8 - 2)).toNat) 0) 10)))))) none) none) ) ) ) ) none) none) none) none) none) none) none) none) (K0 v13)
noncomputable def f195_1_l21 {β : Type} (F : Nat) (v28 v29 v30 v31 v32 : List Int) (K0 : Int → Int → Int → Int → Int → Int → Int → Int → Option β) : Nat → Int → Int → Int → Int → Int → Int → Int → Int → Int → Option β
  | 0, _, _, _, _, _, _, _, _, _ => none
  | k + 1, v19, v20, v21, v22, v23, v24, v25, v26, v27 => cond (decide (v27 < 64)) (cond (decide ((0 : Int) ≤ v27 ∧ v27 < ((v28.length : Nat) : Int))) (cond (decide (0 + v27.toNat < v28.length)) (cond (decide ((0 : Int) ≤ v27 ∧ v27 < 64)) (cond (decide (v27.toNat < v32.length)) (f216_1 F v23 6 (fun x33 => f216_1 F v23 11 (fun x34 => f216_1 F v23 25 (fun x35 => f216_1 F v19 2 (fun x36 => f216_1 F v19 13 (fun x37 => f216_1 F v19 22 (fun x38 => f195_1_l21 F v28 v29 v30 v31 v32 K0 k (IntKind.u32.wrap ((IntKind.u32.wrap ((IntKind.u32.wrap ((IntKind.u32.wrap ((IntKind.u32.wrap (v26 + (ixor .u32 (ixor .u32 x33 x34) x35))) + (ixor .u32 (iand .u32 v23 v24) (iand .u32 (ixor .u32 4294967295 v23) v25)))) + (v28.getD (0 + v27.toNat) 0))) + (v32.getD v27.toNat 0))) + (IntKind.u32.wrap ((ixor .u32 (ixor .u32 x36 x37) x38) + (ixor .u32 (ixor .u32 (iand .u32 v19 v20) (iand .u32 v19 v21)) (iand .u32 v20 v21)))))) v19 v20 v21 (IntKind.u32.wrap (v22 + (IntKind.u32.wrap ((IntKind.u32.wrap ((IntKind.u32.wrap ((IntKind.u32.wrap (v26 + (ixor .u32 (ixor .u32 x33 x34) x35))) + (ixor .u32 (iand .u32 v23 v24) (iand .u32 (ixor .u32 4294967295 v23) v25)))) + (v28.getD (0 + v27.toNat) 0))) + (v32.getD v27.toNat 0))))) v23 v24 v25 (IntKind.i64.wrap (v27 + 1))) ) ) ) ) ) ) none) none) none) none) (K0 v19 v20 v21 v22 v23 v24 v25 v26)
noncomputable def f195_1 {β : Type} (F : Nat) (a1 a2 a3 : List Int) (K0 : List Int → Option β) : Option β := f195_1_l3 F a2 a3 a1 [0, 0, 0, 0, 0, 0, 0, 0] (fun x7 => f195_1_l7 F a2 a3 a1 [0, 0, 0, 0, 0, 0, 0, 0] (fun x18 => cond (decide (0 < a1.length)) (cond (decide (1 < a1.length)) (cond (decide (2 < a1.length)) (cond (decide (3 < a1.length)) (cond (decide (4 < a1.length)) (cond (decide (5 < a1.length)) (cond (decide (6 < a1.length)) (cond (decide (7 < a1.length)) (f195_1_l21 F a2 a3 a1 [0, 0, 0, 0, 0, 0, 0, 0] x18 (fun x39 x40 x41 x42 x43 x44 x45 x46 => cond (decide (0 < a1.length)) (cond (decide (1 < a1.length)) (cond (decide (2 < a1.length)) (cond (decide (3 < a1.length)) (cond (decide (4 < a1.length)) (cond (decide (5 < a1.length)) (cond (decide (6 < a1.length)) (cond (decide (7 < a1.length)) (K0 [IntKind.u32.wrap ((a1.getD 0 0) + x39), IntKind.u32.wrap ((a1.getD 1 0) + x40), IntKind.u32.wrap ((a1.getD 2 0) + x41), IntKind.u32.wrap ((a1.getD 3 0) + x42), IntKind.u32.wrap ((a1.getD 4 0) + x43), IntKind.u32.wrap ((a1.getD 5 0) + x44), IntKind.u32.wrap ((a1.getD 6 0) + x45), IntKind.u32.wrap ((a1.getD 7 0) + x46)]) none) none) none) none) none) none) none) none) F (a1.getD 0 0) (a1.getD 1 0) (a1.getD 2 0) (a1.getD 3 0) (a1.getD 4 0) (a1.getD 5 0) (a1.getD 6 0) (a1.getD 7 0) 0) none) none) none) none) none) none) none) none) F 16 x7) F 0 [0, 0, 0, 0, 0, 0, 0, 0, 0, 0, 0, 0, 0, 0, 0, 0, 0, 0, 0, 0, 0, 0, 0, 0, 0, 0, 0, 0, 0, 0, 0, 0, 0, 0, 0, 0, 0, 0, 0, 0, 0, 0, 0, 0, 0, 0, 0, 0, 0, 0, 0, 0, 0, 0, 0, 0, 0, 0, 0, 0, 0, 0, 0, 0]
variable [FZ]
def sh195_1 : Sh := ⟨[.agg [.seq (.int .u32) 8], .lf (.full 0), .lf (.full 1)], [some ⟨none, [.seq (.int .u32) 0]⟩, some ⟨none, [.seq (.int .u8) 0]⟩]⟩
abbrev Y195_1 := List Int → List Int → List Int → (List Int → Option Res) → Option Res
noncomputable def A195_1 (g : Y195_1) (d : sh195_1.den) (K : KF) : Option Res := g d.1.1.1 d.2.1.2.1 d.2.2.1.2.1 (fun y0 => K [.agg [.seq (.int .u32) 8 y0]] [some ⟨d.2.1.1, [.seq (.int .u32) 0 d.2.1.2.1]⟩, some ⟨d.2.2.1.1, [.seq (.int .u8) 0 d.2.2.1.2.1]⟩])
noncomputable def S195_1 (F : Nat) (o : Summ) : Summ := mkS sh195_1 (fun d K => A195_1 (f195_1 F) d K) o
noncomputable def code195 : Code := bodyOf Tryz.f195
noncomputable def b195_0 : Code := cB (cB (cR (cL (cR (cR (code195))))))
noncomputable def b195_1 : Code := cB (cB (cR (cL (cR (cR (cR (code195)))))))
noncomputable def b195_2 : Code := cB (cB (cR (cL (cR (cR (cR (cR (cR (cR (cR (cR (cR (cR (cR (cR (code195))))))))))))))))
theorem loops195 : loopsOf code195 = [b195_0, b195_1, b195_2] := by kernel_rfl
theorem enter195 : En Tryz.prog 195 := enO (fn := Tryz.f195)
noncomputable def T195_1 (F : Nat) : FuncId → Option Summ := tab [(216, (S216_1 F noS))]
def sh195_1_l3 : Sh := ⟨[.lf (.full 0), .lf (.full 1), .lf (.ptr 2 0), .lf (.ptr 3 0), .lf (.ptr 4 0), .lf (.int .i64)], [some ⟨none, [.seq (.int .u32) 0]⟩, some ⟨none, [.seq (.int .u8) 0]⟩, some ⟨some false, [.seq (.int .u32) 8]⟩, some ⟨some false, [.seq (.int .u32) 8]⟩, some ⟨some false, [.seq (.int .u32) 64]⟩]⟩
abbrev Y195_1_l3 := List Int → List Int → List Int → List Int → (List Int → Option Res) → Nat → Int → List Int → Option Res
noncomputable def A195_1_l3 (g : Y195_1_l3) (k : Nat) (d : sh195_1_l3.den) (K : KL) : Option Res := g d.2.1.2.1 d.2.2.1.2.1 d.2.2.2.1.2.1 d.2.2.2.2.1.2.1 (fun y4 => K (.exit 0) [.tv (.lf (.full 0)), .tv (.lf (.ptr 2 0)), .tv (.lf (.ptr 3 0)), .tv (.lf (.ptr 4 0))] [some ⟨d.2.1.1, [.seq (.int .u32) 0 d.2.1.2.1]⟩, some ⟨d.2.2.1.1, [.seq (.int .u8) 0 d.2.2.1.2.1]⟩, some ⟨false, [.seq (.int .u32) 8 d.2.2.2.1.2.1]⟩, some ⟨false, [.seq (.int .u32) 8 d.2.2.2.2.1.2.1]⟩, some ⟨false, [.seq (.int .u32) 64 y4]⟩]) k d.1.2.2.2.2.2.1 d.2.2.2.2.2.1.2.1
def sh195_1_l7 : Sh := ⟨[.lf (.full 0), .lf (.ptr 2 0), .lf (.ptr 3 0), .lf (.ptr 4 0), .lf (.int .i64)], [some ⟨none, [.seq (.int .u32) 0]⟩, some ⟨none, [.seq (.int .u8) 0]⟩, some ⟨some false, [.seq (.int .u32) 8]⟩, some ⟨some false, [.seq (.int .u32) 8]⟩, some ⟨some false, [.seq (.int .u32) 64]⟩]⟩
abbrev Y195_1_l7 := List Int → List Int → List Int → List Int → (List Int → Option Res) → Nat → Int → List Int → Option Res
noncomputable def A195_1_l7 (g : Y195_1_l7) (k : Nat) (d : sh195_1_l7.den) (K : KL) : Option Res := g d.2.1.2.1 d.2.2.1.2.1 d.2.2.2.1.2.1 d.2.2.2.2.1.2.1 (fun y4 => K (.exit 2) [.tv (.lf (.full 0)), .tv (.lf (.ptr 2 0)), .tv (.lf (.ptr 3 0)), .tv (.lf (.ptr 4 0))] [some ⟨d.2.1.1, [.seq (.int .u32) 0 d.2.1.2.1]⟩, some ⟨d.2.2.1.1, [.seq (.int .u8) 0 d.2.2.1.2.1]⟩, some ⟨false, [.seq (.int .u32) 8 d.2.2.2.1.2.1]⟩, some ⟨false, [.seq (.int .u32) 8 d.2.2.2.2.1.2.1]⟩, some ⟨false, [.seq (.int .u32) 64 y4]⟩]) k d.1.2.2.2.2.1 d.2.2.2.2.2.1.2.1
def sh195_1_l21 : Sh := ⟨[.lf (.full 0), .lf (.ptr 2 0), .lf (.ptr 3 0), .lf (.ptr 4 0), .lf (.int .u32), .lf (.int .u32), .lf (.int .u32), .lf (.int .u32), .lf (.int .u32), .lf (.int .u32), .lf (.int .u32), .lf (.int .u32), .lf (.int .i64)], [some ⟨none, [.seq (.int .u32) 0]⟩, some ⟨none, [.seq (.int .u8) 0]⟩, some ⟨some false, [.seq (.int .u32) 8]⟩, some ⟨some false, [.seq (.int .u32) 8]⟩, some ⟨some false, [.seq (.int .u32) 64]⟩]⟩
abbrev Y195_1_l21 := List Int → List Int → List Int → List Int → List Int → (Int → Int → Int → Int → Int → Int → Int → Int → Option Res) → Nat → Int → Int → Int → Int → Int → Int → Int → Int → Int → Option Res
noncomputable def A195_1_l21 (g : Y195_1_l21) (k : Nat) (d : sh195_1_l21.den) (K : KL) : Option Res := g d.2.1.2.1 d.2.2.1.2.1 d.2.2.2.1.2.1 d.2.2.2.2.1.2.1 d.2.2.2.2.2.1.2.1 (fun y0 y1 y2 y3 y4 y5 y6 y7 => K (.exit 4) [.tv (.lf (.ptr 2 0)), .tv (.lf (.ptr 3 0)), .tv (.lf (.int .u32 y0)), .tv (.lf (.int .u32 y1)), .tv (.lf (.int .u32 y2)), .tv (.lf (.int .u32 y3)), .tv (.lf (.int .u32 y4)), .tv (.lf (.int .u32 y5)), .tv (.lf (.int .u32 y6)), .tv (.lf (.int .u32 y7))] [some ⟨d.2.1.1, [.seq (.int .u32) 0 d.2.1.2.1]⟩, some ⟨d.2.2.1.1, [.seq (.int .u8) 0 d.2.2.1.2.1]⟩, some ⟨false, [.seq (.int .u32) 8 d.2.2.2.1.2.1]⟩, some ⟨false, [.seq (.int .u32) 8 d.2.2.2.2.1.2.1]⟩, some ⟨false, [.seq (.int .u32) 64 d.2.2.2.2.2.1.2.1]⟩]) k d.1.2.2.2.2.1 d.1.2.2.2.2.2.1 d.1.2.2.2.2.2.2.1 d.1.2.2.2.2.2.2.2.1 d.1.2.2.2.2.2.2.2.2.1 d.1.2.2.2.2.2.2.2.2.2.1 d.1.2.2.2.2.2.2.2.2.2.2.1 d.1.2.2.2.2.2.2.2.2.2.2.2.1 d.1.2.2.2.2.2.2.2.2.2.2.2.2.1
noncomputable def G195_1_3 (F k : Nat) : LoopS := mkG sh195_1_l3 [1, 2, 3, 6, 7, 8] (outT [(.exit 0, [1, 3, 6, 7])]) (fun d K => A195_1_l3 (f195_1_l3 F) k d K) []
noncomputable def G195_1_7 (F k : Nat) : LoopS := mkG sh195_1_l7 [1, 3, 6, 7, 9] (outT [(.exit 2, [1, 3, 6, 7])]) (fun d K => A195_1_l7 (f195_1_l7 F) k d K) []
noncomputable def G195_1_21 (F k : Nat) : LoopS := mkG sh195_1_l21 [1, 3, 6, 7, 12, 13, 14, 15, 16, 17, 18, 19, 20] (outT [(.exit 4, [3, 6, 12, 13, 14, 15, 16, 17, 18, 19])]) (fun d K => A195_1_l21 (f195_1_l21 F) k d K) []
noncomputable def LT195_1 (F : Nat) : Nat → Option LoopS := ltab [(3, G195_1_3 F F), (7, G195_1_7 F F), (21, G195_1_21 F F)]
theorem L195_1_3 (F : Nat) : LoopOK Tryz.prog (T195_1 F) (xw []) 217 2 (LT195_1 F) (G195_1_3 F F) b195_0 :=
  loopOK_of (s := sh195_1_l3) (live := [1, 2, 3, 6, 7, 8]) (out := (outT [(.exit 0, [1, 3, 6, 7])])) (mv := []) (fun k d K => A195_1_l3 (f195_1_l3 F) k d K) F (fun d K => by kernel_rfl)  (fun k d K => by delta A195_1_l3; refine (f195_1_l3.eq_2 ..).trans ?_; delta T195_1 S216_1 LT195_1; generalize (G195_1_3 F F) = c, (G195_1_7 F F) = c, (G195_1_21 F F) = c;  (try delta G195_1_3); generalize (f216_1 F : Y216_1) = c, (f195_1_l3 F : Y195_1_l3) = c; as_aux_lemma => kernel_rfl)
theorem L195_1_7 (F : Nat) : LoopOK Tryz.prog (T195_1 F) (xw []) 217 2 (LT195_1 F) (G195_1_7 F F) b195_1 :=
  loopOK_of (s := sh195_1_l7) (live := [1, 3, 6, 7, 9]) (out := (outT [(.exit 2, [1, 3, 6, 7])])) (mv := []) (fun k d K => A195_1_l7 (f195_1_l7 F) k d K) F (fun d K => by kernel_rfl)  (fun k d K => by delta A195_1_l7; refine (f195_1_l7.eq_2 ..).trans ?_; delta T195_1 S216_1 LT195_1; generalize (G195_1_3 F F) = c, (G195_1_7 F F) = c, (G195_1_21 F F) = c;  (try delta G195_1_7); generalize (f216_1 F : Y216_1) = c, (f195_1_l7 F : Y195_1_l7) = c; as_aux_lemma => kernel_rfl)
theorem L195_1_21 (F : Nat) : LoopOK Tryz.prog (T195_1 F) (xw []) 217 2 (LT195_1 F) (G195_1_21 F F) b195_2 :=
  loopOK_of (s := sh195_1_l21) (live := [1, 3, 6, 7, 12, 13, 14, 15, 16, 17, 18, 19, 20]) (out := (outT [(.exit 4, [3, 6, 12, 13, 14, 15, 16, 17, 18, 19])])) (mv := []) (fun k d K => A195_1_l21 (f195_1_l21 F) k d K) F (fun d K => by kernel_rfl)  (fun k d K => by delta A195_1_l21; refine (f195_1_l21.eq_2 ..).trans ?_; delta T195_1 S216_1 LT195_1; generalize (G195_1_3 F F) = c, (G195_1_7 F F) = c, (G195_1_21 F F) = c;  (try delta G195_1_21); generalize (f216_1 F : Y216_1) = c, (f195_1_l21 F : Y195_1_l21) = c; as_aux_lemma => kernel_rfl)
theorem E195_1 (F : Nat) (d : sh195_1.den) (K : KF) : EB Tryz.prog (T195_1 F) (xw []) 217 2 (LT195_1 F) [] false Tryz.f195 sh195_1 d K = A195_1 (f195_1 F) d K := by delta A195_1 f195_1 T195_1 S216_1 LT195_1;  delta G195_1_3 G195_1_7 G195_1_21; generalize (f216_1 F : Y216_1) = c, (f195_1_l3 F : Y195_1_l3) = c, (f195_1_l7 F : Y195_1_l7) = c, (f195_1_l21 F : Y195_1_l21) = c; as_aux_lemma => kernel_rfl
theorem S195_1_ok : So Tryz.prog 195 S195_1 :=
  fun F o ho => sOf (fn := Tryz.f195) (c := code195) (tab_cons (S216_1_ok F _ (noS_sound enter216)) tab_nil) ho (by rw [loops195]; exact (loopsOK_cons (by kernel_rfl) (L195_1_3 F) (loopsOK_cons (by kernel_rfl) (L195_1_7 F) (loopsOK_cons (by kernel_rfl) (L195_1_21 F) loopsOK_nil)))) snil rnil (E195_1 F)
end
section
noncomputable def f158_1_l4 {β : Type} (F : Nat) (v1 : List Int) (K0 : List Int → Option β) : Nat → List Int → Option β
  | 0, _ => none
  | k + 1, v2 => cond ((((v2.length : Nat) : Int).tmod 64) != 56) (cond (decide ((v2.length + 1) * 1 ≤ 70368744177664)) (f158_1_l4 F v1 K0 k (v2 ++ [0])) none) (K0 v2)
noncomputable def f158_1_l8 {β : Type} (F : Nat) (v4 : Int) (v6 : List Int) (K0 : List Int → Option β) : Nat → Int → List Int → Option β
  | 0, _, _ => none
  | k + 1, v5, v7 => cond (decide (v5 ≥ 0)) (cond (decide (IntKind.u64.wrap (IntKind.i64.wrap (8 * v5)) < 0)) none (cond (decide ((v7.length + 1) * 1 ≤ 70368744177664)) (f158_1_l8 F v4 v6 K0 k (IntKind.i64.wrap (v5 - 1)) (v7 ++ [IntKind.u8.wrap (ishr .u64 v4 (IntKind.u64.wrap (IntKind.i64.wrap (8 * v5))))])) none)) (K0 v7)
noncomputable def f158_1_l14 {β : Type} (F : Nat) (v12 v13 v15 : List Int) (K0 : List Int → Option β) : Nat → Int → List Int → Option β
  | 0, _, _ => none
  | k + 1, v11, v14 => cond (decide (IntKind.i64.wrap (v11 + 64) ≤ ((v13.length : Nat) : Int))) (cond (decide ((0 : Int) ≤ v11 ∧ v11 ≤ IntKind.i64.wrap (v11 + 64) ∧ IntKind.i64.wrap (v11 + 64) ≤ ((v13.length : Nat) : Int))) (f195_1 F v14 v15 ((v13.drop (0 + v11.toNat)).take ((IntKind.i64.wrap (v11 + 64) - v11).toNat)) (fun x16 => f158_1_l14 F v12 v13 v15 K0 k (IntKind.i64.wrap (v11 + 64)) x16) ) none) (K0 v14)
noncomputable def f158_1_l19 {β : Type} (F : Nat) (v19 v20 : List Int) (K0 : List Int → Option β) : Nat → Int → List Int → Option β
  | 0, _, _ => none
  | k + 1, v18, v21 => cond (decide (v18 < 8)) (cond (decide ((0 : Int) ≤ v18 ∧ v18 < 8)) (cond (decide (v18.toNat < v20.length)) (cond (decide ((0 : Int) ≤ v18 ∧ v18 < 8)) (cond (decide (v18.toNat < v20.length)) (cond (decide ((0 : Int) ≤ v18 ∧ v18 < 8)) (cond (decide (v18.toNat < v20.length)) (cond (decide ((0 : Int) ≤ v18 ∧ v18 < 8)) (cond (decide (v18.toNat < v20.length)) (cond (decide ((v21.length + 4) * 1 ≤ 70368744177664)) (f158_1_l19 F v19 v20 K0 k (IntKind.i64.wrap (v18 + 1)) (v21 ++ [IntKind.u8.wrap (ishr .u32 (v20.getD v18.toNat 0) 24), IntKind.u8.wrap (ishr .u32 (v20.getD v18.toNat 0) 16), IntKind.u8.wrap (ishr .u32 (v20.getD v18.toNat 0) 8), IntKind.u8.wrap (v20.getD v18.toNat 0)])) none) none) none) none) none) none) none) none) none) (K0 v21)
noncomputable def f158_1 {β : Type} (F : Nat) (a1 : List Int) (K0 : ByteArray → Option β) : Option β := cond (decide (a1.length * 1 ≤ 70368744177664)) (cond (decide ((a1.length + 1) * 1 ≤ 70368744177664)) (f158_1_l4 F a1 (fun x3 => f158_1_l8 F (IntKind.u64.wrap ((IntKind.u64.wrap ((a1.length : Nat) : Int)) * 8)) a1 (fun x8 => f193_1 F  (fun x9 => f194_1 F  (fun x10 => f158_1_l14 F a1 x8 x10 (fun x17 => f158_1_l19 F a1 x17 (fun x22 => K0 (ofInts x22)) F 0 []) F 0 x9) ) ) F 7 x3) F (a1 ++ [128])) none) none
variable [FZ]
def sh158_1 : Sh := ⟨[.lf (.full 0)], [some ⟨none, [.seq (.int .u8) 0]⟩]⟩
abbrev Y158_1 := List Int → (ByteArray → Option Res) → Option Res
noncomputable def A158_1 (g : Y158_1) (d : sh158_1.den) (K : KF) : Option Res := g d.2.1.2.1 (fun y0 => K [.lf (.str y0)] [some ⟨d.2.1.1, [.seq (.int .u8) 0 d.2.1.2.1]⟩])
noncomputable def S158_1 (F : Nat) (o : Summ) : Summ := mkS sh158_1 (fun d K => A158_1 (f158_1 F) d K) o
noncomputable def code158 : Code := bodyOf Tryz.f158
noncomputable def b158_0 : Code := cB (cB (cL (cR (cR (cR (cR (code158)))))))
noncomputable def b158_1 : Code := cB (cB (cR (cL (cR (cR (cR (cR (cR (cR (code158))))))))))
noncomputable def b158_2 : Code := cB (cB (cR (cL (cR (cR (cR (cR (cR (cR (cR (cR (cR (code158)))))))))))))
noncomputable def b158_3 : Code := cB (cB (cR (cL (cR (cR (cR (cR (cR (cR (cR (cR (cR (cR (cR (code158)))))))))))))))
theorem loops158 : loopsOf code158 = [b158_0, b158_1, b158_2, b158_3] := by kernel_rfl
theorem enter158 : En Tryz.prog 158 := enO (fn := Tryz.f158)
noncomputable def T158_1 (F : Nat) : FuncId → Option Summ := tab [(193, (S193_1 F noS)), (194, (S194_1 F noS)), (195, (S195_1 F noS))]
def sh158_1_l4 : Sh := ⟨[.lf (.full 0), .lf (.full 1)], [some ⟨none, [.seq (.int .u8) 0]⟩, some ⟨some false, [.seq (.int .u8) 0]⟩]⟩
abbrev Y158_1_l4 := List Int → (List Int → Option Res) → Nat → List Int → Option Res
noncomputable def A158_1_l4 (g : Y158_1_l4) (k : Nat) (d : sh158_1_l4.den) (K : KL) : Option Res := g d.2.1.2.1 (fun y1 => K (.exit 0) [.tv (.lf (.full 0)), .tv (.lf (.full 1))] [some ⟨d.2.1.1, [.seq (.int .u8) 0 d.2.1.2.1]⟩, some ⟨false, [.seq (.int .u8) 0 y1]⟩]) k d.2.2.1.2.1
def sh158_1_l8 : Sh := ⟨[.lf (.full 1), .lf (.int .u64), .lf (.int .i64)], [some ⟨none, [.seq (.int .u8) 0]⟩, some ⟨some false, [.seq (.int .u8) 0]⟩]⟩
abbrev Y158_1_l8 := Int → List Int → (List Int → Option Res) → Nat → Int → List Int → Option Res
noncomputable def A158_1_l8 (g : Y158_1_l8) (k : Nat) (d : sh158_1_l8.den) (K : KL) : Option Res := g d.1.2.1 d.2.1.2.1 (fun y1 => K (.exit 2) [.tv (.lf (.full 1))] [some ⟨d.2.1.1, [.seq (.int .u8) 0 d.2.1.2.1]⟩, some ⟨false, [.seq (.int .u8) 0 y1]⟩]) k d.1.2.2.1 d.2.2.1.2.1
def sh158_1_l14 : Sh := ⟨[.lf (.full 1), .lf (.ptr 2 0), .lf (.full 3), .lf (.int .i64)], [some ⟨none, [.seq (.int .u8) 0]⟩, some ⟨some false, [.seq (.int .u8) 0]⟩, some ⟨some false, [.seq (.int .u32) 8]⟩, some ⟨some false, [.seq (.int .u32) 0]⟩]⟩
abbrev Y158_1_l14 := List Int → List Int → List Int → (List Int → Option Res) → Nat → Int → List Int → Option Res
noncomputable def A158_1_l14 (g : Y158_1_l14) (k : Nat) (d : sh158_1_l14.den) (K : KL) : Option Res := g d.2.1.2.1 d.2.2.1.2.1 d.2.2.2.2.1.2.1 (fun y2 => K (.exit 4) [.tv (.lf (.ptr 2 0))] [some ⟨d.2.1.1, [.seq (.int .u8) 0 d.2.1.2.1]⟩, some ⟨false, [.seq (.int .u8) 0 d.2.2.1.2.1]⟩, some ⟨false, [.seq (.int .u32) 8 y2]⟩, some ⟨false, [.seq (.int .u32) 0 d.2.2.2.2.1.2.1]⟩]) k d.1.2.2.2.1 d.2.2.2.1.2.1
def sh158_1_l19 : Sh := ⟨[.lf (.ptr 1 0), .lf (.full 2), .lf (.int .i64)], [some ⟨none, [.seq (.int .u8) 0]⟩, some ⟨some false, [.seq (.int .u32) 8]⟩, some ⟨some false, [.seq (.int .u8) 0]⟩]⟩
abbrev Y158_1_l19 := List Int → List Int → (List Int → Option Res) → Nat → Int → List Int → Option Res
noncomputable def A158_1_l19 (g : Y158_1_l19) (k : Nat) (d : sh158_1_l19.den) (K : KL) : Option Res := g d.2.1.2.1 d.2.2.1.2.1 (fun y2 => K (.exit 6) [.tv (.lf (.full 2))] [some ⟨d.2.1.1, [.seq (.int .u8) 0 d.2.1.2.1]⟩, some ⟨false, [.seq (.int .u32) 8 d.2.2.1.2.1]⟩, some ⟨false, [.seq (.int .u8) 0 y2]⟩]) k d.1.2.2.1 d.2.2.2.1.2.1
noncomputable def G158_1_4 (F k : Nat) : LoopS := mkG sh158_1_l4 [0, 3] (outT [(.exit 0, [0, 3])]) (fun d K => A158_1_l4 (f158_1_l4 F) k d K) []
noncomputable def G158_1_8 (F k : Nat) : LoopS := mkG sh158_1_l8 [3, 4, 5] (outT [(.exit 2, [3])]) (fun d K => A158_1_l8 (f158_1_l8 F) k d K) []
noncomputable def G158_1_14 (F k : Nat) : LoopS := mkG sh158_1_l14 [3, 6, 7, 8] (outT [(.exit 4, [6])]) (fun d K => A158_1_l14 (f158_1_l14 F) k d K) []
noncomputable def G158_1_19 (F k : Nat) : LoopS := mkG sh158_1_l19 [6, 9, 10] (outT [(.exit 6, [9])]) (fun d K => A158_1_l19 (f158_1_l19 F) k d K) []
noncomputable def LT158_1 (F : Nat) : Nat → Option LoopS := ltab [(4, G158_1_4 F F), (8, G158_1_8 F F), (14, G158_1_14 F F), (19, G158_1_19 F F)]
theorem L158_1_4 (F : Nat) : LoopOK Tryz.prog (T158_1 F) (xw []) 86 1 (LT158_1 F) (G158_1_4 F F) b158_0 :=
  loopOK_of (s := sh158_1_l4) (live := [0, 3]) (out := (outT [(.exit 0, [0, 3])])) (mv := []) (fun k d K => A158_1_l4 (f158_1_l4 F) k d K) F (fun d K => by kernel_rfl)  (fun k d K => by delta A158_1_l4; refine (f158_1_l4.eq_2 ..).trans ?_; delta T158_1 S193_1 S194_1 S195_1 LT158_1; generalize (G158_1_4 F F) = c, (G158_1_8 F F) = c, (G158_1_14 F F) = c, (G158_1_19 F F) = c;  (try delta G158_1_4); generalize (f193_1 F : Y193_1) = c, (f194_1 F : Y194_1) = c, (f195_1 F : Y195_1) = c, (f158_1_l4 F : Y158_1_l4) = c; as_aux_lemma => kernel_rfl)
theorem L158_1_8 (F : Nat) : LoopOK Tryz.prog (T158_1 F) (xw []) 86 1 (LT158_1 F) (G158_1_8 F F) b158_1 :=
  loopOK_of (s := sh158_1_l8) (live := [3, 4, 5]) (out := (outT [(.exit 2, [3])])) (mv := []) (fun k d K => A158_1_l8 (f158_1_l8 F) k d K) F (fun d K => by kernel_rfl)  (fun k d K => by delta A158_1_l8; refine (f158_1_l8.eq_2 ..).trans ?_; delta T158_1 S193_1 S194_1 S195_1 LT158_1; generalize (G158_1_4 F F) = c, (G158_1_8 F F) = c, (G158_1_14 F F) = c, (G158_1_19 F F) = c;  (try delta G158_1_8); generalize (f193_1 F : Y193_1) = c, (f194_1 F : Y194_1) = c, (f195_1 F : Y195_1) = c, (f158_1_l8 F : Y158_1_l8) = c; as_aux_lemma => kernel_rfl)
theorem L158_1_14 (F : Nat) : LoopOK Tryz.prog (T158_1 F) (xw []) 86 1 (LT158_1 F) (G158_1_14 F F) b158_2 :=
  loopOK_of (s := sh158_1_l14) (live := [3, 6, 7, 8]) (out := (outT [(.exit 4, [6])])) (mv := []) (fun k d K => A158_1_l14 (f158_1_l14 F) k d K) F (fun d K => by kernel_rfl)  (fun k d K => by delta A158_1_l14; refine (f158_1_l14.eq_2 ..).trans ?_; delta T158_1 S193_1 S194_1 S195_1 LT158_1; generalize (G158_1_4 F F) = c, (G158_1_8 F F) = c, (G158_1_14 F F) = c, (G158_1_19 F F) = c;  (try delta G158_1_14); generalize (f193_1 F : Y193_1) = c, (f194_1 F : Y194_1) = c, (f195_1 F : Y195_1) = c, (f158_1_l14 F : Y158_1_l14) = c; as_aux_lemma => kernel_rfl)
theorem L158_1_19 (F : Nat) : LoopOK Tryz.prog (T158_1 F) (xw []) 86 1 (LT158_1 F) (G158_1_19 F F) b158_3 :=
  loopOK_of (s := sh158_1_l19) (live := [6, 9, 10]) (out := (outT [(.exit 6, [9])])) (mv := []) (fun k d K => A158_1_l19 (f158_1_l19 F) k d K) F (fun d K => by kernel_rfl)  (fun k d K => by delta A158_1_l19; refine (f158_1_l19.eq_2 ..).trans ?_; delta T158_1 S193_1 S194_1 S195_1 LT158_1; generalize (G158_1_4 F F) = c, (G158_1_8 F F) = c, (G158_1_14 F F) = c, (G158_1_19 F F) = c;  (try delta G158_1_19); generalize (f193_1 F : Y193_1) = c, (f194_1 F : Y194_1) = c, (f195_1 F : Y195_1) = c, (f158_1_l19 F : Y158_1_l19) = c; as_aux_lemma => kernel_rfl)
theorem E158_1 (F : Nat) (d : sh158_1.den) (K : KF) : EB Tryz.prog (T158_1 F) (xw []) 86 1 (LT158_1 F) [] false Tryz.f158 sh158_1 d K = A158_1 (f158_1 F) d K := by delta A158_1 f158_1 T158_1 S193_1 S194_1 S195_1 LT158_1;  delta G158_1_4 G158_1_8 G158_1_14 G158_1_19; generalize (f193_1 F : Y193_1) = c, (f194_1 F : Y194_1) = c, (f195_1 F : Y195_1) = c, (f158_1_l4 F : Y158_1_l4) = c, (f158_1_l8 F : Y158_1_l8) = c, (f158_1_l14 F : Y158_1_l14) = c, (f158_1_l19 F : Y158_1_l19) = c; as_aux_lemma => kernel_rfl
theorem S158_1_ok : So Tryz.prog 158 S158_1 :=
  fun F o ho => sOf (fn := Tryz.f158) (c := code158) (tab_cons (S193_1_ok F _ (noS_sound enter193)) (tab_cons (S194_1_ok F _ (noS_sound enter194)) (tab_cons (S195_1_ok F _ (noS_sound enter195)) tab_nil))) ho (by rw [loops158]; exact (loopsOK_cons (by kernel_rfl) (L158_1_4 F) (loopsOK_cons (by kernel_rfl) (L158_1_8 F) (loopsOK_cons (by kernel_rfl) (L158_1_14 F) (loopsOK_cons (by kernel_rfl) (L158_1_19 F) loopsOK_nil))))) snil rnil (E158_1 F)
end
section
noncomputable def f104_1 {β : Type} (F : Nat) (a1 : ByteArray) (K0 : ByteArray → Option β) : Option β := cond (decide ((⟨#[0]⟩ : ByteArray).size + a1.size ≤ 4611686018427387904)) (f158_1 F (toInts ((⟨#[0]⟩ : ByteArray) ++ a1)) (fun x1 => K0 x1) ) none
variable [FZ]
def sh104_1 : Sh := ⟨[.lf (.str)], []⟩
abbrev Y104_1 := ByteArray → (ByteArray → Option Res) → Option Res
noncomputable def A104_1 (g : Y104_1) (d : sh104_1.den) (K : KF) : Option Res := g d.1.1 (fun y0 => K [.lf (.str y0)] [])
noncomputable def S104_1 (F : Nat) (o : Summ) : Summ := mkS sh104_1 (fun d K => A104_1 (f104_1 F) d K) o
noncomputable def code104 : Code := bodyOf Tryz.f104
theorem enter104 : En Tryz.prog 104 := enO (fn := Tryz.f104)
noncomputable def T104_1 (F : Nat) : FuncId → Option Summ := tab [(158, (S158_1 F noS))]
noncomputable def LT104_1 (F : Nat) : Nat → Option LoopS := ltab []
theorem E104_1 (F : Nat) (d : sh104_1.den) (K : KF) : EB Tryz.prog (T104_1 F) (xw []) 7 0 (LT104_1 F) [] false Tryz.f104 sh104_1 d K = A104_1 (f104_1 F) d K := by delta A104_1 f104_1 T104_1 S158_1 LT104_1;  generalize (f158_1 F : Y158_1) = c; as_aux_lemma => kernel_rfl
theorem S104_1_ok : So Tryz.prog 104 S104_1 :=
  fun F o ho => sOf (fn := Tryz.f104) (c := code104) (tab_cons (S158_1_ok F _ (noS_sound enter158)) tab_nil) ho lnil snil rnil (E104_1 F)
end
section
noncomputable def f16_1 {β : Type} (F : Nat) (a1 : Int) (a2 : Bool) (a3 : Int) (a4 : List ByteArray) (a5 : List (Int × ByteArray)) (K0 : Option β) : Option β := K0
variable [FZ]
def sh16_1 : Sh := ⟨[.lf (.ptr 0 0)], [some ⟨none, [.full 1, .full 2, .int .i64, .bool, .int .i64]⟩, some ⟨none, [.seq .str 0]⟩, some ⟨none, [.seq (.pair (.int .i64) .str) 0]⟩]⟩
abbrev Y16_1 := Int → Bool → Int → List ByteArray → List (Int × ByteArray) → (Option Res) → Option Res
noncomputable def A16_1 (g : Y16_1) (d : sh16_1.den) (K : KF) : Option Res := g d.2.1.2.2.2.1 d.2.1.2.2.2.2.1 d.2.1.2.2.2.2.2.1 d.2.2.1.2.1 d.2.2.2.1.2.1 (K [.lf (.int .i64 d.2.1.2.2.2.2.2.1)] [some ⟨d.2.1.1, [.full 1, .full 2, .int .i64 d.2.1.2.2.2.1, .bool d.2.1.2.2.2.2.1, .int .i64 d.2.1.2.2.2.2.2.1]⟩, some ⟨d.2.2.1.1, [.seq .str 0 d.2.2.1.2.1]⟩, some ⟨d.2.2.2.1.1, [.seq (.pair (.int .i64) .str) 0 d.2.2.2.1.2.1]⟩])
noncomputable def S16_1 (F : Nat) (o : Summ) : Summ := mkS sh16_1 (fun d K => A16_1 (f16_1 F) d K) o
noncomputable def code16 : Code := bodyOf Tryz.f16
theorem enter16 : En Tryz.prog 16 := enO (fn := Tryz.f16)
noncomputable def T16_1 (F : Nat) : FuncId → Option Summ := tab []
noncomputable def LT16_1 (F : Nat) : Nat → Option LoopS := ltab []
theorem E16_1 (F : Nat) (d : sh16_1.den) (K : KF) : EB Tryz.prog (T16_1 F) (xw []) 9 3 (LT16_1 F) [] false Tryz.f16 sh16_1 d K = A16_1 (f16_1 F) d K := by delta A16_1 f16_1 T16_1 LT16_1;   as_aux_lemma => kernel_rfl
theorem S16_1_ok : So Tryz.prog 16 S16_1 :=
  fun F o ho => sOf (fn := Tryz.f16) (c := code16) tab_nil ho lnil snil rnil (E16_1 F)
end
section
noncomputable def f16_568 {β : Type} (F : Nat)  (K0 : Option β) : Option β := K0
variable [FZ]
def sh16_568 : Sh := ⟨[.lf (.nilp)], []⟩
abbrev Y16_568 := (Option Res) → Option Res
noncomputable def A16_568 (g : Y16_568) (d : sh16_568.den) (K : KF) : Option Res := g (K [.lf (.int .i64 0)] [])
noncomputable def S16_568 (F : Nat) (o : Summ) : Summ := mkS sh16_568 (fun d K => A16_568 (f16_568 F) d K) o
noncomputable def T16_568 (F : Nat) : FuncId → Option Summ := tab []
noncomputable def LT16_568 (F : Nat) : Nat → Option LoopS := ltab []
theorem E16_568 (F : Nat) (d : sh16_568.den) (K : KF) : EB Tryz.prog (T16_568 F) (xw []) 9 0 (LT16_568 F) [] false Tryz.f16 sh16_568 d K = A16_568 (f16_568 F) d K := by delta A16_568 f16_568 T16_568 LT16_568;   as_aux_lemma => kernel_rfl
theorem S16_568_ok : So Tryz.prog 16 S16_568 :=
  fun F o ho => sOf (fn := Tryz.f16) (c := code16) tab_nil ho lnil snil rnil (E16_568 F)
end
section
noncomputable def f217_1_l3 {β : Type} (F : Nat) (v2 v4 : Int) (v6 : List Int) (K0 : Int → Int → Option β) (K1 : Option β) : Nat → Int → Int → Option β
  | 0, _, _ => none
  | k + 1, v3, v5 => cond (decide (v5 < v4)) (cond (decide ((0 : Int) ≤ v5 ∧ v5 < ((v6.length : Nat) : Int))) (cond (decide (0 + v5.toNat < v6.length)) (f144_1 F v2 v3 (IntKind.i64.wrap ((IntKind.i64.wrap (v3 + (v6.getD (0 + v5.toNat) 0))) - 1)) (fun x7 => cond x7 (K0 v5 v3) (f217_1_l3 F v2 v4 v6 K0 K1 k (IntKind.i64.wrap (v3 + (v6.getD (0 + v5.toNat) 0))) (IntKind.i64.wrap (v5 + 1)))) ) none) none) (K1)
noncomputable def f217_1 {β : Type} (F : Nat) (a1 a2 a3 a4 a5 : Int) (K0 : Int → Int → Bool → Option β) : Option β := f164_1 F a1 a2 a3 a4 (fun x1 => f217_1_l3 F a5 ((x1.length : Nat) : Int) x1 (fun x8 x9 => K0 x8 x9 true) (K0 0 0 false) F 0 0) 
variable [FZ]
def sh217_1 : Sh := ⟨[.agg [.int .i64, .int .i64, .int .i64, .int .i64], .lf (.int .i64)], []⟩
abbrev Y217_1 := Int → Int → Int → Int → Int → (Int → Int → Bool → Option Res) → Option Res
noncomputable def A217_1 (g : Y217_1) (d : sh217_1.den) (K : KF) : Option Res := g d.1.1.1 d.1.1.2.1 d.1.1.2.2.1 d.1.1.2.2.2.1 d.1.2.1 (fun y0 y1 y2 => K [.lf (.int .i64 y0), .lf (.int .i64 y1), .lf (.bool y2)] [])
noncomputable def S217_1 (F : Nat) (o : Summ) : Summ := mkS sh217_1 (fun d K => A217_1 (f217_1 F) d K) o
noncomputable def code217 : Code := bodyOf Tryz.f217
noncomputable def b217_0 : Code := cB (cB (cR (cL (cR (cR (code217))))))
theorem loops217 : loopsOf code217 = [b217_0] := by kernel_rfl
theorem enter217 : En Tryz.prog 217 := enO (fn := Tryz.f217)
noncomputable def T217_1 (F : Nat) : FuncId → Option Summ := tab [(144, (S144_1 F noS)), (164, (S164_1 F noS))]
def sh217_1_l3 : Sh := ⟨[.lf (.int .i64), .lf (.int .i64), .lf (.full 0), .lf (.int .i64), .lf (.int .i64)], [some ⟨some false, [.seq (.int .i64) 0]⟩]⟩
abbrev Y217_1_l3 := Int → Int → List Int → (Int → Int → Option Res) → (Option Res) → Nat → Int → Int → Option Res
noncomputable def A217_1_l3 (g : Y217_1_l3) (k : Nat) (d : sh217_1_l3.den) (K : KL) : Option Res := g d.1.1 d.1.2.2.2.1 d.2.1.2.1 (fun y0 y1 => K .ret [.tv (.lf (.int .i64 y0)), .tv (.lf (.int .i64 y1)), .tv (.lf (.bool true))] [some ⟨false, [.seq (.int .i64) 0 d.2.1.2.1]⟩]) (K (.exit 0) [] [some ⟨false, [.seq (.int .i64) 0 d.2.1.2.1]⟩]) k d.1.2.1 d.1.2.2.2.2.1
noncomputable def G217_1_3 (F k : Nat) : LoopS := mkG sh217_1_l3 [1, 7, 11, 12, 13] (outT [(.exit 0, []), (.ret, [4, 5, 6])]) (fun d K => A217_1_l3 (f217_1_l3 F) k d K) []
noncomputable def LT217_1 (F : Nat) : Nat → Option LoopS := ltab [(3, G217_1_3 F F)]
theorem L217_1_3 (F : Nat) : LoopOK Tryz.prog (T217_1 F) (xw []) 31 0 (LT217_1 F) (G217_1_3 F F) b217_0 :=
  loopOK_of (s := sh217_1_l3) (live := [1, 7, 11, 12, 13]) (out := (outT [(.exit 0, []), (.ret, [4, 5, 6])])) (mv := []) (fun k d K => A217_1_l3 (f217_1_l3 F) k d K) F (fun d K => by kernel_rfl)  (fun k d K => by delta A217_1_l3; refine (f217_1_l3.eq_2 ..).trans ?_; delta T217_1 S144_1 S164_1 LT217_1; generalize (G217_1_3 F F) = c;  (try delta G217_1_3); generalize (f144_1 F : Y144_1) = c, (f164_1 F : Y164_1) = c, (f217_1_l3 F : Y217_1_l3) = c; as_aux_lemma => kernel_rfl)
theorem E217_1 (F : Nat) (d : sh217_1.den) (K : KF) : EB Tryz.prog (T217_1 F) (xw []) 31 0 (LT217_1 F) [] false Tryz.f217 sh217_1 d K = A217_1 (f217_1 F) d K := by delta A217_1 f217_1 T217_1 S144_1 S164_1 LT217_1;  delta G217_1_3; generalize (f144_1 F : Y144_1) = c, (f164_1 F : Y164_1) = c, (f217_1_l3 F : Y217_1_l3) = c; as_aux_lemma => kernel_rfl
theorem S217_1_ok : So Tryz.prog 217 S217_1 :=
  fun F o ho => sOf (fn := Tryz.f217) (c := code217) (tab_cons (S144_1_ok F _ (noS_sound enter144)) (tab_cons (S164_1_ok F _ (noS_sound enter164)) tab_nil)) ho (by rw [loops217]; exact (loopsOK_cons (by kernel_rfl) (L217_1_3 F) loopsOK_nil)) snil rnil (E217_1 F)
end
section
noncomputable def f196_1 {β : Type} (F : Nat) (a1 a2 a3 a4 a5 : Int) (K0 : Int → Option β) : Option β := f217_1 F a1 a2 a3 a4 a5 (fun x1 x2 x3 => cond (!x3) (K0 (-1)) (f106_1 F a1 a2 a3 a4 (fun x4 => cond (a5 == x4) (K0 (-1)) (cond (decide (a2 = 0)) none (f164_1 F a1 a2 a3 a4 (fun x5 => cond (decide ((0 : Int) ≤ x1 ∧ x1 < ((x5.length : Nat) : Int))) (cond (decide (0 + x1.toNat < x5.length)) (K0 (IntKind.i64.wrap ((IntKind.i64.wrap (x2 + (x5.getD (0 + x1.toNat) 0))) + (IntKind.i64.wrap ((IntKind.i64.wrap (a5 - x2)).tdiv a2))))) none) none) ))) )) 
variable [FZ]
def sh196_1 : Sh := ⟨[.agg [.int .i64, .int .i64, .int .i64, .int .i64], .lf (.int .i64)], []⟩
abbrev Y196_1 := Int → Int → Int → Int → Int → (Int → Option Res) → Option Res
noncomputable def A196_1 (g : Y196_1) (d : sh196_1.den) (K : KF) : Option Res := g d.1.1.1 d.1.1.2.1 d.1.1.2.2.1 d.1.1.2.2.2.1 d.1.2.1 (fun y0 => K [.lf (.int .i64 y0)] [])
noncomputable def S196_1 (F : Nat) (o : Summ) : Summ := mkS sh196_1 (fun d K => A196_1 (f196_1 F) d K) o
noncomputable def code196 : Code := bodyOf Tryz.f196
theorem enter196 : En Tryz.prog 196 := enO (fn := Tryz.f196)
noncomputable def T196_1 (F : Nat) : FuncId → Option Summ := tab [(106, (S106_1 F noS)), (164, (S164_1 F noS)), (217, (S217_1 F noS))]
noncomputable def LT196_1 (F : Nat) : Nat → Option LoopS := ltab []
theorem E196_1 (F : Nat) (d : sh196_1.den) (K : KF) : EB Tryz.prog (T196_1 F) (xw []) 37 0 (LT196_1 F) [] false Tryz.f196 sh196_1 d K = A196_1 (f196_1 F) d K := by delta A196_1 f196_1 T196_1 S106_1 S164_1 S217_1 LT196_1;  generalize (f106_1 F : Y106_1) = c, (f164_1 F : Y164_1) = c, (f217_1 F : Y217_1) = c; as_aux_lemma => kernel_rfl
theorem S196_1_ok : So Tryz.prog 196 S196_1 :=
  fun F o ho => sOf (fn := Tryz.f196) (c := code196) (tab_cons (S106_1_ok F _ (noS_sound enter106)) (tab_cons (S164_1_ok F _ (noS_sound enter164)) (tab_cons (S217_1_ok F _ (noS_sound enter217)) tab_nil))) ho lnil snil rnil (E196_1 F)
end
section
noncomputable def f159_1_l5 {β : Type} (F : Nat) (v4 v5 v6 v7 : Int) (K0 : List Int → Option β) : Nat → Int → List Int → Option β
  | 0, _, _ => none
  | k + 1, v3, v8 => cond (v3 != (-1)) (cond (decide ((v8.length + 1) * 8 ≤ 70368744177664)) (f196_1 F v4 v5 v6 v7 v3 (fun x9 => f159_1_l5 F v4 v5 v6 v7 K0 k x9 (v8 ++ [v3])) ) none) (K0 v8)
noncomputable def f159_1 {β : Type} (F : Nat) (a1 a2 a3 a4 a5 : Int) (K0 : List Int → Option β) : Option β := f90_1 F a1 a2 a3 a4 (fun x1 => cond (!x1) (K0 []) (f144_1 F a5 0 (IntKind.i64.wrap (a1 - 1)) (fun x2 => cond (!x2) (K0 []) (f159_1_l5 F a1 a2 a3 a4 (fun x10 => K0 x10) F a5 [])) )) 
variable [FZ]
def sh159_1 : Sh := ⟨[.agg [.int .i64, .int .i64, .int .i64, .int .i64], .lf (.int .i64)], []⟩
abbrev Y159_1 := Int → Int → Int → Int → Int → (List Int → Option Res) → Option Res
noncomputable def A159_1 (g : Y159_1) (d : sh159_1.den) (K : KF) : Option Res := g d.1.1.1 d.1.1.2.1 d.1.1.2.2.1 d.1.1.2.2.2.1 d.1.2.1 (fun y0 => K [.lf (.full 0)] [some ⟨false, [.seq (.int .i64) 0 y0]⟩])
noncomputable def S159_1 (F : Nat) (o : Summ) : Summ := mkS sh159_1 (fun d K => A159_1 (f159_1 F) d K) o
noncomputable def code159 : Code := bodyOf Tryz.f159
noncomputable def b159_0 : Code := cB (cB (cR (cL (cR (cR (cR (code159)))))))
theorem loops159 : loopsOf code159 = [b159_0] := by kernel_rfl
theorem enter159 : En Tryz.prog 159 := enO (fn := Tryz.f159)
noncomputable def T159_1 (F : Nat) : FuncId → Option Summ := tab [(90, (S90_1 F noS)), (144, (S144_1 F noS)), (196, (S196_1 F noS))]
def sh159_1_l5 : Sh := ⟨[.lf (.ptr 0 0), .lf (.full 1), .lf (.int .i64)], [some ⟨some false, [.int .i64, .int .i64, .int .i64, .int .i64]⟩, some ⟨some false, [.seq (.int .i64) 0]⟩]⟩
abbrev Y159_1_l5 := Int → Int → Int → Int → (List Int → Option Res) → Nat → Int → List Int → Option Res
noncomputable def A159_1_l5 (g : Y159_1_l5) (k : Nat) (d : sh159_1_l5.den) (K : KL) : Option Res := g d.2.1.2.1 d.2.1.2.2.1 d.2.1.2.2.2.1 d.2.1.2.2.2.2.1 (fun y4 => K (.exit 0) [.tv (.lf (.full 1))] [some ⟨false, [.int .i64 d.2.1.2.1, .int .i64 d.2.1.2.2.1, .int .i64 d.2.1.2.2.2.1, .int .i64 d.2.1.2.2.2.2.1]⟩, some ⟨false, [.seq (.int .i64) 0 y4]⟩]) k d.1.2.2.1 d.2.2.1.2.1
noncomputable def G159_1_5 (F k : Nat) : LoopS := mkG sh159_1_l5 [2, 5, 6] (outT [(.exit 0, [5])]) (fun d K => A159_1_l5 (f159_1_l5 F) k d K) []
noncomputable def LT159_1 (F : Nat) : Nat → Option LoopS := ltab [(5, G159_1_5 F F)]
theorem L159_1_5 (F : Nat) : LoopOK Tryz.prog (T159_1 F) (xw []) 29 0 (LT159_1 F) (G159_1_5 F F) b159_0 :=
  loopOK_of (s := sh159_1_l5) (live := [2, 5, 6]) (out := (outT [(.exit 0, [5])])) (mv := []) (fun k d K => A159_1_l5 (f159_1_l5 F) k d K) F (fun d K => by kernel_rfl)  (fun k d K => by delta A159_1_l5; refine (f159_1_l5.eq_2 ..).trans ?_; delta T159_1 S90_1 S144_1 S196_1 LT159_1; generalize (G159_1_5 F F) = c;  (try delta G159_1_5); generalize (f90_1 F : Y90_1) = c, (f144_1 F : Y144_1) = c, (f196_1 F : Y196_1) = c, (f159_1_l5 F : Y159_1_l5) = c; as_aux_lemma => kernel_rfl)
theorem E159_1 (F : Nat) (d : sh159_1.den) (K : KF) : EB Tryz.prog (T159_1 F) (xw []) 29 0 (LT159_1 F) [] false Tryz.f159 sh159_1 d K = A159_1 (f159_1 F) d K := by delta A159_1 f159_1 T159_1 S90_1 S144_1 S196_1 LT159_1;  delta G159_1_5; generalize (f90_1 F : Y90_1) = c, (f144_1 F : Y144_1) = c, (f196_1 F : Y196_1) = c, (f159_1_l5 F : Y159_1_l5) = c; as_aux_lemma => kernel_rfl
theorem S159_1_ok : So Tryz.prog 159 S159_1 :=
  fun F o ho => sOf (fn := Tryz.f159) (c := code159) (tab_cons (S90_1_ok F _ (noS_sound enter90)) (tab_cons (S144_1_ok F _ (noS_sound enter144)) (tab_cons (S196_1_ok F _ (noS_sound enter196)) tab_nil))) ho (by rw [loops159]; exact (loopsOK_cons (by kernel_rfl) (L159_1_5 F) loopsOK_nil)) snil rnil (E159_1 F)
end
section
noncomputable def f159_5436_l5 {β : Type} (F : Nat) (v4 v5 v6 v7 : Int) (K0 : List Int → Option β) : Nat → Int → List Int → Option β
  | 0, _, _ => none
  | k + 1, v3, v8 => cond (v3 != (-1)) (cond (decide ((v8.length + 1) * 8 ≤ 70368744177664)) (f196_1 F v4 v5 v6 v7 v3 (fun x9 => f159_5436_l5 F v4 v5 v6 v7 K0 k x9 (v8 ++ [v3])) ) none) (K0 v8)
noncomputable def f159_5436 {β : Type} (F : Nat) (a1 a2 a3 a4 a5 : Int) (K0 : Option β) (K1 : List Int → Option β) : Option β := f90_1 F a1 a2 a3 a4 (fun x1 => cond (!x1) (K0) (f144_1 F a5 0 (IntKind.i64.wrap (a1 - 1)) (fun x2 => cond (!x2) (K0) (f159_5436_l5 F a1 a2 a3 a4 (fun x10 => K1 x10) F a5 [])) )) 
variable [FZ]
def sh159_5436 : Sh := ⟨[.agg [.int .i64, .int .i64, .int .i64, .int .i64], .lf (.int .i64)], []⟩
abbrev Y159_5436 := Int → Int → Int → Int → Int → (Option Res) → (List Int → Option Res) → Option Res
noncomputable def A159_5436 (g : Y159_5436) (d : sh159_5436.den) (K : KF) : Option Res := g d.1.1.1 d.1.1.2.1 d.1.1.2.2.1 d.1.1.2.2.2.1 d.1.2.1 (K [.lf (.nils (some (.int .i64)))] []) (fun y0 => K [.lf (.full 0)] [some ⟨false, [.seq (.int .i64) 0 y0]⟩])
noncomputable def S159_5436 (F : Nat) (o : Summ) : Summ := mkS sh159_5436 (fun d K => A159_5436 (f159_5436 F) d K) o
noncomputable def T159_5436 (F : Nat) : FuncId → Option Summ := tab [(90, (S90_1 F noS)), (144, (S144_1 F noS)), (196, (S196_1 F noS))]
def sh159_5436_l5 : Sh := ⟨[.lf (.ptr 0 0), .lf (.full 1), .lf (.int .i64)], [some ⟨some false, [.int .i64, .int .i64, .int .i64, .int .i64]⟩, some ⟨some false, [.seq (.int .i64) 0]⟩]⟩
abbrev Y159_5436_l5 := Int → Int → Int → Int → (List Int → Option Res) → Nat → Int → List Int → Option Res
noncomputable def A159_5436_l5 (g : Y159_5436_l5) (k : Nat) (d : sh159_5436_l5.den) (K : KL) : Option Res := g d.2.1.2.1 d.2.1.2.2.1 d.2.1.2.2.2.1 d.2.1.2.2.2.2.1 (fun y4 => K (.exit 0) [.tv (.lf (.full 1))] [some ⟨false, [.int .i64 d.2.1.2.1, .int .i64 d.2.1.2.2.1, .int .i64 d.2.1.2.2.2.1, .int .i64 d.2.1.2.2.2.2.1]⟩, some ⟨false, [.seq (.int .i64) 0 y4]⟩]) k d.1.2.2.1 d.2.2.1.2.1
noncomputable def G159_5436_5 (F k : Nat) : LoopS := mkG sh159_5436_l5 [2, 5, 6] (outT [(.exit 0, [5])]) (fun d K => A159_5436_l5 (f159_5436_l5 F) k d K) []
noncomputable def LT159_5436 (F : Nat) : Nat → Option LoopS := ltab [(5, G159_5436_5 F F)]
theorem L159_5436_5 (F : Nat) : LoopOK Tryz.prog (T159_5436 F) (xw []) 29 0 (LT159_5436 F) (G159_5436_5 F F) b159_0 :=
  loopOK_of (s := sh159_5436_l5) (live := [2, 5, 6]) (out := (outT [(.exit 0, [5])])) (mv := []) (fun k d K => A159_5436_l5 (f159_5436_l5 F) k d K) F (fun d K => by kernel_rfl)  (fun k d K => by delta A159_5436_l5; refine (f159_5436_l5.eq_2 ..).trans ?_; delta T159_5436 S90_1 S144_1 S196_1 LT159_5436; generalize (G159_5436_5 F F) = c;  (try delta G159_5436_5); generalize (f90_1 F : Y90_1) = c, (f144_1 F : Y144_1) = c, (f196_1 F : Y196_1) = c, (f159_5436_l5 F : Y159_5436_l5) = c; as_aux_lemma => kernel_rfl)
theorem E159_5436 (F : Nat) (d : sh159_5436.den) (K : KF) : EB Tryz.prog (T159_5436 F) (xw []) 29 0 (LT159_5436 F) [] true Tryz.f159 sh159_5436 d K = A159_5436 (f159_5436 F) d K := by delta A159_5436 f159_5436 T159_5436 S90_1 S144_1 S196_1 LT159_5436;  delta G159_5436_5; generalize (f90_1 F : Y90_1) = c, (f144_1 F : Y144_1) = c, (f196_1 F : Y196_1) = c, (f159_5436_l5 F : Y159_5436_l5) = c; as_aux_lemma => kernel_rfl
theorem S159_5436_ok : So Tryz.prog 159 S159_5436 :=
  fun F o ho => sOf (fn := Tryz.f159) (c := code159) (tab_cons (S90_1_ok F _ (noS_sound enter90)) (tab_cons (S144_1_ok F _ (noS_sound enter144)) (tab_cons (S196_1_ok F _ (noS_sound enter196)) tab_nil))) ho (by rw [loops159]; exact (loopsOK_cons (by kernel_rfl) (L159_5436_5 F) loopsOK_nil)) snil rnil (E159_5436 F)
end
section
noncomputable def f105_1_l9 {β : Type} (F : Nat) (v11 v12 v13 : Int) (v15 : List Int) (v16 v17 v18 v19 : Int) (v20 : List Bool) (v22 : List Int) (K0 : List Bool → Option β) : Nat → Int → List Bool → Option β
  | 0, _, _ => none
  | k + 1, v14, v21 => cond (decide (v14 < v13)) (cond (decide ((0 : Int) ≤ v14 ∧ v14 < ((v22.length : Nat) : Int))) (cond (decide (0 + v14.toNat < v22.length)) (cond (decide ((0 : Int) ≤ v22.getD (0 + v14.toNat) 0 ∧ v22.getD (0 + v14.toNat) 0 < 256)) (cond (decide ((v22.getD (0 + v14.toNat) 0).toNat < v21.length)) (f105_1_l9 F v11 v12 v13 v15 v16 v17 v18 v19 v20 v22 K0 k (IntKind.i64.wrap (v14 + 1)) (v21.set ((v22.getD (0 + v14.toNat) 0).toNat) true)) none) none) none) none) (K0 v21)
noncomputable def f105_1_l3 {β : Type} (F : Nat) (v1 : Int) (v3 : List Int) (v4 v5 v6 v7 : Int) (v8 : List Bool) (K0 : List Bool → List Bool → Option β) (K1 : List Bool → List Bool → List Int → Option β) (K2 : List Bool → Option β) : Nat → Int → List Bool → Option β
  | 0, _, _ => none
  | k + 1, v2, v9 => cond (decide (v2 < v1)) (cond (decide ((0 : Int) ≤ v2 ∧ v2 < ((v3.length : Nat) : Int))) (cond (decide (0 + v2.toNat < v3.length)) (f159_5436 F v4 v5 v6 v7 (v3.getD (0 + v2.toNat) 0) (K0 v9 v9) (fun x10 => cond (decide (0 < x10.length)) (f105_1_l9 F v1 v2 ((x10.length : Nat) : Int) v3 v4 v5 v6 v7 v8 x10 (fun x23 => f105_1_l3 F v1 v3 v4 v5 v6 v7 v8 K0 K1 K2 k (IntKind.i64.wrap (v2 + 1)) x23) F 0 v9) (amb (K1 v9 v9 x10) (f105_1_l9 F v1 v2 ((x10.length : Nat) : Int) v3 v4 v5 v6 v7 v8 x10 (fun x24 => f105_1_l3 F v1 v3 v4 v5 v6 v7 v8 K0 K1 K2 k (IntKind.i64.wrap (v2 + 1)) x24) F 0 v9))) ) none) none) (K2 v9)
noncomputable def f105_1 {β : Type} (F : Nat) (a1 a2 a3 a4 : Int) (a5 : List Int) (K0 : List Bool → Int → Option β) : Option β := f105_1_l3 F ((a5.length : Nat) : Int) a5 a1 a2 a3 a4 [false, false, false, false, false, false, false, false, false, false, false, false, false, false, false, false, false, false, false, false, false, false, false, false, false, false, false, false, false, false, false, false, false, false, false, false, false, false, false, false, false, false, false, false, false, false, false, false, false, false, false, false, false, false, false, false, false, false, false, false, false, false, false, false, false, false, false, false, false, false, false, false, false, false, false, false, false, false, false, false, false, false, false, false, false, false, false, false, false, false, false, false, false, false, false, false, false, false, false, false, false, false, false, false, false, false, false, false, false, false, false, false, false, false, false, false, false, false, false, false, false, false, false, false, false, false, false, false, false, false, false, false, false, false, false, false, false, false, false, false, false, false, false, false, false, false, false, false, false, false, false, false, false, false, false, false, false, false, false, false, false, false, false, false, false, false, false, false, false, false, false, false, false, false, false, false, false, false, false, false, false, false, false, false, false, false, false, false, false, false, false, false, false, false, false, false, false, false, false, false, false, false, false, false, false, false, false, false, false, false, false, false, false, false, false, false, false, false, false, false, false, false, false, false, false, false, false, false, false, false, false, false, false, false, false, false, false, false, false, false, false, false, false, false, false, false, false, false, false, false, false, false, false, false, false, false] (fun x25 x26 => K0 x25 3) (fun x27 x28 x29 => K0 x27 3) (fun x30 => K0 x30 0) F 0 [false, false, false, false, false, false, false, false, false, false, false, false, false, false, false, false, false, false, false, false, false, false, false, false, false, false, false, false, false, false, false, false, false, false, false, false, false, false, false, false, false, false, false, false, false, false, false, false, false, false, false, false, false, false, false, false, false, false, false, false, false, false, false, false, false, false, false, false, false, false, false, false, false, false, false, false, false, false, false, false, false, false, false, false, false, false, false, false, false, false, false, false, false, false, false, false, false, false, false, false, false, false, false, false, false, false, false, false, false, false, false, false, false, false, false, false, false, false, false, false, false, false, false, false, false, false, false, false, false, false, false, false, false, false, false, false, false, false, false, false, false, false, false, false, false, false, false, false, false, false, false, false, false, false, false, false, false, false, false, false, false, false, false, false, false, false, false, false, false, false, false, false, false, false, false, false, false, false, false, false, false, false, false, false, false, false, false, false, false, false, false, false, false, false, false, false, false, false, false, false, false, false, false, false, false, false, false, false, false, false, false, false, false, false, false, false, false, false, false, false, false, false, false, false, false, false, false, false, false, false, false, false, false, false, false, false, false, false, false, false, false, false, false, false, false, false, false, false, false, false, false, false, false, false, false, false]
variable [FZ]
def sh105_1 : Sh := ⟨[.agg [.int .i64, .int .i64, .int .i64, .int .i64], .lf (.full 0)], [some ⟨none, [.seq (.int .i64) 0]⟩]⟩
abbrev Y105_1 := Int → Int → Int → Int → List Int → (List Bool → Int → Option Res) → Option Res
noncomputable def A105_1 (g : Y105_1) (d : sh105_1.den) (K : KF) : Option Res := g d.1.1.1 d.1.1.2.1 d.1.1.2.2.1 d.1.1.2.2.2.1 d.2.1.2.1 (fun y0 y1 => K [.agg [.seq .bool 256 y0], .lf (.int .i64 y1)] [some ⟨d.2.1.1, [.seq (.int .i64) 0 d.2.1.2.1]⟩])
noncomputable def S105_1 (F : Nat) (o : Summ) : Summ := mkS sh105_1 (fun d K => A105_1 (f105_1 F) d K) o
noncomputable def code105 : Code := bodyOf Tryz.f105
noncomputable def b105_0 : Code := cB (cB (cR (cL (cR (cR (code105))))))
noncomputable def b105_1 : Code := cB (cB (cR (cR (cR (cR (cB (cL (cR (cR (cB (cB (cR (cL (cR (cR (code105))))))))))))))))
theorem loops105 : loopsOf code105 = [b105_0, b105_1] := by kernel_rfl
theorem enter105 : En Tryz.prog 105 := enO (fn := Tryz.f105)
noncomputable def T105_1 (F : Nat) : FuncId → Option Summ := tab [(159, (S159_5436 F noS))]
def sh105_1_l9 : Sh := ⟨[.lf (.ptr 1 0), .lf (.ptr 2 0), .lf (.ptr 3 0), .lf (.full 0), .lf (.int .i64), .lf (.int .i64), .lf (.full 4), .lf (.int .i64), .lf (.int .i64)], [some ⟨none, [.seq (.int .i64) 0]⟩, some ⟨some false, [.int .i64, .int .i64, .int .i64, .int .i64]⟩, some ⟨some false, [.seq .bool 256]⟩, some ⟨some false, [.seq .bool 256]⟩, some ⟨some false, [.seq (.int .i64) 0]⟩]⟩
abbrev Y105_1_l9 := Int → Int → Int → List Int → Int → Int → Int → Int → List Bool → List Int → (List Bool → Option Res) → Nat → Int → List Bool → Option Res
noncomputable def A105_1_l9 (g : Y105_1_l9) (k : Nat) (d : sh105_1_l9.den) (K : KL) : Option Res := g d.1.2.2.2.2.1 d.1.2.2.2.2.2.1 d.1.2.2.2.2.2.2.2.1 d.2.1.2.1 d.2.2.1.2.1 d.2.2.1.2.2.1 d.2.2.1.2.2.2.1 d.2.2.1.2.2.2.2.1 d.2.2.2.1.2.1 d.2.2.2.2.2.1.2.1 (fun y8 => K (.exit 2) [.tv (.lf (.ptr 1 0)), .tv (.lf (.ptr 2 0)), .tv (.lf (.ptr 3 0)), .tv (.lf (.full 0)), .tv (.lf (.int .i64 d.1.2.2.2.2.1)), .tv (.lf (.int .i64 d.1.2.2.2.2.2.1))] [some ⟨d.2.1.1, [.seq (.int .i64) 0 d.2.1.2.1]⟩, some ⟨false, [.int .i64 d.2.2.1.2.1, .int .i64 d.2.2.1.2.2.1, .int .i64 d.2.2.1.2.2.2.1, .int .i64 d.2.2.1.2.2.2.2.1]⟩, some ⟨false, [.seq .bool 256 d.2.2.2.1.2.1]⟩, some ⟨false, [.seq .bool 256 y8]⟩, some ⟨false, [.seq (.int .i64) 0 d.2.2.2.2.2.1.2.1]⟩]) k d.1.2.2.2.2.2.2.2.2.1 d.2.2.2.2.1.2.1
def sh105_1_l3 : Sh := ⟨[.lf (.ptr 1 0), .lf (.ptr 2 0), .lf (.ptr 3 0), .lf (.full 0), .lf (.int .i64), .lf (.int .i64)], [some ⟨none, [.seq (.int .i64) 0]⟩, some ⟨some false, [.int .i64, .int .i64, .int .i64, .int .i64]⟩, some ⟨some false, [.seq .bool 256]⟩, some ⟨some false, [.seq .bool 256]⟩]⟩
abbrev Y105_1_l3 := Int → List Int → Int → Int → Int → Int → List Bool → (List Bool → List Bool → Option Res) → (List Bool → List Bool → List Int → Option Res) → (List Bool → Option Res) → Nat → Int → List Bool → Option Res
noncomputable def A105_1_l3 (g : Y105_1_l3) (k : Nat) (d : sh105_1_l3.den) (K : KL) : Option Res := g d.1.2.2.2.2.1 d.2.1.2.1 d.2.2.1.2.1 d.2.2.1.2.2.1 d.2.2.1.2.2.2.1 d.2.2.1.2.2.2.2.1 d.2.2.2.1.2.1 (fun y6 y7 => K .ret [.tv (.lf (.ptr 2 0)), .tv (.lf (.int .i64 3))] [some ⟨d.2.1.1, [.seq (.int .i64) 0 d.2.1.2.1]⟩, some ⟨false, [.int .i64 d.2.2.1.2.1, .int .i64 d.2.2.1.2.2.1, .int .i64 d.2.2.1.2.2.2.1, .int .i64 d.2.2.1.2.2.2.2.1]⟩, some ⟨false, [.seq .bool 256 y6]⟩, some ⟨false, [.seq .bool 256 y7]⟩]) (fun y6 y7 y8 => K .ret [.tv (.lf (.ptr 2 0)), .tv (.lf (.int .i64 3))] [some ⟨d.2.1.1, [.seq (.int .i64) 0 d.2.1.2.1]⟩, some ⟨false, [.int .i64 d.2.2.1.2.1, .int .i64 d.2.2.1.2.2.1, .int .i64 d.2.2.1.2.2.2.1, .int .i64 d.2.2.1.2.2.2.2.1]⟩, some ⟨false, [.seq .bool 256 y6]⟩, some ⟨false, [.seq .bool 256 y7]⟩, some ⟨false, [.seq (.int .i64) 0 y8]⟩]) (fun y6 => K (.exit 0) [.tv (.lf (.ptr 2 0)), .tv (.lf (.ptr 3 0))] [some ⟨d.2.1.1, [.seq (.int .i64) 0 d.2.1.2.1]⟩, some ⟨false, [.int .i64 d.2.2.1.2.1, .int .i64 d.2.2.1.2.2.1, .int .i64 d.2.2.1.2.2.2.1, .int .i64 d.2.2.1.2.2.2.2.1]⟩, some ⟨false, [.seq .bool 256 d.2.2.2.1.2.1]⟩, some ⟨false, [.seq .bool 256 y6]⟩]) k d.1.2.2.2.2.2.1 d.2.2.2.2.1.2.1
noncomputable def G105_1_9 (F k : Nat) : LoopS := mkG sh105_1_l9 [2, 4, 6, 12, 13, 14, 24, 25, 26] (outT [(.exit 2, [2, 4, 6, 12, 13, 14])]) (fun d K => A105_1_l9 (f105_1_l9 F) k d K) []
noncomputable def G105_1_3 (F k : Nat) : LoopS := mkG sh105_1_l3 [2, 4, 6, 12, 13, 14] (outT [(.exit 0, [4, 6]), (.ret, [4, 5])]) (fun d K => A105_1_l3 (f105_1_l3 F) k d K) []
noncomputable def LT105_1 (F : Nat) : Nat → Option LoopS := ltab [(9, G105_1_9 F F), (3, G105_1_3 F F)]
theorem L105_1_9 (F : Nat) : LoopOK Tryz.prog (T105_1 F) (xw []) 35 1 (LT105_1 F) (G105_1_9 F F) b105_1 :=
  loopOK_of (s := sh105_1_l9) (live := [2, 4, 6, 12, 13, 14, 24, 25, 26]) (out := (outT [(.exit 2, [2, 4, 6, 12, 13, 14])])) (mv := []) (fun k d K => A105_1_l9 (f105_1_l9 F) k d K) F (fun d K => by kernel_rfl)  (fun k d K => by delta A105_1_l9; refine (f105_1_l9.eq_2 ..).trans ?_; delta T105_1 S159_5436 LT105_1; generalize (G105_1_9 F F) = c, (G105_1_3 F F) = c;  (try delta G105_1_9); generalize (f159_5436 F : Y159_5436) = c, (f105_1_l9 F : Y105_1_l9) = c; as_aux_lemma => kernel_rfl)
theorem L105_1_3 (F : Nat) : LoopOK Tryz.prog (T105_1 F) (xw []) 35 1 (LT105_1 F) (G105_1_3 F F) b105_0 :=
  loopOK_of (s := sh105_1_l3) (live := [2, 4, 6, 12, 13, 14]) (out := (outT [(.exit 0, [4, 6]), (.ret, [4, 5])])) (mv := []) (fun k d K => A105_1_l3 (f105_1_l3 F) k d K) F (fun d K => by kernel_rfl)  (fun k d K => by delta A105_1_l3; refine (f105_1_l3.eq_2 ..).trans ?_; delta T105_1 S159_5436 LT105_1; generalize (G105_1_3 F F) = c;  (try delta G105_1_9 G105_1_3); generalize (f159_5436 F : Y159_5436) = c, (f105_1_l9 F : Y105_1_l9) = c, (f105_1_l3 F : Y105_1_l3) = c; as_aux_lemma => kernel_rfl)
theorem E105_1 (F : Nat) (d : sh105_1.den) (K : KF) : EB Tryz.prog (T105_1 F) (xw []) 35 1 (LT105_1 F) [] false Tryz.f105 sh105_1 d K = A105_1 (f105_1 F) d K := by delta A105_1 f105_1 T105_1 S159_5436 LT105_1; generalize (G105_1_9 F F) = c;  delta G105_1_3; generalize (f159_5436 F : Y159_5436) = c, (f105_1_l3 F : Y105_1_l3) = c; as_aux_lemma => kernel_rfl
theorem S105_1_ok : So Tryz.prog 105 S105_1 :=
  fun F o ho => sOf (fn := Tryz.f105) (c := code105) (tab_cons (S159_5436_ok F _ (noS_sound enter159)) tab_nil) ho (by rw [loops105]; exact (loopsOK_cons (by kernel_rfl) (L105_1_3 F) (loopsOK_cons (by kernel_rfl) (L105_1_9 F) loopsOK_nil))) snil rnil (E105_1 F)
end
section
noncomputable def f129_1 {β : Type} (F : Nat) (a1 a2 a3 a4 a5 : Int) (K0 : Int → Option β) : Option β := f90_1 F a1 a2 a3 a4 (fun x1 => cond (!x1) (K0 (-1)) (f144_1 F a5 0 (IntKind.i64.wrap (a1 - 1)) (fun x2 => cond (!x2) (K0 (-1)) (K0 (IntKind.i64.wrap (6 + a5)))) )) 
variable [FZ]
def sh129_1 : Sh := ⟨[.agg [.int .i64, .int .i64, .int .i64, .int .i64], .lf (.int .i64)], []⟩
abbrev Y129_1 := Int → Int → Int → Int → Int → (Int → Option Res) → Option Res
noncomputable def A129_1 (g : Y129_1) (d : sh129_1.den) (K : KF) : Option Res := g d.1.1.1 d.1.1.2.1 d.1.1.2.2.1 d.1.1.2.2.2.1 d.1.2.1 (fun y0 => K [.lf (.int .i64 y0)] [])
noncomputable def S129_1 (F : Nat) (o : Summ) : Summ := mkS sh129_1 (fun d K => A129_1 (f129_1 F) d K) o
noncomputable def code129 : Code := bodyOf Tryz.f129
theorem enter129 : En Tryz.prog 129 := enO (fn := Tryz.f129)
noncomputable def T129_1 (F : Nat) : FuncId → Option Summ := tab [(90, (S90_1 F noS)), (144, (S144_1 F noS))]
noncomputable def LT129_1 (F : Nat) : Nat → Option LoopS := ltab []
theorem E129_1 (F : Nat) (d : sh129_1.den) (K : KF) : EB Tryz.prog (T129_1 F) (xw []) 18 0 (LT129_1 F) [] false Tryz.f129 sh129_1 d K = A129_1 (f129_1 F) d K := by delta A129_1 f129_1 T129_1 S90_1 S144_1 LT129_1;  generalize (f90_1 F : Y90_1) = c, (f144_1 F : Y144_1) = c; as_aux_lemma => kernel_rfl
theorem S129_1_ok : So Tryz.prog 129 S129_1 :=
  fun F o ho => sOf (fn := Tryz.f129) (c := code129) (tab_cons (S90_1_ok F _ (noS_sound enter90)) (tab_cons (S144_1_ok F _ (noS_sound enter144)) tab_nil)) ho lnil snil rnil (E129_1 F)
end
section
noncomputable def f233_1 {β : Type} (F : Nat)  (K0 : List Int → Option β) : Option β := K0 [1779033703, 3144134277, 1013904242, 2773480762, 1359893119, 2600822924, 528734635, 1541459225]
variable [FZ]
def sh233_1 : Sh := ⟨[], []⟩
abbrev Y233_1 := (List Int → Option Res) → Option Res
noncomputable def A233_1 (g : Y233_1) (d : sh233_1.den) (K : KF) : Option Res := g (fun y0 => K [.agg [.seq (.int .u32) 8 y0]] [])
noncomputable def S233_1 (F : Nat) (o : Summ) : Summ := mkS sh233_1 (fun d K => A233_1 (f233_1 F) d K) o
noncomputable def code233 : Code := bodyOf Tryz.f233
theorem enter233 : En Tryz.prog 233 := enO (fn := Tryz.f233)
noncomputable def T233_1 (F : Nat) : FuncId → Option Summ := tab []
noncomputable def LT233_1 (F : Nat) : Nat → Option LoopS := ltab []
theorem E233_1 (F : Nat) (d : sh233_1.den) (K : KF) : EB Tryz.prog (T233_1 F) (xw []) 2 0 (LT233_1 F) [] false Tryz.f233 sh233_1 d K = A233_1 (f233_1 F) d K := by delta A233_1 f233_1 T233_1 LT233_1;   as_aux_lemma => kernel_rfl
theorem S233_1_ok : So Tryz.prog 233 S233_1 :=
  fun F o ho => sOf (fn := Tryz.f233) (c := code233) tab_nil ho lnil snil rnil (E233_1 F)
end
section
noncomputable def f227_1 {β : Type} (F : Nat)  (K0 : List Int → List Int → Option β) : Option β := f233_1 F  (fun x1 => K0 x1 []) 
variable [FZ]
def sh227_1 : Sh := ⟨[], []⟩
abbrev Y227_1 := (List Int → List Int → Option Res) → Option Res
noncomputable def A227_1 (g : Y227_1) (d : sh227_1.den) (K : KF) : Option Res := g (fun y0 y2 => K [.lf (.ptr 0 0)] [some ⟨false, [.seq (.int .u32) 8 y0, .full 1, .int .u64 0]⟩, some ⟨false, [.seq (.int .u8) 0 y2]⟩])
noncomputable def S227_1 (F : Nat) (o : Summ) : Summ := mkS sh227_1 (fun d K => A227_1 (f227_1 F) d K) o
noncomputable def code227 : Code := bodyOf Tryz.f227
theorem enter227 : En Tryz.prog 227 := enO (fn := Tryz.f227)
noncomputable def T227_1 (F : Nat) : FuncId → Option Summ := tab [(233, (S233_1 F noS))]
noncomputable def LT227_1 (F : Nat) : Nat → Option LoopS := ltab []
theorem E227_1 (F : Nat) (d : sh227_1.den) (K : KF) : EB Tryz.prog (T227_1 F) (xw []) 4 0 (LT227_1 F) [] false Tryz.f227 sh227_1 d K = A227_1 (f227_1 F) d K := by delta A227_1 f227_1 T227_1 S233_1 LT227_1;  generalize (f233_1 F : Y233_1) = c; as_aux_lemma => kernel_rfl
theorem S227_1_ok : So Tryz.prog 227 S227_1 :=
  fun F o ho => sOf (fn := Tryz.f227) (c := code227) (tab_cons (S233_1_ok F _ (noS_sound enter233)) tab_nil) ho lnil snil rnil (E227_1 F)
end
section
noncomputable def f239_1 {β : Type} (F : Nat)  (K0 : List Int → Option β) : Option β := K0 [1116352408, 1899447441, 3049323471, 3921009573, 961987163, 1508970993, 2453635748, 2870763221, 3624381080, 310598401, 607225278, 1426881987, 1925078388, 2162078206, 2614888103, 3248222580, 3835390401, 4022224774, 264347078, 604807628, 770255983, 1249150122, 1555081692, 1996064986, 2554220882, 2821834349, 2952996808, 3210313671, 3336571891, 3584528711, 113926993, 338241895, 666307205, 773529912, 1294757372, 1396182291, 1695183700, 1986661051, 2177026350, 2456956037, 2730485921, 2820302411, 3259730800, 3345764771, 3516065817, 3600352804, 4094571909, 275423344, 430227734, 506948616, 659060556, 883997877, 958139571, 1322822218, 1537002063, 1747873779, 1955562222, 2024104815, 2227730452, 2361852424, 2428436474, 2756734187, 3204031479, 3329325298]
variable [FZ]
def sh239_1 : Sh := ⟨[], []⟩
abbrev Y239_1 := (List Int → Option Res) → Option Res
noncomputable def A239_1 (g : Y239_1) (d : sh239_1.den) (K : KF) : Option Res := g (fun (y0 : List Int) => K [.agg [.seq (.int .u32) 64 y0]] [])
noncomputable def S239_1 (F : Nat) (o : Summ) : Summ := mkS sh239_1 (fun d K => A239_1 (f239_1 F) d K) o
noncomputable def code239 : Code := bodyOf Tryz.f239
theorem scopes239 : scopesOf code239 = [] := by kernel_rfl
theorem ranges239 : rangesOf code239 = [] := by kernel_rfl
theorem loops239 : loopsOf code239 = [] := by kernel_rfl
theorem enter239 : ∀ args w, (callFunc 239 args).run Tryz.prog w = .ok (.enter 239 args) w := enter_of (fn := Tryz.f239) (by kernel_rfl) (by kernel_rfl) (by kernel_rfl)
noncomputable def T239_1 (F : Nat) : FuncId → Option Summ := tab []
noncomputable def TB239_1  : FuncId → Option Summ := tab []
noncomputable def LT239_1 (F : Nat) : Nat → Option LoopS := ltab []
theorem E239_1g (F : Nat)    (d : sh239_1.den) (K : KF) : evBody Tryz.prog TB239_1 (xw []) 2 0 (ltab []) [] false code239 Tryz.f239.results.toList (encT sh239_1.vs d.1) (encH sh239_1.h d.2) K = A239_1 (fun (K0 : (List Int → Option Res)) => K0 [1116352408, 1899447441, 3049323471, 3921009573, 961987163, 1508970993, 2453635748, 2870763221, 3624381080, 310598401, 607225278, 1426881987, 1925078388, 2162078206, 2614888103, 3248222580, 3835390401, 4022224774, 264347078, 604807628, 770255983, 1249150122, 1555081692, 1996064986, 2554220882, 2821834349, 2952996808, 3210313671, 3336571891, 3584528711, 113926993, 338241895, 666307205, 773529912, 1294757372, 1396182291, 1695183700, 1986661051, 2177026350, 2456956037, 2730485921, 2820302411, 3259730800, 3345764771, 3516065817, 3600352804, 4094571909, 275423344, 430227734, 506948616, 659060556, 883997877, 958139571, 1322822218, 1537002063, 1747873779, 1955562222, 2024104815, 2227730452, 2361852424, 2428436474, 2756734187, 3204031479, 3329325298]) d K := by kernel_rfl
theorem E239_1 (F : Nat) (d : sh239_1.den) (K : KF) : evBody Tryz.prog (T239_1 F) (xw []) 2 0 (LT239_1 F) [] false code239 Tryz.f239.results.toList (encT sh239_1.vs d.1) (encH sh239_1.h d.2) K = A239_1 (f239_1 F) d K := Eq.mp (by kernel_rfl) (E239_1g F    d K)
theorem S239_1_ok (F : Nat) (o : Summ) (ho : SoundFn Tryz.prog 239 o) : SoundFn Tryz.prog 239 (S239_1 F o) :=
  soundFn_of (fn := Tryz.f239) (c := code239) rfl rfl (by kernel_rfl) tab_nil (by kernel_rfl) (by kernel_rfl) ho (by rw [loops239]; exact loopsOK_nil) (by rw [scopes239]; exact scopesOK_nil) (by rw [ranges239]; exact rangesOK_nil)  (E239_1 F)
end
section
noncomputable def f243_1 {β : Type} (F : Nat) (a1 : Int) (a2 : Int) (K0 : Int → Option β) : Option β := cond (decide (iand .u64 (IntKind.u64.wrap a2) 31 < 0)) none (cond (decide (IntKind.u64.wrap (32 - (iand .u64 (IntKind.u64.wrap a2) 31)) < 0)) none (K0 (ior .u32 (ishl .u32 a1 (iand .u64 (IntKind.u64.wrap a2) 31)) (ishr .u32 a1 (IntKind.u64.wrap (32 - (iand .u64 (IntKind.u64.wrap a2) 31)))))))
variable [FZ]
def sh243_1 : Sh := ⟨[.lf (.int .u32), .lf (.int .i64)], []⟩
abbrev Y243_1 := Int → Int → (Int → Option Res) → Option Res
noncomputable def A243_1 (g : Y243_1) (d : sh243_1.den) (K : KF) : Option Res := g d.1.1 d.1.2.1 (fun (y0 : Int) => K [.lf (.int .u32 y0)] [])
noncomputable def S243_1 (F : Nat) (o : Summ) : Summ := mkS sh243_1 (fun d K => A243_1 (f243_1 F) d K) o
noncomputable def code243 : Code := bodyOf Tryz.f243
theorem scopes243 : scopesOf code243 = [] := by kernel_rfl
theorem ranges243 : rangesOf code243 = [] := by kernel_rfl
theorem loops243 : loopsOf code243 = [] := by kernel_rfl
theorem enter243 : ∀ args w, (callFunc 243 args).run Tryz.prog w = .ok (.enter 243 args) w := enter_of (fn := Tryz.f243) (by kernel_rfl) (by kernel_rfl) (by kernel_rfl)
noncomputable def T243_1 (F : Nat) : FuncId → Option Summ := tab []
noncomputable def TB243_1  : FuncId → Option Summ := tab []
noncomputable def LT243_1 (F : Nat) : Nat → Option LoopS := ltab []
theorem E243_1g (F : Nat)    (d : sh243_1.den) (K : KF) : evBody Tryz.prog TB243_1 (xw []) 17 0 (ltab []) [] false code243 Tryz.f243.results.toList (encT sh243_1.vs d.1) (encH sh243_1.h d.2) K = A243_1 (fun (a1 : Int) (a2 : Int) (K0 : (Int → Option Res)) => cond (decide (iand .u64 (IntKind.u64.wrap a2) 31 < 0)) none (cond (decide (IntKind.u64.wrap (32 - (iand .u64 (IntKind.u64.wrap a2) 31)) < 0)) none (K0 (ior .u32 (ishl .u32 a1 (iand .u64 (IntKind.u64.wrap a2) 31)) (ishr .u32 a1 (IntKind.u64.wrap (32 - (iand .u64 (IntKind.u64.wrap a2) 31)))))))) d K := by kernel_rfl
theorem E243_1 (F : Nat) (d : sh243_1.den) (K : KF) : evBody Tryz.prog (T243_1 F) (xw []) 17 0 (LT243_1 F) [] false code243 Tryz.f243.results.toList (encT sh243_1.vs d.1) (encH sh243_1.h d.2) K = A243_1 (f243_1 F) d K := Eq.mp (by kernel_rfl) (E243_1g F    d K)
theorem S243_1_ok (F : Nat) (o : Summ) (ho : SoundFn Tryz.prog 243 o) : SoundFn Tryz.prog 243 (S243_1 F o) :=
  soundFn_of (fn := Tryz.f243) (c := code243) rfl rfl (by kernel_rfl) tab_nil (by kernel_rfl) (by kernel_rfl) ho (by rw [loops243]; exact loopsOK_nil) (by rw [scopes243]; exact scopesOK_nil) (by rw [ranges243]; exact rangesOK_nil)  (E243_1 F)
end
section
noncomputable def f241_1 {β : Type} (F : Nat) (a1 : Int) (a2 : Int) (K0 : Int → Option β) : Option β := f243_1 F a1 (IntKind.i64.wrap (0 - a2)) (fun x1 => K0 x1) 
variable [FZ]
def sh241_1 : Sh := ⟨[.lf (.int .u32), .lf (.int .i64)], []⟩
abbrev Y241_1 := Int → Int → (Int → Option Res) → Option Res
noncomputable def A241_1 (g : Y241_1) (d : sh241_1.den) (K : KF) : Option Res := g d.1.1 d.1.2.1 (fun (y0 : Int) => K [.lf (.int .u32 y0)] [])
noncomputable def S241_1 (F : Nat) (o : Summ) : Summ := mkS sh241_1 (fun d K => A241_1 (f241_1 F) d K) o
noncomputable def code241 : Code := bodyOf Tryz.f241
theorem scopes241 : scopesOf code241 = [] := by kernel_rfl
theorem ranges241 : rangesOf code241 = [] := by kernel_rfl
theorem loops241 : loopsOf code241 = [] := by kernel_rfl
theorem enter241 : ∀ args w, (callFunc 241 args).run Tryz.prog w = .ok (.enter 241 args) w := enter_of (fn := Tryz.f241) (by kernel_rfl) (by kernel_rfl) (by kernel_rfl)
noncomputable def T241_1 (F : Nat) : FuncId → Option Summ := tab [(243, (S243_1 F noS))]
noncomputable def TB241_1 (c243_1 : Y243_1) : FuncId → Option Summ := tab [(243, (mkS sh243_1 (fun d K => A243_1 c243_1 d K) noS))]
noncomputable def LT241_1 (F : Nat) : Nat → Option LoopS := ltab []
theorem E241_1g (F : Nat) (c243_1 : Y243_1)   (d : sh241_1.den) (K : KF) : evBody Tryz.prog (TB241_1 c243_1) (xw []) 9 0 (ltab []) [] false code241 Tryz.f241.results.toList (encT sh241_1.vs d.1) (encH sh241_1.h d.2) K = A241_1 (fun (a1 : Int) (a2 : Int) (K0 : (Int → Option Res)) => c243_1 a1 (IntKind.i64.wrap (0 - a2)) (fun x1 => K0 x1) ) d K := by kernel_rfl
theorem E241_1 (F : Nat) (d : sh241_1.den) (K : KF) : evBody Tryz.prog (T241_1 F) (xw []) 9 0 (LT241_1 F) [] false code241 Tryz.f241.results.toList (encT sh241_1.vs d.1) (encH sh241_1.h d.2) K = A241_1 (f241_1 F) d K := Eq.mp (by kernel_rfl) (E241_1g F (f243_1 F)   d K)
theorem S241_1_ok (F : Nat) (o : Summ) (ho : SoundFn Tryz.prog 241 o) : SoundFn Tryz.prog 241 (S241_1 F o) :=
  soundFn_of (fn := Tryz.f241) (c := code241) rfl rfl (by kernel_rfl) (tab_cons (S243_1_ok F _ (noS_sound enter243)) tab_nil) (by kernel_rfl) (by kernel_rfl) ho (by rw [loops241]; exact loopsOK_nil) (by rw [scopes241]; exact scopesOK_nil) (by rw [ranges241]; exact rangesOK_nil)  (E241_1 F)
end
section
noncomputable def f240_1_l3 {β : Type} (F : Nat) (v2 : List Int) (v3 : List Int) (K0 : List Int → Option β) : Nat → Int → List Int → Option β
  | 0, _, _ => none
  | k + 1, v1, v4 => cond (decide (v1 < 16)) (cond (decide ((0 : Int) ≤ IntKind.i64.wrap (4 * v1) ∧ IntKind.i64.wrap (4 * v1) ≤ IntKind.i64.wrap ((IntKind.i64.wrap (4 * v1)) + 4) ∧ IntKind.i64.wrap ((IntKind.i64.wrap (4 * v1)) + 4) ≤ ((v2.length : Nat) : Int))) (cond (decide ((0 : Int) ≤ (0 : Int) ∧ (0 : Int) < (((IntKind.i64.wrap ((IntKind.i64.wrap (4 * v1)) + 4) - (IntKind.i64.wrap (4 * v1))).toNat : Nat) : Int))) (cond (decide ((0 + ((IntKind.i64.wrap (4 * v1)).toNat)) + 0 < v2.length)) (cond (decide ((0 : Int) ≤ (1 : Int) ∧ (1 : Int) < (((IntKind.i64.wrap ((IntKind.i64.wrap (4 * v1)) + 4) - (IntKind.i64.wrap (4 * v1))).toNat : Nat) : Int))) (cond (decide ((0 + ((IntKind.i64.wrap (4 * v1)).toNat)) + 1 < v2.length)) (cond (decide ((0 : Int) ≤ (2 : Int) ∧ (2 : Int) < (((IntKind.i64.wrap ((IntKind.i64.wrap (4 * v1)) + 4) - (IntKind.i64.wrap (4 * v1))).toNat : Nat) : Int))) (cond (decide ((0 + ((IntKind.i64.wrap (4 * v1)).toNat)) + 2 < v2.length)) (cond (decide ((0 : Int) ≤ (3 : Int) ∧ (3 : Int) < (((IntKind.i64.wrap ((IntKind.i64.wrap (4 * v1)) + 4) - (IntKind.i64.wrap (4 * v1))).toNat : Nat) : Int))) (cond (decide ((0 + ((IntKind.i64.wrap (4 * v1)).toNat)) + 3 < v2.length)) (cond (decide ((0 : Int) ≤ v1 ∧ v1 < 64)) (cond (decide (v1.toNat < v4.length)) (f240_1_l3 F v2 v3 K0 k (IntKind.i64.wrap (v1 + 1)) (v4.set v1.toNat (ior .u32 (ior .u32 (ior .u32 (ishl .u32 (IntKind.u32.wrap (v2.getD ((0 + ((IntKind.i64.wrap (4 * v1)).toNat)) + 0) 0)) 24) (ishl .u32 (IntKind.u32.wrap (v2.getD ((0 + ((IntKind.i64.wrap (4 * v1)).toNat)) + 1) 0)) 16)) (ishl .u32 (IntKind.u32.wrap (v2.getD ((0 + ((IntKind.i64.wrap (4 * v1)).toNat)) + 2) 0)) 8)) (IntKind.u32.wrap (v2.getD ((0 + ((IntKind.i64.wrap (4 * v1)).toNat)) + 3) 0))))) none) none) none) none) none) none) none) none) none) none) none) (K0 v4)
noncomputable def f240_1_l9 {β : Type} (F : Nat) (v7 : List Int) (v8 : List Int) (K0 : List Int → Option β) : Nat → Int → List Int → Option β
  | 0, _, _ => none
  | k + 1, v6, v9 => cond (decide (v6 < 64)) (cond (decide ((0 : Int) ≤ IntKind.i64.wrap (v6 - 15) ∧ IntKind.i64.wrap (v6 - 15) < 64)) (cond (decide ((IntKind.i64.wrap (v6 - 15)).toNat < v9.length)) (cond (decide ((0 : Int) ≤ IntKind.i64.wrap (v6 - 2) ∧ IntKind.i64.wrap (v6 - 2) < 64)) (cond (decide ((IntKind.i64.wrap (v6 - 2)).toNat < v9.length)) (cond (decide ((0 : Int) ≤ IntKind.i64.wrap (v6 - 16) ∧ IntKind.i64.wrap (v6 - 16) < 64)) (cond (decide ((IntKind.i64.wrap (v6 - 16)).toNat < v9.length)) (cond (decide ((0 : Int) ≤ IntKind.i64.wrap (v6 - 7) ∧ IntKind.i64.wrap (v6 - 7) < 64)) (cond (decide ((IntKind.i64.wrap (v6 - 7)).toNat < v9.length)) (f241_1 F (v9.getD ((IntKind.i64.wrap (v6 - 15)).toNat) 0) 7 (fun x10 => f241_1 F (v9.getD ((IntKind.i64.wrap (v6 - 15)).toNat) 0) 18 (fun x11 => f241_1 F (v9.getD ((IntKind.i64.wrap (v6 - 2)).toNat) 0) 17 (fun x12 => f241_1 F (v9.getD ((IntKind.i64.wrap (v6 - 2)).toNat) 0) 19 (fun x13 => cond (decide ((0 : Int) ≤ v6 ∧ v6 < 64)) (cond (decide (v6.toNat < v9.length)) (f240_1_l9 F v7 v8 K0 k (IntKind.i64.wrap (v6 + 1)) (v9.set v6.toNat (IntKind.u32.wrap ((IntKind.u32.wrap ((IntKind.u32.wrap ((v9.getD ((IntKind.i64.wrap (v6 - 16)).toNat) 0) + (v9.getD ((IntKind.i64.wrap (v6 - 7)).toNat) 0))) + (ixor .u32 (ixor .u32 x10 x11) (ishr .u32 (v9.getD ((IntKind.i64.wrap (v6 - 15)).toNat) 0) 3)))) + (ixor .u32 (ixor .u32 x12 x13) (ishr .u32 (v9.getD ((IntKind.i64.wrap (v6 - 2)).toNat) 0) 10)))))) none) none) ) ) ) ) none) none) none) none) none) none) none) none) (K0 v9)
noncomputable def f240_1 {β : Type} (F : Nat) (a1 : List Int) (K0 : List Int → Option β) : Option β := f240_1_l3 F a1 [0, 0, 0, 0, 0, 0, 0, 0, 0, 0, 0, 0, 0, 0, 0, 0, 0, 0, 0, 0, 0, 0, 0, 0, 0, 0, 0, 0, 0, 0, 0, 0, 0, 0, 0, 0, 0, 0, 0, 0, 0, 0, 0, 0, 0, 0, 0, 0, 0, 0, 0, 0, 0, 0, 0, 0, 0, 0, 0, 0, 0, 0, 0, 0] (fun x5 => f240_1_l9 F a1 [0, 0, 0, 0, 0, 0, 0, 0, 0, 0, 0, 0, 0, 0, 0, 0, 0, 0, 0, 0, 0, 0, 0, 0, 0, 0, 0, 0, 0, 0, 0, 0, 0, 0, 0, 0, 0, 0, 0, 0, 0, 0, 0, 0, 0, 0, 0, 0, 0, 0, 0, 0, 0, 0, 0, 0, 0, 0, 0, 0, 0, 0, 0, 0] (fun x14 => K0 x14) F 16 x5) F 0 [0, 0, 0, 0, 0, 0, 0, 0, 0, 0, 0, 0, 0, 0, 0, 0, 0, 0, 0, 0, 0, 0, 0, 0, 0, 0, 0, 0, 0, 0, 0, 0, 0, 0, 0, 0, 0, 0, 0, 0, 0, 0, 0, 0, 0, 0, 0, 0, 0, 0, 0, 0, 0, 0, 0, 0, 0, 0, 0, 0, 0, 0, 0, 0]
variable [FZ]
def sh240_1 : Sh := ⟨[.lf (.full 0)], [some ⟨none, [.seq (.int .u8) 0]⟩]⟩
abbrev Y240_1 := List Int → (List Int → Option Res) → Option Res
noncomputable def A240_1 (g : Y240_1) (d : sh240_1.den) (K : KF) : Option Res := g d.2.1.2.1 (fun (y0 : List Int) => K [.agg [.seq (.int .u32) 64 y0]] [some ⟨d.2.1.1, [.seq (.int .u8) 0 d.2.1.2.1]⟩])
noncomputable def S240_1 (F : Nat) (o : Summ) : Summ := mkS sh240_1 (fun d K => A240_1 (f240_1 F) d K) o
noncomputable def code240 : Code := bodyOf Tryz.f240
noncomputable def b240_0 : Code := cB (cB (cR (cL (cR (cR (code240))))))
noncomputable def b240_1 : Code := cB (cB (cR (cL (cR (cR (cR (code240)))))))
theorem scopes240 : scopesOf code240 = [] := by kernel_rfl
theorem ranges240 : rangesOf code240 = [] := by kernel_rfl
theorem loops240 : loopsOf code240 = [b240_0, b240_1] := by kernel_rfl
theorem enter240 : ∀ args w, (callFunc 240 args).run Tryz.prog w = .ok (.enter 240 args) w := enter_of (fn := Tryz.f240) (by kernel_rfl) (by kernel_rfl) (by kernel_rfl)
noncomputable def T240_1 (F : Nat) : FuncId → Option Summ := tab [(241, (S241_1 F noS))]
noncomputable def TB240_1 (c241_1 : Y241_1) : FuncId → Option Summ := tab [(241, (mkS sh241_1 (fun d K => A241_1 c241_1 d K) noS))]
def sh240_1_l3 : Sh := ⟨[.lf (.full 0), .lf (.ptr 1 0), .lf (.ptr 2 0), .lf (.int .i64)], [some ⟨none, [.seq (.int .u8) 0]⟩, some ⟨some false, [.seq (.int .u32) 64]⟩, some ⟨some false, [.seq (.int .u32) 64]⟩]⟩
abbrev Y240_1_l3 := List Int → List Int → (List Int → Option Res) → Nat → Int → List Int → Option Res
noncomputable def A240_1_l3 (g : Y240_1_l3) (k : Nat) (d : sh240_1_l3.den) (K : KL) : Option Res := g d.2.1.2.1 d.2.2.1.2.1 (fun (y2 : List Int) => K (.exit 0) [.tv (.lf (.ptr 1 0)), .tv (.lf (.ptr 2 0))] [some ⟨d.2.1.1, [.seq (.int .u8) 0 d.2.1.2.1]⟩, some ⟨false, [.seq (.int .u32) 64 d.2.2.1.2.1]⟩, some ⟨false, [.seq (.int .u32) 64 y2]⟩]) k d.1.2.2.2.1 d.2.2.2.1.2.1
def sh240_1_l9 : Sh := ⟨[.lf (.ptr 1 0), .lf (.ptr 2 0), .lf (.int .i64)], [some ⟨none, [.seq (.int .u8) 0]⟩, some ⟨some false, [.seq (.int .u32) 64]⟩, some ⟨some false, [.seq (.int .u32) 64]⟩]⟩
abbrev Y240_1_l9 := List Int → List Int → (List Int → Option Res) → Nat → Int → List Int → Option Res
noncomputable def A240_1_l9 (g : Y240_1_l9) (k : Nat) (d : sh240_1_l9.den) (K : KL) : Option Res := g d.2.1.2.1 d.2.2.1.2.1 (fun (y2 : List Int) => K (.exit 2) [.tv (.lf (.ptr 1 0)), .tv (.lf (.ptr 2 0))] [some ⟨d.2.1.1, [.seq (.int .u8) 0 d.2.1.2.1]⟩, some ⟨false, [.seq (.int .u32) 64 d.2.2.1.2.1]⟩, some ⟨false, [.seq (.int .u32) 64 y2]⟩]) k d.1.2.2.1 d.2.2.2.1.2.1
noncomputable def G240_1_3 (F k : Nat) : LoopS := mkG sh240_1_l3 [0, 2, 3, 9] (outT [(.exit 0, [2, 3])]) (fun d K => A240_1_l3 (f240_1_l3 F) k d K) []
noncomputable def G240_1_9 (F k : Nat) : LoopS := mkG sh240_1_l9 [2, 3, 6] (outT [(.exit 2, [2, 3])]) (fun d K => A240_1_l9 (f240_1_l9 F) k d K) []
noncomputable def LT240_1 (F : Nat) : Nat → Option LoopS := ltab [(3, G240_1_3 F F), (9, G240_1_9 F F)]
theorem L240_1_l3g (F k : Nat) (c241_1 : Y241_1)  (l3 : Y240_1_l3) (X3 : LoopS) (X9 : LoopS) (d : sh240_1_l3.den) (K : KL) : A240_1_l3 ((fun (v2 : List Int) (v3 : List Int) (K0 : (List Int → Option Res)) (k : Nat) (v1 : Int) (v4 : List Int) => cond (decide (v1 < 16)) (cond (decide ((0 : Int) ≤ IntKind.i64.wrap (4 * v1) ∧ IntKind.i64.wrap (4 * v1) ≤ IntKind.i64.wrap ((IntKind.i64.wrap (4 * v1)) + 4) ∧ IntKind.i64.wrap ((IntKind.i64.wrap (4 * v1)) + 4) ≤ ((v2.length : Nat) : Int))) (cond (decide ((0 : Int) ≤ (0 : Int) ∧ (0 : Int) < (((IntKind.i64.wrap ((IntKind.i64.wrap (4 * v1)) + 4) - (IntKind.i64.wrap (4 * v1))).toNat : Nat) : Int))) (cond (decide ((0 + ((IntKind.i64.wrap (4 * v1)).toNat)) + 0 < v2.length)) (cond (decide ((0 : Int) ≤ (1 : Int) ∧ (1 : Int) < (((IntKind.i64.wrap ((IntKind.i64.wrap (4 * v1)) + 4) - (IntKind.i64.wrap (4 * v1))).toNat : Nat) : Int))) (cond (decide ((0 + ((IntKind.i64.wrap (4 * v1)).toNat)) + 1 < v2.length)) (cond (decide ((0 : Int) ≤ (2 : Int) ∧ (2 : Int) < (((IntKind.i64.wrap ((IntKind.i64.wrap (4 * v1)) + 4) - (IntKind.i64.wrap (4 * v1))).toNat : Nat) : Int))) (cond (decide ((0 + ((IntKind.i64.wrap (4 * v1)).toNat)) + 2 < v2.length)) (cond (decide ((0 : Int) ≤ (3 : Int) ∧ (3 : Int) < (((IntKind.i64.wrap ((IntKind.i64.wrap (4 * v1)) + 4) - (IntKind.i64.wrap (4 * v1))).toNat : Nat) : Int))) (cond (decide ((0 + ((IntKind.i64.wrap (4 * v1)).toNat)) + 3 < v2.length)) (cond (decide ((0 : Int) ≤ v1 ∧ v1 < 64)) (cond (decide (v1.toNat < v4.length)) (l3 v2 v3 K0 k (IntKind.i64.wrap (v1 + 1)) (v4.set v1.toNat (ior .u32 (ior .u32 (ior .u32 (ishl .u32 (IntKind.u32.wrap (v2.getD ((0 + ((IntKind.i64.wrap (4 * v1)).toNat)) + 0) 0)) 24) (ishl .u32 (IntKind.u32.wrap (v2.getD ((0 + ((IntKind.i64.wrap (4 * v1)).toNat)) + 1) 0)) 16)) (ishl .u32 (IntKind.u32.wrap (v2.getD ((0 + ((IntKind.i64.wrap (4 * v1)).toNat)) + 2) 0)) 8)) (IntKind.u32.wrap (v2.getD ((0 + ((IntKind.i64.wrap (4 * v1)).toNat)) + 3) 0))))) none) none) none) none) none) none) none) none) none) none) none) (K0 v4))) k d K = roundOf Tryz.prog (TB240_1 c241_1) (xw []) 86 1 (ltab [(3, X3), (9, X9)]) (mkG sh240_1_l3 [0, 2, 3, 9] (outT [(.exit 0, [2, 3])]) (fun d K => A240_1_l3 l3 k d K) []) b240_0 (encT sh240_1_l3.vs d.1) (encH sh240_1_l3.h d.2) K := by kernel_rfl
theorem L240_1_3 (F : Nat) : LoopOK Tryz.prog (T240_1 F) (xw []) 86 1 (LT240_1 F) (G240_1_3 F F) b240_0 :=
  loopOK_of (s := sh240_1_l3) (live := [0, 2, 3, 9]) (out := (outT [(.exit 0, [2, 3])])) (mv := []) (fun k d K => A240_1_l3 (f240_1_l3 F) k d K) F (fun d K => by kernel_rfl)  (fun k d K => Eq.mp (by kernel_rfl) (L240_1_l3g F k (f241_1 F)  (f240_1_l3 F) (G240_1_3 F F) (G240_1_9 F F) d K))
theorem L240_1_l9g (F k : Nat) (c241_1 : Y241_1)  (l9 : Y240_1_l9) (X3 : LoopS) (X9 : LoopS) (d : sh240_1_l9.den) (K : KL) : A240_1_l9 ((fun (v7 : List Int) (v8 : List Int) (K0 : (List Int → Option Res)) (k : Nat) (v6 : Int) (v9 : List Int) => cond (decide (v6 < 64)) (cond (decide ((0 : Int) ≤ IntKind.i64.wrap (v6 - 15) ∧ IntKind.i64.wrap (v6 - 15) < 64)) (cond (decide ((IntKind.i64.wrap (v6 - 15)).toNat < v9.length)) (cond (decide ((0 : Int) ≤ IntKind.i64.wrap (v6 - 2) ∧ IntKind.i64.wrap (v6 - 2) < 64)) (cond (decide ((IntKind.i64.wrap (v6 - 2)).toNat < v9.length)) (cond (decide ((0 : Int) ≤ IntKind.i64.wrap (v6 - 16) ∧ IntKind.i64.wrap (v6 - 16) < 64)) (cond (decide ((IntKind.i64.wrap (v6 - 16)).toNat < v9.length)) (cond (decide ((0 : Int) ≤ IntKind.i64.wrap (v6 - 7) ∧ IntKind.i64.wrap (v6 - 7) < 64)) (cond (decide ((IntKind.i64.wrap (v6 - 7)).toNat < v9.length)) (c241_1 (v9.getD ((IntKind.i64.wrap (v6 - 15)).toNat) 0) 7 (fun x10 => c241_1 (v9.getD ((IntKind.i64.wrap (v6 - 15)).toNat) 0) 18 (fun x11 => c241_1 (v9.getD ((IntKind.i64.wrap (v6 - 2)).toNat) 0) 17 (fun x12 => c241_1 (v9.getD ((IntKind.i64.wrap (v6 - 2)).toNat) 0) 19 (fun x13 => cond (decide ((0 : Int) ≤ v6 ∧ v6 < 64)) (cond (decide (v6.toNat < v9.length)) (l9 v7 v8 K0 k (IntKind.i64.wrap (v6 + 1)) (v9.set v6.toNat (IntKind.u32.wrap ((IntKind.u32.wrap ((IntKind.u32.wrap ((v9.getD ((IntKind.i64.wrap (v6 - 16)).toNat) 0) + (v9.getD ((IntKind.i64.wrap (v6 - 7)).toNat) 0))) + (ixor .u32 (ixor .u32 x10 x11) (ishr .u32 (v9.getD ((IntKind.i64.wrap (v6 - 15)).toNat) 0) 3)))) + (ixor .u32 (ixor .u32 x12 x13) (ishr .u32 (v9.getD ((IntKind.i64.wrap (v6 - 2)).toNat) 0) 10)))))) none) none) ) ) ) ) none) none) none) none) none) none) none) none) (K0 v9))) k d K = roundOf Tryz.prog (TB240_1 c241_1) (xw []) 86 1 (ltab [(3, X3), (9, X9)]) (mkG sh240_1_l9 [2, 3, 6] (outT [(.exit 2, [2, 3])]) (fun d K => A240_1_l9 l9 k d K) []) b240_1 (encT sh240_1_l9.vs d.1) (encH sh240_1_l9.h d.2) K := by kernel_rfl
theorem L240_1_9 (F : Nat) : LoopOK Tryz.prog (T240_1 F) (xw []) 86 1 (LT240_1 F) (G240_1_9 F F) b240_1 :=
  loopOK_of (s := sh240_1_l9) (live := [2, 3, 6]) (out := (outT [(.exit 2, [2, 3])])) (mv := []) (fun k d K => A240_1_l9 (f240_1_l9 F) k d K) F (fun d K => by kernel_rfl)  (fun k d K => Eq.mp (by kernel_rfl) (L240_1_l9g F k (f241_1 F)  (f240_1_l9 F) (G240_1_3 F F) (G240_1_9 F F) d K))
theorem E240_1g (F : Nat) (c241_1 : Y241_1) (l3 : Y240_1_l3) (l9 : Y240_1_l9)  (d : sh240_1.den) (K : KF) : evBody Tryz.prog (TB240_1 c241_1) (xw []) 86 1 (ltab [(3, mkG sh240_1_l3 [0, 2, 3, 9] (outT [(.exit 0, [2, 3])]) (fun d K => A240_1_l3 l3 F d K) []), (9, mkG sh240_1_l9 [2, 3, 6] (outT [(.exit 2, [2, 3])]) (fun d K => A240_1_l9 l9 F d K) [])]) [] false code240 Tryz.f240.results.toList (encT sh240_1.vs d.1) (encH sh240_1.h d.2) K = A240_1 (fun (a1 : List Int) (K0 : (List Int → Option Res)) => l3 a1 [0, 0, 0, 0, 0, 0, 0, 0, 0, 0, 0, 0, 0, 0, 0, 0, 0, 0, 0, 0, 0, 0, 0, 0, 0, 0, 0, 0, 0, 0, 0, 0, 0, 0, 0, 0, 0, 0, 0, 0, 0, 0, 0, 0, 0, 0, 0, 0, 0, 0, 0, 0, 0, 0, 0, 0, 0, 0, 0, 0, 0, 0, 0, 0] (fun x5 => l9 a1 [0, 0, 0, 0, 0, 0, 0, 0, 0, 0, 0, 0, 0, 0, 0, 0, 0, 0, 0, 0, 0, 0, 0, 0, 0, 0, 0, 0, 0, 0, 0, 0, 0, 0, 0, 0, 0, 0, 0, 0, 0, 0, 0, 0, 0, 0, 0, 0, 0, 0, 0, 0, 0, 0, 0, 0, 0, 0, 0, 0, 0, 0, 0, 0] (fun x14 => K0 x14) F 16 x5) F 0 [0, 0, 0, 0, 0, 0, 0, 0, 0, 0, 0, 0, 0, 0, 0, 0, 0, 0, 0, 0, 0, 0, 0, 0, 0, 0, 0, 0, 0, 0, 0, 0, 0, 0, 0, 0, 0, 0, 0, 0, 0, 0, 0, 0, 0, 0, 0, 0, 0, 0, 0, 0, 0, 0, 0, 0, 0, 0, 0, 0, 0, 0, 0, 0]) d K := by kernel_rfl
theorem E240_1 (F : Nat) (d : sh240_1.den) (K : KF) : evBody Tryz.prog (T240_1 F) (xw []) 86 1 (LT240_1 F) [] false code240 Tryz.f240.results.toList (encT sh240_1.vs d.1) (encH sh240_1.h d.2) K = A240_1 (f240_1 F) d K := Eq.mp (by kernel_rfl) (E240_1g F (f241_1 F) (f240_1_l3 F) (f240_1_l9 F)  d K)
theorem S240_1_ok (F : Nat) (o : Summ) (ho : SoundFn Tryz.prog 240 o) : SoundFn Tryz.prog 240 (S240_1 F o) :=
  soundFn_of (fn := Tryz.f240) (c := code240) rfl rfl (by kernel_rfl) (tab_cons (S241_1_ok F _ (noS_sound enter241)) tab_nil) (by kernel_rfl) (by kernel_rfl) ho (by rw [loops240]; exact (loopsOK_cons (by kernel_rfl) (L240_1_3 F) (loopsOK_cons (by kernel_rfl) (L240_1_9 F) loopsOK_nil))) (by rw [scopes240]; exact scopesOK_nil) (by rw [ranges240]; exact rangesOK_nil)  (E240_1 F)
end
section
noncomputable def f234_0_l3 {β : Type} (F : Nat) (v2 : List Int) (v3 : List Int) (v4 : List Int) (v5 : List Int) (v6 : List Int) (K0 : List Int → Option β) : Nat → Int → List Int → Option β
  | 0, _, _ => none
  | k + 1, v1, v7 => cond (decide (v1 < 64)) (cond (decide (0 < v7.length)) (cond (decide (4 < v7.length)) (cond (decide (5 < v7.length)) (cond (decide (6 < v7.length)) (cond (decide (1 < v7.length)) (cond (decide (2 < v7.length)) (cond (decide (1 < v7.length)) (cond (decide (2 < v7.length)) (cond (decide (7 < v7.length)) (cond (decide ((0 : Int) ≤ v1 ∧ v1 < 64)) (cond (decide (v1.toNat < v5.length)) (cond (decide ((0 : Int) ≤ v1 ∧ v1 < 64)) (cond (decide (v1.toNat < v6.length)) (f241_1 F (v7.getD 4 0) 6 (fun x8 => f241_1 F (v7.getD 4 0) 11 (fun x9 => f241_1 F (v7.getD 4 0) 25 (fun x10 => f241_1 F (v7.getD 0 0) 2 (fun x11 => f241_1 F (v7.getD 0 0) 13 (fun x12 => f241_1 F (v7.getD 0 0) 22 (fun x13 => cond (decide (0 < (v7.take 1 ++ (((v7.drop 0).take 7).take 7 ++ v7.drop (1 + (min (((v7.drop 0).take 7).length) 7)))).length)) (cond (decide (4 < ((v7.take 1 ++ (((v7.drop 0).take 7).take 7 ++ v7.drop (1 + (min (((v7.drop 0).take 7).length) 7)))).set 0 (IntKind.u32.wrap ((IntKind.u32.wrap ((IntKind.u32.wrap ((IntKind.u32.wrap ((IntKind.u32.wrap ((v7.getD 7 0) + (ixor .u32 (ixor .u32 x8 x9) x10))) + (ixor .u32 (iand .u32 (v7.getD 4 0) (v7.getD 5 0)) (iand .u32 (ixor .u32 4294967295 (v7.getD 4 0)) (v7.getD 6 0))))) + (v5.getD v1.toNat 0))) + (v6.getD v1.toNat 0))) + (IntKind.u32.wrap ((ixor .u32 (ixor .u32 x11 x12) x13) + (ixor .u32 (ixor .u32 (iand .u32 (v7.getD 0 0) (v7.getD 1 0)) (iand .u32 (v7.getD 0 0) (v7.getD 2 0))) (iand .u32 (v7.getD 1 0) (v7.getD 2 0)))))))).length)) (cond (decide (4 < ((v7.take 1 ++ (((v7.drop 0).take 7).take 7 ++ v7.drop (1 + (min (((v7.drop 0).take 7).length) 7)))).set 0 (IntKind.u32.wrap ((IntKind.u32.wrap ((IntKind.u32.wrap ((IntKind.u32.wrap ((IntKind.u32.wrap ((v7.getD 7 0) + (ixor .u32 (ixor .u32 x8 x9) x10))) + (ixor .u32 (iand .u32 (v7.getD 4 0) (v7.getD 5 0)) (iand .u32 (ixor .u32 4294967295 (v7.getD 4 0)) (v7.getD 6 0))))) + (v5.getD v1.toNat 0))) + (v6.getD v1.toNat 0))) + (IntKind.u32.wrap ((ixor .u32 (ixor .u32 x11 x12) x13) + (ixor .u32 (ixor .u32 (iand .u32 (v7.getD 0 0) (v7.getD 1 0)) (iand .u32 (v7.getD 0 0) (v7.getD 2 0))) (iand .u32 (v7.getD 1 0) (v7.getD 2 0)))))))).length)) (f234_0_l3 F v2 v3 v4 v5 v6 K0 k (IntKind.i64.wrap (v1 + 1)) (((v7.take 1 ++ (((v7.drop 0).take 7).take 7 ++ v7.drop (1 + (min (((v7.drop 0).take 7).length) 7)))).set 0 (IntKind.u32.wrap ((IntKind.u32.wrap ((IntKind.u32.wrap ((IntKind.u32.wrap ((IntKind.u32.wrap ((v7.getD 7 0) + (ixor .u32 (ixor .u32 x8 x9) x10))) + (ixor .u32 (iand .u32 (v7.getD 4 0) (v7.getD 5 0)) (iand .u32 (ixor .u32 4294967295 (v7.getD 4 0)) (v7.getD 6 0))))) + (v5.getD v1.toNat 0))) + (v6.getD v1.toNat 0))) + (IntKind.u32.wrap ((ixor .u32 (ixor .u32 x11 x12) x13) + (ixor .u32 (ixor .u32 (iand .u32 (v7.getD 0 0) (v7.getD 1 0)) (iand .u32 (v7.getD 0 0) (v7.getD 2 0))) (iand .u32 (v7.getD 1 0) (v7.getD 2 0)))))))).set 4 (IntKind.u32.wrap ((((v7.take 1 ++ (((v7.drop 0).take 7).take 7 ++ v7.drop (1 + (min (((v7.drop 0).take 7).length) 7)))).set 0 (IntKind.u32.wrap ((IntKind.u32.wrap ((IntKind.u32.wrap ((IntKind.u32.wrap ((IntKind.u32.wrap ((v7.getD 7 0) + (ixor .u32 (ixor .u32 x8 x9) x10))) + (ixor .u32 (iand .u32 (v7.getD 4 0) (v7.getD 5 0)) (iand .u32 (ixor .u32 4294967295 (v7.getD 4 0)) (v7.getD 6 0))))) + (v5.getD v1.toNat 0))) + (v6.getD v1.toNat 0))) + (IntKind.u32.wrap ((ixor .u32 (ixor .u32 x11 x12) x13) + (ixor .u32 (ixor .u32 (iand .u32 (v7.getD 0 0) (v7.getD 1 0)) (iand .u32 (v7.getD 0 0) (v7.getD 2 0))) (iand .u32 (v7.getD 1 0) (v7.getD 2 0)))))))).getD 4 0) + (IntKind.u32.wrap ((IntKind.u32.wrap ((IntKind.u32.wrap ((IntKind.u32.wrap ((v7.getD 7 0) + (ixor .u32 (ixor .u32 x8 x9) x10))) + (ixor .u32 (iand .u32 (v7.getD 4 0) (v7.getD 5 0)) (iand .u32 (ixor .u32 4294967295 (v7.getD 4 0)) (v7.getD 6 0))))) + (v5.getD v1.toNat 0))) + (v6.getD v1.toNat 0))))))) none) none) none) ) ) ) ) ) ) none) none) none) none) none) none) none) none) none) none) none) none) none) (K0 v7)
noncomputable def f234_0_l14 {β : Type} (F : Nat) (v16 : List Int) (v17 : List Int) (v18 : List Int) (K0 : List Int → Option β) : Nat → Int → List Int → Option β
  | 0, _, _ => none
  | k + 1, v15, v19 => cond (decide (v15 < 8)) (cond (decide ((0 : Int) ≤ v15 ∧ v15 < 8)) (cond (decide (v15.toNat < v19.length)) (cond (decide ((0 : Int) ≤ v15 ∧ v15 < 8)) (cond (decide (v15.toNat < v17.length)) (cond (decide ((0 : Int) ≤ v15 ∧ v15 < 8)) (cond (decide (v15.toNat < v19.length)) (f234_0_l14 F v16 v17 v18 K0 k (IntKind.i64.wrap (v15 + 1)) (v19.set v15.toNat (IntKind.u32.wrap ((v19.getD v15.toNat 0) + (v17.getD v15.toNat 0))))) none) none) none) none) none) none) (K0 v19)
noncomputable def f234_0 {β : Type} (F : Nat) (a1 : List Int) (a2 : List Int) (a3 : List Int) (a4 : List Int) (a5 : List Int) (a6 : List Int) (K0 : List Int → Option β) : Option β := f234_0_l3 F a1 a2 a3 a4 a5 (fun x14 => f234_0_l14 F a1 a2 a3 (fun x20 => K0 x20) F 0 x14) F 0 a6
variable [FZ]
def sh234_0 : Sh := ⟨[], [some ⟨none, [.seq (.int .u8) 0]⟩, some ⟨some false, [.seq (.int .u32) 8]⟩, some ⟨some false, [.seq (.int .u32) 8]⟩, some ⟨some false, [.seq (.int .u32) 64]⟩, some ⟨some false, [.seq (.int .u32) 64]⟩, some ⟨some false, [.seq (.int .u32) 8]⟩]⟩
abbrev Y234_0 := List Int → List Int → List Int → List Int → List Int → List Int → (List Int → Option Res) → Option Res
noncomputable def A234_0 (g : Y234_0) (d : sh234_0.den) (K : KF) : Option Res := g d.2.1.2.1 d.2.2.1.2.1 d.2.2.2.1.2.1 d.2.2.2.2.1.2.1 d.2.2.2.2.2.1.2.1 d.2.2.2.2.2.2.1.2.1 (fun (y0 : List Int) => K [.agg [.seq (.int .u32) 8 y0]] [some ⟨d.2.1.1, [.seq (.int .u8) 0 d.2.1.2.1]⟩])
noncomputable def code234 : Code := bodyOf Tryz.f234
noncomputable def b234_0 : Code := cB (cB (cR (cL (cR (cR (code234))))))
noncomputable def b234_1 : Code := cB (cB (cR (cL (cR (cR (cR (code234)))))))
theorem loops234 : loopsOf code234 = [b234_0, b234_1] := by kernel_rfl
theorem enter234 : ∀ args w, (callFunc 234 args).run Tryz.prog w = .ok (.enter 234 args) w := enter_of (fn := Tryz.f234) (by kernel_rfl) (by kernel_rfl) (by kernel_rfl)
noncomputable def T234_0 (F : Nat) : FuncId → Option Summ := tab [(241, (S241_1 F noS))]
noncomputable def TB234_0 (c241_1 : Y241_1) : FuncId → Option Summ := tab [(241, (mkS sh241_1 (fun d K => A241_1 c241_1 d K) noS))]
def sh234_0_l3 : Sh := ⟨[.lf (.ptr 1 0), .lf (.ptr 2 0), .lf (.ptr 3 0), .lf (.ptr 4 0), .lf (.ptr 5 0), .lf (.int .i64)], [some ⟨none, [.seq (.int .u8) 0]⟩, some ⟨some false, [.seq (.int .u32) 8]⟩, some ⟨some false, [.seq (.int .u32) 8]⟩, some ⟨some false, [.seq (.int .u32) 64]⟩, some ⟨some false, [.seq (.int .u32) 64]⟩, some ⟨some false, [.seq (.int .u32) 8]⟩]⟩
abbrev Y234_0_l3 := List Int → List Int → List Int → List Int → List Int → (List Int → Option Res) → Nat → Int → List Int → Option Res
noncomputable def A234_0_l3 (g : Y234_0_l3) (k : Nat) (d : sh234_0_l3.den) (K : KL) : Option Res := g d.2.1.2.1 d.2.2.1.2.1 d.2.2.2.1.2.1 d.2.2.2.2.1.2.1 d.2.2.2.2.2.1.2.1 (fun (y5 : List Int) => K (.exit 0) [.tv (.lf (.ptr 1 0)), .tv (.lf (.ptr 2 0)), .tv (.lf (.ptr 5 0))] [some ⟨d.2.1.1, [.seq (.int .u8) 0 d.2.1.2.1]⟩, some ⟨false, [.seq (.int .u32) 8 d.2.2.1.2.1]⟩, some ⟨false, [.seq (.int .u32) 8 d.2.2.2.1.2.1]⟩, some ⟨false, [.seq (.int .u32) 64 d.2.2.2.2.1.2.1]⟩, some ⟨false, [.seq (.int .u32) 64 d.2.2.2.2.2.1.2.1]⟩, some ⟨false, [.seq (.int .u32) 8 y5]⟩]) k d.1.2.2.2.2.2.1 d.2.2.2.2.2.2.1.2.1
def sh234_0_l14 : Sh := ⟨[.lf (.ptr 1 0), .lf (.ptr 2 0), .lf (.ptr 3 0), .lf (.int .i64)], [some ⟨none, [.seq (.int .u8) 0]⟩, some ⟨some false, [.seq (.int .u32) 8]⟩, some ⟨some false, [.seq (.int .u32) 8]⟩, some ⟨some false, [.seq (.int .u32) 8]⟩]⟩
abbrev Y234_0_l14 := List Int → List Int → List Int → (List Int → Option Res) → Nat → Int → List Int → Option Res
noncomputable def A234_0_l14 (g : Y234_0_l14) (k : Nat) (d : sh234_0_l14.den) (K : KL) : Option Res := g d.2.1.2.1 d.2.2.1.2.1 d.2.2.2.1.2.1 (fun (y3 : List Int) => K (.exit 2) [.tv (.lf (.ptr 2 0)), .tv (.lf (.ptr 3 0))] [some ⟨d.2.1.1, [.seq (.int .u8) 0 d.2.1.2.1]⟩, some ⟨false, [.seq (.int .u32) 8 d.2.2.1.2.1]⟩, some ⟨false, [.seq (.int .u32) 8 d.2.2.2.1.2.1]⟩, some ⟨false, [.seq (.int .u32) 8 y3]⟩]) k d.1.2.2.2.1 d.2.2.2.2.1.2.1
noncomputable def G234_0_3 (F k : Nat) : LoopS := mkG sh234_0_l3 [2, 4, 5, 6, 7, 20] (outT [(.exit 0, [2, 4, 7])]) (fun d K => A234_0_l3 (f234_0_l3 F) k d K) []
noncomputable def G234_0_14 (F k : Nat) : LoopS := mkG sh234_0_l14 [2, 4, 7, 96] (outT [(.exit 2, [4, 7])]) (fun d K => A234_0_l14 (f234_0_l14 F) k d K) []
noncomputable def LT234_0 (F : Nat) : Nat → Option LoopS := ltab [(3, G234_0_3 F F), (14, G234_0_14 F F)]
theorem L234_0_l3g (F k : Nat) (c241_1 : Y241_1)  (l3 : Y234_0_l3) (X3 : LoopS) (X14 : LoopS) (d : sh234_0_l3.den) (K : KL) : A234_0_l3 ((fun (v2 : List Int) (v3 : List Int) (v4 : List Int) (v5 : List Int) (v6 : List Int) (K0 : (List Int → Option Res)) (k : Nat) (v1 : Int) (v7 : List Int) => cond (decide (v1 < 64)) (cond (decide (0 < v7.length)) (cond (decide (4 < v7.length)) (cond (decide (5 < v7.length)) (cond (decide (6 < v7.length)) (cond (decide (1 < v7.length)) (cond (decide (2 < v7.length)) (cond (decide (1 < v7.length)) (cond (decide (2 < v7.length)) (cond (decide (7 < v7.length)) (cond (decide ((0 : Int) ≤ v1 ∧ v1 < 64)) (cond (decide (v1.toNat < v5.length)) (cond (decide ((0 : Int) ≤ v1 ∧ v1 < 64)) (cond (decide (v1.toNat < v6.length)) (c241_1 (v7.getD 4 0) 6 (fun x8 => c241_1 (v7.getD 4 0) 11 (fun x9 => c241_1 (v7.getD 4 0) 25 (fun x10 => c241_1 (v7.getD 0 0) 2 (fun x11 => c241_1 (v7.getD 0 0) 13 (fun x12 => c241_1 (v7.getD 0 0) 22 (fun x13 => cond (decide (0 < (v7.take 1 ++ (((v7.drop 0).take 7).take 7 ++ v7.drop (1 + (min (((v7.drop 0).take 7).length) 7)))).length)) (cond (decide (4 < ((v7.take 1 ++ (((v7.drop 0).take 7).take 7 ++ v7.drop (1 + (min (((v7.drop 0).take 7).length) 7)))).set 0 (IntKind.u32.wrap ((IntKind.u32.wrap ((IntKind.u32.wrap ((IntKind.u32.wrap ((IntKind.u32.wrap ((v7.getD 7 0) + (ixor .u32 (ixor .u32 x8 x9) x10))) + (ixor .u32 (iand .u32 (v7.getD 4 0) (v7.getD 5 0)) (iand .u32 (ixor .u32 4294967295 (v7.getD 4 0)) (v7.getD 6 0))))) + (v5.getD v1.toNat 0))) + (v6.getD v1.toNat 0))) + (IntKind.u32.wrap ((ixor .u32 (ixor .u32 x11 x12) x13) + (ixor .u32 (ixor .u32 (iand .u32 (v7.getD 0 0) (v7.getD 1 0)) (iand .u32 (v7.getD 0 0) (v7.getD 2 0))) (iand .u32 (v7.getD 1 0) (v7.getD 2 0)))))))).length)) (cond (decide (4 < ((v7.take 1 ++ (((v7.drop 0).take 7).take 7 ++ v7.drop (1 + (min (((v7.drop 0).take 7).length) 7)))).set 0 (IntKind.u32.wrap ((IntKind.u32.wrap ((IntKind.u32.wrap ((IntKind.u32.wrap ((IntKind.u32.wrap ((v7.getD 7 0) + (ixor .u32 (ixor .u32 x8 x9) x10))) + (ixor .u32 (iand .u32 (v7.getD 4 0) (v7.getD 5 0)) (iand .u32 (ixor .u32 4294967295 (v7.getD 4 0)) (v7.getD 6 0))))) + (v5.getD v1.toNat 0))) + (v6.getD v1.toNat 0))) + (IntKind.u32.wrap ((ixor .u32 (ixor .u32 x11 x12) x13) + (ixor .u32 (ixor .u32 (iand .u32 (v7.getD 0 0) (v7.getD 1 0)) (iand .u32 (v7.getD 0 0) (v7.getD 2 0))) (iand .u32 (v7.getD 1 0) (v7.getD 2 0)))))))).length)) (l3 v2 v3 v4 v5 v6 K0 k (IntKind.i64.wrap (v1 + 1)) (((v7.take 1 ++ (((v7.drop 0).take 7).take 7 ++ v7.drop (1 + (min (((v7.drop 0).take 7).length) 7)))).set 0 (IntKind.u32.wrap ((IntKind.u32.wrap ((IntKind.u32.wrap ((IntKind.u32.wrap ((IntKind.u32.wrap ((v7.getD 7 0) + (ixor .u32 (ixor .u32 x8 x9) x10))) + (ixor .u32 (iand .u32 (v7.getD 4 0) (v7.getD 5 0)) (iand .u32 (ixor .u32 4294967295 (v7.getD 4 0)) (v7.getD 6 0))))) + (v5.getD v1.toNat 0))) + (v6.getD v1.toNat 0))) + (IntKind.u32.wrap ((ixor .u32 (ixor .u32 x11 x12) x13) + (ixor .u32 (ixor .u32 (iand .u32 (v7.getD 0 0) (v7.getD 1 0)) (iand .u32 (v7.getD 0 0) (v7.getD 2 0))) (iand .u32 (v7.getD 1 0) (v7.getD 2 0)))))))).set 4 (IntKind.u32.wrap ((((v7.take 1 ++ (((v7.drop 0).take 7).take 7 ++ v7.drop (1 + (min (((v7.drop 0).take 7).length) 7)))).set 0 (IntKind.u32.wrap ((IntKind.u32.wrap ((IntKind.u32.wrap ((IntKind.u32.wrap ((IntKind.u32.wrap ((v7.getD 7 0) + (ixor .u32 (ixor .u32 x8 x9) x10))) + (ixor .u32 (iand .u32 (v7.getD 4 0) (v7.getD 5 0)) (iand .u32 (ixor .u32 4294967295 (v7.getD 4 0)) (v7.getD 6 0))))) + (v5.getD v1.toNat 0))) + (v6.getD v1.toNat 0))) + (IntKind.u32.wrap ((ixor .u32 (ixor .u32 x11 x12) x13) + (ixor .u32 (ixor .u32 (iand .u32 (v7.getD 0 0) (v7.getD 1 0)) (iand .u32 (v7.getD 0 0) (v7.getD 2 0))) (iand .u32 (v7.getD 1 0) (v7.getD 2 0)))))))).getD 4 0) + (IntKind.u32.wrap ((IntKind.u32.wrap ((IntKind.u32.wrap ((IntKind.u32.wrap ((v7.getD 7 0) + (ixor .u32 (ixor .u32 x8 x9) x10))) + (ixor .u32 (iand .u32 (v7.getD 4 0) (v7.getD 5 0)) (iand .u32 (ixor .u32 4294967295 (v7.getD 4 0)) (v7.getD 6 0))))) + (v5.getD v1.toNat 0))) + (v6.getD v1.toNat 0))))))) none) none) none) ) ) ) ) ) ) none) none) none) none) none) none) none) none) none) none) none) none) none) (K0 v7))) k d K = roundOf Tryz.prog (TB234_0 c241_1) (xw []) 109 1 (ltab [(3, X3), (14, X14)]) (mkG sh234_0_l3 [2, 4, 5, 6, 7, 20] (outT [(.exit 0, [2, 4, 7])]) (fun d K => A234_0_l3 l3 k d K) []) b234_0 (encT sh234_0_l3.vs d.1) (encH sh234_0_l3.h d.2) K := by kernel_rfl
theorem L234_0_3 (F : Nat) : LoopOK Tryz.prog (T234_0 F) (xw []) 109 1 (LT234_0 F) (G234_0_3 F F) b234_0 :=
  loopOK_of (s := sh234_0_l3) (live := [2, 4, 5, 6, 7, 20]) (out := (outT [(.exit 0, [2, 4, 7])])) (mv := []) (fun k d K => A234_0_l3 (f234_0_l3 F) k d K) F (fun d K => by kernel_rfl)  (fun k d K => Eq.mp (by kernel_rfl) (L234_0_l3g F k (f241_1 F)  (f234_0_l3 F) (G234_0_3 F F) (G234_0_14 F F) d K))
theorem L234_0_l14g (F k : Nat) (c241_1 : Y241_1)  (l14 : Y234_0_l14) (X3 : LoopS) (X14 : LoopS) (d : sh234_0_l14.den) (K : KL) : A234_0_l14 ((fun (v16 : List Int) (v17 : List Int) (v18 : List Int) (K0 : (List Int → Option Res)) (k : Nat) (v15 : Int) (v19 : List Int) => cond (decide (v15 < 8)) (cond (decide ((0 : Int) ≤ v15 ∧ v15 < 8)) (cond (decide (v15.toNat < v19.length)) (cond (decide ((0 : Int) ≤ v15 ∧ v15 < 8)) (cond (decide (v15.toNat < v17.length)) (cond (decide ((0 : Int) ≤ v15 ∧ v15 < 8)) (cond (decide (v15.toNat < v19.length)) (l14 v16 v17 v18 K0 k (IntKind.i64.wrap (v15 + 1)) (v19.set v15.toNat (IntKind.u32.wrap ((v19.getD v15.toNat 0) + (v17.getD v15.toNat 0))))) none) none) none) none) none) none) (K0 v19))) k d K = roundOf Tryz.prog (TB234_0 c241_1) (xw []) 109 1 (ltab [(3, X3), (14, X14)]) (mkG sh234_0_l14 [2, 4, 7, 96] (outT [(.exit 2, [4, 7])]) (fun d K => A234_0_l14 l14 k d K) []) b234_1 (encT sh234_0_l14.vs d.1) (encH sh234_0_l14.h d.2) K := by kernel_rfl
theorem L234_0_14 (F : Nat) : LoopOK Tryz.prog (T234_0 F) (xw []) 109 1 (LT234_0 F) (G234_0_14 F F) b234_1 :=
  loopOK_of (s := sh234_0_l14) (live := [2, 4, 7, 96]) (out := (outT [(.exit 2, [4, 7])])) (mv := []) (fun k d K => A234_0_l14 (f234_0_l14 F) k d K) F (fun d K => by kernel_rfl)  (fun k d K => Eq.mp (by kernel_rfl) (L234_0_l14g F k (f241_1 F)  (f234_0_l14 F) (G234_0_3 F F) (G234_0_14 F F) d K))
noncomputable def rest234 : Code := cR (cR code234)
theorem E234_0g (F : Nat) (c241_1 : Y241_1) (l3 : Y234_0_l3) (l14 : Y234_0_l14)  (d : sh234_0.den) (K : KF) : evC Tryz.prog (TB234_0 c241_1) (xw []) 109 1 (ltab [(3, mkG sh234_0_l3 [2, 4, 5, 6, 7, 20] (outT [(.exit 0, [2, 4, 7])]) (fun d K => A234_0_l3 l3 F d K) []), (14, mkG sh234_0_l14 [2, 4, 7, 96] (outT [(.exit 2, [4, 7])]) (fun d K => A234_0_l14 l14 F d K) [])]) rest234 (mkEnv 109 [2, 4, 5, 6, 7] [.tv (.lf (.ptr 1 0)), .tv (.lf (.ptr 2 0)), .tv (.lf (.ptr 3 0)), .tv (.lf (.ptr 4 0)), .tv (.lf (.ptr 5 0))]) (encH sh234_0.h d.2) (endK Tryz.prog 1 Tryz.f234.results.toList K) = A234_0 (fun (a1 : List Int) (a2 : List Int) (a3 : List Int) (a4 : List Int) (a5 : List Int) (a6 : List Int) (K0 : (List Int → Option Res)) => l3 a1 a2 a3 a4 a5 (fun x14 => l14 a1 a2 a3 (fun x20 => K0 x20) F 0 x14) F 0 a6) d K := by kernel_rfl
theorem E234_0 (F : Nat) (d : sh234_0.den) (K : KF) : evC Tryz.prog (T234_0 F) (xw []) 109 1 (LT234_0 F) rest234 (mkEnv 109 [2, 4, 5, 6, 7] [.tv (.lf (.ptr 1 0)), .tv (.lf (.ptr 2 0)), .tv (.lf (.ptr 3 0)), .tv (.lf (.ptr 4 0)), .tv (.lf (.ptr 5 0))]) (encH sh234_0.h d.2) (endK Tryz.prog 1 Tryz.f234.results.toList K) = A234_0 (f234_0 F) d K := Eq.mp (by kernel_rfl) (E234_0g F (f241_1 F) (f234_0_l3 F) (f234_0_l14 F)  d K)
theorem looped234 (F : Nat) : LoopsOK Tryz.prog (T234_0 F) (xw []) 109 1 (LT234_0 F) (loopsOf code234) := by rw [loops234]; exact (loopsOK_cons (by kernel_rfl) (L234_0_3 F) (loopsOK_cons (by kernel_rfl) (L234_0_14 F) loopsOK_nil))
theorem tabled234 (F : Nat) : SoundT Tryz.prog (T234_0 F) := (tab_cons (S241_1_ok F _ (noS_sound enter241)) tab_nil)
end
end Go.Proofs.YtlgopekjjkdkiaaGreatDoor.X
end
section
namespace Go.Proofs.YtlgopekjjkdkiaaGreatDoor.X
open Go Go.Proofs.YtlgopekjjkdkiaaGreatDoor.Ev
set_option linter.unusedSectionVars false
set_option linter.unusedVariables false
set_option linter.unusedSimpArgs false
section
variable [FZ]
theorem w64 {x : Int} (h : -9223372036854775808 ≤ x) (h' : x ≤ 9223372036854775807) : IntKind.i64.wrap x = x := by
  simp only [IntKind.wrap, IntKind.bits, IntKind.signed, Bool.true_and]
  split <;> (rename_i hq; simp at hq; omega)
theorem wu64 {x : Int} (h : 0 ≤ x) (h' : x < 18446744073709551616) : IntKind.u64.wrap x = x := by
  simp only [IntKind.wrap, IntKind.bits, IntKind.signed, Bool.false_and]
  simp; omega
theorem wu8 {x : Int} (h : 0 ≤ x) (h' : x < 256) : IntKind.u8.wrap x = x := by
  simp only [IntKind.wrap, IntKind.bits, IntKind.signed, Bool.false_and]
  simp; omega
theorem wu64m (x : Int) : IntKind.u64.wrap x = x % 18446744073709551616 := by
  simp only [IntKind.wrap, IntKind.bits, IntKind.signed, Bool.false_and]
  simp
theorem wu32m (x : Int) : IntKind.u32.wrap x = x % 4294967296 := by
  simp only [IntKind.wrap, IntKind.bits, IntKind.signed, Bool.false_and]
  simp
theorem wu8m (x : Int) : IntKind.u8.wrap x = x % 256 := by
  simp only [IntKind.wrap, IntKind.bits, IntKind.signed, Bool.false_and]
  simp
theorem and64 {A B : Nat} (hA : A < 2 ^ 64) (hB : B < 2 ^ 64) : iand .u64 (A : Int) (B : Int) = ((A &&& B : Nat) : Int) := by
  have h : (BitVec.ofInt 64 (A : Int) &&& BitVec.ofInt 64 (B : Int)).toNat = A &&& B := by
    simp [BitVec.toNat_and, BitVec.ofInt_natCast, BitVec.toNat_ofNat, Nat.mod_eq_of_lt hA, Nat.mod_eq_of_lt hB]
  have hl : A &&& B < 2 ^ 64 := Nat.and_lt_two_pow A hB
  show IntKind.u64.wrap ((BitVec.ofInt 64 (A : Int) &&& BitVec.ofInt 64 (B : Int)).toNat : Int) = _
  rw [h, wu64 (by omega) (by omega)]
def mk (f : Nat → Bool) : Nat → Nat
  | 0 => 0
  | n + 1 => if f n then mk f n ||| 2 ^ n else mk f n
theorem tmod_nn {a b : Nat} : ((a : Int).tmod (b : Int)) = ((a % b : Nat) : Int) := by
  rw [Int.tmod_eq_emod_of_nonneg (by omega)]; rfl
theorem ct {α : Sort _} {p : Prop} [Decidable p] {a b : α} (h : p) : cond (decide p) a b = a := by simp [h]
theorem cf {α : Sort _} {p : Prop} [Decidable p] {a b : α} (h : ¬ p) : cond (decide p) a b = b := by simp [h]
end
section
variable [FZ]
def rot (x n : Int) : Int := ior .u32 (ishl .u32 x (32 - n)) (ishr .u32 x n)
theorem ior_comm (k : IntKind) (x y : Int) : ior k x y = ior k y x := by
  simp only [ior, BitVec.or_comm]
theorem turnP {β : Type} {F : Nat} {x n : Int} {K : Int → Option β} (h0 : 0 < n) (h1 : n < 32) : f241_1 F x n K = K (rot x n) := by
  have e1 : IntKind.i64.wrap (0 - n) = -n := by rw [w64 (by omega) (by omega)]; omega
  have e2 : IntKind.u64.wrap (-n) = ((18446744073709551616 - n.toNat : Nat) : Int) := by rw [wu64m]; omega
  have e3 : iand .u64 ((18446744073709551616 - n.toNat : Nat) : Int) 31 = 32 - n := by
    rw [show (31 : Int) = ((31 : Nat) : Int) from rfl, and64 (by omega) (by omega), show (31 : Nat) = 2 ^ 5 - 1 from rfl, Nat.and_two_pow_sub_one_eq_mod]
    omega
  have e4 : IntKind.u64.wrap (32 - (32 - n)) = n := by rw [wu64 (by omega) (by omega)]; omega
  simp only [f241_1, f243_1, e1, e2, e3, e4]
  rw [cf (by omega), cf (by omega)]
  rfl
theorem turnR {β : Type} {F : Nat} {x n : Int} {K : Int → Option β} (h0 : 0 < n) (h1 : n < 32) : f216_1 F x n K = K (rot x n) := by
  have e4 : IntKind.u64.wrap (32 - n) = 32 - n := wu64 (by omega) (by omega)
  simp only [f216_1, e4]
  rw [cf (by omega), cf (by omega), rot, ior_comm]
def word (b : List Int) (i : Nat) : Int :=
  ior .u32 (ior .u32 (ior .u32 (ishl .u32 (IntKind.u32.wrap (b.getD (4 * i) 0)) 24) (ishl .u32 (IntKind.u32.wrap (b.getD (4 * i + 1) 0)) 16)) (ishl .u32 (IntKind.u32.wrap (b.getD (4 * i + 2) 0)) 8)) (IntKind.u32.wrap (b.getD (4 * i + 3) 0))
def ldr (b : List Int) : Nat → Nat → List Int → List Int
  | 0, _, acc => acc
  | m + 1, i, acc => ldr b m (i + 1) (acc.set i (word b i))
theorem ldr_len (b : List Int) : ∀ m i acc, (ldr b m i acc).length = acc.length
  | 0, _, _ => rfl
  | m + 1, i, acc => by rw [ldr, ldr_len b m]; simp
theorem ldP {β : Type} {F : Nat} {b z : List Int} {K : List Int → Option β} (hb : 64 ≤ b.length) : ∀ (m i k : Nat) (acc : List Int), i + m = 16 → m < k → acc.length = 64 →
    f240_1_l3 F b z K k (i : Int) acc = K (ldr b m i acc)
  | 0, i, k, acc, hi, hk, ha => by
    obtain ⟨k, rfl⟩ : ∃ j, k = j + 1 := ⟨k - 1, by omega⟩
    simp only [f240_1_l3]
    rw [cf (by omega)]; rfl
  | m + 1, i, k, acc, hi, hk, ha => by
    obtain ⟨k, rfl⟩ : ∃ j, k = j + 1 := ⟨k - 1, by omega⟩
    have e1 : IntKind.i64.wrap (4 * (i : Int)) = ((4 * i : Nat) : Int) := by rw [w64 (by omega) (by omega)]; omega
    have e2 : IntKind.i64.wrap (((4 * i : Nat) : Int) + 4) = ((4 * i + 4 : Nat) : Int) := by rw [w64 (by omega) (by omega)]; omega
    have e3 : (((4 * i + 4 : Nat) : Int) - ((4 * i : Nat) : Int)).toNat = 4 := by omega
    have e4 : IntKind.i64.wrap ((i : Int) + 1) = ((i + 1 : Nat) : Int) := by rw [w64 (by omega) (by omega)]; omega
    simp only [f240_1_l3, e1, e2, e3, e4, Int.toNat_natCast, Nat.zero_add, Nat.add_zero, ha]
    rw [ct (by omega), ct (by omega), ct (by omega), ct (by omega), ct (by omega), ct (by omega), ct (by omega), ct (by omega), ct (by omega), ct (by omega), ct (by omega), ct (by omega)]
    exact ldP hb m (i + 1) k _ (by omega) (by omega) (by simp [ha])
theorem ldR {β : Type} {F : Nat} {b z s y : List Int} {K : List Int → Option β} (hb : 64 ≤ b.length) : ∀ (m i k : Nat) (acc : List Int), i + m = 16 → m < k → acc.length = 64 →
    f195_1_l3 F y b s z K k (i : Int) acc = K (ldr b m i acc)
  | 0, i, k, acc, hi, hk, ha => by
    obtain ⟨k, rfl⟩ : ∃ j, k = j + 1 := ⟨k - 1, by omega⟩
    simp only [f195_1_l3]
    rw [cf (by omega)]; rfl
  | m + 1, i, k, acc, hi, hk, ha => by
    obtain ⟨k, rfl⟩ : ∃ j, k = j + 1 := ⟨k - 1, by omega⟩
    have e1 : IntKind.i64.wrap (4 * (i : Int)) = ((4 * i : Nat) : Int) := by rw [w64 (by omega) (by omega)]; omega
    have e2 : IntKind.i64.wrap (((4 * i : Nat) : Int) + 1) = ((4 * i + 1 : Nat) : Int) := by rw [w64 (by omega) (by omega)]; omega
    have e3 : IntKind.i64.wrap (((4 * i : Nat) : Int) + 2) = ((4 * i + 2 : Nat) : Int) := by rw [w64 (by omega) (by omega)]; omega
    have e5 : IntKind.i64.wrap (((4 * i : Nat) : Int) + 3) = ((4 * i + 3 : Nat) : Int) := by rw [w64 (by omega) (by omega)]; omega
    have e4 : IntKind.i64.wrap ((i : Int) + 1) = ((i + 1 : Nat) : Int) := by rw [w64 (by omega) (by omega)]; omega
    simp only [f195_1_l3, e1, e2, e3, e4, e5, Int.toNat_natCast, Nat.zero_add, Nat.add_zero, ha]
    rw [ct (by omega), ct (by omega), ct (by omega), ct (by omega), ct (by omega), ct (by omega), ct (by omega), ct (by omega), ct (by omega), ct (by omega), ct (by omega)]
    exact ldR hb m (i + 1) k _ (by omega) (by omega) (by simp [ha])
def sg0 (x : Int) : Int := ixor .u32 (ixor .u32 (rot x 7) (rot x 18)) (ishr .u32 x 3)
def sg1 (x : Int) : Int := ixor .u32 (ixor .u32 (rot x 17) (rot x 19)) (ishr .u32 x 10)
def nx (l : List Int) (i : Nat) : Int := IntKind.u32.wrap ((IntKind.u32.wrap ((IntKind.u32.wrap (l.getD (i - 16) 0 + l.getD (i - 7) 0)) + sg0 (l.getD (i - 15) 0))) + sg1 (l.getD (i - 2) 0))
def exps : Nat → Nat → List Int → List Int
  | 0, _, acc => acc
  | m + 1, i, acc => exps m (i + 1) (acc.set i (nx acc i))
theorem exps_len : ∀ m i acc, (exps m i acc).length = acc.length
  | 0, _, _ => rfl
  | m + 1, i, acc => by rw [exps, exps_len m]; simp
theorem exP {β : Type} {F : Nat} {b z : List Int} {K : List Int → Option β} : ∀ (m i k : Nat) (acc : List Int), i + m = 64 → 16 ≤ i → m < k → acc.length = 64 →
    f240_1_l9 F b z K k (i : Int) acc = K (exps m i acc)
  | 0, i, k, acc, hi, hj, hk, ha => by
    obtain ⟨k, rfl⟩ : ∃ j, k = j + 1 := ⟨k - 1, by omega⟩
    simp only [f240_1_l9]
    rw [cf (by omega)]; rfl
  | m + 1, i, k, acc, hi, hj, hk, ha => by
    obtain ⟨k, rfl⟩ : ∃ j, k = j + 1 := ⟨k - 1, by omega⟩
    have e1 : IntKind.i64.wrap ((i : Int) - 15) = ((i - 15 : Nat) : Int) := by rw [w64 (by omega) (by omega)]; omega
    have e2 : IntKind.i64.wrap ((i : Int) - 2) = ((i - 2 : Nat) : Int) := by rw [w64 (by omega) (by omega)]; omega
    have e3 : IntKind.i64.wrap ((i : Int) - 16) = ((i - 16 : Nat) : Int) := by rw [w64 (by omega) (by omega)]; omega
    have e5 : IntKind.i64.wrap ((i : Int) - 7) = ((i - 7 : Nat) : Int) := by rw [w64 (by omega) (by omega)]; omega
    have e4 : IntKind.i64.wrap ((i : Int) + 1) = ((i + 1 : Nat) : Int) := by rw [w64 (by omega) (by omega)]; omega
    simp only [f240_1_l9, e1, e2, e3, e4, e5, Int.toNat_natCast, ha]
    rw [ct (by omega), ct (by omega), ct (by omega), ct (by omega), ct (by omega), ct (by omega), ct (by omega), ct (by omega), ct (by omega), turnP (by omega) (by omega), turnP (by omega) (by omega), turnP (by omega) (by omega), turnP (by omega) (by omega),
      ct (by omega), ct (by omega)]
    exact exP m (i + 1) k _ (by omega) (by omega) (by omega) (by simp [ha])
theorem add4 (a b c d : Int) : IntKind.u32.wrap (IntKind.u32.wrap (IntKind.u32.wrap (a + c) + b) + d) = IntKind.u32.wrap (IntKind.u32.wrap (IntKind.u32.wrap (a + b) + c) + d) := by
  simp only [wu32m]; omega
theorem exR {β : Type} {F : Nat} {b z s y : List Int} {K : List Int → Option β} : ∀ (m i k : Nat) (acc : List Int), i + m = 64 → 16 ≤ i → m < k → acc.length = 64 →
    f195_1_l7 F y b s z K k (i : Int) acc = K (exps m i acc)
  | 0, i, k, acc, hi, hj, hk, ha => by
    obtain ⟨k, rfl⟩ : ∃ j, k = j + 1 := ⟨k - 1, by omega⟩
    simp only [f195_1_l7]
    rw [cf (by omega)]; rfl
  | m + 1, i, k, acc, hi, hj, hk, ha => by
    obtain ⟨k, rfl⟩ : ∃ j, k = j + 1 := ⟨k - 1, by omega⟩
    have e1 : IntKind.i64.wrap ((i : Int) - 15) = ((i - 15 : Nat) : Int) := by rw [w64 (by omega) (by omega)]; omega
    have e2 : IntKind.i64.wrap ((i : Int) - 2) = ((i - 2 : Nat) : Int) := by rw [w64 (by omega) (by omega)]; omega
    have e3 : IntKind.i64.wrap ((i : Int) - 16) = ((i - 16 : Nat) : Int) := by rw [w64 (by omega) (by omega)]; omega
    have e5 : IntKind.i64.wrap ((i : Int) - 7) = ((i - 7 : Nat) : Int) := by rw [w64 (by omega) (by omega)]; omega
    have e4 : IntKind.i64.wrap ((i : Int) + 1) = ((i + 1 : Nat) : Int) := by rw [w64 (by omega) (by omega)]; omega
    simp only [f195_1_l7, e1, e2, e3, e4, e5, Int.toNat_natCast, ha]
    rw [ct (by omega), ct (by omega), ct (by omega), ct (by omega), ct (by omega), ct (by omega), ct (by omega), ct (by omega), ct (by omega), turnR (by omega) (by omega), turnR (by omega) (by omega), turnR (by omega) (by omega), turnR (by omega) (by omega),
      ct (by omega), ct (by omega), add4]
    exact exR m (i + 1) k _ (by omega) (by omega) (by omega) (by simp [ha])
def wds (b : List Int) : List Int := exps 48 16 (ldr b 16 0 (List.replicate 64 0))
theorem wds_len (b : List Int) : (wds b).length = 64 := by rw [wds, exps_len, ldr_len]; rfl
theorem spreadP {β : Type} {F : Nat} {b : List Int} {K : List Int → Option β} (hF : 100 ≤ F) (hb : 64 ≤ b.length) : f240_1 F b K = K (wds b) := by
  simp only [f240_1]
  rw [show ([0, 0, 0, 0, 0, 0, 0, 0, 0, 0, 0, 0, 0, 0, 0, 0, 0, 0, 0, 0, 0, 0, 0, 0, 0, 0, 0, 0, 0, 0, 0, 0, 0, 0, 0, 0, 0, 0, 0, 0, 0, 0, 0, 0, 0, 0, 0, 0, 0, 0, 0, 0, 0, 0, 0, 0, 0, 0, 0, 0, 0, 0, 0, 0] : List Int) = List.replicate 64 0 from rfl,
    show (0 : Int) = ((0 : Nat) : Int) from rfl, ldP hb 16 0 F _ (by omega) (by omega) (by simp), show (16 : Int) = ((16 : Nat) : Int) from rfl, exP 48 16 F _ (by omega) (by omega) (by omega) (by rw [ldr_len]; simp)]
  rfl
end
end Go.Proofs.YtlgopekjjkdkiaaGreatDoor.X
end
section
namespace Go.Proofs.YtlgopekjjkdkiaaGreatDoor.Ev
open Go
set_option linter.unusedVariables false
set_option linter.unusedSimpArgs false
set_option linter.unusedSectionVars false
section
variable [FZ]
variable {P : Program}
def unl (L : Array Bool) : Nat → Nat
  | 0 => 0
  | n + 1 => unl L n + (if L.getD n true = true then 0 else 1)
theorem unl_ne {L : Array Bool} {i : Nat} : ∀ n, n ≤ i → unl (L.setIfInBounds i true) n = unl L n
  | 0, _ => rfl
  | n + 1, h => by
    simp only [unl]
    rw [unl_ne n (by omega), getD_set_ne true (by omega)]
theorem unl_set {L : Array Bool} {i : Nat} (hi : L.getD i true = false) : ∀ n, i < n → unl (L.setIfInBounds i true) n + 1 = unl L n
  | 0, h => by omega
  | n + 1, h => by
    simp only [unl]
    by_cases hn : i = n
    · subst hn
      have h1 : (L.setIfInBounds i true).getD i true = true := by
        rcases Nat.lt_or_ge i L.size with h' | h'
        · simp [h']
        · simp [Array.getElem?_eq_none h'] at hi
      rw [unl_ne i (Nat.le_refl _), h1, hi]
      simp
    · have := unl_set hi n (by omega)
      rw [getD_set_ne true hn]
      omega
theorem unl_zero {L : Array Bool} : ∀ n, unl L n = 0 → ∀ j, j < n → L.getD j true = true
  | 0, _, j, h => by omega
  | n + 1, h0, j, h => by
    simp only [unl] at h0
    by_cases hj : j = n
    · subst hj
      cases hb : L.getD j true with
      | true => rfl
      | false => rw [hb] at h0; simp at h0
    · exact unl_zero n (by omega) j (by omega)
theorem unl_none : ∀ n m, n ≤ m → unl (Array.replicate m false) n = n
  | 0, _, _ => rfl
  | n + 1, m, h => by
    simp only [unl]
    rw [unl_none n m (by omega)]
    have : (Array.replicate m false).getD n true = false := by simp [show n < m by omega]
    rw [this]; simp
def backB (ops : Array Oper) : Bool := (List.range ops.size).all fun j => match ops[j]? with
  | some o => o.after.all fun e => !(Region.binds .any e) || decide (e.on < j)
  | none => true
theorem all_listed {ops : Array Oper} (hb : backB ops = true) {L : Array Bool} (hsz : L.size = ops.size) (hr : Region.ready .any ops L = []) : ∀ j, j < ops.size → L.getD j true = true := by
  intro j
  induction j using Nat.strongRecOn with
  | _ j ih =>
    intro hj
    cases hq : L.getD j true with
    | true => rfl
    | false =>
      exfalso
      obtain ⟨o, ho⟩ : ∃ o, ops[j]? = some o := ⟨_, Array.getElem?_eq_getElem hj⟩
      have : j ∈ Region.ready .any ops L := by
        refine mem_ready.2 ⟨hq, o, ho, fun e he hbe => ?_⟩
        have h1 := List.all_eq_true.1 hb j (List.mem_range.2 hj)
        simp only [ho] at h1
        have h2 := Array.all_eq_true'.1 h1 e he
        simp only [hbe, Bool.not_true, Bool.false_or, decide_eq_true_eq] at h2
        have h3 := ih e.on h2 (by omega)
        have : e.on < L.size := by omega
        simp [this] at h3 ⊢
        exact h3
      rw [hr] at this; cases this
theorem wpAny_inv {ops : Array Oper} {Q : Exit → Act → World → Prop} (Phi : Array Bool → Act → World → Prop) (hb : backB ops = true)
    (hstep : ∀ L a w i, L.size = ops.size → Phi L a w → i ∈ Region.ready .any ops L → wpOp P ops Q i (fun a' w' => Phi (L.setIfInBounds i true) a' w') a w)
    (hfin : ∀ L a w, L.size = ops.size → Phi L a w → (∀ j, j < ops.size → L.getD j true = true) → Q .normal a w) :
    ∀ fuel L a w, L.size = ops.size → unl L ops.size ≤ fuel → Phi L a w → wpAny P .any ops Q fuel L a w
  | 0, L, a, w, hsz, hu, hp => by
    have h0 := unl_zero _ (by omega : unl L ops.size = 0)
    refine ⟨?_, hfin L a w hsz hp h0⟩
    cases hr : Region.ready .any ops L with
    | nil => rfl
    | cons i r =>
      obtain ⟨h1, o, h2, _⟩ := mem_ready.1 (show i ∈ Region.ready .any ops L by rw [hr]; simp)
      have := h0 i (Array.getElem?_eq_some_iff.1 h2).1
      rw [h1] at this; cases this
  | fuel + 1, L, a, w, hsz, hu, hp => by
    refine ⟨fun hr => hfin L a w hsz hp (all_listed hb hsz hr), fun i hi => ?_⟩
    obtain ⟨h1, o, h2, _⟩ := mem_ready.1 hi
    have h3 := unl_set h1 ops.size (Array.getElem?_eq_some_iff.1 h2).1
    exact wpOp_mono (fun a' w' h' => wpAny_inv Phi hb hstep hfin fuel _ a' w' (by simpa using hsz) (by omega) h') (hstep L a w i hsz hp hi)
structure Cel where
  al : Nat
  st : Nat
  dst : Nat
  t : TypeId
  V : Array Value
structure PHI (w0 : World) (a0 : Act) (VL : List (Nat × Nat × Value)) (CL : List Cel) (L : Array Bool) (a : Act) (w : World) : Prop where
  ext : Ext w0 w
  dfr : a.defers = a0.defers
  len : a.tmps.size = a0.tmps.size
  keep : ∀ s, (∀ p ∈ VL, p.2.1 ≠ s) → (∀ c ∈ CL, c.dst ≠ s) → a.tmps.getD s undef = a0.tmps.getD s undef
  vals : ∀ p ∈ VL, L.getD p.1 false = true → a.tmps.getD p.2.1 undef = p.2.2
  ord : ∀ c ∈ CL, L.getD c.st false = true → L.getD c.al false = true
  cells : ∀ c ∈ CL, L.getD c.al false = true → ∃ b, a.tmps.getD c.dst undef = .pointer (some (at_ (b, 0) 0)) ∧ w0.heap.size ≤ b ∧
    ∃ blk, w.heap[b]? = some (.cells blk c.t (0, 0)) ∧ blk.size = c.V.size ∧ (L.getD c.st false = true → blk = c.V)
  dist : ∀ c ∈ CL, ∀ d ∈ CL, c.dst ≠ d.dst → L.getD c.al false = true → L.getD d.al false = true → ∀ b b', a.tmps.getD c.dst undef = .pointer (some (at_ (b, 0) 0)) →
    a.tmps.getD d.dst undef = .pointer (some (at_ (b', 0) 0)) → b ≠ b'
theorem put_getD {a : Act} {d s : Nat} {v : Value} (hd : d < a.tmps.size) : (a.put (some d) v).tmps.getD s undef = if d = s then v else a.tmps.getD s undef := by
  simp only [Act.put, Array.getD_eq_getD_getElem?, Array.getElem?_setIfInBounds]
  split
  · rename_i h; subst h; simp [hd]
  · rfl
theorem set_getD {L : Array Bool} {i j : Nat} (hi : i < L.size) : (L.setIfInBounds i true).getD j false = if i = j then true else L.getD j false := by
  simp only [Array.getD_eq_getD_getElem?, Array.getElem?_setIfInBounds]
  split
  · rename_i h; subst h; simp [hi]
  · rfl
section
variable {w0 : World} {a0 : Act} {VL : List (Nat × Nat × Value)} {CL : List Cel} {L : Array Bool} {a : Act} {w w' : World}
theorem PHI.value (h : PHI w0 a0 VL CL L a w) {p : Nat × Nat × Value} (hp : p ∈ VL) (hi : p.1 < L.size) (hd : p.2.1 < a0.tmps.size) (hq : ∀ q ∈ VL, q.1 = p.1 ∨ q.2.1 = p.2.1 → q = p) (hc : ∀ c ∈ CL, c.dst ≠ p.2.1 ∧ c.al ≠ p.1 ∧ c.st ≠ p.1)
    (e : Ext w w') : PHI w0 a0 VL CL (L.setIfInBounds p.1 true) (a.put (some p.2.1) p.2.2) w' := by
  have hd' : p.2.1 < a.tmps.size := by rw [h.len]; exact hd
  refine ⟨h.ext.trans e, h.dfr, by simp [Act.put, h.len], fun s h1 h2 => ?_, fun q hq' hl => ?_, fun c hc' hl => ?_, fun c hc' hl => ?_, fun c hc' d hd2 hne h1 h2 b b' h3 h4 => ?_⟩
  · rw [put_getD hd', if_neg (h1 p hp)]; exact h.keep s h1 h2
  · rw [put_getD hd']
    rw [set_getD hi] at hl
    split
    · rename_i hs; rw [hq q hq' (.inr hs.symm)]
    · rename_i hs
      rw [if_neg] at hl
      · exact h.vals q hq' hl
      · intro h1; exact hs (by rw [hq q hq' (.inl h1.symm)])
  · obtain ⟨c1, c2, c3⟩ := hc c hc'
    rw [set_getD hi, if_neg (Ne.symm c3)] at hl
    rw [set_getD hi, if_neg (Ne.symm c2)]
    exact h.ord c hc' hl
  · obtain ⟨c1, c2, c3⟩ := hc c hc'
    rw [set_getD hi, if_neg (Ne.symm c2)] at hl
    obtain ⟨b, q1, q2, blk, q3, q4, q5⟩ := h.cells c hc' hl
    refine ⟨b, by rw [put_getD hd', if_neg (Ne.symm c1)]; exact q1, q2, blk, e.get q3, q4, fun h' => q5 ?_⟩
    rw [set_getD hi, if_neg (Ne.symm c3)] at h'
    exact h'
  · obtain ⟨c1, c2, c3⟩ := hc c hc'
    obtain ⟨d1, d2, d3⟩ := hc d hd2
    rw [set_getD hi, if_neg (Ne.symm c2)] at h1
    rw [set_getD hi, if_neg (Ne.symm d2)] at h2
    rw [put_getD hd', if_neg (Ne.symm c1)] at h3
    rw [put_getD hd', if_neg (Ne.symm d1)] at h4
    exact h.dist c hc' d hd2 hne h1 h2 b b' h3 h4
theorem PHI.alloc (h : PHI w0 a0 VL CL L a w) {c : Cel} (hc : c ∈ CL) (hi : c.al < L.size) (hun : L.getD c.al false = false) (hd : c.dst < a0.tmps.size) (hq : ∀ q ∈ VL, q.1 ≠ c.al ∧ q.2.1 ≠ c.dst)
    (hcl : ∀ d ∈ CL, (d.al = c.al ∨ d.dst = c.dst → d = c) ∧ d.st ≠ c.al) {Z : Array Value} (hz : Z.size = c.V.size) :
    PHI w0 a0 VL CL (L.setIfInBounds c.al true) (a.put (some c.dst) (.pointer (some (at_ (w.heap.size, 0) 0)))) (pushB w (.cells Z c.t)) := by
  have hd' : c.dst < a.tmps.size := by rw [h.len]; exact hd
  have e := ext_push w (.cells Z c.t)
  have hne : ∀ d ∈ CL, d ≠ c → c.al ≠ d.al ∧ c.dst ≠ d.dst := fun d hd2 hdc => ⟨fun h1 => hdc ((hcl d hd2).1 (.inl h1.symm)), fun h1 => hdc ((hcl d hd2).1 (.inr h1.symm))⟩
  have hlt : ∀ d ∈ CL, L.getD d.al false = true → ∀ b, a.tmps.getD d.dst undef = .pointer (some (at_ (b, 0) 0)) → b < w.heap.size := by
    intro d hd2 hl b hb
    obtain ⟨b2, q1, q2, blk, q3, _⟩ := h.cells d hd2 hl
    rw [hb] at q1
    have : b = b2 := by injection q1 with q1; injection q1 with q1; simp only [at_, Addr.mk.injEq] at q1; exact q1.1
    rw [this]; exact (Array.getElem?_eq_some_iff.1 q3).1
  have hpt : ∀ {x b : Nat}, (Value.pointer (some (at_ (x, 0) 0))) = .pointer (some (at_ (b, 0) 0)) → x = b := by
    intro x b h1; injection h1 with h1; injection h1 with h1; simp only [at_, Addr.mk.injEq] at h1; exact h1.1
  refine ⟨h.ext.trans e, h.dfr, by simp [Act.put, h.len], fun s h1 h2 => ?_, fun q hq' hl => ?_, fun d hd2 hl => ?_, fun d hd2 hl => ?_, fun d hd2 d' hd3 hdd h1 h2 b b' h3 h4 => ?_⟩
  · rw [put_getD hd', if_neg (h2 c hc)]; exact h.keep s h1 h2
  · rw [set_getD hi, if_neg (Ne.symm (hq q hq').1)] at hl
    rw [put_getD hd', if_neg (Ne.symm (hq q hq').2)]
    exact h.vals q hq' hl
  · rw [set_getD hi, if_neg (Ne.symm (hcl d hd2).2)] at hl
    rw [set_getD hi]
    split
    · rfl
    · exact h.ord d hd2 hl
  · by_cases hdc : d = c
    · subst hdc
      refine ⟨w.heap.size, by rw [put_getD hd', if_pos rfl], h.ext.size, Z, push_get w _, hz, fun hst => ?_⟩
      rw [set_getD hi, if_neg (Ne.symm (hcl d hd2).2)] at hst
      have := h.ord d hd2 hst
      rw [hun] at this; cases this
    · obtain ⟨n1, n2⟩ := hne d hd2 hdc
      rw [set_getD hi, if_neg n1] at hl
      obtain ⟨b, q1, q2, blk, q3, q4, q5⟩ := h.cells d hd2 hl
      refine ⟨b, by rw [put_getD hd', if_neg n2]; exact q1, q2, blk, e.get q3, q4, fun hst => q5 ?_⟩
      rw [set_getD hi, if_neg (Ne.symm (hcl d hd2).2)] at hst
      exact hst
  · by_cases hdc : d = c
    · subst hdc
      rw [put_getD hd', if_pos rfl] at h3
      have n3 : d' ≠ d := fun h0 => hdd (by rw [h0])
      obtain ⟨n1, n2⟩ := hne d' hd3 n3
      rw [set_getD hi, if_neg n1] at h2
      rw [put_getD hd', if_neg n2] at h4
      have := hlt d' hd3 h2 b' h4
      have := hpt h3
      omega
    · obtain ⟨n1, n2⟩ := hne d hd2 hdc
      rw [set_getD hi, if_neg n1] at h1
      rw [put_getD hd', if_neg n2] at h3
      by_cases hdc' : d' = c
      · subst hdc'
        rw [put_getD hd', if_pos rfl] at h4
        have := hlt d hd2 h1 b h3
        have := hpt h4
        omega
      · obtain ⟨m1, m2⟩ := hne d' hd3 hdc'
        rw [set_getD hi, if_neg m1] at h2
        rw [put_getD hd', if_neg m2] at h4
        exact h.dist d hd2 d' hd3 hdd h1 h2 b b' h3 h4
theorem PHI.store (h : PHI w0 a0 VL CL L a w) {c : Cel} (hc : c ∈ CL) (hi : c.st < L.size) (hal : L.getD c.al false = true) (hq : ∀ q ∈ VL, q.1 ≠ c.st)
    (hcl : ∀ d ∈ CL, (d.st = c.st ∨ d.dst = c.dst → d = c) ∧ d.al ≠ c.st) {b : Nat} (hb : a.tmps.getD c.dst undef = .pointer (some (at_ (b, 0) 0))) (ho : OnlyB w w' b) (hw : w'.heap[b]? = some (.cells c.V c.t (0, 0))) :
    PHI w0 a0 VL CL (L.setIfInBounds c.st true) a w' := by
  obtain ⟨b0, q1, q2, blk, q3, q4, q5⟩ := h.cells c hc hal
  have hbb : b0 = b := by
    rw [hb] at q1; injection q1 with q1; injection q1 with q1; simp only [at_, Addr.mk.injEq] at q1; exact q1.1.symm
  subst hbb
  have e : Ext w0 w' := ⟨h.ext.str.trans ho.str, by rw [ho.size]; exact h.ext.size, fun x hx => by rw [ho.block x (by omega)]; exact h.ext.block x hx⟩
  refine ⟨e, h.dfr, h.len, h.keep, fun q hq' hl => ?_, fun d hd2 hl => ?_, fun d hd2 hl => ?_, fun d hd2 d' hd3 hdd h1 h2 b b' h3 h4 => ?_⟩
  · rw [set_getD hi, if_neg (Ne.symm (hq q hq'))] at hl
    exact h.vals q hq' hl
  · rw [set_getD hi, if_neg (Ne.symm (hcl d hd2).2)]
    rw [set_getD hi] at hl
    split at hl
    · rename_i h1; rw [(hcl d hd2).1 (.inl h1.symm)]; exact hal
    · exact h.ord d hd2 hl
  · rw [set_getD hi, if_neg (Ne.symm (hcl d hd2).2)] at hl
    by_cases hdc : d = c
    · subst hdc
      exact ⟨b0, hb, q2, d.V, hw, rfl, fun _ => rfl⟩
    · have hne : d.dst ≠ c.dst := fun h1 => hdc ((hcl d hd2).1 (.inr h1))
      obtain ⟨b1, r1, r2, blk1, r3, r4, r5⟩ := h.cells d hd2 hl
      have hb1 := h.dist d hd2 c hc hne hl hal b1 b0 r1 hb
      refine ⟨b1, r1, r2, blk1, by rw [ho.block b1 hb1]; exact r3, r4, fun hst => r5 ?_⟩
      rw [set_getD hi, if_neg] at hst
      · exact hst
      · intro h1; exact hdc ((hcl d hd2).1 (.inl h1.symm))
  · rw [set_getD hi, if_neg (Ne.symm (hcl d hd2).2)] at h1
    rw [set_getD hi, if_neg (Ne.symm (hcl d' hd3).2)] at h2
    exact h.dist d hd2 d' hd3 hdd h1 h2 b b' h3 h4
end
theorem calls_of_summ {f : FuncId} {S : Summ} (hs : SoundFn P f S) {vs rs : List TV} {h : Heap} (he : S vs h (fun rs _ => some (rs, [])) = some (rs, [])) {m : GM} {w : World} {cvs : List Value}
    (hi : Inv (Ctx.of w fun _ => False) m h w) (hx : TVs m vs cvs) : Calls P f cvs.toArray w fun e w' => ∃ v t, e = .returned v ∧ ResRel (m ++ t) rs v ∧ Ext w w' := by
  refine (hs.ok vs h _ _ he _ m w cvs rfl rfl rfl hi hx).mono ?_
  rintro e w' ⟨rs', h', hk, v, t, rfl, hr, hi'⟩
  simp only [Option.some.injEq, Prod.mk.injEq, and_true] at hk
  subst hk
  exact ⟨v, t, rfl, hr, hi'.str, hi'.size, fun b hb => hi'.frame b hb (fun h => h)⟩
end
end Go.Proofs.YtlgopekjjkdkiaaGreatDoor.Ev
end