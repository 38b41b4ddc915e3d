/- Merged: EvF150v9953, EvF96v3384, EvF34v3384, EvF153, EvF101, EvF192, EvF154, EvF102, EvF100, EvF38, EvF5, EvF175, EvF124, EvF112, EvF140, EvF74, EvF143, PureW, DiskN, EvF64, DiskM, RecA, EvF128, EvF168, RecB, RecC, EvF142, NumA, NumC, NumD, GeoA, EvF129, GeoQ, EvF130, EvF132, EvF133, EvF65, EvF134, EvF66, CowA, CowB, EvF73, CowC, EvF217, EvF201, EvF165, GeoB, EvF106, EvF170, GeoC, GeoD. -/
import Derived.Test.YtlgopekjjkdkiaaGreatDoorMRollBackCard3
import Derived.Test.YtlgopekjjkdkiaaGreatDoorProg
import Derived.KernelRfl
import Derived.Test.YtlgopekjjkdkiaaGreatDoorMRollBackCard4
section
namespace Go.Proofs.YtlgopekjjkdkiaaGreatDoor.X
open Go Go.Proofs.YtlgopekjjkdkiaaGreatDoor.Ev Go.Proofs
set_option linter.unusedVariables false
set_option linter.unusedSectionVars false
section
noncomputable def f150_9953 {β : Type} (F : Nat) (a1 a2 a3 a4 a5 a6 a7 a8 a9 : Int) (a10 : ByteArray) (K0 : Option β) : Option β := f92_1 F a1 a2 a3 a4 a5 (fun x1 x2 => f37_6206 F x1 (K0) ) 
variable [FZ]
def sh150_9953 : Sh := ⟨[.lf (.nilp), .agg [.int .i64, .int .i64, .int .i64, .int .i64], .lf (.int .i64), .lf (.int .u64), .agg [.int .u64, .int .u64, .int .i64, .str]], []⟩
abbrev Y150_9953 := Int → Int → Int → Int → Int → Int → Int → Int → Int → ByteArray → (Option Res) → Option Res
noncomputable def A150_9953 (g : Y150_9953) (d : sh150_9953.den) (K : KF) : Option Res := g d.1.2.1.1 d.1.2.1.2.1 d.1.2.1.2.2.1 d.1.2.1.2.2.2.1 d.1.2.2.1 d.1.2.2.2.1 d.1.2.2.2.2.1.1 d.1.2.2.2.2.1.2.1 d.1.2.2.2.2.1.2.2.1 d.1.2.2.2.2.1.2.2.2.1 (K [.agg [.int .u64 0, .int .u64 0, .int .i64 0, .str ByteArray.empty], .lf (.bool false), .lf (.int .i64 1)] [])
noncomputable def S150_9953 (F : Nat) (o : Summ) : Summ := mkS sh150_9953 (fun d K => A150_9953 (f150_9953 F) d K) o
noncomputable def T150_9953 (F : Nat) : FuncId → Option Summ := tab [(37, (S37_6206 F noS)), (92, (S92_1 F noS))]
noncomputable def LT150_9953 (F : Nat) : Nat → Option LoopS := ltab []
theorem E150_9953 (F : Nat) (d : sh150_9953.den) (K : KF) : EB Tryz.prog (T150_9953 F) (xw []) 126 0 (LT150_9953 F) [] false Tryz.f150 sh150_9953 d K = A150_9953 (f150_9953 F) d K := by delta A150_9953 f150_9953 T150_9953 S37_6206 S92_1 LT150_9953;  generalize (f37_6206 F : Y37_6206) = c, (f92_1 F : Y92_1) = c; as_aux_lemma => kernel_rfl
theorem S150_9953_ok : So Tryz.prog 150 S150_9953 :=
  fun F o ho => sOf (fn := Tryz.f150) (c := code150) (tab_cons (S37_6206_ok F _ (noS_sound enter37)) (tab_cons (S92_1_ok F _ (noS_sound enter92)) tab_nil)) ho lnil snil rnil (E150_9953 F)
end
section
noncomputable def f96_3384 {β : Type} (F : Nat) (a1 a2 a3 a4 a5 : Int) (K0 : Option β) : Option β := K0
variable [FZ]
def sh96_3384 : Sh := ⟨[.lf (.nilp), .agg [.int .i64, .int .i64, .int .i64, .int .i64], .lf (.int .u64)], []⟩
abbrev Y96_3384 := Int → Int → Int → Int → Int → (Option Res) → Option Res
noncomputable def A96_3384 (g : Y96_3384) (d : sh96_3384.den) (K : KF) : Option Res := g d.1.2.1.1 d.1.2.1.2.1 d.1.2.1.2.2.1 d.1.2.1.2.2.2.1 d.1.2.2.1 (K [.lf (.clo 149 [0, 1, 2])] [some ⟨false, [.int .i64 d.1.2.1.1, .int .i64 d.1.2.1.2.1, .int .i64 d.1.2.1.2.2.1, .int .i64 d.1.2.1.2.2.2.1]⟩, some ⟨false, [.nilp]⟩, some ⟨false, [.int .u64 d.1.2.2.1]⟩])
noncomputable def S96_3384 (F : Nat) (o : Summ) : Summ := mkS sh96_3384 (fun d K => A96_3384 (f96_3384 F) d K) o
noncomputable def T96_3384 (F : Nat) : FuncId → Option Summ := tab []
noncomputable def LT96_3384 (F : Nat) : Nat → Option LoopS := ltab []
theorem E96_3384 (F : Nat) (d : sh96_3384.den) (K : KF) : EB Tryz.prog (T96_3384 F) (xw []) 8 0 (LT96_3384 F) [] false Tryz.f96 sh96_3384 d K = A96_3384 (f96_3384 F) d K := by delta A96_3384 f96_3384 T96_3384 LT96_3384;   as_aux_lemma => kernel_rfl
theorem S96_3384_ok : So Tryz.prog 96 S96_3384 :=
  fun F o ho => sOf (fn := Tryz.f96) (c := code96) tab_nil ho lnil snil rnil (E96_3384 F)
end
section
noncomputable def f34_3384_r2000005_l2 {β : Type} (F : Nat) (v10 v11 : Int) (v12 : List (Int × (Int × (Int × ByteArray)))) (v13 : Int) (v14 : List (Int × (Int × (Int × ByteArray)))) (v15 v16 v17 v18 v19 v20 v21 v22 : Int) (v23 : ByteArray) (K0 K1 : Option β) : Nat → Option β
  | 0 => none
  | k + 1 => cond (decide (v11 < v10)) (f150_9953 F v15 v16 v17 v18 v11 v19 v20 v21 v22 v23 (K0) ) (K1)
noncomputable def f34_3384_r2000005 {β : Type} (F : Nat) (v2 : List (Int × (Int × (Int × ByteArray)))) (v3 : Int) (v4 : List (Int × (Int × (Int × ByteArray)))) (v5 v6 v7 v8 v9 : Int) (K0 K1 : Option β) : Option β := f34_3384_r2000005_l2 F v8 0 v2 v3 v4 v5 v6 v7 v8 v9 0 0 0 ByteArray.empty (K0) (K1) F
noncomputable def f34_3384 {β : Type} (F : Nat) (a1 a2 a3 a4 a5 : Int) (K0 : Int → List (Int × (Int × (Int × ByteArray))) → Option β) : Option β := f90_1 F a1 a2 a3 a4 (fun x1 => cond (!x1) (K0 12 []) (f96_3384 F a1 a2 a3 a4 a5 (f34_3384_r2000005 F [] 0 [] a1 a2 a3 a4 a5 (K0 1 []) (K0 0 []) ) )) 
variable [FZ]
def sh34_3384 : Sh := ⟨[.lf (.nilp), .agg [.int .i64, .int .i64, .int .i64, .int .i64], .lf (.int .u64)], []⟩
abbrev Y34_3384 := Int → Int → Int → Int → Int → (Int → List (Int × (Int × (Int × ByteArray))) → Option Res) → Option Res
noncomputable def A34_3384 (g : Y34_3384) (d : sh34_3384.den) (K : KF) : Option Res := g d.1.2.1.1 d.1.2.1.2.1 d.1.2.1.2.2.1 d.1.2.1.2.2.2.1 d.1.2.2.1 (fun y0 y1 => K [.lf (.full 0), .lf (.int .i64 y0)] [some ⟨false, [.seq (.pair (.int .u64) (.pair (.int .u64) (.pair (.int .i64) .str))) 0 y1]⟩])
noncomputable def S34_3384 (F : Nat) (o : Summ) : Summ := mkS sh34_3384 (fun d K => A34_3384 (f34_3384 F) d K) o
noncomputable def T34_3384 (F : Nat) : FuncId → Option Summ := tab [(90, (S90_1 F noS)), (96, (S96_3384 F noS)), (150, (S150_9953 F noS))]
def sh34_3384_l2000005 : Sh := ⟨[.lf (.ptr 0 0), .lf (.ptr 2 0), .lf (.ptr 3 0), .lf (.clo 149 [5, 6, 7])], [some ⟨some false, [.full 1]⟩, some ⟨some false, [.seq (.pair (.int .u64) (.pair (.int .u64) (.pair (.int .i64) .str))) 0]⟩, some ⟨some false, [.int .i64]⟩, some ⟨some false, [.full 4]⟩, some ⟨some false, [.seq (.pair (.int .u64) (.pair (.int .u64) (.pair (.int .i64) .str))) 0]⟩, some ⟨some false, [.int .i64, .int .i64, .int .i64, .int .i64]⟩, some ⟨some false, [.nilp]⟩, some ⟨some false, [.int .u64]⟩]⟩
noncomputable def G34_3384_2000005 (F k : Nat) : LoopS := mkG sh34_3384_l2000005 [6, 7, 8, 17] (outT [(.normal, [6, 7, 8]), (.ret, [6, 7])]) (fun d K => f34_3384_r2000005 F d.2.2.1.2.1 d.2.2.2.1.2.1 d.2.2.2.2.2.1.2.1 d.2.2.2.2.2.2.1.2.1 d.2.2.2.2.2.2.1.2.2.1 d.2.2.2.2.2.2.1.2.2.2.1 d.2.2.2.2.2.2.1.2.2.2.2.1 d.2.2.2.2.2.2.2.2.1.2.1 (K .ret [.tv (.lf (.ptr 0 0)), .tv (.lf (.ptr 2 0))] [some ⟨false, [.nils (some (.pair (.int .u64) (.pair (.int .u64) (.pair (.int .i64) .str))))]⟩, some ⟨false, [.seq (.pair (.int .u64) (.pair (.int .u64) (.pair (.int .i64) .str))) 0 d.2.2.1.2.1]⟩, some ⟨false, [.int .i64 1]⟩, some ⟨false, [.full 4]⟩, some ⟨false, [.seq (.pair (.int .u64) (.pair (.int .u64) (.pair (.int .i64) .str))) 0 d.2.2.2.2.2.1.2.1]⟩, some ⟨false, [.int .i64 d.2.2.2.2.2.2.1.2.1, .int .i64 d.2.2.2.2.2.2.1.2.2.1, .int .i64 d.2.2.2.2.2.2.1.2.2.2.1, .int .i64 d.2.2.2.2.2.2.1.2.2.2.2.1]⟩, some ⟨false, [.nilp]⟩, some ⟨false, [.int .u64 d.2.2.2.2.2.2.2.2.1.2.1]⟩, none, none, none, none, some ⟨false, [.int .u64 0, .int .u64 0, .int .i64 0, .str ByteArray.empty]⟩, some ⟨false, [.int .u64 0, .int .u64 0, .int .i64 0, .str ByteArray.empty]⟩, some ⟨false, [.int .u64 0, .int .u64 0, .int .i64 0, .str ByteArray.empty]⟩]) (K .normal [.tv (.lf (.ptr 0 0)), .tv (.lf (.ptr 2 0)), .tv (.lf (.ptr 3 0))] [some ⟨false, [.full 1]⟩, some ⟨false, [.seq (.pair (.int .u64) (.pair (.int .u64) (.pair (.int .i64) .str))) 0 d.2.2.1.2.1]⟩, some ⟨false, [.int .i64 d.2.2.2.1.2.1]⟩, some ⟨false, [.full 4]⟩, some ⟨false, [.seq (.pair (.int .u64) (.pair (.int .u64) (.pair (.int .i64) .str))) 0 d.2.2.2.2.2.1.2.1]⟩, some ⟨false, [.int .i64 d.2.2.2.2.2.2.1.2.1, .int .i64 d.2.2.2.2.2.2.1.2.2.1, .int .i64 d.2.2.2.2.2.2.1.2.2.2.1, .int .i64 d.2.2.2.2.2.2.1.2.2.2.2.1]⟩, some ⟨false, [.nilp]⟩, some ⟨false, [.int .u64 d.2.2.2.2.2.2.2.2.1.2.1]⟩, none, none, none, none, some ⟨false, [.int .u64 0, .int .u64 0, .int .i64 0, .str ByteArray.empty]⟩])) []
noncomputable def LT34_3384 (F : Nat) : Nat → Option LoopS := ltab [(2000005, G34_3384_2000005 F F)]
noncomputable def ic34_3384_2000005 : Code := bodyOf Tryz.f149
noncomputable def ic34_3384_2000005_b0 : Code := cB (cB (cR (cR (ic34_3384_2000005))))
theorem ic34_3384_2000005_loops : loopsOf ic34_3384_2000005 = [ic34_3384_2000005_b0] := by kernel_rfl
theorem ic34_3384_2000005_scopes : scopesOf ic34_3384_2000005 = [] := by kernel_rfl
def sh34_3384_r2000005_l2 : Sh := ⟨[.lf (.yld 8), .lf (.ptr 5 0), .lf (.ptr 6 0), .lf (.ptr 7 0), .lf (.ptr 12 0), .lf (.int .i64), .lf (.int .i64)], [some ⟨some false, [.full 1]⟩, some ⟨some false, [.seq (.pair (.int .u64) (.pair (.int .u64) (.pair (.int .i64) .str))) 0]⟩, some ⟨some false, [.int .i64]⟩, some ⟨some false, [.full 4]⟩, some ⟨some false, [.seq (.pair (.int .u64) (.pair (.int .u64) (.pair (.int .i64) .str))) 0]⟩, some ⟨some false, [.int .i64, .int .i64, .int .i64, .int .i64]⟩, some ⟨some false, [.nilp]⟩, some ⟨some false, [.int .u64]⟩, some ⟨some false, []⟩, none, none, some ⟨some false, []⟩, some ⟨some false, [.int .u64, .int .u64, .int .i64, .str]⟩]⟩
noncomputable def GI34_3384_2000005_2 (F : Nat) (d : sh34_3384_l2000005.den) (k : Nat) : LoopS := mkG sh34_3384_r2000005_l2 [0, 1, 2, 3, 5, 11, 12] (outT [(.exit 0, []), (.ret, [])]) (fun e K => f34_3384_r2000005_l2 F e.1.2.2.2.2.2.1 e.1.2.2.2.2.2.2.1 e.2.2.1.2.1 e.2.2.2.1.2.1 e.2.2.2.2.2.1.2.1 e.2.2.2.2.2.2.1.2.1 e.2.2.2.2.2.2.1.2.2.1 e.2.2.2.2.2.2.1.2.2.2.1 e.2.2.2.2.2.2.1.2.2.2.2.1 e.2.2.2.2.2.2.2.2.1.2.1 e.2.2.2.2.2.2.2.2.2.2.2.2.2.1.2.1 e.2.2.2.2.2.2.2.2.2.2.2.2.2.1.2.2.1 e.2.2.2.2.2.2.2.2.2.2.2.2.2.1.2.2.2.1 e.2.2.2.2.2.2.2.2.2.2.2.2.2.1.2.2.2.2.1 (K .ret [] [some ⟨false, [.nils (some (.pair (.int .u64) (.pair (.int .u64) (.pair (.int .i64) .str))))]⟩, some ⟨false, [.seq (.pair (.int .u64) (.pair (.int .u64) (.pair (.int .i64) .str))) 0 e.2.2.1.2.1]⟩, some ⟨false, [.int .i64 1]⟩, some ⟨false, [.full 4]⟩, some ⟨false, [.seq (.pair (.int .u64) (.pair (.int .u64) (.pair (.int .i64) .str))) 0 e.2.2.2.2.2.1.2.1]⟩, some ⟨false, [.int .i64 e.2.2.2.2.2.2.1.2.1, .int .i64 e.2.2.2.2.2.2.1.2.2.1, .int .i64 e.2.2.2.2.2.2.1.2.2.2.1, .int .i64 e.2.2.2.2.2.2.1.2.2.2.2.1]⟩, some ⟨false, [.nilp]⟩, some ⟨false, [.int .u64 e.2.2.2.2.2.2.2.2.1.2.1]⟩, none, none, some ⟨false, []⟩, some ⟨false, []⟩, some ⟨false, [.int .u64 e.2.2.2.2.2.2.2.2.2.2.2.2.2.1.2.1, .int .u64 e.2.2.2.2.2.2.2.2.2.2.2.2.2.1.2.2.1, .int .i64 e.2.2.2.2.2.2.2.2.2.2.2.2.2.1.2.2.2.1, .str e.2.2.2.2.2.2.2.2.2.2.2.2.2.1.2.2.2.2.1]⟩, some ⟨false, [.int .u64 0, .int .u64 0, .int .i64 0, .str ByteArray.empty]⟩, some ⟨false, [.int .u64 0, .int .u64 0, .int .i64 0, .str ByteArray.empty]⟩]) (K (.exit 0) [] [some ⟨false, [.full 1]⟩, some ⟨false, [.seq (.pair (.int .u64) (.pair (.int .u64) (.pair (.int .i64) .str))) 0 e.2.2.1.2.1]⟩, some ⟨false, [.int .i64 e.2.2.2.1.2.1]⟩, some ⟨false, [.full 4]⟩, some ⟨false, [.seq (.pair (.int .u64) (.pair (.int .u64) (.pair (.int .i64) .str))) 0 e.2.2.2.2.2.1.2.1]⟩, some ⟨false, [.int .i64 e.2.2.2.2.2.2.1.2.1, .int .i64 e.2.2.2.2.2.2.1.2.2.1, .int .i64 e.2.2.2.2.2.2.1.2.2.2.1, .int .i64 e.2.2.2.2.2.2.1.2.2.2.2.1]⟩, some ⟨false, [.nilp]⟩, some ⟨false, [.int .u64 e.2.2.2.2.2.2.2.2.1.2.1]⟩, some ⟨false, []⟩, none, none, some ⟨false, []⟩, some ⟨false, [.int .u64 e.2.2.2.2.2.2.2.2.2.2.2.2.2.1.2.1, .int .u64 e.2.2.2.2.2.2.2.2.2.2.2.2.2.1.2.2.1, .int .i64 e.2.2.2.2.2.2.2.2.2.2.2.2.2.1.2.2.2.1, .str e.2.2.2.2.2.2.2.2.2.2.2.2.2.1.2.2.2.2.1]⟩]) k) []
noncomputable def it34_3384_2000005 (F : Nat) (d : sh34_3384_l2000005.den) : Nat → Option LoopS := ltab [(2, GI34_3384_2000005_2 F d F)]
theorem LI34_3384_2000005_2 (F : Nat) (d : sh34_3384_l2000005.den) : LoopOK Tryz.prog (T34_3384 F) ⟨[], false, some (yieldOf Tryz.prog (T34_3384 F) [] 28 noLT (mkEnv 28 [6, 7, 8, 17] (avsOf (encT sh34_3384_l2000005.vs d.1))) (rgP rg34_0).toList (rgX rg34_0) (rgY rg34_0) .ret 8), noJn⟩ 38 12 (it34_3384_2000005 F d) (GI34_3384_2000005_2 F d F) ic34_3384_2000005_b0 :=
  loopOK_of (s := sh34_3384_r2000005_l2) (live := [0, 1, 2, 3, 5, 11, 12]) (out := (outT [(.exit 0, []), (.ret, [])])) (mv := []) (fun k e K => f34_3384_r2000005_l2 F e.1.2.2.2.2.2.1 e.1.2.2.2.2.2.2.1 e.2.2.1.2.1 e.2.2.2.1.2.1 e.2.2.2.2.2.1.2.1 e.2.2.2.2.2.2.1.2.1 e.2.2.2.2.2.2.1.2.2.1 e.2.2.2.2.2.2.1.2.2.2.1 e.2.2.2.2.2.2.1.2.2.2.2.1 e.2.2.2.2.2.2.2.2.1.2.1 e.2.2.2.2.2.2.2.2.2.2.2.2.2.1.2.1 e.2.2.2.2.2.2.2.2.2.2.2.2.2.1.2.2.1 e.2.2.2.2.2.2.2.2.2.2.2.2.2.1.2.2.2.1 e.2.2.2.2.2.2.2.2.2.2.2.2.2.1.2.2.2.2.1 (K .ret [] [some ⟨false, [.nils (some (.pair (.int .u64) (.pair (.int .u64) (.pair (.int .i64) .str))))]⟩, some ⟨false, [.seq (.pair (.int .u64) (.pair (.int .u64) (.pair (.int .i64) .str))) 0 e.2.2.1.2.1]⟩, some ⟨false, [.int .i64 1]⟩, some ⟨false, [.full 4]⟩, some ⟨false, [.seq (.pair (.int .u64) (.pair (.int .u64) (.pair (.int .i64) .str))) 0 e.2.2.2.2.2.1.2.1]⟩, some ⟨false, [.int .i64 e.2.2.2.2.2.2.1.2.1, .int .i64 e.2.2.2.2.2.2.1.2.2.1, .int .i64 e.2.2.2.2.2.2.1.2.2.2.1, .int .i64 e.2.2.2.2.2.2.1.2.2.2.2.1]⟩, some ⟨false, [.nilp]⟩, some ⟨false, [.int .u64 e.2.2.2.2.2.2.2.2.1.2.1]⟩, none, none, some ⟨false, []⟩, some ⟨false, []⟩, some ⟨false, [.int .u64 e.2.2.2.2.2.2.2.2.2.2.2.2.2.1.2.1, .int .u64 e.2.2.2.2.2.2.2.2.2.2.2.2.2.1.2.2.1, .int .i64 e.2.2.2.2.2.2.2.2.2.2.2.2.2.1.2.2.2.1, .str e.2.2.2.2.2.2.2.2.2.2.2.2.2.1.2.2.2.2.1]⟩, some ⟨false, [.int .u64 0, .int .u64 0, .int .i64 0, .str ByteArray.empty]⟩, some ⟨false, [.int .u64 0, .int .u64 0, .int .i64 0, .str ByteArray.empty]⟩]) (K (.exit 0) [] [some ⟨false, [.full 1]⟩, some ⟨false, [.seq (.pair (.int .u64) (.pair (.int .u64) (.pair (.int .i64) .str))) 0 e.2.2.1.2.1]⟩, some ⟨false, [.int .i64 e.2.2.2.1.2.1]⟩, some ⟨false, [.full 4]⟩, some ⟨false, [.seq (.pair (.int .u64) (.pair (.int .u64) (.pair (.int .i64) .str))) 0 e.2.2.2.2.2.1.2.1]⟩, some ⟨false, [.int .i64 e.2.2.2.2.2.2.1.2.1, .int .i64 e.2.2.2.2.2.2.1.2.2.1, .int .i64 e.2.2.2.2.2.2.1.2.2.2.1, .int .i64 e.2.2.2.2.2.2.1.2.2.2.2.1]⟩, some ⟨false, [.nilp]⟩, some ⟨false, [.int .u64 e.2.2.2.2.2.2.2.2.1.2.1]⟩, some ⟨false, []⟩, none, none, some ⟨false, []⟩, some ⟨false, [.int .u64 e.2.2.2.2.2.2.2.2.2.2.2.2.2.1.2.1, .int .u64 e.2.2.2.2.2.2.2.2.2.2.2.2.2.1.2.2.1, .int .i64 e.2.2.2.2.2.2.2.2.2.2.2.2.2.1.2.2.2.1, .str e.2.2.2.2.2.2.2.2.2.2.2.2.2.1.2.2.2.2.1]⟩]) k) F (fun e K => by kernel_rfl) (fun k e K => by refine (f34_3384_r2000005_l2.eq_2 ..).trans ?_; delta T34_3384 S90_1 S96_3384 S150_9953 it34_3384_2000005; generalize (GI34_3384_2000005_2 F d F) = c;  (try delta GI34_3384_2000005_2); generalize (f90_1 F : Y90_1) = c, (f96_3384 F : Y96_3384) = c, (f150_9953 F : Y150_9953) = c, (f34_3384_r2000005_l2 F : Int → Int → List (Int × (Int × (Int × ByteArray))) → Int → List (Int × (Int × (Int × ByteArray))) → Int → Int → Int → Int → Int → Int → Int → Int → ByteArray → (Option Res) → (Option Res) → Nat → Option Res) = c; as_aux_lemma => kernel_rfl)
theorem R34_3384_2000005 (F : Nat) : RangeOK Tryz.prog (xw []) 28 0 (G34_3384_2000005 F F) (.rangeFunc (rgG rg34_0) (rgP rg34_0) (rgX rg34_0) (rgY rg34_0)) :=
  rangeOK_of (X := (xw [])) (jump := .ret) (fun h => by cases h) rfl rfl (by kernel_rfl) (tab_cons (S90_1_ok F _ (noS_sound enter90)) (tab_cons (S96_3384_ok F _ (noS_sound enter96)) (tab_cons (S150_9953_ok F _ (noS_sound enter150)) tab_nil))) (s := sh34_3384_l2000005) (live := [6, 7, 8, 17]) (out := (outT [(.normal, [6, 7, 8]), (.ret, [6, 7])])) (fun d K => f34_3384_r2000005 F d.2.2.1.2.1 d.2.2.2.1.2.1 d.2.2.2.2.2.1.2.1 d.2.2.2.2.2.2.1.2.1 d.2.2.2.2.2.2.1.2.2.1 d.2.2.2.2.2.2.1.2.2.2.1 d.2.2.2.2.2.2.1.2.2.2.2.1 d.2.2.2.2.2.2.2.2.1.2.1 (K .ret [.tv (.lf (.ptr 0 0)), .tv (.lf (.ptr 2 0))] [some ⟨false, [.nils (some (.pair (.int .u64) (.pair (.int .u64) (.pair (.int .i64) .str))))]⟩, some ⟨false, [.seq (.pair (.int .u64) (.pair (.int .u64) (.pair (.int .i64) .str))) 0 d.2.2.1.2.1]⟩, some ⟨false, [.int .i64 1]⟩, some ⟨false, [.full 4]⟩, some ⟨false, [.seq (.pair (.int .u64) (.pair (.int .u64) (.pair (.int .i64) .str))) 0 d.2.2.2.2.2.1.2.1]⟩, some ⟨false, [.int .i64 d.2.2.2.2.2.2.1.2.1, .int .i64 d.2.2.2.2.2.2.1.2.2.1, .int .i64 d.2.2.2.2.2.2.1.2.2.2.1, .int .i64 d.2.2.2.2.2.2.1.2.2.2.2.1]⟩, some ⟨false, [.nilp]⟩, some ⟨false, [.int .u64 d.2.2.2.2.2.2.2.2.1.2.1]⟩, none, none, none, none, some ⟨false, [.int .u64 0, .int .u64 0, .int .i64 0, .str ByteArray.empty]⟩, some ⟨false, [.int .u64 0, .int .u64 0, .int .i64 0, .str ByteArray.empty]⟩, some ⟨false, [.int .u64 0, .int .u64 0, .int .i64 0, .str ByteArray.empty]⟩]) (K .normal [.tv (.lf (.ptr 0 0)), .tv (.lf (.ptr 2 0)), .tv (.lf (.ptr 3 0))] [some ⟨false, [.full 1]⟩, some ⟨false, [.seq (.pair (.int .u64) (.pair (.int .u64) (.pair (.int .i64) .str))) 0 d.2.2.1.2.1]⟩, some ⟨false, [.int .i64 d.2.2.2.1.2.1]⟩, some ⟨false, [.full 4]⟩, some ⟨false, [.seq (.pair (.int .u64) (.pair (.int .u64) (.pair (.int .i64) .str))) 0 d.2.2.2.2.2.1.2.1]⟩, some ⟨false, [.int .i64 d.2.2.2.2.2.2.1.2.1, .int .i64 d.2.2.2.2.2.2.1.2.2.1, .int .i64 d.2.2.2.2.2.2.1.2.2.2.1, .int .i64 d.2.2.2.2.2.2.1.2.2.2.2.1]⟩, some ⟨false, [.nilp]⟩, some ⟨false, [.int .u64 d.2.2.2.2.2.2.2.2.1.2.1]⟩, none, none, none, none, some ⟨false, [.int .u64 0, .int .u64 0, .int .i64 0, .str ByteArray.empty]⟩])) (it34_3384_2000005 F) (f := 149) (fn := Tryz.f149) (c := ic34_3384_2000005) (wrI := []) (enter_of (fn := Tryz.f149) (by kernel_rfl) (by kernel_rfl) (by kernel_rfl)) (by kernel_rfl) (by kernel_rfl) (by kernel_rfl) (fun d K => by delta f34_3384_r2000005 T34_3384 S90_1 S96_3384 S150_9953 it34_3384_2000005;  delta GI34_3384_2000005_2; generalize (f90_1 F : Y90_1) = c, (f96_3384 F : Y96_3384) = c, (f150_9953 F : Y150_9953) = c, (f34_3384_r2000005_l2 F : Int → Int → List (Int × (Int × (Int × ByteArray))) → Int → List (Int × (Int × (Int × ByteArray))) → Int → Int → Int → Int → Int → Int → Int → Int → ByteArray → (Option Res) → (Option Res) → Nat → Option Res) = c; as_aux_lemma => kernel_rfl) (fun d => by rw [ic34_3384_2000005_loops]; exact (loopsOK_cons (by kernel_rfl) (LI34_3384_2000005_2 F d) loopsOK_nil)) (fun d => by rw [ic34_3384_2000005_scopes]; exact scopesOK_nil) (by kernel_rfl)
theorem E34_3384 (F : Nat) (d : sh34_3384.den) (K : KF) : EB Tryz.prog (T34_3384 F) (xw []) 28 0 (LT34_3384 F) [] false Tryz.f34 sh34_3384 d K = A34_3384 (f34_3384 F) d K := by delta A34_3384 f34_3384 T34_3384 S90_1 S96_3384 S150_9953 LT34_3384;  delta G34_3384_2000005; generalize (f90_1 F : Y90_1) = c, (f96_3384 F : Y96_3384) = c, (f150_9953 F : Y150_9953) = c, (f34_3384_r2000005 F : List (Int × (Int × (Int × ByteArray))) → Int → List (Int × (Int × (Int × ByteArray))) → Int → Int → Int → Int → Int → (Option Res) → (Option Res) → Option Res) = c; as_aux_lemma => kernel_rfl
theorem S34_3384_ok : So Tryz.prog 34 S34_3384 :=
  fun F o ho => sOf (fn := Tryz.f34) (c := code34) (tab_cons (S90_1_ok F _ (noS_sound enter90)) (tab_cons (S96_3384_ok F _ (noS_sound enter96)) (tab_cons (S150_9953_ok F _ (noS_sound enter150)) tab_nil))) ho lnil snil (by rw [ranges34]; exact (rangesOK_cons (by kernel_rfl) (R34_3384_2000005 F) rangesOK_nil)) (E34_3384 F)
end
section
noncomputable def f153_1_l6 {β : Type} (F : Nat) (v1 : Int) (v3 : List Int) (K0 : List Int → Option β) : Nat → Int → List Int → Option β
  | 0, _, _ => none
  | k + 1, v2, v4 => cond (decide (v2 ≥ 0)) (cond (decide (IntKind.u64.wrap (IntKind.i64.wrap (8 * v2)) < 0)) none (cond (decide ((v4.length + 1) * 1 ≤ 70368744177664)) (f153_1_l6 F v1 v3 K0 k (IntKind.i64.wrap (v2 - 1)) (v4 ++ [IntKind.u8.wrap (ishr .u64 v1 (IntKind.u64.wrap (IntKind.i64.wrap (8 * v2))))])) none)) (K0 v4)
noncomputable def f153_1 {β : Type} (F : Nat) (a1 a2 : Int) (a3 : List Int) (K0 : List Int → Option β) : Option β := cond (decide (a3.length * 1 ≤ 70368744177664)) (cond (decide (a1 < 1)) (K0 a3) (cond (decide (a1 > 8)) (K0 a3) (f153_1_l6 F a2 a3 (fun x5 => K0 x5) F (IntKind.i64.wrap (a1 - 1)) a3))) none
variable [FZ]
def sh153_1 : Sh := ⟨[.lf (.full 0), .lf (.int .i64), .lf (.int .u64)], [some ⟨none, [.seq (.int .u8) 0]⟩]⟩
abbrev Y153_1 := Int → Int → List Int → (List Int → Option Res) → Option Res
noncomputable def A153_1 (g : Y153_1) (d : sh153_1.den) (K : KF) : Option Res := g d.1.2.1 d.1.2.2.1 d.2.1.2.1 (fun y1 => K [.lf (.full 1)] [some ⟨d.2.1.1, [.seq (.int .u8) 0 d.2.1.2.1]⟩, some ⟨false, [.seq (.int .u8) 0 y1]⟩])
noncomputable def S153_1 (F : Nat) (o : Summ) : Summ := mkS sh153_1 (fun d K => A153_1 (f153_1 F) d K) o
noncomputable def code153 : Code := bodyOf Tryz.f153
noncomputable def b153_0 : Code := cB (cB (cR (cL (cR (cR (cR (cR (code153))))))))
theorem loops153 : loopsOf code153 = [b153_0] := by kernel_rfl
theorem enter153 : En Tryz.prog 153 := enO (fn := Tryz.f153)
noncomputable def T153_1 (F : Nat) : FuncId → Option Summ := tab []
def sh153_1_l6 : Sh := ⟨[.lf (.int .u64), .lf (.full 1), .lf (.int .i64)], [some ⟨none, [.seq (.int .u8) 0]⟩, some ⟨some false, [.seq (.int .u8) 0]⟩]⟩
abbrev Y153_1_l6 := Int → List Int → (List Int → Option Res) → Nat → Int → List Int → Option Res
noncomputable def A153_1_l6 (g : Y153_1_l6) (k : Nat) (d : sh153_1_l6.den) (K : KL) : Option Res := g d.1.1 d.2.1.2.1 (fun y1 => K (.exit 0) [.tv (.lf (.full 1))] [some ⟨d.2.1.1, [.seq (.int .u8) 0 d.2.1.2.1]⟩, some ⟨false, [.seq (.int .u8) 0 y1]⟩]) k d.1.2.2.1 d.2.2.1.2.1
noncomputable def G153_1_6 (F k : Nat) : LoopS := mkG sh153_1_l6 [2, 7, 8] (outT [(.exit 0, [7])]) (fun d K => A153_1_l6 (f153_1_l6 F) k d K) []
noncomputable def LT153_1 (F : Nat) : Nat → Option LoopS := ltab [(6, G153_1_6 F F)]
theorem L153_1_6 (F : Nat) : LoopOK Tryz.prog (T153_1 F) (xw []) 35 1 (LT153_1 F) (G153_1_6 F F) b153_0 :=
  loopOK_of (s := sh153_1_l6) (live := [2, 7, 8]) (out := (outT [(.exit 0, [7])])) (mv := []) (fun k d K => A153_1_l6 (f153_1_l6 F) k d K) F (fun d K => by kernel_rfl)  (fun k d K => by delta A153_1_l6; refine (f153_1_l6.eq_2 ..).trans ?_; delta T153_1 LT153_1; generalize (G153_1_6 F F) = c;  (try delta G153_1_6); generalize (f153_1_l6 F : Y153_1_l6) = c; as_aux_lemma => kernel_rfl)
theorem E153_1 (F : Nat) (d : sh153_1.den) (K : KF) : EB Tryz.prog (T153_1 F) (xw []) 35 1 (LT153_1 F) [] false Tryz.f153 sh153_1 d K = A153_1 (f153_1 F) d K := by delta A153_1 f153_1 T153_1 LT153_1;  delta G153_1_6; generalize (f153_1_l6 F : Y153_1_l6) = c; as_aux_lemma => kernel_rfl
theorem S153_1_ok : So Tryz.prog 153 S153_1 :=
  fun F o ho => sOf (fn := Tryz.f153) (c := code153) tab_nil ho (by rw [loops153]; exact (loopsOK_cons (by kernel_rfl) (L153_1_6 F) loopsOK_nil)) snil rnil (E153_1 F)
end
section
noncomputable def f101_1 {β : Type} (F : Nat) (a1 a2 : Int) (K0 : ByteArray → Option β) : Option β := f153_1 F a1 a2 [] (fun x1 => K0 (ofInts x1)) 
variable [FZ]
def sh101_1 : Sh := ⟨[.lf (.int .i64), .lf (.int .u64)], []⟩
abbrev Y101_1 := Int → Int → (ByteArray → Option Res) → Option Res
noncomputable def A101_1 (g : Y101_1) (d : sh101_1.den) (K : KF) : Option Res := g d.1.1 d.1.2.1 (fun y0 => K [.lf (.str y0)] [])
noncomputable def S101_1 (F : Nat) (o : Summ) : Summ := mkS sh101_1 (fun d K => A101_1 (f101_1 F) d K) o
noncomputable def code101 : Code := bodyOf Tryz.f101
theorem enter101 : En Tryz.prog 101 := enO (fn := Tryz.f101)
noncomputable def T101_1 (F : Nat) : FuncId → Option Summ := tab [(153, (S153_1 F noS))]
noncomputable def LT101_1 (F : Nat) : Nat → Option LoopS := ltab []
theorem E101_1 (F : Nat) (d : sh101_1.den) (K : KF) : EB Tryz.prog (T101_1 F) (xw []) 9 0 (LT101_1 F) [] false Tryz.f101 sh101_1 d K = A101_1 (f101_1 F) d K := by delta A101_1 f101_1 T101_1 S153_1 LT101_1;  generalize (f153_1 F : Y153_1) = c; as_aux_lemma => kernel_rfl
theorem S101_1_ok : So Tryz.prog 101 S101_1 :=
  fun F o ho => sOf (fn := Tryz.f101) (c := code101) (tab_cons (S153_1_ok F _ (noS_sound enter153)) tab_nil) ho lnil snil rnil (E101_1 F)
end
section
noncomputable def f192_1_l3 {β : Type} (F : Nat)  (K0 : Int → Option β) : Nat → Int → Int → Option β
  | 0, _, _ => none
  | k + 1, v1, v2 => cond (decide (v2 < 8)) (cond ((v1.tmod 2) == 1) (f192_1_l3 F K0 k (ixor .u32 (IntKind.u32.wrap (v1.tdiv 2)) 2197175160) (IntKind.i64.wrap (v2 + 1))) (f192_1_l3 F K0 k (IntKind.u32.wrap (v1.tdiv 2)) (IntKind.i64.wrap (v2 + 1)))) (K0 v1)
noncomputable def f192_1 {β : Type} (F : Nat) (a1 : Int) (K0 : Int → Option β) : Option β := f192_1_l3 F  (fun x3 => K0 x3) F (IntKind.u32.wrap a1) 0
variable [FZ]
def sh192_1 : Sh := ⟨[.lf (.int .u8)], []⟩
abbrev Y192_1 := Int → (Int → Option Res) → Option Res
noncomputable def A192_1 (g : Y192_1) (d : sh192_1.den) (K : KF) : Option Res := g d.1.1 (fun y0 => K [.lf (.int .u32 y0)] [])
noncomputable def S192_1 (F : Nat) (o : Summ) : Summ := mkS sh192_1 (fun d K => A192_1 (f192_1 F) d K) o
noncomputable def code192 : Code := bodyOf Tryz.f192
noncomputable def b192_0 : Code := cB (cB (cR (cL (cR (cR (code192))))))
theorem loops192 : loopsOf code192 = [b192_0] := by kernel_rfl
theorem enter192 : En Tryz.prog 192 := enO (fn := Tryz.f192)
noncomputable def T192_1 (F : Nat) : FuncId → Option Summ := tab []
def sh192_1_l3 : Sh := ⟨[.lf (.int .u32), .lf (.int .i64)], []⟩
abbrev Y192_1_l3 := (Int → Option Res) → Nat → Int → Int → Option Res
noncomputable def A192_1_l3 (g : Y192_1_l3) (k : Nat) (d : sh192_1_l3.den) (K : KL) : Option Res := g (fun y0 => K (.exit 0) [.tv (.lf (.int .u32 y0))] []) k d.1.1 d.1.2.1
noncomputable def G192_1_3 (F k : Nat) : LoopS := mkG sh192_1_l3 [3, 4] (outT [(.exit 0, [3])]) (fun d K => A192_1_l3 (f192_1_l3 F) k d K) []
noncomputable def LT192_1 (F : Nat) : Nat → Option LoopS := ltab [(3, G192_1_3 F F)]
theorem L192_1_3 (F : Nat) : LoopOK Tryz.prog (T192_1 F) (xw []) 20 0 (LT192_1 F) (G192_1_3 F F) b192_0 :=
  loopOK_of (s := sh192_1_l3) (live := [3, 4]) (out := (outT [(.exit 0, [3])])) (mv := []) (fun k d K => A192_1_l3 (f192_1_l3 F) k d K) F (fun d K => by kernel_rfl)  (fun k d K => by delta A192_1_l3; refine (f192_1_l3.eq_2 ..).trans ?_; delta T192_1 LT192_1; generalize (G192_1_3 F F) = c;  (try delta G192_1_3); generalize (f192_1_l3 F : Y192_1_l3) = c; as_aux_lemma => kernel_rfl)
theorem E192_1 (F : Nat) (d : sh192_1.den) (K : KF) : EB Tryz.prog (T192_1 F) (xw []) 20 0 (LT192_1 F) [] false Tryz.f192 sh192_1 d K = A192_1 (f192_1 F) d K := by delta A192_1 f192_1 T192_1 LT192_1;  delta G192_1_3; generalize (f192_1_l3 F : Y192_1_l3) = c; as_aux_lemma => kernel_rfl
theorem S192_1_ok : So Tryz.prog 192 S192_1 :=
  fun F o ho => sOf (fn := Tryz.f192) (c := code192) tab_nil ho (by rw [loops192]; exact (loopsOK_cons (by kernel_rfl) (L192_1_3 F) loopsOK_nil)) snil rnil (E192_1 F)
end
section
noncomputable def f154_1_l3 {β : Type} (F : Nat) (v3 : List Int) (K0 : Int → Option β) : Nat → Int → Int → Option β
  | 0, _, _ => none
  | k + 1, v1, v2 => cond (decide (v2 < ((v3.length : Nat) : Int))) (cond (decide ((0 : Int) ≤ v2 ∧ v2 < ((v3.length : Nat) : Int))) (cond (decide (0 + v2.toNat < v3.length)) (f192_1 F (ixor .u8 (IntKind.u8.wrap v1) (v3.getD (0 + v2.toNat) 0)) (fun x4 => f154_1_l3 F v3 K0 k (ixor .u32 (IntKind.u32.wrap (v1.tdiv 256)) x4) (IntKind.i64.wrap (v2 + 1))) ) none) none) (K0 v1)
noncomputable def f154_1 {β : Type} (F : Nat) (a1 : Int) (a2 : List Int) (K0 : Int → Option β) : Option β := f154_1_l3 F a2 (fun x5 => K0 (ixor .u32 4294967295 x5)) F (ixor .u32 4294967295 a1) 0
variable [FZ]
def sh154_1 : Sh := ⟨[.lf (.int .u32), .lf (.full 0)], [some ⟨none, [.seq (.int .u8) 0]⟩]⟩
abbrev Y154_1 := Int → List Int → (Int → Option Res) → Option Res
noncomputable def A154_1 (g : Y154_1) (d : sh154_1.den) (K : KF) : Option Res := g d.1.1 d.2.1.2.1 (fun y0 => K [.lf (.int .u32 y0)] [some ⟨d.2.1.1, [.seq (.int .u8) 0 d.2.1.2.1]⟩])
noncomputable def S154_1 (F : Nat) (o : Summ) : Summ := mkS sh154_1 (fun d K => A154_1 (f154_1 F) d K) o
noncomputable def code154 : Code := bodyOf Tryz.f154
noncomputable def b154_0 : Code := cB (cB (cR (cL (cR (cR (code154))))))
theorem loops154 : loopsOf code154 = [b154_0] := by kernel_rfl
theorem enter154 : En Tryz.prog 154 := enO (fn := Tryz.f154)
noncomputable def T154_1 (F : Nat) : FuncId → Option Summ := tab [(192, (S192_1 F noS))]
def sh154_1_l3 : Sh := ⟨[.lf (.full 0), .lf (.int .u32), .lf (.int .i64)], [some ⟨none, [.seq (.int .u8) 0]⟩]⟩
abbrev Y154_1_l3 := List Int → (Int → Option Res) → Nat → Int → Int → Option Res
noncomputable def A154_1_l3 (g : Y154_1_l3) (k : Nat) (d : sh154_1_l3.den) (K : KL) : Option Res := g d.2.1.2.1 (fun y0 => K (.exit 0) [.tv (.lf (.int .u32 y0))] [some ⟨d.2.1.1, [.seq (.int .u8) 0 d.2.1.2.1]⟩]) k d.1.2.1 d.1.2.2.1
noncomputable def G154_1_3 (F k : Nat) : LoopS := mkG sh154_1_l3 [1, 5, 6] (outT [(.exit 0, [5])]) (fun d K => A154_1_l3 (f154_1_l3 F) k d K) []
noncomputable def LT154_1 (F : Nat) : Nat → Option LoopS := ltab [(3, G154_1_3 F F)]
theorem L154_1_3 (F : Nat) : LoopOK Tryz.prog (T154_1 F) (xw []) 28 1 (LT154_1 F) (G154_1_3 F F) b154_0 :=
  loopOK_of (s := sh154_1_l3) (live := [1, 5, 6]) (out := (outT [(.exit 0, [5])])) (mv := []) (fun k d K => A154_1_l3 (f154_1_l3 F) k d K) F (fun d K => by kernel_rfl)  (fun k d K => by delta A154_1_l3; refine (f154_1_l3.eq_2 ..).trans ?_; delta T154_1 S192_1 LT154_1; generalize (G154_1_3 F F) = c;  (try delta G154_1_3); generalize (f192_1 F : Y192_1) = c, (f154_1_l3 F : Y154_1_l3) = c; as_aux_lemma => kernel_rfl)
theorem E154_1 (F : Nat) (d : sh154_1.den) (K : KF) : EB Tryz.prog (T154_1 F) (xw []) 28 1 (LT154_1 F) [] false Tryz.f154 sh154_1 d K = A154_1 (f154_1 F) d K := by delta A154_1 f154_1 T154_1 S192_1 LT154_1;  delta G154_1_3; generalize (f192_1 F : Y192_1) = c, (f154_1_l3 F : Y154_1_l3) = c; as_aux_lemma => kernel_rfl
theorem S154_1_ok : So Tryz.prog 154 S154_1 :=
  fun F o ho => sOf (fn := Tryz.f154) (c := code154) (tab_cons (S192_1_ok F _ (noS_sound enter192)) tab_nil) ho (by rw [loops154]; exact (loopsOK_cons (by kernel_rfl) (L154_1_3 F) loopsOK_nil)) snil rnil (E154_1 F)
end
section
noncomputable def f102_1 {β : Type} (F : Nat) (a1 : List Int) (K0 : Int → Option β) : Option β := f154_1 F 0 a1 (fun x1 => K0 x1) 
variable [FZ]
def sh102_1 : Sh := ⟨[.lf (.full 0)], [some ⟨none, [.seq (.int .u8) 0]⟩]⟩
abbrev Y102_1 := List Int → (Int → Option Res) → Option Res
noncomputable def A102_1 (g : Y102_1) (d : sh102_1.den) (K : KF) : Option Res := g d.2.1.2.1 (fun y0 => K [.lf (.int .u32 y0)] [some ⟨d.2.1.1, [.seq (.int .u8) 0 d.2.1.2.1]⟩])
noncomputable def S102_1 (F : Nat) (o : Summ) : Summ := mkS sh102_1 (fun d K => A102_1 (f102_1 F) d K) o
noncomputable def code102 : Code := bodyOf Tryz.f102
theorem enter102 : En Tryz.prog 102 := enO (fn := Tryz.f102)
noncomputable def T102_1 (F : Nat) : FuncId → Option Summ := tab [(154, (S154_1 F noS))]
noncomputable def LT102_1 (F : Nat) : Nat → Option LoopS := ltab []
theorem E102_1 (F : Nat) (d : sh102_1.den) (K : KF) : EB Tryz.prog (T102_1 F) (xw []) 5 1 (LT102_1 F) [] false Tryz.f102 sh102_1 d K = A102_1 (f102_1 F) d K := by delta A102_1 f102_1 T102_1 S154_1 LT102_1;  generalize (f154_1 F : Y154_1) = c; as_aux_lemma => kernel_rfl
theorem S102_1_ok : So Tryz.prog 102 S102_1 :=
  fun F o ho => sOf (fn := Tryz.f102) (c := code102) (tab_cons (S154_1_ok F _ (noS_sound enter154)) tab_nil) ho lnil snil rnil (E102_1 F)
end
section
noncomputable def f100_1 {β : Type} (F : Nat) (a1 : Int) (a2 : ByteArray) (K0 : ByteArray → Int → Option β) : Option β := cond (decide (a1 < 1)) (K0 ByteArray.empty 22) (cond (decide (a1 > 8)) (K0 ByteArray.empty 22) (cond (decide ((a2.size : Int) > 58)) (K0 ByteArray.empty 8) (f101_1 F 1 (IntKind.u64.wrap a1) (fun x1 => f101_1 F 1 (IntKind.u64.wrap (a2.size : Int)) (fun x2 => cond (decide (x1.size + x2.size ≤ 4611686018427387904)) (cond (decide ((x1 ++ x2).size + a2.size ≤ 4611686018427387904)) (f54_1 F  (fun x3 => cond (decide ((0 : Int) ≤ (((x1 ++ x2) ++ a2).size : Int) ∧ (((x1 ++ x2) ++ a2).size : Int) ≤ (60 : Int) ∧ (60 : Int) ≤ (x3.size : Int))) (cond (decide (((x1 ++ x2) ++ a2).size + (x3.extract ((((x1 ++ x2) ++ a2).size : Int).toNat) 60).size ≤ 4611686018427387904)) (f102_1 F (toInts (((x1 ++ x2) ++ a2) ++ (x3.extract ((((x1 ++ x2) ++ a2).size : Int).toNat) 60))) (fun x4 => f101_1 F 4 (IntKind.u64.wrap x4) (fun x5 => cond (decide ((((x1 ++ x2) ++ a2) ++ (x3.extract ((((x1 ++ x2) ++ a2).size : Int).toNat) 60)).size + x5.size ≤ 4611686018427387904)) (K0 ((((x1 ++ x2) ++ a2) ++ (x3.extract ((((x1 ++ x2) ++ a2).size : Int).toNat) 60)) ++ x5) 0) none) ) ) none) none) ) none) none) ) )))
variable [FZ]
def sh100_1 : Sh := ⟨[.lf (.int .i64), .lf (.str)], []⟩
abbrev Y100_1 := Int → ByteArray → (ByteArray → Int → Option Res) → Option Res
noncomputable def A100_1 (g : Y100_1) (d : sh100_1.den) (K : KF) : Option Res := g d.1.1 d.1.2.1 (fun y0 y1 => K [.lf (.str y0), .lf (.int .i64 y1)] [])
noncomputable def S100_1 (F : Nat) (o : Summ) : Summ := mkS sh100_1 (fun d K => A100_1 (f100_1 F) d K) o
noncomputable def code100 : Code := bodyOf Tryz.f100
theorem enter100 : En Tryz.prog 100 := enO (fn := Tryz.f100)
noncomputable def T100_1 (F : Nat) : FuncId → Option Summ := tab [(54, (S54_1 F noS)), (101, (S101_1 F noS)), (102, (S102_1 F noS))]
noncomputable def LT100_1 (F : Nat) : Nat → Option LoopS := ltab []
theorem E100_1 (F : Nat) (d : sh100_1.den) (K : KF) : EB Tryz.prog (T100_1 F) (xw []) 41 0 (LT100_1 F) [] false Tryz.f100 sh100_1 d K = A100_1 (f100_1 F) d K := by delta A100_1 f100_1 T100_1 S54_1 S101_1 S102_1 LT100_1;  generalize (f54_1 F : Y54_1) = c, (f101_1 F : Y101_1) = c, (f102_1 F : Y102_1) = c; as_aux_lemma => kernel_rfl
theorem S100_1_ok : So Tryz.prog 100 S100_1 :=
  fun F o ho => sOf (fn := Tryz.f100) (c := code100) (tab_cons (S54_1_ok F _ (noS_sound enter54)) (tab_cons (S101_1_ok F _ (noS_sound enter101)) (tab_cons (S102_1_ok F _ (noS_sound enter102)) tab_nil))) ho lnil snil rnil (E100_1 F)
end
section
noncomputable def f38_1 {β : Type} (F : Nat) (a1 : Int) (a2 : ByteArray) (a3 a4 : Int) (a5 : ByteArray) (K0 : ByteArray → Option β) : Option β := f101_1 F 4 (IntKind.u64.wrap a3) (fun x1 => cond (decide (a2.size + x1.size ≤ 4611686018427387904)) (f101_1 F 4 (IntKind.u64.wrap a4) (fun x2 => cond (decide ((a2 ++ x1).size + x2.size ≤ 4611686018427387904)) (f102_1 F (toInts a5) (fun x3 => f101_1 F 4 (IntKind.u64.wrap x3) (fun x4 => cond (decide (((a2 ++ x1) ++ x2).size + x4.size ≤ 4611686018427387904)) (f100_1 F a1 (((a2 ++ x1) ++ x2) ++ x4) (fun x5 x6 => K0 x5) ) none) ) ) none) ) none) 
variable [FZ]
def sh38_1 : Sh := ⟨[.lf (.int .i64), .lf (.str), .lf (.int .i64), .lf (.int .i64), .lf (.str)], []⟩
abbrev Y38_1 := Int → ByteArray → Int → Int → ByteArray → (ByteArray → Option Res) → Option Res
noncomputable def A38_1 (g : Y38_1) (d : sh38_1.den) (K : KF) : Option Res := g d.1.1 d.1.2.1 d.1.2.2.1 d.1.2.2.2.1 d.1.2.2.2.2.1 (fun y0 => K [.lf (.str y0)] [])
noncomputable def S38_1 (F : Nat) (o : Summ) : Summ := mkS sh38_1 (fun d K => A38_1 (f38_1 F) d K) o
noncomputable def code38 : Code := bodyOf Tryz.f38
theorem enter38 : En Tryz.prog 38 := enO (fn := Tryz.f38)
noncomputable def T38_1 (F : Nat) : FuncId → Option Summ := tab [(100, (S100_1 F noS)), (101, (S101_1 F noS)), (102, (S102_1 F noS))]
noncomputable def LT38_1 (F : Nat) : Nat → Option LoopS := ltab []
theorem E38_1 (F : Nat) (d : sh38_1.den) (K : KF) : EB Tryz.prog (T38_1 F) (xw []) 34 0 (LT38_1 F) [] false Tryz.f38 sh38_1 d K = A38_1 (f38_1 F) d K := by delta A38_1 f38_1 T38_1 S100_1 S101_1 S102_1 LT38_1;  generalize (f100_1 F : Y100_1) = c, (f101_1 F : Y101_1) = c, (f102_1 F : Y102_1) = c; as_aux_lemma => kernel_rfl
theorem S38_1_ok : So Tryz.prog 38 S38_1 :=
  fun F o ho => sOf (fn := Tryz.f38) (c := code38) (tab_cons (S100_1_ok F _ (noS_sound enter100)) (tab_cons (S101_1_ok F _ (noS_sound enter101)) (tab_cons (S102_1_ok F _ (noS_sound enter102)) tab_nil))) ho lnil snil rnil (E38_1 F)
end
section
noncomputable def f5_1_l5 [FZ] {β : Type} (F : Nat) (v9 : List (Int × ByteArray)) (v10 : List (Int × (Sl .bool))) (v11 v12 v13 v14 : Int) (K0 : Option β) : Nat → Int → Option β
  | 0, _ => none
  | k + 1, v8 => cond (decide (v8 < v11)) (f25_1 F v11 v12 v13 v14 v8 (fun x15 => f26_1 F (IntKind.u8.wrap (IntKind.i64.wrap (v8 + 1))) (fun x16 => f24_1385 F x15 x16 (f5_1_l5 F v9 v10 v11 v12 v13 v14 K0 k (IntKind.i64.wrap (v8 + 1))) ) ) ) (K0)
noncomputable def f5_1_l14 [FZ] {β : Type} (F : Nat) (v18 : List (Int × ByteArray)) (v19 : List (Int × (Sl .bool))) (v20 v21 v22 v23 : Int) (K0 : List (Int × (Int × (Int × ByteArray))) → Option β) : Nat → Int → List (Int × (Int × (Int × ByteArray))) → Option β
  | 0, _, _ => none
  | k + 1, v17, v24 => cond (decide (v17 < ((v18.length : Nat) : Int))) (cond (decide ((0 : Int) ≤ v17 ∧ v17 < ((v18.length : Nat) : Int))) (cond (decide (0 + v17.toNat < v18.length)) (f30_1 F ((v18.getD (0 + v17.toNat) (0, ByteArray.empty)).1) v24 (fun x25 x26 => cond (!x26) (cond (decide ((0 : Int) ≤ v17 ∧ v17 < ((v18.length : Nat) : Int))) (cond (decide (0 + v17.toNat < v18.length)) (f31_4108 F v20 v21 v22 v23 ((v24.length : Nat) : Int) 3 2 ((v18.getD (0 + v17.toNat) (0, ByteArray.empty)).1) (fun x27 => cond (x27 != 0) (f5_1_l14 F v18 v19 v20 v21 v22 v23 K0 k (IntKind.i64.wrap (v17 + 1)) v24) (cond (!x26) (cond (decide ((v24.length + 1) * 40 ≤ 70368744177664)) (cond (decide ((0 : Int) ≤ v17 ∧ v17 < ((v18.length : Nat) : Int))) (cond (decide (0 + v17.toNat < v18.length)) (cond (decide ((0 : Int) ≤ v17 ∧ v17 < ((v18.length : Nat) : Int))) (cond (decide (0 + v17.toNat < v18.length)) (f24_1385 F ((v18.getD (0 + v17.toNat) (0, ByteArray.empty)).1) ((v18.getD (0 + v17.toNat) (0, ByteArray.empty)).2) (f5_1_l14 F v18 v19 v20 v21 v22 v23 K0 k (IntKind.i64.wrap (v17 + 1)) (v24 ++ [(0, (0, (0, ByteArray.empty)))])) ) none) none) none) none) none) (cond (decide ((0 : Int) ≤ v17 ∧ v17 < ((v18.length : Nat) : Int))) (cond (decide (0 + v17.toNat < v18.length)) (cond (decide ((0 : Int) ≤ v17 ∧ v17 < ((v18.length : Nat) : Int))) (cond (decide (0 + v17.toNat < v18.length)) (f24_1385 F ((v18.getD (0 + v17.toNat) (0, ByteArray.empty)).1) ((v18.getD (0 + v17.toNat) (0, ByteArray.empty)).2) (f5_1_l14 F v18 v19 v20 v21 v22 v23 K0 k (IntKind.i64.wrap (v17 + 1)) v24) ) none) none) none) none))) ) none) none) (cond (!x26) (cond (decide ((v24.length + 1) * 40 ≤ 70368744177664)) (cond (decide ((0 : Int) ≤ v17 ∧ v17 < ((v18.length : Nat) : Int))) (cond (decide (0 + v17.toNat < v18.length)) (cond (decide ((0 : Int) ≤ v17 ∧ v17 < ((v18.length : Nat) : Int))) (cond (decide (0 + v17.toNat < v18.length)) (f24_1385 F ((v18.getD (0 + v17.toNat) (0, ByteArray.empty)).1) ((v18.getD (0 + v17.toNat) (0, ByteArray.empty)).2) (f5_1_l14 F v18 v19 v20 v21 v22 v23 K0 k (IntKind.i64.wrap (v17 + 1)) (v24 ++ [(0, (0, (0, ByteArray.empty)))])) ) none) none) none) none) none) (cond (decide ((0 : Int) ≤ v17 ∧ v17 < ((v18.length : Nat) : Int))) (cond (decide (0 + v17.toNat < v18.length)) (cond (decide ((0 : Int) ≤ v17 ∧ v17 < ((v18.length : Nat) : Int))) (cond (decide (0 + v17.toNat < v18.length)) (f24_1385 F ((v18.getD (0 + v17.toNat) (0, ByteArray.empty)).1) ((v18.getD (0 + v17.toNat) (0, ByteArray.empty)).2) (f5_1_l14 F v18 v19 v20 v21 v22 v23 K0 k (IntKind.i64.wrap (v17 + 1)) v24) ) none) none) none) none))) ) none) none) (K0 v24)
noncomputable def f5_1_l25 [FZ] {β : Type} (F : Nat) (v30 : List (Int × ByteArray)) (v31 : List (Int × (Sl .bool))) (v32 v33 v34 v35 : Int) (K0 : Option β) : Nat → Int → Option β
  | 0, _ => none
  | k + 1, v29 => cond (decide (v29 < ((v31.length : Nat) : Int))) (cond (decide ((0 : Int) ≤ v29 ∧ v29 < ((v31.length : Nat) : Int))) (cond (decide (0 + v29.toNat < v31.length)) (f32_7155 F (((v31.getD (0 + v29.toNat) (0, (Sl.nil .bool))).2).dat) (f33_568 F  (cond (decide (IntKind.i64.wrap (v29 + 1) < ((v31.length : Nat) : Int))) (cond (decide ((0 : Int) ≤ IntKind.i64.wrap (v29 + 1) ∧ IntKind.i64.wrap (v29 + 1) < ((v31.length : Nat) : Int))) (cond (decide (0 + ((IntKind.i64.wrap (v29 + 1)).toNat) < v31.length)) (f29_6206 F ((v31.getD (0 + ((IntKind.i64.wrap (v29 + 1)).toNat)) (0, (Sl.nil .bool))).1) (f34_3384 F v32 v33 v34 v35 1 (fun x36 x37 => f35_455 F v32 v33 v34 v35 x37 (fun x38 => f5_1_l25 F v30 v31 v32 v33 v34 v35 K0 k (IntKind.i64.wrap (v29 + 1))) ) ) ) none) none) (f34_3384 F v32 v33 v34 v35 1 (fun x39 x40 => f35_455 F v32 v33 v34 v35 x40 (fun x41 => f5_1_l25 F v30 v31 v32 v33 v34 v35 K0 k (IntKind.i64.wrap (v29 + 1))) ) )) ) ) none) none) (K0)
noncomputable def f5_1_l38 [FZ] {β : Type} (F : Nat) (v45 v46 : Int) (v48 : List (Int × ByteArray)) (v49 : List (Int × (Sl .bool))) (v50 v51 v52 v53 : Int) (K0 : Option β) : Nat → Int → Option β
  | 0, _ => none
  | k + 1, v47 => f36_1 F v50 v51 v52 v53 (fun x54 => cond (decide (v47 < IntKind.i64.wrap (v50 + x54))) (f37_6206 F (IntKind.i64.wrap (6 + v47)) (f37_6206 F (IntKind.i64.wrap (6 + v47)) (f5_1_l38 F v45 v46 v48 v49 v50 v51 v52 v53 K0 k (IntKind.i64.wrap (v47 + 1))) ) ) (K0)) 
noncomputable def f5_1_l5_2 [FZ] {β : Type} (F : Nat) (v70 : List (Int × ByteArray)) (v71 : List (Int × (Sl .bool))) (v72 v73 v74 v75 : Int) (v79 : List ByteArray) (K0 : Int → Bool → Int → List (Int × ByteArray) → Option β) : Nat → Int → Int → Bool → Int → List (Int × ByteArray) → Option β
  | 0, _, _, _, _, _ => none
  | k + 1, v69, v76, v77, v78, v80 => cond (decide (v69 < v72)) (f25_1 F v72 v73 v74 v75 v69 (fun x81 => f26_1 F (IntKind.u8.wrap (IntKind.i64.wrap (v69 + 1))) (fun x82 => f24_1 F x81 x82 v76 v77 v78 v79 v80 (fun x83 x84 x85 x86 x87 => f5_1_l5_2 F v70 v71 v72 v73 v74 v75 v79 K0 k (IntKind.i64.wrap (v69 + 1)) x84 x85 x86 x87) ) ) ) (K0 v76 v77 v78 v80)
noncomputable def f5_1_l14_2 [FZ] {β : Type} (F : Nat) (v102 : List (Int × ByteArray)) (v103 : List (Int × (Sl .bool))) (v104 v105 v106 v107 v113 : Int) (v114 : Bool) (v115 : Int) (v116 : List ByteArray) (v117 : List (Int × ByteArray)) (K0 : Int → Bool → Int → List ByteArray → List (Int × ByteArray) → List (Int × (Int × (Int × ByteArray))) → Option β) : Nat → Int → Int → Bool → Int → List ByteArray → List (Int × ByteArray) → List (Int × (Int × (Int × ByteArray))) → Option β
  | 0, _, _, _, _, _, _, _ => none
  | k + 1, v101, v108, v109, v110, v111, v112, v118 => cond (decide (v101 < ((v102.length : Nat) : Int))) (cond (decide ((0 : Int) ≤ v101 ∧ v101 < ((v102.length : Nat) : Int))) (cond (decide (0 + v101.toNat < v102.length)) (f30_1 F ((v102.getD (0 + v101.toNat) (0, ByteArray.empty)).1) v118 (fun x119 x120 => cond (!x120) (cond (decide ((0 : Int) ≤ v101 ∧ v101 < ((v102.length : Nat) : Int))) (cond (decide (0 + v101.toNat < v102.length)) (f31_1 F v104 v105 v106 v107 ((v118.length : Nat) : Int) 3 2 ((v102.getD (0 + v101.toNat) (0, ByteArray.empty)).1) v108 v109 v110 v111 v112 (fun x121 x122 x123 x124 x125 x126 x127 x128 x129 x130 => cond (x125 != 0) (f5_1_l14_2 F v102 v103 v104 v105 v106 v107 v113 v114 v115 v116 v117 K0 k (IntKind.i64.wrap (v101 + 1)) x126 x127 x128 x129 x130 v118) (cond (!x120) (cond (decide ((v118.length + 1) * 40 ≤ 70368744177664)) (cond (decide ((0 : Int) ≤ v101 ∧ v101 < ((v102.length : Nat) : Int))) (cond (decide (0 + v101.toNat < v102.length)) (cond (decide ((0 : Int) ≤ v101 ∧ v101 < ((v102.length : Nat) : Int))) (cond (decide (0 + v101.toNat < v102.length)) (f24_1 F ((v102.getD (0 + v101.toNat) (0, ByteArray.empty)).1) ((v102.getD (0 + v101.toNat) (0, ByteArray.empty)).2) x126 x127 x128 x129 x130 (fun x131 x132 x133 x134 x135 => f5_1_l14_2 F v102 v103 v104 v105 v106 v107 v113 v114 v115 v116 v117 K0 k (IntKind.i64.wrap (v101 + 1)) x132 x133 x134 x129 x135 (v118 ++ [(x121, (x122, (x123, x124)))])) ) none) none) none) none) none) (cond (decide ((0 : Int) ≤ v101 ∧ v101 < ((v102.length : Nat) : Int))) (cond (decide (0 + v101.toNat < v102.length)) (cond (decide ((0 : Int) ≤ v101 ∧ v101 < ((v102.length : Nat) : Int))) (cond (decide (0 + v101.toNat < v102.length)) (f24_1 F ((v102.getD (0 + v101.toNat) (0, ByteArray.empty)).1) ((v102.getD (0 + v101.toNat) (0, ByteArray.empty)).2) x126 x127 x128 x129 x130 (fun x136 x137 x138 x139 x140 => f5_1_l14_2 F v102 v103 v104 v105 v106 v107 v113 v114 v115 v116 v117 K0 k (IntKind.i64.wrap (v101 + 1)) x137 x138 x139 x129 x140 v118) ) none) none) none) none))) ) none) none) (cond (!x120) (cond (decide ((v118.length + 1) * 40 ≤ 70368744177664)) (cond (decide ((0 : Int) ≤ v101 ∧ v101 < ((v102.length : Nat) : Int))) (cond (decide (0 + v101.toNat < v102.length)) (cond (decide ((0 : Int) ≤ v101 ∧ v101 < ((v102.length : Nat) : Int))) (cond (decide (0 + v101.toNat < v102.length)) (f24_1 F ((v102.getD (0 + v101.toNat) (0, ByteArray.empty)).1) ((v102.getD (0 + v101.toNat) (0, ByteArray.empty)).2) v108 v109 v110 v111 v112 (fun x141 x142 x143 x144 x145 => f5_1_l14_2 F v102 v103 v104 v105 v106 v107 v113 v114 v115 v116 v117 K0 k (IntKind.i64.wrap (v101 + 1)) x142 x143 x144 v111 x145 (v118 ++ [(0, (0, (0, ByteArray.empty)))])) ) none) none) none) none) none) (cond (decide ((0 : Int) ≤ v101 ∧ v101 < ((v102.length : Nat) : Int))) (cond (decide (0 + v101.toNat < v102.length)) (cond (decide ((0 : Int) ≤ v101 ∧ v101 < ((v102.length : Nat) : Int))) (cond (decide (0 + v101.toNat < v102.length)) (f24_1 F ((v102.getD (0 + v101.toNat) (0, ByteArray.empty)).1) ((v102.getD (0 + v101.toNat) (0, ByteArray.empty)).2) v108 v109 v110 v111 v112 (fun x146 x147 x148 x149 x150 => f5_1_l14_2 F v102 v103 v104 v105 v106 v107 v113 v114 v115 v116 v117 K0 k (IntKind.i64.wrap (v101 + 1)) x147 x148 x149 v111 x150 v118) ) none) none) none) none))) ) none) none) (K0 v108 v109 v110 v111 v112 v118)
noncomputable def f5_1_l25_2 [FZ] {β : Type} (F : Nat) (v158 : List (Int × ByteArray)) (v159 : List (Int × (Sl .bool))) (v160 v161 v162 v163 v169 : Int) (v170 : Bool) (v171 : Int) (v172 : List ByteArray) (v173 : List (Int × ByteArray)) (K0 : Int → Bool → Int → List ByteArray → List (Int × ByteArray) → Option β) : Nat → Int → Int → Bool → Int → List ByteArray → List (Int × ByteArray) → Option β
  | 0, _, _, _, _, _, _ => none
  | k + 1, v157, v164, v165, v166, v167, v168 => cond (decide (v157 < ((v159.length : Nat) : Int))) (cond (decide ((0 : Int) ≤ v157 ∧ v157 < ((v159.length : Nat) : Int))) (cond (decide (0 + v157.toNat < v159.length)) (f32_1 F v164 v165 v166 v167 v168 (((v159.getD (0 + v157.toNat) (0, (Sl.nil .bool))).2).dat) (fun x174 x175 => f33_1 F (-1) true v166 x174 x175 (fun x176 x177 x178 x179 => cond (decide (IntKind.i64.wrap (v157 + 1) < ((v159.length : Nat) : Int))) (cond (decide ((0 : Int) ≤ IntKind.i64.wrap (v157 + 1) ∧ IntKind.i64.wrap (v157 + 1) < ((v159.length : Nat) : Int))) (cond (decide (0 + ((IntKind.i64.wrap (v157 + 1)).toNat) < v159.length)) (f29_1 F ((v159.getD (0 + ((IntKind.i64.wrap (v157 + 1)).toNat)) (0, (Sl.nil .bool))).1) x177 x178 v166 x174 x179 (fun x180 => f34_1 F v160 v161 v162 v163 1 x180 x178 v166 x174 x179 (fun x181 x182 => f35_1 F v160 v161 v162 v163 x180 x178 v166 x174 x179 x182 (fun x183 x184 x185 x186 x187 x188 => f5_1_l25_2 F v158 v159 v160 v161 v162 v163 v169 v170 v171 v172 v173 K0 k (IntKind.i64.wrap (v157 + 1)) x184 x185 x186 x187 x188) ) ) ) none) none) (f34_1 F v160 v161 v162 v163 1 x177 x178 v166 x174 x179 (fun x189 x190 => f35_1 F v160 v161 v162 v163 x177 x178 v166 x174 x179 x190 (fun x191 x192 x193 x194 x195 x196 => f5_1_l25_2 F v158 v159 v160 v161 v162 v163 v169 v170 v171 v172 v173 K0 k (IntKind.i64.wrap (v157 + 1)) x192 x193 x194 x195 x196) ) )) ) ) none) none) (K0 v164 v165 v166 v167 v168)
noncomputable def f5_1_l38_2 [FZ] {β : Type} (F : Nat) (v216 v217 : Int) (v219 : List (Int × ByteArray)) (v220 : List (Int × (Sl .bool))) (v221 v222 v223 v224 v225 : Int) (v226 : Bool) (v227 : Int) (v228 : List ByteArray) (v229 : List (Int × ByteArray)) (v230 : Int) (v231 : Bool) (v232 : Int) (v233 : List ByteArray) (v234 : List (Int × ByteArray)) (K0 K1 : Option β) : Nat → Int → Option β
  | 0, _ => none
  | k + 1, v218 => f36_1 F v221 v222 v223 v224 (fun x235 => cond (decide (v218 < IntKind.i64.wrap (v221 + x235))) (f37_1 F (IntKind.i64.wrap (6 + v218)) v225 v226 v227 v228 v229 (fun x236 x237 => f37_1 F (IntKind.i64.wrap (6 + v218)) v230 v231 v232 v233 v234 (fun x238 x239 => cond (!(x236.toList == x238.toList)) (K0) (f5_1_l38_2 F v216 v217 v219 v220 v221 v222 v223 v224 v225 v226 v227 v228 v229 v230 v231 v232 v233 v234 K0 K1 k (IntKind.i64.wrap (v218 + 1)))) ) ) (K1)) 
noncomputable def f5_1 [FZ] {β : Type} (F : Nat) (a1 a2 a3 a4 : Int) (a5 : List (Int × ByteArray)) (a6 : List (Int × (Sl .bool))) (K0 : Bool → Option β) : Option β := f21_1 F a1 a2 a3 a4 (fun x1 => cond (!x1) (f22_1 F  (fun x2 => K0 x2) ) (cond (decide (a1 > 20)) (f22_1 F  (fun x3 => K0 x3) ) (cond (decide (a4 > 40)) (f22_1 F  (fun x4 => K0 x4) ) (cond (decide (((a5.length : Nat) : Int) > 40)) (f22_1 F  (fun x5 => K0 x5) ) (cond (decide (((a6.length : Nat) : Int) > 6)) (f22_1 F  (fun x6 => K0 x6) ) (f23_1 F a1 a2 a3 a4 1 (fun x7 => f12_1 F x7 (f5_1_l5 F a5 a6 a1 a2 a3 a4 (f27_568 F  (f28_568 F  (cond (decide (((a6.length : Nat) : Int) > 0)) (cond (decide ((0 : Int) ≤ (0 : Int) ∧ (0 : Int) < ((a6.length : Nat) : Int))) (cond (decide (0 < a6.length)) (f29_6206 F ((a6.getD 0 (0, (Sl.nil .bool))).1) (f5_1_l14 F a5 a6 a1 a2 a3 a4 (fun x28 => f5_1_l25 F a5 a6 a1 a2 a3 a4 (f32_7155 F [] (f33_568 F  (f34_3384 F a1 a2 a3 a4 1 (fun x42 x43 => f35_455 F a1 a2 a3 a4 x43 (fun x44 => f5_1_l38 F x42 x44 a5 a6 a1 a2 a3 a4 (f34_3384 F a1 a2 a3 a4 1 (fun x55 x56 => cond (x42 == 0) (cond (x44 == 0) (cond (x55 == 0) (cond (((x56.length : Nat) : Int) == 0) (f38_1 F 7 ByteArray.empty 0 0 ByteArray.empty (fun x57 => cond ((x57.size : Int) == 64) (f22_1 F  (fun x58 => K0 x58) ) (K0 false)) ) (K0 false)) (K0 false)) (K0 false)) (K0 false)) ) F 0) ) ) ) ) F 0) F 0 []) ) none) none) (f5_1_l14 F a5 a6 a1 a2 a3 a4 (fun x59 => f5_1_l25 F a5 a6 a1 a2 a3 a4 (f32_7155 F [] (f33_568 F  (f34_3384 F a1 a2 a3 a4 1 (fun x60 x61 => f35_455 F a1 a2 a3 a4 x61 (fun x62 => f5_1_l38 F x60 x62 a5 a6 a1 a2 a3 a4 (f34_3384 F a1 a2 a3 a4 1 (fun x63 x64 => cond (x60 == 0) (cond (x62 == 0) (cond (x63 == 0) (cond (((x64.length : Nat) : Int) == 0) (f38_1 F 7 ByteArray.empty 0 0 ByteArray.empty (fun x65 => cond ((x65.size : Int) == 64) (f22_1 F  (fun x66 => K0 x66) ) (K0 false)) ) (K0 false)) (K0 false)) (K0 false)) (K0 false)) ) F 0) ) ) ) ) F 0) F 0 [])) ) ) F 0) (fun x67 x68 => f5_1_l5_2 F a5 a6 a1 a2 a3 a4 x67 (fun x88 x89 x90 x91 => f27_1 F x88 x89 x90 x67 x91 (fun x92 x93 x94 x95 x96 x97 => f28_1 F x93 x94 x95 x96 x97 (fun x98 x99 => cond (decide (((a6.length : Nat) : Int) > 0)) (cond (decide ((0 : Int) ≤ (0 : Int) ∧ (0 : Int) < ((a6.length : Nat) : Int))) (cond (decide (0 < a6.length)) (f29_1 F ((a6.getD 0 (0, (Sl.nil .bool))).1) x93 x94 x95 x96 x97 (fun x100 => f5_1_l14_2 F a5 a6 a1 a2 a3 a4 x93 x94 x95 x98 x99 (fun x151 x152 x153 x154 x155 x156 => f5_1_l25_2 F a5 a6 a1 a2 a3 a4 x93 x94 x95 x98 x99 (fun x197 x198 x199 x200 x201 => f32_1 F x197 x198 x199 x200 x201 [] (fun x202 x203 => f33_1 F (-1) true x199 x202 x203 (fun x204 x205 x206 x207 => f34_1 F a1 a2 a3 a4 1 x205 x206 x199 x202 x207 (fun x208 x209 => f35_1 F a1 a2 a3 a4 x205 x206 x199 x202 x207 x209 (fun x210 x211 x212 x213 x214 x215 => f5_1_l38_2 F x208 x210 a5 a6 a1 a2 a3 a4 x211 x212 x213 x214 x215 x93 x94 x95 x98 x99 (K0 false) (f34_1 F a1 a2 a3 a4 1 x211 x212 x213 x214 x215 (fun x240 x241 => cond (x208 == 0) (cond (x210 == 0) (cond (x240 == 0) (cond (((x241.length : Nat) : Int) == 0) (f38_1 F 7 ByteArray.empty 0 0 ByteArray.empty (fun x242 => cond ((x242.size : Int) == 64) (f22_1 F  (fun x243 => K0 x243) ) (K0 false)) ) (K0 false)) (K0 false)) (K0 false)) (K0 false)) ) F 0) ) ) ) ) F 0 x151 x152 x153 x154 x155) F 0 x100 x94 x95 x96 x97 []) ) none) none) (f5_1_l14_2 F a5 a6 a1 a2 a3 a4 x93 x94 x95 x98 x99 (fun x244 x245 x246 x247 x248 x249 => f5_1_l25_2 F a5 a6 a1 a2 a3 a4 x93 x94 x95 x98 x99 (fun x250 x251 x252 x253 x254 => f32_1 F x250 x251 x252 x253 x254 [] (fun x255 x256 => f33_1 F (-1) true x252 x255 x256 (fun x257 x258 x259 x260 => f34_1 F a1 a2 a3 a4 1 x258 x259 x252 x255 x260 (fun x261 x262 => f35_1 F a1 a2 a3 a4 x258 x259 x252 x255 x260 x262 (fun x263 x264 x265 x266 x267 x268 => f5_1_l38_2 F x261 x263 a5 a6 a1 a2 a3 a4 x264 x265 x266 x267 x268 x93 x94 x95 x98 x99 (K0 false) (f34_1 F a1 a2 a3 a4 1 x264 x265 x266 x267 x268 (fun x269 x270 => cond (x261 == 0) (cond (x263 == 0) (cond (x269 == 0) (cond (((x270.length : Nat) : Int) == 0) (f38_1 F 7 ByteArray.empty 0 0 ByteArray.empty (fun x271 => cond ((x271.size : Int) == 64) (f22_1 F  (fun x272 => K0 x272) ) (K0 false)) ) (K0 false)) (K0 false)) (K0 false)) (K0 false)) ) F 0) ) ) ) ) F 0 x244 x245 x246 x247 x248) F 0 x93 x94 x95 x96 x97 [])) ) ) F 0 (-1) false 0 x68) ) )))))) 
variable [FZ]
def sh5_1 : Sh := ⟨[.agg [.int .i64, .int .i64, .int .i64, .int .i64], .lf (.full 0), .lf (.full 1)], [some ⟨none, [.seq (.pair (.int .i64) .str) 0]⟩, some ⟨none, [.seq (.pair (.int .i64) (.sl .bool)) 0]⟩]⟩
abbrev Y5_1 := Int → Int → Int → Int → List (Int × ByteArray) → List (Int × (Sl .bool)) → (Bool → Option Res) → Option Res
noncomputable def A5_1 (g : Y5_1) (d : sh5_1.den) (K : KF) : Option Res := g d.1.1.1 d.1.1.2.1 d.1.1.2.2.1 d.1.1.2.2.2.1 d.2.1.2.1 d.2.2.1.2.1 (fun y0 => K [.lf (.bool y0)] [some ⟨d.2.1.1, [.seq (.pair (.int .i64) .str) 0 d.2.1.2.1]⟩, some ⟨d.2.2.1.1, [.seq (.pair (.int .i64) (.sl .bool)) 0 d.2.2.1.2.1]⟩])
noncomputable def S5_1 (F : Nat) (o : Summ) : Summ := mkS sh5_1 (fun d K => A5_1 (f5_1 F) d K) o
noncomputable def code5 : Code := bodyOf Tryz.f5
noncomputable def b5_0 : Code := cB (cB (cR (cL (cR (cR (cR (code5)))))))
noncomputable def b5_1 : Code := cB (cB (cR (cL (cR (cR (cR (cR (cR (cR (cR (cR (code5))))))))))))
noncomputable def b5_2 : Code := cB (cB (cR (cL (cR (cR (cR (cR (cR (cR (cR (cR (cR (code5)))))))))))))
noncomputable def b5_3 : Code := cB (cB (cR (cL (cR (cR (cR (cR (cR (cR (cR (cR (cR (cR (cR (cR (cR (cR (code5))))))))))))))))))
theorem loops5 : loopsOf code5 = [b5_0, b5_1, b5_2, b5_3] := by kernel_rfl
theorem enter5 : En Tryz.prog 5 := enO (fn := Tryz.f5)
noncomputable def T5_1 (F : Nat) : FuncId → Option Summ := tab [(12, (S12_1 F noS)), (21, (S21_1 F noS)), (22, (S22_1 F noS)), (23, (S23_1 F noS)), (24, (S24_1 F (S24_1385 F noS))), (25, (S25_1 F noS)), (26, (S26_1 F noS)), (27, (S27_1 F (S27_568 F noS))), (28, (S28_1 F (S28_568 F noS))), (29, (S29_1 F (S29_6206 F noS))), (30, (S30_1 F noS)), (31, (S31_1 F (S31_4108 F noS))), (32, (S32_1 F (S32_7155 F noS))), (33, (S33_1 F (S33_568 F noS))), (34, (S34_1 F (S34_3384 F noS))), (35, (S35_1 F (S35_455 F noS))), (36, (S36_1 F noS)), (37, (S37_1 F (S37_6206 F noS))), (38, (S38_1 F noS))]
def sh5_1_l5 : Sh := ⟨[.lf (.full 0), .lf (.full 1), .lf (.ptr 2 0), .lf (.nilp), .lf (.int .i64)], [some ⟨none, [.seq (.pair (.int .i64) .str) 0]⟩, some ⟨none, [.seq (.pair (.int .i64) (.sl .bool)) 0]⟩, some ⟨some false, [.int .i64, .int .i64, .int .i64, .int .i64]⟩]⟩
abbrev Y5_1_l5 := List (Int × ByteArray) → List (Int × (Sl .bool)) → Int → Int → Int → Int → (Option Res) → Nat → Int → Option Res
noncomputable def A5_1_l5 (g : Y5_1_l5) (k : Nat) (d : sh5_1_l5.den) (K : KL) : Option Res := g d.2.1.2.1 d.2.2.1.2.1 d.2.2.2.1.2.1 d.2.2.2.1.2.2.1 d.2.2.2.1.2.2.2.1 d.2.2.2.1.2.2.2.2.1 (K (.exit 0) [.tv (.lf (.full 0)), .tv (.lf (.full 1)), .tv (.lf (.ptr 2 0)), .tv (.lf (.nilp))] [some ⟨d.2.1.1, [.seq (.pair (.int .i64) .str) 0 d.2.1.2.1]⟩, some ⟨d.2.2.1.1, [.seq (.pair (.int .i64) (.sl .bool)) 0 d.2.2.1.2.1]⟩, some ⟨false, [.int .i64 d.2.2.2.1.2.1, .int .i64 d.2.2.2.1.2.2.1, .int .i64 d.2.2.2.1.2.2.2.1, .int .i64 d.2.2.2.1.2.2.2.2.1]⟩]) k d.1.2.2.2.2.1
def sh5_1_l14 : Sh := ⟨[.lf (.full 0), .lf (.full 1), .lf (.ptr 2 0), .lf (.nilp), .lf (.nilp), .lf (.full 3), .lf (.int .i64)], [some ⟨none, [.seq (.pair (.int .i64) .str) 0]⟩, some ⟨none, [.seq (.pair (.int .i64) (.sl .bool)) 0]⟩, some ⟨some false, [.int .i64, .int .i64, .int .i64, .int .i64]⟩, some ⟨some false, [.seq (.pair (.int .u64) (.pair (.int .u64) (.pair (.int .i64) .str))) 0]⟩]⟩
abbrev Y5_1_l14 := List (Int × ByteArray) → List (Int × (Sl .bool)) → Int → Int → Int → Int → (List (Int × (Int × (Int × ByteArray))) → Option Res) → Nat → Int → List (Int × (Int × (Int × ByteArray))) → Option Res
noncomputable def A5_1_l14 (g : Y5_1_l14) (k : Nat) (d : sh5_1_l14.den) (K : KL) : Option Res := g d.2.1.2.1 d.2.2.1.2.1 d.2.2.2.1.2.1 d.2.2.2.1.2.2.1 d.2.2.2.1.2.2.2.1 d.2.2.2.1.2.2.2.2.1 (fun y6 => K (.exit 2) [.tv (.lf (.full 1)), .tv (.lf (.ptr 2 0)), .tv (.lf (.nilp)), .tv (.lf (.nilp))] [some ⟨d.2.1.1, [.seq (.pair (.int .i64) .str) 0 d.2.1.2.1]⟩, some ⟨d.2.2.1.1, [.seq (.pair (.int .i64) (.sl .bool)) 0 d.2.2.1.2.1]⟩, some ⟨false, [.int .i64 d.2.2.2.1.2.1, .int .i64 d.2.2.2.1.2.2.1, .int .i64 d.2.2.2.1.2.2.2.1, .int .i64 d.2.2.2.1.2.2.2.2.1]⟩, some ⟨false, [.seq (.pair (.int .u64) (.pair (.int .u64) (.pair (.int .i64) .str))) 0 y6]⟩]) k d.1.2.2.2.2.2.2.1 d.2.2.2.2.1.2.1
def sh5_1_l25 : Sh := ⟨[.lf (.full 1), .lf (.ptr 2 0), .lf (.nilp), .lf (.nilp), .lf (.int .i64)], [some ⟨none, [.seq (.pair (.int .i64) .str) 0]⟩, some ⟨none, [.seq (.pair (.int .i64) (.sl .bool)) 0]⟩, some ⟨some false, [.int .i64, .int .i64, .int .i64, .int .i64]⟩]⟩
abbrev Y5_1_l25 := List (Int × ByteArray) → List (Int × (Sl .bool)) → Int → Int → Int → Int → (Option Res) → Nat → Int → Option Res
noncomputable def A5_1_l25 (g : Y5_1_l25) (k : Nat) (d : sh5_1_l25.den) (K : KL) : Option Res := g d.2.1.2.1 d.2.2.1.2.1 d.2.2.2.1.2.1 d.2.2.2.1.2.2.1 d.2.2.2.1.2.2.2.1 d.2.2.2.1.2.2.2.2.1 (K (.exit 4) [.tv (.lf (.ptr 2 0)), .tv (.lf (.nilp)), .tv (.lf (.nilp))] [some ⟨d.2.1.1, [.seq (.pair (.int .i64) .str) 0 d.2.1.2.1]⟩, some ⟨d.2.2.1.1, [.seq (.pair (.int .i64) (.sl .bool)) 0 d.2.2.1.2.1]⟩, some ⟨false, [.int .i64 d.2.2.2.1.2.1, .int .i64 d.2.2.2.1.2.2.1, .int .i64 d.2.2.2.1.2.2.2.1, .int .i64 d.2.2.2.1.2.2.2.2.1]⟩]) k d.1.2.2.2.2.1
def sh5_1_l38 : Sh := ⟨[.lf (.ptr 2 0), .lf (.nilp), .lf (.nilp), .lf (.int .i64), .lf (.int .i64), .lf (.int .i64)], [some ⟨none, [.seq (.pair (.int .i64) .str) 0]⟩, some ⟨none, [.seq (.pair (.int .i64) (.sl .bool)) 0]⟩, some ⟨some false, [.int .i64, .int .i64, .int .i64, .int .i64]⟩]⟩
abbrev Y5_1_l38 := Int → Int → List (Int × ByteArray) → List (Int × (Sl .bool)) → Int → Int → Int → Int → (Option Res) → Nat → Int → Option Res
noncomputable def A5_1_l38 (g : Y5_1_l38) (k : Nat) (d : sh5_1_l38.den) (K : KL) : Option Res := g d.1.2.2.2.1 d.1.2.2.2.2.1 d.2.1.2.1 d.2.2.1.2.1 d.2.2.2.1.2.1 d.2.2.2.1.2.2.1 d.2.2.2.1.2.2.2.1 d.2.2.2.1.2.2.2.2.1 (K (.exit 6) [.tv (.lf (.ptr 2 0)), .tv (.lf (.nilp)), .tv (.lf (.int .i64 d.1.2.2.2.1)), .tv (.lf (.int .i64 d.1.2.2.2.2.1))] [some ⟨d.2.1.1, [.seq (.pair (.int .i64) .str) 0 d.2.1.2.1]⟩, some ⟨d.2.2.1.1, [.seq (.pair (.int .i64) (.sl .bool)) 0 d.2.2.1.2.1]⟩, some ⟨false, [.int .i64 d.2.2.2.1.2.1, .int .i64 d.2.2.2.1.2.2.1, .int .i64 d.2.2.2.1.2.2.2.1, .int .i64 d.2.2.2.1.2.2.2.2.1]⟩]) k d.1.2.2.2.2.2.1
def sh5_1_l5_2 : Sh := ⟨[.lf (.full 0), .lf (.full 1), .lf (.ptr 2 0), .lf (.ptr 3 0), .lf (.int .i64)], [some ⟨none, [.seq (.pair (.int .i64) .str) 0]⟩, some ⟨none, [.seq (.pair (.int .i64) (.sl .bool)) 0]⟩, some ⟨some false, [.int .i64, .int .i64, .int .i64, .int .i64]⟩, some ⟨some false, [.full 4, .full 5, .int .i64, .bool, .int .i64]⟩, some ⟨some false, [.seq .str 0]⟩, some ⟨some false, [.seq (.pair (.int .i64) .str) 0]⟩]⟩
abbrev Y5_1_l5_2 := List (Int × ByteArray) → List (Int × (Sl .bool)) → Int → Int → Int → Int → List ByteArray → (Int → Bool → Int → List (Int × ByteArray) → Option Res) → Nat → Int → Int → Bool → Int → List (Int × ByteArray) → Option Res
noncomputable def A5_1_l5_2 (g : Y5_1_l5_2) (k : Nat) (d : sh5_1_l5_2.den) (K : KL) : Option Res := g d.2.1.2.1 d.2.2.1.2.1 d.2.2.2.1.2.1 d.2.2.2.1.2.2.1 d.2.2.2.1.2.2.2.1 d.2.2.2.1.2.2.2.2.1 d.2.2.2.2.2.1.2.1 (fun y6 y7 y8 y10 => K (.exit 0) [.tv (.lf (.full 0)), .tv (.lf (.full 1)), .tv (.lf (.ptr 2 0)), .tv (.lf (.ptr 3 0))] [some ⟨d.2.1.1, [.seq (.pair (.int .i64) .str) 0 d.2.1.2.1]⟩, some ⟨d.2.2.1.1, [.seq (.pair (.int .i64) (.sl .bool)) 0 d.2.2.1.2.1]⟩, some ⟨false, [.int .i64 d.2.2.2.1.2.1, .int .i64 d.2.2.2.1.2.2.1, .int .i64 d.2.2.2.1.2.2.2.1, .int .i64 d.2.2.2.1.2.2.2.2.1]⟩, some ⟨false, [.full 4, .full 5, .int .i64 y6, .bool y7, .int .i64 y8]⟩, some ⟨false, [.seq .str 0 d.2.2.2.2.2.1.2.1]⟩, some ⟨false, [.seq (.pair (.int .i64) .str) 0 y10]⟩]) k d.1.2.2.2.2.1 d.2.2.2.2.1.2.2.2.1 d.2.2.2.2.1.2.2.2.2.1 d.2.2.2.2.1.2.2.2.2.2.1 d.2.2.2.2.2.2.1.2.1
def sh5_1_l14_2 : Sh := ⟨[.lf (.full 0), .lf (.full 1), .lf (.ptr 2 0), .lf (.ptr 3 0), .lf (.ptr 6 0), .lf (.full 9), .lf (.int .i64)], [some ⟨none, [.seq (.pair (.int .i64) .str) 0]⟩, some ⟨none, [.seq (.pair (.int .i64) (.sl .bool)) 0]⟩, some ⟨some false, [.int .i64, .int .i64, .int .i64, .int .i64]⟩, some ⟨some false, [.full 4, .full 5, .int .i64, .bool, .int .i64]⟩, some ⟨some false, [.seq .str 0]⟩, some ⟨some false, [.seq (.pair (.int .i64) .str) 0]⟩, some ⟨some false, [.full 7, .full 8, .int .i64, .bool, .int .i64]⟩, some ⟨some false, [.seq .str 0]⟩, some ⟨some false, [.seq (.pair (.int .i64) .str) 0]⟩, some ⟨some false, [.seq (.pair (.int .u64) (.pair (.int .u64) (.pair (.int .i64) .str))) 0]⟩]⟩
abbrev Y5_1_l14_2 := List (Int × ByteArray) → List (Int × (Sl .bool)) → Int → Int → Int → Int → Int → Bool → Int → List ByteArray → List (Int × ByteArray) → (Int → Bool → Int → List ByteArray → List (Int × ByteArray) → List (Int × (Int × (Int × ByteArray))) → Option Res) → Nat → Int → Int → Bool → Int → List ByteArray → List (Int × ByteArray) → List (Int × (Int × (Int × ByteArray))) → Option Res
noncomputable def A5_1_l14_2 (g : Y5_1_l14_2) (k : Nat) (d : sh5_1_l14_2.den) (K : KL) : Option Res := g d.2.1.2.1 d.2.2.1.2.1 d.2.2.2.1.2.1 d.2.2.2.1.2.2.1 d.2.2.2.1.2.2.2.1 d.2.2.2.1.2.2.2.2.1 d.2.2.2.2.2.2.2.1.2.2.2.1 d.2.2.2.2.2.2.2.1.2.2.2.2.1 d.2.2.2.2.2.2.2.1.2.2.2.2.2.1 d.2.2.2.2.2.2.2.2.1.2.1 d.2.2.2.2.2.2.2.2.2.1.2.1 (fun y6 y7 y8 y9 y10 y16 => K (.exit 2) [.tv (.lf (.full 1)), .tv (.lf (.ptr 2 0)), .tv (.lf (.ptr 3 0)), .tv (.lf (.ptr 6 0))] [some ⟨d.2.1.1, [.seq (.pair (.int .i64) .str) 0 d.2.1.2.1]⟩, some ⟨d.2.2.1.1, [.seq (.pair (.int .i64) (.sl .bool)) 0 d.2.2.1.2.1]⟩, some ⟨false, [.int .i64 d.2.2.2.1.2.1, .int .i64 d.2.2.2.1.2.2.1, .int .i64 d.2.2.2.1.2.2.2.1, .int .i64 d.2.2.2.1.2.2.2.2.1]⟩, some ⟨false, [.full 4, .full 5, .int .i64 y6, .bool y7, .int .i64 y8]⟩, some ⟨false, [.seq .str 0 y9]⟩, some ⟨false, [.seq (.pair (.int .i64) .str) 0 y10]⟩, some ⟨false, [.full 7, .full 8, .int .i64 d.2.2.2.2.2.2.2.1.2.2.2.1, .bool d.2.2.2.2.2.2.2.1.2.2.2.2.1, .int .i64 d.2.2.2.2.2.2.2.1.2.2.2.2.2.1]⟩, some ⟨false, [.seq .str 0 d.2.2.2.2.2.2.2.2.1.2.1]⟩, some ⟨false, [.seq (.pair (.int .i64) .str) 0 d.2.2.2.2.2.2.2.2.2.1.2.1]⟩, some ⟨false, [.seq (.pair (.int .u64) (.pair (.int .u64) (.pair (.int .i64) .str))) 0 y16]⟩]) k d.1.2.2.2.2.2.2.1 d.2.2.2.2.1.2.2.2.1 d.2.2.2.2.1.2.2.2.2.1 d.2.2.2.2.1.2.2.2.2.2.1 d.2.2.2.2.2.1.2.1 d.2.2.2.2.2.2.1.2.1 d.2.2.2.2.2.2.2.2.2.2.1.2.1
def sh5_1_l25_2 : Sh := ⟨[.lf (.full 1), .lf (.ptr 2 0), .lf (.ptr 3 0), .lf (.ptr 6 0), .lf (.int .i64)], [some ⟨none, [.seq (.pair (.int .i64) .str) 0]⟩, some ⟨none, [.seq (.pair (.int .i64) (.sl .bool)) 0]⟩, some ⟨some false, [.int .i64, .int .i64, .int .i64, .int .i64]⟩, some ⟨some false, [.full 4, .full 5, .int .i64, .bool, .int .i64]⟩, some ⟨some false, [.seq .str 0]⟩, some ⟨some false, [.seq (.pair (.int .i64) .str) 0]⟩, some ⟨some false, [.full 7, .full 8, .int .i64, .bool, .int .i64]⟩, some ⟨some false, [.seq .str 0]⟩, some ⟨some false, [.seq (.pair (.int .i64) .str) 0]⟩]⟩
abbrev Y5_1_l25_2 := List (Int × ByteArray) → List (Int × (Sl .bool)) → Int → Int → Int → Int → Int → Bool → Int → List ByteArray → List (Int × ByteArray) → (Int → Bool → Int → List ByteArray → List (Int × ByteArray) → Option Res) → Nat → Int → Int → Bool → Int → List ByteArray → List (Int × ByteArray) → Option Res
noncomputable def A5_1_l25_2 (g : Y5_1_l25_2) (k : Nat) (d : sh5_1_l25_2.den) (K : KL) : Option Res := g d.2.1.2.1 d.2.2.1.2.1 d.2.2.2.1.2.1 d.2.2.2.1.2.2.1 d.2.2.2.1.2.2.2.1 d.2.2.2.1.2.2.2.2.1 d.2.2.2.2.2.2.2.1.2.2.2.1 d.2.2.2.2.2.2.2.1.2.2.2.2.1 d.2.2.2.2.2.2.2.1.2.2.2.2.2.1 d.2.2.2.2.2.2.2.2.1.2.1 d.2.2.2.2.2.2.2.2.2.1.2.1 (fun y6 y7 y8 y9 y10 => K (.exit 4) [.tv (.lf (.ptr 2 0)), .tv (.lf (.ptr 3 0)), .tv (.lf (.ptr 6 0))] [some ⟨d.2.1.1, [.seq (.pair (.int .i64) .str) 0 d.2.1.2.1]⟩, some ⟨d.2.2.1.1, [.seq (.pair (.int .i64) (.sl .bool)) 0 d.2.2.1.2.1]⟩, some ⟨false, [.int .i64 d.2.2.2.1.2.1, .int .i64 d.2.2.2.1.2.2.1, .int .i64 d.2.2.2.1.2.2.2.1, .int .i64 d.2.2.2.1.2.2.2.2.1]⟩, some ⟨false, [.full 4, .full 5, .int .i64 y6, .bool y7, .int .i64 y8]⟩, some ⟨false, [.seq .str 0 y9]⟩, some ⟨false, [.seq (.pair (.int .i64) .str) 0 y10]⟩, some ⟨false, [.full 7, .full 8, .int .i64 d.2.2.2.2.2.2.2.1.2.2.2.1, .bool d.2.2.2.2.2.2.2.1.2.2.2.2.1, .int .i64 d.2.2.2.2.2.2.2.1.2.2.2.2.2.1]⟩, some ⟨false, [.seq .str 0 d.2.2.2.2.2.2.2.2.1.2.1]⟩, some ⟨false, [.seq (.pair (.int .i64) .str) 0 d.2.2.2.2.2.2.2.2.2.1.2.1]⟩]) k d.1.2.2.2.2.1 d.2.2.2.2.1.2.2.2.1 d.2.2.2.2.1.2.2.2.2.1 d.2.2.2.2.1.2.2.2.2.2.1 d.2.2.2.2.2.1.2.1 d.2.2.2.2.2.2.1.2.1
def sh5_1_l38_2 : Sh := ⟨[.lf (.ptr 2 0), .lf (.ptr 3 0), .lf (.ptr 6 0), .lf (.int .i64), .lf (.int .i64), .lf (.int .i64)], [some ⟨none, [.seq (.pair (.int .i64) .str) 0]⟩, some ⟨none, [.seq (.pair (.int .i64) (.sl .bool)) 0]⟩, some ⟨some false, [.int .i64, .int .i64, .int .i64, .int .i64]⟩, some ⟨some false, [.full 4, .full 5, .int .i64, .bool, .int .i64]⟩, some ⟨some false, [.seq .str 0]⟩, some ⟨some false, [.seq (.pair (.int .i64) .str) 0]⟩, some ⟨some false, [.full 7, .full 8, .int .i64, .bool, .int .i64]⟩, some ⟨some false, [.seq .str 0]⟩, some ⟨some false, [.seq (.pair (.int .i64) .str) 0]⟩]⟩
abbrev Y5_1_l38_2 := Int → Int → List (Int × ByteArray) → List (Int × (Sl .bool)) → Int → Int → Int → Int → Int → Bool → Int → List ByteArray → List (Int × ByteArray) → Int → Bool → Int → List ByteArray → List (Int × ByteArray) → (Option Res) → (Option Res) → Nat → Int → Option Res
noncomputable def A5_1_l38_2 (g : Y5_1_l38_2) (k : Nat) (d : sh5_1_l38_2.den) (K : KL) : Option Res := g d.1.2.2.2.1 d.1.2.2.2.2.1 d.2.1.2.1 d.2.2.1.2.1 d.2.2.2.1.2.1 d.2.2.2.1.2.2.1 d.2.2.2.1.2.2.2.1 d.2.2.2.1.2.2.2.2.1 d.2.2.2.2.1.2.2.2.1 d.2.2.2.2.1.2.2.2.2.1 d.2.2.2.2.1.2.2.2.2.2.1 d.2.2.2.2.2.1.2.1 d.2.2.2.2.2.2.1.2.1 d.2.2.2.2.2.2.2.1.2.2.2.1 d.2.2.2.2.2.2.2.1.2.2.2.2.1 d.2.2.2.2.2.2.2.1.2.2.2.2.2.1 d.2.2.2.2.2.2.2.2.1.2.1 d.2.2.2.2.2.2.2.2.2.1.2.1 (K .ret [.tv (.lf (.bool false))] [some ⟨d.2.1.1, [.seq (.pair (.int .i64) .str) 0 d.2.1.2.1]⟩, some ⟨d.2.2.1.1, [.seq (.pair (.int .i64) (.sl .bool)) 0 d.2.2.1.2.1]⟩, some ⟨false, [.int .i64 d.2.2.2.1.2.1, .int .i64 d.2.2.2.1.2.2.1, .int .i64 d.2.2.2.1.2.2.2.1, .int .i64 d.2.2.2.1.2.2.2.2.1]⟩, some ⟨false, [.full 4, .full 5, .int .i64 d.2.2.2.2.1.2.2.2.1, .bool d.2.2.2.2.1.2.2.2.2.1, .int .i64 d.2.2.2.2.1.2.2.2.2.2.1]⟩, some ⟨false, [.seq .str 0 d.2.2.2.2.2.1.2.1]⟩, some ⟨false, [.seq (.pair (.int .i64) .str) 0 d.2.2.2.2.2.2.1.2.1]⟩, some ⟨false, [.full 7, .full 8, .int .i64 d.2.2.2.2.2.2.2.1.2.2.2.1, .bool d.2.2.2.2.2.2.2.1.2.2.2.2.1, .int .i64 d.2.2.2.2.2.2.2.1.2.2.2.2.2.1]⟩, some ⟨false, [.seq .str 0 d.2.2.2.2.2.2.2.2.1.2.1]⟩, some ⟨false, [.seq (.pair (.int .i64) .str) 0 d.2.2.2.2.2.2.2.2.2.1.2.1]⟩]) (K (.exit 6) [.tv (.lf (.ptr 2 0)), .tv (.lf (.ptr 3 0)), .tv (.lf (.int .i64 d.1.2.2.2.1)), .tv (.lf (.int .i64 d.1.2.2.2.2.1))] [some ⟨d.2.1.1, [.seq (.pair (.int .i64) .str) 0 d.2.1.2.1]⟩, some ⟨d.2.2.1.1, [.seq (.pair (.int .i64) (.sl .bool)) 0 d.2.2.1.2.1]⟩, some ⟨false, [.int .i64 d.2.2.2.1.2.1, .int .i64 d.2.2.2.1.2.2.1, .int .i64 d.2.2.2.1.2.2.2.1, .int .i64 d.2.2.2.1.2.2.2.2.1]⟩, some ⟨false, [.full 4, .full 5, .int .i64 d.2.2.2.2.1.2.2.2.1, .bool d.2.2.2.2.1.2.2.2.2.1, .int .i64 d.2.2.2.2.1.2.2.2.2.2.1]⟩, some ⟨false, [.seq .str 0 d.2.2.2.2.2.1.2.1]⟩, some ⟨false, [.seq (.pair (.int .i64) .str) 0 d.2.2.2.2.2.2.1.2.1]⟩, some ⟨false, [.full 7, .full 8, .int .i64 d.2.2.2.2.2.2.2.1.2.2.2.1, .bool d.2.2.2.2.2.2.2.1.2.2.2.2.1, .int .i64 d.2.2.2.2.2.2.2.1.2.2.2.2.2.1]⟩, some ⟨false, [.seq .str 0 d.2.2.2.2.2.2.2.2.1.2.1]⟩, some ⟨false, [.seq (.pair (.int .i64) .str) 0 d.2.2.2.2.2.2.2.2.2.1.2.1]⟩]) k d.1.2.2.2.2.2.1
noncomputable def G5_1_5 (F k : Nat) : LoopS := orG sh5_1_l5 (fun d K => A5_1_l5 (f5_1_l5 F) k d K) (mkG sh5_1_l5_2 [1, 2, 3, 7, 9] (outT [(.exit 0, [1, 2, 3, 7])]) (fun d K => A5_1_l5_2 (f5_1_l5_2 F) k d K) [])
noncomputable def G5_1_14 (F k : Nat) : LoopS := orG sh5_1_l14 (fun d K => A5_1_l14 (f5_1_l14 F) k d K) (mkG sh5_1_l14_2 [1, 2, 3, 7, 10, 11, 12] (outT [(.exit 2, [2, 3, 7, 10])]) (fun d K => A5_1_l14_2 (f5_1_l14_2 F) k d K) [])
noncomputable def G5_1_25 (F k : Nat) : LoopS := orG sh5_1_l25 (fun d K => A5_1_l25 (f5_1_l25 F) k d K) (mkG sh5_1_l25_2 [2, 3, 7, 10, 17] (outT [(.exit 4, [3, 7, 10])]) (fun d K => A5_1_l25_2 (f5_1_l25_2 F) k d K) [])
noncomputable def G5_1_38 (F k : Nat) : LoopS := orG sh5_1_l38 (fun d K => A5_1_l38 (f5_1_l38 F) k d K) (mkG sh5_1_l38_2 [3, 7, 10, 19, 20, 21] (outT [(.exit 6, [3, 7, 19, 20]), (.ret, [6])]) (fun d K => A5_1_l38_2 (f5_1_l38_2 F) k d K) [])
noncomputable def LT5_1 (F : Nat) : Nat → Option LoopS := ltab [(5, G5_1_5 F F), (14, G5_1_14 F F), (25, G5_1_25 F F), (38, G5_1_38 F F)]
theorem L5_1_5 (F : Nat) : LoopOK Tryz.prog (T5_1 F) (xw [19, 23]) 245 2 (LT5_1 F) (G5_1_5 F F) b5_0 :=
  loopOK_vers (G5_1_5 F) F (fun k => ⟨rfl, rfl⟩) (verOK_cons (s := sh5_1_l5) (all := (G5_1_5 F)) (fun k d K => A5_1_l5 (f5_1_l5 F) k d K) (fun d K => by kernel_rfl) (fun k d K => by delta A5_1_l5; refine (f5_1_l5.eq_2 ..).trans ?_; delta T5_1 S12_1 S21_1 S22_1 S23_1 S24_1 S24_1385 S25_1 S26_1 S27_1 S27_568 S28_1 S28_568 S29_1 S29_6206 S30_1 S31_1 S31_4108 S32_1 S32_7155 S33_1 S33_568 S34_1 S34_3384 S35_1 S35_455 S36_1 S37_1 S37_6206 S38_1 LT5_1; generalize (G5_1_5 F F) = c, (G5_1_14 F F) = c, (G5_1_25 F F) = c, (G5_1_38 F F) = c;  (try delta G5_1_5); generalize (f12_1 F : Y12_1) = c, (f21_1 F : Y21_1) = c, (f22_1 F : Y22_1) = c, (f23_1 F : Y23_1) = c, (f24_1 F : Y24_1) = c, (f24_1385 F : Y24_1385) = c, (f25_1 F : Y25_1) = c, (f26_1 F : Y26_1) = c, (f27_1 F : Y27_1) = c, (f27_568 F : Y27_568) = c, (f28_1 F : Y28_1) = c, (f28_568 F : Y28_568) = c, (f29_1 F : Y29_1) = c, (f29_6206 F : Y29_6206) = c, (f30_1 F : Y30_1) = c, (f31_1 F : Y31_1) = c, (f31_4108 F : Y31_4108) = c, (f32_1 F : Y32_1) = c, (f32_7155 F : Y32_7155) = c, (f33_1 F : Y33_1) = c, (f33_568 F : Y33_568) = c, (f34_1 F : Y34_1) = c, (f34_3384 F : Y34_3384) = c, (f35_1 F : Y35_1) = c, (f35_455 F : Y35_455) = c, (f36_1 F : Y36_1) = c, (f37_1 F : Y37_1) = c, (f37_6206 F : Y37_6206) = c, (f38_1 F : Y38_1) = c, (f5_1_l5 F : Y5_1_l5) = c, (f5_1_l5_2 F : Y5_1_l5_2) = c; as_aux_lemma => kernel_rfl) (verOK_last (s := sh5_1_l5_2) (live := [1, 2, 3, 7, 9]) (out := (outT [(.exit 0, [1, 2, 3, 7])])) (mv := []) (all := (G5_1_5 F)) (fun k d K => A5_1_l5_2 (f5_1_l5_2 F) k d K) (fun d K => by kernel_rfl) (fun k d K => by delta A5_1_l5_2; refine (f5_1_l5_2.eq_2 ..).trans ?_; delta T5_1 S12_1 S21_1 S22_1 S23_1 S24_1 S24_1385 S25_1 S26_1 S27_1 S27_568 S28_1 S28_568 S29_1 S29_6206 S30_1 S31_1 S31_4108 S32_1 S32_7155 S33_1 S33_568 S34_1 S34_3384 S35_1 S35_455 S36_1 S37_1 S37_6206 S38_1 LT5_1; generalize (G5_1_5 F F) = c, (G5_1_14 F F) = c, (G5_1_25 F F) = c, (G5_1_38 F F) = c;  (try delta G5_1_5); generalize (f12_1 F : Y12_1) = c, (f21_1 F : Y21_1) = c, (f22_1 F : Y22_1) = c, (f23_1 F : Y23_1) = c, (f24_1 F : Y24_1) = c, (f24_1385 F : Y24_1385) = c, (f25_1 F : Y25_1) = c, (f26_1 F : Y26_1) = c, (f27_1 F : Y27_1) = c, (f27_568 F : Y27_568) = c, (f28_1 F : Y28_1) = c, (f28_568 F : Y28_568) = c, (f29_1 F : Y29_1) = c, (f29_6206 F : Y29_6206) = c, (f30_1 F : Y30_1) = c, (f31_1 F : Y31_1) = c, (f31_4108 F : Y31_4108) = c, (f32_1 F : Y32_1) = c, (f32_7155 F : Y32_7155) = c, (f33_1 F : Y33_1) = c, (f33_568 F : Y33_568) = c, (f34_1 F : Y34_1) = c, (f34_3384 F : Y34_3384) = c, (f35_1 F : Y35_1) = c, (f35_455 F : Y35_455) = c, (f36_1 F : Y36_1) = c, (f37_1 F : Y37_1) = c, (f37_6206 F : Y37_6206) = c, (f38_1 F : Y38_1) = c, (f5_1_l5 F : Y5_1_l5) = c, (f5_1_l5_2 F : Y5_1_l5_2) = c; as_aux_lemma => kernel_rfl)))
theorem L5_1_14 (F : Nat) : LoopOK Tryz.prog (T5_1 F) (xw [19, 23]) 245 2 (LT5_1 F) (G5_1_14 F F) b5_1 :=
  loopOK_vers (G5_1_14 F) F (fun k => ⟨rfl, rfl⟩) (verOK_cons (s := sh5_1_l14) (all := (G5_1_14 F)) (fun k d K => A5_1_l14 (f5_1_l14 F) k d K) (fun d K => by kernel_rfl) (fun k d K => by delta A5_1_l14; refine (f5_1_l14.eq_2 ..).trans ?_; delta T5_1 S12_1 S21_1 S22_1 S23_1 S24_1 S24_1385 S25_1 S26_1 S27_1 S27_568 S28_1 S28_568 S29_1 S29_6206 S30_1 S31_1 S31_4108 S32_1 S32_7155 S33_1 S33_568 S34_1 S34_3384 S35_1 S35_455 S36_1 S37_1 S37_6206 S38_1 LT5_1; generalize (G5_1_5 F F) = c, (G5_1_14 F F) = c, (G5_1_25 F F) = c, (G5_1_38 F F) = c;  (try delta G5_1_14); generalize (f12_1 F : Y12_1) = c, (f21_1 F : Y21_1) = c, (f22_1 F : Y22_1) = c, (f23_1 F : Y23_1) = c, (f24_1 F : Y24_1) = c, (f24_1385 F : Y24_1385) = c, (f25_1 F : Y25_1) = c, (f26_1 F : Y26_1) = c, (f27_1 F : Y27_1) = c, (f27_568 F : Y27_568) = c, (f28_1 F : Y28_1) = c, (f28_568 F : Y28_568) = c, (f29_1 F : Y29_1) = c, (f29_6206 F : Y29_6206) = c, (f30_1 F : Y30_1) = c, (f31_1 F : Y31_1) = c, (f31_4108 F : Y31_4108) = c, (f32_1 F : Y32_1) = c, (f32_7155 F : Y32_7155) = c, (f33_1 F : Y33_1) = c, (f33_568 F : Y33_568) = c, (f34_1 F : Y34_1) = c, (f34_3384 F : Y34_3384) = c, (f35_1 F : Y35_1) = c, (f35_455 F : Y35_455) = c, (f36_1 F : Y36_1) = c, (f37_1 F : Y37_1) = c, (f37_6206 F : Y37_6206) = c, (f38_1 F : Y38_1) = c, (f5_1_l14 F : Y5_1_l14) = c, (f5_1_l14_2 F : Y5_1_l14_2) = c; as_aux_lemma => kernel_rfl) (verOK_last (s := sh5_1_l14_2) (live := [1, 2, 3, 7, 10, 11, 12]) (out := (outT [(.exit 2, [2, 3, 7, 10])])) (mv := []) (all := (G5_1_14 F)) (fun k d K => A5_1_l14_2 (f5_1_l14_2 F) k d K) (fun d K => by kernel_rfl) (fun k d K => by delta A5_1_l14_2; refine (f5_1_l14_2.eq_2 ..).trans ?_; delta T5_1 S12_1 S21_1 S22_1 S23_1 S24_1 S24_1385 S25_1 S26_1 S27_1 S27_568 S28_1 S28_568 S29_1 S29_6206 S30_1 S31_1 S31_4108 S32_1 S32_7155 S33_1 S33_568 S34_1 S34_3384 S35_1 S35_455 S36_1 S37_1 S37_6206 S38_1 LT5_1; generalize (G5_1_5 F F) = c, (G5_1_14 F F) = c, (G5_1_25 F F) = c, (G5_1_38 F F) = c;  (try delta G5_1_14); generalize (f12_1 F : Y12_1) = c, (f21_1 F : Y21_1) = c, (f22_1 F : Y22_1) = c, (f23_1 F : Y23_1) = c, (f24_1 F : Y24_1) = c, (f24_1385 F : Y24_1385) = c, (f25_1 F : Y25_1) = c, (f26_1 F : Y26_1) = c, (f27_1 F : Y27_1) = c, (f27_568 F : Y27_568) = c, (f28_1 F : Y28_1) = c, (f28_568 F : Y28_568) = c, (f29_1 F : Y29_1) = c, (f29_6206 F : Y29_6206) = c, (f30_1 F : Y30_1) = c, (f31_1 F : Y31_1) = c, (f31_4108 F : Y31_4108) = c, (f32_1 F : Y32_1) = c, (f32_7155 F : Y32_7155) = c, (f33_1 F : Y33_1) = c, (f33_568 F : Y33_568) = c, (f34_1 F : Y34_1) = c, (f34_3384 F : Y34_3384) = c, (f35_1 F : Y35_1) = c, (f35_455 F : Y35_455) = c, (f36_1 F : Y36_1) = c, (f37_1 F : Y37_1) = c, (f37_6206 F : Y37_6206) = c, (f38_1 F : Y38_1) = c, (f5_1_l14 F : Y5_1_l14) = c, (f5_1_l14_2 F : Y5_1_l14_2) = c; as_aux_lemma => kernel_rfl)))
theorem L5_1_25 (F : Nat) : LoopOK Tryz.prog (T5_1 F) (xw [19, 23]) 245 2 (LT5_1 F) (G5_1_25 F F) b5_2 :=
  loopOK_vers (G5_1_25 F) F (fun k => ⟨rfl, rfl⟩) (verOK_cons (s := sh5_1_l25) (all := (G5_1_25 F)) (fun k d K => A5_1_l25 (f5_1_l25 F) k d K) (fun d K => by kernel_rfl) (fun k d K => by delta A5_1_l25; refine (f5_1_l25.eq_2 ..).trans ?_; delta T5_1 S12_1 S21_1 S22_1 S23_1 S24_1 S24_1385 S25_1 S26_1 S27_1 S27_568 S28_1 S28_568 S29_1 S29_6206 S30_1 S31_1 S31_4108 S32_1 S32_7155 S33_1 S33_568 S34_1 S34_3384 S35_1 S35_455 S36_1 S37_1 S37_6206 S38_1 LT5_1; generalize (G5_1_5 F F) = c, (G5_1_14 F F) = c, (G5_1_25 F F) = c, (G5_1_38 F F) = c;  (try delta G5_1_25); generalize (f12_1 F : Y12_1) = c, (f21_1 F : Y21_1) = c, (f22_1 F : Y22_1) = c, (f23_1 F : Y23_1) = c, (f24_1 F : Y24_1) = c, (f24_1385 F : Y24_1385) = c, (f25_1 F : Y25_1) = c, (f26_1 F : Y26_1) = c, (f27_1 F : Y27_1) = c, (f27_568 F : Y27_568) = c, (f28_1 F : Y28_1) = c, (f28_568 F : Y28_568) = c, (f29_1 F : Y29_1) = c, (f29_6206 F : Y29_6206) = c, (f30_1 F : Y30_1) = c, (f31_1 F : Y31_1) = c, (f31_4108 F : Y31_4108) = c, (f32_1 F : Y32_1) = c, (f32_7155 F : Y32_7155) = c, (f33_1 F : Y33_1) = c, (f33_568 F : Y33_568) = c, (f34_1 F : Y34_1) = c, (f34_3384 F : Y34_3384) = c, (f35_1 F : Y35_1) = c, (f35_455 F : Y35_455) = c, (f36_1 F : Y36_1) = c, (f37_1 F : Y37_1) = c, (f37_6206 F : Y37_6206) = c, (f38_1 F : Y38_1) = c, (f5_1_l25 F : Y5_1_l25) = c, (f5_1_l25_2 F : Y5_1_l25_2) = c; as_aux_lemma => kernel_rfl) (verOK_last (s := sh5_1_l25_2) (live := [2, 3, 7, 10, 17]) (out := (outT [(.exit 4, [3, 7, 10])])) (mv := []) (all := (G5_1_25 F)) (fun k d K => A5_1_l25_2 (f5_1_l25_2 F) k d K) (fun d K => by kernel_rfl) (fun k d K => by delta A5_1_l25_2; refine (f5_1_l25_2.eq_2 ..).trans ?_; delta T5_1 S12_1 S21_1 S22_1 S23_1 S24_1 S24_1385 S25_1 S26_1 S27_1 S27_568 S28_1 S28_568 S29_1 S29_6206 S30_1 S31_1 S31_4108 S32_1 S32_7155 S33_1 S33_568 S34_1 S34_3384 S35_1 S35_455 S36_1 S37_1 S37_6206 S38_1 LT5_1; generalize (G5_1_5 F F) = c, (G5_1_14 F F) = c, (G5_1_25 F F) = c, (G5_1_38 F F) = c;  (try delta G5_1_25); generalize (f12_1 F : Y12_1) = c, (f21_1 F : Y21_1) = c, (f22_1 F : Y22_1) = c, (f23_1 F : Y23_1) = c, (f24_1 F : Y24_1) = c, (f24_1385 F : Y24_1385) = c, (f25_1 F : Y25_1) = c, (f26_1 F : Y26_1) = c, (f27_1 F : Y27_1) = c, (f27_568 F : Y27_568) = c, (f28_1 F : Y28_1) = c, (f28_568 F : Y28_568) = c, (f29_1 F : Y29_1) = c, (f29_6206 F : Y29_6206) = c, (f30_1 F : Y30_1) = c, (f31_1 F : Y31_1) = c, (f31_4108 F : Y31_4108) = c, (f32_1 F : Y32_1) = c, (f32_7155 F : Y32_7155) = c, (f33_1 F : Y33_1) = c, (f33_568 F : Y33_568) = c, (f34_1 F : Y34_1) = c, (f34_3384 F : Y34_3384) = c, (f35_1 F : Y35_1) = c, (f35_455 F : Y35_455) = c, (f36_1 F : Y36_1) = c, (f37_1 F : Y37_1) = c, (f37_6206 F : Y37_6206) = c, (f38_1 F : Y38_1) = c, (f5_1_l25 F : Y5_1_l25) = c, (f5_1_l25_2 F : Y5_1_l25_2) = c; as_aux_lemma => kernel_rfl)))
theorem L5_1_38 (F : Nat) : LoopOK Tryz.prog (T5_1 F) (xw [19, 23]) 245 2 (LT5_1 F) (G5_1_38 F F) b5_3 :=
  loopOK_vers (G5_1_38 F) F (fun k => ⟨rfl, rfl⟩) (verOK_cons (s := sh5_1_l38) (all := (G5_1_38 F)) (fun k d K => A5_1_l38 (f5_1_l38 F) k d K) (fun d K => by kernel_rfl) (fun k d K => by delta A5_1_l38; refine (f5_1_l38.eq_2 ..).trans ?_; delta T5_1 S12_1 S21_1 S22_1 S23_1 S24_1 S24_1385 S25_1 S26_1 S27_1 S27_568 S28_1 S28_568 S29_1 S29_6206 S30_1 S31_1 S31_4108 S32_1 S32_7155 S33_1 S33_568 S34_1 S34_3384 S35_1 S35_455 S36_1 S37_1 S37_6206 S38_1 LT5_1; generalize (G5_1_5 F F) = c, (G5_1_14 F F) = c, (G5_1_25 F F) = c, (G5_1_38 F F) = c;  (try delta G5_1_38); generalize (f12_1 F : Y12_1) = c, (f21_1 F : Y21_1) = c, (f22_1 F : Y22_1) = c, (f23_1 F : Y23_1) = c, (f24_1 F : Y24_1) = c, (f24_1385 F : Y24_1385) = c, (f25_1 F : Y25_1) = c, (f26_1 F : Y26_1) = c, (f27_1 F : Y27_1) = c, (f27_568 F : Y27_568) = c, (f28_1 F : Y28_1) = c, (f28_568 F : Y28_568) = c, (f29_1 F : Y29_1) = c, (f29_6206 F : Y29_6206) = c, (f30_1 F : Y30_1) = c, (f31_1 F : Y31_1) = c, (f31_4108 F : Y31_4108) = c, (f32_1 F : Y32_1) = c, (f32_7155 F : Y32_7155) = c, (f33_1 F : Y33_1) = c, (f33_568 F : Y33_568) = c, (f34_1 F : Y34_1) = c, (f34_3384 F : Y34_3384) = c, (f35_1 F : Y35_1) = c, (f35_455 F : Y35_455) = c, (f36_1 F : Y36_1) = c, (f37_1 F : Y37_1) = c, (f37_6206 F : Y37_6206) = c, (f38_1 F : Y38_1) = c, (f5_1_l38 F : Y5_1_l38) = c, (f5_1_l38_2 F : Y5_1_l38_2) = c; as_aux_lemma => kernel_rfl) (verOK_last (s := sh5_1_l38_2) (live := [3, 7, 10, 19, 20, 21]) (out := (outT [(.exit 6, [3, 7, 19, 20]), (.ret, [6])])) (mv := []) (all := (G5_1_38 F)) (fun k d K => A5_1_l38_2 (f5_1_l38_2 F) k d K) (fun d K => by kernel_rfl) (fun k d K => by delta A5_1_l38_2; refine (f5_1_l38_2.eq_2 ..).trans ?_; delta T5_1 S12_1 S21_1 S22_1 S23_1 S24_1 S24_1385 S25_1 S26_1 S27_1 S27_568 S28_1 S28_568 S29_1 S29_6206 S30_1 S31_1 S31_4108 S32_1 S32_7155 S33_1 S33_568 S34_1 S34_3384 S35_1 S35_455 S36_1 S37_1 S37_6206 S38_1 LT5_1; generalize (G5_1_5 F F) = c, (G5_1_14 F F) = c, (G5_1_25 F F) = c, (G5_1_38 F F) = c;  (try delta G5_1_38); generalize (f12_1 F : Y12_1) = c, (f21_1 F : Y21_1) = c, (f22_1 F : Y22_1) = c, (f23_1 F : Y23_1) = c, (f24_1 F : Y24_1) = c, (f24_1385 F : Y24_1385) = c, (f25_1 F : Y25_1) = c, (f26_1 F : Y26_1) = c, (f27_1 F : Y27_1) = c, (f27_568 F : Y27_568) = c, (f28_1 F : Y28_1) = c, (f28_568 F : Y28_568) = c, (f29_1 F : Y29_1) = c, (f29_6206 F : Y29_6206) = c, (f30_1 F : Y30_1) = c, (f31_1 F : Y31_1) = c, (f31_4108 F : Y31_4108) = c, (f32_1 F : Y32_1) = c, (f32_7155 F : Y32_7155) = c, (f33_1 F : Y33_1) = c, (f33_568 F : Y33_568) = c, (f34_1 F : Y34_1) = c, (f34_3384 F : Y34_3384) = c, (f35_1 F : Y35_1) = c, (f35_455 F : Y35_455) = c, (f36_1 F : Y36_1) = c, (f37_1 F : Y37_1) = c, (f37_6206 F : Y37_6206) = c, (f38_1 F : Y38_1) = c, (f5_1_l38 F : Y5_1_l38) = c, (f5_1_l38_2 F : Y5_1_l38_2) = c; as_aux_lemma => kernel_rfl)))
theorem E5_1 (F : Nat) (d : sh5_1.den) (K : KF) : EB Tryz.prog (T5_1 F) (xw [19, 23]) 245 2 (LT5_1 F) [] false Tryz.f5 sh5_1 d K = A5_1 (f5_1 F) d K := by delta A5_1 f5_1 T5_1 S12_1 S21_1 S22_1 S23_1 S24_1 S24_1385 S25_1 S26_1 S27_1 S27_568 S28_1 S28_568 S29_1 S29_6206 S30_1 S31_1 S31_4108 S32_1 S32_7155 S33_1 S33_568 S34_1 S34_3384 S35_1 S35_455 S36_1 S37_1 S37_6206 S38_1 LT5_1;  delta G5_1_5 G5_1_14 G5_1_25 G5_1_38; generalize (f12_1 F : Y12_1) = c, (f21_1 F : Y21_1) = c, (f22_1 F : Y22_1) = c, (f23_1 F : Y23_1) = c, (f24_1 F : Y24_1) = c, (f24_1385 F : Y24_1385) = c, (f25_1 F : Y25_1) = c, (f26_1 F : Y26_1) = c, (f27_1 F : Y27_1) = c, (f27_568 F : Y27_568) = c, (f28_1 F : Y28_1) = c, (f28_568 F : Y28_568) = c, (f29_1 F : Y29_1) = c, (f29_6206 F : Y29_6206) = c, (f30_1 F : Y30_1) = c, (f31_1 F : Y31_1) = c, (f31_4108 F : Y31_4108) = c, (f32_1 F : Y32_1) = c, (f32_7155 F : Y32_7155) = c, (f33_1 F : Y33_1) = c, (f33_568 F : Y33_568) = c, (f34_1 F : Y34_1) = c, (f34_3384 F : Y34_3384) = c, (f35_1 F : Y35_1) = c, (f35_455 F : Y35_455) = c, (f36_1 F : Y36_1) = c, (f37_1 F : Y37_1) = c, (f37_6206 F : Y37_6206) = c, (f38_1 F : Y38_1) = c, (f5_1_l5 F : Y5_1_l5) = c, (f5_1_l5_2 F : Y5_1_l5_2) = c, (f5_1_l14 F : Y5_1_l14) = c, (f5_1_l14_2 F : Y5_1_l14_2) = c, (f5_1_l25 F : Y5_1_l25) = c, (f5_1_l25_2 F : Y5_1_l25_2) = c, (f5_1_l38 F : Y5_1_l38) = c, (f5_1_l38_2 F : Y5_1_l38_2) = c; as_aux_lemma => kernel_rfl
theorem S5_1_ok : So Tryz.prog 5 S5_1 :=
  fun F o ho => sOf (fn := Tryz.f5) (c := code5) (tab_cons (S12_1_ok F _ (noS_sound enter12)) (tab_cons (S21_1_ok F _ (noS_sound enter21)) (tab_cons (S22_1_ok F _ (noS_sound enter22)) (tab_cons (S23_1_ok F _ (noS_sound enter23)) (tab_cons (S24_1_ok F _ (S24_1385_ok F _ (noS_sound enter24))) (tab_cons (S25_1_ok F _ (noS_sound enter25)) (tab_cons (S26_1_ok F _ (noS_sound enter26)) (tab_cons (S27_1_ok F _ (S27_568_ok F _ (noS_sound enter27))) (tab_cons (S28_1_ok F _ (S28_568_ok F _ (noS_sound enter28))) (tab_cons (S29_1_ok F _ (S29_6206_ok F _ (noS_sound enter29))) (tab_cons (S30_1_ok F _ (noS_sound enter30)) (tab_cons (S31_1_ok F _ (S31_4108_ok F _ (noS_sound enter31))) (tab_cons (S32_1_ok F _ (S32_7155_ok F _ (noS_sound enter32))) (tab_cons (S33_1_ok F _ (S33_568_ok F _ (noS_sound enter33))) (tab_cons (S34_1_ok F _ (S34_3384_ok F _ (noS_sound enter34))) (tab_cons (S35_1_ok F _ (S35_455_ok F _ (noS_sound enter35))) (tab_cons (S36_1_ok F _ (noS_sound enter36)) (tab_cons (S37_1_ok F _ (S37_6206_ok F _ (noS_sound enter37))) (tab_cons (S38_1_ok F _ (noS_sound enter38)) tab_nil))))))))))))))))))) ho (by rw [loops5]; exact (loopsOK_cons (by kernel_rfl) (L5_1_5 F) (loopsOK_cons (by kernel_rfl) (L5_1_14 F) (loopsOK_cons (by kernel_rfl) (L5_1_25 F) (loopsOK_cons (by kernel_rfl) (L5_1_38 F) loopsOK_nil))))) snil rnil (E5_1 F)
end
section
variable [FZ]
end
section
variable [FZ]
end
section
variable [FZ]
end
section
variable [FZ]
end
section
variable [FZ]
end
section
variable [FZ]
end
end Go.Proofs.YtlgopekjjkdkiaaGreatDoor.X
end
section
namespace Go.Proofs.YtlgopekjjkdkiaaGreatDoor.X
open Go Go.Proofs.YtlgopekjjkdkiaaGreatDoor.Ev
set_option linter.unusedSectionVars false
set_option linter.unusedVariables false
set_option linter.unusedSimpArgs false
section
variable [FZ]
theorem w64 {x : Int} (h : -9223372036854775808 ≤ x) (h' : x ≤ 9223372036854775807) : IntKind.i64.wrap x = x := by
  simp only [IntKind.wrap, IntKind.bits, IntKind.signed, Bool.true_and]
  split <;> (rename_i hq; simp at hq; omega)
theorem wu64 {x : Int} (h : 0 ≤ x) (h' : x < 18446744073709551616) : IntKind.u64.wrap x = x := by
  simp only [IntKind.wrap, IntKind.bits, IntKind.signed, Bool.false_and]
  simp; omega
theorem wu32 {x : Int} (h : 0 ≤ x) (h' : x < 4294967296) : IntKind.u32.wrap x = x := by
  simp only [IntKind.wrap, IntKind.bits, IntKind.signed, Bool.false_and]
  simp; omega
theorem wu8 {x : Int} (h : 0 ≤ x) (h' : x < 256) : IntKind.u8.wrap x = x := by
  simp only [IntKind.wrap, IntKind.bits, IntKind.signed, Bool.false_and]
  simp; omega
theorem wu32m (x : Int) : IntKind.u32.wrap x = x % 4294967296 := by
  simp only [IntKind.wrap, IntKind.bits, IntKind.signed, Bool.false_and]
  simp
theorem wu8m (x : Int) : IntKind.u8.wrap x = x % 256 := by
  simp only [IntKind.wrap, IntKind.bits, IntKind.signed, Bool.false_and]
  simp
theorem i64_of_wf {n : Int} (h : (Lit.int .i64 n).wf = true) : -9223372036854775808 ≤ n ∧ n ≤ 9223372036854775807 := by
  simp [Lit.wf, IntKind.min, IntKind.max, IntKind.bits, IntKind.signed] at h; omega
theorem or64 {A B : Nat} (hA : A < 2 ^ 64) (hB : B < 2 ^ 64) : ior .u64 (A : Int) (B : Int) = ((A ||| B : Nat) : Int) := by
  have h : (BitVec.ofInt 64 (A : Int) ||| BitVec.ofInt 64 (B : Int)).toNat = A ||| B := by
    simp [BitVec.toNat_or, BitVec.ofInt_natCast, BitVec.toNat_ofNat, Nat.mod_eq_of_lt hA, Nat.mod_eq_of_lt hB]
  have hl := Nat.or_lt_two_pow hA hB
  show IntKind.u64.wrap ((BitVec.ofInt 64 (A : Int) ||| BitVec.ofInt 64 (B : Int)).toNat : Int) = _
  rw [h, wu64 (by omega) (by omega)]
theorem and64 {A B : Nat} (hA : A < 2 ^ 64) (hB : B < 2 ^ 64) : iand .u64 (A : Int) (B : Int) = ((A &&& B : Nat) : Int) := by
  have h : (BitVec.ofInt 64 (A : Int) &&& BitVec.ofInt 64 (B : Int)).toNat = A &&& B := by
    simp [BitVec.toNat_and, BitVec.ofInt_natCast, BitVec.toNat_ofNat, Nat.mod_eq_of_lt hA, Nat.mod_eq_of_lt hB]
  have hl : A &&& B < 2 ^ 64 := Nat.and_lt_two_pow A hB
  show IntKind.u64.wrap ((BitVec.ofInt 64 (A : Int) &&& BitVec.ofInt 64 (B : Int)).toNat : Int) = _
  rw [h, wu64 (by omega) (by omega)]
def mk (f : Nat → Bool) : Nat → Nat
  | 0 => 0
  | n + 1 => if f n then mk f n ||| 2 ^ n else mk f n
theorem ct {α : Sort _} {p : Prop} [Decidable p] {a b : α} (h : p) : cond (decide p) a b = a := by simp [h]
theorem cf {α : Sort _} {p : Prop} [Decidable p] {a b : α} (h : ¬ p) : cond (decide p) a b = b := by simp [h]
end
section
variable [FZ]
abbrev WL := List (Int × ByteArray)
structure DS (n k : Nat) (a c : Int) (l : List ByteArray) (w : WL) : Prop where
  n40 : n ≤ 2000
  k300 : k ≤ 6000
  len : l.length = n
  wl : w.length ≤ k
  wb : ∀ p ∈ w, 0 ≤ p.1 ∧ p.1 < n
  ar : -1 ≤ a ∧ a ≤ 9223372036854775807
  cr : 0 ≤ c ∧ c ≤ k
theorem getD_of_drop {α : Type} {l r : List α} {i : Nat} {x d : α} (h : l.drop i = x :: r) : i < l.length ∧ l.getD (0 + (i : Int).toNat) d = x ∧ l.drop (i + 1) = r := by
  have h1 : i < l.length := by
    rcases Nat.lt_or_ge i l.length with h1 | h1
    · exact h1
    · rw [List.drop_eq_nil_of_le h1] at h; cases h
  rw [List.drop_eq_getElem_cons h1] at h
  injection h with h2 h3
  refine ⟨h1, ?_, h3⟩
  simp [h1, h2]
theorem getD_out {α : Type} {l : List α} {i : Nat} {d : α} (h : l.length ≤ i) : l.getD i d = d := by simp [List.getD_eq_getElem?_getD, List.getElem?_eq_none h]
theorem len_of_drop_nil {α : Type} {l : List α} {i : Nat} (h : l.drop i = []) (hi : i ≤ l.length) : i = l.length := by
  have := congrArg List.length h
  simp at this; omega
def kp (x : Int) (l : List ByteArray) : ByteArray × Int := if 0 ≤ x ∧ x < (l.length : Int) then (l.getD x.toNat ByteArray.empty, 0) else (ByteArray.empty, 3)
theorem keptP {β : Type} {F : Nat} {x a c : Int} {b : Bool} {l : List ByteArray} {w : WL} {K : ByteArray → Int → Option β} : f15_1 F x a b c l w K = K (kp x l).1 (kp x l).2 := by
  rw [f15_1, f77_1, kp]
  by_cases h1 : 0 ≤ x
  · rw [ct (by omega)]
    by_cases h2 : x < (l.length : Int)
    · rw [if_pos ⟨h1, h2⟩, decide_eq_true h2, Bool.not_true, cond_false, ct ⟨h1, h2⟩, ct (by omega), Nat.zero_add]
    · rw [if_neg (by omega), decide_eq_false h2, Bool.not_false, cond_true]
  · rw [cf (by omega), if_neg (by omega), Bool.not_false, cond_true]
def last (x : Int) (s : ByteArray) (w : WL) : ByteArray := w.foldl (fun s p => if p.1 = x then p.2 else s) s
def rd (x : Int) (b : Bool) (l : List ByteArray) (w : WL) : ByteArray × Int :=
  if b then (ByteArray.empty, 5) else (if 0 ≤ x ∧ x < (l.length : Int) then last x (l.getD x.toNat ByteArray.empty) w else ByteArray.empty, (kp x l).2)
def lastW (x : Int) : WL → Option ByteArray
  | [] => none
  | p :: r => match lastW x r with
    | some s => some s
    | none => if p.1 = x then some p.2 else none
theorem last_eq (x : Int) : ∀ (w : WL) (s : ByteArray), last x s w = (match lastW x w with | some t => t | none => s)
  | [], s => rfl
  | p :: r, s => by
    rw [last, List.foldl_cons, ← last, last_eq x r, lastW]
    cases lastW x r with
    | some t => rfl
    | none =>
      by_cases hp : p.1 = x
      · simp [hp]
      · simp [hp]
theorem lastW_app (x : Int) (p : Int × ByteArray) : ∀ w : WL, lastW x (w ++ [p]) = if p.1 = x then some p.2 else lastW x w
  | [] => by simp [lastW]
  | q :: r => by
    rw [List.cons_append, lastW, lastW_app x p r, lastW]
    by_cases hp : p.1 = x
    · simp [hp]
    · simp [hp]
theorem readPl {β : Type} {F : Nat} {x a c z : Int} {b : Bool} {l : List ByteArray} {w : WL} {s : ByteArray} {K0 : ByteArray → Int → ByteArray → Option β} {K1 : Option β} (hw : w.length ≤ 6000) : ∀ (i k : Nat), i ≤ w.length → i < k →
    f37_1_r2000006_l1 F a b c l w x s z K0 K1 k ((i : Int) - 1) = (match lastW x (w.take i) with | some t => K0 t x t | none => K1)
  | _, 0, _, h => by omega
  | 0, k + 1, _, _ => by
    rw [f37_1_r2000006_l1, cf (by omega)]; rfl
  | i + 1, k + 1, hi, hk => by
    have h1 : i < w.length := by omega
    have e1 : (((i + 1 : Nat) : Int) - 1) = (i : Int) := by omega
    rw [e1, f37_1_r2000006_l1, ct (by omega), ct (by omega), ct (by omega), w64 (by omega) (by omega), readPl hw i k (by omega) (by omega)]
    have hg : w.getD (0 + (i : Int).toNat) ((0, ByteArray.empty) : Int × ByteArray) = w[i] := by simp [h1]
    rw [hg, List.take_succ_eq_append_getElem h1, lastW_app]
    by_cases hp : w[i].1 = x
    · rw [if_pos hp, show (w[i].1 == x) = true from by simp [hp], cond_true, hp]
    · rw [if_neg hp, show (w[i].1 == x) = false from by simp [hp], cond_false]
theorem lastW_none {x : Int} : ∀ {w : WL}, (∀ p ∈ w, p.1 ≠ x) → lastW x w = none
  | [], _ => rfl
  | p :: r, h => by rw [lastW, lastW_none (fun q hq => h q (by simp [hq]))]; simp [h p (by simp)]
theorem readP {β : Type} {F n k : Nat} (hF : 7000 ≤ F) {x a c : Int} {b : Bool} {l : List ByteArray} {w : WL} (h : DS n k a c l w) {K : ByteArray → Int → Option β} : f37_1 F x a b c l w K = K (rd x b l w).1 (rd x b l w).2 := by
  have hk := h.k300; have hwl := h.wl
  rw [f37_1]
  cases b with
  | true => rfl
  | false =>
    rw [cond_false, f99_1, f37_1_r2000006, w64 (by omega) (by omega), readPl (by omega) w.length F (Nat.le_refl _) (by omega), List.take_length, rd, if_neg (by simp)]
    by_cases hx : 0 ≤ x ∧ x < (l.length : Int)
    · rw [if_pos hx, last_eq]
      cases hq : lastW x w with
      | none => simp only [keptP]; rw [kp, if_pos hx]
      | some t => simp only [kp, if_pos hx]
    · rw [if_neg hx, lastW_none (fun p hp he => hx (by have := h.wb p hp; have := h.len; omega))]
      simp only [keptP]; rw [kp, if_neg hx]
def dec (a : Int) : Int := if a = -1 then a else a - 1
def wS (x : Int) (t : ByteArray) (a : Int) (b : Bool) (c : Int) (l : List ByteArray) (w : WL) : Int × Int × Bool × Int × WL :=
  if b then (5, a, b, c, w) else if ¬ (0 ≤ x ∧ x < (l.length : Int)) then (3, a, b, c, w) else if t.size ≠ 64 then (4, a, b, c, w) else if a = 0 then (5, -1, true, c, w) else (0, dec a, b, c + 1, w ++ [(x, t)])
theorem writeP {β : Type} {F n k : Nat} {x a c : Int} {t : ByteArray} {b : Bool} {l : List ByteArray} {w : WL} (h : DS n k a c l w) {K : Int → Int → Bool → Int → WL → Option β} :
    f24_1 F x t a b c l w K = K (wS x t a b c l w).1 (wS x t a b c l w).2.1 (wS x t a b c l w).2.2.1 (wS x t a b c l w).2.2.2.1 (wS x t a b c l w).2.2.2.2 := by
  have hk := h.k300; have hwl := h.wl; have ha := h.ar; have hc := h.cr
  rw [f24_1, wS]
  cases b with
  | true => rfl
  | false =>
    rw [cond_false, if_neg (by simp), f77_1, f85_1, f86_1]
    by_cases h1 : 0 ≤ x
    · rw [ct (by omega)]
      by_cases h2 : x < (l.length : Int)
      · rw [if_neg (by simp [h1, h2]), decide_eq_true h2, Bool.not_true, cond_false]
        by_cases h3 : t.size = 64
        · rw [if_neg (by simp [h3]), show ((t.size : Int) == 64) = true from by simp [h3], Bool.not_true, cond_false]
          by_cases h4 : a = 0
          · subst h4; rfl
          · rw [if_neg h4, show (a == 0) = false from by simp [h4], cond_false, dec]
            by_cases h5 : a = -1
            · rw [if_pos h5, show (a == -1) = true from by simp [h5], cond_true, cond_false, ct (by omega), w64 (by omega) (by omega)]
            · rw [if_neg h5, show (a == -1) = false from by simp [h5], cond_false, cond_false, ct (by omega), w64 (x := a - 1) (by omega) (by omega), w64 (by omega) (by omega)]
        · rw [if_pos (by simpa using h3), show ((t.size : Int) == 64) = false from by simp; omega]; rfl
      · rw [if_pos (by omega), decide_eq_false h2]; rfl
    · rw [cf (by omega), if_pos (by omega)]; rfl
def put1 (l : List ByteArray) (p : Int × ByteArray) : List ByteArray := l.set p.1.toNat p.2
theorem put1_len (l : List ByteArray) (p : Int × ByteArray) : (put1 l p).length = l.length := by simp [put1]
theorem puts_len : ∀ (w : WL) (l : List ByteArray), (w.foldl put1 l).length = l.length
  | [], l => rfl
  | p :: r, l => by rw [List.foldl_cons, puts_len r, put1_len]
theorem flushPl {β : Type} {F n : Nat} {a c : Int} {b : Bool} {w : WL} {K : List ByteArray → Option β} (hw : w.length ≤ 6000) (hb : ∀ p ∈ w, 0 ≤ p.1 ∧ p.1 < (n : Int)) : ∀ (r : WL) (i k : Nat) (l : List ByteArray), w.drop i = r → i ≤ w.length → r.length < k → l.length = n →
    f27_1_l6 F ((w.length : Nat) : Int) a b c w K k (i : Int) l = K (r.foldl put1 l)
  | [], i, 0, s, _, _, hk, _ => by simp at hk
  | _ :: _, i, 0, s, _, _, hk, _ => by simp at hk
  | [], i, k + 1, s, hd, hi, _, _ => by
    have := len_of_drop_nil hd hi
    rw [f27_1_l6, cf (by omega)]; rfl
  | p :: r, i, k + 1, l, hd, hi, hk, hl => by
    obtain ⟨h1, h2, h3⟩ := getD_of_drop (d := ((0, ByteArray.empty) : Int × ByteArray)) hd
    have hp := hb p (List.mem_of_mem_drop (by rw [hd]; simp))
    rw [f27_1_l6, ct (by omega), ct (by omega), ct (by omega), h2, ct (by omega), ct (by omega), w64 (by omega) (by omega), Nat.zero_add, List.foldl_cons]
    exact flushPl hw hb r (i + 1) k (put1 l p) h3 (by omega) (by simp at hk; omega) (by rw [put1_len]; exact hl)
def fS (a : Int) (b : Bool) (c : Int) (l : List ByteArray) (w : WL) : Int × Int × Bool × Int × List ByteArray × WL :=
  if b then (5, a, b, c, l, w) else if a = 0 then (5, -1, true, c, l, w) else (0, dec a, b, c + 1, w.foldl put1 l, [])
theorem flushP {β : Type} {F n k : Nat} (hF : 7000 ≤ F) {a c : Int} {b : Bool} {l : List ByteArray} {w : WL} (h : DS n k a c l w) {K : Int → Int → Bool → Int → List ByteArray → WL → Option β} :
    f27_1 F a b c l w K = K (fS a b c l w).1 (fS a b c l w).2.1 (fS a b c l w).2.2.1 (fS a b c l w).2.2.2.1 (fS a b c l w).2.2.2.2.1 (fS a b c l w).2.2.2.2.2 := by
  have hk := h.k300; have hwl := h.wl; have ha := h.ar; have hc := h.cr
  rw [f27_1, fS, f86_1]
  cases b with
  | true => rfl
  | false =>
    rw [cond_false, if_neg (by simp)]
    by_cases h4 : a = 0
    · subst h4; rfl
    · rw [if_neg h4, show (a == 0) = false from by simp [h4], cond_false, dec]
      by_cases h5 : a = -1
      · rw [if_pos h5, show (a == -1) = true from by simp [h5], cond_true, Bool.not_true, cond_false, w64 (by omega) (by omega)]
        exact flushPl (by omega) h.wb w 0 F l rfl (by omega) (by omega) h.len
      · rw [if_neg h5, show (a == -1) = false from by simp [h5], cond_false, Bool.not_true, cond_false, w64 (x := a - 1) (by omega) (by omega), w64 (by omega) (by omega)]
        exact flushPl (by omega) h.wb w 0 F l rfl (by omega) (by omega) h.len
section
variable {n k : Nat} {a c : Int} {l : List ByteArray} {w : WL}
theorem DS.more (h : DS n k a c l w) (hk : k < 6000) : DS n (k + 1) a c l w := ⟨h.n40, by omega, h.len, by have := h.wl; omega, h.wb, h.ar, by have := h.cr; omega⟩
theorem DS.off (h : DS n k a c l w) (hk : k < 6000) : DS n (k + 1) (-1) c l w := ⟨h.n40, by omega, h.len, by have := h.wl; omega, h.wb, by omega, by have := h.cr; omega⟩
theorem DS.wrote (h : DS n k a c l w) (hk : k < 6000) (h0 : a ≠ 0) {x : Int} {t : ByteArray} (hx : 0 ≤ x ∧ x < (l.length : Int)) : DS n (k + 1) (dec a) (c + 1) l (w ++ [(x, t)]) :=
  ⟨h.n40, by omega, h.len, by have := h.wl; simp; omega, fun p hp => by
    rcases List.mem_append.1 hp with hp | hp
    · exact h.wb p hp
    · simp at hp; subst hp; rw [← h.len]; exact hx, by have := h.ar; unfold dec; split <;> omega, by have := h.cr; omega⟩
theorem DS.flushed (h : DS n k a c l w) (hk : k < 6000) (h0 : a ≠ 0) : DS n (k + 1) (dec a) (c + 1) (w.foldl put1 l) [] :=
  ⟨h.n40, by omega, by rw [puts_len]; exact h.len, by simp, fun p hp => (by cases hp), by have := h.ar; unfold dec; split <;> omega, by have := h.cr; omega⟩
end
theorem wS_ok {n k : Nat} {x a c : Int} {t : ByteArray} {b : Bool} {l : List ByteArray} {w : WL} (h : DS n k a c l w) (hk : k < 6000) : DS n (k + 1) (wS x t a b c l w).2.1 (wS x t a b c l w).2.2.2.1 l (wS x t a b c l w).2.2.2.2 := by
  unfold wS
  split
  · exact h.more hk
  · split
    · exact h.more hk
    · rename_i h2
      split
      · exact h.more hk
      · split
        · exact h.off hk
        · rename_i h4
          exact h.wrote hk h4 (Classical.not_not.1 h2)
theorem fS_ok {n k : Nat} {a c : Int} {b : Bool} {l : List ByteArray} {w : WL} (h : DS n k a c l w) (hk : k < 6000) : DS n (k + 1) (fS a b c l w).2.1 (fS a b c l w).2.2.2.1 (fS a b c l w).2.2.2.2.1 (fS a b c l w).2.2.2.2.2 := by
  unfold fS
  split
  · exact h.more hk
  · split
    · exact h.off hk
    · rename_i h4
      exact h.flushed hk h4
end
end Go.Proofs.YtlgopekjjkdkiaaGreatDoor.X
end
section
namespace Go.Proofs.YtlgopekjjkdkiaaGreatDoor.X
open Go Go.Proofs.YtlgopekjjkdkiaaGreatDoor.Ev Go.Proofs
set_option linter.unusedVariables false
set_option linter.unusedSectionVars false
section
variable [FZ]
end
end Go.Proofs.YtlgopekjjkdkiaaGreatDoor.X
end
section
namespace Go.Proofs.YtlgopekjjkdkiaaGreatDoor.X
open Go Go.Proofs.YtlgopekjjkdkiaaGreatDoor.Ev
set_option linter.unusedSectionVars false
set_option linter.unusedVariables false
set_option linter.unusedSimpArgs false
section
variable [FZ]
def crB (ks : List Bool) : Nat → WL → List ByteArray → List ByteArray
  | _, [], l => l
  | i, p :: r, l => crB ks (i + 1) r (if ks.getD i false then put1 l p else l)
theorem crB_len (ks : List Bool) : ∀ (w : WL) (i : Nat) (l : List ByteArray), (crB ks i w l).length = l.length
  | [], _, l => rfl
  | p :: r, i, l => by
    rw [crB, crB_len ks r]
    split
    · exact put1_len l p
    · rfl
theorem crashPl {β : Type} {F n : Nat} {a c : Int} {b : Bool} {w : WL} {ks : List Bool} {K : List ByteArray → Option β} (hw : w.length ≤ 6000) (hb : ∀ p ∈ w, 0 ≤ p.1 ∧ p.1 < (n : Int)) : ∀ (r : WL) (i k : Nat) (l : List ByteArray), w.drop i = r → i ≤ w.length → r.length < k → l.length = n →
    f32_1_l2 F ((w.length : Nat) : Int) a b c w ks K k (i : Int) l = K (crB ks i r l)
  | [], i, 0, s, _, _, hk, _ => by simp at hk
  | _ :: _, i, 0, s, _, _, hk, _ => by simp at hk
  | [], i, k + 1, s, hd, hi, _, _ => by
    have := len_of_drop_nil hd hi
    rw [f32_1_l2, cf (by omega)]; rfl
  | p :: r, i, k + 1, l, hd, hi, hk, hl => by
    obtain ⟨h1, h2, h3⟩ := getD_of_drop (d := ((0, ByteArray.empty) : Int × ByteArray)) hd
    have hp := hb p (List.mem_of_mem_drop (by rw [hd]; simp))
    have ih := fun l hl => crashPl (F := F) (a := a) (b := b) (c := c) (ks := ks) (K := K) hw hb r (i + 1) k l h3 (by omega) (by simp at hk; omega) hl
    push_cast at ih
    rw [f32_1_l2, ct (by omega), ct (by omega), ct (by omega), h2, w64 (by omega) (by omega), crB]
    by_cases hq : (i : Int) < ((ks.length : Nat) : Int)
    · have hg : ks.getD (0 + (i : Int).toNat) false = ks.getD i false := by rw [Nat.zero_add]; rfl
      rw [ct hq, ct (by omega), ct (by omega), hg]
      cases ks.getD i false with
      | false => rw [cond_false, ih l hl]; rfl
      | true => rw [cond_true, ct (by omega), ct (by omega), Nat.zero_add]; exact ih (put1 l p) (by rw [put1_len]; exact hl)
    · rw [cf hq, ih l hl, getD_out (by omega)]; rfl
theorem crashP {β : Type} {F n k : Nat} (hF : 7000 ≤ F) {a c : Int} {b : Bool} {l : List ByteArray} {w : WL} (h : DS n k a c l w) {ks : List Bool} {K : List ByteArray → WL → Option β} :
    f32_1 F a b c l w ks K = K (crB ks 0 w l) [] := by
  have hk := h.k300; have hwl := h.wl
  rw [f32_1]
  exact crashPl (by omega) h.wb w 0 F l rfl (by omega) (by omega) h.len
section
variable {n k : Nat} {a c : Int} {l : List ByteArray} {w : WL}
theorem DS.came (h : DS n k a c l w) (hk : k < 6000) : DS n (k + 1) (-1) c l [] :=
  ⟨h.n40, by omega, h.len, by simp, fun p hp => (by cases hp), by omega, by have := h.cr; omega⟩
end
abbrev St := Int × Int × Bool × Int × List ByteArray × WL
def svS (x : Int) (t : ByteArray) (a : Int) (b : Bool) (c : Int) (l : List ByteArray) (w : WL) : St :=
  if (wS x t a b c l w).1 ≠ 0 then ((wS x t a b c l w).1, (wS x t a b c l w).2.1, (wS x t a b c l w).2.2.1, (wS x t a b c l w).2.2.2.1, l, (wS x t a b c l w).2.2.2.2)
  else fS (wS x t a b c l w).2.1 (wS x t a b c l w).2.2.1 (wS x t a b c l w).2.2.2.1 l (wS x t a b c l w).2.2.2.2
def app {β : Type} (K : Int → Int → Bool → Int → List ByteArray → WL → Option β) (s : St) : Option β := K s.1 s.2.1 s.2.2.1 s.2.2.2.1 s.2.2.2.2.1 s.2.2.2.2.2
theorem svS_ok {m k : Nat} {a d : Int} {b : Bool} {l : List ByteArray} {w : WL} {x : Int} {t : ByteArray} (h : DS m k a d l w) (hk : k < 5999) : DS m (k + 2) (svS x t a b d l w).2.1 (svS x t a b d l w).2.2.2.1 (svS x t a b d l w).2.2.2.2.1 (svS x t a b d l w).2.2.2.2.2 := by
  have h1 := wS_ok (x := x) (t := t) (b := b) h (by omega)
  unfold svS
  by_cases q : (wS x t a b d l w).1 = 0
  · rw [if_neg (show ¬ (wS x t a b d l w).1 ≠ 0 from fun hh => hh q)]
    exact fS_ok h1 (by omega)
  · rw [if_pos (show (wS x t a b d l w).1 ≠ 0 from q)]
    exact h1.more (by omega)
theorem svS_P {β : Type} {m k : Nat} {a d : Int} {b : Bool} {l : List ByteArray} {w : WL} {x : Int} {t : ByteArray} (h : DS m k a d l w) (hk : k < 5999) {K : Int → Int → Bool → Int → List ByteArray → WL → Option β} :
    f24_1 20000 x t a b d l w (fun e a b c w => cond (e != 0) (K e a b c l w) (f27_1 20000 a b c l w K)) = app K (svS x t a b d l w) := by
  rw [writeP h, svS]
  by_cases q : (wS x t a b d l w).1 = 0
  · rw [if_neg (fun hh => hh q), flushP (by omega) (wS_ok h (by omega)), q]; rfl
  · rw [if_pos q, show ((wS x t a b d l w).1 != 0) = true from by simp [q]]; rfl
end
section
variable [FZ]
theorem x32 (x y : Int) : 0 ≤ ixor .u32 x y ∧ ixor .u32 x y < 4294967296 := by
  unfold ixor; rw [wu32m]; omega
theorem x8 (x y : Int) : 0 ≤ ixor .u8 x y ∧ ixor .u8 x y < 256 := by
  unfold ixor; rw [wu8m]; omega
def eStep (x : Int) : Int := if (iand .u32 x 1) == 1 then ixor .u32 (ishr .u32 x 1) 2197175160 else ishr .u32 x 1
def ent (x : Int) : Int := eStep (eStep (eStep (eStep (eStep (eStep (eStep (eStep x)))))))
def tb : List Int := (List.range 256).map fun (i : Nat) => ent (i : Int)
theorem tb_len : tb.length = 256 := by simp [tb]
set_option maxRecDepth 100000 in
theorem tableP {β : Type} {K : List Int → Option β} : f215_1 20000 K = K tb := by kernel_rfl
def crcS : Int → List Int → Int
  | n, [] => n
  | n, c :: r => crcS (ixor .u32 (ishr .u32 n 8) (tb.getD (ixor .u8 (IntKind.u8.wrap n) c).toNat 0)) r
def crc (b : List Int) : Int := ixor .u32 4294967295 (crcS (ixor .u32 4294967295 0) b)
theorem atL {α : Type} {l r : List α} {x d : α} {i : Nat} (hd : l.drop i = x :: r) : i < l.length ∧ l.getD (0 + (i : Int).toNat) d = x ∧ l.drop (i + 1) = r := by
  have h1 : i < l.length := by
    rcases Nat.lt_or_ge i l.length with h1 | h1
    · exact h1
    · rw [List.drop_eq_nil_of_le h1] at hd; cases hd
  rw [List.drop_eq_getElem_cons h1] at hd
  injection hd with h2 h3
  refine ⟨h1, ?_, h3⟩
  simp [h1, h2]
theorem nilL {α : Type} {l : List α} {i : Nat} (h : l.drop i = []) (hi : i ≤ l.length) : i = l.length := by
  have := congrArg List.length h
  simp at this; omega
theorem crcPl {β : Type} {F : Nat} {b : List Int} {K : Int → Option β} (hb : b.length ≤ 100000) : ∀ (r : List Int) (i k : Nat) (n : Int), b.drop i = r → i ≤ b.length → r.length < k →
    f191_1_l4 F ((b.length : Nat) : Int) b tb K k n (i : Int) = K (crcS n r)
  | [], i, 0, _, _, _, hk => by simp at hk
  | _ :: _, i, 0, _, _, _, hk => by simp at hk
  | [], i, k + 1, n, hd, hi, _ => by
    have := nilL hd hi
    rw [f191_1_l4, cf (by omega)]; rfl
  | c :: r, i, k + 1, n, hd, hi, hk => by
    obtain ⟨h1, h2, h3⟩ := atL (d := (0 : Int)) hd
    have hx := x8 (IntKind.u8.wrap n) c
    rw [f191_1_l4, ct (by omega), ct (by omega), ct (by omega), h2, ct hx, ct (by rw [tb_len]; omega), w64 (by omega) (by omega), crcS]
    exact crcPl hb r (i + 1) k _ h3 (by omega) (by simp at hk; omega)
theorem crcP {β : Type} {b : List Int} {K : Int → Option β} (hb : b.length ≤ 10000) : f148_1 20000 b K = K (crc b) := by
  rw [f148_1, f191_1, tableP]
  exact crcPl (K := fun x7 => K (ixor .u32 4294967295 x7)) (by omega) b 0 20000 _ rfl (by omega) (by omega)
def b4 (n : Int) : List Int := [IntKind.u8.wrap (ishr .u64 n 24), IntKind.u8.wrap (ishr .u64 n 16), IntKind.u8.wrap (ishr .u64 n 8), IntKind.u8.wrap (ishr .u64 n 0)]
theorem put4 {β : Type} {n : Int} {K : List Int → Option β} : f147_1 20000 4 n [] K = K (b4 n) := by kernel_rfl
end
end Go.Proofs.YtlgopekjjkdkiaaGreatDoor.X
end
section
namespace Go.Proofs.YtlgopekjjkdkiaaGreatDoor.X
open Go Go.Proofs.YtlgopekjjkdkiaaGreatDoor.Ev Go.Proofs
set_option linter.unusedVariables false
set_option linter.unusedSectionVars false
section
variable [FZ]
end
section
variable [FZ]
end
end Go.Proofs.YtlgopekjjkdkiaaGreatDoor.X
end
section
namespace Go.Proofs.YtlgopekjjkdkiaaGreatDoor.X
open Go Go.Proofs.YtlgopekjjkdkiaaGreatDoor.Ev
set_option linter.unusedSectionVars false
set_option linter.unusedVariables false
set_option linter.unusedSimpArgs false
section
variable [FZ]
abbrev D (s : ByteArray) : List UInt8 := s.data.toList
theorem extB {s t : ByteArray} (h : D s = D t) : s = t := by
  cases s; cases t
  congr
  exact Array.toList_inj.1 h
theorem D_app (s t : ByteArray) : D (s ++ t) = D s ++ D t := by simp [D]
theorem D_ext (s : ByteArray) (a b : Nat) : D (s.extract a b) = ((D s).drop a).take (b - a) := by
  simp only [D, ByteArray.data_extract, Array.toList_extract, List.extract_eq_take_drop]
theorem D_size (s : ByteArray) : s.size = (D s).length := Array.length_toList.symm
theorem D_ofInts (l : List Int) : D (ofInts l) = l.map fun n => UInt8.ofNat n.toNat := by simp [D, ofInts]
theorem toInts_D (s : ByteArray) : toInts s = (D s).map fun c => (c.toNat : Int) := rfl
theorem loopB (s : ByteArray) : ∀ (m i : Nat) (r : List UInt8), i + m = s.size → ByteArray.toList.loop s i r = r.reverse ++ (D s).drop i
  | 0, i, r, h => by
    rw [ByteArray.toList.loop, if_neg (by omega), List.drop_eq_nil_of_le (by rw [← D_size]; omega), List.append_nil]
  | m + 1, i, r, h => by
    have h1 : i < (D s).length := by rw [← D_size]; omega
    rw [ByteArray.toList.loop, if_pos (by omega), loopB s m (i + 1) _ (by omega), List.drop_eq_getElem_cons h1]
    have : s.get! i = (D s)[i] := by
      have h2 : i < s.data.size := by have := h1; simpa [D] using this
      simp only [ByteArray.get!, D, Array.getElem_toList]
      exact getElem!_pos s.data i h2
    rw [this]; simp
theorem toList_D (s : ByteArray) : s.toList = D s := by
  rw [ByteArray.toList, loopB s s.size 0 [] (by omega)]; rfl
theorem beqB {s t : ByteArray} : (s.toList == t.toList) = decide (s = t) := by
  rw [toList_D, toList_D, Bool.eq_iff_iff]
  simp only [beq_iff_eq, decide_eq_true_eq]
  exact ⟨extB, fun h => by rw [h]⟩
def front (k : Int) (b : ByteArray) : ByteArray := ⟨(UInt8.ofNat k.toNat :: UInt8.ofNat b.size :: (D b ++ List.replicate (58 - b.size) 0)).toArray⟩
def mkB (k : Int) (b : ByteArray) : ByteArray := front k b ++ ofInts (b4 (crc (toInts (front k b))))
def mkR (k : Int) (b : ByteArray) : ByteArray × Int := if k < 1 ∨ k > 8 then (ByteArray.empty, 22) else if b.size > 58 then (ByteArray.empty, 8) else (mkB k b, 0)
theorem front_D (k : Int) (b : ByteArray) : D (front k b) = UInt8.ofNat k.toNat :: UInt8.ofNat b.size :: (D b ++ List.replicate (58 - b.size) 0) := by simp [D, front]
theorem front_size {k : Int} {b : ByteArray} (h : b.size ≤ 58) : (front k b).size = 60 := by
  rw [D_size, front_D]; simp [← D_size]
  have := D_size b
  simp [D] at this
  omega
theorem crc_r (b : List Int) : 0 ≤ crc b ∧ crc b < 4294967296 := x32 _ _
theorem sumP {β : Type} {s : ByteArray} (h : 60 ≤ s.size) {K : ByteArray → Option β} : f146_1 20000 s K = K (ofInts (b4 (crc (toInts (s.extract 0 60))))) := by
  have hc := crc_r (toInts (s.extract 0 60))
  have hl : (toInts (s.extract 0 60)).length ≤ 60 := by
    rw [toInts_D, D_ext]; simp; omega
  rw [f146_1, ct (by omega), crcP (by omega), wu64 (by omega) (by omega), put4]
theorem ext_all {s : ByteArray} {n : Nat} (h : s.size = n) : s.extract 0 n = s := by
  apply extB
  rw [D_ext, List.drop_zero, List.take_of_length_le (by rw [← D_size]; omega)]
theorem rep0 (n : Nat) : D (rep ⟨#[0]⟩ n) = List.replicate n 0 := by
  show D ⟨(Lib.repeatL [0] n).toArray⟩ = _
  have : ∀ n, Lib.repeatL [(0 : UInt8)] n = List.replicate n 0 := fun n => by
    induction n with
    | zero => rfl
    | succ n ih => simp [Lib.repeatL, ih, List.replicate_succ]
  simp [D, this]
theorem u8n {n : Int} (h : 0 ≤ n ∧ n < 256) : IntKind.u8.wrap n = n := wu8 h.1 h.2
theorem makeP {β : Type} {k : Int} {b : ByteArray} (hb : b.size ≤ maxLen) {K : ByteArray → Int → Option β} : f94_1 20000 k b K = K (mkR k b).1 (mkR k b).2 := by
  rw [f94_1, mkR]
  by_cases h1 : k < 1
  · rw [ct h1, if_pos (.inl h1)]
  · by_cases h2 : k > 8
    · rw [cf h1, ct h2, if_pos (.inr h2)]
    · rw [cf h1, cf h2, if_neg (by omega)]
      by_cases h3 : b.size > 58
      · rw [ct (by omega), if_pos h3]
      · have hs2 : (ofInts [IntKind.u8.wrap k, IntKind.u8.wrap (b.size : Int)]).size = 2 := by rw [D_size, D_ofInts]; rfl
        have hs : (ofInts [IntKind.u8.wrap k, IntKind.u8.wrap (b.size : Int)] ++ b).size = 2 + b.size := by rw [D_size, D_app, List.length_append, ← D_size, ← D_size, hs2]
        rw [cf (by omega), if_neg h3, ct (by omega), f145_1, hs, w64 (by omega) (by omega), ct ⟨by omega, by omega, by
          have : (⟨#[0]⟩ : ByteArray).size = 1 := rfl
          rw [this]; omega⟩]
        have hf : ofInts [IntKind.u8.wrap k, IntKind.u8.wrap (b.size : Int)] ++ b ++ rep ⟨#[0]⟩ (60 - ((2 + b.size : Nat) : Int)).toNat = front k b := by
          apply extB
          rw [D_app, D_app, rep0, D_ofInts, front_D, u8n (by omega), u8n (by omega), show (60 - ((2 + b.size : Nat) : Int)).toNat = 58 - b.size by omega]
          simp
        have hfs := front_size (k := k) (b := b) (by omega)
        have hr : (rep ⟨#[0]⟩ (60 - ((2 + b.size : Nat) : Int)).toNat).size ≤ 60 := by rw [D_size, rep0]; simp; omega
        rw [ct (by omega), hf, sumP (by omega), ext_all hfs, ct (by
          rw [hfs, D_size, D_ofInts]; simp [b4])]
        rfl
noncomputable def Z64 : ByteArray := ofInts (List.replicate 64 0)
theorem Z64_D : D Z64 = List.replicate 64 0 := by rw [Z64, D_ofInts]; rfl
def byt (s : ByteArray) (i : Nat) : Int := ((s.data.getD i 0).toNat : Int)
theorem byt_r (s : ByteArray) (i : Nat) : 0 ≤ byt s i ∧ byt s i < 256 := by
  have := (s.data.getD i 0).toNat_lt
  unfold byt; omega
def sm (s : ByteArray) : ByteArray := ofInts (b4 (crc (toInts (s.extract 0 60))))
def zer (s : ByteArray) (n : Nat) : Bool := (((D s).drop n).take (60 - n)).all (· == 0)
def kd (s : ByteArray) : Int × Int := if s.size ≠ 64 then (0, 4) else if ((sm s).toList == (s.extract 60 64).toList) = false then (0, 9) else
  if byt s 0 < 1 ∨ byt s 0 > 8 ∨ byt s 1 > 58 ∨ zer s (2 + (byt s 1).toNat) = false then (0, 6) else (byt s 0, 0)
theorem dropW_nil {p : UInt8 → Bool} : ∀ l : List UInt8, l.dropWhile p = [] ↔ l.all p = true
  | [] => by simp
  | x :: r => by
    rw [List.dropWhile_cons, List.all_cons]
    cases h : p x with
    | true => simpa using dropW_nil r
    | false => simp
theorem dropW_head {p : UInt8 → Bool} : ∀ (l : List UInt8) {y : UInt8} {r : List UInt8}, l.dropWhile p = y :: r → p y = false
  | [], y, r, h => by cases h
  | x :: l, y, r, h => by
    rw [List.dropWhile_cons] at h
    cases hx : p x with
    | true => rw [hx, if_pos rfl] at h; exact dropW_head l h
    | false => rw [hx, if_neg (by simp)] at h; injection h with h1 h2; rw [← h1]; exact hx
theorem trim_nil (l : List UInt8) : Lib.trimS l [0] = [] ↔ l.all (· == 0) = true := by
  have hp : ∀ x : UInt8, [(0 : UInt8)].contains x = (x == 0) := fun x => by rw [Bool.eq_iff_iff]; simp
  rw [Lib.trimS, Lib.trimLeftS, Lib.trimRightS, dropW_nil]
  constructor
  · intro h
    cases hq : l.reverse.dropWhile ([(0 : UInt8)].contains ·) with
    | nil =>
      have := (dropW_nil _).1 hq
      rw [List.all_reverse] at this
      simpa [hp] using this
    | cons y r =>
      have h1 := dropW_head _ hq
      rw [hq, List.all_reverse, List.all_cons, h1] at h
      cases h
  · intro h
    have : l.reverse.dropWhile ([(0 : UInt8)].contains ·) = [] := (dropW_nil _).2 (by rw [List.all_reverse]; simpa [hp] using h)
    rw [this]; rfl
theorem trm0 (x : ByteArray) : ((trm x ⟨#[0]⟩).toList == ByteArray.empty.toList) = (D x).all (· == 0) := by
  rw [beqB, Bool.eq_iff_iff, decide_eq_true_eq, ← trim_nil]
  constructor
  · intro h
    have : D (trm x ⟨#[0]⟩) = [] := by rw [h]; rfl
    simpa [D, trm] using this
  · intro h
    apply extB
    show D (trm x ⟨#[0]⟩) = []
    simpa [D, trm] using h
theorem kindP {β : Type} {s : ByteArray} {K : Int → Int → Option β} : f127_1 20000 s K = K (kd s).1 (kd s).2 := by
  rw [f127_1, f85_1, kd]
  by_cases h1 : s.size = 64
  · have b0 := byt_r s 0
    have b1 := byt_r s 1
    have e0 : ((s.data.getD 0 0).toNat : Int) = byt s 0 := rfl
    have e1 : ((s.data.getD 1 0).toNat : Int) = byt s 1 := rfl
    rw [show ((s.size : Int) == 64) = true by simp; omega, Bool.not_true, cond_false, if_neg (by omega), ct (by omega), sumP (by omega), show ((s.size : Int).toNat) = 64 by omega, e0, e1, w64 (x := byt s 0) (by omega) (by omega), w64 (x := byt s 1) (by omega) (by omega), ← sm]
    cases h2 : ((sm s).toList == (s.extract 60 64).toList) with
    | false => rfl
    | true =>
      rw [Bool.not_true, cond_false, if_neg (by simp), ct (by omega), ct (by omega)]
      by_cases h3 : byt s 0 < 1
      · rw [ct h3, if_pos (.inl h3)]
      · by_cases h4 : byt s 0 > 8
        · rw [cf h3, ct h4, if_pos (.inr (.inl h4))]
        · by_cases h5 : byt s 1 > 58
          · rw [cf h3, cf h4, ct h5, if_pos (.inr (.inr (.inl h5)))]
          · have hn : (2 + byt s 1).toNat = 2 + (byt s 1).toNat := by omega
            have hx : D (s.extract (2 + byt s 1).toNat 60) = ((D s).drop (2 + (byt s 1).toNat)).take (60 - (2 + (byt s 1).toNat)) := by rw [D_ext, hn]
            have hxs : (s.extract (2 + byt s 1).toNat 60).size ≤ 64 := by rw [D_size, hx]; simp; omega
            rw [cf h3, cf h4, cf h5, w64 (x := 2 + byt s 1) (by omega) (by omega), ct (by omega), f178_1, ct ⟨by omega, by decide, by decide⟩, trm0, hx, ← zer]
            cases h6 : zer s (2 + (byt s 1).toNat) with
            | true => rw [Bool.not_true, cond_false, if_neg (by simp; omega)]
            | false => rw [Bool.not_false, cond_true, if_pos (.inr (.inr (.inr rfl)))]
  · rw [show ((s.size : Int) == 64) = false by simp; omega, Bool.not_false, cond_true, if_pos h1]
theorem kd_size {s : ByteArray} (h : (kd s).2 = 0) : s.size = 64 ∧ byt s 1 ≤ 58 ∧ zer s (2 + (byt s 1).toNat) = true ∧ (kd s).1 = byt s 0 ∧ 1 ≤ byt s 0 ∧ byt s 0 ≤ 8 ∧ ((sm s).toList == (s.extract 60 64).toList) = true := by
  unfold kd at h ⊢
  split at h
  · cases h
  · rename_i h1
    split at h
    · cases h
    · rename_i h2
      split at h
      · cases h
      · rename_i h3
        rw [if_neg h1, if_neg h2, if_neg h3]
        refine ⟨by omega, by omega, ?_, rfl, by omega, by omega, by simpa using h2⟩
        cases hz : zer s (2 + (byt s 1).toNat) with
        | true => rfl
        | false => exact (h3 (.inr (.inr (.inr hz)))).elim
def opn (k : Int) (s : ByteArray) : ByteArray × Int := if (kd s).2 ≠ 0 then (ByteArray.empty, (kd s).2) else if (kd s).1 ≠ k then (ByteArray.empty, 22) else (s.extract 2 (2 + (byt s 1).toNat), 0)
theorem openP {β : Type} {k : Int} {s : ByteArray} {K : ByteArray → Int → Option β} : f156_1 20000 k s K = K (opn k s).1 (opn k s).2 := by
  rw [f156_1, kindP, opn]
  have e1 : ((s.data.getD 1 0).toNat : Int) = byt s 1 := rfl
  have b1 := byt_r s 1
  by_cases h1 : (kd s).2 = 0
  · obtain ⟨q1, q2, _⟩ := kd_size h1
    rw [h1, show ((0 : Int) != 0) = false from rfl, cond_false, if_neg (by simp), e1, w64 (x := byt s 1) (by omega) (by omega), w64 (x := 2 + byt s 1) (by omega) (by omega)]
    by_cases h2 : (kd s).1 = k
    · rw [h2, show (k != k) = false by simp, cond_false, if_neg (by simp), ct (by omega), ct (by omega), show (2 + byt s 1).toNat = 2 + (byt s 1).toNat by omega]
    · rw [show ((kd s).1 != k) = true by simp [h2], cond_true, if_pos h2]
  · rw [show ((kd s).2 != 0) = true by simp [h1], cond_true, if_pos h1]
end
section
variable [FZ]
theorem mkB_D (k : Int) (b : ByteArray) : D (mkB k b) = UInt8.ofNat k.toNat :: UInt8.ofNat b.size :: (D b ++ (List.replicate (58 - b.size) 0 ++ D (ofInts (b4 (crc (toInts (front k b))))))) := by
  rw [mkB, D_app, front_D]; simp
theorem b4_size (n : Int) : (ofInts (b4 n)).size = 4 := by rw [D_size, D_ofInts]; rfl
theorem mkB_size {k : Int} {b : ByteArray} (h : b.size ≤ 58) : (mkB k b).size = 64 := by
  have hf := front_size (k := k) h
  have hc := b4_size (crc (toInts (front k b)))
  rw [D_size] at hf hc
  rw [D_size, mkB, D_app, List.length_append, hf, hc]
theorem mkB_front {k : Int} {b : ByteArray} (h : b.size ≤ 58) : (mkB k b).extract 0 60 = front k b := by
  have hf := front_size (k := k) h
  rw [D_size] at hf
  apply extB
  rw [D_ext, mkB, D_app, List.drop_zero, List.take_append_of_le_length (by omega), List.take_of_length_le (by omega)]
theorem mkB_sum {k : Int} {b : ByteArray} (h : b.size ≤ 58) : (mkB k b).extract 60 64 = sm (mkB k b) := by
  have hf := front_size (k := k) h
  have hc := b4_size (crc (toInts (front k b)))
  rw [D_size] at hf hc
  rw [sm, mkB_front h]
  apply extB
  rw [D_ext, mkB, D_app, List.drop_append_of_le_length (by omega), List.drop_eq_nil_of_le (by omega), List.nil_append, List.take_of_length_le (by omega)]
theorem getD_D (s : ByteArray) (i : Nat) : s.data.getD i 0 = (D s).getD i 0 := by simp [D]
theorem mkB_b0 {k : Int} {b : ByteArray} (h1 : 1 ≤ k) (h2 : k ≤ 8) : byt (mkB k b) 0 = k := by
  rw [byt, getD_D, mkB_D]
  show ((UInt8.ofNat k.toNat).toNat : Int) = k
  rw [UInt8.toNat_ofNat']; omega
theorem mkB_b1 {k : Int} {b : ByteArray} (h : b.size ≤ 58) : byt (mkB k b) 1 = (b.size : Int) := by
  rw [byt, getD_D, mkB_D]
  show ((UInt8.ofNat b.size).toNat : Int) = b.size
  rw [UInt8.toNat_ofNat']; omega
theorem mkB_drop {k : Int} {b : ByteArray} : (D (mkB k b)).drop (2 + b.size) = List.replicate (58 - b.size) 0 ++ D (ofInts (b4 (crc (toInts (front k b))))) := by
  have h := D_size b
  rw [mkB_D, show 2 + b.size = b.size + 1 + 1 by omega, List.drop_succ_cons, List.drop_succ_cons, List.drop_append_of_le_length (by omega), List.drop_eq_nil_of_le (by omega), List.nil_append]
theorem mkB_kd {k : Int} {b : ByteArray} (h1 : 1 ≤ k) (h2 : k ≤ 8) (h : b.size ≤ 58) : kd (mkB k b) = (k, 0) := by
  rw [kd, mkB_size h, if_neg (by omega), mkB_sum h, if_neg (by simp), mkB_b0 h1 h2, mkB_b1 h, if_neg]
  rw [show (2 + ((b.size : Nat) : Int).toNat) = 2 + b.size by omega, zer, mkB_drop, List.take_append_of_le_length (by simp; omega), List.take_of_length_le (by simp; omega)]
  simp; omega
theorem mkB_open {k : Int} {b : ByteArray} (h1 : 1 ≤ k) (h2 : k ≤ 8) (h : b.size ≤ 58) : opn k (mkB k b) = (b, 0) := by
  have hs := D_size b
  rw [opn, mkB_kd h1 h2 h, if_neg (by simp), if_neg (by simp), mkB_b1 h, show (2 + ((b.size : Nat) : Int).toNat) = 2 + b.size by omega]
  congr 1
  apply extB
  rw [D_ext, mkB_D, show (2 : Nat) = 1 + 1 from rfl, List.drop_succ_cons, List.drop_succ_cons, List.drop_zero, show 1 + 1 + b.size - (1 + 1) = b.size by omega, List.take_append_of_le_length (by omega), List.take_of_length_le (by omega)]
end
end Go.Proofs.YtlgopekjjkdkiaaGreatDoor.X
end
section
namespace Go.Proofs.YtlgopekjjkdkiaaGreatDoor.X
open Go Go.Proofs.YtlgopekjjkdkiaaGreatDoor.Ev Go.Proofs
set_option linter.unusedVariables false
set_option linter.unusedSectionVars false
section
variable [FZ]
end
end Go.Proofs.YtlgopekjjkdkiaaGreatDoor.X
end
section
namespace Go.Proofs.YtlgopekjjkdkiaaGreatDoor.X
open Go Go.Proofs.YtlgopekjjkdkiaaGreatDoor.Ev
set_option linter.unusedSectionVars false
set_option linter.unusedVariables false
set_option linter.unusedSimpArgs false
section
variable [FZ]
def num (v : Int) (l : List Int) : Int := l.foldl (fun v b => v * 256 + b) v
theorem shlor {v b : Int} (hv : 0 ≤ v ∧ v < 72057594037927936) (hb : 0 ≤ b ∧ b < 256) : ior .u64 (ishl .u64 v 8) b = v * 256 + b := by
  obtain ⟨V, rfl⟩ : ∃ V : Nat, v = (V : Int) := ⟨v.toNat, by omega⟩
  obtain ⟨B, rfl⟩ : ∃ B : Nat, b = (B : Int) := ⟨b.toNat, by omega⟩
  have e : (2 : Int) ^ (min (8 : Int).toNat IntKind.u64.bits) = 256 := by decide
  have e1 : ishl .u64 (V : Int) 8 = ((V * 256 : Nat) : Int) := by
    rw [ishl, e, wu64 (by omega) (by omega)]; omega
  rw [e1, or64 (by omega) (by omega)]
  have := Nat.two_pow_add_eq_or_of_lt (i := 8) (b := B) (by omega) V
  have h2 : 2 ^ 8 * V = V * 256 := by omega
  rw [h2] at this
  rw [← this]; omega
theorem getPl {β : Type} {F at_ w : Nat} {l : List Int} {K : Int → Option β} (hw : w ≤ 8) (hl : at_ + w ≤ l.length) (hb : ∀ x ∈ l, 0 ≤ x ∧ x < 256) : ∀ (m i k : Nat) (v : Int), m + i = w → m < k → 0 ≤ v ∧ v < 256 ^ i →
    f211_1_l7 F at_ w (w : Int) l K k v (i : Int) = K (num v ((l.drop (at_ + i)).take m))
  | _, _, 0, _, _, h, _ => by omega
  | 0, i, k + 1, v, hi, _, _ => by rw [f211_1_l7, cf (by omega)]; rfl
  | m + 1, i, k + 1, v, hi, hk, hv => by
    have h1 : at_ + i < l.length := by omega
    have hx := hb _ (List.getElem_mem h1)
    have hg : l.getD (at_ + (i : Int).toNat) 0 = l[at_ + i] := by simp [h1]
    have hp : (256 : Int) ^ i ≤ 256 ^ 7 := by
      have : (256 : Nat) ^ i ≤ 256 ^ 7 := Nat.pow_le_pow_right (by decide) (by omega)
      have h := Int.ofNat_le.2 this
      rw [Int.natCast_pow, Int.natCast_pow] at h
      exact h
    have hv2 : v * 256 + l[at_ + i] < 256 ^ (i + 1) := by rw [Int.pow_succ]; omega
    rw [f211_1_l7, ct (by omega), ct (by omega), ct (by omega), hg, wu64 (by omega) (by omega), shlor ⟨hv.1, by omega⟩ hx, w64 (by omega) (by omega), List.drop_eq_getElem_cons h1, List.take_succ_cons, num, List.foldl_cons, ← num]
    exact getPl hw hl hb m (i + 1) k _ (by omega) (by omega) ⟨by omega, hv2⟩
def gt (at_ w : Nat) (l : List Int) : Int × Int := if at_ + w ≤ l.length then (num 0 ((l.drop at_).take w), 0) else (0, 7)
theorem getP {β : Type} {at_ w : Nat} {l : List Int} {K : Int → Int → Option β} (h1 : 1 ≤ w) (hw : w ≤ 8) (hat : at_ ≤ 100000) (hll : l.length ≤ 100000) (hb : ∀ x ∈ l, 0 ≤ x ∧ x < 256) : f211_1 20000 (at_ : Int) (w : Int) l K = K (gt at_ w l).1 (gt at_ w l).2 := by
  rw [f211_1, f190_1, ct (by omega), decide_eq_true (show (w : Int) ≤ 8 by omega), Bool.not_true, cond_false, cf (by omega), gt]
  by_cases h2 : (at_ : Int) > ((l.length : Nat) : Int)
  · rw [ct h2, if_neg (by omega)]
  · rw [cf h2, w64 (by omega) (by omega)]
    by_cases h3 : ((l.length : Nat) : Int) - (at_ : Int) < (w : Int)
    · rw [ct h3, if_neg (by omega)]
    · rw [cf h3, w64 (by omega) (by omega), ct (by omega), if_pos (by omega), show ((at_ : Int) + (w : Int) - (at_ : Int)).toNat = w by omega, show 0 + ((at_ : Int)).toNat = at_ by omega]
      exact getPl (K := fun x8 => K x8 0) hw (by omega) hb w 0 20000 0 (by omega) (by omega) (by simp)
end
section
variable [FZ]
theorem bnf {a b : Int} (h : a = b) : (a != b) = false := by simp [h]
theorem bnt {a b : Int} (h : a ≠ b) : (a != b) = true := by simp [h]
def b8 (n : Int) : List Int := [IntKind.u8.wrap (ishr .u64 n 56), IntKind.u8.wrap (ishr .u64 n 48), IntKind.u8.wrap (ishr .u64 n 40), IntKind.u8.wrap (ishr .u64 n 32), IntKind.u8.wrap (ishr .u64 n 24), IntKind.u8.wrap (ishr .u64 n 16), IntKind.u8.wrap (ishr .u64 n 8), IntKind.u8.wrap (ishr .u64 n 0)]
theorem put8 {β : Type} {n : Int} {K : List Int → Option β} : f147_1 20000 8 n [] K = K (b8 n) := by kernel_rfl
theorem b8_r (n : Int) : ∀ x ∈ b8 n, 0 ≤ x ∧ x < 256 := by
  intro x hx
  simp only [b8, List.mem_cons, List.not_mem_nil, or_false] at hx
  rcases hx with rfl | rfl | rfl | rfl | rfl | rfl | rfl | rfl <;> (rw [wu8m]; omega)
theorem shrN {n : Int} (h : 0 ≤ n) : ishr .u64 n 56 = n / 72057594037927936 ∧ ishr .u64 n 48 = n / 281474976710656 ∧ ishr .u64 n 40 = n / 1099511627776 ∧ ishr .u64 n 32 = n / 4294967296 ∧ ishr .u64 n 24 = n / 16777216 ∧ ishr .u64 n 16 = n / 65536 ∧ ishr .u64 n 8 = n / 256 ∧ ishr .u64 n 0 = n := by
  have e : ∀ (s : Int) (d : Int), (2 : Int) ^ (min s.toNat IntKind.u64.bits) = d → 0 < d → ishr .u64 n s = n / d := fun s d h1 h2 => by
    rw [ishr, h1, Int.fdiv_eq_ediv_of_nonneg _ (by omega)]
  refine ⟨e 56 _ (by decide) (by decide), e 48 _ (by decide) (by decide), e 40 _ (by decide) (by decide), e 32 _ (by decide) (by decide), e 24 _ (by decide) (by decide), e 16 _ (by decide) (by decide), e 8 _ (by decide) (by decide), ?_⟩
  rw [e 0 1 (by decide) (by decide)]; omega
theorem num8 {n : Int} (h : 0 ≤ n ∧ n < 18446744073709551616) : num 0 (b8 n) = n := by
  obtain ⟨e1, e2, e3, e4, e5, e6, e7, e8⟩ := shrN h.1
  simp only [num, b8, List.foldl_cons, List.foldl_nil, wu8m, e1, e2, e3, e4, e5, e6, e7, e8]
  omega
theorem toInts_ofInts {l : List Int} (h : ∀ x ∈ l, 0 ≤ x ∧ x < 256) : toInts (ofInts l) = l := by
  rw [toInts_D, D_ofInts, List.map_map]
  conv => rhs; rw [← List.map_id l]
  apply List.map_congr_left
  intro x hx
  have := h x hx
  simp only [Function.comp, id, UInt8.toNat_ofNat']
  omega
theorem toInts_r (s : ByteArray) : ∀ x ∈ toInts s, 0 ≤ x ∧ x < 256 := by
  intro x hx
  rw [toInts_D] at hx
  obtain ⟨c, _, rfl⟩ := List.mem_map.1 hx
  have := c.toNat_lt
  omega
theorem toInts_size (s : ByteArray) : (toInts s).length = s.size := by rw [toInts_D, List.length_map, ← D_size]
def nm (w : Nat) (e : Int) (l : List Int) : Int × Int × List Int := if e ≠ 0 then (0, e, l) else if w ≤ l.length then (num 0 (l.take w), 0, l.drop w) else (0, 7, l)
theorem numC {β : Type} {w : Nat} {e : Int} {l : List Int} {K : Int → Int → List Int → Option β} (h1 : 1 ≤ w) (hw : w ≤ 8) (hll : l.length ≤ 100000) (hb : ∀ x ∈ l, 0 ≤ x ∧ x < 256) :
    f181_1 20000 (w : Int) e l K = K (nm w e l).1 (nm w e l).2.1 (nm w e l).2.2 := by
  have hg := fun K => getP (β := β) (at_ := 0) (w := w) (l := l) (K := K) h1 hw (by omega) hll hb
  rw [f181_1, nm]
  by_cases he : e = 0
  · subst he
    rw [show ((0 : Int) != 0) = false from rfl, cond_false, if_neg (by simp)]
    refine (hg _).trans ?_
    rw [gt]
    by_cases h2 : w ≤ l.length
    · rw [if_pos (by omega), if_pos h2, List.drop_zero]
      show cond ((0 : Int) != 0) _ _ = _
      rw [bnf rfl, cond_false, ct ⟨by omega, by omega, by omega⟩, show 0 + (w : Int).toNat = w by omega, List.take_of_length_le (l := l.drop w) (by simp)]
    · rw [if_neg (by omega), if_neg h2]
      rfl
  · rw [bnt he, cond_true, if_pos he]
theorem big60 : 60 ≤ maxLen := by decide
theorem cond_ff' {α : Sort _} {a b : α} : cond (!true) a b = b := rfl
theorem Z64_b0 : byt Z64 0 = 0 := by rw [byt, getD_D, Z64_D]; rfl
theorem opn_zero (k : Int) : (opn k Z64).2 ≠ 0 := by
  unfold opn
  split
  · assumption
  · rename_i h
    obtain ⟨_, _, _, _, q5, _⟩ := kd_size (Classical.not_not.1 h)
    rw [Z64_b0] at q5; omega
end
section
variable [FZ]
abbrev U64 (n : Int) : Prop := 0 ≤ n ∧ n < 18446744073709551616
abbrev U32 (n : Int) : Prop := 0 ≤ n ∧ n < 4294967296
abbrev byts (l : List Int) : Prop := ∀ x ∈ l, 0 ≤ x ∧ x < 256
theorem oi_size (l : List Int) : (ofInts l).size = l.length := by rw [D_size, D_ofInts, List.length_map]
theorem app_r {l r : List Int} (hl : byts l) (hr : byts r) : byts (l ++ r) := fun x hx => by
  rcases List.mem_append.1 hx with hx | hx
  · exact hl x hx
  · exact hr x hx
theorem drop_r {l : List Int} (k : Nat) (h : byts l) : byts (l.drop k) := fun x hx => h x (List.mem_of_mem_drop hx)
theorem take_r {l : List Int} (k : Nat) (h : byts l) : byts (l.take k) := fun x hx => h x (List.mem_of_mem_take hx)
theorem b4_r (n : Int) : byts (b4 n) := by
  intro x hx
  simp only [b4, List.mem_cons, List.not_mem_nil, or_false] at hx
  rcases hx with rfl | rfl | rfl | rfl <;> (rw [wu8m]; omega)
theorem num_b4 {n : Int} (h : U32 n) : num 0 (b4 n) = n := by
  obtain ⟨_, _, _, _, e5, e6, e7, e8⟩ := shrN h.1
  simp only [num, b4, List.foldl_cons, List.foldl_nil, wu8m, e5, e6, e7, e8]; omega
theorem num4_inv {l : List Int} (h : l.length = 4) (hb : byts l) : b4 (num 0 l) = l ∧ U32 (num 0 l) := by
  match l, h with
  | [w, x, y, z], _ =>
    have hw := hb w (by simp)
    have hx := hb x (by simp)
    have hy := hb y (by simp)
    have hz := hb z (by simp)
    have e : num 0 [w, x, y, z] = ((w * 256 + x) * 256 + y) * 256 + z := by simp [num]
    rw [e]
    have hr : U32 (((w * 256 + x) * 256 + y) * 256 + z) := by omega
    obtain ⟨_, _, _, _, e5, e6, e7, e8⟩ := shrN hr.1
    refine ⟨?_, hr⟩
    simp only [b4, e5, e6, e7, e8, wu8m]
    congr 1
    · omega
    · congr 1
      · omega
      · congr 1
        · omega
        · congr 1; omega
theorem num8_inv {l : List Int} (h : l.length = 8) (hb : byts l) : b8 (num 0 l) = l ∧ U64 (num 0 l) := by
  match l, h with
  | [a, b, c, d, w, x, y, z], _ =>
    have ha := hb a (by simp)
    have hb' := hb b (by simp)
    have hc := hb c (by simp)
    have hd := hb d (by simp)
    have hw := hb w (by simp)
    have hx := hb x (by simp)
    have hy := hb y (by simp)
    have hz := hb z (by simp)
    obtain ⟨n, hn⟩ : ∃ n, n = num 0 [a, b, c, d, w, x, y, z] := ⟨_, rfl⟩
    have e : n = a * 72057594037927936 + b * 281474976710656 + c * 1099511627776 + d * 4294967296 + w * 16777216 + x * 65536 + y * 256 + z := by
      rw [hn]; simp only [num, List.foldl_cons, List.foldl_nil]; omega
    rw [← hn]
    clear hn
    have hr : U64 n := by omega
    obtain ⟨e1, e2, e3, e4, e5, e6, e7, e8⟩ := shrN hr.1
    have f1 : n / 72057594037927936 % 256 = a := by omega
    have f2 : n / 281474976710656 % 256 = b := by omega
    have f3 : n / 1099511627776 % 256 = c := by omega
    have f4 : n / 4294967296 % 256 = d := by omega
    have f5 : n / 16777216 % 256 = w := by omega
    have f6 : n / 65536 % 256 = x := by omega
    have f7 : n / 256 % 256 = y := by omega
    have f8 : n % 256 = z := by omega
    refine ⟨?_, hr⟩
    simp only [b8, e1, e2, e3, e4, e5, e6, e7, e8, wu8m, f1, f2, f3, f4, f5, f6, f7, f8]
end
section
variable [FZ]
def lv : Nat → Int → Int → List Int
  | 0, _, _ => []
  | k + 1, n, f => if n > 1 then ((n + f - 1) / f) :: lv k ((n + f - 1) / f) f else []
theorem step_eq {n f : Int} (hf : 2 ≤ f ∧ f ≤ 4) (h1 : 1 < n) (h2 : n ≤ 128) :
    IntKind.i64.wrap ((IntKind.i64.wrap ((IntKind.i64.wrap (n + f)) - 1)).tdiv f) = (n + f - 1) / f ∧ 1 ≤ (n + f - 1) / f ∧ (n + f - 1) / f < n := by
  rw [w64 (x := n + f) (by omega) (by omega), w64 (x := n + f - 1) (by omega) (by omega), Int.tdiv_eq_ediv_of_nonneg (by omega)]
  have : f = 2 ∨ f = 3 ∨ f = 4 := by omega
  rcases this with rfl | rfl | rfl
  · rw [w64 (by omega) (by omega)]; omega
  · rw [w64 (by omega) (by omega)]; omega
  · rw [w64 (by omega) (by omega)]; omega
theorem lev48 {β : Type} {F : Nat} {x f c u : Int} (hf : 2 ≤ f ∧ f ≤ 4) {K : List Int → Option β} : ∀ (k : Nat) (n : Int) (acc : List Int), 1 ≤ n → n ≤ 128 → n < k → (acc.length : Int) + n ≤ 2000 →
    f164_1_l5 F x f c u K k n acc = K (acc ++ lv k n f)
  | 0, n, acc, h1, h2, h3, h4 => by omega
  | k + 1, n, acc, h1, h2, h3, h4 => by
    simp only [f164_1_l5, lv]
    by_cases hn : n > 1
    · obtain ⟨e, g1, g2⟩ := step_eq hf hn h2
      rw [e]
      have h0 : ¬ f = 0 := by omega
      have hl : (acc.length + 1) * 8 ≤ 70368744177664 := by omega
      simp only [hn, h0, hl, decide_true, decide_false, cond_true, cond_false, if_true]
      rw [lev48 hf k _ _ g1 (by omega) (by omega) (by simp; omega)]
      simp
    · simp [hn]
theorem lev49 {β : Type} {F : Nat} {x f c u : Int} (hf : 2 ≤ f ∧ f ≤ 4) {K : List Int → Option β} : ∀ (k : Nat) (n : Int) (acc : List Int), 1 ≤ n → n ≤ 128 → n < k → (acc.length : Int) + n ≤ 2000 →
    f98_1_l5 F x f c u K k n acc = K (acc ++ lv k n f)
  | 0, n, acc, h1, h2, h3, h4 => by omega
  | k + 1, n, acc, h1, h2, h3, h4 => by
    simp only [f98_1_l5, lv]
    by_cases hn : n > 1
    · obtain ⟨e, g1, g2⟩ := step_eq hf hn h2
      rw [e]
      have h0 : ¬ f = 0 := by omega
      have hl : (acc.length + 1) * 8 ≤ 70368744177664 := by omega
      simp only [hn, h0, hl, decide_true, decide_false, cond_true, cond_false, if_true]
      rw [lev49 hf k _ _ g1 (by omega) (by omega) (by simp; omega)]
      simp
    · simp [hn]
theorem lv_ok {f : Int} (hf : 2 ≤ f ∧ f ≤ 4) : ∀ (k : Nat) (n : Int), 1 ≤ n → n ≤ 128 → ((lv k n f).length : Int) < n ∧ ∀ y ∈ lv k n f, 1 ≤ y ∧ y ≤ 128
  | 0, n, h1, h2 => by simp [lv]; omega
  | k + 1, n, h1, h2 => by
    simp only [lv]
    by_cases hn : n > 1
    · obtain ⟨e, g1, g2⟩ := step_eq hf hn h2
      obtain ⟨q1, q2⟩ := lv_ok hf k _ g1 (by omega)
      rw [if_pos hn]
      refine ⟨by simp; omega, fun y hy => ?_⟩
      rcases List.mem_cons.1 hy with rfl | hy
      · omega
      · exact q2 y hy
    · rw [if_neg hn]; simp; omega
def rt (n f c u : Int) : Prop := (1 ≤ n ∧ n ≤ 128) ∧ (2 ≤ f ∧ f ≤ 4) ∧ (0 ≤ c ∧ c ≤ 64) ∧ (1 ≤ u ∧ u ≤ 320)
instance (n f c u : Int) : Decidable (rt n f c u) := by unfold rt; infer_instance
theorem cnd {β : Type} {p q : Prop} [Decidable p] [Decidable q] {K : Bool → Option β} : cond (decide p) (K (decide q)) (K false) = K (decide (p ∧ q)) := by
  by_cases h : p <;> simp [h]
theorem within87 {β : Type} {F : Nat} {a b c : Int} {K : Bool → Option β} : f144_1 F a b c K = K (decide (a ≥ b ∧ a ≤ c)) := by
  simp only [f144_1, cnd]
theorem right46 {β : Type} {F : Nat} {n f c u : Int} {K : Bool → Option β} : f90_1 F n f c u K = K (decide (rt n f c u)) := by
  simp only [f90_1, within87, cnd]
  congr 1
theorem right47 {β : Type} {F : Nat} {n f c u : Int} {K : Bool → Option β} : f21_1 F n f c u K = K (decide (rt n f c u)) := by
  simp only [f21_1, cnd]
  congr 1
  exact decide_eq_decide.2 (by unfold rt; omega)
def levels (n f c u : Int) : List Int := if rt n f c u then n :: lv 20000 n f else []
theorem levels48 {β : Type} {n f c u : Int} {K : List Int → Option β} : f164_1 20000 n f c u K = K (levels n f c u) := by
  simp only [f164_1, right46, levels]
  by_cases h : rt n f c u
  · simp only [h, decide_true, Bool.not_true, cond_false, if_true]
    rw [lev48 h.2.1 20000 n [n] h.1.1 h.1.2 (by have := h.1.2; omega) (by have := h.1.2; simp; omega)]
    rfl
  · simp [h]
theorem levels49 {β : Type} {n f c u : Int} {K : List Int → Option β} : f98_1 20000 n f c u K = K (levels n f c u) := by
  simp only [f98_1, right47, levels]
  by_cases h : rt n f c u
  · simp only [h, decide_true, Bool.not_true, cond_false, if_true]
    rw [lev49 h.2.1 20000 n [n] h.1.1 h.1.2 (by have := h.1.2; omega) (by have := h.1.2; simp; omega)]
    rfl
  · simp [h]
theorem levels_ok (n f c u : Int) : (levels n f c u).length ≤ 128 ∧ ∀ y ∈ levels n f c u, 1 ≤ y ∧ y ≤ 128 := by
  unfold levels
  split
  · rename_i h
    obtain ⟨q1, q2⟩ := lv_ok h.2.1 20000 n h.1.1 h.1.2
    have := h.1
    refine ⟨by simp; omega, fun y hy => ?_⟩
    rcases List.mem_cons.1 hy with rfl | hy
    · omega
    · exact q2 y hy
  · simp
def sumI : List Int → Int
  | [] => 0
  | x :: r => x + sumI r
theorem sumI_ok : ∀ (l : List Int), (∀ y ∈ l, 1 ≤ y ∧ y ≤ 128) → (l.length : Int) ≤ sumI l ∧ sumI l ≤ 128 * l.length
  | [], _ => by simp [sumI]
  | x :: r, h => by
    obtain ⟨q1, q2⟩ := sumI_ok r fun y hy => h y (by simp [hy])
    have := h x (by simp)
    simp only [sumI, List.length_cons]
    omega
theorem sum50 {β : Type} {F : Nat} {K : Int → Option β} (l : List Int) (hl : l.length ≤ 128) (hy : ∀ y ∈ l, 1 ≤ y ∧ y ≤ 128) : ∀ (r : List Int) (i : Nat) (k : Nat) (s : Int), l.drop i = r → i ≤ l.length → r.length < k → 0 ≤ s → s ≤ 128 * i →
    f111_1_l3 F ((l.length : Nat) : Int) l K k s (i : Int) = K (s + sumI r)
  | [], i, k, s, hd, hi, hk, h0, h1 => by
    cases k with
    | zero => omega
    | succ k =>
      have : i = l.length := by
        have := congrArg List.length hd
        simp at this; omega
      subst this
      simp [f111_1_l3, sumI]
  | x :: r, i, k, s, hd, hi, hk, h0, h1 => by
    cases k with
    | zero => omega
    | succ k =>
      have hlen : l.length - i = r.length + 1 := by
        have := congrArg List.length hd
        simpa using this
      have hlt : i < l.length := by omega
      have hx : l[i]? = some x := by
        have := congrArg (·[0]?) hd
        simpa using this
      have hm := hy x (List.mem_of_getElem? hx)
      have hdr : l.drop (i + 1) = r := by
        rw [← List.drop_drop, hd]; rfl
      simp only [f111_1_l3]
      have e1 : decide ((i : Int) < ((l.length : Nat) : Int)) = true := by simp; omega
      have e2 : decide ((0 : Int) ≤ (i : Int) ∧ (i : Int) < ((l.length : Nat) : Int)) = true := by simp; omega
      have e3 : decide (0 + (i : Int).toNat < l.length) = true := by simp; omega
      have e4 : l.getD (0 + (i : Int).toNat) 0 = x := by
        rw [List.getD_eq_getElem?_getD]; simp [hx]
      rw [e1, e2, e3, e4, cond_true, cond_true, cond_true, w64 (by omega) (by omega), w64 (by omega) (by omega)]
      have := sum50 (F := F) (K := K) l hl hy r (i + 1) k (s + x) hdr (by omega) (by simpa using hk) (by omega) (by omega)
      rw [show ((i : Int) + 1) = ((i + 1 : Nat) : Int) by omega, this]
      congr 1
      simp only [sumI]; omega
theorem sum51 {β : Type} {F : Nat} {K : Int → Option β} (l : List Int) (hl : l.length ≤ 128) (hy : ∀ y ∈ l, 1 ≤ y ∧ y ≤ 128) : ∀ (r : List Int) (i : Nat) (k : Nat) (s : Int), l.drop i = r → i ≤ l.length → r.length < k → 0 ≤ s → s ≤ 128 * i →
    f36_1_l4 F l K k s (i : Int) = K (s + sumI r)
  | [], i, k, s, hd, hi, hk, h0, h1 => by
    cases k with
    | zero => omega
    | succ k =>
      have : i = l.length := by
        have := congrArg List.length hd
        simp at this; omega
      subst this
      simp [f36_1_l4, sumI]
  | x :: r, i, k, s, hd, hi, hk, h0, h1 => by
    cases k with
    | zero => omega
    | succ k =>
      have hlen : l.length - i = r.length + 1 := by
        have := congrArg List.length hd
        simpa using this
      have hlt : i < l.length := by omega
      have hx : l[i]? = some x := by
        have := congrArg (·[0]?) hd
        simpa using this
      have hm := hy x (List.mem_of_getElem? hx)
      have hdr : l.drop (i + 1) = r := by
        rw [← List.drop_drop, hd]; rfl
      simp only [f36_1_l4]
      have e1 : decide ((i : Int) < ((l.length : Nat) : Int)) = true := by simp; omega
      have e2 : decide ((0 : Int) ≤ (i : Int) ∧ (i : Int) < ((l.length : Nat) : Int)) = true := by simp; omega
      have e3 : decide (0 + (i : Int).toNat < l.length) = true := by simp; omega
      have e4 : l.getD (0 + (i : Int).toNat) 0 = x := by
        rw [List.getD_eq_getElem?_getD]; simp [hx]
      rw [e1, e2, e3, e4, cond_true, cond_true, cond_true, w64 (by omega) (by omega), w64 (by omega) (by omega)]
      have := sum51 (F := F) (K := K) l hl hy r (i + 1) k (s + x) hdr (by omega) (by simpa using hk) (by omega) (by omega)
      rw [show ((i : Int) + 1) = ((i + 1 : Nat) : Int) by omega, this]
      congr 1
      simp only [sumI]; omega
def nodes (n f c u : Int) : Int := sumI (levels n f c u)
theorem nodes_ok (n f c u : Int) : 0 ≤ nodes n f c u ∧ nodes n f c u ≤ 16384 ∧ (rt n f c u → 1 ≤ nodes n f c u) ∧ (¬ rt n f c u → nodes n f c u = 0) := by
  obtain ⟨h1, h2⟩ := levels_ok n f c u
  obtain ⟨h3, h4⟩ := sumI_ok _ h2
  unfold nodes
  refine ⟨by omega, by omega, fun h => ?_, fun h => by simp [levels, h, sumI]⟩
  have : 1 ≤ (levels n f c u).length := by simp [levels, h]
  omega
theorem nodes50 {β : Type} {n f c u : Int} {K : Int → Option β} : f111_1 20000 n f c u K = K (nodes n f c u) := by
  obtain ⟨h1, h2⟩ := levels_ok n f c u
  simp only [f111_1, levels48]
  have := sum50 (F := 20000) (K := K) (levels n f c u) h1 h2 _ 0 20000 0 rfl (by omega) (by simp; omega) (by omega) (by omega)
  simp only [List.drop_zero, Int.zero_add] at this
  exact this
theorem nodes51 {β : Type} {n f c u : Int} {K : Int → Option β} : f36_1 20000 n f c u K = K (nodes n f c u) := by
  obtain ⟨h1, h2⟩ := levels_ok n f c u
  simp only [f36_1, levels49]
  have := sum51 (F := 20000) (K := K) (levels n f c u) h1 h2 _ 0 20000 0 rfl (by omega) (by simp; omega) (by omega) (by omega)
  simp only [List.drop_zero, Int.zero_add] at this
  exact this
end
end Go.Proofs.YtlgopekjjkdkiaaGreatDoor.X
end
section
namespace Go.Proofs.YtlgopekjjkdkiaaGreatDoor.X
open Go Go.Proofs.YtlgopekjjkdkiaaGreatDoor.Ev Go.Proofs
set_option linter.unusedVariables false
set_option linter.unusedSectionVars false
section
variable [FZ]
end
end Go.Proofs.YtlgopekjjkdkiaaGreatDoor.X
end
section
namespace Go.Proofs.YtlgopekjjkdkiaaGreatDoor.X
open Go Go.Proofs.YtlgopekjjkdkiaaGreatDoor.Ev
set_option linter.unusedSectionVars false
set_option linter.unusedVariables false
set_option linter.unusedSimpArgs false
section
variable [FZ]
def dat (n f c u i : Int) : Int := if rt n f c u ∧ 0 ≤ i ∧ i < n then 6 + i else -1
def are (n f c u m k : Int) : Int := if rt n f c u ∧ 0 ≤ k ∧ k < m then 6 + n + nodes n f c u + k else -1
theorem areaP {β : Type} {n f c u s k : Int} (hs : s = 0 ∨ s = 1) {K : Int → Option β} : f131_1 20000 n f c u s k K = K (are n f c u (if s = 0 then 2 * c else 2 * u) k) := by
  have hno := nodes_ok n f c u
  have key : ∀ m : Int, 0 ≤ m → m ≤ 640 → cond (!(decide (rt n f c u))) (K (-1)) (f144_1 20000 k 0 (IntKind.i64.wrap (m - 1)) (fun x3 => cond (!x3) (K (-1)) (f111_1 20000 n f c u (fun x4 => K (IntKind.i64.wrap ((IntKind.i64.wrap ((IntKind.i64.wrap (6 + n)) + x4)) + k)))))) = K (are n f c u m k) := by
    intro m h0 h1
    rw [are]
    by_cases h : rt n f c u
    · have hn := h.1
      rw [decide_eq_true h, Bool.not_true, cond_false, within87, w64 (x := m - 1) (by omega) (by omega)]
      by_cases h2 : 0 ≤ k ∧ k < m
      · rw [decide_eq_true (show k ≥ 0 ∧ k ≤ m - 1 by omega), Bool.not_true, cond_false, if_pos ⟨h, h2⟩, nodes50, w64 (x := 6 + n) (by omega) (by omega), w64 (x := 6 + n + nodes n f c u) (by omega) (by omega), w64 (by omega) (by omega)]
      · rw [decide_eq_false (show ¬ (k ≥ 0 ∧ k ≤ m - 1) by omega), Bool.not_false, cond_true, if_neg (fun hh => h2 hh.2)]
    · rw [decide_eq_false h, Bool.not_false, cond_true, if_neg (fun hh => h hh.1)]
  have no : ∀ m m' : Int, ¬ rt n f c u → are n f c u m k = are n f c u m' k := fun m m' h => by rw [are, are, if_neg (fun hh => h hh.1), if_neg (fun hh => h hh.1)]
  rw [f131_1, f179_1]
  rcases hs with rfl | rfl
  · rw [show ((0 : Int) == 0) = true from rfl, cond_true, right46, if_pos rfl]
    by_cases h : rt n f c u
    · rw [w64 (x := 2 * c) (by have := h.2.2.1; omega) (by have := h.2.2.1; omega)]
      exact key _ (by have := h.2.2.1; omega) (by have := h.2.2.1; omega)
    · rw [no _ 0 h, ← key 0 (by omega) (by omega), decide_eq_false h]; rfl
  · rw [show ((1 : Int) == 0) = false from rfl, cond_false, show ((1 : Int) == 1) = true from rfl, cond_true, right46, if_neg (by omega)]
    by_cases h : rt n f c u
    · rw [w64 (x := 2 * u) (by have := h.2.2.2; omega) (by have := h.2.2.2; omega)]
      exact key _ (by have := h.2.2.2; omega) (by have := h.2.2.2; omega)
    · rw [no _ 0 h, ← key 0 (by omega) (by omega), decide_eq_false h]; rfl
end
end Go.Proofs.YtlgopekjjkdkiaaGreatDoor.X
end
section
namespace Go.Proofs.YtlgopekjjkdkiaaGreatDoor.X
open Go Go.Proofs.YtlgopekjjkdkiaaGreatDoor.Ev Go.Proofs
set_option linter.unusedVariables false
set_option linter.unusedSectionVars false
section
variable [FZ]
end
section
variable [FZ]
end
section
variable [FZ]
end
section
variable [FZ]
end
section
variable [FZ]
end
section
variable [FZ]
end
end Go.Proofs.YtlgopekjjkdkiaaGreatDoor.X
end
section
namespace Go.Proofs.YtlgopekjjkdkiaaGreatDoor.X
open Go Go.Proofs.YtlgopekjjkdkiaaGreatDoor.Ev
set_option linter.unusedSectionVars false
set_option linter.unusedVariables false
set_option linter.unusedSimpArgs false
section
variable [FZ]
theorem putS {β : Type} {n s : Int} {v l : List Int} {k : Nat} {K : List Int → Option β} (h : 0 ≤ s ∧ s ≤ 100) (hl : l.length ≤ 2000) : f147_1_l6 20000 n v K (k + 1) s l = f147_1_l6 20000 n v K k (s - 8) (l ++ [IntKind.u8.wrap (ishr .u64 n s)]) := by
  rw [f147_1_l6, ct (by omega), cf (by omega), ct (by omega), w64 (by omega) (by omega)]
theorem putE {β : Type} {n : Int} {v l : List Int} {k : Nat} {K : List Int → Option β} : f147_1_l6 20000 n v K (k + 1) (-8) l = K l := by
  rw [f147_1_l6, cf (by omega)]
theorem putL4 {β : Type} {n : Int} {v l : List Int} {k : Nat} {K : List Int → Option β} (hl : l.length ≤ 1000) : f147_1_l6 20000 n v K (k + 1 + 1 + 1 + 1 + 1) 24 l = K (l ++ b4 n) := by
  rw [putS (by omega) (by omega), putS (by omega) (by simp; omega), putS (by omega) (by simp; omega), putS (by omega) (by simp; omega)]
  refine putE.trans ?_
  congr 1
  simp [b4]
theorem putA4 {β : Type} {n : Int} {l : List Int} {K : List Int → Option β} (hl : l.length ≤ 1000) : f147_1 20000 4 n l K = K (l ++ b4 n) := by
  rw [f147_1, w64 (x := ((l.length : Nat) : Int) + 8) (by omega) (by omega), ct ⟨by omega, by omega, by omega, by omega⟩, ct (by omega), f190_1, ct (by omega), decide_eq_true (show (4 : Int) ≤ 8 by omega), cond_ff', List.take_zero, List.nil_append]
  exact putL4 (k := 19995) (K := fun x => K x) hl
def hdL (e k i s : Int) : List Int := b8 e ++ (b4 k ++ (b4 i ++ b4 s))
def hdB (e k i s : Int) : ByteArray := mkB 8 (ofInts (hdL e k i s))
theorem hdL_len (e k i s : Int) : (hdL e k i s).length = 20 := rfl
theorem hdB_size (e k i s : Int) : (hdB e k i s).size = 64 := mkB_size (by rw [oi_size, hdL_len]; omega)
def g1 (L : List Int) : Int := num 0 (L.take 8)
def g2 (L : List Int) : Int := num 0 ((L.drop 8).take 4)
def g3 (L : List Int) : Int := num 0 (((L.drop 8).drop 4).take 4)
def g4 (L : List Int) : Int := num 0 ((((L.drop 8).drop 4).drop 4).take 4)
theorem numOK {w : Nat} {l : List Int} (h1 : 1 ≤ w) (hw : w ≤ 8) (h : w ≤ l.length) (hl : l.length ≤ 100) (hb : byts l) {β : Type} (K : Int → Int → List Int → Option β) : f181_1 20000 (w : Int) 0 l K = K (num 0 (l.take w)) 0 (l.drop w) := by
  refine (numC h1 hw (by omega) hb).trans ?_
  rw [nm, if_neg (by simp), if_pos h]
end
section
variable [FZ]
abbrev EL := List (Int × (Int × (Int × ByteArray)))
end
end Go.Proofs.YtlgopekjjkdkiaaGreatDoor.X
end
section
namespace Go.Proofs.YtlgopekjjkdkiaaGreatDoor.X
open Go Go.Proofs.YtlgopekjjkdkiaaGreatDoor.Ev Go.Proofs
set_option linter.unusedVariables false
set_option linter.unusedSectionVars false
section
variable [FZ]
end
end Go.Proofs.YtlgopekjjkdkiaaGreatDoor.X
end
section
namespace Go.Proofs.YtlgopekjjkdkiaaGreatDoor.X
open Go Go.Proofs.YtlgopekjjkdkiaaGreatDoor.Ev
set_option linter.unusedSectionVars false
set_option linter.unusedVariables false
set_option linter.unusedSimpArgs false
section
variable [FZ]
theorem repL {β : Type} {m : Nat} {z : ByteArray} {v : List ByteArray} (hm : m ≤ 2000) {K : List ByteArray → Option β} : ∀ (fuel i : Nat), 1 ≤ i → i ≤ m → m - i < fuel →
    f68_1_l8 20000 v K fuel (i : Int) (List.replicate i z ++ List.replicate (m - i) ByteArray.empty) = K (List.replicate m z)
  | 0, i, _, _, h => by omega
  | fuel + 1, i, h1, h2, hf => by
    have hl : (List.replicate i z ++ List.replicate (m - i) ByteArray.empty).length = m := by simp; omega
    rw [f68_1_l8, hl]
    by_cases h : (i : Int) < (m : Int)
    · rw [ct h, ct ⟨by omega, by omega, by omega⟩, ct ⟨by omega, by omega, by omega⟩]
      have e1 : ((List.replicate i z ++ List.replicate (m - i) ByteArray.empty).drop 0).take (((i : Int) - 0).toNat) = List.replicate i z := by
        rw [List.drop_zero, show ((i : Int) - 0).toNat = i by omega]
        exact List.take_left' (by simp)
      have e2 : ((m : Int) - (i : Int)).toNat = m - i := by omega
      rw [e1, e2, List.length_replicate, show 0 + (i : Int).toNat = i by omega]
      have e3 : (List.replicate i z ++ List.replicate (m - i) ByteArray.empty).take i = List.replicate i z := List.take_left' (by simp)
      have e4 : (List.replicate i z ++ List.replicate (m - i) ByteArray.empty).drop (i + min i (m - i)) = List.replicate (m - (i + min i (m - i))) ByteArray.empty := by
        rw [← List.drop_drop, List.drop_left' (by simp), List.drop_replicate]
        congr 1; omega
      rw [e3, e4, List.take_replicate, ← List.append_assoc, List.replicate_append_replicate, w64 (by omega) (by omega)]
      have ih := repL hm (z := z) (v := v) (K := K) fuel (i + min i (m - i)) (by omega) (by omega) (by omega)
      rw [Nat.min_comm (m - i) i]
      push_cast at ih ⊢
      exact ih
    · have : m = i := by omega
      subst this
      rw [cf h]
      simp
theorem newP {β : Type} {m : Nat} (h1 : 1 ≤ m) (h2 : m ≤ 1200) {K0 : Option β} {K1 : List ByteArray → WL → Option β} : f12_1 20000 (m : Int) K0 K1 = K1 (List.replicate m Z64) [] := by
  have hz : ∀ K : ByteArray → Option β, f69_1 20000 K = K Z64 := fun K => by kernel_rfl
  have hmul : ∀ K : Int → Int → Option β, f135_1 20000 (IntKind.u64.wrap (([Z64].length : Nat) : Int)) (IntKind.u64.wrap (m : Int)) K = K 0 (m : Int) := by
    intro K
    rw [f135_1, f183_1, wu64 (x := (m : Int)) (by omega) (by omega)]
    have e1 : IntKind.u64.wrap (([Z64].length : Nat) : Int) = 1 := rfl
    rw [e1]
    have s1 : ishr .u64 1 32 = 0 := by decide
    have e : (2 : Int) ^ (min (32 : Int).toNat IntKind.u64.bits) = 4294967296 := by decide
    have s2 : ishr .u64 (m : Int) 32 = 0 := by rw [ishr, e, Int.fdiv_eq_ediv_of_nonneg _ (by omega)]; omega
    have a1 : iand .u64 1 4294967295 = 1 := by decide
    have a2 : iand .u64 (m : Int) 4294967295 = (m : Int) := by
      have := and64 (A := m) (B := 4294967295) (by omega) (by decide)
      rw [show (4294967295 : Int) = ((4294967295 : Nat) : Int) from rfl, this]
      have : m &&& (2 ^ 32 - 1) = m % 2 ^ 32 := Nat.and_two_pow_sub_one_eq_mod m 32
      rw [show (4294967295 : Nat) = 2 ^ 32 - 1 from rfl, this, Nat.mod_eq_of_lt (by omega)]
    have a0 : iand .u64 0 4294967295 = 0 := by decide
    have z0 : ishr .u64 0 32 = 0 := by decide
    simp only [s1, s2, a1, a2, Int.zero_mul, Int.mul_zero, Int.one_mul, wu64 (x := (0 : Int)) (by omega) (by omega), wu64 (x := (m : Int)) (by omega) (by omega), z0, a0, Int.zero_add, Int.add_zero]
  rw [f12_1, cf (by omega), cf (by omega), hz, f68_1, cf (by omega), hmul, cf (by omega), cf (by omega), w64 (x := (m : Int)) (by omega) (by omega), ct ⟨by omega, by omega, by omega, by omega⟩]
  have hs : (List.replicate (m : Int).toNat ByteArray.empty).take 0 ++ ([Z64].take (List.replicate (m : Int).toNat ByteArray.empty).length ++ (List.replicate (m : Int).toNat ByteArray.empty).drop (0 + min [Z64].length (List.replicate (m : Int).toNat ByteArray.empty).length)) = List.replicate 1 Z64 ++ List.replicate (m - 1) ByteArray.empty := by
    rw [List.take_zero, List.nil_append, List.length_replicate, show (m : Int).toNat = m by omega, List.take_of_length_le (by simp; omega), List.drop_replicate]
    show [Z64] ++ List.replicate (m - (0 + min 1 m)) ByteArray.empty = _
    rw [show 0 + min 1 m = 1 by omega]; rfl
  rw [hs, List.length_replicate, show (m : Int).toNat = m by omega, show ((min [Z64].length m : Nat) : Int) = ((1 : Nat) : Int) by simp; omega]
  exact repL (by omega) 20000 1 (by omega) (by omega) (by omega)
noncomputable def cZ : Int := crc (toInts Z64)
theorem Z64_size : Z64.size = 64 := by rw [D_size, Z64_D]; simp
structure KI (n c B e : Int) (m : Nat) (E : EL) (l : List ByteArray) : Prop where
  len : (l.length : Int) = B + 2 * c
  el : E.length = m
  mc : (m : Int) ≤ c
  ent : ∀ j : Nat, j < m → ∃ i : Int, 0 ≤ i ∧ i < n ∧ E.drop j = (0, (e, (i, Z64))) :: E.drop (j + 1) ∧ l.getD (B + 2 * (j : Int)).toNat ByteArray.empty = hdB e j i cZ
  oth : ∀ x : Nat, x < l.length → (∀ j : Nat, j < m → (x : Int) ≠ B + 2 * (j : Int)) → l.getD x ByteArray.empty = Z64
theorem rd_nil' {x : Int} {l : List ByteArray} (hx : 0 ≤ x ∧ x < (l.length : Int)) : rd x false l [] = (l.getD x.toNat ByteArray.empty, 0) := by
  rw [rd, if_neg (by simp), if_pos hx, kp, if_pos hx]; rfl
section
variable {n c B e : Int} {m : Nat} {E : EL} {l : List ByteArray}
theorem KI.sz (h : KI n c B e m E l) : ∀ x : Nat, x < l.length → (l.getD x ByteArray.empty).size ≤ 100 := by
  intro x hx
  by_cases hj : ∃ j : Nat, j < m ∧ (x : Int) = B + 2 * (j : Int)
  · obtain ⟨j, h1, h2⟩ := hj
    obtain ⟨i, _, _, _, h5⟩ := h.ent j h1
    have : x = (B + 2 * (j : Int)).toNat := by omega
    rw [this, h5, hdB_size]; omega
  · rw [h.oth x hx (fun j h1 h2 => hj ⟨j, h1, h2⟩), Z64_size]; omega
theorem KI.more (h : KI n c B e m E l) (hB : 0 ≤ B) (hm : (m : Int) < c) {i : Int} (hi : 0 ≤ i ∧ i < n) : KI n c B e (m + 1) (E ++ [(0, (e, (i, Z64)))]) (put1 l (B + 2 * (m : Int), hdB e m i cZ)) := by
  have hl := h.len
  refine ⟨by rw [put1_len]; exact hl, by simp [h.el], by omega, fun j hj => ?_, fun x hx hno => ?_⟩
  · rcases Nat.lt_or_ge j m with h1 | h1
    · obtain ⟨i', q1, q2, q3, q4⟩ := h.ent j h1
      refine ⟨i', q1, q2, ?_, ?_⟩
      · rw [List.drop_append_of_le_length (by rw [h.el]; omega), List.drop_append_of_le_length (by rw [h.el]; omega), q3]; rfl
      · rw [put1]
        show (l.set (B + 2 * (m : Int)).toNat _).getD _ _ = _
        rw [List.getD_eq_getElem?_getD, List.getElem?_set_ne (by omega), ← List.getD_eq_getElem?_getD, q4]
    · have e : j = m := by omega
      subst e
      refine ⟨i, hi.1, hi.2, ?_, ?_⟩
      · have el := h.el
        rw [List.drop_left' el, List.drop_eq_nil_of_le (by simp; omega)]
      · rw [put1]
        show (l.set (B + 2 * (j : Int)).toNat _).getD _ _ = _
        rw [List.getD_eq_getElem?_getD, List.getElem?_set_self (by omega)]; rfl
  · rw [put1_len] at hx
    rw [put1]
    show (l.set (B + 2 * (m : Int)).toNat _).getD _ _ = _
    rw [List.getD_eq_getElem?_getD, List.getElem?_set_ne (by have := hno m (by omega); omega), ← List.getD_eq_getElem?_getD]
    exact h.oth x hx fun j hj => hno j (by omega)
theorem svS_at {x t a d} (hx : 0 ≤ x ∧ x < (l.length : Int)) (ht : t.size = 64) :
    (a = -1 → svS x t a false d l [] = (0, -1, false, d + 1 + 1, put1 l (x, t), [])) ∧ (a = 0 → svS x t a false d l [] = (5, -1, true, d, l, [])) ∧
    (a = 1 → svS x t a false d l [] = (5, -1, true, d + 1, l, [(x, t)])) ∧ (2 ≤ a → svS x t a false d l [] = (0, a - 1 - 1, false, d + 1 + 1, put1 l (x, t), [])) := by
  have hw : ∀ a, a ≠ 0 → wS x t a false d l [] = (0, dec a, false, d + 1, [(x, t)]) := fun a ha => by
    rw [wS, if_neg (by simp), if_neg (fun hh => hh hx), if_neg (fun hh => hh ht), if_neg ha]; rfl
  refine ⟨?_, ?_, ?_, ?_⟩
  · rintro rfl
    rw [svS, hw _ (by omega), if_neg (by simp), fS, if_neg (by simp)]; rfl
  · rintro rfl
    have : wS x t 0 false d l [] = (5, -1, true, d, []) := by rw [wS, if_neg (by simp), if_neg (fun hh => hh hx), if_neg (fun hh => hh ht), if_pos rfl]
    rw [svS, this, if_pos (by simp)]
  · rintro rfl
    rw [svS, hw _ (by omega), if_neg (by simp), fS, if_neg (by simp)]; rfl
  · intro h2
    have e1 : dec a = a - 1 := by rw [dec, if_neg (by omega)]
    have e2 : dec (a - 1) = a - 1 - 1 := by rw [dec, if_neg (by omega)]
    rw [svS, hw _ (by omega), if_neg (by simp)]
    show fS (dec a) false (d + 1) l [(x, t)] = _
    rw [e1, fS, if_neg (by simp), if_neg (by omega), e2]; rfl
end
end
end Go.Proofs.YtlgopekjjkdkiaaGreatDoor.X
end
section
namespace Go.Proofs.YtlgopekjjkdkiaaGreatDoor.X
open Go Go.Proofs.YtlgopekjjkdkiaaGreatDoor.Ev Go.Proofs
set_option linter.unusedVariables false
set_option linter.unusedSectionVars false
section
variable [FZ]
end
section
variable [FZ]
end
section
variable [FZ]
end
end Go.Proofs.YtlgopekjjkdkiaaGreatDoor.X
end
section
namespace Go.Proofs.YtlgopekjjkdkiaaGreatDoor.X
open Go Go.Proofs.YtlgopekjjkdkiaaGreatDoor.Ev
set_option linter.unusedSectionVars false
set_option linter.unusedVariables false
set_option linter.unusedSimpArgs false
section
variable [FZ]
def chain (f : Int) : List Int → Prop
  | a :: b :: r => 1 < a ∧ b = (a + f - 1) / f ∧ chain f (b :: r)
  | [a] => a = 1
  | [] => True
theorem chain_lv {f : Int} (hf : 2 ≤ f ∧ f ≤ 4) : ∀ (k : Nat) (n : Int), 1 ≤ n → n ≤ 128 → n < k → chain f (n :: lv k n f)
  | 0, n, h1, h2, h3 => by omega
  | k + 1, n, h1, h2, h3 => by
    simp only [lv]
    by_cases hn : n > 1
    · obtain ⟨e, g1, g2⟩ := step_eq hf hn h2
      rw [if_pos hn]
      exact ⟨hn, rfl, chain_lv hf k _ g1 (by omega) (by omega)⟩
    · rw [if_neg hn]
      show n = 1
      omega
end
end Go.Proofs.YtlgopekjjkdkiaaGreatDoor.X
end
section
namespace Go.Proofs.YtlgopekjjkdkiaaGreatDoor.X
open Go Go.Proofs.YtlgopekjjkdkiaaGreatDoor.Ev Go.Proofs
set_option linter.unusedVariables false
set_option linter.unusedSectionVars false
section
variable [FZ]
end
section
variable [FZ]
end
end Go.Proofs.YtlgopekjjkdkiaaGreatDoor.X
end
section
namespace Go.Proofs.YtlgopekjjkdkiaaGreatDoor.X
open Go Go.Proofs.YtlgopekjjkdkiaaGreatDoor.Ev
set_option linter.unusedSectionVars false
set_option linter.unusedVariables false
set_option linter.unusedSimpArgs false
section
variable [FZ]
def pos (L : List Int) : Prop := ∀ y ∈ L, 1 ≤ y ∧ y ≤ 128
theorem pos_tl {a : Int} {r : List Int} (h : pos (a :: r)) : (1 ≤ a ∧ a ≤ 128) ∧ pos r := ⟨h a (by simp), fun y hy => h y (by simp [hy])⟩
theorem lev_pos (n f c u : Int) : pos (levels n f c u) := (levels_ok n f c u).2
theorem levels_cons {n f c u : Int} (h : rt n f c u) : ∃ r, levels n f c u = n :: r := ⟨_, by simp [levels, h]; rfl⟩
theorem lev_chain {n f c u : Int} : rt n f c u → chain f (levels n f c u) := fun h => by
  simp only [levels, h, if_true]
  have h1 := h.1
  exact chain_lv h.2.1 20000 n h1.1 h1.2 (by omega)
end
section
variable [FZ]
theorem sum_up {f : Int} (hf : 2 ≤ f ∧ f ≤ 4) : ∀ (r : List Int) (a : Int), pos (a :: r) → chain f (a :: r) → sumI (a :: r) ≤ 3 * a - 2
  | [], a, h, hc => by
    have hc : a = 1 := hc
    subst hc
    decide
  | b :: r, a, h, hc => by
    obtain ⟨g1, g2, g3⟩ := hc
    have e1 : sumI (a :: b :: r) = a + sumI (b :: r) := rfl
    have ih := sum_up hf r b (pos_tl h).2 g3
    have : f = 2 ∨ f = 3 ∨ f = 4 := by omega
    rcases this with rfl | rfl | rfl <;> omega
theorem nodes_up {n f c u : Int} (h : rt n f c u) : nodes n f c u ≤ 384 := by
  obtain ⟨r, hr⟩ := levels_cons h
  have hc := lev_chain h
  have hp := lev_pos n f c u
  have h1 := h.1
  unfold nodes
  rw [hr] at hc hp ⊢
  have := sum_up h.2.1 r n hp hc
  omega
end
end Go.Proofs.YtlgopekjjkdkiaaGreatDoor.X
end