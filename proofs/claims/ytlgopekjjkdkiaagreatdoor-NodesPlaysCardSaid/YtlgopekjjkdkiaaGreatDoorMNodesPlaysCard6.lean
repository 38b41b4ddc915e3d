/- Merged: EvF124, EvF167, EvF192, EvF154, EvF102, EvF112, EvF128, EvF168, EvF114, EvF100, EvF169, EvF140, EvF74, EvF115, EvF116, EvF165, EvF166, EvF113, EvF143, EvF170, EvF203, EvF177, EvF171, EvF25, EvF117, EvF172, EvF118, EvF29, EvF32, EvF33, EvF43, EvF45, EvF64, EvF75, EvF76, EvF47, EvF124v6206, EvF114v6615, EvF74v1385, EvF115v5089, EvF116v5478, EvF143v568, EvF117v2949, EvF118v5478, EvF29v6206, EvF32v7155. -/
import Derived.Test.YtlgopekjjkdkiaaGreatDoorMNodesPlaysCard3
import Derived.Test.YtlgopekjjkdkiaaGreatDoorProg
import Derived.KernelRfl
import Derived.Test.YtlgopekjjkdkiaaGreatDoorMNodesPlaysCard5
import Derived.Test.YtlgopekjjkdkiaaGreatDoorMNodesPlaysCard4
section
namespace Go.Proofs.YtlgopekjjkdkiaaGreatDoor.X
open Go Go.Proofs.YtlgopekjjkdkiaaGreatDoor.Ev Go.Proofs
set_option linter.unusedVariables false
set_option linter.unusedSectionVars false
section
noncomputable def f124_1_l5 {β : Type} (F : Nat) (v3 v5 v7 : Int) (v8 : Bool) (v9 : Int) (v10 : List ByteArray) (v11 : List (Int × ByteArray)) (K0 : ByteArray → Option β) : Nat → ByteArray → Int → Option β
  | 0, _, _ => none
  | k + 1, v4, v6 => cond (decide (v6 < ((v11.length : Nat) : Int))) (cond (v5 == 0) (cond (decide ((0 : Int) ≤ v6 ∧ v6 < ((v11.length : Nat) : Int))) (cond (decide (0 + v6.toNat < v11.length)) (cond (((v11.getD (0 + v6.toNat) (0, ByteArray.empty)).1) == v3) (cond (decide ((0 : Int) ≤ v6 ∧ v6 < ((v11.length : Nat) : Int))) (cond (decide (0 + v6.toNat < v11.length)) (f124_1_l5 F v3 v5 v7 v8 v9 v10 v11 K0 k ((v11.getD (0 + v6.toNat) (0, ByteArray.empty)).2) (IntKind.i64.wrap (v6 + 1))) none) none) (f124_1_l5 F v3 v5 v7 v8 v9 v10 v11 K0 k v4 (IntKind.i64.wrap (v6 + 1)))) none) none) (K0 v4)) (K0 v4)
noncomputable def f124_1 {β : Type} (F : Nat) (a1 a2 : Int) (a3 : Bool) (a4 : Int) (a5 : List ByteArray) (a6 : List (Int × ByteArray)) (K0 : ByteArray → Int → Option β) : Option β := cond a3 (K0 ByteArray.empty 5) (f175_1 F a1 a2 a3 a4 a5 a6 (fun x1 x2 => f124_1_l5 F a1 x2 a2 a3 a4 a5 a6 (fun x12 => K0 x12 x2) F x1 0) )
variable [FZ]
def sh124_1 : Sh := ⟨[.lf (.ptr 0 0), .lf (.int .i64)], [some ⟨none, [.full 1, .full 2, .int .i64, .bool, .int .i64]⟩, some ⟨none, [.seq .str 0]⟩, some ⟨none, [.seq (.pair (.int .i64) .str) 0]⟩]⟩
abbrev Y124_1 := Int → Int → Bool → Int → List ByteArray → List (Int × ByteArray) → (ByteArray → Int → Option Res) → Option Res
noncomputable def A124_1 (g : Y124_1) (d : sh124_1.den) (K : KF) : Option Res := g d.1.2.1 d.2.1.2.2.2.1 d.2.1.2.2.2.2.1 d.2.1.2.2.2.2.2.1 d.2.2.1.2.1 d.2.2.2.1.2.1 (fun y0 y1 => K [.lf (.str y0), .lf (.int .i64 y1)] [some ⟨d.2.1.1, [.full 1, .full 2, .int .i64 d.2.1.2.2.2.1, .bool d.2.1.2.2.2.2.1, .int .i64 d.2.1.2.2.2.2.2.1]⟩, some ⟨d.2.2.1.1, [.seq .str 0 d.2.2.1.2.1]⟩, some ⟨d.2.2.2.1.1, [.seq (.pair (.int .i64) .str) 0 d.2.2.2.1.2.1]⟩])
noncomputable def S124_1 (F : Nat) (o : Summ) : Summ := mkS sh124_1 (fun d K => A124_1 (f124_1 F) d K) o
noncomputable def code124 : Code := bodyOf Tryz.f124
noncomputable def b124_0 : Code := cB (cB (cR (cL (cR (cR (cR (code124)))))))
theorem loops124 : loopsOf code124 = [b124_0] := by kernel_rfl
theorem enter124 : En Tryz.prog 124 := enO (fn := Tryz.f124)
noncomputable def T124_1 (F : Nat) : FuncId → Option Summ := tab [(175, (S175_1 F noS))]
def sh124_1_l5 : Sh := ⟨[.lf (.ptr 0 0), .lf (.int .i64), .lf (.str), .lf (.int .i64), .lf (.int .i64)], [some ⟨none, [.full 1, .full 2, .int .i64, .bool, .int .i64]⟩, some ⟨none, [.seq .str 0]⟩, some ⟨none, [.seq (.pair (.int .i64) .str) 0]⟩]⟩
abbrev Y124_1_l5 := Int → Int → Int → Bool → Int → List ByteArray → List (Int × ByteArray) → (ByteArray → Option Res) → Nat → ByteArray → Int → Option Res
noncomputable def A124_1_l5 (g : Y124_1_l5) (k : Nat) (d : sh124_1_l5.den) (K : KL) : Option Res := g d.1.2.1 d.1.2.2.2.1 d.2.1.2.2.2.1 d.2.1.2.2.2.2.1 d.2.1.2.2.2.2.2.1 d.2.2.1.2.1 d.2.2.2.1.2.1 (fun y0 => K (.exit 0) [.tv (.lf (.str y0)), .tv (.lf (.int .i64 d.1.2.2.2.1))] [some ⟨d.2.1.1, [.full 1, .full 2, .int .i64 d.2.1.2.2.2.1, .bool d.2.1.2.2.2.2.1, .int .i64 d.2.1.2.2.2.2.2.1]⟩, some ⟨d.2.2.1.1, [.seq .str 0 d.2.2.1.2.1]⟩, some ⟨d.2.2.2.1.1, [.seq (.pair (.int .i64) .str) 0 d.2.2.2.1.2.1]⟩]) k d.1.2.2.1 d.1.2.2.2.2.1
noncomputable def G124_1_5 (F k : Nat) : LoopS := mkG sh124_1_l5 [0, 1, 6, 7, 8] (outT [(.exit 0, [6, 7])]) (fun d K => A124_1_l5 (f124_1_l5 F) k d K) []
noncomputable def LT124_1 (F : Nat) : Nat → Option LoopS := ltab [(5, G124_1_5 F F)]
theorem L124_1_5 (F : Nat) : LoopOK Tryz.prog (T124_1 F) (xw []) 52 3 (LT124_1 F) (G124_1_5 F F) b124_0 :=
  loopOK_of (s := sh124_1_l5) (live := [0, 1, 6, 7, 8]) (out := (outT [(.exit 0, [6, 7])])) (mv := []) (fun k d K => A124_1_l5 (f124_1_l5 F) k d K) F (fun d K => by kernel_rfl)  (fun k d K => by delta A124_1_l5; refine (f124_1_l5.eq_2 ..).trans ?_; delta T124_1 S175_1 LT124_1; generalize (G124_1_5 F F) = c;  (try delta G124_1_5); generalize (f175_1 F : Y175_1) = c, (f124_1_l5 F : Y124_1_l5) = c; as_aux_lemma => kernel_rfl)
theorem E124_1 (F : Nat) (d : sh124_1.den) (K : KF) : EB Tryz.prog (T124_1 F) (xw []) 52 3 (LT124_1 F) [] false Tryz.f124 sh124_1 d K = A124_1 (f124_1 F) d K := by delta A124_1 f124_1 T124_1 S175_1 LT124_1;  delta G124_1_5; generalize (f175_1 F : Y175_1) = c, (f124_1_l5 F : Y124_1_l5) = c; as_aux_lemma => kernel_rfl
theorem S124_1_ok : So Tryz.prog 124 S124_1 :=
  fun F o ho => sOf (fn := Tryz.f124) (c := code124) (tab_cons (S175_1_ok F _ (noS_sound enter175)) tab_nil) ho (by rw [loops124]; exact (loopsOK_cons (by kernel_rfl) (L124_1_5 F) loopsOK_nil)) snil rnil (E124_1 F)
end
section
noncomputable def f167_1 {β : Type} (F : Nat) (a1 a2 a3 a4 a5 : Int) (K0 : Int → Option β) : Option β := cond (decide (a5 < 0)) (K0 (-1)) (f36_1 F a1 a2 a3 a4 (fun x1 => cond (decide (a5 ≥ x1)) (K0 (-1)) (K0 (IntKind.i64.wrap ((IntKind.i64.wrap (6 + a1)) + a5)))) )
variable [FZ]
def sh167_1 : Sh := ⟨[.agg [.int .i64, .int .i64, .int .i64, .int .i64], .lf (.int .i64)], []⟩
abbrev Y167_1 := Int → Int → Int → Int → Int → (Int → Option Res) → Option Res
noncomputable def A167_1 (g : Y167_1) (d : sh167_1.den) (K : KF) : Option Res := g d.1.1.1 d.1.1.2.1 d.1.1.2.2.1 d.1.1.2.2.2.1 d.1.2.1 (fun y0 => K [.lf (.int .i64 y0)] [])
noncomputable def S167_1 (F : Nat) (o : Summ) : Summ := mkS sh167_1 (fun d K => A167_1 (f167_1 F) d K) o
noncomputable def code167 : Code := bodyOf Tryz.f167
theorem enter167 : En Tryz.prog 167 := enO (fn := Tryz.f167)
noncomputable def T167_1 (F : Nat) : FuncId → Option Summ := tab [(36, (S36_1 F noS))]
noncomputable def LT167_1 (F : Nat) : Nat → Option LoopS := ltab []
theorem E167_1 (F : Nat) (d : sh167_1.den) (K : KF) : EB Tryz.prog (T167_1 F) (xw []) 18 0 (LT167_1 F) [] false Tryz.f167 sh167_1 d K = A167_1 (f167_1 F) d K := by delta A167_1 f167_1 T167_1 S36_1 LT167_1;  generalize (f36_1 F : Y36_1) = c; as_aux_lemma => kernel_rfl
theorem S167_1_ok : So Tryz.prog 167 S167_1 :=
  fun F o ho => sOf (fn := Tryz.f167) (c := code167) (tab_cons (S36_1_ok F _ (noS_sound enter36)) tab_nil) ho lnil snil rnil (E167_1 F)
end
section
noncomputable def f192_1_l3 {β : Type} (F : Nat)  (K0 : Int → Option β) : Nat → Int → Int → Option β
  | 0, _, _ => none
  | k + 1, v1, v2 => cond (decide (v2 < 8)) (cond ((v1.tmod 2) == 1) (f192_1_l3 F K0 k (ixor .u32 (IntKind.u32.wrap (v1.tdiv 2)) 2197175160) (IntKind.i64.wrap (v2 + 1))) (f192_1_l3 F K0 k (IntKind.u32.wrap (v1.tdiv 2)) (IntKind.i64.wrap (v2 + 1)))) (K0 v1)
noncomputable def f192_1 {β : Type} (F : Nat) (a1 : Int) (K0 : Int → Option β) : Option β := f192_1_l3 F  (fun x3 => K0 x3) F (IntKind.u32.wrap a1) 0
variable [FZ]
def sh192_1 : Sh := ⟨[.lf (.int .u8)], []⟩
abbrev Y192_1 := Int → (Int → Option Res) → Option Res
noncomputable def A192_1 (g : Y192_1) (d : sh192_1.den) (K : KF) : Option Res := g d.1.1 (fun y0 => K [.lf (.int .u32 y0)] [])
noncomputable def S192_1 (F : Nat) (o : Summ) : Summ := mkS sh192_1 (fun d K => A192_1 (f192_1 F) d K) o
noncomputable def code192 : Code := bodyOf Tryz.f192
noncomputable def b192_0 : Code := cB (cB (cR (cL (cR (cR (code192))))))
theorem loops192 : loopsOf code192 = [b192_0] := by kernel_rfl
theorem enter192 : En Tryz.prog 192 := enO (fn := Tryz.f192)
noncomputable def T192_1 (F : Nat) : FuncId → Option Summ := tab []
def sh192_1_l3 : Sh := ⟨[.lf (.int .u32), .lf (.int .i64)], []⟩
abbrev Y192_1_l3 := (Int → Option Res) → Nat → Int → Int → Option Res
noncomputable def A192_1_l3 (g : Y192_1_l3) (k : Nat) (d : sh192_1_l3.den) (K : KL) : Option Res := g (fun y0 => K (.exit 0) [.tv (.lf (.int .u32 y0))] []) k d.1.1 d.1.2.1
noncomputable def G192_1_3 (F k : Nat) : LoopS := mkG sh192_1_l3 [3, 4] (outT [(.exit 0, [3])]) (fun d K => A192_1_l3 (f192_1_l3 F) k d K) []
noncomputable def LT192_1 (F : Nat) : Nat → Option LoopS := ltab [(3, G192_1_3 F F)]
theorem L192_1_3 (F : Nat) : LoopOK Tryz.prog (T192_1 F) (xw []) 20 0 (LT192_1 F) (G192_1_3 F F) b192_0 :=
  loopOK_of (s := sh192_1_l3) (live := [3, 4]) (out := (outT [(.exit 0, [3])])) (mv := []) (fun k d K => A192_1_l3 (f192_1_l3 F) k d K) F (fun d K => by kernel_rfl)  (fun k d K => by delta A192_1_l3; refine (f192_1_l3.eq_2 ..).trans ?_; delta T192_1 LT192_1; generalize (G192_1_3 F F) = c;  (try delta G192_1_3); generalize (f192_1_l3 F : Y192_1_l3) = c; as_aux_lemma => kernel_rfl)
theorem E192_1 (F : Nat) (d : sh192_1.den) (K : KF) : EB Tryz.prog (T192_1 F) (xw []) 20 0 (LT192_1 F) [] false Tryz.f192 sh192_1 d K = A192_1 (f192_1 F) d K := by delta A192_1 f192_1 T192_1 LT192_1;  delta G192_1_3; generalize (f192_1_l3 F : Y192_1_l3) = c; as_aux_lemma => kernel_rfl
theorem S192_1_ok : So Tryz.prog 192 S192_1 :=
  fun F o ho => sOf (fn := Tryz.f192) (c := code192) tab_nil ho (by rw [loops192]; exact (loopsOK_cons (by kernel_rfl) (L192_1_3 F) loopsOK_nil)) snil rnil (E192_1 F)
end
section
noncomputable def f154_1_l3 {β : Type} (F : Nat) (v3 : List Int) (K0 : Int → Option β) : Nat → Int → Int → Option β
  | 0, _, _ => none
  | k + 1, v1, v2 => cond (decide (v2 < ((v3.length : Nat) : Int))) (cond (decide ((0 : Int) ≤ v2 ∧ v2 < ((v3.length : Nat) : Int))) (cond (decide (0 + v2.toNat < v3.length)) (f192_1 F (ixor .u8 (IntKind.u8.wrap v1) (v3.getD (0 + v2.toNat) 0)) (fun x4 => f154_1_l3 F v3 K0 k (ixor .u32 (IntKind.u32.wrap (v1.tdiv 256)) x4) (IntKind.i64.wrap (v2 + 1))) ) none) none) (K0 v1)
noncomputable def f154_1 {β : Type} (F : Nat) (a1 : Int) (a2 : List Int) (K0 : Int → Option β) : Option β := f154_1_l3 F a2 (fun x5 => K0 (ixor .u32 4294967295 x5)) F (ixor .u32 4294967295 a1) 0
variable [FZ]
def sh154_1 : Sh := ⟨[.lf (.int .u32), .lf (.full 0)], [some ⟨none, [.seq (.int .u8) 0]⟩]⟩
abbrev Y154_1 := Int → List Int → (Int → Option Res) → Option Res
noncomputable def A154_1 (g : Y154_1) (d : sh154_1.den) (K : KF) : Option Res := g d.1.1 d.2.1.2.1 (fun y0 => K [.lf (.int .u32 y0)] [some ⟨d.2.1.1, [.seq (.int .u8) 0 d.2.1.2.1]⟩])
noncomputable def S154_1 (F : Nat) (o : Summ) : Summ := mkS sh154_1 (fun d K => A154_1 (f154_1 F) d K) o
noncomputable def code154 : Code := bodyOf Tryz.f154
noncomputable def b154_0 : Code := cB (cB (cR (cL (cR (cR (code154))))))
theorem loops154 : loopsOf code154 = [b154_0] := by kernel_rfl
theorem enter154 : En Tryz.prog 154 := enO (fn := Tryz.f154)
noncomputable def T154_1 (F : Nat) : FuncId → Option Summ := tab [(192, (S192_1 F noS))]
def sh154_1_l3 : Sh := ⟨[.lf (.full 0), .lf (.int .u32), .lf (.int .i64)], [some ⟨none, [.seq (.int .u8) 0]⟩]⟩
abbrev Y154_1_l3 := List Int → (Int → Option Res) → Nat → Int → Int → Option Res
noncomputable def A154_1_l3 (g : Y154_1_l3) (k : Nat) (d : sh154_1_l3.den) (K : KL) : Option Res := g d.2.1.2.1 (fun y0 => K (.exit 0) [.tv (.lf (.int .u32 y0))] [some ⟨d.2.1.1, [.seq (.int .u8) 0 d.2.1.2.1]⟩]) k d.1.2.1 d.1.2.2.1
noncomputable def G154_1_3 (F k : Nat) : LoopS := mkG sh154_1_l3 [1, 5, 6] (outT [(.exit 0, [5])]) (fun d K => A154_1_l3 (f154_1_l3 F) k d K) []
noncomputable def LT154_1 (F : Nat) : Nat → Option LoopS := ltab [(3, G154_1_3 F F)]
theorem L154_1_3 (F : Nat) : LoopOK Tryz.prog (T154_1 F) (xw []) 28 1 (LT154_1 F) (G154_1_3 F F) b154_0 :=
  loopOK_of (s := sh154_1_l3) (live := [1, 5, 6]) (out := (outT [(.exit 0, [5])])) (mv := []) (fun k d K => A154_1_l3 (f154_1_l3 F) k d K) F (fun d K => by kernel_rfl)  (fun k d K => by delta A154_1_l3; refine (f154_1_l3.eq_2 ..).trans ?_; delta T154_1 S192_1 LT154_1; generalize (G154_1_3 F F) = c;  (try delta G154_1_3); generalize (f192_1 F : Y192_1) = c, (f154_1_l3 F : Y154_1_l3) = c; as_aux_lemma => kernel_rfl)
theorem E154_1 (F : Nat) (d : sh154_1.den) (K : KF) : EB Tryz.prog (T154_1 F) (xw []) 28 1 (LT154_1 F) [] false Tryz.f154 sh154_1 d K = A154_1 (f154_1 F) d K := by delta A154_1 f154_1 T154_1 S192_1 LT154_1;  delta G154_1_3; generalize (f192_1 F : Y192_1) = c, (f154_1_l3 F : Y154_1_l3) = c; as_aux_lemma => kernel_rfl
theorem S154_1_ok : So Tryz.prog 154 S154_1 :=
  fun F o ho => sOf (fn := Tryz.f154) (c := code154) (tab_cons (S192_1_ok F _ (noS_sound enter192)) tab_nil) ho (by rw [loops154]; exact (loopsOK_cons (by kernel_rfl) (L154_1_3 F) loopsOK_nil)) snil rnil (E154_1 F)
end
section
noncomputable def f102_1 {β : Type} (F : Nat) (a1 : List Int) (K0 : Int → Option β) : Option β := f154_1 F 0 a1 (fun x1 => K0 x1) 
variable [FZ]
def sh102_1 : Sh := ⟨[.lf (.full 0)], [some ⟨none, [.seq (.int .u8) 0]⟩]⟩
abbrev Y102_1 := List Int → (Int → Option Res) → Option Res
noncomputable def A102_1 (g : Y102_1) (d : sh102_1.den) (K : KF) : Option Res := g d.2.1.2.1 (fun y0 => K [.lf (.int .u32 y0)] [some ⟨d.2.1.1, [.seq (.int .u8) 0 d.2.1.2.1]⟩])
noncomputable def S102_1 (F : Nat) (o : Summ) : Summ := mkS sh102_1 (fun d K => A102_1 (f102_1 F) d K) o
noncomputable def code102 : Code := bodyOf Tryz.f102
theorem enter102 : En Tryz.prog 102 := enO (fn := Tryz.f102)
noncomputable def T102_1 (F : Nat) : FuncId → Option Summ := tab [(154, (S154_1 F noS))]
noncomputable def LT102_1 (F : Nat) : Nat → Option LoopS := ltab []
theorem E102_1 (F : Nat) (d : sh102_1.den) (K : KF) : EB Tryz.prog (T102_1 F) (xw []) 5 1 (LT102_1 F) [] false Tryz.f102 sh102_1 d K = A102_1 (f102_1 F) d K := by delta A102_1 f102_1 T102_1 S154_1 LT102_1;  generalize (f154_1 F : Y154_1) = c; as_aux_lemma => kernel_rfl
theorem S102_1_ok : So Tryz.prog 102 S102_1 :=
  fun F o ho => sOf (fn := Tryz.f102) (c := code102) (tab_cons (S154_1_ok F _ (noS_sound enter154)) tab_nil) ho lnil snil rnil (E102_1 F)
end
section
noncomputable def f112_1 {β : Type} (F : Nat) (a1 : ByteArray) (K0 : Bool → Option β) : Option β := K0 ((a1.size : Int) == 64)
variable [FZ]
def sh112_1 : Sh := ⟨[.lf (.str)], []⟩
abbrev Y112_1 := ByteArray → (Bool → Option Res) → Option Res
noncomputable def A112_1 (g : Y112_1) (d : sh112_1.den) (K : KF) : Option Res := g d.1.1 (fun y0 => K [.lf (.bool y0)] [])
noncomputable def S112_1 (F : Nat) (o : Summ) : Summ := mkS sh112_1 (fun d K => A112_1 (f112_1 F) d K) o
noncomputable def code112 : Code := bodyOf Tryz.f112
theorem enter112 : En Tryz.prog 112 := enO (fn := Tryz.f112)
noncomputable def T112_1 (F : Nat) : FuncId → Option Summ := tab []
noncomputable def LT112_1 (F : Nat) : Nat → Option LoopS := ltab []
theorem E112_1 (F : Nat) (d : sh112_1.den) (K : KF) : EB Tryz.prog (T112_1 F) (xw []) 6 0 (LT112_1 F) [] false Tryz.f112 sh112_1 d K = A112_1 (f112_1 F) d K := by delta A112_1 f112_1 T112_1 LT112_1;   as_aux_lemma => kernel_rfl
theorem S112_1_ok : So Tryz.prog 112 S112_1 :=
  fun F o ho => sOf (fn := Tryz.f112) (c := code112) tab_nil ho lnil snil rnil (E112_1 F)
end
section
noncomputable def f128_1_l8 {β : Type} (F : Nat) (v4 : ByteArray) (K0 K1 : Option β) : Nat → Int → Option β
  | 0, _ => none
  | k + 1, v5 => cond (decide (v5 < 60)) (cond (decide ((0 : Int) ≤ v5 ∧ v5 < (v4.size : Int))) (cond (((v4.data.getD v5.toNat 0).toNat : Int) != 0) (K0) (f128_1_l8 F v4 K0 K1 k (IntKind.i64.wrap (v5 + 1)))) none) (K1)
noncomputable def f128_1 {β : Type} (F : Nat) (a1 : ByteArray) (K0 : Int → Int → Option β) : Option β := f112_1 F a1 (fun x1 => cond (!x1) (K0 0 4) (cond (decide ((0 : Int) ≤ (0 : Int) ∧ (0 : Int) ≤ (60 : Int) ∧ (60 : Int) ≤ (a1.size : Int))) (cond (decide ((0 : Int) ≤ (60 : Int) ∧ (60 : Int) ≤ (a1.size : Int) ∧ (a1.size : Int) ≤ (a1.size : Int))) (f102_1 F (toInts (a1.extract 0 60)) (fun x2 => f101_1 F 4 (IntKind.u64.wrap x2) (fun x3 => cond (!(x3.toList == (a1.extract 60 ((a1.size : Int).toNat)).toList)) (K0 0 9) (cond (decide ((0 : Int) ≤ (0 : Int) ∧ (0 : Int) < (a1.size : Int))) (cond (decide (((a1.data.getD 0 0).toNat : Int) < 1)) (K0 0 6) (cond (decide ((0 : Int) ≤ (0 : Int) ∧ (0 : Int) < (a1.size : Int))) (cond (decide (((a1.data.getD 0 0).toNat : Int) > 8)) (K0 0 6) (cond (decide ((0 : Int) ≤ (1 : Int) ∧ (1 : Int) < (a1.size : Int))) (cond (decide (((a1.data.getD 1 0).toNat : Int) > 58)) (K0 0 6) (cond (decide ((0 : Int) ≤ (1 : Int) ∧ (1 : Int) < (a1.size : Int))) (f128_1_l8 F a1 (K0 0 6) (cond (decide ((0 : Int) ≤ (0 : Int) ∧ (0 : Int) < (a1.size : Int))) (K0 (IntKind.i64.wrap ((a1.data.getD 0 0).toNat : Int)) 0) none) F (IntKind.i64.wrap (2 + (IntKind.i64.wrap ((a1.data.getD 1 0).toNat : Int))))) none)) none)) none)) none)) ) ) none) none)) 
variable [FZ]
def sh128_1 : Sh := ⟨[.lf (.str)], []⟩
abbrev Y128_1 := ByteArray → (Int → Int → Option Res) → Option Res
noncomputable def A128_1 (g : Y128_1) (d : sh128_1.den) (K : KF) : Option Res := g d.1.1 (fun y0 y1 => K [.lf (.int .i64 y0), .lf (.int .i64 y1)] [])
noncomputable def S128_1 (F : Nat) (o : Summ) : Summ := mkS sh128_1 (fun d K => A128_1 (f128_1 F) d K) o
noncomputable def code128 : Code := bodyOf Tryz.f128
noncomputable def b128_0 : Code := cB (cB (cR (cL (cR (cR (cR (cR (code128))))))))
theorem loops128 : loopsOf code128 = [b128_0] := by kernel_rfl
theorem enter128 : En Tryz.prog 128 := enO (fn := Tryz.f128)
noncomputable def T128_1 (F : Nat) : FuncId → Option Summ := tab [(101, (S101_1 F noS)), (102, (S102_1 F noS)), (112, (S112_1 F noS))]
def sh128_1_l8 : Sh := ⟨[.lf (.str), .lf (.int .i64)], []⟩
abbrev Y128_1_l8 := ByteArray → (Option Res) → (Option Res) → Nat → Int → Option Res
noncomputable def A128_1_l8 (g : Y128_1_l8) (k : Nat) (d : sh128_1_l8.den) (K : KL) : Option Res := g d.1.1 (K .ret [.tv (.lf (.int .i64 0)), .tv (.lf (.int .i64 6))] []) (K (.exit 0) [.tv (.lf (.str d.1.1))] []) k d.1.2.1
noncomputable def G128_1_8 (F k : Nat) : LoopS := mkG sh128_1_l8 [0, 4] (outT [(.exit 0, [0]), (.ret, [2, 3])]) (fun d K => A128_1_l8 (f128_1_l8 F) k d K) []
noncomputable def LT128_1 (F : Nat) : Nat → Option LoopS := ltab [(8, G128_1_8 F F)]
theorem L128_1_8 (F : Nat) : LoopOK Tryz.prog (T128_1 F) (xw []) 45 0 (LT128_1 F) (G128_1_8 F F) b128_0 :=
  loopOK_of (s := sh128_1_l8) (live := [0, 4]) (out := (outT [(.exit 0, [0]), (.ret, [2, 3])])) (mv := []) (fun k d K => A128_1_l8 (f128_1_l8 F) k d K) F (fun d K => by kernel_rfl)  (fun k d K => by delta A128_1_l8; refine (f128_1_l8.eq_2 ..).trans ?_; delta T128_1 S101_1 S102_1 S112_1 LT128_1; generalize (G128_1_8 F F) = c;  (try delta G128_1_8); generalize (f101_1 F : Y101_1) = c, (f102_1 F : Y102_1) = c, (f112_1 F : Y112_1) = c, (f128_1_l8 F : Y128_1_l8) = c; as_aux_lemma => kernel_rfl)
theorem E128_1 (F : Nat) (d : sh128_1.den) (K : KF) : EB Tryz.prog (T128_1 F) (xw []) 45 0 (LT128_1 F) [] false Tryz.f128 sh128_1 d K = A128_1 (f128_1 F) d K := by delta A128_1 f128_1 T128_1 S101_1 S102_1 S112_1 LT128_1;  delta G128_1_8; generalize (f101_1 F : Y101_1) = c, (f102_1 F : Y102_1) = c, (f112_1 F : Y112_1) = c, (f128_1_l8 F : Y128_1_l8) = c; as_aux_lemma => kernel_rfl
theorem S128_1_ok : So Tryz.prog 128 S128_1 :=
  fun F o ho => sOf (fn := Tryz.f128) (c := code128) (tab_cons (S101_1_ok F _ (noS_sound enter101)) (tab_cons (S102_1_ok F _ (noS_sound enter102)) (tab_cons (S112_1_ok F _ (noS_sound enter112)) tab_nil))) ho (by rw [loops128]; exact (loopsOK_cons (by kernel_rfl) (L128_1_8 F) loopsOK_nil)) snil rnil (E128_1 F)
end
section
noncomputable def f168_1 {β : Type} (F : Nat) (a1 : Int) (a2 : ByteArray) (K0 : ByteArray → Int → Option β) : Option β := f128_1 F a2 (fun x1 x2 => cond (x2 != 0) (K0 ByteArray.empty x2) (cond (x1 != a1) (K0 ByteArray.empty 22) (cond (decide ((0 : Int) ≤ (1 : Int) ∧ (1 : Int) < (a2.size : Int))) (cond (decide ((0 : Int) ≤ (2 : Int) ∧ (2 : Int) ≤ IntKind.i64.wrap (2 + (IntKind.i64.wrap ((a2.data.getD 1 0).toNat : Int))) ∧ IntKind.i64.wrap (2 + (IntKind.i64.wrap ((a2.data.getD 1 0).toNat : Int))) ≤ (a2.size : Int))) (K0 (a2.extract 2 ((IntKind.i64.wrap (2 + (IntKind.i64.wrap ((a2.data.getD 1 0).toNat : Int)))).toNat)) 0) none) none))) 
variable [FZ]
def sh168_1 : Sh := ⟨[.lf (.int .i64), .lf (.str)], []⟩
abbrev Y168_1 := Int → ByteArray → (ByteArray → Int → Option Res) → Option Res
noncomputable def A168_1 (g : Y168_1) (d : sh168_1.den) (K : KF) : Option Res := g d.1.1 d.1.2.1 (fun y0 y1 => K [.lf (.str y0), .lf (.int .i64 y1)] [])
noncomputable def S168_1 (F : Nat) (o : Summ) : Summ := mkS sh168_1 (fun d K => A168_1 (f168_1 F) d K) o
noncomputable def code168 : Code := bodyOf Tryz.f168
theorem enter168 : En Tryz.prog 168 := enO (fn := Tryz.f168)
noncomputable def T168_1 (F : Nat) : FuncId → Option Summ := tab [(128, (S128_1 F noS))]
noncomputable def LT168_1 (F : Nat) : Nat → Option LoopS := ltab []
theorem E168_1 (F : Nat) (d : sh168_1.den) (K : KF) : EB Tryz.prog (T168_1 F) (xw []) 25 0 (LT168_1 F) [] false Tryz.f168 sh168_1 d K = A168_1 (f168_1 F) d K := by delta A168_1 f168_1 T168_1 S128_1 LT168_1;  generalize (f128_1 F : Y128_1) = c; as_aux_lemma => kernel_rfl
theorem S168_1_ok : So Tryz.prog 168 S168_1 :=
  fun F o ho => sOf (fn := Tryz.f168) (c := code168) (tab_cons (S128_1_ok F _ (noS_sound enter128)) tab_nil) ho lnil snil rnil (E168_1 F)
end
section
noncomputable def f114_1 {β : Type} (F : Nat) (a1 a2 a3 a4 a5 a6 : Int) (a7 : Bool) (a8 : Int) (a9 : List ByteArray) (a10 : List (Int × ByteArray)) (K0 : ByteArray → Int → Option β) : Option β := f167_1 F a1 a2 a3 a4 a5 (fun x1 => cond (decide (x1 < 0)) (K0 ByteArray.empty 3) (f124_1 F x1 a6 a7 a8 a9 a10 (fun x2 x3 => cond (x3 != 0) (K0 ByteArray.empty x3) (f168_1 F 6 x2 (fun x4 x5 => cond (x5 != 0) (K0 ByteArray.empty x5) (cond ((x4.size : Int) != 34) (K0 ByteArray.empty 6) (cond (decide ((0 : Int) ≤ (0 : Int) ∧ (0 : Int) ≤ (2 : Int) ∧ (2 : Int) ≤ (x4.size : Int))) (f101_1 F 2 (IntKind.u64.wrap a5) (fun x6 => cond (!((x4.extract 0 2).toList == x6.toList)) (K0 ByteArray.empty 6) (cond (decide ((0 : Int) ≤ (2 : Int) ∧ (2 : Int) ≤ (x4.size : Int) ∧ (x4.size : Int) ≤ (x4.size : Int))) (K0 (x4.extract 2 ((x4.size : Int).toNat)) 0) none)) ) none))) )) )) 
variable [FZ]
def sh114_1 : Sh := ⟨[.lf (.ptr 0 0), .agg [.int .i64, .int .i64, .int .i64, .int .i64], .lf (.int .i64)], [some ⟨none, [.full 1, .full 2, .int .i64, .bool, .int .i64]⟩, some ⟨none, [.seq .str 0]⟩, some ⟨none, [.seq (.pair (.int .i64) .str) 0]⟩]⟩
abbrev Y114_1 := Int → Int → Int → Int → Int → Int → Bool → Int → List ByteArray → List (Int × ByteArray) → (ByteArray → Int → Option Res) → Option Res
noncomputable def A114_1 (g : Y114_1) (d : sh114_1.den) (K : KF) : Option Res := g d.1.2.1.1 d.1.2.1.2.1 d.1.2.1.2.2.1 d.1.2.1.2.2.2.1 d.1.2.2.1 d.2.1.2.2.2.1 d.2.1.2.2.2.2.1 d.2.1.2.2.2.2.2.1 d.2.2.1.2.1 d.2.2.2.1.2.1 (fun y0 y1 => K [.lf (.str y0), .lf (.int .i64 y1)] [some ⟨d.2.1.1, [.full 1, .full 2, .int .i64 d.2.1.2.2.2.1, .bool d.2.1.2.2.2.2.1, .int .i64 d.2.1.2.2.2.2.2.1]⟩, some ⟨d.2.2.1.1, [.seq .str 0 d.2.2.1.2.1]⟩, some ⟨d.2.2.2.1.1, [.seq (.pair (.int .i64) .str) 0 d.2.2.2.1.2.1]⟩])
noncomputable def S114_1 (F : Nat) (o : Summ) : Summ := mkS sh114_1 (fun d K => A114_1 (f114_1 F) d K) o
noncomputable def code114 : Code := bodyOf Tryz.f114
theorem enter114 : En Tryz.prog 114 := enO (fn := Tryz.f114)
noncomputable def T114_1 (F : Nat) : FuncId → Option Summ := tab [(101, (S101_1 F noS)), (124, (S124_1 F noS)), (167, (S167_1 F noS)), (168, (S168_1 F noS))]
noncomputable def LT114_1 (F : Nat) : Nat → Option LoopS := ltab []
theorem E114_1 (F : Nat) (d : sh114_1.den) (K : KF) : EB Tryz.prog (T114_1 F) (xw []) 47 3 (LT114_1 F) [] false Tryz.f114 sh114_1 d K = A114_1 (f114_1 F) d K := by delta A114_1 f114_1 T114_1 S101_1 S124_1 S167_1 S168_1 LT114_1;  generalize (f101_1 F : Y101_1) = c, (f124_1 F : Y124_1) = c, (f167_1 F : Y167_1) = c, (f168_1 F : Y168_1) = c; as_aux_lemma => kernel_rfl
theorem S114_1_ok : So Tryz.prog 114 S114_1 :=
  fun F o ho => sOf (fn := Tryz.f114) (c := code114) (tab_cons (S101_1_ok F _ (noS_sound enter101)) (tab_cons (S124_1_ok F _ (noS_sound enter124)) (tab_cons (S167_1_ok F _ (noS_sound enter167)) (tab_cons (S168_1_ok F _ (noS_sound enter168)) tab_nil)))) ho lnil snil rnil (E114_1 F)
end
section
noncomputable def f100_1 {β : Type} (F : Nat) (a1 : Int) (a2 : ByteArray) (K0 : ByteArray → Int → Option β) : Option β := cond (decide (a1 < 1)) (K0 ByteArray.empty 22) (cond (decide (a1 > 8)) (K0 ByteArray.empty 22) (cond (decide ((a2.size : Int) > 58)) (K0 ByteArray.empty 8) (f101_1 F 1 (IntKind.u64.wrap a1) (fun x1 => f101_1 F 1 (IntKind.u64.wrap (a2.size : Int)) (fun x2 => cond (decide (x1.size + x2.size ≤ 4611686018427387904)) (cond (decide ((x1 ++ x2).size + a2.size ≤ 4611686018427387904)) (f54_1 F  (fun x3 => cond (decide ((0 : Int) ≤ (((x1 ++ x2) ++ a2).size : Int) ∧ (((x1 ++ x2) ++ a2).size : Int) ≤ (60 : Int) ∧ (60 : Int) ≤ (x3.size : Int))) (cond (decide (((x1 ++ x2) ++ a2).size + (x3.extract ((((x1 ++ x2) ++ a2).size : Int).toNat) 60).size ≤ 4611686018427387904)) (f102_1 F (toInts (((x1 ++ x2) ++ a2) ++ (x3.extract ((((x1 ++ x2) ++ a2).size : Int).toNat) 60))) (fun x4 => f101_1 F 4 (IntKind.u64.wrap x4) (fun x5 => cond (decide ((((x1 ++ x2) ++ a2) ++ (x3.extract ((((x1 ++ x2) ++ a2).size : Int).toNat) 60)).size + x5.size ≤ 4611686018427387904)) (K0 ((((x1 ++ x2) ++ a2) ++ (x3.extract ((((x1 ++ x2) ++ a2).size : Int).toNat) 60)) ++ x5) 0) none) ) ) none) none) ) none) none) ) )))
variable [FZ]
def sh100_1 : Sh := ⟨[.lf (.int .i64), .lf (.str)], []⟩
abbrev Y100_1 := Int → ByteArray → (ByteArray → Int → Option Res) → Option Res
noncomputable def A100_1 (g : Y100_1) (d : sh100_1.den) (K : KF) : Option Res := g d.1.1 d.1.2.1 (fun y0 y1 => K [.lf (.str y0), .lf (.int .i64 y1)] [])
noncomputable def S100_1 (F : Nat) (o : Summ) : Summ := mkS sh100_1 (fun d K => A100_1 (f100_1 F) d K) o
noncomputable def code100 : Code := bodyOf Tryz.f100
theorem enter100 : En Tryz.prog 100 := enO (fn := Tryz.f100)
noncomputable def T100_1 (F : Nat) : FuncId → Option Summ := tab [(54, (S54_1 F noS)), (101, (S101_1 F noS)), (102, (S102_1 F noS))]
noncomputable def LT100_1 (F : Nat) : Nat → Option LoopS := ltab []
theorem E100_1 (F : Nat) (d : sh100_1.den) (K : KF) : EB Tryz.prog (T100_1 F) (xw []) 41 0 (LT100_1 F) [] false Tryz.f100 sh100_1 d K = A100_1 (f100_1 F) d K := by delta A100_1 f100_1 T100_1 S54_1 S101_1 S102_1 LT100_1;  generalize (f54_1 F : Y54_1) = c, (f101_1 F : Y101_1) = c, (f102_1 F : Y102_1) = c; as_aux_lemma => kernel_rfl
theorem S100_1_ok : So Tryz.prog 100 S100_1 :=
  fun F o ho => sOf (fn := Tryz.f100) (c := code100) (tab_cons (S54_1_ok F _ (noS_sound enter54)) (tab_cons (S101_1_ok F _ (noS_sound enter101)) (tab_cons (S102_1_ok F _ (noS_sound enter102)) tab_nil))) ho lnil snil rnil (E100_1 F)
end
section
noncomputable def f169_1 {β : Type} (F : Nat) (a1 : ByteArray) (K0 : Bool → Option β) : Option β := K0 ((a1.size : Int) == 32)
variable [FZ]
def sh169_1 : Sh := ⟨[.lf (.str)], []⟩
abbrev Y169_1 := ByteArray → (Bool → Option Res) → Option Res
noncomputable def A169_1 (g : Y169_1) (d : sh169_1.den) (K : KF) : Option Res := g d.1.1 (fun y0 => K [.lf (.bool y0)] [])
noncomputable def S169_1 (F : Nat) (o : Summ) : Summ := mkS sh169_1 (fun d K => A169_1 (f169_1 F) d K) o
noncomputable def code169 : Code := bodyOf Tryz.f169
theorem enter169 : En Tryz.prog 169 := enO (fn := Tryz.f169)
noncomputable def T169_1 (F : Nat) : FuncId → Option Summ := tab []
noncomputable def LT169_1 (F : Nat) : Nat → Option LoopS := ltab []
theorem E169_1 (F : Nat) (d : sh169_1.den) (K : KF) : EB Tryz.prog (T169_1 F) (xw []) 6 0 (LT169_1 F) [] false Tryz.f169 sh169_1 d K = A169_1 (f169_1 F) d K := by delta A169_1 f169_1 T169_1 LT169_1;   as_aux_lemma => kernel_rfl
theorem S169_1_ok : So Tryz.prog 169 S169_1 :=
  fun F o ho => sOf (fn := Tryz.f169) (c := code169) tab_nil ho lnil snil rnil (E169_1 F)
end
section
noncomputable def f140_1 {β : Type} (F : Nat) (a1 : Int) (a2 : Bool) (a3 : Int) (a4 : List ByteArray) (a5 : List (Int × ByteArray)) (K0 : Bool → Int → Bool → Int → Option β) : Option β := cond (a1 == 0) (K0 false (-1) true a3) (cond (decide (a1 > 0)) (K0 true (IntKind.i64.wrap (a1 - 1)) a2 (IntKind.i64.wrap (a3 + 1))) (K0 true a1 a2 (IntKind.i64.wrap (a3 + 1))))
variable [FZ]
def sh140_1 : Sh := ⟨[.lf (.ptr 0 0)], [some ⟨some false, [.full 1, .full 2, .int .i64, .bool, .int .i64]⟩, some ⟨none, [.seq .str 0]⟩, some ⟨none, [.seq (.pair (.int .i64) .str) 0]⟩]⟩
abbrev Y140_1 := Int → Bool → Int → List ByteArray → List (Int × ByteArray) → (Bool → Int → Bool → Int → Option Res) → Option Res
noncomputable def A140_1 (g : Y140_1) (d : sh140_1.den) (K : KF) : Option Res := g d.2.1.2.2.2.1 d.2.1.2.2.2.2.1 d.2.1.2.2.2.2.2.1 d.2.2.1.2.1 d.2.2.2.1.2.1 (fun y0 y1 y2 y3 => K [.lf (.bool y0)] [some ⟨false, [.full 1, .full 2, .int .i64 y1, .bool y2, .int .i64 y3]⟩, some ⟨d.2.2.1.1, [.seq .str 0 d.2.2.1.2.1]⟩, some ⟨d.2.2.2.1.1, [.seq (.pair (.int .i64) .str) 0 d.2.2.2.1.2.1]⟩])
noncomputable def S140_1 (F : Nat) (o : Summ) : Summ := mkS sh140_1 (fun d K => A140_1 (f140_1 F) d K) o
noncomputable def code140 : Code := bodyOf Tryz.f140
theorem enter140 : En Tryz.prog 140 := enO (fn := Tryz.f140)
noncomputable def T140_1 (F : Nat) : FuncId → Option Summ := tab []
noncomputable def LT140_1 (F : Nat) : Nat → Option LoopS := ltab []
theorem E140_1 (F : Nat) (d : sh140_1.den) (K : KF) : EB Tryz.prog (T140_1 F) (xw []) 35 3 (LT140_1 F) [] false Tryz.f140 sh140_1 d K = A140_1 (f140_1 F) d K := by delta A140_1 f140_1 T140_1 LT140_1;   as_aux_lemma => kernel_rfl
theorem S140_1_ok : So Tryz.prog 140 S140_1 :=
  fun F o ho => sOf (fn := Tryz.f140) (c := code140) tab_nil ho lnil snil rnil (E140_1 F)
end
section
noncomputable def f74_1 {β : Type} (F : Nat) (a1 : Int) (a2 : ByteArray) (a3 : Int) (a4 : Bool) (a5 : Int) (a6 : List ByteArray) (a7 : List (Int × ByteArray)) (K0 : Int → Int → Bool → Int → List (Int × ByteArray) → Option β) : Option β := cond a4 (K0 5 a3 a4 a5 a7) (cond (decide (a1 < 0)) (K0 3 a3 a4 a5 a7) (cond (decide (a1 ≥ ((a6.length : Nat) : Int))) (K0 3 a3 a4 a5 a7) (f112_1 F a2 (fun x1 => cond (!x1) (K0 4 a3 a4 a5 a7) (f140_1 F a3 a4 a5 a6 a7 (fun x2 x3 x4 x5 => cond (!x2) (K0 5 x3 x4 x5 a7) (cond (decide ((a7.length + 1) * 24 ≤ 70368744177664)) (K0 0 x3 x4 x5 (a7 ++ [(a1, a2)])) none)) )) )))
variable [FZ]
def sh74_1 : Sh := ⟨[.lf (.ptr 0 0), .lf (.int .i64), .lf (.str)], [some ⟨some false, [.full 1, .full 2, .int .i64, .bool, .int .i64]⟩, some ⟨none, [.seq .str 0]⟩, some ⟨some false, [.seq (.pair (.int .i64) .str) 0]⟩]⟩
abbrev Y74_1 := Int → ByteArray → Int → Bool → Int → List ByteArray → List (Int × ByteArray) → (Int → Int → Bool → Int → List (Int × ByteArray) → Option Res) → Option Res
noncomputable def A74_1 (g : Y74_1) (d : sh74_1.den) (K : KF) : Option Res := g d.1.2.1 d.1.2.2.1 d.2.1.2.2.2.1 d.2.1.2.2.2.2.1 d.2.1.2.2.2.2.2.1 d.2.2.1.2.1 d.2.2.2.1.2.1 (fun y0 y1 y2 y3 y5 => K [.lf (.int .i64 y0)] [some ⟨false, [.full 1, .full 3, .int .i64 y1, .bool y2, .int .i64 y3]⟩, some ⟨d.2.2.1.1, [.seq .str 0 d.2.2.1.2.1]⟩, none, some ⟨false, [.seq (.pair (.int .i64) .str) 0 y5]⟩])
noncomputable def S74_1 (F : Nat) (o : Summ) : Summ := mkS sh74_1 (fun d K => A74_1 (f74_1 F) d K) o
noncomputable def code74 : Code := bodyOf Tryz.f74
theorem enter74 : En Tryz.prog 74 := enO (fn := Tryz.f74)
noncomputable def T74_1 (F : Nat) : FuncId → Option Summ := tab [(112, (S112_1 F noS)), (140, (S140_1 F noS))]
noncomputable def LT74_1 (F : Nat) : Nat → Option LoopS := ltab []
theorem E74_1 (F : Nat) (d : sh74_1.den) (K : KF) : EB Tryz.prog (T74_1 F) (xw []) 40 3 (LT74_1 F) [2] false Tryz.f74 sh74_1 d K = A74_1 (f74_1 F) d K := by delta A74_1 f74_1 T74_1 S112_1 S140_1 LT74_1;  generalize (f112_1 F : Y112_1) = c, (f140_1 F : Y140_1) = c; as_aux_lemma => kernel_rfl
theorem S74_1_ok : So Tryz.prog 74 S74_1 :=
  fun F o ho => sOf (fn := Tryz.f74) (c := code74) (tab_cons (S112_1_ok F _ (noS_sound enter112)) (tab_cons (S140_1_ok F _ (noS_sound enter140)) tab_nil)) ho lnil snil rnil (E74_1 F)
end
section
noncomputable def f115_1 {β : Type} (F : Nat) (a1 a2 a3 a4 a5 : Int) (a6 : ByteArray) (a7 : Int) (a8 : Bool) (a9 : Int) (a10 : List ByteArray) (a11 : List (Int × ByteArray)) (K0 : Int → Int → Bool → Int → List (Int × ByteArray) → Option β) : Option β := f167_1 F a1 a2 a3 a4 a5 (fun x1 => cond (decide (x1 < 0)) (K0 3 a7 a8 a9 a11) (f169_1 F a6 (fun x2 => cond (!x2) (K0 4 a7 a8 a9 a11) (f101_1 F 2 (IntKind.u64.wrap a5) (fun x3 => cond (decide (x3.size + a6.size ≤ 4611686018427387904)) (f100_1 F 6 (x3 ++ a6) (fun x4 x5 => f74_1 F x1 x4 a7 a8 a9 a10 a11 (fun x6 x7 x8 x9 x10 => K0 x6 x7 x8 x9 x10) ) ) none) )) )) 
variable [FZ]
def sh115_1 : Sh := ⟨[.lf (.ptr 0 0), .agg [.int .i64, .int .i64, .int .i64, .int .i64], .lf (.int .i64), .lf (.str)], [some ⟨some false, [.full 1, .full 2, .int .i64, .bool, .int .i64]⟩, some ⟨none, [.seq .str 0]⟩, some ⟨some false, [.seq (.pair (.int .i64) .str) 0]⟩]⟩
abbrev Y115_1 := Int → Int → Int → Int → Int → ByteArray → Int → Bool → Int → List ByteArray → List (Int × ByteArray) → (Int → Int → Bool → Int → List (Int × ByteArray) → Option Res) → Option Res
noncomputable def A115_1 (g : Y115_1) (d : sh115_1.den) (K : KF) : Option Res := g d.1.2.1.1 d.1.2.1.2.1 d.1.2.1.2.2.1 d.1.2.1.2.2.2.1 d.1.2.2.1 d.1.2.2.2.1 d.2.1.2.2.2.1 d.2.1.2.2.2.2.1 d.2.1.2.2.2.2.2.1 d.2.2.1.2.1 d.2.2.2.1.2.1 (fun y0 y1 y2 y3 y5 => K [.lf (.int .i64 y0)] [some ⟨false, [.full 1, .full 3, .int .i64 y1, .bool y2, .int .i64 y3]⟩, some ⟨d.2.2.1.1, [.seq .str 0 d.2.2.1.2.1]⟩, none, some ⟨false, [.seq (.pair (.int .i64) .str) 0 y5]⟩])
noncomputable def S115_1 (F : Nat) (o : Summ) : Summ := mkS sh115_1 (fun d K => A115_1 (f115_1 F) d K) o
noncomputable def code115 : Code := bodyOf Tryz.f115
theorem enter115 : En Tryz.prog 115 := enO (fn := Tryz.f115)
noncomputable def T115_1 (F : Nat) : FuncId → Option Summ := tab [(74, (S74_1 F noS)), (100, (S100_1 F noS)), (101, (S101_1 F noS)), (167, (S167_1 F noS)), (169, (S169_1 F noS))]
noncomputable def LT115_1 (F : Nat) : Nat → Option LoopS := ltab []
theorem E115_1 (F : Nat) (d : sh115_1.den) (K : KF) : EB Tryz.prog (T115_1 F) (xw []) 33 3 (LT115_1 F) [2] false Tryz.f115 sh115_1 d K = A115_1 (f115_1 F) d K := by delta A115_1 f115_1 T115_1 S74_1 S100_1 S101_1 S167_1 S169_1 LT115_1;  generalize (f74_1 F : Y74_1) = c, (f100_1 F : Y100_1) = c, (f101_1 F : Y101_1) = c, (f167_1 F : Y167_1) = c, (f169_1 F : Y169_1) = c; as_aux_lemma => kernel_rfl
theorem S115_1_ok : So Tryz.prog 115 S115_1 :=
  fun F o ho => sOf (fn := Tryz.f115) (c := code115) (tab_cons (S74_1_ok F _ (noS_sound enter74)) (tab_cons (S100_1_ok F _ (noS_sound enter100)) (tab_cons (S101_1_ok F _ (noS_sound enter101)) (tab_cons (S167_1_ok F _ (noS_sound enter167)) (tab_cons (S169_1_ok F _ (noS_sound enter169)) tab_nil))))) ho lnil snil rnil (E115_1 F)
end
section
noncomputable def f116_1_l6 {β : Type} (F : Nat) (v3 v5 : Int) (v6 : Bool) (v7 : Int) (v8 : List ByteArray) (v9 : List (Int × ByteArray)) (v10 v11 v12 v13 : Int) (K0 : Int → List ByteArray → Option β) (K1 : List ByteArray → Option β) : Nat → Int → List ByteArray → Option β
  | 0, _, _ => none
  | k + 1, v4, v14 => cond (decide (v4 < v3)) (f114_1 F v10 v11 v12 v13 v4 v5 v6 v7 v8 v9 (fun x15 x16 => cond (x16 != 0) (K0 x16 v14) (cond (decide ((v14.length + 1) * 16 ≤ 70368744177664)) (f116_1_l6 F v3 v5 v6 v7 v8 v9 v10 v11 v12 v13 K0 K1 k (IntKind.i64.wrap (v4 + 1)) (v14 ++ [x15])) none)) ) (K1 v14)
noncomputable def f116_1 {β : Type} (F : Nat) (a1 a2 a3 a4 a5 : Int) (a6 : Bool) (a7 : Int) (a8 : List ByteArray) (a9 : List (Int × ByteArray)) (K0 : Int → List ByteArray → Option β) : Option β := f21_1 F a1 a2 a3 a4 (fun x1 => cond (!x1) (K0 12 []) (f36_1 F a1 a2 a3 a4 (fun x2 => f116_1_l6 F x2 a5 a6 a7 a8 a9 a1 a2 a3 a4 (fun x17 x18 => K0 x17 []) (fun x19 => K0 0 x19) F 0 []) )) 
variable [FZ]
def sh116_1 : Sh := ⟨[.lf (.ptr 0 0), .agg [.int .i64, .int .i64, .int .i64, .int .i64]], [some ⟨none, [.full 1, .full 2, .int .i64, .bool, .int .i64]⟩, some ⟨none, [.seq .str 0]⟩, some ⟨none, [.seq (.pair (.int .i64) .str) 0]⟩]⟩
abbrev Y116_1 := Int → Int → Int → Int → Int → Bool → Int → List ByteArray → List (Int × ByteArray) → (Int → List ByteArray → Option Res) → Option Res
noncomputable def A116_1 (g : Y116_1) (d : sh116_1.den) (K : KF) : Option Res := g d.1.2.1.1 d.1.2.1.2.1 d.1.2.1.2.2.1 d.1.2.1.2.2.2.1 d.2.1.2.2.2.1 d.2.1.2.2.2.2.1 d.2.1.2.2.2.2.2.1 d.2.2.1.2.1 d.2.2.2.1.2.1 (fun y0 y6 => K [.lf (.full 3), .lf (.int .i64 y0)] [some ⟨d.2.1.1, [.full 1, .full 2, .int .i64 d.2.1.2.2.2.1, .bool d.2.1.2.2.2.2.1, .int .i64 d.2.1.2.2.2.2.2.1]⟩, some ⟨d.2.2.1.1, [.seq .str 0 d.2.2.1.2.1]⟩, some ⟨d.2.2.2.1.1, [.seq (.pair (.int .i64) .str) 0 d.2.2.2.1.2.1]⟩, some ⟨false, [.seq .str 0 y6]⟩])
noncomputable def S116_1 (F : Nat) (o : Summ) : Summ := mkS sh116_1 (fun d K => A116_1 (f116_1 F) d K) o
noncomputable def code116 : Code := bodyOf Tryz.f116
noncomputable def b116_0 : Code := cB (cB (cR (cL (cR (cR (cR (cR (code116))))))))
theorem loops116 : loopsOf code116 = [b116_0] := by kernel_rfl
theorem enter116 : En Tryz.prog 116 := enO (fn := Tryz.f116)
noncomputable def T116_1 (F : Nat) : FuncId → Option Summ := tab [(21, (S21_1 F noS)), (36, (S36_1 F noS)), (114, (S114_1 F noS))]
def sh116_1_l6 : Sh := ⟨[.lf (.ptr 0 0), .lf (.ptr 3 0), .lf (.full 4), .lf (.int .i64), .lf (.int .i64)], [some ⟨none, [.full 1, .full 2, .int .i64, .bool, .int .i64]⟩, some ⟨none, [.seq .str 0]⟩, some ⟨none, [.seq (.pair (.int .i64) .str) 0]⟩, some ⟨some false, [.int .i64, .int .i64, .int .i64, .int .i64]⟩, some ⟨some false, [.seq .str 0]⟩]⟩
abbrev Y116_1_l6 := Int → Int → Bool → Int → List ByteArray → List (Int × ByteArray) → Int → Int → Int → Int → (Int → List ByteArray → Option Res) → (List ByteArray → Option Res) → Nat → Int → List ByteArray → Option Res
noncomputable def A116_1_l6 (g : Y116_1_l6) (k : Nat) (d : sh116_1_l6.den) (K : KL) : Option Res := g d.1.2.2.2.1 d.2.1.2.2.2.1 d.2.1.2.2.2.2.1 d.2.1.2.2.2.2.2.1 d.2.2.1.2.1 d.2.2.2.1.2.1 d.2.2.2.2.1.2.1 d.2.2.2.2.1.2.2.1 d.2.2.2.2.1.2.2.2.1 d.2.2.2.2.1.2.2.2.2.1 (fun y0 y10 => K .ret [.tv (.lf (.nils (some .str))), .tv (.lf (.int .i64 y0))] [some ⟨d.2.1.1, [.full 1, .full 2, .int .i64 d.2.1.2.2.2.1, .bool d.2.1.2.2.2.2.1, .int .i64 d.2.1.2.2.2.2.2.1]⟩, some ⟨d.2.2.1.1, [.seq .str 0 d.2.2.1.2.1]⟩, some ⟨d.2.2.2.1.1, [.seq (.pair (.int .i64) .str) 0 d.2.2.2.1.2.1]⟩, some ⟨false, [.int .i64 d.2.2.2.2.1.2.1, .int .i64 d.2.2.2.2.1.2.2.1, .int .i64 d.2.2.2.2.1.2.2.2.1, .int .i64 d.2.2.2.2.1.2.2.2.2.1]⟩, some ⟨false, [.seq .str 0 y10]⟩]) (fun y9 => K (.exit 0) [.tv (.lf (.full 4))] [some ⟨d.2.1.1, [.full 1, .full 2, .int .i64 d.2.1.2.2.2.1, .bool d.2.1.2.2.2.2.1, .int .i64 d.2.1.2.2.2.2.2.1]⟩, some ⟨d.2.2.1.1, [.seq .str 0 d.2.2.1.2.1]⟩, some ⟨d.2.2.2.1.1, [.seq (.pair (.int .i64) .str) 0 d.2.2.2.1.2.1]⟩, some ⟨false, [.int .i64 d.2.2.2.2.1.2.1, .int .i64 d.2.2.2.2.1.2.2.1, .int .i64 d.2.2.2.2.1.2.2.2.1, .int .i64 d.2.2.2.2.1.2.2.2.2.1]⟩, some ⟨false, [.seq .str 0 y9]⟩]) k d.1.2.2.2.2.1 d.2.2.2.2.2.1.2.1
noncomputable def G116_1_6 (F k : Nat) : LoopS := mkG sh116_1_l6 [0, 3, 6, 7, 8] (outT [(.exit 0, [6]), (.ret, [4, 5])]) (fun d K => A116_1_l6 (f116_1_l6 F) k d K) []
noncomputable def LT116_1 (F : Nat) : Nat → Option LoopS := ltab [(6, G116_1_6 F F)]
theorem L116_1_6 (F : Nat) : LoopOK Tryz.prog (T116_1 F) (xw []) 36 3 (LT116_1 F) (G116_1_6 F F) b116_0 :=
  loopOK_of (s := sh116_1_l6) (live := [0, 3, 6, 7, 8]) (out := (outT [(.exit 0, [6]), (.ret, [4, 5])])) (mv := []) (fun k d K => A116_1_l6 (f116_1_l6 F) k d K) F (fun d K => by kernel_rfl)  (fun k d K => by delta A116_1_l6; refine (f116_1_l6.eq_2 ..).trans ?_; delta T116_1 S21_1 S36_1 S114_1 LT116_1; generalize (G116_1_6 F F) = c;  (try delta G116_1_6); generalize (f21_1 F : Y21_1) = c, (f36_1 F : Y36_1) = c, (f114_1 F : Y114_1) = c, (f116_1_l6 F : Y116_1_l6) = c; as_aux_lemma => kernel_rfl)
theorem E116_1 (F : Nat) (d : sh116_1.den) (K : KF) : EB Tryz.prog (T116_1 F) (xw []) 36 3 (LT116_1 F) [] false Tryz.f116 sh116_1 d K = A116_1 (f116_1 F) d K := by delta A116_1 f116_1 T116_1 S21_1 S36_1 S114_1 LT116_1;  delta G116_1_6; generalize (f21_1 F : Y21_1) = c, (f36_1 F : Y36_1) = c, (f114_1 F : Y114_1) = c, (f116_1_l6 F : Y116_1_l6) = c; as_aux_lemma => kernel_rfl
theorem S116_1_ok : So Tryz.prog 116 S116_1 :=
  fun F o ho => sOf (fn := Tryz.f116) (c := code116) (tab_cons (S21_1_ok F _ (noS_sound enter21)) (tab_cons (S36_1_ok F _ (noS_sound enter36)) (tab_cons (S114_1_ok F _ (noS_sound enter114)) tab_nil))) ho (by rw [loops116]; exact (loopsOK_cons (by kernel_rfl) (L116_1_6 F) loopsOK_nil)) snil rnil (E116_1 F)
end
section
noncomputable def f165_1_l10 {β : Type} (F : Nat) (v10 v11 v12 v13 v15 v16 v17 v18 : Int) (v19 : List Int) (K0 : List Int → Option β) : Nat → Int → List Int → Option β
  | 0, _, _ => none
  | k + 1, v14, v20 => cond (decide (v14 < v16)) (cond (decide ((0 : Int) ≤ v12 ∧ v12 < ((v19.length : Nat) : Int))) (cond (decide (0 + v12.toNat < v19.length)) (cond (decide (IntKind.i64.wrap ((IntKind.i64.wrap ((IntKind.i64.wrap (v10 - v13)) * v16)) + v14) < v19.getD (0 + v12.toNat) 0)) (cond (decide ((v20.length + 1) * 8 ≤ 70368744177664)) (f165_1_l10 F v10 v11 v12 v13 v15 v16 v17 v18 v19 K0 k (IntKind.i64.wrap (v14 + 1)) (v20 ++ [IntKind.i64.wrap (v11 + (IntKind.i64.wrap ((IntKind.i64.wrap ((IntKind.i64.wrap (v10 - v13)) * v16)) + v14)))])) none) (f165_1_l10 F v10 v11 v12 v13 v15 v16 v17 v18 v19 K0 k (IntKind.i64.wrap (v14 + 1)) v20)) none) none) (K0 v20)
noncomputable def f165_1_l4 {β : Type} (F : Nat) (v2 v5 v6 v7 v8 : Int) (v9 : List Int) (K0 : List Int → Option β) (K1 : Option β) : Nat → Int → Int → Option β
  | 0, _, _ => none
  | k + 1, v3, v4 => cond (decide (IntKind.i64.wrap (v4 + 1) < ((v9.length : Nat) : Int))) (cond (decide ((0 : Int) ≤ v4 ∧ v4 < ((v9.length : Nat) : Int))) (cond (decide (0 + v4.toNat < v9.length)) (cond (decide (v2 ≥ IntKind.i64.wrap (v3 + (v9.getD (0 + v4.toNat) 0)))) (cond (decide ((0 : Int) ≤ IntKind.i64.wrap (v4 + 1) ∧ IntKind.i64.wrap (v4 + 1) < ((v9.length : Nat) : Int))) (cond (decide (0 + ((IntKind.i64.wrap (v4 + 1)).toNat) < v9.length)) (cond (decide (v2 < IntKind.i64.wrap ((IntKind.i64.wrap (v3 + (v9.getD (0 + v4.toNat) 0))) + (v9.getD (0 + ((IntKind.i64.wrap (v4 + 1)).toNat)) 0)))) (f165_1_l10 F v2 v3 v4 (IntKind.i64.wrap (v3 + (v9.getD (0 + v4.toNat) 0))) v5 v6 v7 v8 v9 (fun x21 => K0 x21) F 0 []) (f165_1_l4 F v2 v5 v6 v7 v8 v9 K0 K1 k (IntKind.i64.wrap (v3 + (v9.getD (0 + v4.toNat) 0))) (IntKind.i64.wrap (v4 + 1)))) none) none) (f165_1_l4 F v2 v5 v6 v7 v8 v9 K0 K1 k (IntKind.i64.wrap (v3 + (v9.getD (0 + v4.toNat) 0))) (IntKind.i64.wrap (v4 + 1)))) none) none) (K1)
noncomputable def f165_1 {β : Type} (F : Nat) (a1 a2 a3 a4 a5 : Int) (K0 : List Int → Option β) : Option β := f98_1 F a1 a2 a3 a4 (fun x1 => f165_1_l4 F a5 a1 a2 a3 a4 x1 (fun x22 => K0 x22) (K0 []) F 0 0) 
variable [FZ]
def sh165_1 : Sh := ⟨[.agg [.int .i64, .int .i64, .int .i64, .int .i64], .lf (.int .i64)], []⟩
abbrev Y165_1 := Int → Int → Int → Int → Int → (List Int → Option Res) → Option Res
noncomputable def A165_1 (g : Y165_1) (d : sh165_1.den) (K : KF) : Option Res := g d.1.1.1 d.1.1.2.1 d.1.1.2.2.1 d.1.1.2.2.2.1 d.1.2.1 (fun y0 => K [.lf (.full 0)] [some ⟨false, [.seq (.int .i64) 0 y0]⟩])
noncomputable def S165_1 (F : Nat) (o : Summ) : Summ := mkS sh165_1 (fun d K => A165_1 (f165_1 F) d K) o
noncomputable def code165 : Code := bodyOf Tryz.f165
noncomputable def b165_0 : Code := cB (cB (cR (cL (cR (cR (cR (code165)))))))
noncomputable def b165_1 : Code := cB (cB (cR (cL (cR (cT (cR (cL (cR (cB (cL (cR (cB (cB (cR (cL (cR (cR (cR (code165)))))))))))))))))))
theorem loops165 : loopsOf code165 = [b165_0, b165_1] := by kernel_rfl
theorem enter165 : En Tryz.prog 165 := enO (fn := Tryz.f165)
noncomputable def T165_1 (F : Nat) : FuncId → Option Summ := tab [(98, (S98_1 F noS))]
def sh165_1_l10 : Sh := ⟨[.lf (.int .i64), .lf (.ptr 0 0), .lf (.full 1), .lf (.int .i64), .lf (.int .i64), .lf (.int .i64), .lf (.full 2), .lf (.int .i64)], [some ⟨some false, [.int .i64, .int .i64, .int .i64, .int .i64]⟩, some ⟨some false, [.seq (.int .i64) 0]⟩, some ⟨some false, [.seq (.int .i64) 0]⟩]⟩
abbrev Y165_1_l10 := Int → Int → Int → Int → Int → Int → Int → Int → List Int → (List Int → Option Res) → Nat → Int → List Int → Option Res
noncomputable def A165_1_l10 (g : Y165_1_l10) (k : Nat) (d : sh165_1_l10.den) (K : KL) : Option Res := g d.1.1 d.1.2.2.2.1 d.1.2.2.2.2.1 d.1.2.2.2.2.2.1 d.2.1.2.1 d.2.1.2.2.1 d.2.1.2.2.2.1 d.2.1.2.2.2.2.1 d.2.2.1.2.1 (fun y5 => K (.exit 2) [.tv (.lf (.full 2))] [some ⟨false, [.int .i64 d.2.1.2.1, .int .i64 d.2.1.2.2.1, .int .i64 d.2.1.2.2.2.1, .int .i64 d.2.1.2.2.2.2.1]⟩, some ⟨false, [.seq (.int .i64) 0 d.2.2.1.2.1]⟩, some ⟨false, [.seq (.int .i64) 0 y5]⟩]) k d.1.2.2.2.2.2.2.2.1 d.2.2.2.1.2.1
def sh165_1_l4 : Sh := ⟨[.lf (.int .i64), .lf (.ptr 0 0), .lf (.full 1), .lf (.int .i64), .lf (.int .i64)], [some ⟨some false, [.int .i64, .int .i64, .int .i64, .int .i64]⟩, some ⟨some false, [.seq (.int .i64) 0]⟩]⟩
abbrev Y165_1_l4 := Int → Int → Int → Int → Int → List Int → (List Int → Option Res) → (Option Res) → Nat → Int → Int → Option Res
noncomputable def A165_1_l4 (g : Y165_1_l4) (k : Nat) (d : sh165_1_l4.den) (K : KL) : Option Res := g d.1.1 d.2.1.2.1 d.2.1.2.2.1 d.2.1.2.2.2.1 d.2.1.2.2.2.2.1 d.2.2.1.2.1 (fun y5 => K .ret [.tv (.lf (.full 2))] [some ⟨false, [.int .i64 d.2.1.2.1, .int .i64 d.2.1.2.2.1, .int .i64 d.2.1.2.2.2.1, .int .i64 d.2.1.2.2.2.2.1]⟩, some ⟨false, [.seq (.int .i64) 0 d.2.2.1.2.1]⟩, some ⟨false, [.seq (.int .i64) 0 y5]⟩]) (K (.exit 0) [] [some ⟨false, [.int .i64 d.2.1.2.1, .int .i64 d.2.1.2.2.1, .int .i64 d.2.1.2.2.2.1, .int .i64 d.2.1.2.2.2.2.1]⟩, some ⟨false, [.seq (.int .i64) 0 d.2.2.1.2.1]⟩]) k d.1.2.2.2.1 d.1.2.2.2.2.1
noncomputable def G165_1_10 (F k : Nat) : LoopS := mkG sh165_1_l10 [1, 2, 5, 6, 7, 8, 9, 10] (outT [(.exit 2, [9])]) (fun d K => A165_1_l10 (f165_1_l10 F) k d K) []
noncomputable def G165_1_4 (F k : Nat) : LoopS := mkG sh165_1_l4 [1, 2, 5, 6, 7] (outT [(.exit 0, []), (.ret, [4])]) (fun d K => A165_1_l4 (f165_1_l4 F) k d K) []
noncomputable def LT165_1 (F : Nat) : Nat → Option LoopS := ltab [(10, G165_1_10 F F), (4, G165_1_4 F F)]
theorem L165_1_10 (F : Nat) : LoopOK Tryz.prog (T165_1 F) (xw []) 69 0 (LT165_1 F) (G165_1_10 F F) b165_1 :=
  loopOK_of (s := sh165_1_l10) (live := [1, 2, 5, 6, 7, 8, 9, 10]) (out := (outT [(.exit 2, [9])])) (mv := []) (fun k d K => A165_1_l10 (f165_1_l10 F) k d K) F (fun d K => by kernel_rfl)  (fun k d K => by delta A165_1_l10; refine (f165_1_l10.eq_2 ..).trans ?_; delta T165_1 S98_1 LT165_1; generalize (G165_1_10 F F) = c, (G165_1_4 F F) = c;  (try delta G165_1_10); generalize (f98_1 F : Y98_1) = c, (f165_1_l10 F : Y165_1_l10) = c; as_aux_lemma => kernel_rfl)
theorem L165_1_4 (F : Nat) : LoopOK Tryz.prog (T165_1 F) (xw []) 69 0 (LT165_1 F) (G165_1_4 F F) b165_0 :=
  loopOK_of (s := sh165_1_l4) (live := [1, 2, 5, 6, 7]) (out := (outT [(.exit 0, []), (.ret, [4])])) (mv := []) (fun k d K => A165_1_l4 (f165_1_l4 F) k d K) F (fun d K => by kernel_rfl)  (fun k d K => by delta A165_1_l4; refine (f165_1_l4.eq_2 ..).trans ?_; delta T165_1 S98_1 LT165_1; generalize (G165_1_4 F F) = c;  (try delta G165_1_10 G165_1_4); generalize (f98_1 F : Y98_1) = c, (f165_1_l10 F : Y165_1_l10) = c, (f165_1_l4 F : Y165_1_l4) = c; as_aux_lemma => kernel_rfl)
theorem E165_1 (F : Nat) (d : sh165_1.den) (K : KF) : EB Tryz.prog (T165_1 F) (xw []) 69 0 (LT165_1 F) [] false Tryz.f165 sh165_1 d K = A165_1 (f165_1 F) d K := by delta A165_1 f165_1 T165_1 S98_1 LT165_1; generalize (G165_1_10 F F) = c;  delta G165_1_4; generalize (f98_1 F : Y98_1) = c, (f165_1_l4 F : Y165_1_l4) = c; as_aux_lemma => kernel_rfl
theorem S165_1_ok : So Tryz.prog 165 S165_1 :=
  fun F o ho => sOf (fn := Tryz.f165) (c := code165) (tab_cons (S98_1_ok F _ (noS_sound enter98)) tab_nil) ho (by rw [loops165]; exact (loopsOK_cons (by kernel_rfl) (L165_1_4 F) (loopsOK_cons (by kernel_rfl) (L165_1_10 F) loopsOK_nil))) snil rnil (E165_1 F)
end
section
noncomputable def f166_1_l3 {β : Type} (F : Nat) (v3 : List ByteArray) (K0 : ByteArray → Option β) : Nat → ByteArray → Int → Option β
  | 0, _, _ => none
  | k + 1, v1, v2 => cond (decide (v2 < ((v3.length : Nat) : Int))) (cond (decide ((0 : Int) ≤ v2 ∧ v2 < ((v3.length : Nat) : Int))) (cond (decide (0 + v2.toNat < v3.length)) (cond (decide (v1.size + (v3.getD (0 + v2.toNat) ByteArray.empty).size ≤ 4611686018427387904)) (f166_1_l3 F v3 K0 k (v1 ++ (v3.getD (0 + v2.toNat) ByteArray.empty)) (IntKind.i64.wrap (v2 + 1))) none) none) none) (K0 v1)
noncomputable def f166_1 {β : Type} (F : Nat) (a1 : List ByteArray) (K0 : ByteArray → Option β) : Option β := f166_1_l3 F a1 (fun x4 => f158_1 F (toInts x4) (fun x5 => K0 x5) ) F (⟨#[1]⟩ : ByteArray) 0
variable [FZ]
def sh166_1 : Sh := ⟨[.lf (.full 0)], [some ⟨none, [.seq .str 0]⟩]⟩
abbrev Y166_1 := List ByteArray → (ByteArray → Option Res) → Option Res
noncomputable def A166_1 (g : Y166_1) (d : sh166_1.den) (K : KF) : Option Res := g d.2.1.2.1 (fun y0 => K [.lf (.str y0)] [some ⟨d.2.1.1, [.seq .str 0 d.2.1.2.1]⟩])
noncomputable def S166_1 (F : Nat) (o : Summ) : Summ := mkS sh166_1 (fun d K => A166_1 (f166_1 F) d K) o
noncomputable def code166 : Code := bodyOf Tryz.f166
noncomputable def b166_0 : Code := cB (cB (cR (cL (cR (cR (code166))))))
theorem loops166 : loopsOf code166 = [b166_0] := by kernel_rfl
theorem enter166 : En Tryz.prog 166 := enO (fn := Tryz.f166)
noncomputable def T166_1 (F : Nat) : FuncId → Option Summ := tab [(158, (S158_1 F noS))]
def sh166_1_l3 : Sh := ⟨[.lf (.full 0), .lf (.str), .lf (.int .i64)], [some ⟨none, [.seq .str 0]⟩]⟩
abbrev Y166_1_l3 := List ByteArray → (ByteArray → Option Res) → Nat → ByteArray → Int → Option Res
noncomputable def A166_1_l3 (g : Y166_1_l3) (k : Nat) (d : sh166_1_l3.den) (K : KL) : Option Res := g d.2.1.2.1 (fun y0 => K (.exit 0) [.tv (.lf (.str y0))] [some ⟨d.2.1.1, [.seq .str 0 d.2.1.2.1]⟩]) k d.1.2.1 d.1.2.2.1
noncomputable def G166_1_3 (F k : Nat) : LoopS := mkG sh166_1_l3 [0, 3, 4] (outT [(.exit 0, [3])]) (fun d K => A166_1_l3 (f166_1_l3 F) k d K) []
noncomputable def LT166_1 (F : Nat) : Nat → Option LoopS := ltab [(3, G166_1_3 F F)]
theorem L166_1_3 (F : Nat) : LoopOK Tryz.prog (T166_1 F) (xw []) 20 1 (LT166_1 F) (G166_1_3 F F) b166_0 :=
  loopOK_of (s := sh166_1_l3) (live := [0, 3, 4]) (out := (outT [(.exit 0, [3])])) (mv := []) (fun k d K => A166_1_l3 (f166_1_l3 F) k d K) F (fun d K => by kernel_rfl)  (fun k d K => by delta A166_1_l3; refine (f166_1_l3.eq_2 ..).trans ?_; delta T166_1 S158_1 LT166_1; generalize (G166_1_3 F F) = c;  (try delta G166_1_3); generalize (f158_1 F : Y158_1) = c, (f166_1_l3 F : Y166_1_l3) = c; as_aux_lemma => kernel_rfl)
theorem E166_1 (F : Nat) (d : sh166_1.den) (K : KF) : EB Tryz.prog (T166_1 F) (xw []) 20 1 (LT166_1 F) [] false Tryz.f166 sh166_1 d K = A166_1 (f166_1 F) d K := by delta A166_1 f166_1 T166_1 S158_1 LT166_1;  delta G166_1_3; generalize (f158_1 F : Y158_1) = c, (f166_1_l3 F : Y166_1_l3) = c; as_aux_lemma => kernel_rfl
theorem S166_1_ok : So Tryz.prog 166 S166_1 :=
  fun F o ho => sOf (fn := Tryz.f166) (c := code166) (tab_cons (S158_1_ok F _ (noS_sound enter158)) tab_nil) ho (by rw [loops166]; exact (loopsOK_cons (by kernel_rfl) (L166_1_3 F) loopsOK_nil)) snil rnil (E166_1 F)
end
section
noncomputable def f113_1_l4 {β : Type} (F : Nat) (v3 : List ByteArray) (v5 : List Int) (K0 : List ByteArray → Option β) : Nat → Int → List ByteArray → Option β
  | 0, _, _ => none
  | k + 1, v2, v4 => cond (decide (v2 < ((v5.length : Nat) : Int))) (cond (decide ((0 : Int) ≤ v2 ∧ v2 < ((v5.length : Nat) : Int))) (cond (decide (0 + v2.toNat < v5.length)) (cond (decide ((0 : Int) ≤ v5.getD (0 + v2.toNat) 0 ∧ v5.getD (0 + v2.toNat) 0 < ((v3.length : Nat) : Int))) (cond (decide (0 + ((v5.getD (0 + v2.toNat) 0).toNat) < v3.length)) (cond (decide ((v4.length + 1) * 16 ≤ 70368744177664)) (f113_1_l4 F v3 v5 K0 k (IntKind.i64.wrap (v2 + 1)) (v4 ++ [v3.getD (0 + ((v5.getD (0 + v2.toNat) 0).toNat)) ByteArray.empty])) none) none) none) none) none) (K0 v4)
noncomputable def f113_1 {β : Type} (F : Nat) (a1 a2 a3 a4 a5 : Int) (a6 : List ByteArray) (K0 : ByteArray → Option β) : Option β := f165_1 F a1 a2 a3 a4 a5 (fun x1 => f113_1_l4 F a6 x1 (fun x6 => f166_1 F x6 (fun x7 => K0 x7) ) F 0 []) 
variable [FZ]
def sh113_1 : Sh := ⟨[.agg [.int .i64, .int .i64, .int .i64, .int .i64], .lf (.full 0), .lf (.int .i64)], [some ⟨none, [.seq .str 0]⟩]⟩
abbrev Y113_1 := Int → Int → Int → Int → Int → List ByteArray → (ByteArray → Option Res) → Option Res
noncomputable def A113_1 (g : Y113_1) (d : sh113_1.den) (K : KF) : Option Res := g d.1.1.1 d.1.1.2.1 d.1.1.2.2.1 d.1.1.2.2.2.1 d.1.2.2.1 d.2.1.2.1 (fun y0 => K [.lf (.str y0)] [some ⟨d.2.1.1, [.seq .str 0 d.2.1.2.1]⟩])
noncomputable def S113_1 (F : Nat) (o : Summ) : Summ := mkS sh113_1 (fun d K => A113_1 (f113_1 F) d K) o
noncomputable def code113 : Code := bodyOf Tryz.f113
noncomputable def b113_0 : Code := cB (cB (cR (cL (cR (cR (cR (code113)))))))
theorem loops113 : loopsOf code113 = [b113_0] := by kernel_rfl
theorem enter113 : En Tryz.prog 113 := enO (fn := Tryz.f113)
noncomputable def T113_1 (F : Nat) : FuncId → Option Summ := tab [(165, (S165_1 F noS)), (166, (S166_1 F noS))]
def sh113_1_l4 : Sh := ⟨[.lf (.full 0), .lf (.full 1), .lf (.full 2), .lf (.int .i64)], [some ⟨none, [.seq .str 0]⟩, some ⟨some false, [.seq .str 0]⟩, some ⟨some false, [.seq (.int .i64) 0]⟩]⟩
abbrev Y113_1_l4 := List ByteArray → List Int → (List ByteArray → Option Res) → Nat → Int → List ByteArray → Option Res
noncomputable def A113_1_l4 (g : Y113_1_l4) (k : Nat) (d : sh113_1_l4.den) (K : KL) : Option Res := g d.2.1.2.1 d.2.2.2.1.2.1 (fun y1 => K (.exit 0) [.tv (.lf (.full 1))] [some ⟨d.2.1.1, [.seq .str 0 d.2.1.2.1]⟩, some ⟨false, [.seq .str 0 y1]⟩, some ⟨false, [.seq (.int .i64) 0 d.2.2.2.1.2.1]⟩]) k d.1.2.2.2.1 d.2.2.1.2.1
noncomputable def G113_1_4 (F k : Nat) : LoopS := mkG sh113_1_l4 [1, 7, 8, 9] (outT [(.exit 0, [7])]) (fun d K => A113_1_l4 (f113_1_l4 F) k d K) []
noncomputable def LT113_1 (F : Nat) : Nat → Option LoopS := ltab [(4, G113_1_4 F F)]
theorem L113_1_4 (F : Nat) : LoopOK Tryz.prog (T113_1 F) (xw []) 31 1 (LT113_1 F) (G113_1_4 F F) b113_0 :=
  loopOK_of (s := sh113_1_l4) (live := [1, 7, 8, 9]) (out := (outT [(.exit 0, [7])])) (mv := []) (fun k d K => A113_1_l4 (f113_1_l4 F) k d K) F (fun d K => by kernel_rfl)  (fun k d K => by delta A113_1_l4; refine (f113_1_l4.eq_2 ..).trans ?_; delta T113_1 S165_1 S166_1 LT113_1; generalize (G113_1_4 F F) = c;  (try delta G113_1_4); generalize (f165_1 F : Y165_1) = c, (f166_1 F : Y166_1) = c, (f113_1_l4 F : Y113_1_l4) = c; as_aux_lemma => kernel_rfl)
theorem E113_1 (F : Nat) (d : sh113_1.den) (K : KF) : EB Tryz.prog (T113_1 F) (xw []) 31 1 (LT113_1 F) [] false Tryz.f113 sh113_1 d K = A113_1 (f113_1 F) d K := by delta A113_1 f113_1 T113_1 S165_1 S166_1 LT113_1;  delta G113_1_4; generalize (f165_1 F : Y165_1) = c, (f166_1 F : Y166_1) = c, (f113_1_l4 F : Y113_1_l4) = c; as_aux_lemma => kernel_rfl
theorem S113_1_ok : So Tryz.prog 113 S113_1 :=
  fun F o ho => sOf (fn := Tryz.f113) (c := code113) (tab_cons (S165_1_ok F _ (noS_sound enter165)) (tab_cons (S166_1_ok F _ (noS_sound enter166)) tab_nil)) ho (by rw [loops113]; exact (loopsOK_cons (by kernel_rfl) (L113_1_4 F) loopsOK_nil)) snil rnil (E113_1 F)
end
section
noncomputable def f143_1_l4 {β : Type} (F : Nat) (v6 : Int) (v7 : Bool) (v8 : Int) (v10 : List (Int × ByteArray)) (K0 : List ByteArray → Option β) : Nat → Int → List ByteArray → Option β
  | 0, _, _ => none
  | k + 1, v5, v9 => cond (decide (v5 < ((v10.length : Nat) : Int))) (cond (decide ((0 : Int) ≤ v5 ∧ v5 < ((v10.length : Nat) : Int))) (cond (decide (0 + v5.toNat < v10.length)) (cond (decide ((0 : Int) ≤ (v10.getD (0 + v5.toNat) (0, ByteArray.empty)).1 ∧ (v10.getD (0 + v5.toNat) (0, ByteArray.empty)).1 < ((v9.length : Nat) : Int))) (cond (decide (0 + (((v10.getD (0 + v5.toNat) (0, ByteArray.empty)).1).toNat) < v9.length)) (f143_1_l4 F v6 v7 v8 v10 K0 k (IntKind.i64.wrap (v5 + 1)) (v9.set (0 + (((v10.getD (0 + v5.toNat) (0, ByteArray.empty)).1).toNat)) ((v10.getD (0 + v5.toNat) (0, ByteArray.empty)).2))) none) none) none) none) (K0 v9)
noncomputable def f143_1 {β : Type} (F : Nat) (a1 : Int) (a2 : Bool) (a3 : Int) (a4 : List ByteArray) (a5 : List (Int × ByteArray)) (K0 : Int → Int → Bool → Int → List ByteArray → List (Int × ByteArray) → Option β) : Option β := cond a2 (K0 5 a1 a2 a3 a4 a5) (f140_1 F a1 a2 a3 a4 a5 (fun x1 x2 x3 x4 => cond (!x1) (K0 5 x2 x3 x4 a4 a5) (f143_1_l4 F x2 x3 x4 a5 (fun x11 => K0 0 x2 x3 x4 x11 []) F 0 a4)) )
variable [FZ]
def sh143_1 : Sh := ⟨[.lf (.ptr 0 0)], [some ⟨some false, [.full 1, .full 2, .int .i64, .bool, .int .i64]⟩, some ⟨some false, [.seq .str 0]⟩, some ⟨some false, [.seq (.pair (.int .i64) .str) 0]⟩]⟩
abbrev Y143_1 := Int → Bool → Int → List ByteArray → List (Int × ByteArray) → (Int → Int → Bool → Int → List ByteArray → List (Int × ByteArray) → Option Res) → Option Res
noncomputable def A143_1 (g : Y143_1) (d : sh143_1.den) (K : KF) : Option Res := g d.2.1.2.2.2.1 d.2.1.2.2.2.2.1 d.2.1.2.2.2.2.2.1 d.2.2.1.2.1 d.2.2.2.1.2.1 (fun y0 y1 y2 y3 y4 y5 => K [.lf (.int .i64 y0)] [some ⟨false, [.full 1, .full 3, .int .i64 y1, .bool y2, .int .i64 y3]⟩, some ⟨false, [.seq .str 0 y4]⟩, none, some ⟨false, [.seq (.pair (.int .i64) .str) 0 y5]⟩])
noncomputable def S143_1 (F : Nat) (o : Summ) : Summ := mkS sh143_1 (fun d K => A143_1 (f143_1 F) d K) o
noncomputable def code143 : Code := bodyOf Tryz.f143
noncomputable def b143_0 : Code := cB (cB (cR (cL (cR (cR (code143))))))
theorem loops143 : loopsOf code143 = [b143_0] := by kernel_rfl
theorem enter143 : En Tryz.prog 143 := enO (fn := Tryz.f143)
noncomputable def T143_1 (F : Nat) : FuncId → Option Summ := tab [(140, (S140_1 F noS))]
def sh143_1_l4 : Sh := ⟨[.lf (.ptr 0 0), .lf (.int .i64)], [some ⟨some false, [.full 1, .full 2, .int .i64, .bool, .int .i64]⟩, some ⟨some false, [.seq .str 0]⟩, some ⟨some false, [.seq (.pair (.int .i64) .str) 0]⟩]⟩
abbrev Y143_1_l4 := Int → Bool → Int → List (Int × ByteArray) → (List ByteArray → Option Res) → Nat → Int → List ByteArray → Option Res
noncomputable def A143_1_l4 (g : Y143_1_l4) (k : Nat) (d : sh143_1_l4.den) (K : KL) : Option Res := g d.2.1.2.2.2.1 d.2.1.2.2.2.2.1 d.2.1.2.2.2.2.2.1 d.2.2.2.1.2.1 (fun y3 => K (.exit 0) [.tv (.lf (.ptr 0 0))] [some ⟨false, [.full 1, .full 2, .int .i64 d.2.1.2.2.2.1, .bool d.2.1.2.2.2.2.1, .int .i64 d.2.1.2.2.2.2.2.1]⟩, some ⟨false, [.seq .str 0 y3]⟩, some ⟨false, [.seq (.pair (.int .i64) .str) 0 d.2.2.2.1.2.1]⟩]) k d.1.2.1 d.2.2.1.2.1
noncomputable def G143_1_4 (F k : Nat) : LoopS := mkG sh143_1_l4 [0, 3] (outT [(.exit 0, [0])]) (fun d K => A143_1_l4 (f143_1_l4 F) k d K) []
noncomputable def LT143_1 (F : Nat) : Nat → Option LoopS := ltab [(4, G143_1_4 F F)]
theorem L143_1_4 (F : Nat) : LoopOK Tryz.prog (T143_1 F) (xw []) 42 3 (LT143_1 F) (G143_1_4 F F) b143_0 :=
  loopOK_of (s := sh143_1_l4) (live := [0, 3]) (out := (outT [(.exit 0, [0])])) (mv := []) (fun k d K => A143_1_l4 (f143_1_l4 F) k d K) F (fun d K => by kernel_rfl)  (fun k d K => by delta A143_1_l4; refine (f143_1_l4.eq_2 ..).trans ?_; delta T143_1 S140_1 LT143_1; generalize (G143_1_4 F F) = c;  (try delta G143_1_4); generalize (f140_1 F : Y140_1) = c, (f143_1_l4 F : Y143_1_l4) = c; as_aux_lemma => kernel_rfl)
theorem E143_1 (F : Nat) (d : sh143_1.den) (K : KF) : EB Tryz.prog (T143_1 F) (xw []) 42 3 (LT143_1 F) [2] false Tryz.f143 sh143_1 d K = A143_1 (f143_1 F) d K := by delta A143_1 f143_1 T143_1 S140_1 LT143_1;  delta G143_1_4; generalize (f140_1 F : Y140_1) = c, (f143_1_l4 F : Y143_1_l4) = c; as_aux_lemma => kernel_rfl
theorem S143_1_ok : So Tryz.prog 143 S143_1 :=
  fun F o ho => sOf (fn := Tryz.f143) (c := code143) (tab_cons (S140_1_ok F _ (noS_sound enter140)) tab_nil) ho (by rw [loops143]; exact (loopsOK_cons (by kernel_rfl) (L143_1_4 F) loopsOK_nil)) snil rnil (E143_1 F)
end
section
noncomputable def f170_1 {β : Type} (F : Nat) (a1 a2 a3 a4 : Int) (K0 : Int → Option β) : Option β := f36_1 F a1 a2 a3 a4 (fun x1 => K0 (if 0 > IntKind.i64.wrap (x1 - 1) then 0 else IntKind.i64.wrap (x1 - 1))) 
variable [FZ]
def sh170_1 : Sh := ⟨[.agg [.int .i64, .int .i64, .int .i64, .int .i64]], []⟩
abbrev Y170_1 := Int → Int → Int → Int → (Int → Option Res) → Option Res
noncomputable def A170_1 (g : Y170_1) (d : sh170_1.den) (K : KF) : Option Res := g d.1.1.1 d.1.1.2.1 d.1.1.2.2.1 d.1.1.2.2.2.1 (fun y0 => K [.lf (.int .i64 y0)] [])
noncomputable def S170_1 (F : Nat) (o : Summ) : Summ := mkS sh170_1 (fun d K => A170_1 (f170_1 F) d K) o
noncomputable def code170 : Code := bodyOf Tryz.f170
theorem enter170 : En Tryz.prog 170 := enO (fn := Tryz.f170)
noncomputable def T170_1 (F : Nat) : FuncId → Option Summ := tab [(36, (S36_1 F noS))]
noncomputable def LT170_1 (F : Nat) : Nat → Option LoopS := ltab []
theorem E170_1 (F : Nat) (d : sh170_1.den) (K : KF) : EB Tryz.prog (T170_1 F) (xw []) 7 0 (LT170_1 F) [] false Tryz.f170 sh170_1 d K = A170_1 (f170_1 F) d K := by delta A170_1 f170_1 T170_1 S36_1 LT170_1;  generalize (f36_1 F : Y36_1) = c; as_aux_lemma => kernel_rfl
theorem S170_1_ok : So Tryz.prog 170 S170_1 :=
  fun F o ho => sOf (fn := Tryz.f170) (c := code170) (tab_cons (S36_1_ok F _ (noS_sound enter36)) tab_nil) ho lnil snil rnil (E170_1 F)
end
section
noncomputable def f203_1_l7 {β : Type} (F : Nat) (v10 v11 v12 v14 v15 v16 v17 : Int) (v18 : List Int) (K0 K1 : Option β) : Nat → Int → Option β
  | 0, _ => none
  | k + 1, v13 => cond (decide (v13 < ((v18.length : Nat) : Int))) (cond (decide ((0 : Int) ≤ v13 ∧ v13 < ((v18.length : Nat) : Int))) (cond (decide (0 + v13.toNat < v18.length)) (cond ((v18.getD (0 + v13.toNat) 0) == v10) (K0) (f203_1_l7 F v10 v11 v12 v14 v15 v16 v17 v18 K0 K1 k (IntKind.i64.wrap (v13 + 1)))) none) none) (K1)
noncomputable def f203_1_l3 {β : Type} (F : Nat) (v2 v3 v5 v6 v7 v8 : Int) (K0 : Int → List Int → Option β) (K1 : Option β) : Nat → Int → Option β
  | 0, _ => none
  | k + 1, v4 => cond (decide (v4 < v3)) (f165_1 F v5 v6 v7 v8 v4 (fun x9 => f203_1_l7 F v2 v3 v4 v5 v6 v7 v8 x9 (K0 v4 x9) (f203_1_l3 F v2 v3 v5 v6 v7 v8 K0 K1 k (IntKind.i64.wrap (v4 + 1))) F 0) ) (K1)
noncomputable def f203_1 {β : Type} (F : Nat) (a1 a2 a3 a4 a5 : Int) (K0 : Int → Option β) : Option β := f36_1 F a1 a2 a3 a4 (fun x1 => f203_1_l3 F a5 x1 a1 a2 a3 a4 (fun x19 x20 => K0 x19) (K0 (-1)) F 0) 
variable [FZ]
def sh203_1 : Sh := ⟨[.agg [.int .i64, .int .i64, .int .i64, .int .i64], .lf (.int .i64)], []⟩
abbrev Y203_1 := Int → Int → Int → Int → Int → (Int → Option Res) → Option Res
noncomputable def A203_1 (g : Y203_1) (d : sh203_1.den) (K : KF) : Option Res := g d.1.1.1 d.1.1.2.1 d.1.1.2.2.1 d.1.1.2.2.2.1 d.1.2.1 (fun y0 => K [.lf (.int .i64 y0)] [])
noncomputable def S203_1 (F : Nat) (o : Summ) : Summ := mkS sh203_1 (fun d K => A203_1 (f203_1 F) d K) o
noncomputable def code203 : Code := bodyOf Tryz.f203
noncomputable def b203_0 : Code := cB (cB (cR (cL (cR (cR (code203))))))
noncomputable def b203_1 : Code := cB (cB (cR (cR (cB (cL (cR (cB (cB (cR (cL (cR (cR (code203)))))))))))))
theorem loops203 : loopsOf code203 = [b203_0, b203_1] := by kernel_rfl
theorem enter203 : En Tryz.prog 203 := enO (fn := Tryz.f203)
noncomputable def T203_1 (F : Nat) : FuncId → Option Summ := tab [(36, (S36_1 F noS)), (165, (S165_1 F noS))]
def sh203_1_l7 : Sh := ⟨[.lf (.int .i64), .lf (.ptr 0 0), .lf (.int .i64), .lf (.int .i64), .lf (.full 1), .lf (.int .i64)], [some ⟨some false, [.int .i64, .int .i64, .int .i64, .int .i64]⟩, some ⟨some false, [.seq (.int .i64) 0]⟩]⟩
abbrev Y203_1_l7 := Int → Int → Int → Int → Int → Int → Int → List Int → (Option Res) → (Option Res) → Nat → Int → Option Res
noncomputable def A203_1_l7 (g : Y203_1_l7) (k : Nat) (d : sh203_1_l7.den) (K : KL) : Option Res := g d.1.1 d.1.2.2.1 d.1.2.2.2.1 d.2.1.2.1 d.2.1.2.2.1 d.2.1.2.2.2.1 d.2.1.2.2.2.2.1 d.2.2.1.2.1 (K .ret [.tv (.lf (.int .i64 d.1.2.2.2.1))] [some ⟨false, [.int .i64 d.2.1.2.1, .int .i64 d.2.1.2.2.1, .int .i64 d.2.1.2.2.2.1, .int .i64 d.2.1.2.2.2.2.1]⟩, some ⟨false, [.seq (.int .i64) 0 d.2.2.1.2.1]⟩]) (K (.exit 2) [.tv (.lf (.int .i64 d.1.1)), .tv (.lf (.ptr 0 0)), .tv (.lf (.int .i64 d.1.2.2.1)), .tv (.lf (.int .i64 d.1.2.2.2.1))] [some ⟨false, [.int .i64 d.2.1.2.1, .int .i64 d.2.1.2.2.1, .int .i64 d.2.1.2.2.2.1, .int .i64 d.2.1.2.2.2.2.1]⟩, some ⟨false, [.seq (.int .i64) 0 d.2.2.1.2.1]⟩]) k d.1.2.2.2.2.2.1
def sh203_1_l3 : Sh := ⟨[.lf (.int .i64), .lf (.ptr 0 0), .lf (.int .i64), .lf (.int .i64)], [some ⟨some false, [.int .i64, .int .i64, .int .i64, .int .i64]⟩]⟩
abbrev Y203_1_l3 := Int → Int → Int → Int → Int → Int → (Int → List Int → Option Res) → (Option Res) → Nat → Int → Option Res
noncomputable def A203_1_l3 (g : Y203_1_l3) (k : Nat) (d : sh203_1_l3.den) (K : KL) : Option Res := g d.1.1 d.1.2.2.1 d.2.1.2.1 d.2.1.2.2.1 d.2.1.2.2.2.1 d.2.1.2.2.2.2.1 (fun y0 y5 => K .ret [.tv (.lf (.int .i64 y0))] [some ⟨false, [.int .i64 d.2.1.2.1, .int .i64 d.2.1.2.2.1, .int .i64 d.2.1.2.2.2.1, .int .i64 d.2.1.2.2.2.2.1]⟩, some ⟨false, [.seq (.int .i64) 0 y5]⟩]) (K (.exit 0) [] [some ⟨false, [.int .i64 d.2.1.2.1, .int .i64 d.2.1.2.2.1, .int .i64 d.2.1.2.2.2.1, .int .i64 d.2.1.2.2.2.2.1]⟩]) k d.1.2.2.2.1
noncomputable def G203_1_7 (F k : Nat) : LoopS := mkG sh203_1_l7 [1, 2, 5, 6, 7, 8] (outT [(.exit 2, [1, 2, 5, 6]), (.ret, [4])]) (fun d K => A203_1_l7 (f203_1_l7 F) k d K) []
noncomputable def G203_1_3 (F k : Nat) : LoopS := mkG sh203_1_l3 [1, 2, 5, 6] (outT [(.exit 0, []), (.ret, [4])]) (fun d K => A203_1_l3 (f203_1_l3 F) k d K) []
noncomputable def LT203_1 (F : Nat) : Nat → Option LoopS := ltab [(7, G203_1_7 F F), (3, G203_1_3 F F)]
theorem L203_1_7 (F : Nat) : LoopOK Tryz.prog (T203_1 F) (xw []) 32 0 (LT203_1 F) (G203_1_7 F F) b203_1 :=
  loopOK_of (s := sh203_1_l7) (live := [1, 2, 5, 6, 7, 8]) (out := (outT [(.exit 2, [1, 2, 5, 6]), (.ret, [4])])) (mv := []) (fun k d K => A203_1_l7 (f203_1_l7 F) k d K) F (fun d K => by kernel_rfl)  (fun k d K => by delta A203_1_l7; refine (f203_1_l7.eq_2 ..).trans ?_; delta T203_1 S36_1 S165_1 LT203_1; generalize (G203_1_7 F F) = c, (G203_1_3 F F) = c;  (try delta G203_1_7); generalize (f36_1 F : Y36_1) = c, (f165_1 F : Y165_1) = c, (f203_1_l7 F : Y203_1_l7) = c; as_aux_lemma => kernel_rfl)
theorem L203_1_3 (F : Nat) : LoopOK Tryz.prog (T203_1 F) (xw []) 32 0 (LT203_1 F) (G203_1_3 F F) b203_0 :=
  loopOK_of (s := sh203_1_l3) (live := [1, 2, 5, 6]) (out := (outT [(.exit 0, []), (.ret, [4])])) (mv := []) (fun k d K => A203_1_l3 (f203_1_l3 F) k d K) F (fun d K => by kernel_rfl)  (fun k d K => by delta A203_1_l3; refine (f203_1_l3.eq_2 ..).trans ?_; delta T203_1 S36_1 S165_1 LT203_1; generalize (G203_1_3 F F) = c;  (try delta G203_1_7 G203_1_3); generalize (f36_1 F : Y36_1) = c, (f165_1 F : Y165_1) = c, (f203_1_l7 F : Y203_1_l7) = c, (f203_1_l3 F : Y203_1_l3) = c; as_aux_lemma => kernel_rfl)
theorem E203_1 (F : Nat) (d : sh203_1.den) (K : KF) : EB Tryz.prog (T203_1 F) (xw []) 32 0 (LT203_1 F) [] false Tryz.f203 sh203_1 d K = A203_1 (f203_1 F) d K := by delta A203_1 f203_1 T203_1 S36_1 S165_1 LT203_1; generalize (G203_1_7 F F) = c;  delta G203_1_3; generalize (f36_1 F : Y36_1) = c, (f165_1 F : Y165_1) = c, (f203_1_l3 F : Y203_1_l3) = c; as_aux_lemma => kernel_rfl
theorem S203_1_ok : So Tryz.prog 203 S203_1 :=
  fun F o ho => sOf (fn := Tryz.f203) (c := code203) (tab_cons (S36_1_ok F _ (noS_sound enter36)) (tab_cons (S165_1_ok F _ (noS_sound enter165)) tab_nil)) ho (by rw [loops203]; exact (loopsOK_cons (by kernel_rfl) (L203_1_3 F) (loopsOK_cons (by kernel_rfl) (L203_1_7 F) loopsOK_nil))) snil rnil (E203_1 F)
end
section
noncomputable def f177_1_l5 {β : Type} (F : Nat) (v3 v4 v5 v6 : Int) (K0 : List Int → Option β) : Nat → Int → List Int → Option β
  | 0, _, _ => none
  | k + 1, v2, v7 => cond (decide (v2 ≥ 0)) (cond (decide ((v7.length + 1) * 8 ≤ 70368744177664)) (f203_1 F v3 v4 v5 v6 v2 (fun x8 => f177_1_l5 F v3 v4 v5 v6 K0 k x8 (v7 ++ [v2])) ) none) (K0 v7)
noncomputable def f177_1 {β : Type} (F : Nat) (a1 a2 a3 a4 a5 : Int) (K0 : List Int → Option β) : Option β := f21_1 F a1 a2 a3 a4 (fun x1 => cond (!x1) (K0 []) (cond (decide (a5 < 0)) (K0 []) (cond (decide (a5 ≥ a1)) (K0 []) (f177_1_l5 F a1 a2 a3 a4 (fun x9 => K0 x9) F a5 [])))) 
variable [FZ]
def sh177_1 : Sh := ⟨[.agg [.int .i64, .int .i64, .int .i64, .int .i64], .lf (.int .i64)], []⟩
abbrev Y177_1 := Int → Int → Int → Int → Int → (List Int → Option Res) → Option Res
noncomputable def A177_1 (g : Y177_1) (d : sh177_1.den) (K : KF) : Option Res := g d.1.1.1 d.1.1.2.1 d.1.1.2.2.1 d.1.1.2.2.2.1 d.1.2.1 (fun y0 => K [.lf (.full 0)] [some ⟨false, [.seq (.int .i64) 0 y0]⟩])
noncomputable def S177_1 (F : Nat) (o : Summ) : Summ := mkS sh177_1 (fun d K => A177_1 (f177_1 F) d K) o
noncomputable def code177 : Code := bodyOf Tryz.f177
noncomputable def b177_0 : Code := cB (cB (cR (cL (cR (cR (cR (code177)))))))
theorem loops177 : loopsOf code177 = [b177_0] := by kernel_rfl
theorem enter177 : En Tryz.prog 177 := enO (fn := Tryz.f177)
noncomputable def T177_1 (F : Nat) : FuncId → Option Summ := tab [(21, (S21_1 F noS)), (203, (S203_1 F noS))]
def sh177_1_l5 : Sh := ⟨[.lf (.ptr 0 0), .lf (.full 1), .lf (.int .i64)], [some ⟨some false, [.int .i64, .int .i64, .int .i64, .int .i64]⟩, some ⟨some false, [.seq (.int .i64) 0]⟩]⟩
abbrev Y177_1_l5 := Int → Int → Int → Int → (List Int → Option Res) → Nat → Int → List Int → Option Res
noncomputable def A177_1_l5 (g : Y177_1_l5) (k : Nat) (d : sh177_1_l5.den) (K : KL) : Option Res := g d.2.1.2.1 d.2.1.2.2.1 d.2.1.2.2.2.1 d.2.1.2.2.2.2.1 (fun y4 => K (.exit 0) [.tv (.lf (.full 1))] [some ⟨false, [.int .i64 d.2.1.2.1, .int .i64 d.2.1.2.2.1, .int .i64 d.2.1.2.2.2.1, .int .i64 d.2.1.2.2.2.2.1]⟩, some ⟨false, [.seq (.int .i64) 0 y4]⟩]) k d.1.2.2.1 d.2.2.1.2.1
noncomputable def G177_1_5 (F k : Nat) : LoopS := mkG sh177_1_l5 [2, 5, 6] (outT [(.exit 0, [5])]) (fun d K => A177_1_l5 (f177_1_l5 F) k d K) []
noncomputable def LT177_1 (F : Nat) : Nat → Option LoopS := ltab [(5, G177_1_5 F F)]
theorem L177_1_5 (F : Nat) : LoopOK Tryz.prog (T177_1 F) (xw []) 31 0 (LT177_1 F) (G177_1_5 F F) b177_0 :=
  loopOK_of (s := sh177_1_l5) (live := [2, 5, 6]) (out := (outT [(.exit 0, [5])])) (mv := []) (fun k d K => A177_1_l5 (f177_1_l5 F) k d K) F (fun d K => by kernel_rfl)  (fun k d K => by delta A177_1_l5; refine (f177_1_l5.eq_2 ..).trans ?_; delta T177_1 S21_1 S203_1 LT177_1; generalize (G177_1_5 F F) = c;  (try delta G177_1_5); generalize (f21_1 F : Y21_1) = c, (f203_1 F : Y203_1) = c, (f177_1_l5 F : Y177_1_l5) = c; as_aux_lemma => kernel_rfl)
theorem E177_1 (F : Nat) (d : sh177_1.den) (K : KF) : EB Tryz.prog (T177_1 F) (xw []) 31 0 (LT177_1 F) [] false Tryz.f177 sh177_1 d K = A177_1 (f177_1 F) d K := by delta A177_1 f177_1 T177_1 S21_1 S203_1 LT177_1;  delta G177_1_5; generalize (f21_1 F : Y21_1) = c, (f203_1 F : Y203_1) = c, (f177_1_l5 F : Y177_1_l5) = c; as_aux_lemma => kernel_rfl
theorem S177_1_ok : So Tryz.prog 177 S177_1 :=
  fun F o ho => sOf (fn := Tryz.f177) (c := code177) (tab_cons (S21_1_ok F _ (noS_sound enter21)) (tab_cons (S203_1_ok F _ (noS_sound enter203)) tab_nil)) ho (by rw [loops177]; exact (loopsOK_cons (by kernel_rfl) (L177_1_5 F) loopsOK_nil)) snil rnil (E177_1 F)
end
section
noncomputable def f171_1_l7 {β : Type} (F : Nat) (v10 : Int) (v12 : List Int) (v13 v14 v15 v16 : Int) (v18 : List Int) (K0 : List Bool → Option β) : Nat → Int → List Bool → Option β
  | 0, _, _ => none
  | k + 1, v11, v17 => cond (decide (v11 < ((v18.length : Nat) : Int))) (cond (decide ((0 : Int) ≤ v11 ∧ v11 < ((v18.length : Nat) : Int))) (cond (decide (0 + v11.toNat < v18.length)) (cond (decide ((0 : Int) ≤ v18.getD (0 + v11.toNat) 0 ∧ v18.getD (0 + v11.toNat) 0 < ((v17.length : Nat) : Int))) (cond (decide (0 + ((v18.getD (0 + v11.toNat) 0).toNat) < v17.length)) (f171_1_l7 F v10 v12 v13 v14 v15 v16 v18 K0 k (IntKind.i64.wrap (v11 + 1)) (v17.set (0 + ((v18.getD (0 + v11.toNat) 0).toNat)) true)) none) none) none) none) (K0 v17)
noncomputable def f171_1_l3 {β : Type} (F : Nat) (v3 : List Int) (v4 v5 v6 v7 : Int) (K0 : List Bool → Option β) : Nat → Int → List Bool → Option β
  | 0, _, _ => none
  | k + 1, v2, v8 => cond (decide (v2 < ((v3.length : Nat) : Int))) (cond (decide ((0 : Int) ≤ v2 ∧ v2 < ((v3.length : Nat) : Int))) (cond (decide (0 + v2.toNat < v3.length)) (f177_1 F v4 v5 v6 v7 (v3.getD (0 + v2.toNat) 0) (fun x9 => f171_1_l7 F v2 v3 v4 v5 v6 v7 x9 (fun x19 => f171_1_l3 F v3 v4 v5 v6 v7 K0 k (IntKind.i64.wrap (v2 + 1)) x19) F 0 v8) ) none) none) (K0 v8)
noncomputable def f171_1 {β : Type} (F : Nat) (a1 a2 a3 a4 : Int) (a5 : List Int) (K0 : List Bool → Option β) : Option β := f36_1 F a1 a2 a3 a4 (fun x1 => cond (decide ((0 : Int) ≤ x1 ∧ x1 ≤ x1 ∧ x1 ≤ 70368744177664 ∧ x1 * 1 ≤ 70368744177664)) (f171_1_l3 F a5 a1 a2 a3 a4 (fun x20 => K0 x20) F 0 (List.replicate x1.toNat false)) none) 
variable [FZ]
def sh171_1 : Sh := ⟨[.agg [.int .i64, .int .i64, .int .i64, .int .i64], .lf (.full 0)], [some ⟨none, [.seq (.int .i64) 0]⟩]⟩
abbrev Y171_1 := Int → Int → Int → Int → List Int → (List Bool → Option Res) → Option Res
noncomputable def A171_1 (g : Y171_1) (d : sh171_1.den) (K : KF) : Option Res := g d.1.1.1 d.1.1.2.1 d.1.1.2.2.1 d.1.1.2.2.2.1 d.2.1.2.1 (fun y1 => K [.lf (.full 1)] [some ⟨d.2.1.1, [.seq (.int .i64) 0 d.2.1.2.1]⟩, some ⟨false, [.seq .bool 0 y1]⟩])
noncomputable def S171_1 (F : Nat) (o : Summ) : Summ := mkS sh171_1 (fun d K => A171_1 (f171_1 F) d K) o
noncomputable def code171 : Code := bodyOf Tryz.f171
noncomputable def b171_0 : Code := cB (cB (cR (cL (cR (cR (code171))))))
noncomputable def b171_1 : Code := cB (cB (cR (cR (cB (cL (cR (cB (cB (cR (cL (cR (cR (code171)))))))))))))
theorem loops171 : loopsOf code171 = [b171_0, b171_1] := by kernel_rfl
theorem enter171 : En Tryz.prog 171 := enO (fn := Tryz.f171)
noncomputable def T171_1 (F : Nat) : FuncId → Option Summ := tab [(36, (S36_1 F noS)), (177, (S177_1 F noS))]
def sh171_1_l7 : Sh := ⟨[.lf (.full 0), .lf (.ptr 1 0), .lf (.full 2), .lf (.int .i64), .lf (.full 3), .lf (.int .i64)], [some ⟨none, [.seq (.int .i64) 0]⟩, some ⟨some false, [.int .i64, .int .i64, .int .i64, .int .i64]⟩, some ⟨some false, [.seq .bool 0]⟩, some ⟨some false, [.seq (.int .i64) 0]⟩]⟩
abbrev Y171_1_l7 := Int → List Int → Int → Int → Int → Int → List Int → (List Bool → Option Res) → Nat → Int → List Bool → Option Res
noncomputable def A171_1_l7 (g : Y171_1_l7) (k : Nat) (d : sh171_1_l7.den) (K : KL) : Option Res := g d.1.2.2.2.1 d.2.1.2.1 d.2.2.1.2.1 d.2.2.1.2.2.1 d.2.2.1.2.2.2.1 d.2.2.1.2.2.2.2.1 d.2.2.2.2.1.2.1 (fun y6 => K (.exit 2) [.tv (.lf (.full 0)), .tv (.lf (.ptr 1 0)), .tv (.lf (.full 2)), .tv (.lf (.int .i64 d.1.2.2.2.1))] [some ⟨d.2.1.1, [.seq (.int .i64) 0 d.2.1.2.1]⟩, some ⟨false, [.int .i64 d.2.2.1.2.1, .int .i64 d.2.2.1.2.2.1, .int .i64 d.2.2.1.2.2.2.1, .int .i64 d.2.2.1.2.2.2.2.1]⟩, some ⟨false, [.seq .bool 0 y6]⟩, some ⟨false, [.seq (.int .i64) 0 d.2.2.2.2.1.2.1]⟩]) k d.1.2.2.2.2.2.1 d.2.2.2.1.2.1
def sh171_1_l3 : Sh := ⟨[.lf (.full 0), .lf (.ptr 1 0), .lf (.full 2), .lf (.int .i64)], [some ⟨none, [.seq (.int .i64) 0]⟩, some ⟨some false, [.int .i64, .int .i64, .int .i64, .int .i64]⟩, some ⟨some false, [.seq .bool 0]⟩]⟩
abbrev Y171_1_l3 := List Int → Int → Int → Int → Int → (List Bool → Option Res) → Nat → Int → List Bool → Option Res
noncomputable def A171_1_l3 (g : Y171_1_l3) (k : Nat) (d : sh171_1_l3.den) (K : KL) : Option Res := g d.2.1.2.1 d.2.2.1.2.1 d.2.2.1.2.2.1 d.2.2.1.2.2.2.1 d.2.2.1.2.2.2.2.1 (fun y5 => K (.exit 0) [.tv (.lf (.full 2))] [some ⟨d.2.1.1, [.seq (.int .i64) 0 d.2.1.2.1]⟩, some ⟨false, [.int .i64 d.2.2.1.2.1, .int .i64 d.2.2.1.2.2.1, .int .i64 d.2.2.1.2.2.2.1, .int .i64 d.2.2.1.2.2.2.2.1]⟩, some ⟨false, [.seq .bool 0 y5]⟩]) k d.1.2.2.2.1 d.2.2.2.1.2.1
noncomputable def G171_1_7 (F k : Nat) : LoopS := mkG sh171_1_l7 [1, 2, 5, 6, 7, 8] (outT [(.exit 2, [1, 2, 5, 6])]) (fun d K => A171_1_l7 (f171_1_l7 F) k d K) []
noncomputable def G171_1_3 (F k : Nat) : LoopS := mkG sh171_1_l3 [1, 2, 5, 6] (outT [(.exit 0, [5])]) (fun d K => A171_1_l3 (f171_1_l3 F) k d K) []
noncomputable def LT171_1 (F : Nat) : Nat → Option LoopS := ltab [(7, G171_1_7 F F), (3, G171_1_3 F F)]
theorem L171_1_7 (F : Nat) : LoopOK Tryz.prog (T171_1 F) (xw []) 39 1 (LT171_1 F) (G171_1_7 F F) b171_1 :=
  loopOK_of (s := sh171_1_l7) (live := [1, 2, 5, 6, 7, 8]) (out := (outT [(.exit 2, [1, 2, 5, 6])])) (mv := []) (fun k d K => A171_1_l7 (f171_1_l7 F) k d K) F (fun d K => by kernel_rfl)  (fun k d K => by delta A171_1_l7; refine (f171_1_l7.eq_2 ..).trans ?_; delta T171_1 S36_1 S177_1 LT171_1; generalize (G171_1_7 F F) = c, (G171_1_3 F F) = c;  (try delta G171_1_7); generalize (f36_1 F : Y36_1) = c, (f177_1 F : Y177_1) = c, (f171_1_l7 F : Y171_1_l7) = c; as_aux_lemma => kernel_rfl)
theorem L171_1_3 (F : Nat) : LoopOK Tryz.prog (T171_1 F) (xw []) 39 1 (LT171_1 F) (G171_1_3 F F) b171_0 :=
  loopOK_of (s := sh171_1_l3) (live := [1, 2, 5, 6]) (out := (outT [(.exit 0, [5])])) (mv := []) (fun k d K => A171_1_l3 (f171_1_l3 F) k d K) F (fun d K => by kernel_rfl)  (fun k d K => by delta A171_1_l3; refine (f171_1_l3.eq_2 ..).trans ?_; delta T171_1 S36_1 S177_1 LT171_1; generalize (G171_1_3 F F) = c;  (try delta G171_1_7 G171_1_3); generalize (f36_1 F : Y36_1) = c, (f177_1 F : Y177_1) = c, (f171_1_l7 F : Y171_1_l7) = c, (f171_1_l3 F : Y171_1_l3) = c; as_aux_lemma => kernel_rfl)
theorem E171_1 (F : Nat) (d : sh171_1.den) (K : KF) : EB Tryz.prog (T171_1 F) (xw []) 39 1 (LT171_1 F) [] false Tryz.f171 sh171_1 d K = A171_1 (f171_1 F) d K := by delta A171_1 f171_1 T171_1 S36_1 S177_1 LT171_1; generalize (G171_1_7 F F) = c;  delta G171_1_3; generalize (f36_1 F : Y36_1) = c, (f177_1 F : Y177_1) = c, (f171_1_l3 F : Y171_1_l3) = c; as_aux_lemma => kernel_rfl
theorem S171_1_ok : So Tryz.prog 171 S171_1 :=
  fun F o ho => sOf (fn := Tryz.f171) (c := code171) (tab_cons (S36_1_ok F _ (noS_sound enter36)) (tab_cons (S177_1_ok F _ (noS_sound enter177)) tab_nil)) ho (by rw [loops171]; exact (loopsOK_cons (by kernel_rfl) (L171_1_3 F) (loopsOK_cons (by kernel_rfl) (L171_1_7 F) loopsOK_nil))) snil rnil (E171_1 F)
end
section
noncomputable def f25_1 {β : Type} (F : Nat) (a1 a2 a3 a4 a5 : Int) (K0 : Int → Option β) : Option β := f21_1 F a1 a2 a3 a4 (fun x1 => cond (!x1) (K0 (-1)) (cond (decide (a5 < 0)) (K0 (-1)) (cond (decide (a5 ≥ a1)) (K0 (-1)) (K0 (IntKind.i64.wrap (6 + a5)))))) 
variable [FZ]
def sh25_1 : Sh := ⟨[.agg [.int .i64, .int .i64, .int .i64, .int .i64], .lf (.int .i64)], []⟩
abbrev Y25_1 := Int → Int → Int → Int → Int → (Int → Option Res) → Option Res
noncomputable def A25_1 (g : Y25_1) (d : sh25_1.den) (K : KF) : Option Res := g d.1.1.1 d.1.1.2.1 d.1.1.2.2.1 d.1.1.2.2.2.1 d.1.2.1 (fun y0 => K [.lf (.int .i64 y0)] [])
noncomputable def S25_1 (F : Nat) (o : Summ) : Summ := mkS sh25_1 (fun d K => A25_1 (f25_1 F) d K) o
noncomputable def code25 : Code := bodyOf Tryz.f25
theorem enter25 : En Tryz.prog 25 := enO (fn := Tryz.f25)
noncomputable def T25_1 (F : Nat) : FuncId → Option Summ := tab [(21, (S21_1 F noS))]
noncomputable def LT25_1 (F : Nat) : Nat → Option LoopS := ltab []
theorem E25_1 (F : Nat) (d : sh25_1.den) (K : KF) : EB Tryz.prog (T25_1 F) (xw []) 20 0 (LT25_1 F) [] false Tryz.f25 sh25_1 d K = A25_1 (f25_1 F) d K := by delta A25_1 f25_1 T25_1 S21_1 LT25_1;  generalize (f21_1 F : Y21_1) = c; as_aux_lemma => kernel_rfl
theorem S25_1_ok : So Tryz.prog 25 S25_1 :=
  fun F o ho => sOf (fn := Tryz.f25) (c := code25) (tab_cons (S21_1_ok F _ (noS_sound enter21)) tab_nil) ho lnil snil rnil (E25_1 F)
end
section
noncomputable def f117_1_l4 {β : Type} (F : Nat) (v3 : Int) (v4 : Bool) (v5 : Int) (v6 : List ByteArray) (v7 : List (Int × ByteArray)) (v8 : List Int) (v9 v10 v11 v12 : Int) (K0 K1 : Option β) : Nat → Int → Option β
  | 0, _ => none
  | k + 1, v2 => cond (decide (v2 < ((v8.length : Nat) : Int))) (cond (decide ((0 : Int) ≤ v2 ∧ v2 < ((v8.length : Nat) : Int))) (cond (decide (0 + v2.toNat < v8.length)) (cond (decide (v8.getD (0 + v2.toNat) 0 < 0)) (K0) (cond (decide ((0 : Int) ≤ v2 ∧ v2 < ((v8.length : Nat) : Int))) (cond (decide (0 + v2.toNat < v8.length)) (cond (decide (v8.getD (0 + v2.toNat) 0 ≥ v9)) (K0) (f117_1_l4 F v3 v4 v5 v6 v7 v8 v9 v10 v11 v12 K0 K1 k (IntKind.i64.wrap (v2 + 1)))) none) none)) none) none) (K1)
noncomputable def f117_1_l13 {β : Type} (F : Nat) (v18 : Int) (v19 : Bool) (v20 : Int) (v21 : List ByteArray) (v22 : List (Int × ByteArray)) (v23 : List Int) (v24 v25 v26 v27 : Int) (v28 : List Bool) (K0 : Int → List ByteArray → Option β) (K1 : List ByteArray → Option β) : Nat → Int → List ByteArray → Option β
  | 0, _, _ => none
  | k + 1, v17, v29 => cond (decide (v17 < ((v28.length : Nat) : Int))) (cond (decide ((0 : Int) ≤ v17 ∧ v17 < ((v28.length : Nat) : Int))) (cond (decide (0 + v17.toNat < v28.length)) (cond (!(v28.getD (0 + v17.toNat) false)) (f114_1 F v24 v25 v26 v27 v17 v18 v19 v20 v21 v22 (fun x30 x31 => cond (x31 != 0) (K0 x31 v29) (cond (decide ((0 : Int) ≤ v17 ∧ v17 < ((v29.length : Nat) : Int))) (cond (decide (0 + v17.toNat < v29.length)) (f117_1_l13 F v18 v19 v20 v21 v22 v23 v24 v25 v26 v27 v28 K0 K1 k (IntKind.i64.wrap (v17 + 1)) (v29.set (0 + v17.toNat) x30)) none) none)) ) (f117_1_l13 F v18 v19 v20 v21 v22 v23 v24 v25 v26 v27 v28 K0 K1 k (IntKind.i64.wrap (v17 + 1)) v29)) none) none) (K1 v29)
noncomputable def f117_1_l21 {β : Type} (F : Nat) (v36 : Int) (v37 : Bool) (v38 : Int) (v39 : List ByteArray) (v40 : List (Int × ByteArray)) (v41 : List Int) (v42 v43 v44 v45 : Int) (v46 : List Bool) (K0 : Int → List ByteArray → Option β) (K1 : List ByteArray → Option β) : Nat → Int → List ByteArray → Option β
  | 0, _, _ => none
  | k + 1, v35, v47 => cond (decide (v35 < ((v46.length : Nat) : Int))) (cond (decide ((0 : Int) ≤ v35 ∧ v35 < ((v46.length : Nat) : Int))) (cond (decide (0 + v35.toNat < v46.length)) (cond (v46.getD (0 + v35.toNat) false) (cond (decide (v35 < v42)) (f25_1 F v42 v43 v44 v45 v35 (fun x48 => f124_1 F x48 v36 v37 v38 v39 v40 (fun x49 x50 => cond (x50 != 0) (K0 x50 v47) (f104_1 F x49 (fun x51 => cond (decide ((0 : Int) ≤ v35 ∧ v35 < ((v47.length : Nat) : Int))) (cond (decide (0 + v35.toNat < v47.length)) (f117_1_l21 F v36 v37 v38 v39 v40 v41 v42 v43 v44 v45 v46 K0 K1 k (IntKind.i64.wrap (v35 + 1)) (v47.set (0 + v35.toNat) x51)) none) none) )) ) ) (cond (decide ((0 : Int) ≤ v35 ∧ v35 < ((v46.length : Nat) : Int))) (cond (decide (0 + v35.toNat < v46.length)) (cond (v46.getD (0 + v35.toNat) false) (f113_1 F v42 v43 v44 v45 v35 v47 (fun x52 => cond (decide ((0 : Int) ≤ v35 ∧ v35 < ((v47.length : Nat) : Int))) (cond (decide (0 + v35.toNat < v47.length)) (f117_1_l21 F v36 v37 v38 v39 v40 v41 v42 v43 v44 v45 v46 K0 K1 k (IntKind.i64.wrap (v35 + 1)) (v47.set (0 + v35.toNat) x52)) none) none) ) (f117_1_l21 F v36 v37 v38 v39 v40 v41 v42 v43 v44 v45 v46 K0 K1 k (IntKind.i64.wrap (v35 + 1)) v47)) none) none)) (cond (decide ((0 : Int) ≤ v35 ∧ v35 < ((v46.length : Nat) : Int))) (cond (decide (0 + v35.toNat < v46.length)) (cond (v46.getD (0 + v35.toNat) false) (f113_1 F v42 v43 v44 v45 v35 v47 (fun x53 => cond (decide ((0 : Int) ≤ v35 ∧ v35 < ((v47.length : Nat) : Int))) (cond (decide (0 + v35.toNat < v47.length)) (f117_1_l21 F v36 v37 v38 v39 v40 v41 v42 v43 v44 v45 v46 K0 K1 k (IntKind.i64.wrap (v35 + 1)) (v47.set (0 + v35.toNat) x53)) none) none) ) (f117_1_l21 F v36 v37 v38 v39 v40 v41 v42 v43 v44 v45 v46 K0 K1 k (IntKind.i64.wrap (v35 + 1)) v47)) none) none)) none) none) (K1 v47)
noncomputable def f117_1_l31 {β : Type} (F : Nat) (v61 : List ByteArray) (v62 : List Int) (v64 v65 v66 v67 : Int) (v68 : List Bool) (v69 : List ByteArray) (K0 : Int → Int → Bool → Int → List (Int × ByteArray) → Option β) (K1 : Int → Bool → Int → List (Int × ByteArray) → Option β) : Nat → Int → Int → Bool → Int → List (Int × ByteArray) → Option β
  | 0, _, _, _, _, _ => none
  | k + 1, v57, v58, v59, v60, v63 => cond (decide (v57 < ((v68.length : Nat) : Int))) (cond (decide ((0 : Int) ≤ v57 ∧ v57 < ((v68.length : Nat) : Int))) (cond (decide (0 + v57.toNat < v68.length)) (cond (v68.getD (0 + v57.toNat) false) (cond (decide ((0 : Int) ≤ v57 ∧ v57 < ((v69.length : Nat) : Int))) (cond (decide (0 + v57.toNat < v69.length)) (f115_1 F v64 v65 v66 v67 v57 (v69.getD (0 + v57.toNat) ByteArray.empty) v58 v59 v60 v61 v63 (fun x70 x71 x72 x73 x74 => cond (x70 != 0) (K0 x70 x71 x72 x73 x74) (f117_1_l31 F v61 v62 v64 v65 v66 v67 v68 v69 K0 K1 k (IntKind.i64.wrap (v57 + 1)) x71 x72 x73 x74)) ) none) none) (f117_1_l31 F v61 v62 v64 v65 v66 v67 v68 v69 K0 K1 k (IntKind.i64.wrap (v57 + 1)) v58 v59 v60 v63)) none) none) (K1 v58 v59 v60 v63)
noncomputable def f117_1 {β : Type} (F : Nat) (a1 a2 a3 a4 a5 : Int) (a6 : Bool) (a7 : Int) (a8 : List ByteArray) (a9 : List (Int × ByteArray)) (a10 : List Int) (K0 : ByteArray → Int → Int → Bool → Int → List ByteArray → List (Int × ByteArray) → Option β) : Option β := f21_1 F a1 a2 a3 a4 (fun x1 => cond (!x1) (K0 ByteArray.empty 12 a5 a6 a7 a8 a9) (f117_1_l4 F a5 a6 a7 a8 a9 a10 a1 a2 a3 a4 (K0 ByteArray.empty 3 a5 a6 a7 a8 a9) (cond (((a10.length : Nat) : Int) == 0) (f170_1 F a1 a2 a3 a4 (fun x13 => f114_1 F a1 a2 a3 a4 x13 a5 a6 a7 a8 a9 (fun x14 x15 => K0 x14 x15 a5 a6 a7 a8 a9) ) ) (f171_1 F a1 a2 a3 a4 a10 (fun x16 => cond (decide ((0 : Int) ≤ ((x16.length : Nat) : Int) ∧ ((x16.length : Nat) : Int) ≤ ((x16.length : Nat) : Int) ∧ ((x16.length : Nat) : Int) ≤ 70368744177664 ∧ ((x16.length : Nat) : Int) * 16 ≤ 70368744177664)) (f117_1_l13 F a5 a6 a7 a8 a9 a10 a1 a2 a3 a4 x16 (fun x32 x33 => K0 ByteArray.empty x32 a5 a6 a7 a8 a9) (fun x34 => f117_1_l21 F a5 a6 a7 a8 a9 a10 a1 a2 a3 a4 x16 (fun x54 x55 => K0 ByteArray.empty x54 a5 a6 a7 a8 a9) (fun x56 => f117_1_l31 F a8 a10 a1 a2 a3 a4 x16 x56 (fun x75 x76 x77 x78 x79 => K0 ByteArray.empty x75 x76 x77 x78 a8 x79) (fun x80 x81 x82 x83 => f143_1 F x80 x81 x82 a8 x83 (fun x84 x85 x86 x87 x88 x89 => cond (x84 != 0) (K0 ByteArray.empty x84 x85 x86 x87 x88 x89) (cond (decide ((0 : Int) ≤ IntKind.i64.wrap (((x56.length : Nat) : Int) - 1) ∧ IntKind.i64.wrap (((x56.length : Nat) : Int) - 1) < ((x56.length : Nat) : Int))) (cond (decide (0 + ((IntKind.i64.wrap (((x56.length : Nat) : Int) - 1)).toNat) < x56.length)) (K0 (x56.getD (0 + ((IntKind.i64.wrap (((x56.length : Nat) : Int) - 1)).toNat)) ByteArray.empty) 0 x85 x86 x87 x88 x89) none) none)) ) F 0 a5 a6 a7 a9) F 0 x34) F 0 (List.replicate (((x16.length : Nat) : Int).toNat) ByteArray.empty)) none) )) F 0)) 
variable [FZ]
def sh117_1 : Sh := ⟨[.lf (.ptr 0 0), .agg [.int .i64, .int .i64, .int .i64, .int .i64], .lf (.full 3)], [some ⟨some false, [.full 1, .full 2, .int .i64, .bool, .int .i64]⟩, some ⟨some false, [.seq .str 0]⟩, some ⟨some false, [.seq (.pair (.int .i64) .str) 0]⟩, some ⟨none, [.seq (.int .i64) 0]⟩]⟩
abbrev Y117_1 := Int → Int → Int → Int → Int → Bool → Int → List ByteArray → List (Int × ByteArray) → List Int → (ByteArray → Int → Int → Bool → Int → List ByteArray → List (Int × ByteArray) → Option Res) → Option Res
noncomputable def A117_1 (g : Y117_1) (d : sh117_1.den) (K : KF) : Option Res := g d.1.2.1.1 d.1.2.1.2.1 d.1.2.1.2.2.1 d.1.2.1.2.2.2.1 d.2.1.2.2.2.1 d.2.1.2.2.2.2.1 d.2.1.2.2.2.2.2.1 d.2.2.1.2.1 d.2.2.2.1.2.1 d.2.2.2.2.1.2.1 (fun y0 y1 y2 y3 y4 y5 y7 => K [.lf (.str y0), .lf (.int .i64 y1)] [some ⟨false, [.full 1, .full 4, .int .i64 y2, .bool y3, .int .i64 y4]⟩, some ⟨false, [.seq .str 0 y5]⟩, none, some ⟨d.2.2.2.2.1.1, [.seq (.int .i64) 0 d.2.2.2.2.1.2.1]⟩, some ⟨false, [.seq (.pair (.int .i64) .str) 0 y7]⟩])
noncomputable def S117_1 (F : Nat) (o : Summ) : Summ := mkS sh117_1 (fun d K => A117_1 (f117_1 F) d K) o
noncomputable def code117 : Code := bodyOf Tryz.f117
noncomputable def b117_0 : Code := cB (cB (cR (cL (cR (cR (code117))))))
noncomputable def b117_1 : Code := cB (cB (cR (cL (cR (cR (cR (cR (cR (cR (code117))))))))))
noncomputable def b117_2 : Code := cB (cB (cR (cL (cR (cR (cR (cR (cR (cR (cR (code117)))))))))))
noncomputable def b117_3 : Code := cB (cB (cR (cL (cR (cR (cR (cR (cR (cR (cR (cR (code117))))))))))))
theorem loops117 : loopsOf code117 = [b117_0, b117_1, b117_2, b117_3] := by kernel_rfl
theorem enter117 : En Tryz.prog 117 := enO (fn := Tryz.f117)
noncomputable def T117_1 (F : Nat) : FuncId → Option Summ := tab [(21, (S21_1 F noS)), (25, (S25_1 F noS)), (104, (S104_1 F noS)), (113, (S113_1 F noS)), (114, (S114_1 F noS)), (115, (S115_1 F noS)), (124, (S124_1 F noS)), (143, (S143_1 F noS)), (170, (S170_1 F noS)), (171, (S171_1 F noS))]
def sh117_1_l4 : Sh := ⟨[.lf (.ptr 0 0), .lf (.full 3), .lf (.ptr 4 0), .lf (.int .i64)], [some ⟨some false, [.full 1, .full 2, .int .i64, .bool, .int .i64]⟩, some ⟨some false, [.seq .str 0]⟩, some ⟨some false, [.seq (.pair (.int .i64) .str) 0]⟩, some ⟨none, [.seq (.int .i64) 0]⟩, some ⟨some false, [.int .i64, .int .i64, .int .i64, .int .i64]⟩]⟩
abbrev Y117_1_l4 := Int → Bool → Int → List ByteArray → List (Int × ByteArray) → List Int → Int → Int → Int → Int → (Option Res) → (Option Res) → Nat → Int → Option Res
noncomputable def A117_1_l4 (g : Y117_1_l4) (k : Nat) (d : sh117_1_l4.den) (K : KL) : Option Res := g d.2.1.2.2.2.1 d.2.1.2.2.2.2.1 d.2.1.2.2.2.2.2.1 d.2.2.1.2.1 d.2.2.2.1.2.1 d.2.2.2.2.1.2.1 d.2.2.2.2.2.1.2.1 d.2.2.2.2.2.1.2.2.1 d.2.2.2.2.2.1.2.2.2.1 d.2.2.2.2.2.1.2.2.2.2.1 (K .ret [.tv (.lf (.str ByteArray.empty)), .tv (.lf (.int .i64 3))] [some ⟨false, [.full 1, .full 2, .int .i64 d.2.1.2.2.2.1, .bool d.2.1.2.2.2.2.1, .int .i64 d.2.1.2.2.2.2.2.1]⟩, some ⟨false, [.seq .str 0 d.2.2.1.2.1]⟩, some ⟨false, [.seq (.pair (.int .i64) .str) 0 d.2.2.2.1.2.1]⟩, some ⟨d.2.2.2.2.1.1, [.seq (.int .i64) 0 d.2.2.2.2.1.2.1]⟩, some ⟨false, [.int .i64 d.2.2.2.2.2.1.2.1, .int .i64 d.2.2.2.2.2.1.2.2.1, .int .i64 d.2.2.2.2.2.1.2.2.2.1, .int .i64 d.2.2.2.2.2.1.2.2.2.2.1]⟩]) (K (.exit 0) [.tv (.lf (.ptr 0 0)), .tv (.lf (.full 3)), .tv (.lf (.ptr 4 0))] [some ⟨false, [.full 1, .full 2, .int .i64 d.2.1.2.2.2.1, .bool d.2.1.2.2.2.2.1, .int .i64 d.2.1.2.2.2.2.2.1]⟩, some ⟨false, [.seq .str 0 d.2.2.1.2.1]⟩, some ⟨false, [.seq (.pair (.int .i64) .str) 0 d.2.2.2.1.2.1]⟩, some ⟨d.2.2.2.2.1.1, [.seq (.int .i64) 0 d.2.2.2.2.1.2.1]⟩, some ⟨false, [.int .i64 d.2.2.2.2.2.1.2.1, .int .i64 d.2.2.2.2.2.1.2.2.1, .int .i64 d.2.2.2.2.2.1.2.2.2.1, .int .i64 d.2.2.2.2.2.1.2.2.2.2.1]⟩]) k d.1.2.2.2.1
def sh117_1_l13 : Sh := ⟨[.lf (.ptr 0 0), .lf (.ptr 4 0), .lf (.full 5), .lf (.full 6), .lf (.int .i64)], [some ⟨some false, [.full 1, .full 2, .int .i64, .bool, .int .i64]⟩, some ⟨some false, [.seq .str 0]⟩, some ⟨some false, [.seq (.pair (.int .i64) .str) 0]⟩, some ⟨none, [.seq (.int .i64) 0]⟩, some ⟨some false, [.int .i64, .int .i64, .int .i64, .int .i64]⟩, some ⟨some false, [.seq .bool 0]⟩, some ⟨some false, [.seq .str 0]⟩]⟩
abbrev Y117_1_l13 := Int → Bool → Int → List ByteArray → List (Int × ByteArray) → List Int → Int → Int → Int → Int → List Bool → (Int → List ByteArray → Option Res) → (List ByteArray → Option Res) → Nat → Int → List ByteArray → Option Res
noncomputable def A117_1_l13 (g : Y117_1_l13) (k : Nat) (d : sh117_1_l13.den) (K : KL) : Option Res := g d.2.1.2.2.2.1 d.2.1.2.2.2.2.1 d.2.1.2.2.2.2.2.1 d.2.2.1.2.1 d.2.2.2.1.2.1 d.2.2.2.2.1.2.1 d.2.2.2.2.2.1.2.1 d.2.2.2.2.2.1.2.2.1 d.2.2.2.2.2.1.2.2.2.1 d.2.2.2.2.2.1.2.2.2.2.1 d.2.2.2.2.2.2.1.2.1 (fun y1 y13 => K .ret [.tv (.lf (.str ByteArray.empty)), .tv (.lf (.int .i64 y1))] [some ⟨false, [.full 1, .full 2, .int .i64 d.2.1.2.2.2.1, .bool d.2.1.2.2.2.2.1, .int .i64 d.2.1.2.2.2.2.2.1]⟩, some ⟨false, [.seq .str 0 d.2.2.1.2.1]⟩, some ⟨false, [.seq (.pair (.int .i64) .str) 0 d.2.2.2.1.2.1]⟩, some ⟨d.2.2.2.2.1.1, [.seq (.int .i64) 0 d.2.2.2.2.1.2.1]⟩, some ⟨false, [.int .i64 d.2.2.2.2.2.1.2.1, .int .i64 d.2.2.2.2.2.1.2.2.1, .int .i64 d.2.2.2.2.2.1.2.2.2.1, .int .i64 d.2.2.2.2.2.1.2.2.2.2.1]⟩, some ⟨false, [.seq .bool 0 d.2.2.2.2.2.2.1.2.1]⟩, some ⟨false, [.seq .str 0 y13]⟩]) (fun y11 => K (.exit 2) [.tv (.lf (.ptr 0 0)), .tv (.lf (.ptr 4 0)), .tv (.lf (.full 5)), .tv (.lf (.full 6))] [some ⟨false, [.full 1, .full 2, .int .i64 d.2.1.2.2.2.1, .bool d.2.1.2.2.2.2.1, .int .i64 d.2.1.2.2.2.2.2.1]⟩, some ⟨false, [.seq .str 0 d.2.2.1.2.1]⟩, some ⟨false, [.seq (.pair (.int .i64) .str) 0 d.2.2.2.1.2.1]⟩, some ⟨d.2.2.2.2.1.1, [.seq (.int .i64) 0 d.2.2.2.2.1.2.1]⟩, some ⟨false, [.int .i64 d.2.2.2.2.2.1.2.1, .int .i64 d.2.2.2.2.2.1.2.2.1, .int .i64 d.2.2.2.2.2.1.2.2.2.1, .int .i64 d.2.2.2.2.2.1.2.2.2.2.1]⟩, some ⟨false, [.seq .bool 0 d.2.2.2.2.2.2.1.2.1]⟩, some ⟨false, [.seq .str 0 y11]⟩]) k d.1.2.2.2.2.1 d.2.2.2.2.2.2.2.1.2.1
def sh117_1_l21 : Sh := ⟨[.lf (.ptr 0 0), .lf (.ptr 4 0), .lf (.full 5), .lf (.full 6), .lf (.int .i64)], [some ⟨some false, [.full 1, .full 2, .int .i64, .bool, .int .i64]⟩, some ⟨some false, [.seq .str 0]⟩, some ⟨some false, [.seq (.pair (.int .i64) .str) 0]⟩, some ⟨none, [.seq (.int .i64) 0]⟩, some ⟨some false, [.int .i64, .int .i64, .int .i64, .int .i64]⟩, some ⟨some false, [.seq .bool 0]⟩, some ⟨some false, [.seq .str 0]⟩]⟩
abbrev Y117_1_l21 := Int → Bool → Int → List ByteArray → List (Int × ByteArray) → List Int → Int → Int → Int → Int → List Bool → (Int → List ByteArray → Option Res) → (List ByteArray → Option Res) → Nat → Int → List ByteArray → Option Res
noncomputable def A117_1_l21 (g : Y117_1_l21) (k : Nat) (d : sh117_1_l21.den) (K : KL) : Option Res := g d.2.1.2.2.2.1 d.2.1.2.2.2.2.1 d.2.1.2.2.2.2.2.1 d.2.2.1.2.1 d.2.2.2.1.2.1 d.2.2.2.2.1.2.1 d.2.2.2.2.2.1.2.1 d.2.2.2.2.2.1.2.2.1 d.2.2.2.2.2.1.2.2.2.1 d.2.2.2.2.2.1.2.2.2.2.1 d.2.2.2.2.2.2.1.2.1 (fun y1 y13 => K .ret [.tv (.lf (.str ByteArray.empty)), .tv (.lf (.int .i64 y1))] [some ⟨false, [.full 1, .full 2, .int .i64 d.2.1.2.2.2.1, .bool d.2.1.2.2.2.2.1, .int .i64 d.2.1.2.2.2.2.2.1]⟩, some ⟨false, [.seq .str 0 d.2.2.1.2.1]⟩, some ⟨false, [.seq (.pair (.int .i64) .str) 0 d.2.2.2.1.2.1]⟩, some ⟨d.2.2.2.2.1.1, [.seq (.int .i64) 0 d.2.2.2.2.1.2.1]⟩, some ⟨false, [.int .i64 d.2.2.2.2.2.1.2.1, .int .i64 d.2.2.2.2.2.1.2.2.1, .int .i64 d.2.2.2.2.2.1.2.2.2.1, .int .i64 d.2.2.2.2.2.1.2.2.2.2.1]⟩, some ⟨false, [.seq .bool 0 d.2.2.2.2.2.2.1.2.1]⟩, some ⟨false, [.seq .str 0 y13]⟩]) (fun y11 => K (.exit 4) [.tv (.lf (.ptr 0 0)), .tv (.lf (.ptr 4 0)), .tv (.lf (.full 5)), .tv (.lf (.full 6))] [some ⟨false, [.full 1, .full 2, .int .i64 d.2.1.2.2.2.1, .bool d.2.1.2.2.2.2.1, .int .i64 d.2.1.2.2.2.2.2.1]⟩, some ⟨false, [.seq .str 0 d.2.2.1.2.1]⟩, some ⟨false, [.seq (.pair (.int .i64) .str) 0 d.2.2.2.1.2.1]⟩, some ⟨d.2.2.2.2.1.1, [.seq (.int .i64) 0 d.2.2.2.2.1.2.1]⟩, some ⟨false, [.int .i64 d.2.2.2.2.2.1.2.1, .int .i64 d.2.2.2.2.2.1.2.2.1, .int .i64 d.2.2.2.2.2.1.2.2.2.1, .int .i64 d.2.2.2.2.2.1.2.2.2.2.1]⟩, some ⟨false, [.seq .bool 0 d.2.2.2.2.2.2.1.2.1]⟩, some ⟨false, [.seq .str 0 y11]⟩]) k d.1.2.2.2.2.1 d.2.2.2.2.2.2.2.1.2.1
def sh117_1_l31 : Sh := ⟨[.lf (.ptr 0 0), .lf (.ptr 5 0), .lf (.full 6), .lf (.full 7), .lf (.int .i64)], [some ⟨some false, [.full 1, .full 4, .int .i64, .bool, .int .i64]⟩, some ⟨some false, [.seq .str 0]⟩, none, some ⟨none, [.seq (.int .i64) 0]⟩, some ⟨some false, [.seq (.pair (.int .i64) .str) 0]⟩, some ⟨some false, [.int .i64, .int .i64, .int .i64, .int .i64]⟩, some ⟨some false, [.seq .bool 0]⟩, some ⟨some false, [.seq .str 0]⟩]⟩
abbrev Y117_1_l31 := List ByteArray → List Int → Int → Int → Int → Int → List Bool → List ByteArray → (Int → Int → Bool → Int → List (Int × ByteArray) → Option Res) → (Int → Bool → Int → List (Int × ByteArray) → Option Res) → Nat → Int → Int → Bool → Int → List (Int × ByteArray) → Option Res
noncomputable def A117_1_l31 (g : Y117_1_l31) (k : Nat) (d : sh117_1_l31.den) (K : KL) : Option Res := g d.2.2.1.2.1 d.2.2.2.2.1.2.1 d.2.2.2.2.2.2.1.2.1 d.2.2.2.2.2.2.1.2.2.1 d.2.2.2.2.2.2.1.2.2.2.1 d.2.2.2.2.2.2.1.2.2.2.2.1 d.2.2.2.2.2.2.2.1.2.1 d.2.2.2.2.2.2.2.2.1.2.1 (fun y1 y2 y3 y4 y13 => K .ret [.tv (.lf (.str ByteArray.empty)), .tv (.lf (.int .i64 y1))] [some ⟨false, [.full 1, .full 8, .int .i64 y2, .bool y3, .int .i64 y4]⟩, some ⟨false, [.seq .str 0 d.2.2.1.2.1]⟩, none, some ⟨d.2.2.2.2.1.1, [.seq (.int .i64) 0 d.2.2.2.2.1.2.1]⟩, none, some ⟨false, [.int .i64 d.2.2.2.2.2.2.1.2.1, .int .i64 d.2.2.2.2.2.2.1.2.2.1, .int .i64 d.2.2.2.2.2.2.1.2.2.2.1, .int .i64 d.2.2.2.2.2.2.1.2.2.2.2.1]⟩, some ⟨false, [.seq .bool 0 d.2.2.2.2.2.2.2.1.2.1]⟩, some ⟨false, [.seq .str 0 d.2.2.2.2.2.2.2.2.1.2.1]⟩, some ⟨false, [.seq (.pair (.int .i64) .str) 0 y13]⟩]) (fun y0 y1 y2 y5 => K (.exit 6) [.tv (.lf (.ptr 0 0)), .tv (.lf (.full 7))] [some ⟨false, [.full 1, .full 4, .int .i64 y0, .bool y1, .int .i64 y2]⟩, some ⟨false, [.seq .str 0 d.2.2.1.2.1]⟩, none, some ⟨d.2.2.2.2.1.1, [.seq (.int .i64) 0 d.2.2.2.2.1.2.1]⟩, some ⟨false, [.seq (.pair (.int .i64) .str) 0 y5]⟩, some ⟨false, [.int .i64 d.2.2.2.2.2.2.1.2.1, .int .i64 d.2.2.2.2.2.2.1.2.2.1, .int .i64 d.2.2.2.2.2.2.1.2.2.2.1, .int .i64 d.2.2.2.2.2.2.1.2.2.2.2.1]⟩, some ⟨false, [.seq .bool 0 d.2.2.2.2.2.2.2.1.2.1]⟩, some ⟨false, [.seq .str 0 d.2.2.2.2.2.2.2.2.1.2.1]⟩]) k d.1.2.2.2.2.1 d.2.1.2.2.2.1 d.2.1.2.2.2.2.1 d.2.1.2.2.2.2.2.1 d.2.2.2.2.2.1.2.1
noncomputable def G117_1_4 (F k : Nat) : LoopS := mkG sh117_1_l4 [0, 2, 4, 8] (outT [(.exit 0, [0, 2, 4]), (.ret, [6, 7])]) (fun d K => A117_1_l4 (f117_1_l4 F) k d K) []
noncomputable def G117_1_13 (F k : Nat) : LoopS := mkG sh117_1_l13 [0, 4, 9, 10, 11] (outT [(.exit 2, [0, 4, 9, 10]), (.ret, [6, 7])]) (fun d K => A117_1_l13 (f117_1_l13 F) k d K) []
noncomputable def G117_1_21 (F k : Nat) : LoopS := mkG sh117_1_l21 [0, 4, 9, 10, 14] (outT [(.exit 4, [0, 4, 9, 10]), (.ret, [6, 7])]) (fun d K => A117_1_l21 (f117_1_l21 F) k d K) []
noncomputable def G117_1_31 (F k : Nat) : LoopS := mkG sh117_1_l31 [0, 4, 9, 10, 17] (outT [(.exit 6, [0, 10]), (.ret, [6, 7])]) (fun d K => A117_1_l31 (f117_1_l31 F) k d K) [2]
noncomputable def LT117_1 (F : Nat) : Nat → Option LoopS := ltab [(4, G117_1_4 F F), (13, G117_1_13 F F), (21, G117_1_21 F F), (31, G117_1_31 F F)]
theorem L117_1_4 (F : Nat) : LoopOK Tryz.prog (T117_1 F) (xw [34]) 159 4 (LT117_1 F) (G117_1_4 F F) b117_0 :=
  loopOK_of (s := sh117_1_l4) (live := [0, 2, 4, 8]) (out := (outT [(.exit 0, [0, 2, 4]), (.ret, [6, 7])])) (mv := []) (fun k d K => A117_1_l4 (f117_1_l4 F) k d K) F (fun d K => by kernel_rfl)  (fun k d K => by delta A117_1_l4; refine (f117_1_l4.eq_2 ..).trans ?_; delta T117_1 S21_1 S25_1 S104_1 S113_1 S114_1 S115_1 S124_1 S143_1 S170_1 S171_1 LT117_1; generalize (G117_1_4 F F) = c, (G117_1_13 F F) = c, (G117_1_21 F F) = c, (G117_1_31 F F) = c;  (try delta G117_1_4); generalize (f21_1 F : Y21_1) = c, (f25_1 F : Y25_1) = c, (f104_1 F : Y104_1) = c, (f113_1 F : Y113_1) = c, (f114_1 F : Y114_1) = c, (f115_1 F : Y115_1) = c, (f124_1 F : Y124_1) = c, (f143_1 F : Y143_1) = c, (f170_1 F : Y170_1) = c, (f171_1 F : Y171_1) = c, (f117_1_l4 F : Y117_1_l4) = c; as_aux_lemma => kernel_rfl)
theorem L117_1_13 (F : Nat) : LoopOK Tryz.prog (T117_1 F) (xw [34]) 159 4 (LT117_1 F) (G117_1_13 F F) b117_1 :=
  loopOK_of (s := sh117_1_l13) (live := [0, 4, 9, 10, 11]) (out := (outT [(.exit 2, [0, 4, 9, 10]), (.ret, [6, 7])])) (mv := []) (fun k d K => A117_1_l13 (f117_1_l13 F) k d K) F (fun d K => by kernel_rfl)  (fun k d K => by delta A117_1_l13; refine (f117_1_l13.eq_2 ..).trans ?_; delta T117_1 S21_1 S25_1 S104_1 S113_1 S114_1 S115_1 S124_1 S143_1 S170_1 S171_1 LT117_1; generalize (G117_1_4 F F) = c, (G117_1_13 F F) = c, (G117_1_21 F F) = c, (G117_1_31 F F) = c;  (try delta G117_1_13); generalize (f21_1 F : Y21_1) = c, (f25_1 F : Y25_1) = c, (f104_1 F : Y104_1) = c, (f113_1 F : Y113_1) = c, (f114_1 F : Y114_1) = c, (f115_1 F : Y115_1) = c, (f124_1 F : Y124_1) = c, (f143_1 F : Y143_1) = c, (f170_1 F : Y170_1) = c, (f171_1 F : Y171_1) = c, (f117_1_l13 F : Y117_1_l13) = c; as_aux_lemma => kernel_rfl)
theorem L117_1_21 (F : Nat) : LoopOK Tryz.prog (T117_1 F) (xw [34]) 159 4 (LT117_1 F) (G117_1_21 F F) b117_2 :=
  loopOK_of (s := sh117_1_l21) (live := [0, 4, 9, 10, 14]) (out := (outT [(.exit 4, [0, 4, 9, 10]), (.ret, [6, 7])])) (mv := []) (fun k d K => A117_1_l21 (f117_1_l21 F) k d K) F (fun d K => by kernel_rfl)  (fun k d K => by delta A117_1_l21; refine (f117_1_l21.eq_2 ..).trans ?_; delta T117_1 S21_1 S25_1 S104_1 S113_1 S114_1 S115_1 S124_1 S143_1 S170_1 S171_1 LT117_1; generalize (G117_1_4 F F) = c, (G117_1_13 F F) = c, (G117_1_21 F F) = c, (G117_1_31 F F) = c;  (try delta G117_1_21); generalize (f21_1 F : Y21_1) = c, (f25_1 F : Y25_1) = c, (f104_1 F : Y104_1) = c, (f113_1 F : Y113_1) = c, (f114_1 F : Y114_1) = c, (f115_1 F : Y115_1) = c, (f124_1 F : Y124_1) = c, (f143_1 F : Y143_1) = c, (f170_1 F : Y170_1) = c, (f171_1 F : Y171_1) = c, (f117_1_l21 F : Y117_1_l21) = c; as_aux_lemma => kernel_rfl)
theorem L117_1_31 (F : Nat) : LoopOK Tryz.prog (T117_1 F) (xw [34]) 159 4 (LT117_1 F) (G117_1_31 F F) b117_3 :=
  loopOK_of (s := sh117_1_l31) (live := [0, 4, 9, 10, 17]) (out := (outT [(.exit 6, [0, 10]), (.ret, [6, 7])])) (mv := [2]) (fun k d K => A117_1_l31 (f117_1_l31 F) k d K) F (fun d K => by kernel_rfl)  (fun k d K => by delta A117_1_l31; refine (f117_1_l31.eq_2 ..).trans ?_; delta T117_1 S21_1 S25_1 S104_1 S113_1 S114_1 S115_1 S124_1 S143_1 S170_1 S171_1 LT117_1; generalize (G117_1_4 F F) = c, (G117_1_13 F F) = c, (G117_1_21 F F) = c, (G117_1_31 F F) = c;  (try delta G117_1_31); generalize (f21_1 F : Y21_1) = c, (f25_1 F : Y25_1) = c, (f104_1 F : Y104_1) = c, (f113_1 F : Y113_1) = c, (f114_1 F : Y114_1) = c, (f115_1 F : Y115_1) = c, (f124_1 F : Y124_1) = c, (f143_1 F : Y143_1) = c, (f170_1 F : Y170_1) = c, (f171_1 F : Y171_1) = c, (f117_1_l31 F : Y117_1_l31) = c; as_aux_lemma => kernel_rfl)
theorem E117_1 (F : Nat) (d : sh117_1.den) (K : KF) : EB Tryz.prog (T117_1 F) (xw [34]) 159 4 (LT117_1 F) [2] false Tryz.f117 sh117_1 d K = A117_1 (f117_1 F) d K := by delta A117_1 f117_1 T117_1 S21_1 S25_1 S104_1 S113_1 S114_1 S115_1 S124_1 S143_1 S170_1 S171_1 LT117_1;  delta G117_1_4 G117_1_13 G117_1_21 G117_1_31; generalize (f21_1 F : Y21_1) = c, (f25_1 F : Y25_1) = c, (f104_1 F : Y104_1) = c, (f113_1 F : Y113_1) = c, (f114_1 F : Y114_1) = c, (f115_1 F : Y115_1) = c, (f124_1 F : Y124_1) = c, (f143_1 F : Y143_1) = c, (f170_1 F : Y170_1) = c, (f171_1 F : Y171_1) = c, (f117_1_l4 F : Y117_1_l4) = c, (f117_1_l13 F : Y117_1_l13) = c, (f117_1_l21 F : Y117_1_l21) = c, (f117_1_l31 F : Y117_1_l31) = c; as_aux_lemma => kernel_rfl
theorem S117_1_ok : So Tryz.prog 117 S117_1 :=
  fun F o ho => sOf (fn := Tryz.f117) (c := code117) (tab_cons (S21_1_ok F _ (noS_sound enter21)) (tab_cons (S25_1_ok F _ (noS_sound enter25)) (tab_cons (S104_1_ok F _ (noS_sound enter104)) (tab_cons (S113_1_ok F _ (noS_sound enter113)) (tab_cons (S114_1_ok F _ (noS_sound enter114)) (tab_cons (S115_1_ok F _ (noS_sound enter115)) (tab_cons (S124_1_ok F _ (noS_sound enter124)) (tab_cons (S143_1_ok F _ (noS_sound enter143)) (tab_cons (S170_1_ok F _ (noS_sound enter170)) (tab_cons (S171_1_ok F _ (noS_sound enter171)) tab_nil)))))))))) ho (by rw [loops117]; exact (loopsOK_cons (by kernel_rfl) (L117_1_4 F) (loopsOK_cons (by kernel_rfl) (L117_1_13 F) (loopsOK_cons (by kernel_rfl) (L117_1_21 F) (loopsOK_cons (by kernel_rfl) (L117_1_31 F) loopsOK_nil))))) snil rnil (E117_1 F)
end
section
noncomputable def f172_1_l3 {β : Type} (F : Nat) (v2 v3 v4 v5 : Int) (K0 : List Int → Option β) : Nat → Int → List Int → Option β
  | 0, _, _ => none
  | k + 1, v1, v6 => cond (decide (v1 < v2)) (cond (decide (v1 < 128)) (cond (decide ((v6.length + 1) * 8 ≤ 70368744177664)) (f172_1_l3 F v2 v3 v4 v5 K0 k (IntKind.i64.wrap (v1 + 1)) (v6 ++ [v1])) none) (K0 v6)) (K0 v6)
noncomputable def f172_1 {β : Type} (F : Nat) (a1 a2 a3 a4 : Int) (K0 : List Int → Option β) : Option β := f172_1_l3 F a1 a2 a3 a4 (fun x7 => K0 x7) F 0 []
variable [FZ]
def sh172_1 : Sh := ⟨[.agg [.int .i64, .int .i64, .int .i64, .int .i64]], []⟩
abbrev Y172_1 := Int → Int → Int → Int → (List Int → Option Res) → Option Res
noncomputable def A172_1 (g : Y172_1) (d : sh172_1.den) (K : KF) : Option Res := g d.1.1.1 d.1.1.2.1 d.1.1.2.2.1 d.1.1.2.2.2.1 (fun y0 => K [.lf (.full 0)] [some ⟨false, [.seq (.int .i64) 0 y0]⟩])
noncomputable def S172_1 (F : Nat) (o : Summ) : Summ := mkS sh172_1 (fun d K => A172_1 (f172_1 F) d K) o
noncomputable def code172 : Code := bodyOf Tryz.f172
noncomputable def b172_0 : Code := cB (cB (cR (cL (cR (cR (code172))))))
theorem loops172 : loopsOf code172 = [b172_0] := by kernel_rfl
theorem enter172 : En Tryz.prog 172 := enO (fn := Tryz.f172)
noncomputable def T172_1 (F : Nat) : FuncId → Option Summ := tab []
def sh172_1_l3 : Sh := ⟨[.lf (.ptr 0 0), .lf (.full 1), .lf (.int .i64)], [some ⟨some false, [.int .i64, .int .i64, .int .i64, .int .i64]⟩, some ⟨some false, [.seq (.int .i64) 0]⟩]⟩
abbrev Y172_1_l3 := Int → Int → Int → Int → (List Int → Option Res) → Nat → Int → List Int → Option Res
noncomputable def A172_1_l3 (g : Y172_1_l3) (k : Nat) (d : sh172_1_l3.den) (K : KL) : Option Res := g d.2.1.2.1 d.2.1.2.2.1 d.2.1.2.2.2.1 d.2.1.2.2.2.2.1 (fun y4 => K (.exit 0) [.tv (.lf (.full 1))] [some ⟨false, [.int .i64 d.2.1.2.1, .int .i64 d.2.1.2.2.1, .int .i64 d.2.1.2.2.2.1, .int .i64 d.2.1.2.2.2.2.1]⟩, some ⟨false, [.seq (.int .i64) 0 y4]⟩]) k d.1.2.2.1 d.2.2.1.2.1
noncomputable def G172_1_3 (F k : Nat) : LoopS := mkG sh172_1_l3 [1, 3, 4] (outT [(.exit 0, [3])]) (fun d K => A172_1_l3 (f172_1_l3 F) k d K) []
noncomputable def LT172_1 (F : Nat) : Nat → Option LoopS := ltab [(3, G172_1_3 F F)]
theorem L172_1_3 (F : Nat) : LoopOK Tryz.prog (T172_1 F) (xw []) 20 0 (LT172_1 F) (G172_1_3 F F) b172_0 :=
  loopOK_of (s := sh172_1_l3) (live := [1, 3, 4]) (out := (outT [(.exit 0, [3])])) (mv := []) (fun k d K => A172_1_l3 (f172_1_l3 F) k d K) F (fun d K => by kernel_rfl)  (fun k d K => by delta A172_1_l3; refine (f172_1_l3.eq_2 ..).trans ?_; delta T172_1 LT172_1; generalize (G172_1_3 F F) = c;  (try delta G172_1_3); generalize (f172_1_l3 F : Y172_1_l3) = c; as_aux_lemma => kernel_rfl)
theorem E172_1 (F : Nat) (d : sh172_1.den) (K : KF) : EB Tryz.prog (T172_1 F) (xw []) 20 0 (LT172_1 F) [] false Tryz.f172 sh172_1 d K = A172_1 (f172_1 F) d K := by delta A172_1 f172_1 T172_1 LT172_1;  delta G172_1_3; generalize (f172_1_l3 F : Y172_1_l3) = c; as_aux_lemma => kernel_rfl
theorem S172_1_ok : So Tryz.prog 172 S172_1 :=
  fun F o ho => sOf (fn := Tryz.f172) (c := code172) tab_nil ho (by rw [loops172]; exact (loopsOK_cons (by kernel_rfl) (L172_1_3 F) loopsOK_nil)) snil rnil (E172_1 F)
end
section
noncomputable def f118_1 {β : Type} (F : Nat) (a1 a2 a3 a4 a5 : Int) (a6 : Bool) (a7 : Int) (a8 : List ByteArray) (a9 : List (Int × ByteArray)) (K0 : ByteArray → Int → Int → Bool → Int → List ByteArray → List (Int × ByteArray) → Option β) : Option β := (fun z1 => amb z1 z1) (f172_1 F a1 a2 a3 a4 (fun x1 => f117_1 F a1 a2 a3 a4 a5 a6 a7 a8 a9 x1 (fun x2 x3 x4 x5 x6 x7 x8 => K0 x2 x3 x4 x5 x6 x7 x8) ) )
variable [FZ]
def sh118_1 : Sh := ⟨[.lf (.ptr 0 0), .agg [.int .i64, .int .i64, .int .i64, .int .i64]], [some ⟨some false, [.full 1, .full 2, .int .i64, .bool, .int .i64]⟩, some ⟨some false, [.seq .str 0]⟩, some ⟨some false, [.seq (.pair (.int .i64) .str) 0]⟩]⟩
abbrev Y118_1 := Int → Int → Int → Int → Int → Bool → Int → List ByteArray → List (Int × ByteArray) → (ByteArray → Int → Int → Bool → Int → List ByteArray → List (Int × ByteArray) → Option Res) → Option Res
noncomputable def A118_1 (g : Y118_1) (d : sh118_1.den) (K : KF) : Option Res := g d.1.2.1.1 d.1.2.1.2.1 d.1.2.1.2.2.1 d.1.2.1.2.2.2.1 d.2.1.2.2.2.1 d.2.1.2.2.2.2.1 d.2.1.2.2.2.2.2.1 d.2.2.1.2.1 d.2.2.2.1.2.1 (fun y0 y1 y2 y3 y4 y5 y6 => K [.lf (.str y0), .lf (.int .i64 y1)] [some ⟨false, [.full 1, .full 3, .int .i64 y2, .bool y3, .int .i64 y4]⟩, some ⟨false, [.seq .str 0 y5]⟩, none, some ⟨false, [.seq (.pair (.int .i64) .str) 0 y6]⟩])
noncomputable def S118_1 (F : Nat) (o : Summ) : Summ := mkS sh118_1 (fun d K => A118_1 (f118_1 F) d K) o
noncomputable def code118 : Code := bodyOf Tryz.f118
theorem enter118 : En Tryz.prog 118 := enO (fn := Tryz.f118)
noncomputable def T118_1 (F : Nat) : FuncId → Option Summ := tab [(117, (S117_1 F noS)), (172, (S172_1 F noS))]
noncomputable def LT118_1 (F : Nat) : Nat → Option LoopS := ltab []
theorem E118_1 (F : Nat) (d : sh118_1.den) (K : KF) : EB Tryz.prog (T118_1 F) (xw [1]) 13 3 (LT118_1 F) [2] false Tryz.f118 sh118_1 d K = A118_1 (f118_1 F) d K := by delta A118_1 f118_1 T118_1 S117_1 S172_1 LT118_1;  generalize (f117_1 F : Y117_1) = c, (f172_1 F : Y172_1) = c; as_aux_lemma => kernel_rfl
theorem S118_1_ok : So Tryz.prog 118 S118_1 :=
  fun F o ho => sOf (fn := Tryz.f118) (c := code118) (tab_cons (S117_1_ok F _ (noS_sound enter117)) (tab_cons (S172_1_ok F _ (noS_sound enter172)) tab_nil)) ho lnil snil rnil (E118_1 F)
end
section
noncomputable def f29_1 {β : Type} (F : Nat) (a1 a2 : Int) (a3 : Bool) (a4 : Int) (a5 : List ByteArray) (a6 : List (Int × ByteArray)) (K0 : Int → Option β) : Option β := K0 (if (-1) > a1 then (-1) else a1)
variable [FZ]
def sh29_1 : Sh := ⟨[.lf (.ptr 0 0), .lf (.int .i64)], [some ⟨some false, [.full 1, .full 2, .int .i64, .bool, .int .i64]⟩, some ⟨none, [.seq .str 0]⟩, some ⟨none, [.seq (.pair (.int .i64) .str) 0]⟩]⟩
abbrev Y29_1 := Int → Int → Bool → Int → List ByteArray → List (Int × ByteArray) → (Int → Option Res) → Option Res
noncomputable def A29_1 (g : Y29_1) (d : sh29_1.den) (K : KF) : Option Res := g d.1.2.1 d.2.1.2.2.2.1 d.2.1.2.2.2.2.1 d.2.1.2.2.2.2.2.1 d.2.2.1.2.1 d.2.2.2.1.2.1 (fun y0 => K [] [some ⟨false, [.full 1, .full 2, .int .i64 y0, .bool d.2.1.2.2.2.2.1, .int .i64 d.2.1.2.2.2.2.2.1]⟩, some ⟨d.2.2.1.1, [.seq .str 0 d.2.2.1.2.1]⟩, some ⟨d.2.2.2.1.1, [.seq (.pair (.int .i64) .str) 0 d.2.2.2.1.2.1]⟩])
noncomputable def S29_1 (F : Nat) (o : Summ) : Summ := mkS sh29_1 (fun d K => A29_1 (f29_1 F) d K) o
noncomputable def code29 : Code := bodyOf Tryz.f29
theorem enter29 : En Tryz.prog 29 := enO (fn := Tryz.f29)
noncomputable def T29_1 (F : Nat) : FuncId → Option Summ := tab []
noncomputable def LT29_1 (F : Nat) : Nat → Option LoopS := ltab []
theorem E29_1 (F : Nat) (d : sh29_1.den) (K : KF) : EB Tryz.prog (T29_1 F) (xw []) 11 3 (LT29_1 F) [] false Tryz.f29 sh29_1 d K = A29_1 (f29_1 F) d K := by delta A29_1 f29_1 T29_1 LT29_1;   as_aux_lemma => kernel_rfl
theorem S29_1_ok : So Tryz.prog 29 S29_1 :=
  fun F o ho => sOf (fn := Tryz.f29) (c := code29) tab_nil ho lnil snil rnil (E29_1 F)
end
section
noncomputable def f32_1_l2 {β : Type} (F : Nat) (v1 v3 : Int) (v4 : Bool) (v5 : Int) (v7 : List (Int × ByteArray)) (v8 : List Bool) (K0 : List ByteArray → Option β) : Nat → Int → List ByteArray → Option β
  | 0, _, _ => none
  | k + 1, v2, v6 => cond (decide (v2 < v1)) (cond (decide ((0 : Int) ≤ v2 ∧ v2 < ((v7.length : Nat) : Int))) (cond (decide (0 + v2.toNat < v7.length)) (cond (decide (v2 < ((v8.length : Nat) : Int))) (cond (decide ((0 : Int) ≤ v2 ∧ v2 < ((v8.length : Nat) : Int))) (cond (decide (0 + v2.toNat < v8.length)) (cond (v8.getD (0 + v2.toNat) false) (cond (decide ((0 : Int) ≤ (v7.getD (0 + v2.toNat) (0, ByteArray.empty)).1 ∧ (v7.getD (0 + v2.toNat) (0, ByteArray.empty)).1 < ((v6.length : Nat) : Int))) (cond (decide (0 + (((v7.getD (0 + v2.toNat) (0, ByteArray.empty)).1).toNat) < v6.length)) (f32_1_l2 F v1 v3 v4 v5 v7 v8 K0 k (IntKind.i64.wrap (v2 + 1)) (v6.set (0 + (((v7.getD (0 + v2.toNat) (0, ByteArray.empty)).1).toNat)) ((v7.getD (0 + v2.toNat) (0, ByteArray.empty)).2))) none) none) (f32_1_l2 F v1 v3 v4 v5 v7 v8 K0 k (IntKind.i64.wrap (v2 + 1)) v6)) none) none) (f32_1_l2 F v1 v3 v4 v5 v7 v8 K0 k (IntKind.i64.wrap (v2 + 1)) v6)) none) none) (K0 v6)
noncomputable def f32_1 {β : Type} (F : Nat) (a1 : Int) (a2 : Bool) (a3 : Int) (a4 : List ByteArray) (a5 : List (Int × ByteArray)) (a6 : List Bool) (K0 : List ByteArray → List (Int × ByteArray) → Option β) : Option β := f32_1_l2 F ((a5.length : Nat) : Int) a1 a2 a3 a5 a6 (fun x9 => K0 x9 []) F 0 a4
variable [FZ]
def sh32_1 : Sh := ⟨[.lf (.ptr 0 0), .lf (.full 3)], [some ⟨some false, [.full 1, .full 2, .int .i64, .bool, .int .i64]⟩, some ⟨some false, [.seq .str 0]⟩, some ⟨none, [.seq (.pair (.int .i64) .str) 0]⟩, some ⟨none, [.seq .bool 0]⟩]⟩
abbrev Y32_1 := Int → Bool → Int → List ByteArray → List (Int × ByteArray) → List Bool → (List ByteArray → List (Int × ByteArray) → Option Res) → Option Res
noncomputable def A32_1 (g : Y32_1) (d : sh32_1.den) (K : KF) : Option Res := g d.2.1.2.2.2.1 d.2.1.2.2.2.2.1 d.2.1.2.2.2.2.2.1 d.2.2.1.2.1 d.2.2.2.1.2.1 d.2.2.2.2.1.2.1 (fun y3 y5 => K [] [some ⟨false, [.full 1, .full 4, .int .i64 (-1), .bool true, .int .i64 d.2.1.2.2.2.2.2.1]⟩, some ⟨false, [.seq .str 0 y3]⟩, none, some ⟨d.2.2.2.2.1.1, [.seq .bool 0 d.2.2.2.2.1.2.1]⟩, some ⟨false, [.seq (.pair (.int .i64) .str) 0 y5]⟩])
noncomputable def S32_1 (F : Nat) (o : Summ) : Summ := mkS sh32_1 (fun d K => A32_1 (f32_1 F) d K) o
noncomputable def code32 : Code := bodyOf Tryz.f32
noncomputable def b32_0 : Code := cB (cB (cR (cL (cR (code32)))))
theorem loops32 : loopsOf code32 = [b32_0] := by kernel_rfl
theorem enter32 : En Tryz.prog 32 := enO (fn := Tryz.f32)
noncomputable def T32_1 (F : Nat) : FuncId → Option Summ := tab []
def sh32_1_l2 : Sh := ⟨[.lf (.ptr 0 0), .lf (.full 3), .lf (.full 2), .lf (.int .i64), .lf (.int .i64)], [some ⟨some false, [.full 1, .full 2, .int .i64, .bool, .int .i64]⟩, some ⟨some false, [.seq .str 0]⟩, some ⟨none, [.seq (.pair (.int .i64) .str) 0]⟩, some ⟨none, [.seq .bool 0]⟩]⟩
abbrev Y32_1_l2 := Int → Int → Bool → Int → List (Int × ByteArray) → List Bool → (List ByteArray → Option Res) → Nat → Int → List ByteArray → Option Res
noncomputable def A32_1_l2 (g : Y32_1_l2) (k : Nat) (d : sh32_1_l2.den) (K : KL) : Option Res := g d.1.2.2.2.1 d.2.1.2.2.2.1 d.2.1.2.2.2.2.1 d.2.1.2.2.2.2.2.1 d.2.2.2.1.2.1 d.2.2.2.2.1.2.1 (fun y3 => K (.exit 0) [.tv (.lf (.ptr 0 0))] [some ⟨false, [.full 1, .full 2, .int .i64 d.2.1.2.2.2.1, .bool d.2.1.2.2.2.2.1, .int .i64 d.2.1.2.2.2.2.2.1]⟩, some ⟨false, [.seq .str 0 y3]⟩, some ⟨d.2.2.2.1.1, [.seq (.pair (.int .i64) .str) 0 d.2.2.2.1.2.1]⟩, some ⟨d.2.2.2.2.1.1, [.seq .bool 0 d.2.2.2.2.1.2.1]⟩]) k d.1.2.2.2.2.1 d.2.2.1.2.1
noncomputable def G32_1_2 (F k : Nat) : LoopS := mkG sh32_1_l2 [0, 1, 11, 12, 13] (outT [(.exit 0, [0])]) (fun d K => A32_1_l2 (f32_1_l2 F) k d K) []
noncomputable def LT32_1 (F : Nat) : Nat → Option LoopS := ltab [(2, G32_1_2 F F)]
theorem L32_1_2 (F : Nat) : LoopOK Tryz.prog (T32_1 F) (xw []) 47 4 (LT32_1 F) (G32_1_2 F F) b32_0 :=
  loopOK_of (s := sh32_1_l2) (live := [0, 1, 11, 12, 13]) (out := (outT [(.exit 0, [0])])) (mv := []) (fun k d K => A32_1_l2 (f32_1_l2 F) k d K) F (fun d K => by kernel_rfl)  (fun k d K => by delta A32_1_l2; refine (f32_1_l2.eq_2 ..).trans ?_; delta T32_1 LT32_1; generalize (G32_1_2 F F) = c;  (try delta G32_1_2); generalize (f32_1_l2 F : Y32_1_l2) = c; as_aux_lemma => kernel_rfl)
theorem E32_1 (F : Nat) (d : sh32_1.den) (K : KF) : EB Tryz.prog (T32_1 F) (xw []) 47 4 (LT32_1 F) [2] false Tryz.f32 sh32_1 d K = A32_1 (f32_1 F) d K := by delta A32_1 f32_1 T32_1 LT32_1;  delta G32_1_2; generalize (f32_1_l2 F : Y32_1_l2) = c; as_aux_lemma => kernel_rfl
theorem S32_1_ok : So Tryz.prog 32 S32_1 :=
  fun F o ho => sOf (fn := Tryz.f32) (c := code32) tab_nil ho (by rw [loops32]; exact (loopsOK_cons (by kernel_rfl) (L32_1_2 F) loopsOK_nil)) snil rnil (E32_1 F)
end
section
noncomputable def f33_1 {β : Type} (F : Nat) (a1 : Int) (a2 : Bool) (a3 : Int) (a4 : List ByteArray) (a5 : List (Int × ByteArray)) (K0 : Int → Int → Bool → List (Int × ByteArray) → Option β) : Option β := cond (!a2) (K0 21 a1 a2 a5) (K0 0 (-1) false [])
variable [FZ]
def sh33_1 : Sh := ⟨[.lf (.ptr 0 0)], [some ⟨some false, [.full 1, .full 2, .int .i64, .bool, .int .i64]⟩, some ⟨none, [.seq .str 0]⟩, some ⟨some false, [.seq (.pair (.int .i64) .str) 0]⟩]⟩
abbrev Y33_1 := Int → Bool → Int → List ByteArray → List (Int × ByteArray) → (Int → Int → Bool → List (Int × ByteArray) → Option Res) → Option Res
noncomputable def A33_1 (g : Y33_1) (d : sh33_1.den) (K : KF) : Option Res := g d.2.1.2.2.2.1 d.2.1.2.2.2.2.1 d.2.1.2.2.2.2.2.1 d.2.2.1.2.1 d.2.2.2.1.2.1 (fun y0 y1 y2 y5 => K [.lf (.int .i64 y0)] [some ⟨false, [.full 1, .full 3, .int .i64 y1, .bool y2, .int .i64 d.2.1.2.2.2.2.2.1]⟩, some ⟨d.2.2.1.1, [.seq .str 0 d.2.2.1.2.1]⟩, none, some ⟨false, [.seq (.pair (.int .i64) .str) 0 y5]⟩])
noncomputable def S33_1 (F : Nat) (o : Summ) : Summ := mkS sh33_1 (fun d K => A33_1 (f33_1 F) d K) o
noncomputable def code33 : Code := bodyOf Tryz.f33
theorem enter33 : En Tryz.prog 33 := enO (fn := Tryz.f33)
noncomputable def T33_1 (F : Nat) : FuncId → Option Summ := tab []
noncomputable def LT33_1 (F : Nat) : Nat → Option LoopS := ltab []
theorem E33_1 (F : Nat) (d : sh33_1.den) (K : KF) : EB Tryz.prog (T33_1 F) (xw []) 21 3 (LT33_1 F) [2] false Tryz.f33 sh33_1 d K = A33_1 (f33_1 F) d K := by delta A33_1 f33_1 T33_1 LT33_1;   as_aux_lemma => kernel_rfl
theorem S33_1_ok : So Tryz.prog 33 S33_1 :=
  fun F o ho => sOf (fn := Tryz.f33) (c := code33) tab_nil ho lnil snil rnil (E33_1 F)
end
section
noncomputable def f43_1_l5 {β : Type} (F : Nat) (v3 v5 : Int) (v6 : Bool) (v7 : Int) (v8 : List ByteArray) (v9 : List (Int × ByteArray)) (v10 v11 v12 v13 : Int) (K0 : Int → List ByteArray → Option β) (K1 : List ByteArray → Option β) : Nat → Int → List ByteArray → Option β
  | 0, _, _ => none
  | k + 1, v4, v14 => cond (decide (v4 < v3)) (f103_1 F v10 v11 v12 v13 v4 v5 v6 v7 v8 v9 (fun x15 x16 => cond (x16 != 0) (K0 x16 v14) (cond (decide ((v14.length + 1) * 16 ≤ 70368744177664)) (f43_1_l5 F v3 v5 v6 v7 v8 v9 v10 v11 v12 v13 K0 K1 k (IntKind.i64.wrap (v4 + 1)) (v14 ++ [x15])) none)) ) (K1 v14)
noncomputable def f43_1 {β : Type} (F : Nat) (a1 a2 a3 a4 a5 : Int) (a6 : Bool) (a7 : Int) (a8 : List ByteArray) (a9 : List (Int × ByteArray)) (K0 : Int → List ByteArray → Option β) : Option β := f90_1 F a1 a2 a3 a4 (fun x1 => cond (!x1) (K0 12 []) (f111_1 F a1 a2 a3 a4 (fun x2 => f43_1_l5 F x2 a5 a6 a7 a8 a9 a1 a2 a3 a4 (fun x17 x18 => K0 x17 []) (fun x19 => K0 0 x19) F 0 []) )) 
variable [FZ]
def sh43_1 : Sh := ⟨[.lf (.ptr 0 0), .agg [.int .i64, .int .i64, .int .i64, .int .i64]], [some ⟨none, [.full 1, .full 2, .int .i64, .bool, .int .i64]⟩, some ⟨none, [.seq .str 0]⟩, some ⟨none, [.seq (.pair (.int .i64) .str) 0]⟩]⟩
abbrev Y43_1 := Int → Int → Int → Int → Int → Bool → Int → List ByteArray → List (Int × ByteArray) → (Int → List ByteArray → Option Res) → Option Res
noncomputable def A43_1 (g : Y43_1) (d : sh43_1.den) (K : KF) : Option Res := g d.1.2.1.1 d.1.2.1.2.1 d.1.2.1.2.2.1 d.1.2.1.2.2.2.1 d.2.1.2.2.2.1 d.2.1.2.2.2.2.1 d.2.1.2.2.2.2.2.1 d.2.2.1.2.1 d.2.2.2.1.2.1 (fun y0 y6 => K [.lf (.full 3), .lf (.int .i64 y0)] [some ⟨d.2.1.1, [.full 1, .full 2, .int .i64 d.2.1.2.2.2.1, .bool d.2.1.2.2.2.2.1, .int .i64 d.2.1.2.2.2.2.2.1]⟩, some ⟨d.2.2.1.1, [.seq .str 0 d.2.2.1.2.1]⟩, some ⟨d.2.2.2.1.1, [.seq (.pair (.int .i64) .str) 0 d.2.2.2.1.2.1]⟩, some ⟨false, [.seq .str 0 y6]⟩])
noncomputable def S43_1 (F : Nat) (o : Summ) : Summ := mkS sh43_1 (fun d K => A43_1 (f43_1 F) d K) o
noncomputable def code43 : Code := bodyOf Tryz.f43
noncomputable def b43_0 : Code := cB (cB (cR (cL (cR (cR (cR (code43)))))))
theorem loops43 : loopsOf code43 = [b43_0] := by kernel_rfl
theorem enter43 : En Tryz.prog 43 := enO (fn := Tryz.f43)
noncomputable def T43_1 (F : Nat) : FuncId → Option Summ := tab [(90, (S90_1 F noS)), (103, (S103_1 F noS)), (111, (S111_1 F noS))]
def sh43_1_l5 : Sh := ⟨[.lf (.ptr 0 0), .lf (.ptr 3 0), .lf (.full 4), .lf (.int .i64), .lf (.int .i64)], [some ⟨none, [.full 1, .full 2, .int .i64, .bool, .int .i64]⟩, some ⟨none, [.seq .str 0]⟩, some ⟨none, [.seq (.pair (.int .i64) .str) 0]⟩, some ⟨some false, [.int .i64, .int .i64, .int .i64, .int .i64]⟩, some ⟨some false, [.seq .str 0]⟩]⟩
abbrev Y43_1_l5 := Int → Int → Bool → Int → List ByteArray → List (Int × ByteArray) → Int → Int → Int → Int → (Int → List ByteArray → Option Res) → (List ByteArray → Option Res) → Nat → Int → List ByteArray → Option Res
noncomputable def A43_1_l5 (g : Y43_1_l5) (k : Nat) (d : sh43_1_l5.den) (K : KL) : Option Res := g d.1.2.2.2.1 d.2.1.2.2.2.1 d.2.1.2.2.2.2.1 d.2.1.2.2.2.2.2.1 d.2.2.1.2.1 d.2.2.2.1.2.1 d.2.2.2.2.1.2.1 d.2.2.2.2.1.2.2.1 d.2.2.2.2.1.2.2.2.1 d.2.2.2.2.1.2.2.2.2.1 (fun y0 y10 => K .ret [.tv (.lf (.nils (some .str))), .tv (.lf (.int .i64 y0))] [some ⟨d.2.1.1, [.full 1, .full 2, .int .i64 d.2.1.2.2.2.1, .bool d.2.1.2.2.2.2.1, .int .i64 d.2.1.2.2.2.2.2.1]⟩, some ⟨d.2.2.1.1, [.seq .str 0 d.2.2.1.2.1]⟩, some ⟨d.2.2.2.1.1, [.seq (.pair (.int .i64) .str) 0 d.2.2.2.1.2.1]⟩, some ⟨false, [.int .i64 d.2.2.2.2.1.2.1, .int .i64 d.2.2.2.2.1.2.2.1, .int .i64 d.2.2.2.2.1.2.2.2.1, .int .i64 d.2.2.2.2.1.2.2.2.2.1]⟩, some ⟨false, [.seq .str 0 y10]⟩]) (fun y9 => K (.exit 0) [.tv (.lf (.full 4))] [some ⟨d.2.1.1, [.full 1, .full 2, .int .i64 d.2.1.2.2.2.1, .bool d.2.1.2.2.2.2.1, .int .i64 d.2.1.2.2.2.2.2.1]⟩, some ⟨d.2.2.1.1, [.seq .str 0 d.2.2.1.2.1]⟩, some ⟨d.2.2.2.1.1, [.seq (.pair (.int .i64) .str) 0 d.2.2.2.1.2.1]⟩, some ⟨false, [.int .i64 d.2.2.2.2.1.2.1, .int .i64 d.2.2.2.2.1.2.2.1, .int .i64 d.2.2.2.2.1.2.2.2.1, .int .i64 d.2.2.2.2.1.2.2.2.2.1]⟩, some ⟨false, [.seq .str 0 y9]⟩]) k d.1.2.2.2.2.1 d.2.2.2.2.2.1.2.1
noncomputable def G43_1_5 (F k : Nat) : LoopS := mkG sh43_1_l5 [0, 3, 6, 14, 15] (outT [(.exit 0, [6]), (.ret, [4, 5])]) (fun d K => A43_1_l5 (f43_1_l5 F) k d K) []
noncomputable def LT43_1 (F : Nat) : Nat → Option LoopS := ltab [(5, G43_1_5 F F)]
theorem L43_1_5 (F : Nat) : LoopOK Tryz.prog (T43_1 F) (xw []) 34 3 (LT43_1 F) (G43_1_5 F F) b43_0 :=
  loopOK_of (s := sh43_1_l5) (live := [0, 3, 6, 14, 15]) (out := (outT [(.exit 0, [6]), (.ret, [4, 5])])) (mv := []) (fun k d K => A43_1_l5 (f43_1_l5 F) k d K) F (fun d K => by kernel_rfl)  (fun k d K => by delta A43_1_l5; refine (f43_1_l5.eq_2 ..).trans ?_; delta T43_1 S90_1 S103_1 S111_1 LT43_1; generalize (G43_1_5 F F) = c;  (try delta G43_1_5); generalize (f90_1 F : Y90_1) = c, (f103_1 F : Y103_1) = c, (f111_1 F : Y111_1) = c, (f43_1_l5 F : Y43_1_l5) = c; as_aux_lemma => kernel_rfl)
theorem E43_1 (F : Nat) (d : sh43_1.den) (K : KF) : EB Tryz.prog (T43_1 F) (xw []) 34 3 (LT43_1 F) [] false Tryz.f43 sh43_1 d K = A43_1 (f43_1 F) d K := by delta A43_1 f43_1 T43_1 S90_1 S103_1 S111_1 LT43_1;  delta G43_1_5; generalize (f90_1 F : Y90_1) = c, (f103_1 F : Y103_1) = c, (f111_1 F : Y111_1) = c, (f43_1_l5 F : Y43_1_l5) = c; as_aux_lemma => kernel_rfl
theorem S43_1_ok : So Tryz.prog 43 S43_1 :=
  fun F o ho => sOf (fn := Tryz.f43) (c := code43) (tab_cons (S90_1_ok F _ (noS_sound enter90)) (tab_cons (S103_1_ok F _ (noS_sound enter103)) (tab_cons (S111_1_ok F _ (noS_sound enter111)) tab_nil))) ho (by rw [loops43]; exact (loopsOK_cons (by kernel_rfl) (L43_1_5 F) loopsOK_nil)) snil rnil (E43_1 F)
end
section
noncomputable def f45_1_l4 {β : Type} (F : Nat) (v2 v3 : List ByteArray) (K0 K1 : Option β) : Nat → Int → Option β
  | 0, _ => none
  | k + 1, v1 => cond (decide (v1 < ((v2.length : Nat) : Int))) (cond (decide ((0 : Int) ≤ v1 ∧ v1 < ((v2.length : Nat) : Int))) (cond (decide (0 + v1.toNat < v2.length)) (cond (decide ((0 : Int) ≤ v1 ∧ v1 < ((v3.length : Nat) : Int))) (cond (decide (0 + v1.toNat < v3.length)) (cond (!((v2.getD (0 + v1.toNat) ByteArray.empty).toList == (v3.getD (0 + v1.toNat) ByteArray.empty).toList)) (K0) (f45_1_l4 F v2 v3 K0 K1 k (IntKind.i64.wrap (v1 + 1)))) none) none) none) none) (K1)
noncomputable def f45_1 {β : Type} (F : Nat) (a1 a2 : List ByteArray) (K0 : Bool → Option β) : Option β := cond (((a1.length : Nat) : Int) != ((a2.length : Nat) : Int)) (K0 false) (f45_1_l4 F a1 a2 (K0 false) (K0 true) F 0)
variable [FZ]
def sh45_1 : Sh := ⟨[.lf (.full 0), .lf (.full 1)], [some ⟨none, [.seq .str 0]⟩, some ⟨none, [.seq .str 0]⟩]⟩
abbrev Y45_1 := List ByteArray → List ByteArray → (Bool → Option Res) → Option Res
noncomputable def A45_1 (g : Y45_1) (d : sh45_1.den) (K : KF) : Option Res := g d.2.1.2.1 d.2.2.1.2.1 (fun y0 => K [.lf (.bool y0)] [some ⟨d.2.1.1, [.seq .str 0 d.2.1.2.1]⟩, some ⟨d.2.2.1.1, [.seq .str 0 d.2.2.1.2.1]⟩])
noncomputable def S45_1 (F : Nat) (o : Summ) : Summ := mkS sh45_1 (fun d K => A45_1 (f45_1 F) d K) o
noncomputable def code45 : Code := bodyOf Tryz.f45
noncomputable def b45_0 : Code := cB (cB (cR (cL (cR (cR (code45))))))
theorem loops45 : loopsOf code45 = [b45_0] := by kernel_rfl
theorem enter45 : En Tryz.prog 45 := enO (fn := Tryz.f45)
noncomputable def T45_1 (F : Nat) : FuncId → Option Summ := tab []
def sh45_1_l4 : Sh := ⟨[.lf (.full 0), .lf (.full 1), .lf (.int .i64)], [some ⟨none, [.seq .str 0]⟩, some ⟨none, [.seq .str 0]⟩]⟩
abbrev Y45_1_l4 := List ByteArray → List ByteArray → (Option Res) → (Option Res) → Nat → Int → Option Res
noncomputable def A45_1_l4 (g : Y45_1_l4) (k : Nat) (d : sh45_1_l4.den) (K : KL) : Option Res := g d.2.1.2.1 d.2.2.1.2.1 (K .ret [.tv (.lf (.bool false))] [some ⟨d.2.1.1, [.seq .str 0 d.2.1.2.1]⟩, some ⟨d.2.2.1.1, [.seq .str 0 d.2.2.1.2.1]⟩]) (K (.exit 0) [] [some ⟨d.2.1.1, [.seq .str 0 d.2.1.2.1]⟩, some ⟨d.2.2.1.1, [.seq .str 0 d.2.2.1.2.1]⟩]) k d.1.2.2.1
noncomputable def G45_1_4 (F k : Nat) : LoopS := mkG sh45_1_l4 [0, 1, 5] (outT [(.exit 0, []), (.ret, [4])]) (fun d K => A45_1_l4 (f45_1_l4 F) k d K) []
noncomputable def LT45_1 (F : Nat) : Nat → Option LoopS := ltab [(4, G45_1_4 F F)]
theorem L45_1_4 (F : Nat) : LoopOK Tryz.prog (T45_1 F) (xw []) 26 2 (LT45_1 F) (G45_1_4 F F) b45_0 :=
  loopOK_of (s := sh45_1_l4) (live := [0, 1, 5]) (out := (outT [(.exit 0, []), (.ret, [4])])) (mv := []) (fun k d K => A45_1_l4 (f45_1_l4 F) k d K) F (fun d K => by kernel_rfl)  (fun k d K => by delta A45_1_l4; refine (f45_1_l4.eq_2 ..).trans ?_; delta T45_1 LT45_1; generalize (G45_1_4 F F) = c;  (try delta G45_1_4); generalize (f45_1_l4 F : Y45_1_l4) = c; as_aux_lemma => kernel_rfl)
theorem E45_1 (F : Nat) (d : sh45_1.den) (K : KF) : EB Tryz.prog (T45_1 F) (xw []) 26 2 (LT45_1 F) [] false Tryz.f45 sh45_1 d K = A45_1 (f45_1 F) d K := by delta A45_1 f45_1 T45_1 LT45_1;  delta G45_1_4; generalize (f45_1_l4 F : Y45_1_l4) = c; as_aux_lemma => kernel_rfl
theorem S45_1_ok : So Tryz.prog 45 S45_1 :=
  fun F o ho => sOf (fn := Tryz.f45) (c := code45) tab_nil ho (by rw [loops45]; exact (loopsOK_cons (by kernel_rfl) (L45_1_4 F) loopsOK_nil)) snil rnil (E45_1 F)
end
section
noncomputable def f64_1_l1 {β : Type} (F : Nat) (v2 : Int) (v3 : Bool) (v4 : Int) (v6 : List (Int × ByteArray)) (v7 : List Bool) (K0 : List ByteArray → Option β) : Nat → Int → List ByteArray → Option β
  | 0, _, _ => none
  | k + 1, v1, v5 => cond (decide (v1 < ((v6.length : Nat) : Int))) (cond (decide (v1 < ((v7.length : Nat) : Int))) (cond (decide ((0 : Int) ≤ v1 ∧ v1 < ((v6.length : Nat) : Int))) (cond (decide (0 + v1.toNat < v6.length)) (cond (decide ((0 : Int) ≤ v1 ∧ v1 < ((v7.length : Nat) : Int))) (cond (decide (0 + v1.toNat < v7.length)) (cond (v7.getD (0 + v1.toNat) false) (cond (decide ((0 : Int) ≤ (v6.getD (0 + v1.toNat) (0, ByteArray.empty)).1 ∧ (v6.getD (0 + v1.toNat) (0, ByteArray.empty)).1 < ((v5.length : Nat) : Int))) (cond (decide (0 + (((v6.getD (0 + v1.toNat) (0, ByteArray.empty)).1).toNat) < v5.length)) (f64_1_l1 F v2 v3 v4 v6 v7 K0 k (IntKind.i64.wrap (v1 + 1)) (v5.set (0 + (((v6.getD (0 + v1.toNat) (0, ByteArray.empty)).1).toNat)) ((v6.getD (0 + v1.toNat) (0, ByteArray.empty)).2))) none) none) (f64_1_l1 F v2 v3 v4 v6 v7 K0 k (IntKind.i64.wrap (v1 + 1)) v5)) none) none) none) none) (K0 v5)) (K0 v5)
noncomputable def f64_1 {β : Type} (F : Nat) (a1 : Int) (a2 : Bool) (a3 : Int) (a4 : List ByteArray) (a5 : List (Int × ByteArray)) (a6 : List Bool) (K0 : List ByteArray → List (Int × ByteArray) → Option β) : Option β := f64_1_l1 F a1 a2 a3 a5 a6 (fun x8 => K0 x8 []) F 0 a4
variable [FZ]
def sh64_1 : Sh := ⟨[.lf (.ptr 0 0), .lf (.full 3)], [some ⟨some false, [.full 1, .full 2, .int .i64, .bool, .int .i64]⟩, some ⟨some false, [.seq .str 0]⟩, some ⟨none, [.seq (.pair (.int .i64) .str) 0]⟩, some ⟨none, [.seq .bool 0]⟩]⟩
abbrev Y64_1 := Int → Bool → Int → List ByteArray → List (Int × ByteArray) → List Bool → (List ByteArray → List (Int × ByteArray) → Option Res) → Option Res
noncomputable def A64_1 (g : Y64_1) (d : sh64_1.den) (K : KF) : Option Res := g d.2.1.2.2.2.1 d.2.1.2.2.2.2.1 d.2.1.2.2.2.2.2.1 d.2.2.1.2.1 d.2.2.2.1.2.1 d.2.2.2.2.1.2.1 (fun y3 y5 => K [] [some ⟨false, [.full 1, .full 4, .int .i64 (-1), .bool true, .int .i64 d.2.1.2.2.2.2.2.1]⟩, some ⟨false, [.seq .str 0 y3]⟩, none, some ⟨d.2.2.2.2.1.1, [.seq .bool 0 d.2.2.2.2.1.2.1]⟩, some ⟨false, [.seq (.pair (.int .i64) .str) 0 y5]⟩])
noncomputable def S64_1 (F : Nat) (o : Summ) : Summ := mkS sh64_1 (fun d K => A64_1 (f64_1 F) d K) o
noncomputable def code64 : Code := bodyOf Tryz.f64
noncomputable def b64_0 : Code := cB (cB (cR (cL (code64))))
theorem loops64 : loopsOf code64 = [b64_0] := by kernel_rfl
theorem enter64 : En Tryz.prog 64 := enO (fn := Tryz.f64)
noncomputable def T64_1 (F : Nat) : FuncId → Option Summ := tab []
def sh64_1_l1 : Sh := ⟨[.lf (.ptr 0 0), .lf (.full 3), .lf (.int .i64)], [some ⟨some false, [.full 1, .full 2, .int .i64, .bool, .int .i64]⟩, some ⟨some false, [.seq .str 0]⟩, some ⟨none, [.seq (.pair (.int .i64) .str) 0]⟩, some ⟨none, [.seq .bool 0]⟩]⟩
abbrev Y64_1_l1 := Int → Bool → Int → List (Int × ByteArray) → List Bool → (List ByteArray → Option Res) → Nat → Int → List ByteArray → Option Res
noncomputable def A64_1_l1 (g : Y64_1_l1) (k : Nat) (d : sh64_1_l1.den) (K : KL) : Option Res := g d.2.1.2.2.2.1 d.2.1.2.2.2.2.1 d.2.1.2.2.2.2.2.1 d.2.2.2.1.2.1 d.2.2.2.2.1.2.1 (fun y3 => K (.exit 0) [.tv (.lf (.ptr 0 0))] [some ⟨false, [.full 1, .full 2, .int .i64 d.2.1.2.2.2.1, .bool d.2.1.2.2.2.2.1, .int .i64 d.2.1.2.2.2.2.2.1]⟩, some ⟨false, [.seq .str 0 y3]⟩, some ⟨d.2.2.2.1.1, [.seq (.pair (.int .i64) .str) 0 d.2.2.2.1.2.1]⟩, some ⟨d.2.2.2.2.1.1, [.seq .bool 0 d.2.2.2.2.1.2.1]⟩]) k d.1.2.2.1 d.2.2.1.2.1
noncomputable def G64_1_1 (F k : Nat) : LoopS := mkG sh64_1_l1 [0, 1, 4] (outT [(.exit 0, [0])]) (fun d K => A64_1_l1 (f64_1_l1 F) k d K) []
noncomputable def LT64_1 (F : Nat) : Nat → Option LoopS := ltab [(1, G64_1_1 F F)]
theorem L64_1_1 (F : Nat) : LoopOK Tryz.prog (T64_1 F) (xw []) 50 4 (LT64_1 F) (G64_1_1 F F) b64_0 :=
  loopOK_of (s := sh64_1_l1) (live := [0, 1, 4]) (out := (outT [(.exit 0, [0])])) (mv := []) (fun k d K => A64_1_l1 (f64_1_l1 F) k d K) F (fun d K => by kernel_rfl)  (fun k d K => by delta A64_1_l1; refine (f64_1_l1.eq_2 ..).trans ?_; delta T64_1 LT64_1; generalize (G64_1_1 F F) = c;  (try delta G64_1_1); generalize (f64_1_l1 F : Y64_1_l1) = c; as_aux_lemma => kernel_rfl)
theorem E64_1 (F : Nat) (d : sh64_1.den) (K : KF) : EB Tryz.prog (T64_1 F) (xw []) 50 4 (LT64_1 F) [2] false Tryz.f64 sh64_1 d K = A64_1 (f64_1 F) d K := by delta A64_1 f64_1 T64_1 LT64_1;  delta G64_1_1; generalize (f64_1_l1 F : Y64_1_l1) = c; as_aux_lemma => kernel_rfl
theorem S64_1_ok : So Tryz.prog 64 S64_1 :=
  fun F o ho => sOf (fn := Tryz.f64) (c := code64) tab_nil ho (by rw [loops64]; exact (loopsOK_cons (by kernel_rfl) (L64_1_1 F) loopsOK_nil)) snil rnil (E64_1 F)
end
section
noncomputable def f75_1 {β : Type} (F : Nat) (a1 a2 : Int) (a3 : Bool) (a4 : Int) (a5 : List ByteArray) (a6 : List (Int × ByteArray)) (K0 : Int → Option β) : Option β := K0 (if (-1) > a1 then (-1) else a1)
variable [FZ]
def sh75_1 : Sh := ⟨[.lf (.ptr 0 0), .lf (.int .i64)], [some ⟨some false, [.full 1, .full 2, .int .i64, .bool, .int .i64]⟩, some ⟨none, [.seq .str 0]⟩, some ⟨none, [.seq (.pair (.int .i64) .str) 0]⟩]⟩
abbrev Y75_1 := Int → Int → Bool → Int → List ByteArray → List (Int × ByteArray) → (Int → Option Res) → Option Res
noncomputable def A75_1 (g : Y75_1) (d : sh75_1.den) (K : KF) : Option Res := g d.1.2.1 d.2.1.2.2.2.1 d.2.1.2.2.2.2.1 d.2.1.2.2.2.2.2.1 d.2.2.1.2.1 d.2.2.2.1.2.1 (fun y0 => K [] [some ⟨false, [.full 1, .full 2, .int .i64 y0, .bool d.2.1.2.2.2.2.1, .int .i64 d.2.1.2.2.2.2.2.1]⟩, some ⟨d.2.2.1.1, [.seq .str 0 d.2.2.1.2.1]⟩, some ⟨d.2.2.2.1.1, [.seq (.pair (.int .i64) .str) 0 d.2.2.2.1.2.1]⟩])
noncomputable def S75_1 (F : Nat) (o : Summ) : Summ := mkS sh75_1 (fun d K => A75_1 (f75_1 F) d K) o
noncomputable def code75 : Code := bodyOf Tryz.f75
theorem enter75 : En Tryz.prog 75 := enO (fn := Tryz.f75)
noncomputable def T75_1 (F : Nat) : FuncId → Option Summ := tab []
noncomputable def LT75_1 (F : Nat) : Nat → Option LoopS := ltab []
theorem E75_1 (F : Nat) (d : sh75_1.den) (K : KF) : EB Tryz.prog (T75_1 F) (xw []) 9 3 (LT75_1 F) [] false Tryz.f75 sh75_1 d K = A75_1 (f75_1 F) d K := by delta A75_1 f75_1 T75_1 LT75_1;   as_aux_lemma => kernel_rfl
theorem S75_1_ok : So Tryz.prog 75 S75_1 :=
  fun F o ho => sOf (fn := Tryz.f75) (c := code75) tab_nil ho lnil snil rnil (E75_1 F)
end
section
noncomputable def f76_1 {β : Type} (F : Nat) (a1 : Int) (a2 : Bool) (a3 : Int) (a4 : List ByteArray) (a5 : List (Int × ByteArray)) (K0 : Int → Int → Bool → List (Int × ByteArray) → Option β) : Option β := cond (!a2) (K0 21 a1 a2 a5) (K0 0 (-1) false [])
variable [FZ]
def sh76_1 : Sh := ⟨[.lf (.ptr 0 0)], [some ⟨some false, [.full 1, .full 2, .int .i64, .bool, .int .i64]⟩, some ⟨none, [.seq .str 0]⟩, some ⟨some false, [.seq (.pair (.int .i64) .str) 0]⟩]⟩
abbrev Y76_1 := Int → Bool → Int → List ByteArray → List (Int × ByteArray) → (Int → Int → Bool → List (Int × ByteArray) → Option Res) → Option Res
noncomputable def A76_1 (g : Y76_1) (d : sh76_1.den) (K : KF) : Option Res := g d.2.1.2.2.2.1 d.2.1.2.2.2.2.1 d.2.1.2.2.2.2.2.1 d.2.2.1.2.1 d.2.2.2.1.2.1 (fun y0 y1 y2 y5 => K [.lf (.int .i64 y0)] [some ⟨false, [.full 1, .full 3, .int .i64 y1, .bool y2, .int .i64 d.2.1.2.2.2.2.2.1]⟩, some ⟨d.2.2.1.1, [.seq .str 0 d.2.2.1.2.1]⟩, none, some ⟨false, [.seq (.pair (.int .i64) .str) 0 y5]⟩])
noncomputable def S76_1 (F : Nat) (o : Summ) : Summ := mkS sh76_1 (fun d K => A76_1 (f76_1 F) d K) o
noncomputable def code76 : Code := bodyOf Tryz.f76
theorem enter76 : En Tryz.prog 76 := enO (fn := Tryz.f76)
noncomputable def T76_1 (F : Nat) : FuncId → Option Summ := tab []
noncomputable def LT76_1 (F : Nat) : Nat → Option LoopS := ltab []
theorem E76_1 (F : Nat) (d : sh76_1.den) (K : KF) : EB Tryz.prog (T76_1 F) (xw []) 17 3 (LT76_1 F) [2] false Tryz.f76 sh76_1 d K = A76_1 (f76_1 F) d K := by delta A76_1 f76_1 T76_1 LT76_1;   as_aux_lemma => kernel_rfl
theorem S76_1_ok : So Tryz.prog 76 S76_1 :=
  fun F o ho => sOf (fn := Tryz.f76) (c := code76) tab_nil ho lnil snil rnil (E76_1 F)
end
section
noncomputable def f47_1 [FZ] {β : Type} (F : Nat) (a1 a2 a3 a4 a5 a6 : Int) (a7 : ByteArray) (a8 : Sl (.int .i64)) (a9 : Sl .bool) (a10 : Int) (a11 : Bool) (a12 : Int) (a13 : List ByteArray) (a14 : List (Int × ByteArray)) (a15 : Int) (a16 : Bool) (a17 : Int) (a18 : List ByteArray) (a19 : List (Int × ByteArray)) (K0 : Bool → Int → Bool → Int → List ByteArray → Int → Bool → Int → List ByteArray → List (Int × ByteArray) → List (Int × ByteArray) → Option β) : Option β := cond ((a5.tmod 8) == 0) (f103_1 F a1 a2 a3 a4 a6 a10 a11 a12 a13 a14 (fun x1 x2 => f114_1 F a1 a2 a3 a4 a6 a15 a16 a17 a18 a19 (fun x3 x4 => cond (x1.toList == x3.toList) (K0 (x2 == x4) a10 a11 a12 a13 a15 a16 a17 a18 a14 a19) (K0 false a10 a11 a12 a13 a15 a16 a17 a18 a14 a19)) ) ) (cond ((a5.tmod 8) == 1) ((fun z1 => amb z1 (amb (amb z1 (amb (amb z1 z1) (amb z1 z1))) (amb (amb z1 (amb (amb z1 z1) (amb z1 z1))) (amb z1 (amb (amb z1 z1) (amb z1 z1)))))) (f109_1 F a1 a2 a3 a4 a6 a7 a10 a11 a12 a13 a14 (fun x5 x6 x7 x8 x9 => f115_1 F a1 a2 a3 a4 a6 a7 a15 a16 a17 a18 a19 (fun x10 x11 x12 x13 x14 => K0 (x5 == x10) x6 x7 x8 a13 x11 x12 x13 a18 x9 x14) ) )) (cond ((a5.tmod 8) == 2) (f43_1 F a1 a2 a3 a4 a10 a11 a12 a13 a14 (fun x165 x166 => f116_1 F a1 a2 a3 a4 a15 a16 a17 a18 a19 (fun x167 x168 => f45_1 F x166 x168 (fun x169 => cond x169 (K0 (x165 == x167) a10 a11 a12 a13 a15 a16 a17 a18 a14 a19) (K0 false a10 a11 a12 a13 a15 a16 a17 a18 a14 a19)) ) ) ) (cond ((a5.tmod 8) == 3) (f42_1 F a1 a2 a3 a4 a10 a11 a12 a13 a14 a8.dat (fun x170 x171 x172 x173 x174 x175 x176 => f117_1 F a1 a2 a3 a4 a15 a16 a17 a18 a19 a8.dat (fun x177 x178 x179 x180 x181 x182 x183 => cond (x170.toList == x177.toList) (K0 (x171 == x178) x172 x173 x174 x175 x179 x180 x181 x182 x176 x183) (K0 false x172 x173 x174 x175 x179 x180 x181 x182 x176 x183)) ) ) (cond ((a5.tmod 8) == 4) (f41_1 F a1 a2 a3 a4 a10 a11 a12 a13 a14 (fun x184 x185 x186 x187 x188 x189 x190 => f118_1 F a1 a2 a3 a4 a15 a16 a17 a18 a19 (fun x191 x192 x193 x194 x195 x196 x197 => cond (x184.toList == x191.toList) (K0 (x185 == x192) x186 x187 x188 x189 x193 x194 x195 x196 x190 x197) (K0 false x186 x187 x188 x189 x193 x194 x195 x196 x190 x197)) ) ) (cond ((a5.tmod 8) == 5) ((fun z1 => amb z1 (amb (amb z1 z1) (amb z1 z1))) (f24_1 F a6 a7 a10 a11 a12 a13 a14 (fun x198 x199 x200 x201 x202 => f74_1 F a6 a7 a15 a16 a17 a18 a19 (fun x203 x204 x205 x206 x207 => K0 (x198 == x203) x199 x200 x201 a13 x204 x205 x206 a18 x202 x207) ) )) (cond ((a5.tmod 8) == 6) (f29_1 F a6 a10 a11 a12 a13 a14 (fun x248 => f75_1 F a6 a15 a16 a17 a18 a19 (fun x249 => K0 true x248 a11 a12 a13 x249 a16 a17 a18 a14 a19) ) ) (f32_1 F a10 a11 a12 a13 a14 a9.dat (fun x250 x251 => f64_1 F a15 a16 a17 a18 a19 a9.dat (fun x252 x253 => f33_1 F (-1) true a12 x250 x251 (fun x254 x255 x256 x257 => f76_1 F (-1) true a17 x252 x253 (fun x258 x259 x260 x261 => K0 (x254 == x258) x255 x256 a12 x250 x259 x260 a17 x252 x257 x261) ) ) ) )))))))
variable [FZ]
def sh47_1 : Sh := ⟨[.lf (.ptr 0 0), .lf (.ptr 3 0), .agg [.int .i64, .int .i64, .int .i64, .int .i64], .agg [.int .i64, .int .i64, .str, .sl (.int .i64), .sl .bool]], [some ⟨some false, [.full 1, .full 2, .int .i64, .bool, .int .i64]⟩, some ⟨some false, [.seq .str 0]⟩, some ⟨some false, [.seq (.pair (.int .i64) .str) 0]⟩, some ⟨some false, [.full 4, .full 5, .int .i64, .bool, .int .i64]⟩, some ⟨some false, [.seq .str 0]⟩, some ⟨some false, [.seq (.pair (.int .i64) .str) 0]⟩]⟩
abbrev Y47_1 := Int → Int → Int → Int → Int → Int → ByteArray → Sl (.int .i64) → Sl .bool → Int → Bool → Int → List ByteArray → List (Int × ByteArray) → Int → Bool → Int → List ByteArray → List (Int × ByteArray) → (Bool → Int → Bool → Int → List ByteArray → Int → Bool → Int → List ByteArray → List (Int × ByteArray) → List (Int × ByteArray) → Option Res) → Option Res
noncomputable def A47_1 (g : Y47_1) (d : sh47_1.den) (K : KF) : Option Res := g d.1.2.2.1.1 d.1.2.2.1.2.1 d.1.2.2.1.2.2.1 d.1.2.2.1.2.2.2.1 d.1.2.2.2.1.1 d.1.2.2.2.1.2.1 d.1.2.2.2.1.2.2.1 d.1.2.2.2.1.2.2.2.1 d.1.2.2.2.1.2.2.2.2.1 d.2.1.2.2.2.1 d.2.1.2.2.2.2.1 d.2.1.2.2.2.2.2.1 d.2.2.1.2.1 d.2.2.2.1.2.1 d.2.2.2.2.1.2.2.2.1 d.2.2.2.2.1.2.2.2.2.1 d.2.2.2.2.1.2.2.2.2.2.1 d.2.2.2.2.2.1.2.1 d.2.2.2.2.2.2.1.2.1 (fun y0 y1 y2 y3 y4 y5 y6 y7 y8 y9 y10 => K [.lf (.bool y0)] [some ⟨false, [.full 1, .full 6, .int .i64 y1, .bool y2, .int .i64 y3]⟩, some ⟨false, [.seq .str 0 y4]⟩, none, some ⟨false, [.full 4, .full 7, .int .i64 y5, .bool y6, .int .i64 y7]⟩, some ⟨false, [.seq .str 0 y8]⟩, none, some ⟨false, [.seq (.pair (.int .i64) .str) 0 y9]⟩, some ⟨false, [.seq (.pair (.int .i64) .str) 0 y10]⟩])
noncomputable def S47_1 (F : Nat) (o : Summ) : Summ := mkS sh47_1 (fun d K => A47_1 (f47_1 F) d K) o
noncomputable def code47 : Code := bodyOf Tryz.f47
theorem enter47 : En Tryz.prog 47 := enO (fn := Tryz.f47)
noncomputable def T47_1 (F : Nat) : FuncId → Option Summ := tab [(24, (S24_1 F noS)), (29, (S29_1 F noS)), (32, (S32_1 F noS)), (33, (S33_1 F noS)), (41, (S41_1 F noS)), (42, (S42_1 F noS)), (43, (S43_1 F noS)), (45, (S45_1 F noS)), (64, (S64_1 F noS)), (74, (S74_1 F noS)), (75, (S75_1 F noS)), (76, (S76_1 F noS)), (103, (S103_1 F noS)), (109, (S109_1 F noS)), (114, (S114_1 F noS)), (115, (S115_1 F noS)), (116, (S116_1 F noS)), (117, (S117_1 F noS)), (118, (S118_1 F noS))]
noncomputable def LT47_1 (F : Nat) : Nat → Option LoopS := ltab []
theorem E47_1 (F : Nat) (d : sh47_1.den) (K : KF) : EB Tryz.prog (T47_1 F) (xw [10, 24]) 179 6 (LT47_1 F) [2, 5] false Tryz.f47 sh47_1 d K = A47_1 (f47_1 F) d K := by delta A47_1 f47_1 T47_1 S24_1 S29_1 S32_1 S33_1 S41_1 S42_1 S43_1 S45_1 S64_1 S74_1 S75_1 S76_1 S103_1 S109_1 S114_1 S115_1 S116_1 S117_1 S118_1 LT47_1;  generalize (f24_1 F : Y24_1) = c, (f29_1 F : Y29_1) = c, (f32_1 F : Y32_1) = c, (f33_1 F : Y33_1) = c, (f41_1 F : Y41_1) = c, (f42_1 F : Y42_1) = c, (f43_1 F : Y43_1) = c, (f45_1 F : Y45_1) = c, (f64_1 F : Y64_1) = c, (f74_1 F : Y74_1) = c, (f75_1 F : Y75_1) = c, (f76_1 F : Y76_1) = c, (f103_1 F : Y103_1) = c, (f109_1 F : Y109_1) = c, (f114_1 F : Y114_1) = c, (f115_1 F : Y115_1) = c, (f116_1 F : Y116_1) = c, (f117_1 F : Y117_1) = c, (f118_1 F : Y118_1) = c; as_aux_lemma => kernel_rfl
theorem S47_1_ok : So Tryz.prog 47 S47_1 :=
  fun F o ho => sOf (fn := Tryz.f47) (c := code47) (tab_cons (S24_1_ok F _ (noS_sound enter24)) (tab_cons (S29_1_ok F _ (noS_sound enter29)) (tab_cons (S32_1_ok F _ (noS_sound enter32)) (tab_cons (S33_1_ok F _ (noS_sound enter33)) (tab_cons (S41_1_ok F _ (noS_sound enter41)) (tab_cons (S42_1_ok F _ (noS_sound enter42)) (tab_cons (S43_1_ok F _ (noS_sound enter43)) (tab_cons (S45_1_ok F _ (noS_sound enter45)) (tab_cons (S64_1_ok F _ (noS_sound enter64)) (tab_cons (S74_1_ok F _ (noS_sound enter74)) (tab_cons (S75_1_ok F _ (noS_sound enter75)) (tab_cons (S76_1_ok F _ (noS_sound enter76)) (tab_cons (S103_1_ok F _ (noS_sound enter103)) (tab_cons (S109_1_ok F _ (noS_sound enter109)) (tab_cons (S114_1_ok F _ (noS_sound enter114)) (tab_cons (S115_1_ok F _ (noS_sound enter115)) (tab_cons (S116_1_ok F _ (noS_sound enter116)) (tab_cons (S117_1_ok F _ (noS_sound enter117)) (tab_cons (S118_1_ok F _ (noS_sound enter118)) tab_nil))))))))))))))))))) ho lnil snil rnil (E47_1 F)
end
section
noncomputable def f124_6206 {β : Type} (F : Nat) (a1 : Int)  : Option β := none
variable [FZ]
def sh124_6206 : Sh := ⟨[.lf (.nilp), .lf (.int .i64)], []⟩
abbrev Y124_6206 := Int → Option Res
noncomputable def A124_6206 (g : Y124_6206) (d : sh124_6206.den) (K : KF) : Option Res := g d.1.2.1
noncomputable def S124_6206 (F : Nat) (o : Summ) : Summ := mkS sh124_6206 (fun d K => A124_6206 (f124_6206 F) d K) o
noncomputable def T124_6206 (F : Nat) : FuncId → Option Summ := tab []
noncomputable def LT124_6206 (F : Nat) : Nat → Option LoopS := ltab []
theorem E124_6206 (F : Nat) (d : sh124_6206.den) (K : KF) : EB Tryz.prog (T124_6206 F) (xw []) 52 0 (LT124_6206 F) [] false Tryz.f124 sh124_6206 d K = A124_6206 (f124_6206 F) d K := by delta A124_6206 f124_6206 T124_6206 LT124_6206;   as_aux_lemma => kernel_rfl
theorem S124_6206_ok : So Tryz.prog 124 S124_6206 :=
  fun F o ho => sOf (fn := Tryz.f124) (c := code124) tab_nil ho (by rw [loops124]; exact (loopsOK_skip (by kernel_rfl) loopsOK_nil)) snil rnil (E124_6206 F)
end
section
noncomputable def f114_6615 {β : Type} (F : Nat) (a1 a2 a3 a4 a5 : Int) (K0 : Option β) : Option β := f167_1 F a1 a2 a3 a4 a5 (fun x1 => cond (decide (x1 < 0)) (K0) (f124_6206 F x1 )) 
variable [FZ]
def sh114_6615 : Sh := ⟨[.lf (.nilp), .agg [.int .i64, .int .i64, .int .i64, .int .i64], .lf (.int .i64)], []⟩
abbrev Y114_6615 := Int → Int → Int → Int → Int → (Option Res) → Option Res
noncomputable def A114_6615 (g : Y114_6615) (d : sh114_6615.den) (K : KF) : Option Res := g d.1.2.1.1 d.1.2.1.2.1 d.1.2.1.2.2.1 d.1.2.1.2.2.2.1 d.1.2.2.1 (K [.lf (.str ByteArray.empty), .lf (.int .i64 3)] [])
noncomputable def S114_6615 (F : Nat) (o : Summ) : Summ := mkS sh114_6615 (fun d K => A114_6615 (f114_6615 F) d K) o
noncomputable def T114_6615 (F : Nat) : FuncId → Option Summ := tab [(124, (S124_6206 F noS)), (167, (S167_1 F noS))]
noncomputable def LT114_6615 (F : Nat) : Nat → Option LoopS := ltab []
theorem E114_6615 (F : Nat) (d : sh114_6615.den) (K : KF) : EB Tryz.prog (T114_6615 F) (xw []) 47 0 (LT114_6615 F) [] false Tryz.f114 sh114_6615 d K = A114_6615 (f114_6615 F) d K := by delta A114_6615 f114_6615 T114_6615 S124_6206 S167_1 LT114_6615;  generalize (f124_6206 F : Y124_6206) = c, (f167_1 F : Y167_1) = c; as_aux_lemma => kernel_rfl
theorem S114_6615_ok : So Tryz.prog 114 S114_6615 :=
  fun F o ho => sOf (fn := Tryz.f114) (c := code114) (tab_cons (S124_6206_ok F _ (noS_sound enter124)) (tab_cons (S167_1_ok F _ (noS_sound enter167)) tab_nil)) ho lnil snil rnil (E114_6615 F)
end
section
noncomputable def f74_1385 {β : Type} (F : Nat) (a1 : Int) (a2 : ByteArray)  : Option β := none
variable [FZ]
def sh74_1385 : Sh := ⟨[.lf (.nilp), .lf (.int .i64), .lf (.str)], []⟩
abbrev Y74_1385 := Int → ByteArray → Option Res
noncomputable def A74_1385 (g : Y74_1385) (d : sh74_1385.den) (K : KF) : Option Res := g d.1.2.1 d.1.2.2.1
noncomputable def S74_1385 (F : Nat) (o : Summ) : Summ := mkS sh74_1385 (fun d K => A74_1385 (f74_1385 F) d K) o
noncomputable def T74_1385 (F : Nat) : FuncId → Option Summ := tab []
noncomputable def LT74_1385 (F : Nat) : Nat → Option LoopS := ltab []
theorem E74_1385 (F : Nat) (d : sh74_1385.den) (K : KF) : EB Tryz.prog (T74_1385 F) (xw []) 40 0 (LT74_1385 F) [] false Tryz.f74 sh74_1385 d K = A74_1385 (f74_1385 F) d K := by delta A74_1385 f74_1385 T74_1385 LT74_1385;   as_aux_lemma => kernel_rfl
theorem S74_1385_ok : So Tryz.prog 74 S74_1385 :=
  fun F o ho => sOf (fn := Tryz.f74) (c := code74) tab_nil ho lnil snil rnil (E74_1385 F)
end
section
noncomputable def f115_5089 {β : Type} (F : Nat) (a1 a2 a3 a4 a5 : Int) (a6 : ByteArray) (K0 : Int → Option β) : Option β := f167_1 F a1 a2 a3 a4 a5 (fun x1 => cond (decide (x1 < 0)) (K0 3) (f169_1 F a6 (fun x2 => cond (!x2) (K0 4) (f101_1 F 2 (IntKind.u64.wrap a5) (fun x3 => cond (decide (x3.size + a6.size ≤ 4611686018427387904)) (f100_1 F 6 (x3 ++ a6) (fun x4 x5 => f74_1385 F x1 x4 ) ) none) )) )) 
variable [FZ]
def sh115_5089 : Sh := ⟨[.lf (.nilp), .agg [.int .i64, .int .i64, .int .i64, .int .i64], .lf (.int .i64), .lf (.str)], []⟩
abbrev Y115_5089 := Int → Int → Int → Int → Int → ByteArray → (Int → Option Res) → Option Res
noncomputable def A115_5089 (g : Y115_5089) (d : sh115_5089.den) (K : KF) : Option Res := g d.1.2.1.1 d.1.2.1.2.1 d.1.2.1.2.2.1 d.1.2.1.2.2.2.1 d.1.2.2.1 d.1.2.2.2.1 (fun y0 => K [.lf (.int .i64 y0)] [])
noncomputable def S115_5089 (F : Nat) (o : Summ) : Summ := mkS sh115_5089 (fun d K => A115_5089 (f115_5089 F) d K) o
noncomputable def T115_5089 (F : Nat) : FuncId → Option Summ := tab [(74, (S74_1385 F noS)), (100, (S100_1 F noS)), (101, (S101_1 F noS)), (167, (S167_1 F noS)), (169, (S169_1 F noS))]
noncomputable def LT115_5089 (F : Nat) : Nat → Option LoopS := ltab []
theorem E115_5089 (F : Nat) (d : sh115_5089.den) (K : KF) : EB Tryz.prog (T115_5089 F) (xw []) 33 0 (LT115_5089 F) [] false Tryz.f115 sh115_5089 d K = A115_5089 (f115_5089 F) d K := by delta A115_5089 f115_5089 T115_5089 S74_1385 S100_1 S101_1 S167_1 S169_1 LT115_5089;  generalize (f74_1385 F : Y74_1385) = c, (f100_1 F : Y100_1) = c, (f101_1 F : Y101_1) = c, (f167_1 F : Y167_1) = c, (f169_1 F : Y169_1) = c; as_aux_lemma => kernel_rfl
theorem S115_5089_ok : So Tryz.prog 115 S115_5089 :=
  fun F o ho => sOf (fn := Tryz.f115) (c := code115) (tab_cons (S74_1385_ok F _ (noS_sound enter74)) (tab_cons (S100_1_ok F _ (noS_sound enter100)) (tab_cons (S101_1_ok F _ (noS_sound enter101)) (tab_cons (S167_1_ok F _ (noS_sound enter167)) (tab_cons (S169_1_ok F _ (noS_sound enter169)) tab_nil))))) ho lnil snil rnil (E115_5089 F)
end
section
noncomputable def f116_5478_l6 {β : Type} (F : Nat) (v3 v4 v5 v6 v7 v8 : Int) (v9 : List ByteArray) (K0 K1 : Option β) : Nat → Option β
  | 0 => none
  | k + 1 => cond (decide (v4 < v3)) (f114_6615 F v5 v6 v7 v8 v4 (K0) ) (K1)
noncomputable def f116_5478 {β : Type} (F : Nat) (a1 a2 a3 a4 : Int) (K0 : Int → List ByteArray → Option β) : Option β := f21_1 F a1 a2 a3 a4 (fun x1 => cond (!x1) (K0 12 []) (f36_1 F a1 a2 a3 a4 (fun x2 => f116_5478_l6 F x2 0 a1 a2 a3 a4 [] (K0 3 []) (K0 0 []) F) )) 
variable [FZ]
def sh116_5478 : Sh := ⟨[.lf (.nilp), .agg [.int .i64, .int .i64, .int .i64, .int .i64]], []⟩
abbrev Y116_5478 := Int → Int → Int → Int → (Int → List ByteArray → Option Res) → Option Res
noncomputable def A116_5478 (g : Y116_5478) (d : sh116_5478.den) (K : KF) : Option Res := g d.1.2.1.1 d.1.2.1.2.1 d.1.2.1.2.2.1 d.1.2.1.2.2.2.1 (fun y0 y1 => K [.lf (.full 0), .lf (.int .i64 y0)] [some ⟨false, [.seq .str 0 y1]⟩])
noncomputable def S116_5478 (F : Nat) (o : Summ) : Summ := mkS sh116_5478 (fun d K => A116_5478 (f116_5478 F) d K) o
noncomputable def T116_5478 (F : Nat) : FuncId → Option Summ := tab [(21, (S21_1 F noS)), (36, (S36_1 F noS)), (114, (S114_6615 F noS))]
def sh116_5478_l6 : Sh := ⟨[.lf (.nilp), .lf (.ptr 0 0), .lf (.full 1), .lf (.int .i64), .lf (.int .i64)], [some ⟨some false, [.int .i64, .int .i64, .int .i64, .int .i64]⟩, some ⟨some false, [.seq .str 0]⟩]⟩
abbrev Y116_5478_l6 := Int → Int → Int → Int → Int → Int → List ByteArray → (Option Res) → (Option Res) → Nat → Option Res
noncomputable def A116_5478_l6 (g : Y116_5478_l6) (k : Nat) (d : sh116_5478_l6.den) (K : KL) : Option Res := g d.1.2.2.2.1 d.1.2.2.2.2.1 d.2.1.2.1 d.2.1.2.2.1 d.2.1.2.2.2.1 d.2.1.2.2.2.2.1 d.2.2.1.2.1 (K .ret [.tv (.lf (.nils (some .str))), .tv (.lf (.int .i64 3))] [some ⟨false, [.int .i64 d.2.1.2.1, .int .i64 d.2.1.2.2.1, .int .i64 d.2.1.2.2.2.1, .int .i64 d.2.1.2.2.2.2.1]⟩, some ⟨false, [.seq .str 0 d.2.2.1.2.1]⟩]) (K (.exit 0) [.tv (.lf (.full 1))] [some ⟨false, [.int .i64 d.2.1.2.1, .int .i64 d.2.1.2.2.1, .int .i64 d.2.1.2.2.2.1, .int .i64 d.2.1.2.2.2.2.1]⟩, some ⟨false, [.seq .str 0 d.2.2.1.2.1]⟩]) k
noncomputable def G116_5478_6 (F k : Nat) : LoopS := mkG sh116_5478_l6 [0, 3, 6, 7, 8] (outT [(.exit 0, [6]), (.ret, [4, 5])]) (fun d K => A116_5478_l6 (f116_5478_l6 F) k d K) []
noncomputable def LT116_5478 (F : Nat) : Nat → Option LoopS := ltab [(6, G116_5478_6 F F)]
theorem L116_5478_6 (F : Nat) : LoopOK Tryz.prog (T116_5478 F) (xw []) 36 0 (LT116_5478 F) (G116_5478_6 F F) b116_0 :=
  loopOK_of (s := sh116_5478_l6) (live := [0, 3, 6, 7, 8]) (out := (outT [(.exit 0, [6]), (.ret, [4, 5])])) (mv := []) (fun k d K => A116_5478_l6 (f116_5478_l6 F) k d K) F (fun d K => by kernel_rfl)  (fun k d K => by delta A116_5478_l6; refine (f116_5478_l6.eq_2 ..).trans ?_; delta T116_5478 S21_1 S36_1 S114_6615 LT116_5478; generalize (G116_5478_6 F F) = c;  (try delta G116_5478_6); generalize (f21_1 F : Y21_1) = c, (f36_1 F : Y36_1) = c, (f114_6615 F : Y114_6615) = c, (f116_5478_l6 F : Y116_5478_l6) = c; as_aux_lemma => kernel_rfl)
theorem E116_5478 (F : Nat) (d : sh116_5478.den) (K : KF) : EB Tryz.prog (T116_5478 F) (xw []) 36 0 (LT116_5478 F) [] false Tryz.f116 sh116_5478 d K = A116_5478 (f116_5478 F) d K := by delta A116_5478 f116_5478 T116_5478 S21_1 S36_1 S114_6615 LT116_5478;  delta G116_5478_6; generalize (f21_1 F : Y21_1) = c, (f36_1 F : Y36_1) = c, (f114_6615 F : Y114_6615) = c, (f116_5478_l6 F : Y116_5478_l6) = c; as_aux_lemma => kernel_rfl
theorem S116_5478_ok : So Tryz.prog 116 S116_5478 :=
  fun F o ho => sOf (fn := Tryz.f116) (c := code116) (tab_cons (S21_1_ok F _ (noS_sound enter21)) (tab_cons (S36_1_ok F _ (noS_sound enter36)) (tab_cons (S114_6615_ok F _ (noS_sound enter114)) tab_nil))) ho (by rw [loops116]; exact (loopsOK_cons (by kernel_rfl) (L116_5478_6 F) loopsOK_nil)) snil rnil (E116_5478 F)
end
section
noncomputable def f143_568 {β : Type} (F : Nat)   : Option β := none
variable [FZ]
def sh143_568 : Sh := ⟨[.lf (.nilp)], []⟩
abbrev Y143_568 := Option Res
noncomputable def A143_568 (g : Y143_568) (d : sh143_568.den) (K : KF) : Option Res := g
noncomputable def S143_568 (F : Nat) (o : Summ) : Summ := mkS sh143_568 (fun d K => A143_568 (f143_568 F) d K) o
noncomputable def T143_568 (F : Nat) : FuncId → Option Summ := tab []
noncomputable def LT143_568 (F : Nat) : Nat → Option LoopS := ltab []
theorem E143_568 (F : Nat) (d : sh143_568.den) (K : KF) : EB Tryz.prog (T143_568 F) (xw []) 42 0 (LT143_568 F) [] false Tryz.f143 sh143_568 d K = A143_568 (f143_568 F) d K := by delta A143_568 f143_568 T143_568 LT143_568;   as_aux_lemma => kernel_rfl
theorem S143_568_ok : So Tryz.prog 143 S143_568 :=
  fun F o ho => sOf (fn := Tryz.f143) (c := code143) tab_nil ho (by rw [loops143]; exact (loopsOK_skip (by kernel_rfl) loopsOK_nil)) snil rnil (E143_568 F)
end
section
noncomputable def f117_2949_l4 {β : Type} (F : Nat) (v3 : List Int) (v4 v5 v6 v7 : Int) (K0 K1 : Option β) : Nat → Int → Option β
  | 0, _ => none
  | k + 1, v2 => cond (decide (v2 < ((v3.length : Nat) : Int))) (cond (decide ((0 : Int) ≤ v2 ∧ v2 < ((v3.length : Nat) : Int))) (cond (decide (0 + v2.toNat < v3.length)) (cond (decide (v3.getD (0 + v2.toNat) 0 < 0)) (K0) (cond (decide ((0 : Int) ≤ v2 ∧ v2 < ((v3.length : Nat) : Int))) (cond (decide (0 + v2.toNat < v3.length)) (cond (decide (v3.getD (0 + v2.toNat) 0 ≥ v4)) (K0) (f117_2949_l4 F v3 v4 v5 v6 v7 K0 K1 k (IntKind.i64.wrap (v2 + 1)))) none) none)) none) none) (K1)
noncomputable def f117_2949_l13 {β : Type} (F : Nat) (v11 : List Int) (v12 v13 v14 v15 : Int) (v16 : List Bool) (v17 : List ByteArray) (K0 K1 : Option β) : Nat → Int → Option β
  | 0, _ => none
  | k + 1, v10 => cond (decide (v10 < ((v16.length : Nat) : Int))) (cond (decide ((0 : Int) ≤ v10 ∧ v10 < ((v16.length : Nat) : Int))) (cond (decide (0 + v10.toNat < v16.length)) (cond (!(v16.getD (0 + v10.toNat) false)) (f114_6615 F v12 v13 v14 v15 v10 (K0) ) (f117_2949_l13 F v11 v12 v13 v14 v15 v16 v17 K0 K1 k (IntKind.i64.wrap (v10 + 1)))) none) none) (K1)
noncomputable def f117_2949_l21 {β : Type} (F : Nat) (v19 : List Int) (v20 v21 v22 v23 : Int) (v24 : List Bool) (K0 : List ByteArray → Option β) : Nat → Int → List ByteArray → Option β
  | 0, _, _ => none
  | k + 1, v18, v25 => cond (decide (v18 < ((v24.length : Nat) : Int))) (cond (decide ((0 : Int) ≤ v18 ∧ v18 < ((v24.length : Nat) : Int))) (cond (decide (0 + v18.toNat < v24.length)) (cond (v24.getD (0 + v18.toNat) false) (cond (decide (v18 < v20)) (f25_1 F v20 v21 v22 v23 v18 (fun x26 => f124_6206 F x26 ) ) (cond (decide ((0 : Int) ≤ v18 ∧ v18 < ((v24.length : Nat) : Int))) (cond (decide (0 + v18.toNat < v24.length)) (cond (v24.getD (0 + v18.toNat) false) (f113_1 F v20 v21 v22 v23 v18 v25 (fun x27 => cond (decide ((0 : Int) ≤ v18 ∧ v18 < ((v25.length : Nat) : Int))) (cond (decide (0 + v18.toNat < v25.length)) (f117_2949_l21 F v19 v20 v21 v22 v23 v24 K0 k (IntKind.i64.wrap (v18 + 1)) (v25.set (0 + v18.toNat) x27)) none) none) ) (f117_2949_l21 F v19 v20 v21 v22 v23 v24 K0 k (IntKind.i64.wrap (v18 + 1)) v25)) none) none)) (cond (decide ((0 : Int) ≤ v18 ∧ v18 < ((v24.length : Nat) : Int))) (cond (decide (0 + v18.toNat < v24.length)) (cond (v24.getD (0 + v18.toNat) false) (f113_1 F v20 v21 v22 v23 v18 v25 (fun x28 => cond (decide ((0 : Int) ≤ v18 ∧ v18 < ((v25.length : Nat) : Int))) (cond (decide (0 + v18.toNat < v25.length)) (f117_2949_l21 F v19 v20 v21 v22 v23 v24 K0 k (IntKind.i64.wrap (v18 + 1)) (v25.set (0 + v18.toNat) x28)) none) none) ) (f117_2949_l21 F v19 v20 v21 v22 v23 v24 K0 k (IntKind.i64.wrap (v18 + 1)) v25)) none) none)) none) none) (K0 v25)
noncomputable def f117_2949_l31 {β : Type} (F : Nat) (v31 : List Int) (v32 v33 v34 v35 : Int) (v36 : List Bool) (v37 : List ByteArray) (K0 : Int → Option β) (K1 : Option β) : Nat → Int → Option β
  | 0, _ => none
  | k + 1, v30 => cond (decide (v30 < ((v36.length : Nat) : Int))) (cond (decide ((0 : Int) ≤ v30 ∧ v30 < ((v36.length : Nat) : Int))) (cond (decide (0 + v30.toNat < v36.length)) (cond (v36.getD (0 + v30.toNat) false) (cond (decide ((0 : Int) ≤ v30 ∧ v30 < ((v37.length : Nat) : Int))) (cond (decide (0 + v30.toNat < v37.length)) (f115_5089 F v32 v33 v34 v35 v30 (v37.getD (0 + v30.toNat) ByteArray.empty) (fun x38 => cond (x38 != 0) (K0 x38) (f117_2949_l31 F v31 v32 v33 v34 v35 v36 v37 K0 K1 k (IntKind.i64.wrap (v30 + 1)))) ) none) none) (f117_2949_l31 F v31 v32 v33 v34 v35 v36 v37 K0 K1 k (IntKind.i64.wrap (v30 + 1)))) none) none) (K1)
noncomputable def f117_2949 {β : Type} (F : Nat) (a1 a2 a3 a4 : Int) (a5 : List Int) (K0 : Int → Option β) : Option β := f21_1 F a1 a2 a3 a4 (fun x1 => cond (!x1) (K0 12) (f117_2949_l4 F a5 a1 a2 a3 a4 (K0 3) (cond (((a5.length : Nat) : Int) == 0) (f170_1 F a1 a2 a3 a4 (fun x8 => f114_6615 F a1 a2 a3 a4 x8 (K0 3) ) ) (f171_1 F a1 a2 a3 a4 a5 (fun x9 => cond (decide ((0 : Int) ≤ ((x9.length : Nat) : Int) ∧ ((x9.length : Nat) : Int) ≤ ((x9.length : Nat) : Int) ∧ ((x9.length : Nat) : Int) ≤ 70368744177664 ∧ ((x9.length : Nat) : Int) * 16 ≤ 70368744177664)) (f117_2949_l13 F a5 a1 a2 a3 a4 x9 (List.replicate (((x9.length : Nat) : Int).toNat) ByteArray.empty) (K0 3) (f117_2949_l21 F a5 a1 a2 a3 a4 x9 (fun x29 => f117_2949_l31 F a5 a1 a2 a3 a4 x9 x29 (fun x39 => K0 x39) (f143_568 F  ) F 0) F 0 (List.replicate (((x9.length : Nat) : Int).toNat) ByteArray.empty)) F 0) none) )) F 0)) 
variable [FZ]
def sh117_2949 : Sh := ⟨[.lf (.nilp), .agg [.int .i64, .int .i64, .int .i64, .int .i64], .lf (.full 0)], [some ⟨none, [.seq (.int .i64) 0]⟩]⟩
abbrev Y117_2949 := Int → Int → Int → Int → List Int → (Int → Option Res) → Option Res
noncomputable def A117_2949 (g : Y117_2949) (d : sh117_2949.den) (K : KF) : Option Res := g d.1.2.1.1 d.1.2.1.2.1 d.1.2.1.2.2.1 d.1.2.1.2.2.2.1 d.2.1.2.1 (fun y1 => K [.lf (.str ByteArray.empty), .lf (.int .i64 y1)] [some ⟨d.2.1.1, [.seq (.int .i64) 0 d.2.1.2.1]⟩])
noncomputable def S117_2949 (F : Nat) (o : Summ) : Summ := mkS sh117_2949 (fun d K => A117_2949 (f117_2949 F) d K) o
noncomputable def T117_2949 (F : Nat) : FuncId → Option Summ := tab [(21, (S21_1 F noS)), (25, (S25_1 F noS)), (113, (S113_1 F noS)), (114, (S114_6615 F noS)), (115, (S115_5089 F noS)), (124, (S124_6206 F noS)), (143, (S143_568 F noS)), (170, (S170_1 F noS)), (171, (S171_1 F noS))]
def sh117_2949_l4 : Sh := ⟨[.lf (.nilp), .lf (.full 0), .lf (.ptr 1 0), .lf (.int .i64)], [some ⟨none, [.seq (.int .i64) 0]⟩, some ⟨some false, [.int .i64, .int .i64, .int .i64, .int .i64]⟩]⟩
abbrev Y117_2949_l4 := List Int → Int → Int → Int → Int → (Option Res) → (Option Res) → Nat → Int → Option Res
noncomputable def A117_2949_l4 (g : Y117_2949_l4) (k : Nat) (d : sh117_2949_l4.den) (K : KL) : Option Res := g d.2.1.2.1 d.2.2.1.2.1 d.2.2.1.2.2.1 d.2.2.1.2.2.2.1 d.2.2.1.2.2.2.2.1 (K .ret [.tv (.lf (.str ByteArray.empty)), .tv (.lf (.int .i64 3))] [some ⟨d.2.1.1, [.seq (.int .i64) 0 d.2.1.2.1]⟩, some ⟨false, [.int .i64 d.2.2.1.2.1, .int .i64 d.2.2.1.2.2.1, .int .i64 d.2.2.1.2.2.2.1, .int .i64 d.2.2.1.2.2.2.2.1]⟩]) (K (.exit 0) [.tv (.lf (.nilp)), .tv (.lf (.full 0)), .tv (.lf (.ptr 1 0))] [some ⟨d.2.1.1, [.seq (.int .i64) 0 d.2.1.2.1]⟩, some ⟨false, [.int .i64 d.2.2.1.2.1, .int .i64 d.2.2.1.2.2.1, .int .i64 d.2.2.1.2.2.2.1, .int .i64 d.2.2.1.2.2.2.2.1]⟩]) k d.1.2.2.2.1
def sh117_2949_l13 : Sh := ⟨[.lf (.nilp), .lf (.ptr 1 0), .lf (.full 2), .lf (.full 3), .lf (.int .i64)], [some ⟨none, [.seq (.int .i64) 0]⟩, some ⟨some false, [.int .i64, .int .i64, .int .i64, .int .i64]⟩, some ⟨some false, [.seq .bool 0]⟩, some ⟨some false, [.seq .str 0]⟩]⟩
abbrev Y117_2949_l13 := List Int → Int → Int → Int → Int → List Bool → List ByteArray → (Option Res) → (Option Res) → Nat → Int → Option Res
noncomputable def A117_2949_l13 (g : Y117_2949_l13) (k : Nat) (d : sh117_2949_l13.den) (K : KL) : Option Res := g d.2.1.2.1 d.2.2.1.2.1 d.2.2.1.2.2.1 d.2.2.1.2.2.2.1 d.2.2.1.2.2.2.2.1 d.2.2.2.1.2.1 d.2.2.2.2.1.2.1 (K .ret [.tv (.lf (.str ByteArray.empty)), .tv (.lf (.int .i64 3))] [some ⟨d.2.1.1, [.seq (.int .i64) 0 d.2.1.2.1]⟩, some ⟨false, [.int .i64 d.2.2.1.2.1, .int .i64 d.2.2.1.2.2.1, .int .i64 d.2.2.1.2.2.2.1, .int .i64 d.2.2.1.2.2.2.2.1]⟩, some ⟨false, [.seq .bool 0 d.2.2.2.1.2.1]⟩, some ⟨false, [.seq .str 0 d.2.2.2.2.1.2.1]⟩]) (K (.exit 2) [.tv (.lf (.nilp)), .tv (.lf (.ptr 1 0)), .tv (.lf (.full 2)), .tv (.lf (.full 3))] [some ⟨d.2.1.1, [.seq (.int .i64) 0 d.2.1.2.1]⟩, some ⟨false, [.int .i64 d.2.2.1.2.1, .int .i64 d.2.2.1.2.2.1, .int .i64 d.2.2.1.2.2.2.1, .int .i64 d.2.2.1.2.2.2.2.1]⟩, some ⟨false, [.seq .bool 0 d.2.2.2.1.2.1]⟩, some ⟨false, [.seq .str 0 d.2.2.2.2.1.2.1]⟩]) k d.1.2.2.2.2.1
def sh117_2949_l21 : Sh := ⟨[.lf (.nilp), .lf (.ptr 1 0), .lf (.full 2), .lf (.full 3), .lf (.int .i64)], [some ⟨none, [.seq (.int .i64) 0]⟩, some ⟨some false, [.int .i64, .int .i64, .int .i64, .int .i64]⟩, some ⟨some false, [.seq .bool 0]⟩, some ⟨some false, [.seq .str 0]⟩]⟩
abbrev Y117_2949_l21 := List Int → Int → Int → Int → Int → List Bool → (List ByteArray → Option Res) → Nat → Int → List ByteArray → Option Res
noncomputable def A117_2949_l21 (g : Y117_2949_l21) (k : Nat) (d : sh117_2949_l21.den) (K : KL) : Option Res := g d.2.1.2.1 d.2.2.1.2.1 d.2.2.1.2.2.1 d.2.2.1.2.2.2.1 d.2.2.1.2.2.2.2.1 d.2.2.2.1.2.1 (fun y6 => K (.exit 4) [.tv (.lf (.nilp)), .tv (.lf (.ptr 1 0)), .tv (.lf (.full 2)), .tv (.lf (.full 3))] [some ⟨d.2.1.1, [.seq (.int .i64) 0 d.2.1.2.1]⟩, some ⟨false, [.int .i64 d.2.2.1.2.1, .int .i64 d.2.2.1.2.2.1, .int .i64 d.2.2.1.2.2.2.1, .int .i64 d.2.2.1.2.2.2.2.1]⟩, some ⟨false, [.seq .bool 0 d.2.2.2.1.2.1]⟩, some ⟨false, [.seq .str 0 y6]⟩]) k d.1.2.2.2.2.1 d.2.2.2.2.1.2.1
def sh117_2949_l31 : Sh := ⟨[.lf (.nilp), .lf (.ptr 1 0), .lf (.full 2), .lf (.full 3), .lf (.int .i64)], [some ⟨none, [.seq (.int .i64) 0]⟩, some ⟨some false, [.int .i64, .int .i64, .int .i64, .int .i64]⟩, some ⟨some false, [.seq .bool 0]⟩, some ⟨some false, [.seq .str 0]⟩]⟩
abbrev Y117_2949_l31 := List Int → Int → Int → Int → Int → List Bool → List ByteArray → (Int → Option Res) → (Option Res) → Nat → Int → Option Res
noncomputable def A117_2949_l31 (g : Y117_2949_l31) (k : Nat) (d : sh117_2949_l31.den) (K : KL) : Option Res := g d.2.1.2.1 d.2.2.1.2.1 d.2.2.1.2.2.1 d.2.2.1.2.2.2.1 d.2.2.1.2.2.2.2.1 d.2.2.2.1.2.1 d.2.2.2.2.1.2.1 (fun y1 => K .ret [.tv (.lf (.str ByteArray.empty)), .tv (.lf (.int .i64 y1))] [some ⟨d.2.1.1, [.seq (.int .i64) 0 d.2.1.2.1]⟩, some ⟨false, [.int .i64 d.2.2.1.2.1, .int .i64 d.2.2.1.2.2.1, .int .i64 d.2.2.1.2.2.2.1, .int .i64 d.2.2.1.2.2.2.2.1]⟩, some ⟨false, [.seq .bool 0 d.2.2.2.1.2.1]⟩, some ⟨false, [.seq .str 0 d.2.2.2.2.1.2.1]⟩]) (K (.exit 6) [.tv (.lf (.nilp)), .tv (.lf (.full 3))] [some ⟨d.2.1.1, [.seq (.int .i64) 0 d.2.1.2.1]⟩, some ⟨false, [.int .i64 d.2.2.1.2.1, .int .i64 d.2.2.1.2.2.1, .int .i64 d.2.2.1.2.2.2.1, .int .i64 d.2.2.1.2.2.2.2.1]⟩, some ⟨false, [.seq .bool 0 d.2.2.2.1.2.1]⟩, some ⟨false, [.seq .str 0 d.2.2.2.2.1.2.1]⟩]) k d.1.2.2.2.2.1
noncomputable def G117_2949_4 (F k : Nat) : LoopS := mkG sh117_2949_l4 [0, 2, 4, 8] (outT [(.exit 0, [0, 2, 4]), (.ret, [6, 7])]) (fun d K => A117_2949_l4 (f117_2949_l4 F) k d K) []
noncomputable def G117_2949_13 (F k : Nat) : LoopS := mkG sh117_2949_l13 [0, 4, 9, 10, 11] (outT [(.exit 2, [0, 4, 9, 10]), (.ret, [6, 7])]) (fun d K => A117_2949_l13 (f117_2949_l13 F) k d K) []
noncomputable def G117_2949_21 (F k : Nat) : LoopS := mkG sh117_2949_l21 [0, 4, 9, 10, 14] (outT [(.exit 4, [0, 4, 9, 10])]) (fun d K => A117_2949_l21 (f117_2949_l21 F) k d K) []
noncomputable def G117_2949_31 (F k : Nat) : LoopS := mkG sh117_2949_l31 [0, 4, 9, 10, 17] (outT [(.exit 6, [0, 10]), (.ret, [6, 7])]) (fun d K => A117_2949_l31 (f117_2949_l31 F) k d K) []
noncomputable def LT117_2949 (F : Nat) : Nat → Option LoopS := ltab [(4, G117_2949_4 F F), (13, G117_2949_13 F F), (21, G117_2949_21 F F), (31, G117_2949_31 F F)]
theorem L117_2949_4 (F : Nat) : LoopOK Tryz.prog (T117_2949 F) (xw []) 159 1 (LT117_2949 F) (G117_2949_4 F F) b117_0 :=
  loopOK_of (s := sh117_2949_l4) (live := [0, 2, 4, 8]) (out := (outT [(.exit 0, [0, 2, 4]), (.ret, [6, 7])])) (mv := []) (fun k d K => A117_2949_l4 (f117_2949_l4 F) k d K) F (fun d K => by kernel_rfl)  (fun k d K => by delta A117_2949_l4; refine (f117_2949_l4.eq_2 ..).trans ?_; delta T117_2949 S21_1 S25_1 S113_1 S114_6615 S115_5089 S124_6206 S143_568 S170_1 S171_1 LT117_2949; generalize (G117_2949_4 F F) = c, (G117_2949_13 F F) = c, (G117_2949_21 F F) = c, (G117_2949_31 F F) = c;  (try delta G117_2949_4); generalize (f21_1 F : Y21_1) = c, (f25_1 F : Y25_1) = c, (f113_1 F : Y113_1) = c, (f114_6615 F : Y114_6615) = c, (f115_5089 F : Y115_5089) = c, (f124_6206 F : Y124_6206) = c, (f143_568 F : Y143_568) = c, (f170_1 F : Y170_1) = c, (f171_1 F : Y171_1) = c, (f117_2949_l4 F : Y117_2949_l4) = c; as_aux_lemma => kernel_rfl)
theorem L117_2949_13 (F : Nat) : LoopOK Tryz.prog (T117_2949 F) (xw []) 159 1 (LT117_2949 F) (G117_2949_13 F F) b117_1 :=
  loopOK_of (s := sh117_2949_l13) (live := [0, 4, 9, 10, 11]) (out := (outT [(.exit 2, [0, 4, 9, 10]), (.ret, [6, 7])])) (mv := []) (fun k d K => A117_2949_l13 (f117_2949_l13 F) k d K) F (fun d K => by kernel_rfl)  (fun k d K => by delta A117_2949_l13; refine (f117_2949_l13.eq_2 ..).trans ?_; delta T117_2949 S21_1 S25_1 S113_1 S114_6615 S115_5089 S124_6206 S143_568 S170_1 S171_1 LT117_2949; generalize (G117_2949_4 F F) = c, (G117_2949_13 F F) = c, (G117_2949_21 F F) = c, (G117_2949_31 F F) = c;  (try delta G117_2949_13); generalize (f21_1 F : Y21_1) = c, (f25_1 F : Y25_1) = c, (f113_1 F : Y113_1) = c, (f114_6615 F : Y114_6615) = c, (f115_5089 F : Y115_5089) = c, (f124_6206 F : Y124_6206) = c, (f143_568 F : Y143_568) = c, (f170_1 F : Y170_1) = c, (f171_1 F : Y171_1) = c, (f117_2949_l13 F : Y117_2949_l13) = c; as_aux_lemma => kernel_rfl)
theorem L117_2949_21 (F : Nat) : LoopOK Tryz.prog (T117_2949 F) (xw []) 159 1 (LT117_2949 F) (G117_2949_21 F F) b117_2 :=
  loopOK_of (s := sh117_2949_l21) (live := [0, 4, 9, 10, 14]) (out := (outT [(.exit 4, [0, 4, 9, 10])])) (mv := []) (fun k d K => A117_2949_l21 (f117_2949_l21 F) k d K) F (fun d K => by kernel_rfl)  (fun k d K => by delta A117_2949_l21; refine (f117_2949_l21.eq_2 ..).trans ?_; delta T117_2949 S21_1 S25_1 S113_1 S114_6615 S115_5089 S124_6206 S143_568 S170_1 S171_1 LT117_2949; generalize (G117_2949_4 F F) = c, (G117_2949_13 F F) = c, (G117_2949_21 F F) = c, (G117_2949_31 F F) = c;  (try delta G117_2949_21); generalize (f21_1 F : Y21_1) = c, (f25_1 F : Y25_1) = c, (f113_1 F : Y113_1) = c, (f114_6615 F : Y114_6615) = c, (f115_5089 F : Y115_5089) = c, (f124_6206 F : Y124_6206) = c, (f143_568 F : Y143_568) = c, (f170_1 F : Y170_1) = c, (f171_1 F : Y171_1) = c, (f117_2949_l21 F : Y117_2949_l21) = c; as_aux_lemma => kernel_rfl)
theorem L117_2949_31 (F : Nat) : LoopOK Tryz.prog (T117_2949 F) (xw []) 159 1 (LT117_2949 F) (G117_2949_31 F F) b117_3 :=
  loopOK_of (s := sh117_2949_l31) (live := [0, 4, 9, 10, 17]) (out := (outT [(.exit 6, [0, 10]), (.ret, [6, 7])])) (mv := []) (fun k d K => A117_2949_l31 (f117_2949_l31 F) k d K) F (fun d K => by kernel_rfl)  (fun k d K => by delta A117_2949_l31; refine (f117_2949_l31.eq_2 ..).trans ?_; delta T117_2949 S21_1 S25_1 S113_1 S114_6615 S115_5089 S124_6206 S143_568 S170_1 S171_1 LT117_2949; generalize (G117_2949_4 F F) = c, (G117_2949_13 F F) = c, (G117_2949_21 F F) = c, (G117_2949_31 F F) = c;  (try delta G117_2949_31); generalize (f21_1 F : Y21_1) = c, (f25_1 F : Y25_1) = c, (f113_1 F : Y113_1) = c, (f114_6615 F : Y114_6615) = c, (f115_5089 F : Y115_5089) = c, (f124_6206 F : Y124_6206) = c, (f143_568 F : Y143_568) = c, (f170_1 F : Y170_1) = c, (f171_1 F : Y171_1) = c, (f117_2949_l31 F : Y117_2949_l31) = c; as_aux_lemma => kernel_rfl)
theorem E117_2949 (F : Nat) (d : sh117_2949.den) (K : KF) : EB Tryz.prog (T117_2949 F) (xw []) 159 1 (LT117_2949 F) [] false Tryz.f117 sh117_2949 d K = A117_2949 (f117_2949 F) d K := by delta A117_2949 f117_2949 T117_2949 S21_1 S25_1 S113_1 S114_6615 S115_5089 S124_6206 S143_568 S170_1 S171_1 LT117_2949;  delta G117_2949_4 G117_2949_13 G117_2949_21 G117_2949_31; generalize (f21_1 F : Y21_1) = c, (f25_1 F : Y25_1) = c, (f113_1 F : Y113_1) = c, (f114_6615 F : Y114_6615) = c, (f115_5089 F : Y115_5089) = c, (f124_6206 F : Y124_6206) = c, (f143_568 F : Y143_568) = c, (f170_1 F : Y170_1) = c, (f171_1 F : Y171_1) = c, (f117_2949_l4 F : Y117_2949_l4) = c, (f117_2949_l13 F : Y117_2949_l13) = c, (f117_2949_l21 F : Y117_2949_l21) = c, (f117_2949_l31 F : Y117_2949_l31) = c; as_aux_lemma => kernel_rfl
theorem S117_2949_ok : So Tryz.prog 117 S117_2949 :=
  fun F o ho => sOf (fn := Tryz.f117) (c := code117) (tab_cons (S21_1_ok F _ (noS_sound enter21)) (tab_cons (S25_1_ok F _ (noS_sound enter25)) (tab_cons (S113_1_ok F _ (noS_sound enter113)) (tab_cons (S114_6615_ok F _ (noS_sound enter114)) (tab_cons (S115_5089_ok F _ (noS_sound enter115)) (tab_cons (S124_6206_ok F _ (noS_sound enter124)) (tab_cons (S143_568_ok F _ (noS_sound enter143)) (tab_cons (S170_1_ok F _ (noS_sound enter170)) (tab_cons (S171_1_ok F _ (noS_sound enter171)) tab_nil))))))))) ho (by rw [loops117]; exact (loopsOK_cons (by kernel_rfl) (L117_2949_4 F) (loopsOK_cons (by kernel_rfl) (L117_2949_13 F) (loopsOK_cons (by kernel_rfl) (L117_2949_21 F) (loopsOK_cons (by kernel_rfl) (L117_2949_31 F) loopsOK_nil))))) snil rnil (E117_2949 F)
end
section
noncomputable def f118_5478 {β : Type} (F : Nat) (a1 a2 a3 a4 : Int) (K0 : Int → Option β) : Option β := f172_1 F a1 a2 a3 a4 (fun x1 => f117_2949 F a1 a2 a3 a4 x1 (fun x2 => K0 x2) ) 
variable [FZ]
def sh118_5478 : Sh := ⟨[.lf (.nilp), .agg [.int .i64, .int .i64, .int .i64, .int .i64]], []⟩
abbrev Y118_5478 := Int → Int → Int → Int → (Int → Option Res) → Option Res
noncomputable def A118_5478 (g : Y118_5478) (d : sh118_5478.den) (K : KF) : Option Res := g d.1.2.1.1 d.1.2.1.2.1 d.1.2.1.2.2.1 d.1.2.1.2.2.2.1 (fun y1 => K [.lf (.str ByteArray.empty), .lf (.int .i64 y1)] [])
noncomputable def S118_5478 (F : Nat) (o : Summ) : Summ := mkS sh118_5478 (fun d K => A118_5478 (f118_5478 F) d K) o
noncomputable def T118_5478 (F : Nat) : FuncId → Option Summ := tab [(117, (S117_2949 F noS)), (172, (S172_1 F noS))]
noncomputable def LT118_5478 (F : Nat) : Nat → Option LoopS := ltab []
theorem E118_5478 (F : Nat) (d : sh118_5478.den) (K : KF) : EB Tryz.prog (T118_5478 F) (xw []) 13 0 (LT118_5478 F) [] false Tryz.f118 sh118_5478 d K = A118_5478 (f118_5478 F) d K := by delta A118_5478 f118_5478 T118_5478 S117_2949 S172_1 LT118_5478;  generalize (f117_2949 F : Y117_2949) = c, (f172_1 F : Y172_1) = c; as_aux_lemma => kernel_rfl
theorem S118_5478_ok : So Tryz.prog 118 S118_5478 :=
  fun F o ho => sOf (fn := Tryz.f118) (c := code118) (tab_cons (S117_2949_ok F _ (noS_sound enter117)) (tab_cons (S172_1_ok F _ (noS_sound enter172)) tab_nil)) ho lnil snil rnil (E118_5478 F)
end
section
noncomputable def f29_6206 {β : Type} (F : Nat) (a1 : Int) (K0 : Option β) : Option β := K0
variable [FZ]
def sh29_6206 : Sh := ⟨[.lf (.nilp), .lf (.int .i64)], []⟩
abbrev Y29_6206 := Int → (Option Res) → Option Res
noncomputable def A29_6206 (g : Y29_6206) (d : sh29_6206.den) (K : KF) : Option Res := g d.1.2.1 (K [] [])
noncomputable def S29_6206 (F : Nat) (o : Summ) : Summ := mkS sh29_6206 (fun d K => A29_6206 (f29_6206 F) d K) o
noncomputable def T29_6206 (F : Nat) : FuncId → Option Summ := tab []
noncomputable def LT29_6206 (F : Nat) : Nat → Option LoopS := ltab []
theorem E29_6206 (F : Nat) (d : sh29_6206.den) (K : KF) : EB Tryz.prog (T29_6206 F) (xw []) 11 0 (LT29_6206 F) [] false Tryz.f29 sh29_6206 d K = A29_6206 (f29_6206 F) d K := by delta A29_6206 f29_6206 T29_6206 LT29_6206;   as_aux_lemma => kernel_rfl
theorem S29_6206_ok : So Tryz.prog 29 S29_6206 :=
  fun F o ho => sOf (fn := Tryz.f29) (c := code29) tab_nil ho lnil snil rnil (E29_6206 F)
end
section
noncomputable def f32_7155 {β : Type} (F : Nat) (a1 : List Bool) (K0 : Option β) : Option β := K0
variable [FZ]
def sh32_7155 : Sh := ⟨[.lf (.nilp), .lf (.full 0)], [some ⟨none, [.seq .bool 0]⟩]⟩
abbrev Y32_7155 := List Bool → (Option Res) → Option Res
noncomputable def A32_7155 (g : Y32_7155) (d : sh32_7155.den) (K : KF) : Option Res := g d.2.1.2.1 (K [] [some ⟨d.2.1.1, [.seq .bool 0 d.2.1.2.1]⟩])
noncomputable def S32_7155 (F : Nat) (o : Summ) : Summ := mkS sh32_7155 (fun d K => A32_7155 (f32_7155 F) d K) o
noncomputable def T32_7155 (F : Nat) : FuncId → Option Summ := tab []
noncomputable def LT32_7155 (F : Nat) : Nat → Option LoopS := ltab []
theorem E32_7155 (F : Nat) (d : sh32_7155.den) (K : KF) : EB Tryz.prog (T32_7155 F) (xw []) 47 1 (LT32_7155 F) [] false Tryz.f32 sh32_7155 d K = A32_7155 (f32_7155 F) d K := by delta A32_7155 f32_7155 T32_7155 LT32_7155;   as_aux_lemma => kernel_rfl
theorem S32_7155_ok : So Tryz.prog 32 S32_7155 :=
  fun F o ho => sOf (fn := Tryz.f32) (c := code32) tab_nil ho (by rw [loops32]; exact (loopsOK_skip (by kernel_rfl) loopsOK_nil)) snil rnil (E32_7155 F)
end
end Go.Proofs.YtlgopekjjkdkiaaGreatDoor.X
end