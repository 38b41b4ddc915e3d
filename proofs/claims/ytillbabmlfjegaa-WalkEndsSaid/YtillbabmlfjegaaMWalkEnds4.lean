/- Merged: EvF120, PureW, ShaA, EvS18, EvMultiDef, ShaBlk, EvF116, EvF117, EvF97, EvF56, EvF102, EvF72, EvF57, EvF101, EvF68, EvF69. -/
import Derived.Test.YtillbabmlfjegaaMWalkEnds3
import Derived.Test.YtillbabmlfjegaaProg
import Derived.KernelRfl
import Derived.ChangeArms
import Derived.OpenShut
import Derived.Below
import Derived.Carry
import Derived.ChangeShapes
import Derived.WideShapes
section
namespace Go.Proofs.Ytillbabmlfjegaa.X
open Go Go.Proofs.Ytillbabmlfjegaa.Ev Go.Proofs
set_option linter.unusedVariables false
set_option linter.unusedSectionVars false
/-! pentimentoref03.block -/
noncomputable def f120_1_l3 {β : Type} (F : Nat) (v2 : List Int) (v3 : List Int) (v4 : List Int) (v5 : List Int) (K0 : List Int → Option β) : Nat → Int → List Int → Option β
  | 0, _, _ => none
  | k + 1, v1, v6 => cond (decide (v1 < 16)) (cond (decide ((0 : Int) ≤ IntKind.i64.wrap (4 * v1) ∧ IntKind.i64.wrap (4 * v1) < ((v3.length : Nat) : Int))) (cond (decide (0 + ((IntKind.i64.wrap (4 * v1)).toNat) < v3.length)) (cond (decide ((0 : Int) ≤ IntKind.i64.wrap ((IntKind.i64.wrap (4 * v1)) + 1) ∧ IntKind.i64.wrap ((IntKind.i64.wrap (4 * v1)) + 1) < ((v3.length : Nat) : Int))) (cond (decide (0 + ((IntKind.i64.wrap ((IntKind.i64.wrap (4 * v1)) + 1)).toNat) < v3.length)) (cond (decide ((0 : Int) ≤ IntKind.i64.wrap ((IntKind.i64.wrap (4 * v1)) + 2) ∧ IntKind.i64.wrap ((IntKind.i64.wrap (4 * v1)) + 2) < ((v3.length : Nat) : Int))) (cond (decide (0 + ((IntKind.i64.wrap ((IntKind.i64.wrap (4 * v1)) + 2)).toNat) < v3.length)) (cond (decide ((0 : Int) ≤ IntKind.i64.wrap ((IntKind.i64.wrap (4 * v1)) + 3) ∧ IntKind.i64.wrap ((IntKind.i64.wrap (4 * v1)) + 3) < ((v3.length : Nat) : Int))) (cond (decide (0 + ((IntKind.i64.wrap ((IntKind.i64.wrap (4 * v1)) + 3)).toNat) < v3.length)) (cond (decide ((0 : Int) ≤ v1 ∧ v1 < 64)) (cond (decide (v1.toNat < v6.length)) (f120_1_l3 F v2 v3 v4 v5 K0 k (IntKind.i64.wrap (v1 + 1)) (v6.set v1.toNat (ior .u32 (ior .u32 (ior .u32 (ishl .u32 (IntKind.u32.wrap (v3.getD (0 + ((IntKind.i64.wrap (4 * v1)).toNat)) 0)) 24) (ishl .u32 (IntKind.u32.wrap (v3.getD (0 + ((IntKind.i64.wrap ((IntKind.i64.wrap (4 * v1)) + 1)).toNat)) 0)) 16)) (ishl .u32 (IntKind.u32.wrap (v3.getD (0 + ((IntKind.i64.wrap ((IntKind.i64.wrap (4 * v1)) + 2)).toNat)) 0)) 8)) (IntKind.u32.wrap (v3.getD (0 + ((IntKind.i64.wrap ((IntKind.i64.wrap (4 * v1)) + 3)).toNat)) 0))))) none) none) none) none) none) none) none) none) none) none) (K0 v6)
noncomputable def f120_1_l7 {β : Type} (F : Nat) (v9 : List Int) (v10 : List Int) (v11 : List Int) (v12 : List Int) (K0 : List Int → Option β) : Nat → Int → List Int → Option β
  | 0, _, _ => none
  | k + 1, v8, v13 => cond (decide (v8 < 64)) (cond (decide ((0 : Int) ≤ IntKind.i64.wrap (v8 - 15) ∧ IntKind.i64.wrap (v8 - 15) < 64)) (cond (decide ((IntKind.i64.wrap (v8 - 15)).toNat < v13.length)) (cond (decide ((0 : Int) ≤ IntKind.i64.wrap (v8 - 2) ∧ IntKind.i64.wrap (v8 - 2) < 64)) (cond (decide ((IntKind.i64.wrap (v8 - 2)).toNat < v13.length)) (cond (decide ((0 : Int) ≤ IntKind.i64.wrap (v8 - 16) ∧ IntKind.i64.wrap (v8 - 16) < 64)) (cond (decide ((IntKind.i64.wrap (v8 - 16)).toNat < v13.length)) (cond (decide ((0 : Int) ≤ IntKind.i64.wrap (v8 - 7) ∧ IntKind.i64.wrap (v8 - 7) < 64)) (cond (decide ((IntKind.i64.wrap (v8 - 7)).toNat < v13.length)) (f131_1 F (v13.getD ((IntKind.i64.wrap (v8 - 15)).toNat) 0) 7 (fun x14 => f131_1 F (v13.getD ((IntKind.i64.wrap (v8 - 15)).toNat) 0) 18 (fun x15 => f131_1 F (v13.getD ((IntKind.i64.wrap (v8 - 2)).toNat) 0) 17 (fun x16 => f131_1 F (v13.getD ((IntKind.i64.wrap (v8 - 2)).toNat) 0) 19 (fun x17 => cond (decide ((0 : Int) ≤ v8 ∧ v8 < 64)) (cond (decide (v8.toNat < v13.length)) (f120_1_l7 F v9 v10 v11 v12 K0 k (IntKind.i64.wrap (v8 + 1)) (v13.set v8.toNat (IntKind.u32.wrap ((IntKind.u32.wrap ((IntKind.u32.wrap ((v13.getD ((IntKind.i64.wrap (v8 - 16)).toNat) 0) + (ixor .u32 (ixor .u32 x14 x15) (ishr .u32 (v13.getD ((IntKind.i64.wrap (v8 - 15)).toNat) 0) 3)))) + (v13.getD ((IntKind.i64.wrap (v8 - 7)).toNat) 0))) + (ixor .u32 (ixor .u32 x16 x17) (ishr .u32 (v13.getD ((IntKind.i64.wrap (v8 - 2)).toNat) 0) 10)))))) none) none) ) ) ) ) none) none) none) none) none) none) none) none) (K0 v13)
noncomputable def f120_1_l21 {β : Type} (F : Nat) (v28 : List Int) (v29 : List Int) (v30 : List Int) (v31 : List Int) (v32 : List Int) (K0 : Int → Int → Int → Int → Int → Int → Int → Int → Option β) : Nat → Int → Int → Int → Int → Int → Int → Int → Int → Int → Option β
  | 0, _, _, _, _, _, _, _, _, _ => none
  | k + 1, v19, v20, v21, v22, v23, v24, v25, v26, v27 => cond (decide (v27 < 64)) (cond (decide ((0 : Int) ≤ v27 ∧ v27 < ((v28.length : Nat) : Int))) (cond (decide (0 + v27.toNat < v28.length)) (cond (decide ((0 : Int) ≤ v27 ∧ v27 < 64)) (cond (decide (v27.toNat < v32.length)) (f131_1 F v23 6 (fun x33 => f131_1 F v23 11 (fun x34 => f131_1 F v23 25 (fun x35 => f131_1 F v19 2 (fun x36 => f131_1 F v19 13 (fun x37 => f131_1 F v19 22 (fun x38 => f120_1_l21 F v28 v29 v30 v31 v32 K0 k (IntKind.u32.wrap ((IntKind.u32.wrap ((IntKind.u32.wrap ((IntKind.u32.wrap ((IntKind.u32.wrap (v26 + (ixor .u32 (ixor .u32 x33 x34) x35))) + (ixor .u32 (iand .u32 v23 v24) (iand .u32 (ixor .u32 4294967295 v23) v25)))) + (v28.getD (0 + v27.toNat) 0))) + (v32.getD v27.toNat 0))) + (IntKind.u32.wrap ((ixor .u32 (ixor .u32 x36 x37) x38) + (ixor .u32 (ixor .u32 (iand .u32 v19 v20) (iand .u32 v19 v21)) (iand .u32 v20 v21)))))) v19 v20 v21 (IntKind.u32.wrap (v22 + (IntKind.u32.wrap ((IntKind.u32.wrap ((IntKind.u32.wrap ((IntKind.u32.wrap (v26 + (ixor .u32 (ixor .u32 x33 x34) x35))) + (ixor .u32 (iand .u32 v23 v24) (iand .u32 (ixor .u32 4294967295 v23) v25)))) + (v28.getD (0 + v27.toNat) 0))) + (v32.getD v27.toNat 0))))) v23 v24 v25 (IntKind.i64.wrap (v27 + 1))) ) ) ) ) ) ) none) none) none) none) (K0 v19 v20 v21 v22 v23 v24 v25 v26)
noncomputable def f120_1 {β : Type} (F : Nat) (a1 : List Int) (a2 : List Int) (a3 : List Int) (K0 : List Int → Option β) : Option β := f120_1_l3 F a2 a3 a1 [0, 0, 0, 0, 0, 0, 0, 0] (fun x7 => f120_1_l7 F a2 a3 a1 [0, 0, 0, 0, 0, 0, 0, 0] (fun x18 => cond (decide (0 < a1.length)) (cond (decide (1 < a1.length)) (cond (decide (2 < a1.length)) (cond (decide (3 < a1.length)) (cond (decide (4 < a1.length)) (cond (decide (5 < a1.length)) (cond (decide (6 < a1.length)) (cond (decide (7 < a1.length)) (f120_1_l21 F a2 a3 a1 [0, 0, 0, 0, 0, 0, 0, 0] x18 (fun x39 x40 x41 x42 x43 x44 x45 x46 => cond (decide (0 < a1.length)) (cond (decide (1 < a1.length)) (cond (decide (2 < a1.length)) (cond (decide (3 < a1.length)) (cond (decide (4 < a1.length)) (cond (decide (5 < a1.length)) (cond (decide (6 < a1.length)) (cond (decide (7 < a1.length)) (K0 [IntKind.u32.wrap ((a1.getD 0 0) + x39), IntKind.u32.wrap ((a1.getD 1 0) + x40), IntKind.u32.wrap ((a1.getD 2 0) + x41), IntKind.u32.wrap ((a1.getD 3 0) + x42), IntKind.u32.wrap ((a1.getD 4 0) + x43), IntKind.u32.wrap ((a1.getD 5 0) + x44), IntKind.u32.wrap ((a1.getD 6 0) + x45), IntKind.u32.wrap ((a1.getD 7 0) + x46)]) none) none) none) none) none) none) none) none) F (a1.getD 0 0) (a1.getD 1 0) (a1.getD 2 0) (a1.getD 3 0) (a1.getD 4 0) (a1.getD 5 0) (a1.getD 6 0) (a1.getD 7 0) 0) none) none) none) none) none) none) none) none) F 16 x7) F 0 [0, 0, 0, 0, 0, 0, 0, 0, 0, 0, 0, 0, 0, 0, 0, 0, 0, 0, 0, 0, 0, 0, 0, 0, 0, 0, 0, 0, 0, 0, 0, 0, 0, 0, 0, 0, 0, 0, 0, 0, 0, 0, 0, 0, 0, 0, 0, 0, 0, 0, 0, 0, 0, 0, 0, 0, 0, 0, 0, 0, 0, 0, 0, 0]
variable [FZ]
def sh120_1 : Sh := ⟨[.agg [.seq (.int .u32) 8], .lf (.full 0), .lf (.full 1)], [some ⟨none, [.seq (.int .u32) 0]⟩, some ⟨none, [.seq (.int .u8) 0]⟩]⟩
noncomputable def S120_1 (F : Nat) (o : Summ) : Summ := mkS sh120_1 (fun d K => f120_1 F d.1.1.1 d.2.1.2.1 d.2.2.1.2.1 (fun (y0 : List Int) => K [.agg [.seq (.int .u32) 8 y0]] [some ⟨d.2.1.1, [.seq (.int .u32) 0 d.2.1.2.1]⟩, some ⟨d.2.2.1.1, [.seq (.int .u8) 0 d.2.2.1.2.1]⟩])) o
noncomputable def code120 : Code := bodyOf Try.f120
noncomputable def b120_0 : Code := cB (cB (cR (cL (cR (cR (code120))))))
noncomputable def b120_1 : Code := cB (cB (cR (cL (cR (cR (cR (code120)))))))
noncomputable def b120_2 : Code := cB (cB (cR (cL (cR (cR (cR (cR (cR (cR (cR (cR (cR (cR (cR (cR (code120))))))))))))))))
theorem scopes120 : scopesOf code120 = [] := by kernel_rfl
theorem ranges120 : rangesOf code120 = [] := by kernel_rfl
theorem loops120 : loopsOf code120 = [b120_0, b120_1, b120_2] := by kernel_rfl
theorem enter120 : ∀ args w, (callFunc 120 args).run Try.prog w = .ok (.enter 120 args) w := enter_of (fn := Try.f120) (by kernel_rfl) (by kernel_rfl) (by kernel_rfl)
noncomputable def T120_1 (F : Nat) : FuncId → Option Summ := tab [(131, (S131_1 F noS))]
def sh120_1_l3 : Sh := ⟨[.lf (.full 0), .lf (.full 1), .lf (.ptr 2 0), .lf (.ptr 3 0), .lf (.ptr 4 0), .lf (.int .i64)], [some ⟨none, [.seq (.int .u32) 0]⟩, some ⟨none, [.seq (.int .u8) 0]⟩, some ⟨some false, [.seq (.int .u32) 8]⟩, some ⟨some false, [.seq (.int .u32) 8]⟩, some ⟨some false, [.seq (.int .u32) 64]⟩]⟩
def sh120_1_l7 : Sh := ⟨[.lf (.full 0), .lf (.ptr 2 0), .lf (.ptr 3 0), .lf (.ptr 4 0), .lf (.int .i64)], [some ⟨none, [.seq (.int .u32) 0]⟩, some ⟨none, [.seq (.int .u8) 0]⟩, some ⟨some false, [.seq (.int .u32) 8]⟩, some ⟨some false, [.seq (.int .u32) 8]⟩, some ⟨some false, [.seq (.int .u32) 64]⟩]⟩
def sh120_1_l21 : Sh := ⟨[.lf (.full 0), .lf (.ptr 2 0), .lf (.ptr 3 0), .lf (.ptr 4 0), .lf (.int .u32), .lf (.int .u32), .lf (.int .u32), .lf (.int .u32), .lf (.int .u32), .lf (.int .u32), .lf (.int .u32), .lf (.int .u32), .lf (.int .i64)], [some ⟨none, [.seq (.int .u32) 0]⟩, some ⟨none, [.seq (.int .u8) 0]⟩, some ⟨some false, [.seq (.int .u32) 8]⟩, some ⟨some false, [.seq (.int .u32) 8]⟩, some ⟨some false, [.seq (.int .u32) 64]⟩]⟩
noncomputable def G120_1_3 (F k : Nat) : LoopS := mkG sh120_1_l3 [1, 2, 3, 6, 7, 8] (outT [(.exit 0, [1, 3, 6, 7])]) (fun d K => f120_1_l3 F d.2.1.2.1 d.2.2.1.2.1 d.2.2.2.1.2.1 d.2.2.2.2.1.2.1 (fun (y4 : List Int) => K (.exit 0) [.tv (.lf (.full 0)), .tv (.lf (.ptr 2 0)), .tv (.lf (.ptr 3 0)), .tv (.lf (.ptr 4 0))] [some ⟨d.2.1.1, [.seq (.int .u32) 0 d.2.1.2.1]⟩, some ⟨d.2.2.1.1, [.seq (.int .u8) 0 d.2.2.1.2.1]⟩, some ⟨false, [.seq (.int .u32) 8 d.2.2.2.1.2.1]⟩, some ⟨false, [.seq (.int .u32) 8 d.2.2.2.2.1.2.1]⟩, some ⟨false, [.seq (.int .u32) 64 y4]⟩]) k d.1.2.2.2.2.2.1 d.2.2.2.2.2.1.2.1) []
noncomputable def G120_1_7 (F k : Nat) : LoopS := mkG sh120_1_l7 [1, 3, 6, 7, 9] (outT [(.exit 2, [1, 3, 6, 7])]) (fun d K => f120_1_l7 F d.2.1.2.1 d.2.2.1.2.1 d.2.2.2.1.2.1 d.2.2.2.2.1.2.1 (fun (y4 : List Int) => K (.exit 2) [.tv (.lf (.full 0)), .tv (.lf (.ptr 2 0)), .tv (.lf (.ptr 3 0)), .tv (.lf (.ptr 4 0))] [some ⟨d.2.1.1, [.seq (.int .u32) 0 d.2.1.2.1]⟩, some ⟨d.2.2.1.1, [.seq (.int .u8) 0 d.2.2.1.2.1]⟩, some ⟨false, [.seq (.int .u32) 8 d.2.2.2.1.2.1]⟩, some ⟨false, [.seq (.int .u32) 8 d.2.2.2.2.1.2.1]⟩, some ⟨false, [.seq (.int .u32) 64 y4]⟩]) k d.1.2.2.2.2.1 d.2.2.2.2.2.1.2.1) []
noncomputable def G120_1_21 (F k : Nat) : LoopS := mkG sh120_1_l21 [1, 3, 6, 7, 12, 13, 14, 15, 16, 17, 18, 19, 20] (outT [(.exit 4, [3, 6, 12, 13, 14, 15, 16, 17, 18, 19])]) (fun d K => f120_1_l21 F d.2.1.2.1 d.2.2.1.2.1 d.2.2.2.1.2.1 d.2.2.2.2.1.2.1 d.2.2.2.2.2.1.2.1 (fun (y0 : Int) (y1 : Int) (y2 : Int) (y3 : Int) (y4 : Int) (y5 : Int) (y6 : Int) (y7 : Int) => K (.exit 4) [.tv (.lf (.ptr 2 0)), .tv (.lf (.ptr 3 0)), .tv (.lf (.int .u32 y0)), .tv (.lf (.int .u32 y1)), .tv (.lf (.int .u32 y2)), .tv (.lf (.int .u32 y3)), .tv (.lf (.int .u32 y4)), .tv (.lf (.int .u32 y5)), .tv (.lf (.int .u32 y6)), .tv (.lf (.int .u32 y7))] [some ⟨d.2.1.1, [.seq (.int .u32) 0 d.2.1.2.1]⟩, some ⟨d.2.2.1.1, [.seq (.int .u8) 0 d.2.2.1.2.1]⟩, some ⟨false, [.seq (.int .u32) 8 d.2.2.2.1.2.1]⟩, some ⟨false, [.seq (.int .u32) 8 d.2.2.2.2.1.2.1]⟩, some ⟨false, [.seq (.int .u32) 64 d.2.2.2.2.2.1.2.1]⟩]) k d.1.2.2.2.2.1 d.1.2.2.2.2.2.1 d.1.2.2.2.2.2.2.1 d.1.2.2.2.2.2.2.2.1 d.1.2.2.2.2.2.2.2.2.1 d.1.2.2.2.2.2.2.2.2.2.1 d.1.2.2.2.2.2.2.2.2.2.2.1 d.1.2.2.2.2.2.2.2.2.2.2.2.1 d.1.2.2.2.2.2.2.2.2.2.2.2.2.1) []
noncomputable def LT120_1 (F : Nat) : Nat → Option LoopS := ltab [(3, G120_1_3 F F), (7, G120_1_7 F F), (21, G120_1_21 F F)]
theorem L120_1_l3g (F k : Nat) (c131_1 : Int → Int → (Int → Option Res) → Option Res)  (l3 : List Int → List Int → List Int → List Int → (List Int → Option Res) → Nat → Int → List Int → Option Res) (X3 : LoopS) (X7 : LoopS) (X21 : LoopS) (d : sh120_1_l3.den) (K : KL) : (fun (v2 : List Int) (v3 : List Int) (v4 : List Int) (v5 : List Int) (K0 : (List Int → Option Res)) (k : Nat) (v1 : Int) (v6 : List Int) => cond (decide (v1 < 16)) (cond (decide ((0 : Int) ≤ IntKind.i64.wrap (4 * v1) ∧ IntKind.i64.wrap (4 * v1) < ((v3.length : Nat) : Int))) (cond (decide (0 + ((IntKind.i64.wrap (4 * v1)).toNat) < v3.length)) (cond (decide ((0 : Int) ≤ IntKind.i64.wrap ((IntKind.i64.wrap (4 * v1)) + 1) ∧ IntKind.i64.wrap ((IntKind.i64.wrap (4 * v1)) + 1) < ((v3.length : Nat) : Int))) (cond (decide (0 + ((IntKind.i64.wrap ((IntKind.i64.wrap (4 * v1)) + 1)).toNat) < v3.length)) (cond (decide ((0 : Int) ≤ IntKind.i64.wrap ((IntKind.i64.wrap (4 * v1)) + 2) ∧ IntKind.i64.wrap ((IntKind.i64.wrap (4 * v1)) + 2) < ((v3.length : Nat) : Int))) (cond (decide (0 + ((IntKind.i64.wrap ((IntKind.i64.wrap (4 * v1)) + 2)).toNat) < v3.length)) (cond (decide ((0 : Int) ≤ IntKind.i64.wrap ((IntKind.i64.wrap (4 * v1)) + 3) ∧ IntKind.i64.wrap ((IntKind.i64.wrap (4 * v1)) + 3) < ((v3.length : Nat) : Int))) (cond (decide (0 + ((IntKind.i64.wrap ((IntKind.i64.wrap (4 * v1)) + 3)).toNat) < v3.length)) (cond (decide ((0 : Int) ≤ v1 ∧ v1 < 64)) (cond (decide (v1.toNat < v6.length)) (l3 v2 v3 v4 v5 K0 k (IntKind.i64.wrap (v1 + 1)) (v6.set v1.toNat (ior .u32 (ior .u32 (ior .u32 (ishl .u32 (IntKind.u32.wrap (v3.getD (0 + ((IntKind.i64.wrap (4 * v1)).toNat)) 0)) 24) (ishl .u32 (IntKind.u32.wrap (v3.getD (0 + ((IntKind.i64.wrap ((IntKind.i64.wrap (4 * v1)) + 1)).toNat)) 0)) 16)) (ishl .u32 (IntKind.u32.wrap (v3.getD (0 + ((IntKind.i64.wrap ((IntKind.i64.wrap (4 * v1)) + 2)).toNat)) 0)) 8)) (IntKind.u32.wrap (v3.getD (0 + ((IntKind.i64.wrap ((IntKind.i64.wrap (4 * v1)) + 3)).toNat)) 0))))) none) none) none) none) none) none) none) none) none) none) (K0 v6)) d.2.1.2.1 d.2.2.1.2.1 d.2.2.2.1.2.1 d.2.2.2.2.1.2.1 (fun (y4 : List Int) => K (.exit 0) [.tv (.lf (.full 0)), .tv (.lf (.ptr 2 0)), .tv (.lf (.ptr 3 0)), .tv (.lf (.ptr 4 0))] [some ⟨d.2.1.1, [.seq (.int .u32) 0 d.2.1.2.1]⟩, some ⟨d.2.2.1.1, [.seq (.int .u8) 0 d.2.2.1.2.1]⟩, some ⟨false, [.seq (.int .u32) 8 d.2.2.2.1.2.1]⟩, some ⟨false, [.seq (.int .u32) 8 d.2.2.2.2.1.2.1]⟩, some ⟨false, [.seq (.int .u32) 64 y4]⟩]) k d.1.2.2.2.2.2.1 d.2.2.2.2.2.1.2.1 = roundOf Try.prog (tab [(131, (mkS sh131_1 (fun d K => c131_1 d.1.1 d.1.2.1 (fun (y0 : Int) => K [.lf (.int .u32 y0)] [])) noS))]) (xw []) 217 2 (ltab [(3, X3), (7, X7), (21, X21)]) (mkG sh120_1_l3 [1, 2, 3, 6, 7, 8] (outT [(.exit 0, [1, 3, 6, 7])]) (fun d K => l3 d.2.1.2.1 d.2.2.1.2.1 d.2.2.2.1.2.1 d.2.2.2.2.1.2.1 (fun (y4 : List Int) => K (.exit 0) [.tv (.lf (.full 0)), .tv (.lf (.ptr 2 0)), .tv (.lf (.ptr 3 0)), .tv (.lf (.ptr 4 0))] [some ⟨d.2.1.1, [.seq (.int .u32) 0 d.2.1.2.1]⟩, some ⟨d.2.2.1.1, [.seq (.int .u8) 0 d.2.2.1.2.1]⟩, some ⟨false, [.seq (.int .u32) 8 d.2.2.2.1.2.1]⟩, some ⟨false, [.seq (.int .u32) 8 d.2.2.2.2.1.2.1]⟩, some ⟨false, [.seq (.int .u32) 64 y4]⟩]) k d.1.2.2.2.2.2.1 d.2.2.2.2.2.1.2.1) []) b120_0 (encT sh120_1_l3.vs d.1) (encH sh120_1_l3.h d.2) K := by kernel_rfl
theorem L120_1_3 (F : Nat) : LoopOK Try.prog (T120_1 F) (xw []) 217 2 (LT120_1 F) (G120_1_3 F F) b120_0 :=
  loopOK_of (s := sh120_1_l3) (live := [1, 2, 3, 6, 7, 8]) (out := (outT [(.exit 0, [1, 3, 6, 7])])) (mv := []) (fun k d K => f120_1_l3 F d.2.1.2.1 d.2.2.1.2.1 d.2.2.2.1.2.1 d.2.2.2.2.1.2.1 (fun (y4 : List Int) => K (.exit 0) [.tv (.lf (.full 0)), .tv (.lf (.ptr 2 0)), .tv (.lf (.ptr 3 0)), .tv (.lf (.ptr 4 0))] [some ⟨d.2.1.1, [.seq (.int .u32) 0 d.2.1.2.1]⟩, some ⟨d.2.2.1.1, [.seq (.int .u8) 0 d.2.2.1.2.1]⟩, some ⟨false, [.seq (.int .u32) 8 d.2.2.2.1.2.1]⟩, some ⟨false, [.seq (.int .u32) 8 d.2.2.2.2.1.2.1]⟩, some ⟨false, [.seq (.int .u32) 64 y4]⟩]) k d.1.2.2.2.2.2.1 d.2.2.2.2.2.1.2.1) F (fun d K => by kernel_rfl)  (fun k d K => Eq.mp (by kernel_rfl) (L120_1_l3g F k (f131_1 F)  (f120_1_l3 F) (G120_1_3 F F) (G120_1_7 F F) (G120_1_21 F F) d K))
theorem L120_1_l7g (F k : Nat) (c131_1 : Int → Int → (Int → Option Res) → Option Res)  (l7 : List Int → List Int → List Int → List Int → (List Int → Option Res) → Nat → Int → List Int → Option Res) (X3 : LoopS) (X7 : LoopS) (X21 : LoopS) (d : sh120_1_l7.den) (K : KL) : (fun (v9 : List Int) (v10 : List Int) (v11 : List Int) (v12 : List Int) (K0 : (List Int → Option Res)) (k : Nat) (v8 : Int) (v13 : List Int) => cond (decide (v8 < 64)) (cond (decide ((0 : Int) ≤ IntKind.i64.wrap (v8 - 15) ∧ IntKind.i64.wrap (v8 - 15) < 64)) (cond (decide ((IntKind.i64.wrap (v8 - 15)).toNat < v13.length)) (cond (decide ((0 : Int) ≤ IntKind.i64.wrap (v8 - 2) ∧ IntKind.i64.wrap (v8 - 2) < 64)) (cond (decide ((IntKind.i64.wrap (v8 - 2)).toNat < v13.length)) (cond (decide ((0 : Int) ≤ IntKind.i64.wrap (v8 - 16) ∧ IntKind.i64.wrap (v8 - 16) < 64)) (cond (decide ((IntKind.i64.wrap (v8 - 16)).toNat < v13.length)) (cond (decide ((0 : Int) ≤ IntKind.i64.wrap (v8 - 7) ∧ IntKind.i64.wrap (v8 - 7) < 64)) (cond (decide ((IntKind.i64.wrap (v8 - 7)).toNat < v13.length)) (c131_1 (v13.getD ((IntKind.i64.wrap (v8 - 15)).toNat) 0) 7 (fun x14 => c131_1 (v13.getD ((IntKind.i64.wrap (v8 - 15)).toNat) 0) 18 (fun x15 => c131_1 (v13.getD ((IntKind.i64.wrap (v8 - 2)).toNat) 0) 17 (fun x16 => c131_1 (v13.getD ((IntKind.i64.wrap (v8 - 2)).toNat) 0) 19 (fun x17 => cond (decide ((0 : Int) ≤ v8 ∧ v8 < 64)) (cond (decide (v8.toNat < v13.length)) (l7 v9 v10 v11 v12 K0 k (IntKind.i64.wrap (v8 + 1)) (v13.set v8.toNat (IntKind.u32.wrap ((IntKind.u32.wrap ((IntKind.u32.wrap ((v13.getD ((IntKind.i64.wrap (v8 - 16)).toNat) 0) + (ixor .u32 (ixor .u32 x14 x15) (ishr .u32 (v13.getD ((IntKind.i64.wrap (v8 - 15)).toNat) 0) 3)))) + (v13.getD ((IntKind.i64.wrap (v8 - 7)).toNat) 0))) + (ixor .u32 (ixor .u32 x16 x17) (ishr .u32 (v13.getD ((IntKind.i64.wrap (v8 - 2)).toNat) 0) 10)))))) none) none) ) ) ) ) none) none) none) none) none) none) none) none) (K0 v13)) d.2.1.2.1 d.2.2.1.2.1 d.2.2.2.1.2.1 d.2.2.2.2.1.2.1 (fun (y4 : List Int) => K (.exit 2) [.tv (.lf (.full 0)), .tv (.lf (.ptr 2 0)), .tv (.lf (.ptr 3 0)), .tv (.lf (.ptr 4 0))] [some ⟨d.2.1.1, [.seq (.int .u32) 0 d.2.1.2.1]⟩, some ⟨d.2.2.1.1, [.seq (.int .u8) 0 d.2.2.1.2.1]⟩, some ⟨false, [.seq (.int .u32) 8 d.2.2.2.1.2.1]⟩, some ⟨false, [.seq (.int .u32) 8 d.2.2.2.2.1.2.1]⟩, some ⟨false, [.seq (.int .u32) 64 y4]⟩]) k d.1.2.2.2.2.1 d.2.2.2.2.2.1.2.1 = roundOf Try.prog (tab [(131, (mkS sh131_1 (fun d K => c131_1 d.1.1 d.1.2.1 (fun (y0 : Int) => K [.lf (.int .u32 y0)] [])) noS))]) (xw []) 217 2 (ltab [(3, X3), (7, X7), (21, X21)]) (mkG sh120_1_l7 [1, 3, 6, 7, 9] (outT [(.exit 2, [1, 3, 6, 7])]) (fun d K => l7 d.2.1.2.1 d.2.2.1.2.1 d.2.2.2.1.2.1 d.2.2.2.2.1.2.1 (fun (y4 : List Int) => K (.exit 2) [.tv (.lf (.full 0)), .tv (.lf (.ptr 2 0)), .tv (.lf (.ptr 3 0)), .tv (.lf (.ptr 4 0))] [some ⟨d.2.1.1, [.seq (.int .u32) 0 d.2.1.2.1]⟩, some ⟨d.2.2.1.1, [.seq (.int .u8) 0 d.2.2.1.2.1]⟩, some ⟨false, [.seq (.int .u32) 8 d.2.2.2.1.2.1]⟩, some ⟨false, [.seq (.int .u32) 8 d.2.2.2.2.1.2.1]⟩, some ⟨false, [.seq (.int .u32) 64 y4]⟩]) k d.1.2.2.2.2.1 d.2.2.2.2.2.1.2.1) []) b120_1 (encT sh120_1_l7.vs d.1) (encH sh120_1_l7.h d.2) K := by kernel_rfl
theorem L120_1_7 (F : Nat) : LoopOK Try.prog (T120_1 F) (xw []) 217 2 (LT120_1 F) (G120_1_7 F F) b120_1 :=
  loopOK_of (s := sh120_1_l7) (live := [1, 3, 6, 7, 9]) (out := (outT [(.exit 2, [1, 3, 6, 7])])) (mv := []) (fun k d K => f120_1_l7 F d.2.1.2.1 d.2.2.1.2.1 d.2.2.2.1.2.1 d.2.2.2.2.1.2.1 (fun (y4 : List Int) => K (.exit 2) [.tv (.lf (.full 0)), .tv (.lf (.ptr 2 0)), .tv (.lf (.ptr 3 0)), .tv (.lf (.ptr 4 0))] [some ⟨d.2.1.1, [.seq (.int .u32) 0 d.2.1.2.1]⟩, some ⟨d.2.2.1.1, [.seq (.int .u8) 0 d.2.2.1.2.1]⟩, some ⟨false, [.seq (.int .u32) 8 d.2.2.2.1.2.1]⟩, some ⟨false, [.seq (.int .u32) 8 d.2.2.2.2.1.2.1]⟩, some ⟨false, [.seq (.int .u32) 64 y4]⟩]) k d.1.2.2.2.2.1 d.2.2.2.2.2.1.2.1) F (fun d K => by kernel_rfl)  (fun k d K => Eq.mp (by kernel_rfl) (L120_1_l7g F k (f131_1 F)  (f120_1_l7 F) (G120_1_3 F F) (G120_1_7 F F) (G120_1_21 F F) d K))
theorem L120_1_l21g (F k : Nat) (c131_1 : Int → Int → (Int → Option Res) → Option Res)  (l21 : List Int → List Int → List Int → List Int → List Int → (Int → Int → Int → Int → Int → Int → Int → Int → Option Res) → Nat → Int → Int → Int → Int → Int → Int → Int → Int → Int → Option Res) (X3 : LoopS) (X7 : LoopS) (X21 : LoopS) (d : sh120_1_l21.den) (K : KL) : (fun (v28 : List Int) (v29 : List Int) (v30 : List Int) (v31 : List Int) (v32 : List Int) (K0 : (Int → Int → Int → Int → Int → Int → Int → Int → Option Res)) (k : Nat) (v19 : Int) (v20 : Int) (v21 : Int) (v22 : Int) (v23 : Int) (v24 : Int) (v25 : Int) (v26 : Int) (v27 : Int) => cond (decide (v27 < 64)) (cond (decide ((0 : Int) ≤ v27 ∧ v27 < ((v28.length : Nat) : Int))) (cond (decide (0 + v27.toNat < v28.length)) (cond (decide ((0 : Int) ≤ v27 ∧ v27 < 64)) (cond (decide (v27.toNat < v32.length)) (c131_1 v23 6 (fun x33 => c131_1 v23 11 (fun x34 => c131_1 v23 25 (fun x35 => c131_1 v19 2 (fun x36 => c131_1 v19 13 (fun x37 => c131_1 v19 22 (fun x38 => l21 v28 v29 v30 v31 v32 K0 k (IntKind.u32.wrap ((IntKind.u32.wrap ((IntKind.u32.wrap ((IntKind.u32.wrap ((IntKind.u32.wrap (v26 + (ixor .u32 (ixor .u32 x33 x34) x35))) + (ixor .u32 (iand .u32 v23 v24) (iand .u32 (ixor .u32 4294967295 v23) v25)))) + (v28.getD (0 + v27.toNat) 0))) + (v32.getD v27.toNat 0))) + (IntKind.u32.wrap ((ixor .u32 (ixor .u32 x36 x37) x38) + (ixor .u32 (ixor .u32 (iand .u32 v19 v20) (iand .u32 v19 v21)) (iand .u32 v20 v21)))))) v19 v20 v21 (IntKind.u32.wrap (v22 + (IntKind.u32.wrap ((IntKind.u32.wrap ((IntKind.u32.wrap ((IntKind.u32.wrap (v26 + (ixor .u32 (ixor .u32 x33 x34) x35))) + (ixor .u32 (iand .u32 v23 v24) (iand .u32 (ixor .u32 4294967295 v23) v25)))) + (v28.getD (0 + v27.toNat) 0))) + (v32.getD v27.toNat 0))))) v23 v24 v25 (IntKind.i64.wrap (v27 + 1))) ) ) ) ) ) ) none) none) none) none) (K0 v19 v20 v21 v22 v23 v24 v25 v26)) d.2.1.2.1 d.2.2.1.2.1 d.2.2.2.1.2.1 d.2.2.2.2.1.2.1 d.2.2.2.2.2.1.2.1 (fun (y0 : Int) (y1 : Int) (y2 : Int) (y3 : Int) (y4 : Int) (y5 : Int) (y6 : Int) (y7 : Int) => K (.exit 4) [.tv (.lf (.ptr 2 0)), .tv (.lf (.ptr 3 0)), .tv (.lf (.int .u32 y0)), .tv (.lf (.int .u32 y1)), .tv (.lf (.int .u32 y2)), .tv (.lf (.int .u32 y3)), .tv (.lf (.int .u32 y4)), .tv (.lf (.int .u32 y5)), .tv (.lf (.int .u32 y6)), .tv (.lf (.int .u32 y7))] [some ⟨d.2.1.1, [.seq (.int .u32) 0 d.2.1.2.1]⟩, some ⟨d.2.2.1.1, [.seq (.int .u8) 0 d.2.2.1.2.1]⟩, some ⟨false, [.seq (.int .u32) 8 d.2.2.2.1.2.1]⟩, some ⟨false, [.seq (.int .u32) 8 d.2.2.2.2.1.2.1]⟩, some ⟨false, [.seq (.int .u32) 64 d.2.2.2.2.2.1.2.1]⟩]) k d.1.2.2.2.2.1 d.1.2.2.2.2.2.1 d.1.2.2.2.2.2.2.1 d.1.2.2.2.2.2.2.2.1 d.1.2.2.2.2.2.2.2.2.1 d.1.2.2.2.2.2.2.2.2.2.1 d.1.2.2.2.2.2.2.2.2.2.2.1 d.1.2.2.2.2.2.2.2.2.2.2.2.1 d.1.2.2.2.2.2.2.2.2.2.2.2.2.1 = roundOf Try.prog (tab [(131, (mkS sh131_1 (fun d K => c131_1 d.1.1 d.1.2.1 (fun (y0 : Int) => K [.lf (.int .u32 y0)] [])) noS))]) (xw []) 217 2 (ltab [(3, X3), (7, X7), (21, X21)]) (mkG sh120_1_l21 [1, 3, 6, 7, 12, 13, 14, 15, 16, 17, 18, 19, 20] (outT [(.exit 4, [3, 6, 12, 13, 14, 15, 16, 17, 18, 19])]) (fun d K => l21 d.2.1.2.1 d.2.2.1.2.1 d.2.2.2.1.2.1 d.2.2.2.2.1.2.1 d.2.2.2.2.2.1.2.1 (fun (y0 : Int) (y1 : Int) (y2 : Int) (y3 : Int) (y4 : Int) (y5 : Int) (y6 : Int) (y7 : Int) => K (.exit 4) [.tv (.lf (.ptr 2 0)), .tv (.lf (.ptr 3 0)), .tv (.lf (.int .u32 y0)), .tv (.lf (.int .u32 y1)), .tv (.lf (.int .u32 y2)), .tv (.lf (.int .u32 y3)), .tv (.lf (.int .u32 y4)), .tv (.lf (.int .u32 y5)), .tv (.lf (.int .u32 y6)), .tv (.lf (.int .u32 y7))] [some ⟨d.2.1.1, [.seq (.int .u32) 0 d.2.1.2.1]⟩, some ⟨d.2.2.1.1, [.seq (.int .u8) 0 d.2.2.1.2.1]⟩, some ⟨false, [.seq (.int .u32) 8 d.2.2.2.1.2.1]⟩, some ⟨false, [.seq (.int .u32) 8 d.2.2.2.2.1.2.1]⟩, some ⟨false, [.seq (.int .u32) 64 d.2.2.2.2.2.1.2.1]⟩]) k d.1.2.2.2.2.1 d.1.2.2.2.2.2.1 d.1.2.2.2.2.2.2.1 d.1.2.2.2.2.2.2.2.1 d.1.2.2.2.2.2.2.2.2.1 d.1.2.2.2.2.2.2.2.2.2.1 d.1.2.2.2.2.2.2.2.2.2.2.1 d.1.2.2.2.2.2.2.2.2.2.2.2.1 d.1.2.2.2.2.2.2.2.2.2.2.2.2.1) []) b120_2 (encT sh120_1_l21.vs d.1) (encH sh120_1_l21.h d.2) K := by kernel_rfl
theorem L120_1_21 (F : Nat) : LoopOK Try.prog (T120_1 F) (xw []) 217 2 (LT120_1 F) (G120_1_21 F F) b120_2 :=
  loopOK_of (s := sh120_1_l21) (live := [1, 3, 6, 7, 12, 13, 14, 15, 16, 17, 18, 19, 20]) (out := (outT [(.exit 4, [3, 6, 12, 13, 14, 15, 16, 17, 18, 19])])) (mv := []) (fun k d K => f120_1_l21 F d.2.1.2.1 d.2.2.1.2.1 d.2.2.2.1.2.1 d.2.2.2.2.1.2.1 d.2.2.2.2.2.1.2.1 (fun (y0 : Int) (y1 : Int) (y2 : Int) (y3 : Int) (y4 : Int) (y5 : Int) (y6 : Int) (y7 : Int) => K (.exit 4) [.tv (.lf (.ptr 2 0)), .tv (.lf (.ptr 3 0)), .tv (.lf (.int .u32 y0)), .tv (.lf (.int .u32 y1)), .tv (.lf (.int .u32 y2)), .tv (.lf (.int .u32 y3)), .tv (.lf (.int .u32 y4)), .tv (.lf (.int .u32 y5)), .tv (.lf (.int .u32 y6)), .tv (.lf (.int .u32 y7))] [some ⟨d.2.1.1, [.seq (.int .u32) 0 d.2.1.2.1]⟩, some ⟨d.2.2.1.1, [.seq (.int .u8) 0 d.2.2.1.2.1]⟩, some ⟨false, [.seq (.int .u32) 8 d.2.2.2.1.2.1]⟩, some ⟨false, [.seq (.int .u32) 8 d.2.2.2.2.1.2.1]⟩, some ⟨false, [.seq (.int .u32) 64 d.2.2.2.2.2.1.2.1]⟩]) k d.1.2.2.2.2.1 d.1.2.2.2.2.2.1 d.1.2.2.2.2.2.2.1 d.1.2.2.2.2.2.2.2.1 d.1.2.2.2.2.2.2.2.2.1 d.1.2.2.2.2.2.2.2.2.2.1 d.1.2.2.2.2.2.2.2.2.2.2.1 d.1.2.2.2.2.2.2.2.2.2.2.2.1 d.1.2.2.2.2.2.2.2.2.2.2.2.2.1) F (fun d K => by kernel_rfl)  (fun k d K => Eq.mp (by kernel_rfl) (L120_1_l21g F k (f131_1 F)  (f120_1_l21 F) (G120_1_3 F F) (G120_1_7 F F) (G120_1_21 F F) d K))
theorem E120_1g (F : Nat) (c131_1 : Int → Int → (Int → Option Res) → Option Res) (l3 : List Int → List Int → List Int → List Int → (List Int → Option Res) → Nat → Int → List Int → Option Res) (l7 : List Int → List Int → List Int → List Int → (List Int → Option Res) → Nat → Int → List Int → Option Res) (l21 : List Int → List Int → List Int → List Int → List Int → (Int → Int → Int → Int → Int → Int → Int → Int → Option Res) → Nat → Int → Int → Int → Int → Int → Int → Int → Int → Int → Option Res)  (d : sh120_1.den) (K : KF) : evBody Try.prog (tab [(131, (mkS sh131_1 (fun d K => c131_1 d.1.1 d.1.2.1 (fun (y0 : Int) => K [.lf (.int .u32 y0)] [])) noS))]) (xw []) 217 2 (ltab [(3, mkG sh120_1_l3 [1, 2, 3, 6, 7, 8] (outT [(.exit 0, [1, 3, 6, 7])]) (fun d K => l3 d.2.1.2.1 d.2.2.1.2.1 d.2.2.2.1.2.1 d.2.2.2.2.1.2.1 (fun (y4 : List Int) => K (.exit 0) [.tv (.lf (.full 0)), .tv (.lf (.ptr 2 0)), .tv (.lf (.ptr 3 0)), .tv (.lf (.ptr 4 0))] [some ⟨d.2.1.1, [.seq (.int .u32) 0 d.2.1.2.1]⟩, some ⟨d.2.2.1.1, [.seq (.int .u8) 0 d.2.2.1.2.1]⟩, some ⟨false, [.seq (.int .u32) 8 d.2.2.2.1.2.1]⟩, some ⟨false, [.seq (.int .u32) 8 d.2.2.2.2.1.2.1]⟩, some ⟨false, [.seq (.int .u32) 64 y4]⟩]) F d.1.2.2.2.2.2.1 d.2.2.2.2.2.1.2.1) []), (7, mkG sh120_1_l7 [1, 3, 6, 7, 9] (outT [(.exit 2, [1, 3, 6, 7])]) (fun d K => l7 d.2.1.2.1 d.2.2.1.2.1 d.2.2.2.1.2.1 d.2.2.2.2.1.2.1 (fun (y4 : List Int) => K (.exit 2) [.tv (.lf (.full 0)), .tv (.lf (.ptr 2 0)), .tv (.lf (.ptr 3 0)), .tv (.lf (.ptr 4 0))] [some ⟨d.2.1.1, [.seq (.int .u32) 0 d.2.1.2.1]⟩, some ⟨d.2.2.1.1, [.seq (.int .u8) 0 d.2.2.1.2.1]⟩, some ⟨false, [.seq (.int .u32) 8 d.2.2.2.1.2.1]⟩, some ⟨false, [.seq (.int .u32) 8 d.2.2.2.2.1.2.1]⟩, some ⟨false, [.seq (.int .u32) 64 y4]⟩]) F d.1.2.2.2.2.1 d.2.2.2.2.2.1.2.1) []), (21, mkG sh120_1_l21 [1, 3, 6, 7, 12, 13, 14, 15, 16, 17, 18, 19, 20] (outT [(.exit 4, [3, 6, 12, 13, 14, 15, 16, 17, 18, 19])]) (fun d K => l21 d.2.1.2.1 d.2.2.1.2.1 d.2.2.2.1.2.1 d.2.2.2.2.1.2.1 d.2.2.2.2.2.1.2.1 (fun (y0 : Int) (y1 : Int) (y2 : Int) (y3 : Int) (y4 : Int) (y5 : Int) (y6 : Int) (y7 : Int) => K (.exit 4) [.tv (.lf (.ptr 2 0)), .tv (.lf (.ptr 3 0)), .tv (.lf (.int .u32 y0)), .tv (.lf (.int .u32 y1)), .tv (.lf (.int .u32 y2)), .tv (.lf (.int .u32 y3)), .tv (.lf (.int .u32 y4)), .tv (.lf (.int .u32 y5)), .tv (.lf (.int .u32 y6)), .tv (.lf (.int .u32 y7))] [some ⟨d.2.1.1, [.seq (.int .u32) 0 d.2.1.2.1]⟩, some ⟨d.2.2.1.1, [.seq (.int .u8) 0 d.2.2.1.2.1]⟩, some ⟨false, [.seq (.int .u32) 8 d.2.2.2.1.2.1]⟩, some ⟨false, [.seq (.int .u32) 8 d.2.2.2.2.1.2.1]⟩, some ⟨false, [.seq (.int .u32) 64 d.2.2.2.2.2.1.2.1]⟩]) F d.1.2.2.2.2.1 d.1.2.2.2.2.2.1 d.1.2.2.2.2.2.2.1 d.1.2.2.2.2.2.2.2.1 d.1.2.2.2.2.2.2.2.2.1 d.1.2.2.2.2.2.2.2.2.2.1 d.1.2.2.2.2.2.2.2.2.2.2.1 d.1.2.2.2.2.2.2.2.2.2.2.2.1 d.1.2.2.2.2.2.2.2.2.2.2.2.2.1) [])]) code120 Try.f120.results.toList (encT sh120_1.vs d.1) (encH sh120_1.h d.2) K = (fun (a1 : List Int) (a2 : List Int) (a3 : List Int) (K0 : (List Int → Option Res)) => l3 a2 a3 a1 [0, 0, 0, 0, 0, 0, 0, 0] (fun x7 => l7 a2 a3 a1 [0, 0, 0, 0, 0, 0, 0, 0] (fun x18 => cond (decide (0 < a1.length)) (cond (decide (1 < a1.length)) (cond (decide (2 < a1.length)) (cond (decide (3 < a1.length)) (cond (decide (4 < a1.length)) (cond (decide (5 < a1.length)) (cond (decide (6 < a1.length)) (cond (decide (7 < a1.length)) (l21 a2 a3 a1 [0, 0, 0, 0, 0, 0, 0, 0] x18 (fun x39 x40 x41 x42 x43 x44 x45 x46 => cond (decide (0 < a1.length)) (cond (decide (1 < a1.length)) (cond (decide (2 < a1.length)) (cond (decide (3 < a1.length)) (cond (decide (4 < a1.length)) (cond (decide (5 < a1.length)) (cond (decide (6 < a1.length)) (cond (decide (7 < a1.length)) (K0 [IntKind.u32.wrap ((a1.getD 0 0) + x39), IntKind.u32.wrap ((a1.getD 1 0) + x40), IntKind.u32.wrap ((a1.getD 2 0) + x41), IntKind.u32.wrap ((a1.getD 3 0) + x42), IntKind.u32.wrap ((a1.getD 4 0) + x43), IntKind.u32.wrap ((a1.getD 5 0) + x44), IntKind.u32.wrap ((a1.getD 6 0) + x45), IntKind.u32.wrap ((a1.getD 7 0) + x46)]) none) none) none) none) none) none) none) none) F (a1.getD 0 0) (a1.getD 1 0) (a1.getD 2 0) (a1.getD 3 0) (a1.getD 4 0) (a1.getD 5 0) (a1.getD 6 0) (a1.getD 7 0) 0) none) none) none) none) none) none) none) none) F 16 x7) F 0 [0, 0, 0, 0, 0, 0, 0, 0, 0, 0, 0, 0, 0, 0, 0, 0, 0, 0, 0, 0, 0, 0, 0, 0, 0, 0, 0, 0, 0, 0, 0, 0, 0, 0, 0, 0, 0, 0, 0, 0, 0, 0, 0, 0, 0, 0, 0, 0, 0, 0, 0, 0, 0, 0, 0, 0, 0, 0, 0, 0, 0, 0, 0, 0]) d.1.1.1 d.2.1.2.1 d.2.2.1.2.1 (fun (y0 : List Int) => K [.agg [.seq (.int .u32) 8 y0]] [some ⟨d.2.1.1, [.seq (.int .u32) 0 d.2.1.2.1]⟩, some ⟨d.2.2.1.1, [.seq (.int .u8) 0 d.2.2.1.2.1]⟩]) := by kernel_rfl
theorem E120_1 (F : Nat) (d : sh120_1.den) (K : KF) : evBody Try.prog (T120_1 F) (xw []) 217 2 (LT120_1 F) code120 Try.f120.results.toList (encT sh120_1.vs d.1) (encH sh120_1.h d.2) K = f120_1 F d.1.1.1 d.2.1.2.1 d.2.2.1.2.1 (fun (y0 : List Int) => K [.agg [.seq (.int .u32) 8 y0]] [some ⟨d.2.1.1, [.seq (.int .u32) 0 d.2.1.2.1]⟩, some ⟨d.2.2.1.1, [.seq (.int .u8) 0 d.2.2.1.2.1]⟩]) := Eq.mp (by kernel_rfl) (E120_1g F (f131_1 F) (f120_1_l3 F) (f120_1_l7 F) (f120_1_l21 F)  d K)
theorem S120_1_ok (F : Nat) (o : Summ) (ho : SoundFn Try.prog 120 o) : SoundFn Try.prog 120 (S120_1 F o) :=
  soundFn_of (fn := Try.f120) (c := code120) rfl rfl (by kernel_rfl) (tab_cons (S131_1_ok F _ (noS_sound enter131)) tab_nil) (by kernel_rfl) (by kernel_rfl) ho (by rw [loops120]; exact (loopsOK_cons (by kernel_rfl) (L120_1_3 F) (loopsOK_cons (by kernel_rfl) (L120_1_7 F) (loopsOK_cons (by kernel_rfl) (L120_1_21 F) loopsOK_nil)))) (by rw [scopes120]; exact scopesOK_nil) (by rw [ranges120]; exact rangesOK_nil) (E120_1 F)
end Go.Proofs.Ytillbabmlfjegaa.X
end

section
/- Numbers of a fixed width: what wrapping and the bits' operations come to where nothing is lost. -/
namespace Go.Proofs.Ytillbabmlfjegaa.X
open Go Go.Proofs.Ytillbabmlfjegaa.Ev
set_option linter.unusedSectionVars false
variable [FZ]
set_option linter.unusedVariables false
set_option linter.unusedSimpArgs false

theorem w64 {x : Int} (h : -9223372036854775808 ≤ x) (h' : x ≤ 9223372036854775807) : IntKind.i64.wrap x = x := by
  simp only [IntKind.wrap, IntKind.bits, IntKind.signed, Bool.true_and]
  split <;> (rename_i hq; simp at hq; omega)

theorem wu64 {x : Int} (h : 0 ≤ x) (h' : x < 18446744073709551616) : IntKind.u64.wrap x = x := by
  simp only [IntKind.wrap, IntKind.bits, IntKind.signed, Bool.false_and]
  simp; omega

theorem wu32 {x : Int} (h : 0 ≤ x) (h' : x < 4294967296) : IntKind.u32.wrap x = x := by
  simp only [IntKind.wrap, IntKind.bits, IntKind.signed, Bool.false_and]
  simp; omega

theorem wu8 {x : Int} (h : 0 ≤ x) (h' : x < 256) : IntKind.u8.wrap x = x := by
  simp only [IntKind.wrap, IntKind.bits, IntKind.signed, Bool.false_and]
  simp; omega

theorem wu64m (x : Int) : IntKind.u64.wrap x = x % 18446744073709551616 := by
  simp only [IntKind.wrap, IntKind.bits, IntKind.signed, Bool.false_and]
  simp
theorem wu32m (x : Int) : IntKind.u32.wrap x = x % 4294967296 := by
  simp only [IntKind.wrap, IntKind.bits, IntKind.signed, Bool.false_and]
  simp
theorem wu8m (x : Int) : IntKind.u8.wrap x = x % 256 := by
  simp only [IntKind.wrap, IntKind.bits, IntKind.signed, Bool.false_and]
  simp

theorem i64_of_wf {n : Int} (h : (Lit.int .i64 n).wf = true) : -9223372036854775808 ≤ n ∧ n ≤ 9223372036854775807 := by
  simp [Lit.wf, IntKind.min, IntKind.max, IntKind.bits, IntKind.signed] at h; omega
theorem u64_of_wf {n : Int} (h : (Lit.int .u64 n).wf = true) : 0 ≤ n ∧ n < 18446744073709551616 := by
  simp [Lit.wf, IntKind.min, IntKind.max, IntKind.bits, IntKind.signed] at h; omega
theorem u8_of_wf {n : Int} (h : (Lit.int .u8 n).wf = true) : 0 ≤ n ∧ n < 256 := by
  simp [Lit.wf, IntKind.min, IntKind.max, IntKind.bits, IntKind.signed] at h; omega
theorem u32_of_wf {n : Int} (h : (Lit.int .u32 n).wf = true) : 0 ≤ n ∧ n < 4294967296 := by
  simp [Lit.wf, IntKind.min, IntKind.max, IntKind.bits, IntKind.signed] at h; omega

theorem or64 {A B : Nat} (hA : A < 2 ^ 64) (hB : B < 2 ^ 64) : ior .u64 (A : Int) (B : Int) = ((A ||| B : Nat) : Int) := by
  have h : (BitVec.ofInt 64 (A : Int) ||| BitVec.ofInt 64 (B : Int)).toNat = A ||| B := by
    simp [BitVec.toNat_or, BitVec.ofInt_natCast, BitVec.toNat_ofNat, Nat.mod_eq_of_lt hA, Nat.mod_eq_of_lt hB]
  have hl := Nat.or_lt_two_pow hA hB
  show IntKind.u64.wrap ((BitVec.ofInt 64 (A : Int) ||| BitVec.ofInt 64 (B : Int)).toNat : Int) = _
  rw [h, wu64 (by omega) (by omega)]
theorem and64 {A B : Nat} (hA : A < 2 ^ 64) (hB : B < 2 ^ 64) : iand .u64 (A : Int) (B : Int) = ((A &&& B : Nat) : Int) := by
  have h : (BitVec.ofInt 64 (A : Int) &&& BitVec.ofInt 64 (B : Int)).toNat = A &&& B := by
    simp [BitVec.toNat_and, BitVec.ofInt_natCast, BitVec.toNat_ofNat, Nat.mod_eq_of_lt hA, Nat.mod_eq_of_lt hB]
  have hl : A &&& B < 2 ^ 64 := Nat.and_lt_two_pow A hB
  show IntKind.u64.wrap ((BitVec.ofInt 64 (A : Int) &&& BitVec.ofInt 64 (B : Int)).toNat : Int) = _
  rw [h, wu64 (by omega) (by omega)]
theorem shl64 {i : Nat} (hi : i < 64) : ishl .u64 1 (i : Int) = ((2 ^ i : Nat) : Int) := by
  have h2 : (2 : Nat) ^ i < 2 ^ 64 := Nat.pow_lt_pow_right (by omega) hi
  have : (1 : Int) * 2 ^ (min i 64) = ((2 ^ i : Nat) : Int) := by
    rw [Nat.min_eq_left (by omega), Int.one_mul]; push_cast; rfl
  simp only [ishl, IntKind.bits, Int.toNat_natCast]
  rw [this, wu64 (Int.natCast_nonneg _) (Int.ofNat_lt.2 h2)]
theorem shr64 {A i : Nat} (hi : i < 64) : ishr .u64 (A : Int) (i : Int) = ((A >>> i : Nat) : Int) := by
  have : ((2 : Int) ^ i) = ((2 ^ i : Nat) : Int) := by push_cast; rfl
  simp only [ishr, IntKind.bits, Int.toNat_natCast]
  rw [Nat.min_eq_left (by omega), Int.fdiv_eq_ediv_of_nonneg _ (by rw [this]; exact Int.natCast_nonneg _), this, Nat.shiftRight_eq_div_pow]
  push_cast; rfl

/-- The number with given bits, below n. -/
def mk (f : Nat → Bool) : Nat → Nat
  | 0 => 0
  | n + 1 => if f n then mk f n ||| 2 ^ n else mk f n

theorem mk_lt (f : Nat → Bool) : ∀ n, mk f n < 2 ^ n
  | 0 => by simp [mk]
  | n + 1 => by
    have := mk_lt f n
    have h2 : (2 : Nat) ^ n < 2 ^ (n + 1) := Nat.pow_lt_pow_right (by omega) (by omega)
    simp only [mk]
    split
    · exact Nat.or_lt_two_pow (by omega) h2
    · omega

theorem mk_bit (f : Nat → Bool) : ∀ n j, (mk f n).testBit j = (decide (j < n) && f j)
  | 0, j => by simp [mk]
  | n + 1, j => by
    simp only [mk]
    split
    · rename_i h
      rw [Nat.testBit_or, mk_bit f n, Nat.testBit_two_pow]
      by_cases hj : j = n
      · subst hj; simp [h]
      · have h1 : decide (j < n) = decide (j < n + 1) := decide_eq_decide.2 (by omega)
        simp [Ne.symm hj, h1]
    · rename_i h
      rw [mk_bit f n]
      by_cases hj : j = n
      · subst hj; simp at h; simp [h]
      · have h1 : decide (j < n) = decide (j < n + 1) := decide_eq_decide.2 (by omega)
        rw [h1]

theorem mk_eq {A n : Nat} {f : Nat → Bool} (hA : A < 2 ^ n) (h : ∀ j, j < n → f j = A.testBit j) : mk f n = A := by
  apply Nat.eq_of_testBit_eq
  intro j
  rw [mk_bit]
  by_cases hj : j < n
  · simp [hj, h j hj]
  · simp [hj]
    exact Nat.testBit_lt_two_pow (Nat.lt_of_lt_of_le hA (Nat.pow_le_pow_right (by omega) (by omega)))

theorem bit_test {A i : Nat} : ((A >>> i &&& 1 : Nat) == 1) = A.testBit i := by
  simp [Nat.testBit, Nat.and_comm]

theorem natbeq {a b : Nat} : (((a : Int) == ((b : Nat) : Int)) : Bool) = (a == b) := by
  rw [Bool.eq_iff_iff]; simp; omega

theorem tdiv_nn {a b : Nat} : ((a : Int).tdiv (b : Int)) = ((a / b : Nat) : Int) := by
  rw [Int.tdiv_eq_ediv_of_nonneg (by omega)]; rfl
theorem tmod_nn {a b : Nat} : ((a : Int).tmod (b : Int)) = ((a % b : Nat) : Int) := by
  rw [Int.tmod_eq_emod_of_nonneg (by omega)]; rfl

theorem lbeq_refl (k : EK) (hr : ∀ x : k.den, k.beq x x = true) : ∀ l : List k.den, lbeq k l l = true
  | [] => rfl
  | x :: r => by simp [lbeq, hr x, lbeq_refl k hr r]
theorem lbeq_int (k : IntKind) (l : List Int) : lbeq (.int k) l l = true := lbeq_refl (.int k) (fun x => by simp [EK.beq]) l
theorem lbeq_int_iff (k : IntKind) : ∀ (l r : List Int), lbeq (.int k) l r = true ↔ l = r
  | [], [] => by simp [lbeq]
  | [], _ :: _ => by simp [lbeq]
  | _ :: _, [] => by simp [lbeq]
  | x :: l, y :: r => by simp [lbeq, EK.beq, lbeq_int_iff k l r]

theorem ct {α : Sort _} {p : Prop} [Decidable p] {a b : α} (h : p) : cond (decide p) a b = a := by simp [h]
theorem cf {α : Sort _} {p : Prop} [Decidable p] {a b : α} (h : ¬ p) : cond (decide p) a b = b := by simp [h]

end Go.Proofs.Ytillbabmlfjegaa.X
end

section
/- SHA-256: the words of a block, what the code reckons and what the document's answer reckons. -/
namespace Go.Proofs.Ytillbabmlfjegaa.X
open Go Go.Proofs.Ytillbabmlfjegaa.Ev
set_option linter.unusedSectionVars false
variable [FZ]
set_option linter.unusedVariables false
set_option linter.unusedSimpArgs false

/-- A number turned to the right. -/
def rot (x n : Int) : Int := ior .u32 (ishl .u32 x (32 - n)) (ishr .u32 x n)

theorem ior_comm (k : IntKind) (x y : Int) : ior k x y = ior k y x := by
  simp only [ior, BitVec.or_comm]

theorem turnP {β : Type} {F : Nat} {x n : Int} {K : Int → Option β} (h0 : 0 < n) (h1 : n < 32) : f142_1 F x n K = K (rot x n) := by
  have e1 : IntKind.i64.wrap (0 - n) = -n := by rw [w64 (by omega) (by omega)]; omega
  have e2 : IntKind.u64.wrap (-n) = ((18446744073709551616 - n.toNat : Nat) : Int) := by rw [wu64m]; omega
  have e3 : iand .u64 ((18446744073709551616 - n.toNat : Nat) : Int) 31 = 32 - n := by
    rw [show (31 : Int) = ((31 : Nat) : Int) from rfl, and64 (by omega) (by omega), show (31 : Nat) = 2 ^ 5 - 1 from rfl, Nat.and_two_pow_sub_one_eq_mod]
    omega
  have e4 : IntKind.u64.wrap (32 - (32 - n)) = n := by rw [wu64 (by omega) (by omega)]; omega
  simp only [f142_1, f147_1, e1, e2, e3, e4]
  rw [cf (by omega), cf (by omega)]
  rfl

theorem turnR {β : Type} {F : Nat} {x n : Int} {K : Int → Option β} (h0 : 0 < n) (h1 : n < 32) : f131_1 F x n K = K (rot x n) := by
  have e4 : IntKind.u64.wrap (32 - n) = 32 - n := wu64 (by omega) (by omega)
  simp only [f131_1, e4]
  rw [cf (by omega), cf (by omega), rot, ior_comm]

def word (b : List Int) (i : Nat) : Int :=
  ior .u32 (ior .u32 (ior .u32 (ishl .u32 (IntKind.u32.wrap (b.getD (4 * i) 0)) 24) (ishl .u32 (IntKind.u32.wrap (b.getD (4 * i + 1) 0)) 16)) (ishl .u32 (IntKind.u32.wrap (b.getD (4 * i + 2) 0)) 8)) (IntKind.u32.wrap (b.getD (4 * i + 3) 0))

def ldr (b : List Int) : Nat → Nat → List Int → List Int
  | 0, _, acc => acc
  | m + 1, i, acc => ldr b m (i + 1) (acc.set i (word b i))

theorem ldr_len (b : List Int) : ∀ m i acc, (ldr b m i acc).length = acc.length
  | 0, _, _ => rfl
  | m + 1, i, acc => by rw [ldr, ldr_len b m]; simp

theorem ldP {β : Type} {F : Nat} {b z : List Int} {K : List Int → Option β} (hb : 64 ≤ b.length) : ∀ (m i k : Nat) (acc : List Int), i + m = 16 → m < k → acc.length = 64 →
    f141_1_l3 F b z K k (i : Int) acc = K (ldr b m i acc)
  | 0, i, k, acc, hi, hk, ha => by
    obtain ⟨k, rfl⟩ : ∃ j, k = j + 1 := ⟨k - 1, by omega⟩
    simp only [f141_1_l3]
    rw [cf (by omega)]; rfl
  | m + 1, i, k, acc, hi, hk, ha => by
    obtain ⟨k, rfl⟩ : ∃ j, k = j + 1 := ⟨k - 1, by omega⟩
    have e1 : IntKind.i64.wrap (4 * (i : Int)) = ((4 * i : Nat) : Int) := by rw [w64 (by omega) (by omega)]; omega
    have e2 : IntKind.i64.wrap (((4 * i : Nat) : Int) + 4) = ((4 * i + 4 : Nat) : Int) := by rw [w64 (by omega) (by omega)]; omega
    have e3 : (((4 * i + 4 : Nat) : Int) - ((4 * i : Nat) : Int)).toNat = 4 := by omega
    have e4 : IntKind.i64.wrap ((i : Int) + 1) = ((i + 1 : Nat) : Int) := by rw [w64 (by omega) (by omega)]; omega
    simp only [f141_1_l3, e1, e2, e3, e4, Int.toNat_natCast, Nat.zero_add, Nat.add_zero, ha]
    rw [ct (by omega), ct (by omega), ct (by omega), ct (by omega), ct (by omega), ct (by omega), ct (by omega), ct (by omega), ct (by omega), ct (by omega), ct (by omega), ct (by omega)]
    exact ldP hb m (i + 1) k _ (by omega) (by omega) (by simp [ha])

theorem ldR {β : Type} {F : Nat} {b z s y : List Int} {K : List Int → Option β} (hb : 64 ≤ b.length) : ∀ (m i k : Nat) (acc : List Int), i + m = 16 → m < k → acc.length = 64 →
    f120_1_l3 F y b s z K k (i : Int) acc = K (ldr b m i acc)
  | 0, i, k, acc, hi, hk, ha => by
    obtain ⟨k, rfl⟩ : ∃ j, k = j + 1 := ⟨k - 1, by omega⟩
    simp only [f120_1_l3]
    rw [cf (by omega)]; rfl
  | m + 1, i, k, acc, hi, hk, ha => by
    obtain ⟨k, rfl⟩ : ∃ j, k = j + 1 := ⟨k - 1, by omega⟩
    have e1 : IntKind.i64.wrap (4 * (i : Int)) = ((4 * i : Nat) : Int) := by rw [w64 (by omega) (by omega)]; omega
    have e2 : IntKind.i64.wrap (((4 * i : Nat) : Int) + 1) = ((4 * i + 1 : Nat) : Int) := by rw [w64 (by omega) (by omega)]; omega
    have e3 : IntKind.i64.wrap (((4 * i : Nat) : Int) + 2) = ((4 * i + 2 : Nat) : Int) := by rw [w64 (by omega) (by omega)]; omega
    have e5 : IntKind.i64.wrap (((4 * i : Nat) : Int) + 3) = ((4 * i + 3 : Nat) : Int) := by rw [w64 (by omega) (by omega)]; omega
    have e4 : IntKind.i64.wrap ((i : Int) + 1) = ((i + 1 : Nat) : Int) := by rw [w64 (by omega) (by omega)]; omega
    simp only [f120_1_l3, e1, e2, e3, e4, e5, Int.toNat_natCast, Nat.zero_add, Nat.add_zero, ha]
    rw [ct (by omega), ct (by omega), ct (by omega), ct (by omega), ct (by omega), ct (by omega), ct (by omega), ct (by omega), ct (by omega), ct (by omega), ct (by omega)]
    exact ldR hb m (i + 1) k _ (by omega) (by omega) (by simp [ha])

def sg0 (x : Int) : Int := ixor .u32 (ixor .u32 (rot x 7) (rot x 18)) (ishr .u32 x 3)
def sg1 (x : Int) : Int := ixor .u32 (ixor .u32 (rot x 17) (rot x 19)) (ishr .u32 x 10)

def nx (l : List Int) (i : Nat) : Int := IntKind.u32.wrap ((IntKind.u32.wrap ((IntKind.u32.wrap (l.getD (i - 16) 0 + l.getD (i - 7) 0)) + sg0 (l.getD (i - 15) 0))) + sg1 (l.getD (i - 2) 0))

def exps : Nat → Nat → List Int → List Int
  | 0, _, acc => acc
  | m + 1, i, acc => exps m (i + 1) (acc.set i (nx acc i))

theorem exps_len : ∀ m i acc, (exps m i acc).length = acc.length
  | 0, _, _ => rfl
  | m + 1, i, acc => by rw [exps, exps_len m]; simp

theorem exP {β : Type} {F : Nat} {b z : List Int} {K : List Int → Option β} : ∀ (m i k : Nat) (acc : List Int), i + m = 64 → 16 ≤ i → m < k → acc.length = 64 →
    f141_1_l9 F b z K k (i : Int) acc = K (exps m i acc)
  | 0, i, k, acc, hi, hj, hk, ha => by
    obtain ⟨k, rfl⟩ : ∃ j, k = j + 1 := ⟨k - 1, by omega⟩
    simp only [f141_1_l9]
    rw [cf (by omega)]; rfl
  | m + 1, i, k, acc, hi, hj, hk, ha => by
    obtain ⟨k, rfl⟩ : ∃ j, k = j + 1 := ⟨k - 1, by omega⟩
    have e1 : IntKind.i64.wrap ((i : Int) - 15) = ((i - 15 : Nat) : Int) := by rw [w64 (by omega) (by omega)]; omega
    have e2 : IntKind.i64.wrap ((i : Int) - 2) = ((i - 2 : Nat) : Int) := by rw [w64 (by omega) (by omega)]; omega
    have e3 : IntKind.i64.wrap ((i : Int) - 16) = ((i - 16 : Nat) : Int) := by rw [w64 (by omega) (by omega)]; omega
    have e5 : IntKind.i64.wrap ((i : Int) - 7) = ((i - 7 : Nat) : Int) := by rw [w64 (by omega) (by omega)]; omega
    have e4 : IntKind.i64.wrap ((i : Int) + 1) = ((i + 1 : Nat) : Int) := by rw [w64 (by omega) (by omega)]; omega
    simp only [f141_1_l9, e1, e2, e3, e4, e5, Int.toNat_natCast, ha]
    rw [ct (by omega), ct (by omega), ct (by omega), ct (by omega), ct (by omega), ct (by omega), ct (by omega), ct (by omega), ct (by omega), turnP (by omega) (by omega), turnP (by omega) (by omega), turnP (by omega) (by omega), turnP (by omega) (by omega),
      ct (by omega), ct (by omega)]
    exact exP m (i + 1) k _ (by omega) (by omega) (by omega) (by simp [ha])

theorem add4 (a b c d : Int) : IntKind.u32.wrap (IntKind.u32.wrap (IntKind.u32.wrap (a + c) + b) + d) = IntKind.u32.wrap (IntKind.u32.wrap (IntKind.u32.wrap (a + b) + c) + d) := by
  simp only [wu32m]; omega

theorem exR {β : Type} {F : Nat} {b z s y : List Int} {K : List Int → Option β} : ∀ (m i k : Nat) (acc : List Int), i + m = 64 → 16 ≤ i → m < k → acc.length = 64 →
    f120_1_l7 F y b s z K k (i : Int) acc = K (exps m i acc)
  | 0, i, k, acc, hi, hj, hk, ha => by
    obtain ⟨k, rfl⟩ : ∃ j, k = j + 1 := ⟨k - 1, by omega⟩
    simp only [f120_1_l7]
    rw [cf (by omega)]; rfl
  | m + 1, i, k, acc, hi, hj, hk, ha => by
    obtain ⟨k, rfl⟩ : ∃ j, k = j + 1 := ⟨k - 1, by omega⟩
    have e1 : IntKind.i64.wrap ((i : Int) - 15) = ((i - 15 : Nat) : Int) := by rw [w64 (by omega) (by omega)]; omega
    have e2 : IntKind.i64.wrap ((i : Int) - 2) = ((i - 2 : Nat) : Int) := by rw [w64 (by omega) (by omega)]; omega
    have e3 : IntKind.i64.wrap ((i : Int) - 16) = ((i - 16 : Nat) : Int) := by rw [w64 (by omega) (by omega)]; omega
    have e5 : IntKind.i64.wrap ((i : Int) - 7) = ((i - 7 : Nat) : Int) := by rw [w64 (by omega) (by omega)]; omega
    have e4 : IntKind.i64.wrap ((i : Int) + 1) = ((i + 1 : Nat) : Int) := by rw [w64 (by omega) (by omega)]; omega
    simp only [f120_1_l7, e1, e2, e3, e4, e5, Int.toNat_natCast, ha]
    rw [ct (by omega), ct (by omega), ct (by omega), ct (by omega), ct (by omega), ct (by omega), ct (by omega), ct (by omega), ct (by omega), turnR (by omega) (by omega), turnR (by omega) (by omega), turnR (by omega) (by omega), turnR (by omega) (by omega),
      ct (by omega), ct (by omega), add4]
    exact exR m (i + 1) k _ (by omega) (by omega) (by omega) (by simp [ha])

/-- The 64 words of a block. -/
def wds (b : List Int) : List Int := exps 48 16 (ldr b 16 0 (List.replicate 64 0))

theorem wds_len (b : List Int) : (wds b).length = 64 := by rw [wds, exps_len, ldr_len]; rfl

theorem spreadP {β : Type} {F : Nat} {b : List Int} {K : List Int → Option β} (hF : 100 ≤ F) (hb : 64 ≤ b.length) : f141_1 F b K = K (wds b) := by
  simp only [f141_1]
  rw [show ([0, 0, 0, 0, 0, 0, 0, 0, 0, 0, 0, 0, 0, 0, 0, 0, 0, 0, 0, 0, 0, 0, 0, 0, 0, 0, 0, 0, 0, 0, 0, 0, 0, 0, 0, 0, 0, 0, 0, 0, 0, 0, 0, 0, 0, 0, 0, 0, 0, 0, 0, 0, 0, 0, 0, 0, 0, 0, 0, 0, 0, 0, 0, 0] : List Int) = List.replicate 64 0 from rfl,
    show (0 : Int) = ((0 : Nat) : Int) from rfl, ldP hb 16 0 F _ (by omega) (by omega) (by simp), show (16 : Int) = ((16 : Nat) : Int) from rfl, exP 48 16 F _ (by omega) (by omega) (by omega) (by rw [ldr_len]; simp)]
  rfl

end Go.Proofs.Ytillbabmlfjegaa.X
end

section
/- A row's arguments, opened as typed values. -/
namespace Go.Proofs.Ytillbabmlfjegaa.Ev
open Go Go.RowKit
set_option linter.unusedVariables false
set_option linter.unusedSimpArgs false
set_option linter.unusedSectionVars false
variable [FZ]

def scK (P : Program) (e : TypeId) : Option EK := match P.underlying e with
  | some (.int k) => some (.int k)
  | some .bool => some .bool
  | some .string => some .str
  | _ => none

def scS (P : Program) (e : TypeId) : Option SK := match P.underlying e with
  | some (.int k) => some (.int k)
  | some .bool => some .bool
  | some .string => some .str
  | _ => none

def wfS : (q : SK) → q.den → Prop
  | .int k, n => (Lit.int k n).wf = true
  | .bool, _ => True
  | .str, s => s.size ≤ maxLen

def wfE : (k : EK) → k.den → Prop
  | .int k, n => (Lit.int k n).wf = true
  | .bool, _ => True
  | .str, s => s.size ≤ maxLen
  | .pair a b, p => wfE a p.1 ∧ wfE b p.2
  | .sl q, x => x.dat.length ≤ maxLen ∧ ∀ y ∈ x.dat, wfS q y

def wfD : (s : SL) → s.den → Prop
  | .int k, n => (Lit.int k n).wf = true
  | .str, s => s.size ≤ maxLen
  | .seq k n, l => l.length = n ∧ ∀ x ∈ l, wfE k x
  | .sl q, x => wfE (.sl q) x
  | _, _ => True

def wfL : (l : List SL) → denL l → Prop
  | [], _ => True
  | s :: r, d => wfD s d.1 ∧ wfL r d.2

def appD : (a b : List SL) → denL a → denL b → denL (a ++ b)
  | [], _, _, y => y
  | _ :: r, b, x, y => (x.1, appD r b x.2 y)

theorem encL_app : ∀ (a b : List SL) (x : denL a) (y : denL b), encL (a ++ b) (appD a b x y) = encL a x ++ encL b y
  | [], _, _, _ => rfl
  | s :: r, b, x, y => by
    show s.enc x.1 :: encL (r ++ b) (appD r b x.2 y) = s.enc x.1 :: (encL r x.2 ++ encL b y)
    rw [encL_app r b]

theorem wfL_app : ∀ (a b : List SL) (x : denL a) (y : denL b), wfL a x → wfL b y → wfL (a ++ b) (appD a b x y)
  | [], _, _, _, _, h => h
  | s :: r, b, x, y, hx, hy => ⟨hx.1, wfL_app r b x.2 y hx.2 hy⟩

section
variable (P : Program)

def slFs (g : TypeId → Option (List SL)) : Nat → List Field → Option (List SL × Nat)
  | off, [] => some ([], off)
  | off, f :: r => if f.offset = off then (match g f.type, slFs g (off + P.cellsOf f.type) r with
    | some a, some (b, n) => some (a ++ b, n)
    | _, _ => none) else none

def slOf : Nat → TypeId → Option (List SL)
  | 0, _ => none
  | f + 1, t => match P.underlying t with
    | some (.int k) => some [.int k]
    | some .bool => some [.bool]
    | some .string => some [.str]
    | some (.array n e) => match scK P e with
      | some k => if P.cellsOf e = 1 ∧ P.cellsOf t = n then some [.seq k n] else none
      | none => none
    | some (.struct fs) => match slFs P (slOf f) 0 fs.toList with
      | some (l, n) => if n = P.cellsOf t then some l else none
      | none => none
    | some (.slice e) => match scS P e with
      | some q => if P.cellsOf e = 1 then some [.sl q] else none
      | none => none
    | _ => none
end

theorem pick_list {α : Type} {n : Nat} {R : Nat → α → Prop} (h : ∀ i, i < n → ∃ z, R i z) : ∃ l : List α, l.length = n ∧ ∀ i z, l[i]? = some z → R i z := by
  induction n with
  | zero => exact ⟨[], rfl, fun i z h => by simp at h⟩
  | succ n ih =>
    obtain ⟨l, h1, h2⟩ := ih fun i hi => h i (by omega)
    obtain ⟨z, hz⟩ := h n (by omega)
    refine ⟨l ++ [z], by simp [h1], fun i y hy => ?_⟩
    by_cases hi : i < n
    · rw [List.getElem?_append_left (by omega)] at hy; exact h2 i y hy
    · rw [List.getElem?_append_right (by omega)] at hy
      have : i = n := by
        have := (List.getElem?_eq_some_iff.1 hy).1
        simp at this; omega
      subst this
      rw [h1, Nat.sub_self] at hy
      cases hy; exact hz

theorem addr_add2 (a : Addr) (x y : Nat) : (a.add x).add y = a.add (x + y) := by
  unfold Addr.add
  by_cases hx : x = 0
  · subst hx; simp
  · by_cases hy : y = 0
    · subst hy; simp
    · simp [hx, hy, Nat.add_assoc]
theorem addr_add {a : Addr} (h : a.spot = none) (q : Nat) : a.add q = ⟨a.block, a.off + q, none⟩ := by
  cases a; simp only at h; subst h
  unfold Addr.add
  split
  · rename_i h; subst h; simp
  · simp

/-- What is known of an object that an argument shows. -/
structure Shown (w : World) (k : EK) (l : List k.den) (g : Gh) (v : Value) : Prop where
  len : l.length ≤ maxLen
  wf : ∀ x ∈ l, wfE k x
  obj : ∀ m, ObRel m g w ⟨true, [.seq k 0 l]⟩
  blk : ∀ b, g.addr = some b → b.1 < w.heap.size
  rel : ∀ (m : GM) id, m[id]? = some g → LRel m (.full id) v

theorem ghOf_ln (b : Option (Nat × Nat)) (sz : Nat) (k : EK) (l : List k.den) : (ghOf b sz [.seq k 0 l]).ln 0 = l.length ∧ (ghOf b sz [.seq k 0 l]).ew 0 = k.w := by
  obtain ⟨h1, h2⟩ := ghOf_seq b sz [.seq k 0 l] 0 k 0 l [] (drop0 _)
  exact ⟨h1.symm, h2.symm⟩

theorem shown_none (w : World) (k : EK) {a : Option Addr} : Shown w k [] (ghOf none 0 [.seq k 0 []]) (.slice a 0 0) := by
  refine ⟨Nat.zero_le _, fun x hx => (by cases hx), fun m => ⟨ghOf_seq _ _ _, [], ⟨[], [], rfl, ⟨.inl rfl, rfl⟩, rfl⟩, .inl ⟨rfl, rfl⟩⟩, fun b hb => (by cases hb), fun m id hid => ?_⟩
  exact ⟨_, hid, _, a, 0, hid, by rw [(ghOf_ln none 0 k []).1]; rfl, by rw [(ghOf_ln none 0 k []).1]; simp, fun c h => (by cases h), by rw [(ghOf_ln none 0 k []).1]; simp, .inl rfl⟩

section
variable {P : Program} {H : Type} {enc : TypeId × Value → H} {w : World} {base : Nat} {spare : Nat → Bool} {held : Bool}

def Opn (m : GM) (sl : List SL) (cs : List Value) (ps : List MemPlace) : Prop := ∃ d : denL sl, OCells m (encL sl d) cs ∧ wfL sl d

theorem sc_open {e : TypeId} {k : EK} {fuel : Nat} {c : List Value} {x : DataW H × List MemPlace} (hk : scK P e = some k) (h : DataW.trod enc P w base spare held fuel e c = some x) :
    ∃ z : k.den, c = k.cv z ∧ wfE k z ∧ x.2 = [] := by
  unfold scK at hk
  split at hk
  · rename_i k' ht
    cases hk
    obtain ⟨n, rfl, rfl, hw⟩ := DataW.trod_int ht h
    exact ⟨n, rfl, hw, rfl⟩
  · rename_i ht
    cases hk
    obtain ⟨b, rfl, rfl⟩ := DataW.trod_bool ht h
    exact ⟨b, rfl, trivial, rfl⟩
  · rename_i ht
    cases hk
    obtain ⟨s, rfl, rfl, hs⟩ := DataW.trod_string ht h
    exact ⟨s, rfl, hs, rfl⟩
  · cases hk

theorem sc_list {e : TypeId} {k : EK} {fuel : Nat} (hk : scK P e = some k) : ∀ (n : Nat) (cs : List Value) (xs : List (DataW H × List MemPlace)), cs.length = n → xs.length = n →
    (∀ i, i < n → DataW.trod enc P w base spare held fuel e ((cs.drop i).take 1) = xs[i]?) → ∃ l : List k.den, cs = cvs k l ∧ l.length = n ∧ (∀ x ∈ l, wfE k x) ∧ xs.flatMap (·.2) = []
  | 0, cs, xs, hc, hx, _ => by
    have := List.eq_nil_of_length_eq_zero hc
    have h2 := List.eq_nil_of_length_eq_zero hx
    subst this; subst h2
    exact ⟨[], rfl, rfl, fun x hx => (by cases hx), rfl⟩
  | n + 1, [], xs, hc, hx, _ => by simp at hc
  | n + 1, c :: cs, [], hc, hx, _ => by simp at hx
  | n + 1, c :: cs, x :: xs, hc, hx, h => by
    have h0 := h 0 (by omega)
    simp only [List.drop_zero, List.take_succ_cons, List.take_zero, List.getElem?_cons_zero] at h0
    obtain ⟨z, hz, hw, hp⟩ := sc_open hk h0
    obtain ⟨l, h1, h2, h3, h4⟩ := sc_list hk n cs xs (by simpa using hc) (by simpa using hx) fun i hi => by simpa using h (i + 1) (by omega)
    refine ⟨z :: l, ?_, by simp [h2], fun y hy => ?_, by simp [hp, h4]⟩
    · rw [h1] ; simp only [cvs, ← hz]; rfl
    · rcases List.mem_cons.1 hy with rfl | hy
      · exact hw
      · exact h3 y hy

theorem slice_core {e t : TypeId} {k : EK} (ht : P.underlying t = some (.slice e)) (hc : P.cellsOf e = k.w) (el : ∀ n cs (x : DataW H × List MemPlace), DataW.trod enc P w 0 (fun _ => true) held n e cs = some x → ∃ z : k.den, cs = k.cv z ∧ wfE k z)
    {a0 : Option Addr} {n0 c0 fuel : Nat} {x : DataW H × List MemPlace} (hf : DataW.trod enc P w 0 (fun _ => true) held fuel t [.slice a0 n0 c0] = some x) :
    ∃ (l : List k.den) (g : Gh), Shown w k l g (.slice a0 n0 c0) := by
  rcases DataW.trod_slice ht hf with ⟨h1, _⟩ | ⟨a, len, cap, elems, rest, n, _, h1, hx, hb, hle, hmax, hlen, hel, hsp, _⟩
  · cases h1
    exact ⟨[], _, shown_none w k⟩
  · simp only [List.cons.injEq, Value.slice.injEq, and_true] at h1
    obtain ⟨rfl, rfl, rfl⟩ := h1
    obtain ⟨hrl, hr⟩ := hsp rfl
    by_cases hcap : c0 = 0
    · subst hcap
      have : n0 = 0 := by omega
      subst this
      exact ⟨[], _, shown_none w k⟩
    have each : ∀ i, i < c0 → ∃ z : k.den, wfE k z ∧ ∀ j, j < k.w → w.cell? (a.add (i * k.w + j)) = (k.cv z)[j]? := by
      intro i hi
      obtain ⟨y, hy⟩ : ∃ y, (w.cells? 0 (a.add (i * P.cellsOf e)) (P.cellsOf e)).bind (DataW.trod enc P w 0 (fun _ => true) held n e) = some y := by
        by_cases hil : i < n0
        · exact ⟨_, (hel i hil).trans (List.getElem?_eq_getElem (by omega))⟩
        · have h2 := hr (i - n0) (by omega)
          rw [show n0 + (i - n0) = i by omega] at h2
          exact ⟨_, h2.trans (List.getElem?_eq_getElem (by omega))⟩
      rw [hc, Option.bind_eq_some_iff] at hy
      obtain ⟨cs, hcs, hy⟩ := hy
      obtain ⟨z, hcv, hwz⟩ := el n cs _ hy
      obtain ⟨_, _, hget⟩ := World.cells?_some hcs
      refine ⟨z, hwz, fun j hj => ?_⟩
      have := hget j hj
      rw [hcv] at this
      rw [← this]
      have e9 : (a.add (i * k.w)).add j = a.add (i * k.w + j) := addr_add2 a _ _
      first | rw [e9] | rw [hc, e9]
    obtain ⟨l, hl1, hl2⟩ := pick_list (n := n0) (R := fun i z => wfE k z ∧ ∀ j, j < k.w → w.cell? (a.add (i * k.w + j)) = (k.cv z)[j]?) fun i hi => each i (by omega)
    have hwp := EK.w_pos k
    have cellOf : ∀ q, q < c0 * k.w → ∃ u, w.cell? (a.add q) = some u := by
      intro q hq
      have hdiv : q / k.w < c0 := Nat.div_lt_of_lt_mul (by rw [Nat.mul_comm]; exact hq)
      obtain ⟨z, _, hz⟩ := each (q / k.w) hdiv
      have h3 := hz (q % k.w) (Nat.mod_lt _ hwp)
      rw [Nat.mul_comm, Nat.div_add_mod] at h3
      have : q % k.w < (k.cv z).length := by rw [cv_length]; exact Nat.mod_lt _ hwp
      rw [List.getElem?_eq_getElem this] at h3
      exact ⟨_, h3⟩
    have hpos : 0 < c0 * k.w := Nat.mul_pos (by omega) hwp
    obtain ⟨blk, ty, fr, hblk, hspot, hget⟩ : ∃ blk ty fr, w.heap[a.block]? = some (.cells blk ty fr) ∧ a.spot = none ∧ ∀ q, w.cell? (a.add q) = blk[a.off + q]? := by
      obtain ⟨u, hu⟩ := cellOf 0 hpos
      rw [show a.add 0 = a by simp [Addr.add]] at hu
      unfold World.cell? at hu
      split at hu
      · rename_i c ty fr hh
        have hh' : w.heap[a.block]? = some (.cells c ty fr) := hh
        split at hu
        · cases hu
        · rename_i hsn
          have hsn' : a.spot = none := by
            cases hq : a.spot with
            | none => rfl
            | some _ => exact absurd (by simp [hq]) hsn
          refine ⟨c, ty, fr, hh', hsn', fun q => ?_⟩
          rw [addr_add hsn' q]
          unfold World.cell?
          simp only [hh']
          rfl
      · cases hu
    have hsize : a.off + c0 * k.w ≤ blk.size := by
      obtain ⟨u, hu⟩ := cellOf (c0 * k.w - 1) (by omega)
      rw [hget] at hu
      have := (Array.getElem?_eq_some_iff.1 hu).1
      omega
    obtain ⟨g1, g2⟩ := ghOf_ln (some (a.block, a.off)) blk.size k l
    have haddr : a = at_ (a.block, a.off) 0 := by
      cases a; simp only at hspot; subst hspot; simp [at_]
    have hcl : (cvs k l).length = n0 * k.w := by rw [cvs_length, hl1]
    have hmul : n0 * k.w ≤ c0 * k.w := Nat.mul_le_mul_right _ hle
    refine ⟨l, ghOf (some (a.block, a.off)) blk.size [.seq k 0 l], by omega, fun x hx => ?_, fun m => ⟨ghOf_seq _ _ _, cvs k l, ⟨cvs k l, [], (List.append_nil _).symm, ⟨.inl rfl, rfl⟩, rfl⟩, .inr ⟨(a.block, a.off), blk, ty, fr, rfl, hblk, rfl, ?_, fun j hj => ?_, fun h0 => by cases h0⟩⟩, fun b hb => ?_, fun m id hid => ?_⟩
    · obtain ⟨i, hi⟩ := List.getElem?_of_mem hx
      exact (hl2 i x hi).1
    · rw [hcl]; simp only [ghOf]; omega
    · rw [hcl] at hj
      have hdiv : j / k.w < n0 := Nat.div_lt_of_lt_mul (by rw [Nat.mul_comm]; exact hj)
      have hmod := Nat.mod_lt j hwp
      have h4 := (hl2 (j / k.w) (l.getD (j / k.w) k.zero) (by rw [List.getD_eq_getElem?_getD, List.getElem?_eq_getElem (by omega)]; rfl)).2 (j % k.w) hmod
      have h5 := cvs_getD k l (j / k.w) (by omega) (j % k.w) hmod
      rw [Nat.mul_comm, Nat.div_add_mod] at h4 h5
      rw [hget] at h4
      rw [h5]; exact h4
    · cases hb; exact (Array.getElem?_eq_some_iff.1 hblk).1
    · refine ⟨_, hid, _, some a, c0, hid, by rw [g1, hl1], by rw [g1]; omega, fun c h => (by cases h), by rw [g1]; simp, .inr ⟨(a.block, a.off), rfl, ?_, ?_⟩⟩
      · simp only [Nat.zero_mul, Nat.add_zero]; rw [← haddr]
      · rw [g2]; simp only [ghOf, Nat.zero_add, Nat.add_zero]; omega


/-- What an argument shows is memory that nothing turns. -/
theorem shown_fz {q : SK} {l : List q.ek.den} {g : Gh} {a0 : Option Addr} {n0 c0 : Nat} (h : Shown w q.ek l g (.slice a0 n0 c0)) : n0 = l.length ∧ FzW (Ctx.of w fun _ => False) a0 c0 (cvs q.ek l) := by
  have hrel := h.rel [g] 0 rfl
  obtain ⟨g1, hg1, g2, A, C, hg2, hv, hle, _, hln, hb⟩ := hrel
  cases hg1
  cases hg2
  cases hv
  obtain ⟨hsg, cs, hoc, hpl⟩ := h.obj []
  have hlen := (hsg 0 q.ek 0 l [] (drop0 _)).1
  have hew := (hsg 0 q.ek 0 l [] (drop0 _)).2
  obtain ⟨_, _, rfl, ⟨_, rfl⟩, rfl⟩ := hoc
  rw [List.append_nil] at hpl
  refine ⟨by rw [hlen], ?_⟩
  have hcl : (cvs q.ek l).length = l.length := by rw [cvs_length, ek_w, Nat.mul_one]
  rcases hb with hb | ⟨b, hb, hA, hsz⟩
  · refine .inl ⟨hb, ?_⟩
    have : l = [] := List.eq_nil_of_length_eq_zero (by omega)
    rw [this]; rfl
  · rcases hpl with ⟨_, h0⟩ | ⟨b', blk, t, fr, p1, p2, p3, p4, p5, _⟩
    · rw [hb] at h0; cases h0
    · rw [hb] at p1; cases p1
      rw [← hew, ek_w] at hsz
      refine .inr ⟨b, blk, t, fr, by rw [hA]; simp, p2, by omega, by omega, p5, fun h0 => h0⟩

theorem toL_inv (q : SK) (l : List q.ek.den) : ∃ d : List q.den, q.toL d = l := by
  cases q <;> exact ⟨l, rfl⟩

theorem wfS_toL {q : SK} {d : List q.den} (h : ∀ x ∈ q.toL d, wfE q.ek x) : ∀ x ∈ d, wfS q x := by
  cases q <;> exact h

theorem sc_ek {e : TypeId} {q : SK} (h : scS P e = some q) : scK P e = some q.ek := by
  unfold scS at h
  unfold scK
  split at h
  · rename_i k ht; cases h; simp only [ht]
  · rename_i ht; cases h; simp only [ht]
  · rename_i ht; cases h; simp only [ht]
  · cases h

theorem slFs_open {m : GM} {g : TypeId → Option (List SL)} {fuel : Nat} (ih : ∀ t sl cs (x : DataW H × List MemPlace), g t = some sl → DataW.trod enc P w base spare held fuel t cs = some x → Opn m sl cs x.2) :
    ∀ (fs : List Field) (off : Nat) (sl : List SL) (n : Nat) (cs : List Value) (xs : List (DataW H × List MemPlace)), slFs P g off fs = some (sl, n) → cs.length = n → xs.length = fs.length →
      (∀ (i : Nat) f, fs[i]? = some f → DataW.trod enc P w base spare held fuel f.type ((cs.drop f.offset).take (P.cellsOf f.type)) = xs[i]?) → Opn m sl (cs.drop off) (xs.flatMap (·.2))
  | [], off, sl, n, cs, xs, hs, hn, hx, _ => by
    simp only [slFs, Option.some.injEq, Prod.mk.injEq] at hs
    obtain ⟨rfl, rfl⟩ := hs
    have := List.eq_nil_of_length_eq_zero hx
    subst this
    exact ⟨(), by simp [encL, OCells, hn], trivial⟩
  | f :: fs, off, sl, n, cs, xs, hs, hn, hx, h => by
    simp only [slFs] at hs
    split at hs
    · rename_i hoff
      split at hs
      · rename_i a b n' ha hb
        simp only [Option.some.injEq, Prod.mk.injEq] at hs
        obtain ⟨rfl, rfl⟩ := hs
        cases xs with
        | nil => simp at hx
        | cons x xs =>
          have h0 := h 0 f rfl
          rw [hoff] at h0
          obtain ⟨d1, o1, w1⟩ := ih _ _ _ _ ha h0
          obtain ⟨d2, o2, w2⟩ := slFs_open ih fs _ _ _ cs xs hb hn (by simpa using hx) fun i f' hf => by simpa using h (i + 1) f' (by simpa using hf)
          refine ⟨appD _ _ d1 d2, ?_, wfL_app _ _ _ _ w1 w2⟩
          rw [encL_app]
          refine ocells_append.2 ⟨_, _, ?_, o1, o2⟩
          rw [← List.drop_drop, List.take_append_drop]
      · cases hs
    · cases hs

theorem slOf_open {m : GM} (hfz : ∀ a cap cs, FzW (Ctx.of w fun _ => False) a cap cs → FZ.ok a cap cs) : ∀ (f : Nat) (t : TypeId) (sl : List SL) (fuel : Nat) (cs : List Value) (x : DataW H × List MemPlace), slOf P f t = some sl →
    DataW.trod enc P w 0 (fun _ => true) held fuel t cs = some x → Opn m sl cs x.2
  | 0, t, sl, fuel, cs, x, hs, h => by simp [slOf] at hs
  | f + 1, t, sl, fuel, cs, x, hs, h => by
    simp only [slOf] at hs
    split at hs
    · rename_i k ht
      cases hs
      obtain ⟨n, rfl, rfl, hw⟩ := DataW.trod_int ht h
      exact ⟨(n, ()), ⟨[_], [], rfl, ⟨_, rfl, rfl⟩, rfl⟩, ⟨hw, trivial⟩⟩
    · rename_i ht
      cases hs
      obtain ⟨b, rfl, rfl⟩ := DataW.trod_bool ht h
      exact ⟨(b, ()), ⟨[_], [], rfl, ⟨_, rfl, rfl⟩, rfl⟩, ⟨trivial, trivial⟩⟩
    · rename_i ht
      cases hs
      obtain ⟨s, rfl, rfl, hw⟩ := DataW.trod_string ht h
      exact ⟨(s, ()), ⟨[_], [], rfl, ⟨_, rfl, rfl⟩, rfl⟩, ⟨hw, trivial⟩⟩
    · rename_i n e ht
      split at hs
      · rename_i k hk
        split at hs
        · rename_i h1
          cases hs
          obtain ⟨xs, mm, rfl, rfl, hc, hl, hall⟩ := DataW.trod_array ht h
          have hcn : cs.length = n := hc.trans h1.2
          obtain ⟨l, q1, q2, q3, q4⟩ := sc_list hk n cs xs hcn hl fun i hi => by
            have := hall i hi
            rw [h1.1, Nat.mul_one] at this
            exact this
          exact ⟨(l, ()), ⟨cs, [], by simp, ⟨.inr q2, q1⟩, rfl⟩, ⟨⟨q2, q3⟩, trivial⟩⟩
        · cases hs
      · cases hs
    · rename_i fs ht
      split at hs
      · rename_i l n hl
        split at hs
        · rename_i hn
          cases hs
          obtain ⟨xs, mm, rfl, rfl, hc, hx, hall⟩ := DataW.trod_struct ht h
          have := slFs_open (m := m) (fun t sl cs x hs h => slOf_open hfz f t sl mm cs x hs h) fs.toList 0 _ _ cs xs hl (hc.trans hn.symm) (by simpa using hx) fun i f' hf => hall i f' (by simpa using hf)
          simpa using this
        · cases hs
      · cases hs
    · rename_i e ht
      split at hs
      · rename_i q hq
        split at hs
        · rename_i h1
          cases hs
          have hv : ∃ a0 n0 c0, cs = [.slice a0 n0 c0] := by
            rcases DataW.trod_slice ht h with ⟨h2, _⟩ | ⟨a, len, cap, elems, rest, n, _, h2, _⟩
            · exact ⟨_, _, _, h2⟩
            · exact ⟨_, _, _, h2⟩
          obtain ⟨a0, n0, c0, rfl⟩ := hv
          obtain ⟨l, g, hsh⟩ := slice_core (k := q.ek) ht (h1.trans (ek_w q).symm) (fun n cs x hx => let ⟨z, z1, z2, _⟩ := sc_open (sc_ek hq) hx; ⟨z, z1, z2⟩) h
          obtain ⟨h3, h4⟩ := shown_fz hsh
          obtain ⟨dd, rfl⟩ := toL_inv q l
          rw [toL_cvs] at h4
          rw [toL_length] at h3
          refine ⟨(⟨a0, c0, dd, .inr (hfz _ _ _ h4)⟩, ()), ⟨[_], [], rfl, ⟨_, rfl, ?_⟩, rfl⟩, ⟨⟨?_, wfS_toL hsh.wf⟩, trivial⟩⟩
          · rw [h3]; rfl
          · have := hsh.len; rw [toL_length] at this; exact this
        · cases hs
      · cases hs
    · cases hs

/-- One argument without memory of its own, of several cells. -/
theorem arg_agg (hfz : ∀ a cap cs, FzW (Ctx.of w fun _ => False) a cap cs → FZ.ok a cap cs) {m : GM} {r : Reach} {b0 : Nat} {t : TypeId} {v : Value} {d : DataW H} {ps : List MemPlace} {sl : List SL} (hs : slOf P 8 t = some sl) (hag : isAggT P t = true) (hv : Value.okWide P w r b0 t v)
    (h : DataW.Trod enc P w 0 (fun _ => true) held t v d ps) : ∃ y : denL sl, TVRel m (.agg (encL sl y)) v ∧ wfL sl y := by
  obtain ⟨fuel, hf⟩ := h
  obtain ⟨y, h1, h2⟩ := slOf_open (m := m) hfz _ _ _ _ _ _ hs hf
  have : ∃ cs, v = .agg cs := by
    unfold isAggT at hag
    unfold Value.okWide at hv
    split at hag
    · rename_i fs ht
      rw [ht] at hv
      obtain ⟨cs, h, _⟩ := hv
      exact ⟨cs, h⟩
    · rename_i n e ht
      rw [ht] at hv
      obtain ⟨cs, h, _⟩ := hv
      exact ⟨cs, h⟩
    · cases hag
  obtain ⟨cs, rfl⟩ := this
  exact ⟨y, ⟨cs, rfl, h1⟩, h2⟩

theorem arg_int {r : Reach} {b0 : Nat} {t : TypeId} {k : IntKind} {v : Value} {d : DataW H} {ps : List MemPlace} (ht : P.underlying t = some (.int k)) (hv : Value.okWide P w r b0 t v)
    (h : DataW.Trod enc P w base spare held t v d ps) : ∃ n, v = .int k n ∧ (Lit.int k n).wf = true ∧ ps = [] := by
  obtain ⟨n, rfl⟩ := Go.WideShapes.okWide_int ht hv
  obtain ⟨fuel, hf⟩ := h
  obtain ⟨n', h1, h2, h3⟩ := DataW.trod_int ht hf
  simp [Value.cells] at h1
  subst h1
  exact ⟨n, rfl, h3, congrArg (·.2) h2⟩

theorem arg_bool {r : Reach} {b0 : Nat} {t : TypeId} {v : Value} {d : DataW H} {ps : List MemPlace} (ht : P.underlying t = some .bool) (hv : Value.okWide P w r b0 t v)
    (h : DataW.Trod enc P w base spare held t v d ps) : ∃ b, v = .bool b ∧ ps = [] := by
  obtain ⟨b, rfl⟩ := Go.WideShapes.okWide_bool ht hv
  obtain ⟨fuel, hf⟩ := h
  obtain ⟨b', h1, h2⟩ := DataW.trod_bool ht hf
  exact ⟨b, rfl, congrArg (·.2) h2⟩

theorem arg_str {r : Reach} {b0 : Nat} {t : TypeId} {v : Value} {d : DataW H} {ps : List MemPlace} (ht : P.underlying t = some .string) (hv : Value.okWide P w r b0 t v)
    (h : DataW.Trod enc P w base spare held t v d ps) : ∃ s, v = .string s ∧ s.size ≤ maxLen ∧ ps = [] := by
  obtain ⟨s, rfl⟩ := Go.WideShapes.okWide_string ht hv
  obtain ⟨fuel, hf⟩ := h
  obtain ⟨s', h1, h2, h3⟩ := DataW.trod_string ht hf
  simp [Value.cells] at h1
  subst h1
  exact ⟨s, rfl, h3, congrArg (·.2) h2⟩

theorem trodAll_below (hl : laidOutB P = true) {W W' : World} (hb : Below W.heap.size W W') : ∀ {ts : List TypeId} {vs : List Value} {ds : List (DataW H)} {ps : List MemPlace},
    (∀ t ∈ ts, P.readableRec t = true ∧ t < P.types.size) → DataW.TrodAll enc P W 0 (fun _ => true) true ts vs ds ps → (∀ x ∈ ps, x.block < W.heap.size) →
    DataW.TrodAll enc P W' 0 (fun b => decide (b < W.heap.size)) true ts vs ds ps
  | [], [], [], ps, _, h, _ => h
  | t :: ts, v :: vs, d :: ds, ps, hr, ⟨p, q, h1, h2, h3⟩, hlt => by
    subst h3
    exact ⟨p, q, Go.RowKit.Below.trod hl (hr t (by simp)).1 (hr t (by simp)).2 h1 hb (fun x hx => hlt x (by simp [hx])), trodAll_below hl hb (fun t ht => hr t (by simp [ht])) h2 (fun x hx => hlt x (by simp [hx])), rfl⟩
  | [], _ :: _, _, _, _, h, _ => h.elim
  | [], [], _ :: _, _, _, h, _ => h.elim
  | _ :: _, [], _, _, _, h, _ => h.elim
  | _ :: _, _ :: _, [], _, _, h, _ => h.elim

theorem Ext.below {w w' : World} (h : Ext w w') : Below w.heap.size w w' := ⟨h.str.1, h.str.2.1, h.str.2.2, h.size, fun k hk => h.block k hk⟩

/-- No objects. -/
theorem inv_nil (hfz : ∀ a cap cs, FZ.ok a cap cs → FzW (Ctx.of w fun _ => False) a cap cs) : Inv (Ctx.of w fun _ => False) [] [] w :=
  ⟨rfl, fun id ob g h => by simp [hget] at h, fun id ob g b h => by simp [hget] at h, fun i j oi oj gi gj b c _ h => by simp [hget] at h, Str.refl w, Nat.le_refl _, fun _ _ _ => rfl, hfz, fun x hx => by cases hx⟩

end
end Go.Proofs.Ytillbabmlfjegaa.Ev
end

section
/- A region of open order that makes several variables at once: what is known whichever operations have come up. -/
namespace Go.Proofs.Ytillbabmlfjegaa.Ev
open Go
set_option linter.unusedVariables false
set_option linter.unusedSimpArgs false
set_option linter.unusedSectionVars false
variable [FZ]
variable {P : Program}

def unl (L : Array Bool) : Nat → Nat
  | 0 => 0
  | n + 1 => unl L n + (if L.getD n true = true then 0 else 1)

theorem unl_ne {L : Array Bool} {i : Nat} : ∀ n, n ≤ i → unl (L.setIfInBounds i true) n = unl L n
  | 0, _ => rfl
  | n + 1, h => by
    simp only [unl]
    rw [unl_ne n (by omega), getD_set_ne true (by omega)]

theorem unl_set {L : Array Bool} {i : Nat} (hi : L.getD i true = false) : ∀ n, i < n → unl (L.setIfInBounds i true) n + 1 = unl L n
  | 0, h => by omega
  | n + 1, h => by
    simp only [unl]
    by_cases hn : i = n
    · subst hn
      have h1 : (L.setIfInBounds i true).getD i true = true := by
        rcases Nat.lt_or_ge i L.size with h' | h'
        · simp [h']
        · simp [Array.getElem?_eq_none h'] at hi
      rw [unl_ne i (Nat.le_refl _), h1, hi]
      simp
    · have := unl_set hi n (by omega)
      rw [getD_set_ne true hn]
      omega

theorem unl_zero {L : Array Bool} : ∀ n, unl L n = 0 → ∀ j, j < n → L.getD j true = true
  | 0, _, j, h => by omega
  | n + 1, h0, j, h => by
    simp only [unl] at h0
    by_cases hj : j = n
    · subst hj
      cases hb : L.getD j true with
      | true => rfl
      | false => rw [hb] at h0; simp at h0
    · exact unl_zero n (by omega) j (by omega)

theorem unl_none : ∀ n m, n ≤ m → unl (Array.replicate m false) n = n
  | 0, _, _ => rfl
  | n + 1, m, h => by
    simp only [unl]
    rw [unl_none n m (by omega)]
    have : (Array.replicate m false).getD n true = false := by simp [show n < m by omega]
    rw [this]; simp

/-- Each edge that binds points back. -/
def backB (ops : Array Oper) : Bool := (List.range ops.size).all fun j => match ops[j]? with
  | some o => o.after.all fun e => !(Region.binds .any e) || decide (e.on < j)
  | none => true

theorem all_listed {ops : Array Oper} (hb : backB ops = true) {L : Array Bool} (hsz : L.size = ops.size) (hr : Region.ready .any ops L = []) : ∀ j, j < ops.size → L.getD j true = true := by
  intro j
  induction j using Nat.strongRecOn with
  | _ j ih =>
    intro hj
    cases hq : L.getD j true with
    | true => rfl
    | false =>
      exfalso
      obtain ⟨o, ho⟩ : ∃ o, ops[j]? = some o := ⟨_, Array.getElem?_eq_getElem hj⟩
      have : j ∈ Region.ready .any ops L := by
        refine mem_ready.2 ⟨hq, o, ho, fun e he hbe => ?_⟩
        have h1 := List.all_eq_true.1 hb j (List.mem_range.2 hj)
        simp only [ho] at h1
        have h2 := Array.all_eq_true'.1 h1 e he
        simp only [hbe, Bool.not_true, Bool.false_or, decide_eq_true_eq] at h2
        have h3 := ih e.on h2 (by omega)
        have : e.on < L.size := by omega
        simp [this] at h3 ⊢
        exact h3
      rw [hr] at this; cases this

/-- What holds whichever operations have come up. -/
theorem wpAny_inv {ops : Array Oper} {Q : Exit → Act → World → Prop} (Phi : Array Bool → Act → World → Prop) (hb : backB ops = true)
    (hstep : ∀ L a w i, L.size = ops.size → Phi L a w → i ∈ Region.ready .any ops L → wpOp P ops Q i (fun a' w' => Phi (L.setIfInBounds i true) a' w') a w)
    (hfin : ∀ L a w, L.size = ops.size → Phi L a w → (∀ j, j < ops.size → L.getD j true = true) → Q .normal a w) :
    ∀ fuel L a w, L.size = ops.size → unl L ops.size ≤ fuel → Phi L a w → wpAny P .any ops Q fuel L a w
  | 0, L, a, w, hsz, hu, hp => by
    have h0 := unl_zero _ (by omega : unl L ops.size = 0)
    refine ⟨?_, hfin L a w hsz hp h0⟩
    cases hr : Region.ready .any ops L with
    | nil => rfl
    | cons i r =>
      obtain ⟨h1, o, h2, _⟩ := mem_ready.1 (show i ∈ Region.ready .any ops L by rw [hr]; simp)
      have := h0 i (Array.getElem?_eq_some_iff.1 h2).1
      rw [h1] at this; cases this
  | fuel + 1, L, a, w, hsz, hu, hp => by
    refine ⟨fun hr => hfin L a w hsz hp (all_listed hb hsz hr), fun i hi => ?_⟩
    obtain ⟨h1, o, h2, _⟩ := mem_ready.1 hi
    have h3 := unl_set h1 ops.size (Array.getElem?_eq_some_iff.1 h2).1
    exact wpOp_mono (fun a' w' h' => wpAny_inv Phi hb hstep hfin fuel _ a' w' (by simpa using hsz) (by omega) h') (hstep L a w i hsz hp hi)

/-- A variable that is made: by which operation, which one stores into it, its slot, its type, what is stored. -/
structure Cel where
  al : Nat
  st : Nat
  dst : Nat
  t : TypeId
  V : Array Value

structure PHI (w0 : World) (a0 : Act) (VL : List (Nat × Nat × Value)) (CL : List Cel) (L : Array Bool) (a : Act) (w : World) : Prop where
  ext : Ext w0 w
  dfr : a.defers = a0.defers
  len : a.tmps.size = a0.tmps.size
  keep : ∀ s, (∀ p ∈ VL, p.2.1 ≠ s) → (∀ c ∈ CL, c.dst ≠ s) → a.tmps.getD s undef = a0.tmps.getD s undef
  vals : ∀ p ∈ VL, L.getD p.1 false = true → a.tmps.getD p.2.1 undef = p.2.2
  ord : ∀ c ∈ CL, L.getD c.st false = true → L.getD c.al false = true
  cells : ∀ c ∈ CL, L.getD c.al false = true → ∃ b, a.tmps.getD c.dst undef = .pointer (some (at_ (b, 0) 0)) ∧ w0.heap.size ≤ b ∧
    ∃ blk, w.heap[b]? = some (.cells blk c.t (0, 0)) ∧ blk.size = c.V.size ∧ (L.getD c.st false = true → blk = c.V)
  dist : ∀ c ∈ CL, ∀ d ∈ CL, c.dst ≠ d.dst → L.getD c.al false = true → L.getD d.al false = true → ∀ b b', a.tmps.getD c.dst undef = .pointer (some (at_ (b, 0) 0)) →
    a.tmps.getD d.dst undef = .pointer (some (at_ (b', 0) 0)) → b ≠ b'

theorem put_getD {a : Act} {d s : Nat} {v : Value} (hd : d < a.tmps.size) : (a.put (some d) v).tmps.getD s undef = if d = s then v else a.tmps.getD s undef := by
  simp only [Act.put, Array.getD_eq_getD_getElem?, Array.getElem?_setIfInBounds]
  split
  · rename_i h; subst h; simp [hd]
  · rfl

theorem set_getD {L : Array Bool} {i j : Nat} (hi : i < L.size) : (L.setIfInBounds i true).getD j false = if i = j then true else L.getD j false := by
  simp only [Array.getD_eq_getD_getElem?, Array.getElem?_setIfInBounds]
  split
  · rename_i h; subst h; simp [hi]
  · rfl

section
variable {w0 : World} {a0 : Act} {VL : List (Nat × Nat × Value)} {CL : List Cel} {L : Array Bool} {a : Act} {w w' : World}

theorem PHI.value (h : PHI w0 a0 VL CL L a w) {p : Nat × Nat × Value} (hp : p ∈ VL) (hi : p.1 < L.size) (hd : p.2.1 < a0.tmps.size) (hq : ∀ q ∈ VL, q.1 = p.1 ∨ q.2.1 = p.2.1 → q = p) (hc : ∀ c ∈ CL, c.dst ≠ p.2.1 ∧ c.al ≠ p.1 ∧ c.st ≠ p.1)
    (e : Ext w w') : PHI w0 a0 VL CL (L.setIfInBounds p.1 true) (a.put (some p.2.1) p.2.2) w' := by
  have hd' : p.2.1 < a.tmps.size := by rw [h.len]; exact hd
  refine ⟨h.ext.trans e, h.dfr, by simp [Act.put, h.len], fun s h1 h2 => ?_, fun q hq' hl => ?_, fun c hc' hl => ?_, fun c hc' hl => ?_, fun c hc' d hd2 hne h1 h2 b b' h3 h4 => ?_⟩
  · rw [put_getD hd', if_neg (h1 p hp)]; exact h.keep s h1 h2
  · rw [put_getD hd']
    rw [set_getD hi] at hl
    split
    · rename_i hs; rw [hq q hq' (.inr hs.symm)]
    · rename_i hs
      rw [if_neg] at hl
      · exact h.vals q hq' hl
      · intro h1; exact hs (by rw [hq q hq' (.inl h1.symm)])
  · obtain ⟨c1, c2, c3⟩ := hc c hc'
    rw [set_getD hi, if_neg (Ne.symm c3)] at hl
    rw [set_getD hi, if_neg (Ne.symm c2)]
    exact h.ord c hc' hl
  · obtain ⟨c1, c2, c3⟩ := hc c hc'
    rw [set_getD hi, if_neg (Ne.symm c2)] at hl
    obtain ⟨b, q1, q2, blk, q3, q4, q5⟩ := h.cells c hc' hl
    refine ⟨b, by rw [put_getD hd', if_neg (Ne.symm c1)]; exact q1, q2, blk, e.get q3, q4, fun h' => q5 ?_⟩
    rw [set_getD hi, if_neg (Ne.symm c3)] at h'
    exact h'
  · obtain ⟨c1, c2, c3⟩ := hc c hc'
    obtain ⟨d1, d2, d3⟩ := hc d hd2
    rw [set_getD hi, if_neg (Ne.symm c2)] at h1
    rw [set_getD hi, if_neg (Ne.symm d2)] at h2
    rw [put_getD hd', if_neg (Ne.symm c1)] at h3
    rw [put_getD hd', if_neg (Ne.symm d1)] at h4
    exact h.dist c hc' d hd2 hne h1 h2 b b' h3 h4

theorem PHI.alloc (h : PHI w0 a0 VL CL L a w) {c : Cel} (hc : c ∈ CL) (hi : c.al < L.size) (hun : L.getD c.al false = false) (hd : c.dst < a0.tmps.size) (hq : ∀ q ∈ VL, q.1 ≠ c.al ∧ q.2.1 ≠ c.dst)
    (hcl : ∀ d ∈ CL, (d.al = c.al ∨ d.dst = c.dst → d = c) ∧ d.st ≠ c.al) {Z : Array Value} (hz : Z.size = c.V.size) :
    PHI w0 a0 VL CL (L.setIfInBounds c.al true) (a.put (some c.dst) (.pointer (some (at_ (w.heap.size, 0) 0)))) (pushB w (.cells Z c.t)) := by
  have hd' : c.dst < a.tmps.size := by rw [h.len]; exact hd
  have e := ext_push w (.cells Z c.t)
  have hne : ∀ d ∈ CL, d ≠ c → c.al ≠ d.al ∧ c.dst ≠ d.dst := fun d hd2 hdc => ⟨fun h1 => hdc ((hcl d hd2).1 (.inl h1.symm)), fun h1 => hdc ((hcl d hd2).1 (.inr h1.symm))⟩
  have hlt : ∀ d ∈ CL, L.getD d.al false = true → ∀ b, a.tmps.getD d.dst undef = .pointer (some (at_ (b, 0) 0)) → b < w.heap.size := by
    intro d hd2 hl b hb
    obtain ⟨b2, q1, q2, blk, q3, _⟩ := h.cells d hd2 hl
    rw [hb] at q1
    have : b = b2 := by injection q1 with q1; injection q1 with q1; simp only [at_, Addr.mk.injEq] at q1; exact q1.1
    rw [this]; exact (Array.getElem?_eq_some_iff.1 q3).1
  have hpt : ∀ {x b : Nat}, (Value.pointer (some (at_ (x, 0) 0))) = .pointer (some (at_ (b, 0) 0)) → x = b := by
    intro x b h1; injection h1 with h1; injection h1 with h1; simp only [at_, Addr.mk.injEq] at h1; exact h1.1
  refine ⟨h.ext.trans e, h.dfr, by simp [Act.put, h.len], fun s h1 h2 => ?_, fun q hq' hl => ?_, fun d hd2 hl => ?_, fun d hd2 hl => ?_, fun d hd2 d' hd3 hdd h1 h2 b b' h3 h4 => ?_⟩
  · rw [put_getD hd', if_neg (h2 c hc)]; exact h.keep s h1 h2
  · rw [set_getD hi, if_neg (Ne.symm (hq q hq').1)] at hl
    rw [put_getD hd', if_neg (Ne.symm (hq q hq').2)]
    exact h.vals q hq' hl
  · rw [set_getD hi, if_neg (Ne.symm (hcl d hd2).2)] at hl
    rw [set_getD hi]
    split
    · rfl
    · exact h.ord d hd2 hl
  · by_cases hdc : d = c
    · subst hdc
      refine ⟨w.heap.size, by rw [put_getD hd', if_pos rfl], h.ext.size, Z, push_get w _, hz, fun hst => ?_⟩
      rw [set_getD hi, if_neg (Ne.symm (hcl d hd2).2)] at hst
      have := h.ord d hd2 hst
      rw [hun] at this; cases this
    · obtain ⟨n1, n2⟩ := hne d hd2 hdc
      rw [set_getD hi, if_neg n1] at hl
      obtain ⟨b, q1, q2, blk, q3, q4, q5⟩ := h.cells d hd2 hl
      refine ⟨b, by rw [put_getD hd', if_neg n2]; exact q1, q2, blk, e.get q3, q4, fun hst => q5 ?_⟩
      rw [set_getD hi, if_neg (Ne.symm (hcl d hd2).2)] at hst
      exact hst
  · by_cases hdc : d = c
    · subst hdc
      rw [put_getD hd', if_pos rfl] at h3
      have n3 : d' ≠ d := fun h0 => hdd (by rw [h0])
      obtain ⟨n1, n2⟩ := hne d' hd3 n3
      rw [set_getD hi, if_neg n1] at h2
      rw [put_getD hd', if_neg n2] at h4
      have := hlt d' hd3 h2 b' h4
      have := hpt h3
      omega
    · obtain ⟨n1, n2⟩ := hne d hd2 hdc
      rw [set_getD hi, if_neg n1] at h1
      rw [put_getD hd', if_neg n2] at h3
      by_cases hdc' : d' = c
      · subst hdc'
        rw [put_getD hd', if_pos rfl] at h4
        have := hlt d hd2 h1 b h3
        have := hpt h4
        omega
      · obtain ⟨m1, m2⟩ := hne d' hd3 hdc'
        rw [set_getD hi, if_neg m1] at h2
        rw [put_getD hd', if_neg m2] at h4
        exact h.dist d hd2 d' hd3 hdd h1 h2 b b' h3 h4

theorem PHI.store (h : PHI w0 a0 VL CL L a w) {c : Cel} (hc : c ∈ CL) (hi : c.st < L.size) (hal : L.getD c.al false = true) (hq : ∀ q ∈ VL, q.1 ≠ c.st)
    (hcl : ∀ d ∈ CL, (d.st = c.st ∨ d.dst = c.dst → d = c) ∧ d.al ≠ c.st) {b : Nat} (hb : a.tmps.getD c.dst undef = .pointer (some (at_ (b, 0) 0))) (ho : OnlyB w w' b) (hw : w'.heap[b]? = some (.cells c.V c.t (0, 0))) :
    PHI w0 a0 VL CL (L.setIfInBounds c.st true) a w' := by
  obtain ⟨b0, q1, q2, blk, q3, q4, q5⟩ := h.cells c hc hal
  have hbb : b0 = b := by
    rw [hb] at q1; injection q1 with q1; injection q1 with q1; simp only [at_, Addr.mk.injEq] at q1; exact q1.1.symm
  subst hbb
  have e : Ext w0 w' := ⟨h.ext.str.trans ho.str, by rw [ho.size]; exact h.ext.size, fun x hx => by rw [ho.block x (by omega)]; exact h.ext.block x hx⟩
  refine ⟨e, h.dfr, h.len, h.keep, fun q hq' hl => ?_, fun d hd2 hl => ?_, fun d hd2 hl => ?_, fun d hd2 d' hd3 hdd h1 h2 b b' h3 h4 => ?_⟩
  · rw [set_getD hi, if_neg (Ne.symm (hq q hq'))] at hl
    exact h.vals q hq' hl
  · rw [set_getD hi, if_neg (Ne.symm (hcl d hd2).2)]
    rw [set_getD hi] at hl
    split at hl
    · rename_i h1; rw [(hcl d hd2).1 (.inl h1.symm)]; exact hal
    · exact h.ord d hd2 hl
  · rw [set_getD hi, if_neg (Ne.symm (hcl d hd2).2)] at hl
    by_cases hdc : d = c
    · subst hdc
      exact ⟨b0, hb, q2, d.V, hw, rfl, fun _ => rfl⟩
    · have hne : d.dst ≠ c.dst := fun h1 => hdc ((hcl d hd2).1 (.inr h1))
      obtain ⟨b1, r1, r2, blk1, r3, r4, r5⟩ := h.cells d hd2 hl
      have hb1 := h.dist d hd2 c hc hne hl hal b1 b0 r1 hb
      refine ⟨b1, r1, r2, blk1, by rw [ho.block b1 hb1]; exact r3, r4, fun hst => r5 ?_⟩
      rw [set_getD hi, if_neg] at hst
      · exact hst
      · intro h1; exact hdc ((hcl d hd2).1 (.inl h1.symm))
  · rw [set_getD hi, if_neg (Ne.symm (hcl d hd2).2)] at h1
    rw [set_getD hi, if_neg (Ne.symm (hcl d' hd3).2)] at h2
    exact h.dist d hd2 d' hd3 hdd h1 h2 b b' h3 h4
end

/-- A call of a function that is handed memory for reading alone, by its summary. -/
theorem calls_of_summ {f : FuncId} {S : Summ} (hs : SoundFn P f S) {vs rs : List TV} {h : Heap} (he : S vs h (fun rs _ => some (rs, [])) = some (rs, [])) {m : GM} {w : World} {cvs : List Value}
    (hi : Inv (Ctx.of w fun _ => False) m h w) (hx : TVs m vs cvs) : Calls P f cvs.toArray w fun e w' => ∃ v t, e = .returned v ∧ ResRel (m ++ t) rs v ∧ Ext w w' := by
  refine (hs.ok vs h _ _ he _ m w cvs rfl rfl rfl hi hx).mono ?_
  rintro e w' ⟨rs', h', hk, v, t, rfl, hr, hi'⟩
  simp only [Option.some.injEq, Prod.mk.injEq, and_true] at hk
  subst hk
  exact ⟨v, t, rfl, hr, hi'.str, hi'.size, fun b hb => hi'.frame b hb (fun h => h)⟩

end Go.Proofs.Ytillbabmlfjegaa.Ev
end

section
/- SHA-256: a block, as the code reckons it: the region that makes three variables in any order, and what is behind it. -/
namespace Go.Proofs.Ytillbabmlfjegaa.X
open Go Go.Proofs.Ytillbabmlfjegaa.Ev Go.Proofs
set_option linter.unusedVariables false
set_option linter.unusedSimpArgs false
set_option linter.unusedSectionVars false
variable [FZ]

def k64 : List Int := [1116352408, 1899447441, 3049323471, 3921009573, 961987163, 1508970993, 2453635748, 2870763221, 3624381080, 310598401, 607225278, 1426881987, 1925078388, 2162078206, 2614888103, 3248222580, 3835390401, 4022224774, 264347078, 604807628, 770255983, 1249150122, 1555081692, 1996064986, 2554220882, 2821834349, 2952996808, 3210313671, 3336571891, 3584528711, 113926993, 338241895, 666307205, 773529912, 1294757372, 1396182291, 1695183700, 1986661051, 2177026350, 2456956037, 2730485921, 2820302411, 3259730800, 3345764771, 3516065817, 3600352804, 4094571909, 275423344, 430227734, 506948616, 659060556, 883997877, 958139571, 1322822218, 1537002063, 1747873779, 1955562222, 2024104815, 2227730452, 2361852424, 2428436474, 2756734187, 3204031479, 3329325298]

noncomputable def ops130 : Array Oper := match cL (cR code130) with | .region _ ops _ => ops | _ => #[]
noncomputable def opB (i : Nat) : Oper := ops130.getD i default

theorem opsB_size : ops130.size = 10 := by kernel_rfl
theorem opsB_back : backB ops130 = true := by kernel_rfl
theorem opsB_get {i : Nat} (h : i < 10) : ops130[i]? = some (opB i) := by
  have : i < ops130.size := by rw [opsB_size]; exact h
  rw [Array.getElem?_eq_getElem this]
  simp [opB, this]

theorem gB0 : ((List.range 10).all fun i => (opB i).guard.isNone) = true := by kernel_rfl
theorem gB (i : Nat) (h : i < 10) : (opB i).guard = none := by
  have := List.all_eq_true.1 gB0 i (List.mem_range.2 h)
  simpa using this

/-- An operation that waits for another one comes up behind it. -/
noncomputable def waits1 (i j : Nat) : Bool := (opB i).after.any fun e => Region.binds .any e && e.on == j
theorem waits1_spec {i j : Nat} (hi : i < 10) (h : waits1 i j = true) {L : Array Bool} (hr : i ∈ Region.ready .any ops130 L) : L.getD j false = true := by
  obtain ⟨_, o, ho, hall⟩ := mem_ready.1 hr
  rw [opsB_get hi] at ho
  cases ho
  obtain ⟨e, he, h1⟩ := Array.any_eq_true'.1 h
  simp only [Bool.and_eq_true, beq_iff_eq] at h1
  rw [← h1.2]; exact hall e he h1.1

abbrev u32v (l : List Int) : Array Value := (cvs (.int .u32) l).toArray
theorem u32v_size (l : List Int) : (u32v l).size = l.length := by simp [u32v, cvs_length, EK.w]

def VLb (b : List Int) (s : List Int) (vb : Value) : List (Nat × Nat × Value) :=
  [(0, 16, .agg (u32v k64)), (1, 17, vb), (2, 18, .agg (u32v (wds b))), (3, 19, .agg (u32v s))]
def CLb (b : List Int) (s : List Int) : List Cel :=
  [⟨4, 7, 5, 182, u32v k64⟩, ⟨5, 8, 6, 182, u32v (wds b)⟩, ⟨6, 9, 7, 177, u32v s⟩]

abbrev hB (ro : Bool) (b s z : List Int) : Heap := [some ⟨ro, [.seq (.int .u8) 0 b]⟩, some ⟨false, [.seq (.int .u32) 8 s]⟩, some ⟨false, [.seq (.int .u32) 8 z]⟩]

/-- A store into a variable that was made. -/
theorem store_new {a : Act} {w : World} {o : Oper} {t : TypeId} {d y n : Nat} {V blk : Array Value} {b : Nat} (ho : o.op = .store t (.tmp d) (.tmp y)) (hs : ∃ i, Try.prog.info? t = some i ∧ i.size = n) (hn : V.size = n) (hbs : blk.size = n)
    (hd : a.tmps.getD d undef = .pointer (some (at_ (b, 0) 0))) (hy : a.tmps.getD y undef = .agg V) (hlf : ∀ v ∈ V.toList, leafV v) (hb : w.heap[b]? = some (.cells blk t (0, 0))) :
    ∃ w', (execOp a.eval o).run Try.prog w = .ok .skip w' ∧ OnlyB w w' b ∧ w'.heap[b]? = some (.cells V t (0, 0)) := by
  obtain ⟨i, hi, hin⟩ := hs
  obtain ⟨w', cur', q1, q2, q3, q4⟩ := run_storeCells_any (P := Try.prog) (g := b) (o := 0) (t := t) (fr := (0, 0)) V.toList 0 blk w hb (by simp; omega) hlf (fun j _ => by simp)
  have hV : cur' = V := by
    apply Array.ext'
    rw [q4]
    have : blk.toList.length = n := by simpa using hbs
    have h2 : V.toList.length = n := by simpa using hn
    simp only [Nat.zero_add, List.take_zero, List.nil_append]
    rw [List.drop_eq_nil_of_le (by omega), List.append_nil]
  subst hV
  refine ⟨w', ?_, q2, q3⟩
  have ex : a.eval (.tmp d) = .pointer (some (at_ (b, 0) 0)) := hd
  have ey : a.eval (.tmp y) = .agg cur' := hy
  have hst : (storeCells (at_ (b, 0) 0) cur'.toList).run Try.prog w = .ok () w' := q1
  simp only [execOp, ho, ex, ey, Instr.storeAt, Instr.sureAddr, storeVar, Sem.run_bind, Sem.run_pure, Result.andThen_ok, run_size hi, Value.cells, hn, hin]
  simp [hst]

theorem alloc_new {a : Act} {w : World} {o : Oper} {t : TypeId} {es : List LV} {n : Nat} (ho : o.op = .alloc t) (hz : zeroE Try.prog t = some es) (hw : wOf es = some n) :
    ∃ Z : Array Value, Z.size = n ∧ (execOp a.eval o).run Try.prog w = .ok (.value (.pointer (some (at_ (w.heap.size, 0) 0)))) (pushB w (.cells Z t)) := by
  obtain ⟨i, z, hin, hzz, hoc⟩ := zeroE_cells (m := []) hz
  refine ⟨z.cells, ?_, ?_⟩
  · have := wOf_cells hw hoc
    simpa using this
  · simp [execOp, ho, Instr.alloc, zero_run hin hzz, newVar, newRow, newObj, Sem.run, pushB, at_]

theorem wp_of_ok {a : Act} {w w' : World} {o : Oper} {v : Value} {next : Act → World → Prop} {Q : Exit → Act → World → Prop} (h : (execOp a.eval o).run Try.prog w = .ok (.value v) w') (hn : next (a.put o.dst v) w') : o.wp Try.prog a w next Q := by
  unfold Oper.wp; rw [h, Oper.upon_value]; exact hn

theorem wp_of_skip {a : Act} {w w' : World} {o : Oper} {next : Act → World → Prop} {Q : Exit → Act → World → Prop} (h : (execOp a.eval o).run Try.prog w = .ok .skip w') (hn : next (a.put o.dst undef) w') : o.wp Try.prog a w next Q := by
  unfold Oper.wp; rw [h, Oper.upon_skip]; exact hn

theorem agg_inv {m : GM} {n : Nat} {l : List Int} {v : Value} (h : ResRel m [.agg [.seq (.int .u32) n l]] v) : v = .agg (u32v l) := by
  obtain ⟨cs, rfl, x, y, hcs, ⟨_, rfl⟩, rfl⟩ := h
  have : cs = u32v l := by apply Array.ext'; rw [hcs]; simp [u32v]
  rw [this]

set_option maxRecDepth 100000 in
/-- One operation of the region. -/
theorem regB_step {F : Nat} (hF : 100 ≤ F) {G : Ctx} {m : GM} {ro : Bool} {b s z : List Int} {vb : Value} {w0 : World} {a0 : Act} (hb : 64 ≤ b.length) (hs : s.length = 8) (hi : Inv G m (hB ro b s z) w0)
    (hgd : a0.defers = G.dfs) (h1 : a0.tmps.getD 1 undef = vb) (hvb : LRel m (.full 0) vb) (h2 : TVRel m (.lf (.ptr 1 0)) (a0.tmps.getD 2 undef)) (hsz : 109 ≤ a0.tmps.size) {Q : Exit → Act → World → Prop} :
    ∀ L a w i, L.size = ops130.size → PHI w0 a0 (VLb b s vb) (CLb b s) L a w → i ∈ Region.ready .any ops130 L →
      wpOp Try.prog ops130 Q i (fun a' w' => PHI w0 a0 (VLb b s vb) (CLb b s) (L.setIfInBounds i true) a' w') a w := by
  intro L a w i hL hp hr
  rw [opsB_size] at hL
  obtain ⟨hun, o, ho, hall⟩ := mem_ready.1 hr
  have hi10 : i < 10 := by rw [← opsB_size]; exact (Array.getElem?_eq_some_iff.1 ho).1
  have hunf : L.getD i false = false := by
    have : i < L.size := by omega
    simp [this] at hun ⊢; exact hun
  have hwant : ∀ y, Region.wanted (opB i) y = true := fun y => by simp [Region.wanted, gB i hi10]
  have hkeep : ∀ s', s' < 16 → s' ≠ 5 → s' ≠ 6 → s' ≠ 7 → a.tmps.getD s' undef = a0.tmps.getD s' undef := fun s' q1 q2 q3 q4 => hp.keep s' (by simp [VLb]; omega) (by simp [CLb]; omega)
  refine wpOp_of (opsB_get hi10) ?_
  rw [if_pos (hwant _)]
  have hiw := hi.ext hp.ext
  have hfzw : ∀ a cap cs, FZ.ok a cap cs → FzW (Ctx.of w fun _ => False) a cap cs := fun _ _ _ hf => FzW.sub hiw (hiw.fz _ _ _ hf) (fun _ hb => hb.elim)
  have val : ∀ p ∈ VLb b s vb, p.1 = i → (opB i).dst = some p.2.1 → ∀ w', Ext w w' → PHI w0 a0 (VLb b s vb) (CLb b s) (L.setIfInBounds i true) (a.put (opB i).dst p.2.2) w' := by
    intro p hpm hpi hpd w' e
    subst hpi
    rw [hpd]
    refine hp.value hpm (by omega) ?_ ?_ ?_ e
    · simp only [VLb, List.mem_cons, List.not_mem_nil, or_false] at hpm
      rcases hpm with rfl | rfl | rfl | rfl <;> simp only <;> omega
    · intro q hq hor
      simp only [VLb, List.mem_cons, List.not_mem_nil, or_false] at hpm hq
      rcases hpm with rfl | rfl | rfl | rfl <;> rcases hq with rfl | rfl | rfl | rfl <;> first | rfl | (simp at hor)
    · intro c hc
      simp only [VLb, List.mem_cons, List.not_mem_nil, or_false] at hpm
      simp only [CLb, List.mem_cons, List.not_mem_nil, or_false] at hc
      rcases hpm with rfl | rfl | rfl | rfl <;> rcases hc with rfl | rfl | rfl <;> simp
  have cal : ∀ c ∈ CLb b s, c.al = i → (opB i).dst = some c.dst → ∀ Z : Array Value, Z.size = c.V.size →
      PHI w0 a0 (VLb b s vb) (CLb b s) (L.setIfInBounds i true) (a.put (opB i).dst (.pointer (some (at_ (w.heap.size, 0) 0)))) (pushB w (.cells Z c.t)) := by
    intro c hc hci hcd Z hZ
    subst hci
    rw [hcd]
    refine hp.alloc hc (by omega) hunf ?_ ?_ ?_ hZ
    · simp only [CLb, List.mem_cons, List.not_mem_nil, or_false] at hc
      rcases hc with rfl | rfl | rfl <;> simp only <;> omega
    · intro q hq
      simp only [VLb, List.mem_cons, List.not_mem_nil, or_false] at hq
      simp only [CLb, List.mem_cons, List.not_mem_nil, or_false] at hc
      rcases hc with rfl | rfl | rfl <;> rcases hq with rfl | rfl | rfl | rfl <;> simp
    · intro d hd
      simp only [CLb, List.mem_cons, List.not_mem_nil, or_false] at hc hd
      rcases hc with rfl | rfl | rfl <;> rcases hd with rfl | rfl | rfl <;> simp
  have cst : ∀ c ∈ CLb b s, ∀ y n, c.st = i → waits1 i c.al = true → (opB i).dst = none → (opB i).op = .store c.t (.tmp c.dst) (.tmp y) → c.V.size = n → (∃ i, Try.prog.info? c.t = some i ∧ i.size = n) →
      a.tmps.getD y undef = .agg c.V → (∀ v ∈ c.V.toList, leafV v) → (opB i).wp Try.prog a w (fun a' w' => PHI w0 a0 (VLb b s vb) (CLb b s) (L.setIfInBounds i true) a' w') Q := by
    intro c hc y n hci hwt hdn hop hVn hin hy hlf
    subst hci
    have hal := waits1_spec hi10 hwt hr
    obtain ⟨bb, q1, q2, blk, q3, q4, q5⟩ := hp.cells c hc hal
    obtain ⟨w', r1, r2, r3⟩ := store_new (a := a) (w := w) (o := opB c.st) hop hin hVn (q4.trans hVn) q1 hy hlf q3
    refine wp_of_skip r1 ?_
    rw [hdn]
    refine hp.store hc (by omega) hal ?_ ?_ q1 r2 r3
    · intro q hq
      simp only [VLb, List.mem_cons, List.not_mem_nil, or_false] at hq
      simp only [CLb, List.mem_cons, List.not_mem_nil, or_false] at hc
      rcases hc with rfl | rfl | rfl <;> rcases hq with rfl | rfl | rfl | rfl <;> simp
    · intro d hd
      simp only [CLb, List.mem_cons, List.not_mem_nil, or_false] at hc hd
      rcases hc with rfl | rfl | rfl <;> rcases hd with rfl | rfl | rfl <;> simp
  have lf : ∀ l : List Int, ∀ v ∈ (u32v l).toList, leafV v := fun l v hv => by
    simp only [u32v] at hv; exact cvs_leaf _ _ v hv
  match i, hi10 with
  | 0, _ =>
    have hop : (opB 0).op = .call ⟨.value (.func 140), #[], #[]⟩ := by kernel_rfl
    have hc := calls_of_summ (S140_1_ok F noS (noS_sound enter140)) (vs := []) (rs := [.agg [.seq (.int .u32) 64 k64]]) (h := []) (by kernel_rfl) (m := []) (w := w) (cvs := []) (inv_nil hfzw) trivial
    have hrun : (execOp a.eval (opB 0)).run Try.prog w = .ok (.enter 140 #[]) w := by
      have hfv : a.eval (.func 140) = .func (.func 140) #[] #[] := rfl
      simp only [execOp, hop, resolve, hfv, Deferred.ofValue, Sem.run_bind, Sem.run_pure, Result.andThen_ok, invoke, Array.empty_append, Array.append_empty, Array.map_empty, enter140]
    unfold Oper.wp
    rw [hrun, Oper.upon_enter]
    refine hc.mono ?_
    rintro e w' ⟨v, t, rfl, hr2, hext⟩
    have := agg_inv hr2
    subst this
    exact val (0, 16, .agg (u32v k64)) (by simp [VLb]) rfl (by kernel_rfl) w' hext
  | 1, _ =>
    clear cal cst
    have hop : (opB 1).op = .move (.tmp 1) := by kernel_rfl
    have hv : a.eval (.tmp 1) = vb := (hkeep 1 (by omega) (by omega) (by omega) (by omega)).trans h1
    refine wp_of_ok (v := vb) (w' := w) (by simp only [execOp, hop, Sem.run_pure, hv]) ?_
    exact val (1, 17, vb) (by simp [VLb]) rfl (by kernel_rfl) w (Ext.refl w)
  | 2, _ =>
    have hop : (opB 2).op = .call ⟨.value (.func 141), #[.tmp 17], #[24]⟩ := by kernel_rfl
    have hl1 := waits1_spec (i := 2) (j := 1) (by omega) (by kernel_rfl) hr
    have h17 : a.tmps.getD 17 undef = vb := hp.vals (1, 17, vb) (by simp [VLb]) hl1
    obtain ⟨g, hg, hsl⟩ := hvb
    have hob : hget (hB ro b s z) 0 = some ⟨ro, [.seq (.int .u8) 0 b]⟩ := rfl
    have hone : Inv (Ctx.of w fun _ => False) [g] [some ⟨true, [.seq (.int .u8) 0 b]⟩] w := by
      refine ⟨rfl, fun id ob g' q1 q2 => ?_, fun id ob g' c q1 q2 q3 => ?_, fun i j oi oj gi gj b c hne q1 q2 q3 q4 => ?_, Str.refl w, Nat.le_refl _, fun _ _ _ => rfl, hfzw, fun x hx => by cases hx⟩
      · match id, q1, q2 with
        | 0, q1, q2 =>
          cases q1; cases q2
          obtain ⟨u1, cs, u2, u3⟩ := hiw.obs 0 _ g hob hg
          refine ⟨u1, cs, ?_, ?_⟩
          · obtain ⟨x, y, rfl, hx, hy⟩ := u2
            exact ⟨x, y, rfl, hx, hy⟩
          · rcases u3 with u3 | ⟨c, blk, t, fr, v1, v2, v3, v4, v5, v6⟩
            · exact .inl u3
            · exact .inr ⟨c, blk, t, fr, v1, v2, v3, v4, v5, fun h => by cases h⟩
        | _ + 1, q1, _ => simp [hget] at q1
      · match id, q1, q2 with
        | 0, q1, q2 =>
          cases q1; cases q2
          exact ⟨fun h => h, hiw.block_lt hob hg q3, trivial⟩
        | _ + 1, q1, _ => simp [hget] at q1
      · match i, j, q1, q2 with
        | 0, 0, _, _ => exact (hne rfl).elim
        | 0, _ + 1, _, q2 => simp [hget] at q2
        | _ + 1, _, q1, _ => simp [hget] at q1
    have hx : TVs [g] [.lf (.full 0)] [vb] := by
      refine ⟨⟨g, rfl, ?_⟩, trivial⟩
      obtain ⟨g', A, c, u1, u2⟩ := hsl
      rw [hg] at u1; cases u1
      exact ⟨g, A, c, rfl, u2⟩
    have hF' : f141_1 F b (fun l => (some ([TV.agg [LV.seq (.int .u32) 64 l]], []) : Option Res)) = some ([TV.agg [LV.seq (.int .u32) 64 (wds b)]], []) := spreadP hF hb
    have hS : S141_1 F noS [.lf (.full 0)] [some ⟨true, [.seq (.int .u8) 0 b]⟩] (fun rs _ => some (rs, [])) = some ([.agg [.seq (.int .u32) 64 (wds b)]], []) := Eq.trans (by kernel_rfl) hF'
    have hc := calls_of_summ (S141_1_ok F noS (noS_sound enter141)) hS hone hx
    have hrun : (execOp a.eval (opB 2)).run Try.prog w = .ok (.enter 141 #[vb]) w := by
      have hfv : a.eval (.func 141) = .func (.func 141) #[] #[] := rfl
      have hav : a.eval (.tmp 17) = vb := h17
      simp only [execOp, hop, resolve, hfv, Deferred.ofValue, Sem.run_bind, Sem.run_pure, Result.andThen_ok, invoke, Array.empty_append, Array.append_empty, List.map_toArray, List.map_cons, List.map_nil, hav, enter141]
    unfold Oper.wp
    rw [hrun, Oper.upon_enter]
    refine hc.mono ?_
    rintro e w' ⟨v, t, rfl, hr2, hext⟩
    have := agg_inv hr2
    subst this
    exact val (2, 18, .agg (u32v (wds b))) (by simp [VLb]) rfl (by kernel_rfl) w' hext
  | 3, _ =>
    have hop : (opB 3).op = .load 177 (.tmp 2) := by kernel_rfl
    have he : ERel G m (mkEnv 109 [2] [.tv (.lf (.ptr 1 0))]) a := mkEnv_rel (by rw [hp.len]; exact hsz) (hp.dfr.trans hgd) [2] _ ⟨.inr (by
      rw [hkeep 2 (by omega) (by omega) (by omega) (by omega)]; exact h2), trivial⟩
    obtain ⟨av, v, q1, q2, q3⟩ := evPure_sound (P := Try.prog) (o := opB 3) (K := fun av => match av with | .tv v => some ([v], []) | _ => none) (r := ([.agg [.seq (.int .u32) 8 s]], [])) hiw he (by kernel_rfl)
    have hav : av = .tv (.agg [.seq (.int .u32) 8 s]) := by
      cases av with
      | tv v => simp only [Option.some.injEq, Prod.mk.injEq, List.cons.injEq, and_true] at q1; rw [q1]
      | tup l => cases q1
    subst hav
    obtain ⟨cs, rfl, x, y, hcs, ⟨_, rfl⟩, rfl⟩ := q2
    have : cs = u32v s := by apply Array.ext'; rw [hcs]; simp [u32v]
    subst this
    refine wp_of_ok (q3 w (.inr (Ext.refl w))) ?_
    exact val (3, 19, .agg (u32v s)) (by simp [VLb]) rfl (by kernel_rfl) w (Ext.refl w)
  | 4, _ =>
    have hop : (opB 4).op = .alloc 182 := by kernel_rfl
    obtain ⟨Z, hZ, hrun⟩ := alloc_new (a := a) (w := w) hop (show zeroE Try.prog 182 = some [.seq (.int .u32) 64 (List.replicate 64 0)] by kernel_rfl) (n := 64) (by kernel_rfl)
    exact wp_of_ok hrun (cal ⟨4, 7, 5, 182, u32v k64⟩ (by simp [CLb]) rfl (by kernel_rfl) Z (by rw [hZ, u32v_size]; rfl))
  | 5, _ =>
    have hop : (opB 5).op = .alloc 182 := by kernel_rfl
    obtain ⟨Z, hZ, hrun⟩ := alloc_new (a := a) (w := w) hop (show zeroE Try.prog 182 = some [.seq (.int .u32) 64 (List.replicate 64 0)] by kernel_rfl) (n := 64) (by kernel_rfl)
    exact wp_of_ok hrun (cal ⟨5, 8, 6, 182, u32v (wds b)⟩ (by simp [CLb]) rfl (by kernel_rfl) Z (by rw [hZ, u32v_size, wds_len]))
  | 6, _ =>
    have hop : (opB 6).op = .alloc 177 := by kernel_rfl
    obtain ⟨Z, hZ, hrun⟩ := alloc_new (a := a) (w := w) hop (show zeroE Try.prog 177 = some [.seq (.int .u32) 8 (List.replicate 8 0)] by kernel_rfl) (n := 8) (by kernel_rfl)
    exact wp_of_ok hrun (cal ⟨6, 9, 7, 177, u32v s⟩ (by simp [CLb]) rfl (by kernel_rfl) Z (by rw [hZ, u32v_size, hs]))
  | 7, _ =>
    have hl := waits1_spec (i := 7) (j := 0) (by omega) (by kernel_rfl) hr
    exact cst ⟨4, 7, 5, 182, u32v k64⟩ (by simp [CLb]) 16 64 rfl (by kernel_rfl) (by kernel_rfl) (by kernel_rfl) (by rw [u32v_size]; rfl) ⟨(Try.prog.info? 182).getD default, by kernel_rfl, by kernel_rfl⟩
      (hp.vals (0, 16, .agg (u32v k64)) (by simp [VLb]) hl) (lf _)
  | 8, _ =>
    have hl := waits1_spec (i := 8) (j := 2) (by omega) (by kernel_rfl) hr
    exact cst ⟨5, 8, 6, 182, u32v (wds b)⟩ (by simp [CLb]) 18 64 rfl (by kernel_rfl) (by kernel_rfl) (by kernel_rfl) (by rw [u32v_size, wds_len]) ⟨(Try.prog.info? 182).getD default, by kernel_rfl, by kernel_rfl⟩
      (hp.vals (2, 18, .agg (u32v (wds b))) (by simp [VLb]) hl) (lf _)
  | 9, _ =>
    have hl := waits1_spec (i := 9) (j := 3) (by omega) (by kernel_rfl) hr
    exact cst ⟨6, 9, 7, 177, u32v s⟩ (by simp [CLb]) 19 8 rfl (by kernel_rfl) (by kernel_rfl) (by kernel_rfl) (by rw [u32v_size, hs]) ⟨(Try.prog.info? 177).getD default, by kernel_rfl, by kernel_rfl⟩
      (hp.vals (3, 19, .agg (u32v s)) (by simp [VLb]) hl) (lf _)

theorem pt_inj {x b : Nat} (h : (Value.pointer (some (at_ (x, 0) 0))) = .pointer (some (at_ (b, 0) 0))) : x = b := by
  injection h with h; injection h with h; simp only [at_, Addr.mk.injEq] at h; exact h.1

/-- One more object, whose block is no other one's. -/
theorem add_block {G : Ctx} {m : GM} {h : Heap} {w w0 : World} (hi : Inv G m h w) (hw : G.w0.heap.size ≤ w0.heap.size) {es : List LV} {V : Array Value} {t : TypeId} {nb : Nat} (hnb : w0.heap.size ≤ nb) (hg : w.heap[nb]? = some (.cells V t (0, 0)))
    (ho : OCells m es V.toList) (hd : ∀ (j : Nat) oj gj c, hget h j = some oj → oj.ro = false → m[j]? = some gj → gj.addr = some c → c.1 ≠ nb) :
    Inv G (m ++ [ghOf (some (nb, 0)) V.size es]) (h ++ [some ⟨false, es⟩]) w := by
  refine hi.add ⟨ghOf_seq _ _ _, V.toList, ho.mono (pre_append m _), .inr ⟨_, V, t, (0, 0), rfl, hg, rfl, by simp [ghOf], fun j hj => by simp, fun _ => .inl rfl⟩⟩ (fun b hb => ?_) (fun _ b hb j oj gj c hj hro hgj hc => ?_)
  · cases hb; exact .inr (Nat.le_trans hw hnb)
  · cases hb; exact hd j oj gj c hj hro hgj hc

set_option maxRecDepth 100000 in
/-- The region, whatever order is picked. -/
theorem regB_wp {F : Nat} (hF : 100 ≤ F) {G : Ctx} {m : GM} {ro : Bool} {b s z : List Int} {w : World} {a : Act} (hb : 64 ≤ b.length) (hs : s.length = 8) (hi : Inv G m (hB ro b s z) w)
    (hvb : LRel m (.full 0) (a.tmps.getD 1 undef)) (h2 : TVRel m (.lf (.ptr 1 0)) (a.tmps.getD 2 undef)) (h4 : TVRel m (.lf (.ptr 2 0)) (a.tmps.getD 4 undef)) (hsz : 109 ≤ a.tmps.size) (hgd : a.defers = G.dfs) {id : Nat}
    {Q : Exit → Act → World → Prop}
    (hq : ∀ m' a' w', Inv G m' (hB ro b s z ++ [some ⟨false, [.seq (.int .u32) 64 k64]⟩] ++ [some ⟨false, [.seq (.int .u32) 64 (wds b)]⟩] ++ [some ⟨false, [.seq (.int .u32) 8 s]⟩]) w' → Pre m m' →
      SlotsRel m' a' [2, 4, 5, 6, 7] [.tv (.lf (.ptr 1 0)), .tv (.lf (.ptr 2 0)), .tv (.lf (.ptr 3 0)), .tv (.lf (.ptr 4 0)), .tv (.lf (.ptr 5 0))] → 109 ≤ a'.tmps.size → a'.defers = G.dfs → Q .normal a' w') :
    (Code.region id ops130 true).wp Try.prog Q a w := by
  refine wp_region_any (by kernel_rfl) ?_
  have hi' := hi.ext (Ext.drew w)
  refine wpAny_inv (PHI { w with drawn := w.drawn + 1 } a (VLb b s (a.tmps.getD 1 undef)) (CLb b s)) opsB_back (regB_step hF hb hs hi' hgd rfl hvb h2 hsz) ?_ _ _ _ _ (by simp) (by rw [unl_none _ _ (Nat.le_refl _)]; exact Nat.le_refl _) ?_
  · intro L a' w' hL hp hall
    rw [opsB_size] at hL hall
    have hLt : ∀ j, j < 10 → L.getD j false = true := fun j hj => by
      have := hall j hj
      have hj2 : j < L.size := by omega
      simp [hj2] at this ⊢; exact this
    have hm3 : m.length = 3 := hi.len
    have hiw := hi'.ext hp.ext
    obtain ⟨b5, p5, n5, blk5, c5, z5, v5⟩ := hp.cells ⟨4, 7, 5, 182, u32v k64⟩ (by simp [CLb]) (hLt 4 (by omega))
    obtain ⟨b6, p6, n6, blk6, c6, z6, v6⟩ := hp.cells ⟨5, 8, 6, 182, u32v (wds b)⟩ (by simp [CLb]) (hLt 5 (by omega))
    obtain ⟨b7, p7, n7, blk7, c7, z7, v7⟩ := hp.cells ⟨6, 9, 7, 177, u32v s⟩ (by simp [CLb]) (hLt 6 (by omega))
    have q56 := hp.dist ⟨4, 7, 5, 182, u32v k64⟩ (by simp [CLb]) ⟨5, 8, 6, 182, u32v (wds b)⟩ (by simp [CLb]) (by simp) (hLt 4 (by omega)) (hLt 5 (by omega)) b5 b6 p5 p6
    have q57 := hp.dist ⟨4, 7, 5, 182, u32v k64⟩ (by simp [CLb]) ⟨6, 9, 7, 177, u32v s⟩ (by simp [CLb]) (by simp) (hLt 4 (by omega)) (hLt 6 (by omega)) b5 b7 p5 p7
    have q67 := hp.dist ⟨5, 8, 6, 182, u32v (wds b)⟩ (by simp [CLb]) ⟨6, 9, 7, 177, u32v s⟩ (by simp [CLb]) (by simp) (hLt 5 (by omega)) (hLt 6 (by omega)) b6 b7 p6 p7
    rw [v5 (hLt 7 (by omega))] at c5
    rw [v6 (hLt 8 (by omega))] at c6
    rw [v7 (hLt 9 (by omega))] at c7
    have hG : G.w0.heap.size ≤ ({ w with drawn := w.drawn + 1 } : World).heap.size := hi'.size
    have old : ∀ (j : Nat) oj gj c, hget (hB ro b s z) j = some oj → m[j]? = some gj → gj.addr = some c → c.1 < ({ w with drawn := w.drawn + 1 } : World).heap.size := fun j oj gj c q1 q2 q3 => hi'.block_lt q1 q2 q3
    have oc : ∀ (m : GM) (k : Nat) (l : List Int), (k = 0 ∨ l.length = k) → OCells m [.seq (.int .u32) k l] (u32v l).toList := fun m k l hk => ⟨cvs (.int .u32) l, [], by simp, ⟨hk, rfl⟩, rfl⟩
    have i1 := add_block hiw hG n5 c5 (oc m 64 k64 (.inr rfl)) (fun j oj gj c q1 q2 q3 q4 => Nat.ne_of_lt (Nat.lt_of_lt_of_le (old j oj gj c q1 q3 q4) n5))
    have i2 := add_block i1 hG n6 c6 (oc _ 64 (wds b) (.inr (wds_len b))) (fun j oj gj c q1 q2 q3 q4 => by
      rcases hget_app q1 with ⟨hj, q1⟩ | ⟨hj, _⟩
      · exact Nat.ne_of_lt (Nat.lt_of_lt_of_le (old j oj gj c q1 (gm_app_old (by rw [hm3]; exact hj) q3) q4) n6)
      · subst hj
        have : (m ++ [ghOf (some (b5, 0)) (u32v k64).size [.seq (.int .u32) 64 k64]])[(hB ro b s z).length]? = some (ghOf (some (b5, 0)) (u32v k64).size [.seq (.int .u32) 64 k64]) := by
          rw [show (hB ro b s z).length = m.length from hm3.symm]; exact gm_app_new
        rw [this] at q3; cases q3; cases q4; exact q56)
    have i3 := add_block i2 hG n7 c7 (oc _ 8 s (.inr hs)) (fun j oj gj c q1 q2 q3 q4 => by
      rcases hget_app q1 with ⟨hj, q1⟩ | ⟨hj, _⟩
      · have q3 := gm_app_old (by rw [List.length_append, hm3]; exact hj) q3
        rcases hget_app q1 with ⟨hj, q1⟩ | ⟨hj, _⟩
        · exact Nat.ne_of_lt (Nat.lt_of_lt_of_le (old j oj gj c q1 (gm_app_old (by rw [hm3]; exact hj) q3) q4) n7)
        · subst hj
          have : (m ++ [ghOf (some (b5, 0)) (u32v k64).size [.seq (.int .u32) 64 k64]])[(hB ro b s z).length]? = some (ghOf (some (b5, 0)) (u32v k64).size [.seq (.int .u32) 64 k64]) := by
            rw [show (hB ro b s z).length = m.length from hm3.symm]; exact gm_app_new
          rw [this] at q3; cases q3; cases q4; exact q57
      · subst hj
        have : ((m ++ [ghOf (some (b5, 0)) (u32v k64).size [.seq (.int .u32) 64 k64]]) ++ [ghOf (some (b6, 0)) (u32v (wds b)).size [.seq (.int .u32) 64 (wds b)]])[(hB ro b s z ++ [some (⟨false, [.seq (.int .u32) 64 k64]⟩ : Ob)]).length]? = some (ghOf (some (b6, 0)) (u32v (wds b)).size [.seq (.int .u32) 64 (wds b)]) := by
          rw [show (hB ro b s z ++ [some (⟨false, [.seq (.int .u32) 64 k64]⟩ : Ob)]).length = (m ++ [ghOf (some (b5, 0)) (u32v k64).size [.seq (.int .u32) 64 k64]]).length by simp [hm3, hB]]; exact gm_app_new
        rw [this] at q3; cases q3; cases q4; exact q67)
    have k2 : a'.tmps.getD 2 undef = a.tmps.getD 2 undef := hp.keep 2 (by simp [VLb]) (by simp [CLb])
    have k4 : a'.tmps.getD 4 undef = a.tmps.getD 4 undef := hp.keep 4 (by simp [VLb]) (by simp [CLb])
    refine hq _ a' w' i3 (((pre_append _ _).trans (pre_append _ _)).trans (pre_append _ _)) ?_ (by rw [hp.len]; exact hsz) (hp.dfr.trans hgd)
    refine ⟨.inr ?_, .inr ?_, .inr ?_, .inr ?_, .inr ?_, trivial⟩
    · rw [k2]; exact TVRel.mono (((pre_append _ _).trans (pre_append _ _)).trans (pre_append _ _)) h2
    · rw [k4]; exact TVRel.mono (((pre_append _ _).trans (pre_append _ _)).trans (pre_append _ _)) h4
    · exact ⟨_, _, by rw [List.append_assoc, List.append_assoc, List.getElem?_append_right (by omega), hm3]; rfl, rfl, p5⟩
    · exact ⟨_, _, by rw [List.append_assoc, List.append_assoc, List.getElem?_append_right (by omega), hm3]; rfl, rfl, p6⟩
    · exact ⟨_, _, by rw [List.append_assoc, List.append_assoc, List.getElem?_append_right (by omega), hm3]; rfl, rfl, p7⟩
  · have hnone : ∀ j, (Array.replicate ops130.size false).getD j false = false := fun j => by
      simp only [Array.getD_eq_getD_getElem?, Array.getElem?_replicate]; split <;> rfl
    refine ⟨Ext.refl _, rfl, rfl, fun _ _ _ => rfl, fun p _ hl => ?_, fun c _ hl => ?_, fun c _ hl => ?_, fun c _ d _ _ hl => ?_⟩ <;> (rw [hnone] at hl; cases hl)


/-- A block behind the numbers: as the code reckons it. -/
noncomputable def f130_1 {β : Type} (F : Nat) (a1 : List Int) (a2 : List Int) (K0 : List Int → Option β) : Option β :=
  cond (decide (100 ≤ F ∧ 64 ≤ a2.length)) (f130_0 F a2 a1 [0, 0, 0, 0, 0, 0, 0, 0] k64 (wds a2) a1 K0) none
def sh130_1 : Sh := ⟨[.agg [.seq (.int .u32) 8], .lf (.full 0)], [some ⟨none, [.seq (.int .u8) 0]⟩]⟩
noncomputable def S130_1 (F : Nat) (o : Summ) : Summ := mkS sh130_1 (fun d K => f130_1 F d.1.1.1 d.2.1.2.1 (fun (y0 : List Int) => K [.agg [.seq (.int .u32) 8 y0]] [some ⟨d.2.1.1, [.seq (.int .u8) 0 d.2.1.2.1]⟩])) o

noncomputable def ops0B : Array Oper := match cL code130 with | .region _ ops _ => ops | _ => #[]
theorem codeB : code130 = .seq (.region 0 ops0B false) (.seq (.region 1 ops130 true) rest130) := by kernel_rfl

def envB (s : List Int) : Env := eset (eset (argEnv 109 [.agg [.seq (.int .u32) 8 s], .lf (.full 0)]) 2 (.tv (.lf (.ptr 1 0)))) 4 (.tv (.lf (.ptr 2 0)))

set_option maxRecDepth 100000 in
theorem reg0B (F : Nat) (ro : Bool) (b s : List Int) (K0 : Xt → Env → Heap → Option Res) :
    evC Try.prog (T130_0 F) (xw []) 109 1 (LT130_0 F) (.region 0 ops0B false) (argEnv 109 [.agg [.seq (.int .u32) 8 s], .lf (.full 0)]) [some ⟨ro, [.seq (.int .u8) 0 b]⟩] K0 = K0 .normal (envB s) (hB ro b s [0, 0, 0, 0, 0, 0, 0, 0]) := by kernel_rfl

theorem ntB : Try.f130.ntmps = 109 := by kernel_rfl
theorem scB : scopesOf rest130 = [] := by kernel_rfl
theorem rgB : rangesOf rest130 = [] := by kernel_rfl

set_option maxRecDepth 100000 in
theorem blkB {F : Nat} (hF : 100 ≤ F) {ro : Bool} {b s : List Int} (hb : 64 ≤ b.length) {K : KF} {r : Res}
    (he : f130_0 F b s [0, 0, 0, 0, 0, 0, 0, 0] k64 (wds b) s (fun (y0 : List Int) => K [.agg [.seq (.int .u32) 8 y0]] [some ⟨ro, [.seq (.int .u8) 0 b]⟩]) = some r) :
    Contract Try.prog 130 [.agg [.seq (.int .u32) 8 s], .lf (.full 0)] [some ⟨ro, [.seq (.int .u8) 0 b]⟩] K r := by
  intro G m w cvs hw hgd hgh hi hx
  have hT := tabled130 F
  have hm : Try.prog.follows .mixedOrders = true := by kernel_rfl
  obtain ⟨hs, hv1⟩ : s.length = 8 ∧ True := by
    match cvs, hx with
    | v :: _, ⟨⟨cs, _, x, y, _, ⟨hl, _⟩, _⟩, _⟩ => exact ⟨hl.resolve_left (by omega), trivial⟩
  have hlm : m.length = 1 := hi.len
  have hst : Std Try.prog (xw []) 1 m G := ⟨fun y hy => (by cases hy), fun x hx => (by rw [hgh] at hx; cases hx), fun _ => hgh⟩
  refine (callsIn_wide (n := 0)).1 (callsIn_of_wp_marks (fn := Try.f130) (c := code130) (by kernel_rfl) (by kernel_rfl) trivial ?_)
  rw [codeB]
  have he0 : ERel G m (argEnv 109 [.agg [.seq (.int .u32) 8 s], .lf (.full 0)]) { tmps := cvs.toArray ++ Array.replicate (109 - cvs.toArray.size) undef, defers := [] } := argEnv_rel hx hgd
  rw [ntB]
  have hl0 : LoopsOK Try.prog (T130_0 F) (xw []) 109 1 (LT130_0 F) (loopsOf (.region 0 ops0B false)) := loopsOK_nil
  refine wpIn_seq (evC_wp (ro := none) (n := 0) (m0 := m) (r := ([], [])) (X := xw []) (fun _ => rfl) (fun _ => rfl) hm hT (.region 0 ops0B false) hl0 scopesOK_nil rangesOK_nil (K := fun e env' h' => @ite _ (e = .normal ∧ env' = envB s ∧ h' = hB ro b s [0, 0, 0, 0, 0, 0, 0, 0]) (Classical.propDecidable _) (some ([], [])) none) hst (Pin.refl (Nat.le_of_eq hlm.symm)) hi he0 (by rw [reg0B, if_pos ⟨rfl, rfl, rfl⟩]) ?_)
  intro G1 hG1 e1 env1 h1 m1 a1 w1 hk1 hi1 hp1 he1
  obtain ⟨rfl, rfl, rfl⟩ : e1 = .normal ∧ env1 = envB s ∧ h1 = hB ro b s [0, 0, 0, 0, 0, 0, 0, 0] := by
    by_cases hq : e1 = .normal ∧ env1 = envB s ∧ h1 = hB ro b s [0, 0, 0, 0, 0, 0, 0, 0]
    · exact hq
    · simp only [if_neg hq] at hk1; cases hk1
  have hG1' : SubR G G1 := by
    rcases hG1 with rfl | ⟨_, h0⟩
    · exact SubR.refl _
    · exact h0
  have hst1 := hst.sub hG1
  have hp0 : Pin 1 m m1 := hp1
  have g1 : LRel m1 (.full 0) (a1.tmps.getD 1 undef) := by
    rcases he1.val 1 with h0 | h0
    · exact h0.elim
    · exact h0
  have g2 : TVRel m1 (.lf (.ptr 1 0)) (a1.tmps.getD 2 undef) := by
    rcases he1.val 2 with h0 | h0
    · exact h0.elim
    · exact h0
  have g4 : TVRel m1 (.lf (.ptr 2 0)) (a1.tmps.getD 4 undef) := by
    rcases he1.val 4 with h0 | h0
    · exact h0.elim
    · exact h0
  refine wpIn_seq (wpIn_wide.2 (regB_wp hF hb hs hi1 g1 g2 g4 he1.len he1.dfr ?_))
  intro m2 a2 w2 hi2 hp2 hsl hsz2 hdf2
  have hlm2 : 1 ≤ m2.length := by rw [hi2.len]; simp [hB]
  have hpm2 : Pin 1 m m2 := hp0.trans (Pin.of_pre hp1.1 hp2)
  generalize wds b = W at he hi2
  generalize k64 = KK at he hi2
  have hheap : (hB ro b s [0, 0, 0, 0, 0, 0, 0, 0] ++ [some (⟨false, [.seq (.int .u32) 64 KK]⟩ : Ob)] ++ [some ⟨false, [.seq (.int .u32) 64 W]⟩] ++ [some ⟨false, [.seq (.int .u32) 8 s]⟩]) =
    encH sh130_0.h ((ro, b, ()), ((), s, ()), ((), [0, 0, 0, 0, 0, 0, 0, 0], ()), ((), KK, ()), ((), W, ()), ((), s, ()), ()) := by kernel_rfl
  rw [hheap] at hi2
  have hev := (E130_0 F ((), ((ro, b, ()), ((), s, ()), ((), [0, 0, 0, 0, 0, 0, 0, 0], ()), ((), KK, ()), ((), W, ()), ((), s, ()), ())) K).trans he
  have hl : LoopsOK Try.prog (T130_0 F) (xw []) 109 1 (LT130_0 F) (loopsOf rest130) := by
    have := looped130 F
    rw [codeB] at this
    exact this
  refine evC_wp (ro := none) (n := 0) (fun _ => rfl) (fun _ => rfl) hm hT rest130 hl (by rw [scB]; exact scopesOK_nil) (by rw [rgB]; exact rangesOK_nil) hst1 hpm2 hi2 (mkEnv_rel hsz2 hdf2 _ _ hsl) hev ?_
  intro G2 hG2 e env' h' m' a' w' hK hi' hp he'
  have hsub : SubR G G2 := hG1'.trans (by
    rcases hG2 with rfl | ⟨_, h0⟩
    · exact SubR.refl _
    · exact h0)
  have hpin : Pin 1 m m' := hpm2.trans hp
  have fin : ∀ {q : Option (List TV)}, resVals Try.prog env' h' Try.f130.results.toList = q → (match q with | some vs => normF 1 [] vs h' K | none => none) = some r →
      LeavesInM Fence.wide 0 Try.prog Try.f130 a'.tmps (fun e w' => ∃ rs h', K rs h' = some r ∧ ∃ v' t, e = .returned v' ∧ ResRel (m ++ t) rs v' ∧ Inv G (m ++ t) h' w') a'.defers .returning w' := by
    intro q hq hk
    cases q with
    | none => cases hk
    | some vs1 =>
      rw [he'.dfr]
      refine leaves_marks hgh (fun w2 hi2 => ?_) G2.dfs w' (hsub.inv hi') G2.nd fun d hd => ?_
      · obtain ⟨xs1, h1, h2⟩ := results_of (fn := Try.f130) hi2 he' hq
        refine ⟨_, h2, ?_⟩
        simp only [normF_eq] at hk
        obtain ⟨rs, h3, m3, q1, q2, q3, q4, q5⟩ := normVs_sound hi2 hpin.1 (by rw [hgh]; intro x hx; cases hx) h1 hk
        have hpre : m3 = m ++ m3.drop 1 := by
          apply List.ext_getElem?
          intro i
          by_cases hlt : i < 1
          · rw [List.getElem?_append_left (by omega), q5 i hlt, hpin.2 i hlt]
          · rw [List.getElem?_append_right (by omega), List.getElem?_drop, hlm]
            congr 1; omega
        refine ⟨rs, h3, q1, _, m3.drop 1, rfl, ?_, ?_⟩
        · rw [← hpre]; exact resRel_of q3
        · rw [← hpre]; exact q2
      · obtain ⟨D, rfl, hD, hO⟩ := G2.hd d hd
        refine ⟨D, rfl, ?_, ?_⟩
        · rw [hi'.frame D (Array.getElem?_eq_some_iff.1 hD).1 hO]; exact hD
        · rcases hsub.dfs _ hd with h0 | ⟨D', h0, h1⟩
          · rw [hgd] at h0; cases h0
          · injection h0 with h0 _
            injection h0 with h0
            rw [h0]; exact h1
  cases e with
  | normal => exact fin rfl hK
  | ret => exact fin rfl hK
  | exit i => cases hK
  | goto i => cases hK

theorem S130_1_ok (F : Nat) (o : Summ) (ho : SoundFn Try.prog 130 o) : SoundFn Try.prog 130 (S130_1 F o) := by
  refine ⟨ho.enter, fun vs h K r he => ?_⟩
  unfold S130_1 mkS at he
  split at he
  rotate_left
  · exact ho.ok vs h K r he
  rename_i dv dh ha hb'
  have e1 := decT_enc _ _ _ ha
  have e2 := decH_enc _ _ _ hb'
  obtain ⟨⟨s, _⟩, _, _⟩ := dv
  obtain ⟨⟨ro, b, _⟩, _⟩ := dh
  have e1 : vs = [.agg [.seq (.int .u32) 8 s], .lf (.full 0)] := e1
  have e2 : h = [some ⟨ro, [.seq (.int .u8) 0 b]⟩] := e2
  subst e1
  subst e2
  have he : f130_1 F s b (fun (y0 : List Int) => K [.agg [.seq (.int .u32) 8 y0]] [some ⟨ro, [.seq (.int .u8) 0 b]⟩]) = some r := he
  unfold f130_1 at he
  obtain ⟨⟨hF, hb⟩, he⟩ := dec_of he
  exact blkB hF hb he

end Go.Proofs.Ytillbabmlfjegaa.X
end

section
namespace Go.Proofs.Ytillbabmlfjegaa.X
open Go Go.Proofs.Ytillbabmlfjegaa.Ev Go.Proofs
set_option linter.unusedVariables false
set_option linter.unusedSectionVars false
/-! sha.Hash).Write -/
noncomputable def f116_1_l3 {β : Type} (F : Nat) (v2 : Int) (v3 : List Int) (K0 : List Int → List Int → Option β) : Nat → List Int → List Int → Option β
  | 0, _, _ => none
  | k + 1, v1, v4 => cond (decide (((v4.length : Nat) : Int) ≥ 64)) (cond (decide ((0 : Int) ≤ (0 : Int) ∧ (0 : Int) ≤ (64 : Int) ∧ (64 : Int) ≤ ((v4.length : Nat) : Int))) (f130_1 F v1 ((v4.drop 0).take 64) (fun x5 => cond (decide ((0 : Int) ≤ (64 : Int) ∧ (64 : Int) ≤ ((v4.length : Nat) : Int) ∧ ((v4.length : Nat) : Int) ≤ ((v4.length : Nat) : Int))) (cond (decide ((0 + (((v4.drop 64).take ((((v4.length : Nat) : Int) - 64).toNat)).length)) * 1 ≤ 70368744177664)) (f116_1_l3 F v2 v3 K0 k x5 ([] ++ ((v4.drop 64).take ((((v4.length : Nat) : Int) - 64).toNat)))) none) none) ) none) (K0 v1 v4)
noncomputable def f116_1 {β : Type} (F : Nat) (a1 : List Int) (a2 : Int) (a3 : List Int) (a4 : List Int) (K0 : List Int → Int → List Int → Option β) : Option β := cond (decide ((a3.length + a4.length) * 1 ≤ 70368744177664)) (f116_1_l3 F (IntKind.u64.wrap (a2 + (IntKind.u64.wrap ((a4.length : Nat) : Int)))) a4 (fun x6 x7 => K0 x6 (IntKind.u64.wrap (a2 + (IntKind.u64.wrap ((a4.length : Nat) : Int)))) x7) F a1 (a3 ++ a4)) none
variable [FZ]
def sh116_1 : Sh := ⟨[.lf (.ptr 0 0), .lf (.full 2)], [some ⟨some false, [.seq (.int .u32) 8, .full 1, .int .u64]⟩, some ⟨some false, [.seq (.int .u8) 0]⟩, some ⟨none, [.seq (.int .u8) 0]⟩]⟩
noncomputable def S116_1 (F : Nat) (o : Summ) : Summ := mkS sh116_1 (fun d K => f116_1 F d.2.1.2.1 d.2.1.2.2.2.1 d.2.2.1.2.1 d.2.2.2.1.2.1 (fun (y0 : List Int) (y1 : Int) (y3 : List Int) => K [] [some ⟨false, [.seq (.int .u32) 8 y0, .full 3, .int .u64 y1]⟩, none, some ⟨d.2.2.2.1.1, [.seq (.int .u8) 0 d.2.2.2.1.2.1]⟩, some ⟨false, [.seq (.int .u8) 0 y3]⟩])) o
noncomputable def code116 : Code := bodyOf Try.f116
noncomputable def b116_0 : Code := cB (cB (cR (cR (cR (code116)))))
theorem scopes116 : scopesOf code116 = [] := by kernel_rfl
theorem ranges116 : rangesOf code116 = [] := by kernel_rfl
theorem loops116 : loopsOf code116 = [b116_0] := by kernel_rfl
theorem enter116 : ∀ args w, (callFunc 116 args).run Try.prog w = .ok (.enter 116 args) w := enter_of (fn := Try.f116) (by kernel_rfl) (by kernel_rfl) (by kernel_rfl)
noncomputable def T116_1 (F : Nat) : FuncId → Option Summ := tab [(130, (S130_1 F noS))]
def sh116_1_l3 : Sh := ⟨[.lf (.ptr 0 0)], [some ⟨some false, [.seq (.int .u32) 8, .full 3, .int .u64]⟩, none, some ⟨none, [.seq (.int .u8) 0]⟩, some ⟨some false, [.seq (.int .u8) 0]⟩]⟩
noncomputable def G116_1_3 (F k : Nat) : LoopS := mkG sh116_1_l3 [0] (outT [(.exit 0, [])]) (fun d K => f116_1_l3 F d.2.1.2.2.2.1 d.2.2.2.1.2.1 (fun (y0 : List Int) (y3 : List Int) => K (.exit 0) [] [some ⟨false, [.seq (.int .u32) 8 y0, .full 3, .int .u64 d.2.1.2.2.2.1]⟩, none, some ⟨d.2.2.2.1.1, [.seq (.int .u8) 0 d.2.2.2.1.2.1]⟩, some ⟨false, [.seq (.int .u8) 0 y3]⟩]) k d.2.1.2.1 d.2.2.2.2.1.2.1) []
noncomputable def LT116_1 (F : Nat) : Nat → Option LoopS := ltab [(3, G116_1_3 F F)]
theorem L116_1_l3g (F k : Nat) (c130_1 : List Int → List Int → (List Int → Option Res) → Option Res)  (l3 : Int → List Int → (List Int → List Int → Option Res) → Nat → List Int → List Int → Option Res) (X3 : LoopS) (d : sh116_1_l3.den) (K : KL) : (fun (v2 : Int) (v3 : List Int) (K0 : (List Int → List Int → Option Res)) (k : Nat) (v1 : List Int) (v4 : List Int) => cond (decide (((v4.length : Nat) : Int) ≥ 64)) (cond (decide ((0 : Int) ≤ (0 : Int) ∧ (0 : Int) ≤ (64 : Int) ∧ (64 : Int) ≤ ((v4.length : Nat) : Int))) (c130_1 v1 ((v4.drop 0).take 64) (fun x5 => cond (decide ((0 : Int) ≤ (64 : Int) ∧ (64 : Int) ≤ ((v4.length : Nat) : Int) ∧ ((v4.length : Nat) : Int) ≤ ((v4.length : Nat) : Int))) (cond (decide ((0 + (((v4.drop 64).take ((((v4.length : Nat) : Int) - 64).toNat)).length)) * 1 ≤ 70368744177664)) (l3 v2 v3 K0 k x5 ([] ++ ((v4.drop 64).take ((((v4.length : Nat) : Int) - 64).toNat)))) none) none) ) none) (K0 v1 v4)) d.2.1.2.2.2.1 d.2.2.2.1.2.1 (fun (y0 : List Int) (y3 : List Int) => K (.exit 0) [] [some ⟨false, [.seq (.int .u32) 8 y0, .full 3, .int .u64 d.2.1.2.2.2.1]⟩, none, some ⟨d.2.2.2.1.1, [.seq (.int .u8) 0 d.2.2.2.1.2.1]⟩, some ⟨false, [.seq (.int .u8) 0 y3]⟩]) k d.2.1.2.1 d.2.2.2.2.1.2.1 = roundOf Try.prog (tab [(130, (mkS sh130_1 (fun d K => c130_1 d.1.1.1 d.2.1.2.1 (fun (y0 : List Int) => K [.agg [.seq (.int .u32) 8 y0]] [some ⟨d.2.1.1, [.seq (.int .u8) 0 d.2.1.2.1]⟩])) noS))]) (xw []) 54 3 (ltab [(3, X3)]) (mkG sh116_1_l3 [0] (outT [(.exit 0, [])]) (fun d K => l3 d.2.1.2.2.2.1 d.2.2.2.1.2.1 (fun (y0 : List Int) (y3 : List Int) => K (.exit 0) [] [some ⟨false, [.seq (.int .u32) 8 y0, .full 3, .int .u64 d.2.1.2.2.2.1]⟩, none, some ⟨d.2.2.2.1.1, [.seq (.int .u8) 0 d.2.2.2.1.2.1]⟩, some ⟨false, [.seq (.int .u8) 0 y3]⟩]) k d.2.1.2.1 d.2.2.2.2.1.2.1) []) b116_0 (encT sh116_1_l3.vs d.1) (encH sh116_1_l3.h d.2) K := by kernel_rfl
theorem L116_1_3 (F : Nat) : LoopOK Try.prog (T116_1 F) (xw []) 54 3 (LT116_1 F) (G116_1_3 F F) b116_0 :=
  loopOK_of (s := sh116_1_l3) (live := [0]) (out := (outT [(.exit 0, [])])) (mv := []) (fun k d K => f116_1_l3 F d.2.1.2.2.2.1 d.2.2.2.1.2.1 (fun (y0 : List Int) (y3 : List Int) => K (.exit 0) [] [some ⟨false, [.seq (.int .u32) 8 y0, .full 3, .int .u64 d.2.1.2.2.2.1]⟩, none, some ⟨d.2.2.2.1.1, [.seq (.int .u8) 0 d.2.2.2.1.2.1]⟩, some ⟨false, [.seq (.int .u8) 0 y3]⟩]) k d.2.1.2.1 d.2.2.2.2.1.2.1) F (fun d K => by kernel_rfl)  (fun k d K => Eq.mp (by kernel_rfl) (L116_1_l3g F k (f130_1 F)  (f116_1_l3 F) (G116_1_3 F F) d K))
theorem E116_1g (F : Nat) (c130_1 : List Int → List Int → (List Int → Option Res) → Option Res) (l3 : Int → List Int → (List Int → List Int → Option Res) → Nat → List Int → List Int → Option Res)  (d : sh116_1.den) (K : KF) : evBody Try.prog (tab [(130, (mkS sh130_1 (fun d K => c130_1 d.1.1.1 d.2.1.2.1 (fun (y0 : List Int) => K [.agg [.seq (.int .u32) 8 y0]] [some ⟨d.2.1.1, [.seq (.int .u8) 0 d.2.1.2.1]⟩])) noS))]) (xw []) 54 3 (ltab [(3, mkG sh116_1_l3 [0] (outT [(.exit 0, [])]) (fun d K => l3 d.2.1.2.2.2.1 d.2.2.2.1.2.1 (fun (y0 : List Int) (y3 : List Int) => K (.exit 0) [] [some ⟨false, [.seq (.int .u32) 8 y0, .full 3, .int .u64 d.2.1.2.2.2.1]⟩, none, some ⟨d.2.2.2.1.1, [.seq (.int .u8) 0 d.2.2.2.1.2.1]⟩, some ⟨false, [.seq (.int .u8) 0 y3]⟩]) F d.2.1.2.1 d.2.2.2.2.1.2.1) [])]) code116 Try.f116.results.toList (encT sh116_1.vs d.1) (encH sh116_1.h d.2) K = (fun (a1 : List Int) (a2 : Int) (a3 : List Int) (a4 : List Int) (K0 : (List Int → Int → List Int → Option Res)) => cond (decide ((a3.length + a4.length) * 1 ≤ 70368744177664)) (l3 (IntKind.u64.wrap (a2 + (IntKind.u64.wrap ((a4.length : Nat) : Int)))) a4 (fun x6 x7 => K0 x6 (IntKind.u64.wrap (a2 + (IntKind.u64.wrap ((a4.length : Nat) : Int)))) x7) F a1 (a3 ++ a4)) none) d.2.1.2.1 d.2.1.2.2.2.1 d.2.2.1.2.1 d.2.2.2.1.2.1 (fun (y0 : List Int) (y1 : Int) (y3 : List Int) => K [] [some ⟨false, [.seq (.int .u32) 8 y0, .full 3, .int .u64 y1]⟩, none, some ⟨d.2.2.2.1.1, [.seq (.int .u8) 0 d.2.2.2.1.2.1]⟩, some ⟨false, [.seq (.int .u8) 0 y3]⟩]) := by kernel_rfl
theorem E116_1 (F : Nat) (d : sh116_1.den) (K : KF) : evBody Try.prog (T116_1 F) (xw []) 54 3 (LT116_1 F) code116 Try.f116.results.toList (encT sh116_1.vs d.1) (encH sh116_1.h d.2) K = f116_1 F d.2.1.2.1 d.2.1.2.2.2.1 d.2.2.1.2.1 d.2.2.2.1.2.1 (fun (y0 : List Int) (y1 : Int) (y3 : List Int) => K [] [some ⟨false, [.seq (.int .u32) 8 y0, .full 3, .int .u64 y1]⟩, none, some ⟨d.2.2.2.1.1, [.seq (.int .u8) 0 d.2.2.2.1.2.1]⟩, some ⟨false, [.seq (.int .u8) 0 y3]⟩]) := Eq.mp (by kernel_rfl) (E116_1g F (f130_1 F) (f116_1_l3 F)  d K)
theorem S116_1_ok (F : Nat) (o : Summ) (ho : SoundFn Try.prog 116 o) : SoundFn Try.prog 116 (S116_1 F o) :=
  soundFn_of (fn := Try.f116) (c := code116) rfl rfl (by kernel_rfl) (tab_cons (S130_1_ok F _ (noS_sound enter130)) tab_nil) (by kernel_rfl) (by kernel_rfl) ho (by rw [loops116]; exact (loopsOK_cons (by kernel_rfl) (L116_1_3 F) loopsOK_nil)) (by rw [scopes116]; exact scopesOK_nil) (by rw [ranges116]; exact rangesOK_nil) (E116_1 F)
end Go.Proofs.Ytillbabmlfjegaa.X
end

section
namespace Go.Proofs.Ytillbabmlfjegaa.X
open Go Go.Proofs.Ytillbabmlfjegaa.Ev Go.Proofs
set_option linter.unusedVariables false
set_option linter.unusedSectionVars false
/-! sha.Hash).Sum -/
noncomputable def f117_1_l10 {β : Type} (F : Nat) (v1 : Nat) (v2 : Nat) (v3 : Nat) (v4 : Int) (v6 : List Int) (v7 : Int) (v8 : List Int) (K0 : List Int → Option β) : Nat → Int → List Int → Option β
  | 0, _, _ => none
  | k + 1, v5, v9 => cond (decide (v5 < 8)) (cond (decide (IntKind.i64.wrap (8 * v5) < 0)) none (cond (decide ((0 : Int) ≤ IntKind.i64.wrap ((IntKind.i64.wrap (((v2 : Nat) : Int) - 1)) - v5) ∧ IntKind.i64.wrap ((IntKind.i64.wrap (((v2 : Nat) : Int) - 1)) - v5) < ((v2 : Nat) : Int))) (cond (decide (v1 + ((IntKind.i64.wrap ((IntKind.i64.wrap (((v2 : Nat) : Int) - 1)) - v5)).toNat) < v9.length)) (f117_1_l10 F v1 v2 v3 v4 v6 v7 v8 K0 k (IntKind.i64.wrap (v5 + 1)) (v9.set (v1 + ((IntKind.i64.wrap ((IntKind.i64.wrap (((v2 : Nat) : Int) - 1)) - v5)).toNat)) (IntKind.u8.wrap (ishr .u64 v4 (IntKind.i64.wrap (8 * v5)))))) none) none)) (K0 v9)
noncomputable def f117_1_l15 {β : Type} (F : Nat) (v14 : List Int) (v15 : Int) (v16 : List Int) (v17 : List Int) (K0 : List Int → Option β) : Nat → Nat → Nat → Nat → List Int → Option β
  | 0, _, _, _, _ => none
  | k + 1, v11, v12, v13, v18 => cond (decide (((v12 : Nat) : Int) > 0)) (f130_1 F v18 ((v17.drop v11).take v12) (fun x19 => cond (decide ((0 : Int) ≤ (64 : Int) ∧ (64 : Int) ≤ ((v12 : Nat) : Int) ∧ ((v12 : Nat) : Int) ≤ ((v13 : Nat) : Int))) (f117_1_l15 F v14 v15 v16 v17 K0 k (v11 + 64) ((((v12 : Nat) : Int) - 64).toNat) (v13 - 64) x19) none) ) (K0 v18)
noncomputable def f117_1_l20 {β : Type} (F : Nat) (v21 : List Int) (v23 : List Int) (v24 : Int) (v25 : List Int) (K0 : List Int → Option β) : Nat → Int → List Int → Option β
  | 0, _, _ => none
  | k + 1, v22, v26 => cond (decide (v22 < 8)) (cond (decide ((0 : Int) ≤ v22 ∧ v22 < 8)) (cond (decide ((v26.length + 4) * 1 ≤ 70368744177664)) (f117_1_l20 F v21 v23 v24 v25 K0 k (IntKind.i64.wrap (v22 + 1)) (v26 ++ [IntKind.u8.wrap (ishr .u32 (v21.getD v22.toNat 0) 24), IntKind.u8.wrap (ishr .u32 (v21.getD v22.toNat 0) 16), IntKind.u8.wrap (ishr .u32 (v21.getD v22.toNat 0) 8), IntKind.u8.wrap (v21.getD v22.toNat 0)])) none) none) (K0 v26)
noncomputable def f117_1 {β : Type} (F : Nat) (a1 : List Int) (a2 : Int) (a3 : List Int) (K0 : ByteArray → Option β) : Option β := cond (decide ((0 : Int) ≤ ((min a3.length 64 : Nat) : Int) ∧ ((min a3.length 64 : Nat) : Int) < (64 : Int))) (cond (decide (0 + (((min a3.length 64 : Nat) : Int).toNat) < ((List.replicate 128 0).take 0 ++ (a3.take 64 ++ (List.replicate 128 0).drop (0 + (min a3.length 64)))).length)) (cond (decide (((min a3.length 64 : Nat) : Int) ≥ 56)) (f117_1_l10 F 0 128 128 (IntKind.u64.wrap (8 * a2)) a1 a2 a3 (fun x10 => f117_1_l15 F a1 a2 a3 x10 (fun x20 => f117_1_l20 F x20 a1 a2 a3 (fun x27 => K0 (ofInts x27)) F 0 []) F 0 128 128 a1) F 0 (((List.replicate 128 0).take 0 ++ (a3.take 64 ++ (List.replicate 128 0).drop (0 + (min a3.length 64)))).set (0 + (((min a3.length 64 : Nat) : Int).toNat)) 128)) (f117_1_l10 F 0 64 128 (IntKind.u64.wrap (8 * a2)) a1 a2 a3 (fun x28 => f117_1_l15 F a1 a2 a3 x28 (fun x29 => f117_1_l20 F x29 a1 a2 a3 (fun x30 => K0 (ofInts x30)) F 0 []) F 0 64 128 a1) F 0 (((List.replicate 128 0).take 0 ++ (a3.take 64 ++ (List.replicate 128 0).drop (0 + (min a3.length 64)))).set (0 + (((min a3.length 64 : Nat) : Int).toNat)) 128))) none) none
variable [FZ]
def sh117_1 : Sh := ⟨[.lf (.ptr 0 0)], [some ⟨none, [.seq (.int .u32) 8, .full 1, .int .u64]⟩, some ⟨none, [.seq (.int .u8) 0]⟩]⟩
noncomputable def S117_1 (F : Nat) (o : Summ) : Summ := mkS sh117_1 (fun d K => f117_1 F d.2.1.2.1 d.2.1.2.2.2.1 d.2.2.1.2.1 (fun (y0 : ByteArray) => K [.lf (.str y0)] [some ⟨d.2.1.1, [.seq (.int .u32) 8 d.2.1.2.1, .full 1, .int .u64 d.2.1.2.2.2.1]⟩, some ⟨d.2.2.1.1, [.seq (.int .u8) 0 d.2.2.1.2.1]⟩])) o
noncomputable def code117 : Code := bodyOf Try.f117
noncomputable def b117_0 : Code := cB (cB (cR (cL (cR (cR (cR (cR (cR (cR (cR (code117)))))))))))
noncomputable def b117_1 : Code := cB (cB (cL (cR (cR (cR (cR (cR (cR (cR (cR (cR (code117))))))))))))
noncomputable def b117_2 : Code := cB (cB (cR (cL (cR (cR (cR (cR (cR (cR (cR (cR (cR (cR (cR (code117)))))))))))))))
theorem scopes117 : scopesOf code117 = [] := by kernel_rfl
theorem ranges117 : rangesOf code117 = [] := by kernel_rfl
theorem loops117 : loopsOf code117 = [b117_0, b117_1, b117_2] := by kernel_rfl
theorem enter117 : ∀ args w, (callFunc 117 args).run Try.prog w = .ok (.enter 117 args) w := enter_of (fn := Try.f117) (by kernel_rfl) (by kernel_rfl) (by kernel_rfl)
noncomputable def T117_1 (F : Nat) : FuncId → Option Summ := tab [(130, (S130_1 F noS))]
def sh117_1_l10 : Sh := ⟨[.lf (.ptr 0 0), .lf (.sliceC 2 0), .lf (.int .u64), .lf (.int .i64)], [some ⟨none, [.seq (.int .u32) 8, .full 1, .int .u64]⟩, some ⟨none, [.seq (.int .u8) 0]⟩, some ⟨some false, [.seq (.int .u8) 0]⟩]⟩
def sh117_1_l15 : Sh := ⟨[.lf (.sliceC 2 0), .lf (.ptr 3 0)], [some ⟨none, [.seq (.int .u32) 8, .full 1, .int .u64]⟩, some ⟨none, [.seq (.int .u8) 0]⟩, some ⟨some false, [.seq (.int .u8) 0]⟩, some ⟨some false, [.seq (.int .u32) 8]⟩]⟩
def sh117_1_l20 : Sh := ⟨[.lf (.full 2), .agg [.seq (.int .u32) 8], .lf (.int .i64)], [some ⟨none, [.seq (.int .u32) 8, .full 1, .int .u64]⟩, some ⟨none, [.seq (.int .u8) 0]⟩, some ⟨some false, [.seq (.int .u8) 0]⟩]⟩
noncomputable def G117_1_10 (F k : Nat) : LoopS := mkG sh117_1_l10 [0, 3, 5, 32] (outT [(.exit 0, [0, 3])]) (fun d K => f117_1_l10 F d.1.2.1.1 d.1.2.1.2.1 d.1.2.1.2.2 d.1.2.2.1 d.2.1.2.1 d.2.1.2.2.2.1 d.2.2.1.2.1 (fun (y6 : List Int) => K (.exit 0) [.tv (.lf (.ptr 0 0)), .tv (.lf (.slice 2 0 d.1.2.1.1 d.1.2.1.2.1 (some d.1.2.1.2.2)))] [some ⟨d.2.1.1, [.seq (.int .u32) 8 d.2.1.2.1, .full 1, .int .u64 d.2.1.2.2.2.1]⟩, some ⟨d.2.2.1.1, [.seq (.int .u8) 0 d.2.2.1.2.1]⟩, some ⟨false, [.seq (.int .u8) 0 y6]⟩]) k d.1.2.2.2.1 d.2.2.2.1.2.1) []
noncomputable def G117_1_15 (F k : Nat) : LoopS := mkG sh117_1_l15 [3, 7] (outT [(.exit 2, [7])]) (fun d K => f117_1_l15 F d.2.1.2.1 d.2.1.2.2.2.1 d.2.2.1.2.1 d.2.2.2.1.2.1 (fun (y4 : List Int) => K (.exit 2) [.tv (.lf (.ptr 3 0))] [some ⟨d.2.1.1, [.seq (.int .u32) 8 d.2.1.2.1, .full 1, .int .u64 d.2.1.2.2.2.1]⟩, some ⟨d.2.2.1.1, [.seq (.int .u8) 0 d.2.2.1.2.1]⟩, some ⟨false, [.seq (.int .u8) 0 d.2.2.2.1.2.1]⟩, some ⟨false, [.seq (.int .u32) 8 y4]⟩]) k d.1.1.1 d.1.1.2.1 d.1.1.2.2 d.2.2.2.2.1.2.1) []
noncomputable def G117_1_20 (F k : Nat) : LoopS := mkG sh117_1_l20 [8, 60, 61] (outT [(.exit 4, [8])]) (fun d K => f117_1_l20 F d.1.2.1.1 d.2.1.2.1 d.2.1.2.2.2.1 d.2.2.1.2.1 (fun (y3 : List Int) => K (.exit 4) [.tv (.lf (.full 2))] [some ⟨d.2.1.1, [.seq (.int .u32) 8 d.2.1.2.1, .full 1, .int .u64 d.2.1.2.2.2.1]⟩, some ⟨d.2.2.1.1, [.seq (.int .u8) 0 d.2.2.1.2.1]⟩, some ⟨false, [.seq (.int .u8) 0 y3]⟩]) k d.1.2.2.1 d.2.2.2.1.2.1) []
noncomputable def LT117_1 (F : Nat) : Nat → Option LoopS := ltab [(10, G117_1_10 F F), (15, G117_1_15 F F), (20, G117_1_20 F F)]
theorem L117_1_l10g (F k : Nat) (c130_1 : List Int → List Int → (List Int → Option Res) → Option Res)  (l10 : Nat → Nat → Nat → Int → List Int → Int → List Int → (List Int → Option Res) → Nat → Int → List Int → Option Res) (X10 : LoopS) (X15 : LoopS) (X20 : LoopS) (d : sh117_1_l10.den) (K : KL) : (fun (v1 : Nat) (v2 : Nat) (v3 : Nat) (v4 : Int) (v6 : List Int) (v7 : Int) (v8 : List Int) (K0 : (List Int → Option Res)) (k : Nat) (v5 : Int) (v9 : List Int) => cond (decide (v5 < 8)) (cond (decide (IntKind.i64.wrap (8 * v5) < 0)) none (cond (decide ((0 : Int) ≤ IntKind.i64.wrap ((IntKind.i64.wrap (((v2 : Nat) : Int) - 1)) - v5) ∧ IntKind.i64.wrap ((IntKind.i64.wrap (((v2 : Nat) : Int) - 1)) - v5) < ((v2 : Nat) : Int))) (cond (decide (v1 + ((IntKind.i64.wrap ((IntKind.i64.wrap (((v2 : Nat) : Int) - 1)) - v5)).toNat) < v9.length)) (l10 v1 v2 v3 v4 v6 v7 v8 K0 k (IntKind.i64.wrap (v5 + 1)) (v9.set (v1 + ((IntKind.i64.wrap ((IntKind.i64.wrap (((v2 : Nat) : Int) - 1)) - v5)).toNat)) (IntKind.u8.wrap (ishr .u64 v4 (IntKind.i64.wrap (8 * v5)))))) none) none)) (K0 v9)) d.1.2.1.1 d.1.2.1.2.1 d.1.2.1.2.2 d.1.2.2.1 d.2.1.2.1 d.2.1.2.2.2.1 d.2.2.1.2.1 (fun (y6 : List Int) => K (.exit 0) [.tv (.lf (.ptr 0 0)), .tv (.lf (.slice 2 0 d.1.2.1.1 d.1.2.1.2.1 (some d.1.2.1.2.2)))] [some ⟨d.2.1.1, [.seq (.int .u32) 8 d.2.1.2.1, .full 1, .int .u64 d.2.1.2.2.2.1]⟩, some ⟨d.2.2.1.1, [.seq (.int .u8) 0 d.2.2.1.2.1]⟩, some ⟨false, [.seq (.int .u8) 0 y6]⟩]) k d.1.2.2.2.1 d.2.2.2.1.2.1 = roundOf Try.prog (tab [(130, (mkS sh130_1 (fun d K => c130_1 d.1.1.1 d.2.1.2.1 (fun (y0 : List Int) => K [.agg [.seq (.int .u32) 8 y0]] [some ⟨d.2.1.1, [.seq (.int .u8) 0 d.2.1.2.1]⟩])) noS))]) (xw []) 81 2 (ltab [(10, X10), (15, X15), (20, X20)]) (mkG sh117_1_l10 [0, 3, 5, 32] (outT [(.exit 0, [0, 3])]) (fun d K => l10 d.1.2.1.1 d.1.2.1.2.1 d.1.2.1.2.2 d.1.2.2.1 d.2.1.2.1 d.2.1.2.2.2.1 d.2.2.1.2.1 (fun (y6 : List Int) => K (.exit 0) [.tv (.lf (.ptr 0 0)), .tv (.lf (.slice 2 0 d.1.2.1.1 d.1.2.1.2.1 (some d.1.2.1.2.2)))] [some ⟨d.2.1.1, [.seq (.int .u32) 8 d.2.1.2.1, .full 1, .int .u64 d.2.1.2.2.2.1]⟩, some ⟨d.2.2.1.1, [.seq (.int .u8) 0 d.2.2.1.2.1]⟩, some ⟨false, [.seq (.int .u8) 0 y6]⟩]) k d.1.2.2.2.1 d.2.2.2.1.2.1) []) b117_0 (encT sh117_1_l10.vs d.1) (encH sh117_1_l10.h d.2) K := by kernel_rfl
theorem L117_1_10 (F : Nat) : LoopOK Try.prog (T117_1 F) (xw []) 81 2 (LT117_1 F) (G117_1_10 F F) b117_0 :=
  loopOK_of (s := sh117_1_l10) (live := [0, 3, 5, 32]) (out := (outT [(.exit 0, [0, 3])])) (mv := []) (fun k d K => f117_1_l10 F d.1.2.1.1 d.1.2.1.2.1 d.1.2.1.2.2 d.1.2.2.1 d.2.1.2.1 d.2.1.2.2.2.1 d.2.2.1.2.1 (fun (y6 : List Int) => K (.exit 0) [.tv (.lf (.ptr 0 0)), .tv (.lf (.slice 2 0 d.1.2.1.1 d.1.2.1.2.1 (some d.1.2.1.2.2)))] [some ⟨d.2.1.1, [.seq (.int .u32) 8 d.2.1.2.1, .full 1, .int .u64 d.2.1.2.2.2.1]⟩, some ⟨d.2.2.1.1, [.seq (.int .u8) 0 d.2.2.1.2.1]⟩, some ⟨false, [.seq (.int .u8) 0 y6]⟩]) k d.1.2.2.2.1 d.2.2.2.1.2.1) F (fun d K => by kernel_rfl)  (fun k d K => Eq.mp (by kernel_rfl) (L117_1_l10g F k (f130_1 F)  (f117_1_l10 F) (G117_1_10 F F) (G117_1_15 F F) (G117_1_20 F F) d K))
theorem L117_1_l15g (F k : Nat) (c130_1 : List Int → List Int → (List Int → Option Res) → Option Res)  (l15 : List Int → Int → List Int → List Int → (List Int → Option Res) → Nat → Nat → Nat → Nat → List Int → Option Res) (X10 : LoopS) (X15 : LoopS) (X20 : LoopS) (d : sh117_1_l15.den) (K : KL) : (fun (v14 : List Int) (v15 : Int) (v16 : List Int) (v17 : List Int) (K0 : (List Int → Option Res)) (k : Nat) (v11 : Nat) (v12 : Nat) (v13 : Nat) (v18 : List Int) => cond (decide (((v12 : Nat) : Int) > 0)) (c130_1 v18 ((v17.drop v11).take v12) (fun x19 => cond (decide ((0 : Int) ≤ (64 : Int) ∧ (64 : Int) ≤ ((v12 : Nat) : Int) ∧ ((v12 : Nat) : Int) ≤ ((v13 : Nat) : Int))) (l15 v14 v15 v16 v17 K0 k (v11 + 64) ((((v12 : Nat) : Int) - 64).toNat) (v13 - 64) x19) none) ) (K0 v18)) d.2.1.2.1 d.2.1.2.2.2.1 d.2.2.1.2.1 d.2.2.2.1.2.1 (fun (y4 : List Int) => K (.exit 2) [.tv (.lf (.ptr 3 0))] [some ⟨d.2.1.1, [.seq (.int .u32) 8 d.2.1.2.1, .full 1, .int .u64 d.2.1.2.2.2.1]⟩, some ⟨d.2.2.1.1, [.seq (.int .u8) 0 d.2.2.1.2.1]⟩, some ⟨false, [.seq (.int .u8) 0 d.2.2.2.1.2.1]⟩, some ⟨false, [.seq (.int .u32) 8 y4]⟩]) k d.1.1.1 d.1.1.2.1 d.1.1.2.2 d.2.2.2.2.1.2.1 = roundOf Try.prog (tab [(130, (mkS sh130_1 (fun d K => c130_1 d.1.1.1 d.2.1.2.1 (fun (y0 : List Int) => K [.agg [.seq (.int .u32) 8 y0]] [some ⟨d.2.1.1, [.seq (.int .u8) 0 d.2.1.2.1]⟩])) noS))]) (xw []) 81 2 (ltab [(10, X10), (15, X15), (20, X20)]) (mkG sh117_1_l15 [3, 7] (outT [(.exit 2, [7])]) (fun d K => l15 d.2.1.2.1 d.2.1.2.2.2.1 d.2.2.1.2.1 d.2.2.2.1.2.1 (fun (y4 : List Int) => K (.exit 2) [.tv (.lf (.ptr 3 0))] [some ⟨d.2.1.1, [.seq (.int .u32) 8 d.2.1.2.1, .full 1, .int .u64 d.2.1.2.2.2.1]⟩, some ⟨d.2.2.1.1, [.seq (.int .u8) 0 d.2.2.1.2.1]⟩, some ⟨false, [.seq (.int .u8) 0 d.2.2.2.1.2.1]⟩, some ⟨false, [.seq (.int .u32) 8 y4]⟩]) k d.1.1.1 d.1.1.2.1 d.1.1.2.2 d.2.2.2.2.1.2.1) []) b117_1 (encT sh117_1_l15.vs d.1) (encH sh117_1_l15.h d.2) K := by kernel_rfl
theorem L117_1_15 (F : Nat) : LoopOK Try.prog (T117_1 F) (xw []) 81 2 (LT117_1 F) (G117_1_15 F F) b117_1 :=
  loopOK_of (s := sh117_1_l15) (live := [3, 7]) (out := (outT [(.exit 2, [7])])) (mv := []) (fun k d K => f117_1_l15 F d.2.1.2.1 d.2.1.2.2.2.1 d.2.2.1.2.1 d.2.2.2.1.2.1 (fun (y4 : List Int) => K (.exit 2) [.tv (.lf (.ptr 3 0))] [some ⟨d.2.1.1, [.seq (.int .u32) 8 d.2.1.2.1, .full 1, .int .u64 d.2.1.2.2.2.1]⟩, some ⟨d.2.2.1.1, [.seq (.int .u8) 0 d.2.2.1.2.1]⟩, some ⟨false, [.seq (.int .u8) 0 d.2.2.2.1.2.1]⟩, some ⟨false, [.seq (.int .u32) 8 y4]⟩]) k d.1.1.1 d.1.1.2.1 d.1.1.2.2 d.2.2.2.2.1.2.1) F (fun d K => by kernel_rfl)  (fun k d K => Eq.mp (by kernel_rfl) (L117_1_l15g F k (f130_1 F)  (f117_1_l15 F) (G117_1_10 F F) (G117_1_15 F F) (G117_1_20 F F) d K))
theorem L117_1_l20g (F k : Nat) (c130_1 : List Int → List Int → (List Int → Option Res) → Option Res)  (l20 : List Int → List Int → Int → List Int → (List Int → Option Res) → Nat → Int → List Int → Option Res) (X10 : LoopS) (X15 : LoopS) (X20 : LoopS) (d : sh117_1_l20.den) (K : KL) : (fun (v21 : List Int) (v23 : List Int) (v24 : Int) (v25 : List Int) (K0 : (List Int → Option Res)) (k : Nat) (v22 : Int) (v26 : List Int) => cond (decide (v22 < 8)) (cond (decide ((0 : Int) ≤ v22 ∧ v22 < 8)) (cond (decide ((v26.length + 4) * 1 ≤ 70368744177664)) (l20 v21 v23 v24 v25 K0 k (IntKind.i64.wrap (v22 + 1)) (v26 ++ [IntKind.u8.wrap (ishr .u32 (v21.getD v22.toNat 0) 24), IntKind.u8.wrap (ishr .u32 (v21.getD v22.toNat 0) 16), IntKind.u8.wrap (ishr .u32 (v21.getD v22.toNat 0) 8), IntKind.u8.wrap (v21.getD v22.toNat 0)])) none) none) (K0 v26)) d.1.2.1.1 d.2.1.2.1 d.2.1.2.2.2.1 d.2.2.1.2.1 (fun (y3 : List Int) => K (.exit 4) [.tv (.lf (.full 2))] [some ⟨d.2.1.1, [.seq (.int .u32) 8 d.2.1.2.1, .full 1, .int .u64 d.2.1.2.2.2.1]⟩, some ⟨d.2.2.1.1, [.seq (.int .u8) 0 d.2.2.1.2.1]⟩, some ⟨false, [.seq (.int .u8) 0 y3]⟩]) k d.1.2.2.1 d.2.2.2.1.2.1 = roundOf Try.prog (tab [(130, (mkS sh130_1 (fun d K => c130_1 d.1.1.1 d.2.1.2.1 (fun (y0 : List Int) => K [.agg [.seq (.int .u32) 8 y0]] [some ⟨d.2.1.1, [.seq (.int .u8) 0 d.2.1.2.1]⟩])) noS))]) (xw []) 81 2 (ltab [(10, X10), (15, X15), (20, X20)]) (mkG sh117_1_l20 [8, 60, 61] (outT [(.exit 4, [8])]) (fun d K => l20 d.1.2.1.1 d.2.1.2.1 d.2.1.2.2.2.1 d.2.2.1.2.1 (fun (y3 : List Int) => K (.exit 4) [.tv (.lf (.full 2))] [some ⟨d.2.1.1, [.seq (.int .u32) 8 d.2.1.2.1, .full 1, .int .u64 d.2.1.2.2.2.1]⟩, some ⟨d.2.2.1.1, [.seq (.int .u8) 0 d.2.2.1.2.1]⟩, some ⟨false, [.seq (.int .u8) 0 y3]⟩]) k d.1.2.2.1 d.2.2.2.1.2.1) []) b117_2 (encT sh117_1_l20.vs d.1) (encH sh117_1_l20.h d.2) K := by kernel_rfl
theorem L117_1_20 (F : Nat) : LoopOK Try.prog (T117_1 F) (xw []) 81 2 (LT117_1 F) (G117_1_20 F F) b117_2 :=
  loopOK_of (s := sh117_1_l20) (live := [8, 60, 61]) (out := (outT [(.exit 4, [8])])) (mv := []) (fun k d K => f117_1_l20 F d.1.2.1.1 d.2.1.2.1 d.2.1.2.2.2.1 d.2.2.1.2.1 (fun (y3 : List Int) => K (.exit 4) [.tv (.lf (.full 2))] [some ⟨d.2.1.1, [.seq (.int .u32) 8 d.2.1.2.1, .full 1, .int .u64 d.2.1.2.2.2.1]⟩, some ⟨d.2.2.1.1, [.seq (.int .u8) 0 d.2.2.1.2.1]⟩, some ⟨false, [.seq (.int .u8) 0 y3]⟩]) k d.1.2.2.1 d.2.2.2.1.2.1) F (fun d K => by kernel_rfl)  (fun k d K => Eq.mp (by kernel_rfl) (L117_1_l20g F k (f130_1 F)  (f117_1_l20 F) (G117_1_10 F F) (G117_1_15 F F) (G117_1_20 F F) d K))
theorem E117_1g (F : Nat) (c130_1 : List Int → List Int → (List Int → Option Res) → Option Res) (l10 : Nat → Nat → Nat → Int → List Int → Int → List Int → (List Int → Option Res) → Nat → Int → List Int → Option Res) (l15 : List Int → Int → List Int → List Int → (List Int → Option Res) → Nat → Nat → Nat → Nat → List Int → Option Res) (l20 : List Int → List Int → Int → List Int → (List Int → Option Res) → Nat → Int → List Int → Option Res)  (d : sh117_1.den) (K : KF) : evBody Try.prog (tab [(130, (mkS sh130_1 (fun d K => c130_1 d.1.1.1 d.2.1.2.1 (fun (y0 : List Int) => K [.agg [.seq (.int .u32) 8 y0]] [some ⟨d.2.1.1, [.seq (.int .u8) 0 d.2.1.2.1]⟩])) noS))]) (xw []) 81 2 (ltab [(10, mkG sh117_1_l10 [0, 3, 5, 32] (outT [(.exit 0, [0, 3])]) (fun d K => l10 d.1.2.1.1 d.1.2.1.2.1 d.1.2.1.2.2 d.1.2.2.1 d.2.1.2.1 d.2.1.2.2.2.1 d.2.2.1.2.1 (fun (y6 : List Int) => K (.exit 0) [.tv (.lf (.ptr 0 0)), .tv (.lf (.slice 2 0 d.1.2.1.1 d.1.2.1.2.1 (some d.1.2.1.2.2)))] [some ⟨d.2.1.1, [.seq (.int .u32) 8 d.2.1.2.1, .full 1, .int .u64 d.2.1.2.2.2.1]⟩, some ⟨d.2.2.1.1, [.seq (.int .u8) 0 d.2.2.1.2.1]⟩, some ⟨false, [.seq (.int .u8) 0 y6]⟩]) F d.1.2.2.2.1 d.2.2.2.1.2.1) []), (15, mkG sh117_1_l15 [3, 7] (outT [(.exit 2, [7])]) (fun d K => l15 d.2.1.2.1 d.2.1.2.2.2.1 d.2.2.1.2.1 d.2.2.2.1.2.1 (fun (y4 : List Int) => K (.exit 2) [.tv (.lf (.ptr 3 0))] [some ⟨d.2.1.1, [.seq (.int .u32) 8 d.2.1.2.1, .full 1, .int .u64 d.2.1.2.2.2.1]⟩, some ⟨d.2.2.1.1, [.seq (.int .u8) 0 d.2.2.1.2.1]⟩, some ⟨false, [.seq (.int .u8) 0 d.2.2.2.1.2.1]⟩, some ⟨false, [.seq (.int .u32) 8 y4]⟩]) F d.1.1.1 d.1.1.2.1 d.1.1.2.2 d.2.2.2.2.1.2.1) []), (20, mkG sh117_1_l20 [8, 60, 61] (outT [(.exit 4, [8])]) (fun d K => l20 d.1.2.1.1 d.2.1.2.1 d.2.1.2.2.2.1 d.2.2.1.2.1 (fun (y3 : List Int) => K (.exit 4) [.tv (.lf (.full 2))] [some ⟨d.2.1.1, [.seq (.int .u32) 8 d.2.1.2.1, .full 1, .int .u64 d.2.1.2.2.2.1]⟩, some ⟨d.2.2.1.1, [.seq (.int .u8) 0 d.2.2.1.2.1]⟩, some ⟨false, [.seq (.int .u8) 0 y3]⟩]) F d.1.2.2.1 d.2.2.2.1.2.1) [])]) code117 Try.f117.results.toList (encT sh117_1.vs d.1) (encH sh117_1.h d.2) K = (fun (a1 : List Int) (a2 : Int) (a3 : List Int) (K0 : (ByteArray → Option Res)) => cond (decide ((0 : Int) ≤ ((min a3.length 64 : Nat) : Int) ∧ ((min a3.length 64 : Nat) : Int) < (64 : Int))) (cond (decide (0 + (((min a3.length 64 : Nat) : Int).toNat) < ((List.replicate 128 0).take 0 ++ (a3.take 64 ++ (List.replicate 128 0).drop (0 + (min a3.length 64)))).length)) (cond (decide (((min a3.length 64 : Nat) : Int) ≥ 56)) (l10 0 128 128 (IntKind.u64.wrap (8 * a2)) a1 a2 a3 (fun x10 => l15 a1 a2 a3 x10 (fun x20 => l20 x20 a1 a2 a3 (fun x27 => K0 (ofInts x27)) F 0 []) F 0 128 128 a1) F 0 (((List.replicate 128 0).take 0 ++ (a3.take 64 ++ (List.replicate 128 0).drop (0 + (min a3.length 64)))).set (0 + (((min a3.length 64 : Nat) : Int).toNat)) 128)) (l10 0 64 128 (IntKind.u64.wrap (8 * a2)) a1 a2 a3 (fun x28 => l15 a1 a2 a3 x28 (fun x29 => l20 x29 a1 a2 a3 (fun x30 => K0 (ofInts x30)) F 0 []) F 0 64 128 a1) F 0 (((List.replicate 128 0).take 0 ++ (a3.take 64 ++ (List.replicate 128 0).drop (0 + (min a3.length 64)))).set (0 + (((min a3.length 64 : Nat) : Int).toNat)) 128))) none) none) d.2.1.2.1 d.2.1.2.2.2.1 d.2.2.1.2.1 (fun (y0 : ByteArray) => K [.lf (.str y0)] [some ⟨d.2.1.1, [.seq (.int .u32) 8 d.2.1.2.1, .full 1, .int .u64 d.2.1.2.2.2.1]⟩, some ⟨d.2.2.1.1, [.seq (.int .u8) 0 d.2.2.1.2.1]⟩]) := by kernel_rfl
theorem E117_1 (F : Nat) (d : sh117_1.den) (K : KF) : evBody Try.prog (T117_1 F) (xw []) 81 2 (LT117_1 F) code117 Try.f117.results.toList (encT sh117_1.vs d.1) (encH sh117_1.h d.2) K = f117_1 F d.2.1.2.1 d.2.1.2.2.2.1 d.2.2.1.2.1 (fun (y0 : ByteArray) => K [.lf (.str y0)] [some ⟨d.2.1.1, [.seq (.int .u32) 8 d.2.1.2.1, .full 1, .int .u64 d.2.1.2.2.2.1]⟩, some ⟨d.2.2.1.1, [.seq (.int .u8) 0 d.2.2.1.2.1]⟩]) := Eq.mp (by kernel_rfl) (E117_1g F (f130_1 F) (f117_1_l10 F) (f117_1_l15 F) (f117_1_l20 F)  d K)
theorem S117_1_ok (F : Nat) (o : Summ) (ho : SoundFn Try.prog 117 o) : SoundFn Try.prog 117 (S117_1 F o) :=
  soundFn_of (fn := Try.f117) (c := code117) rfl rfl (by kernel_rfl) (tab_cons (S130_1_ok F _ (noS_sound enter130)) tab_nil) (by kernel_rfl) (by kernel_rfl) ho (by rw [loops117]; exact (loopsOK_cons (by kernel_rfl) (L117_1_10 F) (loopsOK_cons (by kernel_rfl) (L117_1_15 F) (loopsOK_cons (by kernel_rfl) (L117_1_20 F) loopsOK_nil)))) (by rw [scopes117]; exact scopesOK_nil) (by rw [ranges117]; exact rangesOK_nil) (E117_1 F)
end Go.Proofs.Ytillbabmlfjegaa.X
end

section
namespace Go.Proofs.Ytillbabmlfjegaa.X
open Go Go.Proofs.Ytillbabmlfjegaa.Ev Go.Proofs
set_option linter.unusedVariables false
set_option linter.unusedSectionVars false
/-! digest.tagged -/
noncomputable def f97_1_l4 {β : Type} (F : Nat) (v6 : Int) (v8 : List ByteArray) (K0 : List Int → Int → List Int → Option β) : Nat → Int → List Int → Int → List Int → Option β
  | 0, _, _, _, _ => none
  | k + 1, v7, v9, v10, v11 => cond (decide (v7 < v6)) (cond (decide ((0 : Int) ≤ v7 ∧ v7 < ((v8.length : Nat) : Int))) (cond (decide (0 + v7.toNat < v8.length)) (f116_1 F v9 v10 v11 (toInts (v8.getD (0 + v7.toNat) ByteArray.empty)) (fun x12 x13 x14 => f97_1_l4 F v6 v8 K0 k (IntKind.i64.wrap (v7 + 1)) x12 x13 x14) ) none) none) (K0 v9 v10 v11)
noncomputable def f97_1 {β : Type} (F : Nat) (a1 : Int) (a2 : List ByteArray) (K0 : ByteArray → Option β) : Option β := f115_1 F  (fun x1 x2 => f116_1 F x1 0 x2 [a1] (fun x3 x4 x5 => f97_1_l4 F ((a2.length : Nat) : Int) a2 (fun x15 x16 x17 => f117_1 F x15 x16 x17 (fun x18 => K0 x18) ) F 0 x3 x4 x5) ) 
variable [FZ]
def sh97_1 : Sh := ⟨[.lf (.int .u8), .lf (.full 0)], [some ⟨none, [.seq .str 0]⟩]⟩
noncomputable def S97_1 (F : Nat) (o : Summ) : Summ := mkS sh97_1 (fun d K => f97_1 F d.1.1 d.2.1.2.1 (fun (y0 : ByteArray) => K [.lf (.str y0)] [some ⟨d.2.1.1, [.seq .str 0 d.2.1.2.1]⟩])) o
noncomputable def code97 : Code := bodyOf Try.f97
noncomputable def b97_0 : Code := cB (cB (cR (cL (cR (cR (cR (code97)))))))
theorem scopes97 : scopesOf code97 = [] := by kernel_rfl
theorem ranges97 : rangesOf code97 = [] := by kernel_rfl
theorem loops97 : loopsOf code97 = [b97_0] := by kernel_rfl
theorem enter97 : ∀ args w, (callFunc 97 args).run Try.prog w = .ok (.enter 97 args) w := enter_of (fn := Try.f97) (by kernel_rfl) (by kernel_rfl) (by kernel_rfl)
noncomputable def T97_1 (F : Nat) : FuncId → Option Summ := tab [(115, (S115_1 F noS)), (116, (S116_1 F noS)), (117, (S117_1 F noS))]
def sh97_1_l4 : Sh := ⟨[.lf (.ptr 1 0), .lf (.full 0), .lf (.int .i64), .lf (.int .i64)], [some ⟨none, [.seq .str 0]⟩, some ⟨some false, [.seq (.int .u32) 8, .full 2, .int .u64]⟩, some ⟨some false, [.seq (.int .u8) 0]⟩]⟩
noncomputable def G97_1_4 (F k : Nat) : LoopS := mkG sh97_1_l4 [5, 13, 14, 15] (outT [(.exit 0, [5])]) (fun d K => f97_1_l4 F d.1.2.2.1 d.2.1.2.1 (fun (y1 : List Int) (y2 : Int) (y3 : List Int) => K (.exit 0) [.tv (.lf (.ptr 1 0))] [some ⟨d.2.1.1, [.seq .str 0 d.2.1.2.1]⟩, some ⟨false, [.seq (.int .u32) 8 y1, .full 2, .int .u64 y2]⟩, some ⟨false, [.seq (.int .u8) 0 y3]⟩]) k d.1.2.2.2.1 d.2.2.1.2.1 d.2.2.1.2.2.2.1 d.2.2.2.1.2.1) []
noncomputable def LT97_1 (F : Nat) : Nat → Option LoopS := ltab [(4, G97_1_4 F F)]
theorem L97_1_l4g (F k : Nat) (c115_1 : (List Int → List Int → Option Res) → Option Res) (c116_1 : List Int → Int → List Int → List Int → (List Int → Int → List Int → Option Res) → Option Res) (c117_1 : List Int → Int → List Int → (ByteArray → Option Res) → Option Res)  (l4 : Int → List ByteArray → (List Int → Int → List Int → Option Res) → Nat → Int → List Int → Int → List Int → Option Res) (X4 : LoopS) (d : sh97_1_l4.den) (K : KL) : (fun (v6 : Int) (v8 : List ByteArray) (K0 : (List Int → Int → List Int → Option Res)) (k : Nat) (v7 : Int) (v9 : List Int) (v10 : Int) (v11 : List Int) => cond (decide (v7 < v6)) (cond (decide ((0 : Int) ≤ v7 ∧ v7 < ((v8.length : Nat) : Int))) (cond (decide (0 + v7.toNat < v8.length)) (c116_1 v9 v10 v11 (toInts (v8.getD (0 + v7.toNat) ByteArray.empty)) (fun x12 x13 x14 => l4 v6 v8 K0 k (IntKind.i64.wrap (v7 + 1)) x12 x13 x14) ) none) none) (K0 v9 v10 v11)) d.1.2.2.1 d.2.1.2.1 (fun (y1 : List Int) (y2 : Int) (y3 : List Int) => K (.exit 0) [.tv (.lf (.ptr 1 0))] [some ⟨d.2.1.1, [.seq .str 0 d.2.1.2.1]⟩, some ⟨false, [.seq (.int .u32) 8 y1, .full 2, .int .u64 y2]⟩, some ⟨false, [.seq (.int .u8) 0 y3]⟩]) k d.1.2.2.2.1 d.2.2.1.2.1 d.2.2.1.2.2.2.1 d.2.2.2.1.2.1 = roundOf Try.prog (tab [(115, (mkS sh115_1 (fun d K => c115_1 (fun (y0 : List Int) (y2 : List Int) => K [.lf (.ptr 0 0)] [some ⟨false, [.seq (.int .u32) 8 y0, .full 1, .int .u64 0]⟩, some ⟨false, [.seq (.int .u8) 0 y2]⟩])) noS)), (116, (mkS sh116_1 (fun d K => c116_1 d.2.1.2.1 d.2.1.2.2.2.1 d.2.2.1.2.1 d.2.2.2.1.2.1 (fun (y0 : List Int) (y1 : Int) (y3 : List Int) => K [] [some ⟨false, [.seq (.int .u32) 8 y0, .full 3, .int .u64 y1]⟩, none, some ⟨d.2.2.2.1.1, [.seq (.int .u8) 0 d.2.2.2.1.2.1]⟩, some ⟨false, [.seq (.int .u8) 0 y3]⟩])) noS)), (117, (mkS sh117_1 (fun d K => c117_1 d.2.1.2.1 d.2.1.2.2.2.1 d.2.2.1.2.1 (fun (y0 : ByteArray) => K [.lf (.str y0)] [some ⟨d.2.1.1, [.seq (.int .u32) 8 d.2.1.2.1, .full 1, .int .u64 d.2.1.2.2.2.1]⟩, some ⟨d.2.2.1.1, [.seq (.int .u8) 0 d.2.2.1.2.1]⟩])) noS))]) (xw []) 26 1 (ltab [(4, X4)]) (mkG sh97_1_l4 [5, 13, 14, 15] (outT [(.exit 0, [5])]) (fun d K => l4 d.1.2.2.1 d.2.1.2.1 (fun (y1 : List Int) (y2 : Int) (y3 : List Int) => K (.exit 0) [.tv (.lf (.ptr 1 0))] [some ⟨d.2.1.1, [.seq .str 0 d.2.1.2.1]⟩, some ⟨false, [.seq (.int .u32) 8 y1, .full 2, .int .u64 y2]⟩, some ⟨false, [.seq (.int .u8) 0 y3]⟩]) k d.1.2.2.2.1 d.2.2.1.2.1 d.2.2.1.2.2.2.1 d.2.2.2.1.2.1) []) b97_0 (encT sh97_1_l4.vs d.1) (encH sh97_1_l4.h d.2) K := by kernel_rfl
theorem L97_1_4 (F : Nat) : LoopOK Try.prog (T97_1 F) (xw []) 26 1 (LT97_1 F) (G97_1_4 F F) b97_0 :=
  loopOK_of (s := sh97_1_l4) (live := [5, 13, 14, 15]) (out := (outT [(.exit 0, [5])])) (mv := []) (fun k d K => f97_1_l4 F d.1.2.2.1 d.2.1.2.1 (fun (y1 : List Int) (y2 : Int) (y3 : List Int) => K (.exit 0) [.tv (.lf (.ptr 1 0))] [some ⟨d.2.1.1, [.seq .str 0 d.2.1.2.1]⟩, some ⟨false, [.seq (.int .u32) 8 y1, .full 2, .int .u64 y2]⟩, some ⟨false, [.seq (.int .u8) 0 y3]⟩]) k d.1.2.2.2.1 d.2.2.1.2.1 d.2.2.1.2.2.2.1 d.2.2.2.1.2.1) F (fun d K => by kernel_rfl)  (fun k d K => Eq.mp (by kernel_rfl) (L97_1_l4g F k (f115_1 F) (f116_1 F) (f117_1 F)  (f97_1_l4 F) (G97_1_4 F F) d K))
theorem E97_1g (F : Nat) (c115_1 : (List Int → List Int → Option Res) → Option Res) (c116_1 : List Int → Int → List Int → List Int → (List Int → Int → List Int → Option Res) → Option Res) (c117_1 : List Int → Int → List Int → (ByteArray → Option Res) → Option Res) (l4 : Int → List ByteArray → (List Int → Int → List Int → Option Res) → Nat → Int → List Int → Int → List Int → Option Res)  (d : sh97_1.den) (K : KF) : evBody Try.prog (tab [(115, (mkS sh115_1 (fun d K => c115_1 (fun (y0 : List Int) (y2 : List Int) => K [.lf (.ptr 0 0)] [some ⟨false, [.seq (.int .u32) 8 y0, .full 1, .int .u64 0]⟩, some ⟨false, [.seq (.int .u8) 0 y2]⟩])) noS)), (116, (mkS sh116_1 (fun d K => c116_1 d.2.1.2.1 d.2.1.2.2.2.1 d.2.2.1.2.1 d.2.2.2.1.2.1 (fun (y0 : List Int) (y1 : Int) (y3 : List Int) => K [] [some ⟨false, [.seq (.int .u32) 8 y0, .full 3, .int .u64 y1]⟩, none, some ⟨d.2.2.2.1.1, [.seq (.int .u8) 0 d.2.2.2.1.2.1]⟩, some ⟨false, [.seq (.int .u8) 0 y3]⟩])) noS)), (117, (mkS sh117_1 (fun d K => c117_1 d.2.1.2.1 d.2.1.2.2.2.1 d.2.2.1.2.1 (fun (y0 : ByteArray) => K [.lf (.str y0)] [some ⟨d.2.1.1, [.seq (.int .u32) 8 d.2.1.2.1, .full 1, .int .u64 d.2.1.2.2.2.1]⟩, some ⟨d.2.2.1.1, [.seq (.int .u8) 0 d.2.2.1.2.1]⟩])) noS))]) (xw []) 26 1 (ltab [(4, mkG sh97_1_l4 [5, 13, 14, 15] (outT [(.exit 0, [5])]) (fun d K => l4 d.1.2.2.1 d.2.1.2.1 (fun (y1 : List Int) (y2 : Int) (y3 : List Int) => K (.exit 0) [.tv (.lf (.ptr 1 0))] [some ⟨d.2.1.1, [.seq .str 0 d.2.1.2.1]⟩, some ⟨false, [.seq (.int .u32) 8 y1, .full 2, .int .u64 y2]⟩, some ⟨false, [.seq (.int .u8) 0 y3]⟩]) F d.1.2.2.2.1 d.2.2.1.2.1 d.2.2.1.2.2.2.1 d.2.2.2.1.2.1) [])]) code97 Try.f97.results.toList (encT sh97_1.vs d.1) (encH sh97_1.h d.2) K = (fun (a1 : Int) (a2 : List ByteArray) (K0 : (ByteArray → Option Res)) => c115_1  (fun x1 x2 => c116_1 x1 0 x2 [a1] (fun x3 x4 x5 => l4 ((a2.length : Nat) : Int) a2 (fun x15 x16 x17 => c117_1 x15 x16 x17 (fun x18 => K0 x18) ) F 0 x3 x4 x5) ) ) d.1.1 d.2.1.2.1 (fun (y0 : ByteArray) => K [.lf (.str y0)] [some ⟨d.2.1.1, [.seq .str 0 d.2.1.2.1]⟩]) := by kernel_rfl
theorem E97_1 (F : Nat) (d : sh97_1.den) (K : KF) : evBody Try.prog (T97_1 F) (xw []) 26 1 (LT97_1 F) code97 Try.f97.results.toList (encT sh97_1.vs d.1) (encH sh97_1.h d.2) K = f97_1 F d.1.1 d.2.1.2.1 (fun (y0 : ByteArray) => K [.lf (.str y0)] [some ⟨d.2.1.1, [.seq .str 0 d.2.1.2.1]⟩]) := Eq.mp (by kernel_rfl) (E97_1g F (f115_1 F) (f116_1 F) (f117_1 F) (f97_1_l4 F)  d K)
theorem S97_1_ok (F : Nat) (o : Summ) (ho : SoundFn Try.prog 97 o) : SoundFn Try.prog 97 (S97_1 F o) :=
  soundFn_of (fn := Try.f97) (c := code97) rfl rfl (by kernel_rfl) (tab_cons (S115_1_ok F _ (noS_sound enter115)) (tab_cons (S116_1_ok F _ (noS_sound enter116)) (tab_cons (S117_1_ok F _ (noS_sound enter117)) tab_nil))) (by kernel_rfl) (by kernel_rfl) ho (by rw [loops97]; exact (loopsOK_cons (by kernel_rfl) (L97_1_4 F) loopsOK_nil)) (by rw [scopes97]; exact scopesOK_nil) (by rw [ranges97]; exact rangesOK_nil) (E97_1 F)
end Go.Proofs.Ytillbabmlfjegaa.X
end

section
namespace Go.Proofs.Ytillbabmlfjegaa.X
open Go Go.Proofs.Ytillbabmlfjegaa.Ev Go.Proofs
set_option linter.unusedVariables false
set_option linter.unusedSectionVars false
/-! digest.Leaf -/
noncomputable def f56_1 {β : Type} (F : Nat) (a1 : ByteArray) (K0 : ByteArray → Option β) : Option β := f97_1 F 0 [a1] (fun x1 => K0 x1) 
variable [FZ]
def sh56_1 : Sh := ⟨[.lf (.str)], []⟩
noncomputable def S56_1 (F : Nat) (o : Summ) : Summ := mkS sh56_1 (fun d K => f56_1 F d.1.1 (fun (y0 : ByteArray) => K [.lf (.str y0)] [])) o
noncomputable def code56 : Code := bodyOf Try.f56
theorem scopes56 : scopesOf code56 = [] := by kernel_rfl
theorem ranges56 : rangesOf code56 = [] := by kernel_rfl
theorem loops56 : loopsOf code56 = [] := by kernel_rfl
theorem enter56 : ∀ args w, (callFunc 56 args).run Try.prog w = .ok (.enter 56 args) w := enter_of (fn := Try.f56) (by kernel_rfl) (by kernel_rfl) (by kernel_rfl)
noncomputable def T56_1 (F : Nat) : FuncId → Option Summ := tab [(97, (S97_1 F noS))]
noncomputable def LT56_1 (F : Nat) : Nat → Option LoopS := ltab []
theorem E56_1g (F : Nat) (c97_1 : Int → List ByteArray → (ByteArray → Option Res) → Option Res)   (d : sh56_1.den) (K : KF) : evBody Try.prog (tab [(97, (mkS sh97_1 (fun d K => c97_1 d.1.1 d.2.1.2.1 (fun (y0 : ByteArray) => K [.lf (.str y0)] [some ⟨d.2.1.1, [.seq .str 0 d.2.1.2.1]⟩])) noS))]) (xw []) 6 0 (ltab []) code56 Try.f56.results.toList (encT sh56_1.vs d.1) (encH sh56_1.h d.2) K = (fun (a1 : ByteArray) (K0 : (ByteArray → Option Res)) => c97_1 0 [a1] (fun x1 => K0 x1) ) d.1.1 (fun (y0 : ByteArray) => K [.lf (.str y0)] []) := by kernel_rfl
theorem E56_1 (F : Nat) (d : sh56_1.den) (K : KF) : evBody Try.prog (T56_1 F) (xw []) 6 0 (LT56_1 F) code56 Try.f56.results.toList (encT sh56_1.vs d.1) (encH sh56_1.h d.2) K = f56_1 F d.1.1 (fun (y0 : ByteArray) => K [.lf (.str y0)] []) := Eq.mp (by kernel_rfl) (E56_1g F (f97_1 F)   d K)
theorem S56_1_ok (F : Nat) (o : Summ) (ho : SoundFn Try.prog 56 o) : SoundFn Try.prog 56 (S56_1 F o) :=
  soundFn_of (fn := Try.f56) (c := code56) rfl rfl (by kernel_rfl) (tab_cons (S97_1_ok F _ (noS_sound enter97)) tab_nil) (by kernel_rfl) (by kernel_rfl) ho (by rw [loops56]; exact loopsOK_nil) (by rw [scopes56]; exact scopesOK_nil) (by rw [ranges56]; exact rangesOK_nil) (E56_1 F)
end Go.Proofs.Ytillbabmlfjegaa.X
end

section
namespace Go.Proofs.Ytillbabmlfjegaa.X
open Go Go.Proofs.Ytillbabmlfjegaa.Ev Go.Proofs
set_option linter.unusedVariables false
set_option linter.unusedSectionVars false
/-! geom.Levels -/
noncomputable def f102_1_l5 {β : Type} (F : Nat) (v3 : Int) (v4 : Int) (v5 : Int) (v6 : Int) (K0 : List Int → Option β) : Nat → Int → List Int → Option β
  | 0, _, _ => none
  | k + 1, v2, v7 => cond (decide (v2 > 1)) (cond (decide (v4 = 0)) none (cond (decide ((v7.length + 1) * 8 ≤ 70368744177664)) (f102_1_l5 F v3 v4 v5 v6 K0 k (IntKind.i64.wrap ((IntKind.i64.wrap ((IntKind.i64.wrap (v2 + v4)) - 1)).tdiv v4)) (v7 ++ [IntKind.i64.wrap ((IntKind.i64.wrap ((IntKind.i64.wrap (v2 + v4)) - 1)).tdiv v4)])) none)) (K0 v7)
noncomputable def f102_1 {β : Type} (F : Nat) (a1 : Int) (a2 : Int) (a3 : Int) (a4 : Int) (K0 : List Int → Option β) : Option β := f52_1 F a1 a2 a3 a4 (fun x1 => cond (!x1) (K0 []) (f102_1_l5 F a1 a2 a3 a4 (fun x8 => K0 x8) F a1 [a1])) 
variable [FZ]
def sh102_1 : Sh := ⟨[.agg [.int .i64, .int .i64, .int .i64, .int .i64]], []⟩
noncomputable def S102_1 (F : Nat) (o : Summ) : Summ := mkS sh102_1 (fun d K => f102_1 F d.1.1.1 d.1.1.2.1 d.1.1.2.2.1 d.1.1.2.2.2.1 (fun (y0 : List Int) => K [.lf (.full 0)] [some ⟨false, [.seq (.int .i64) 0 y0]⟩])) o
noncomputable def code102 : Code := bodyOf Try.f102
noncomputable def b102_0 : Code := cB (cB (cR (cL (cR (cR (cR (code102)))))))
theorem scopes102 : scopesOf code102 = [] := by kernel_rfl
theorem ranges102 : rangesOf code102 = [] := by kernel_rfl
theorem loops102 : loopsOf code102 = [b102_0] := by kernel_rfl
theorem enter102 : ∀ args w, (callFunc 102 args).run Try.prog w = .ok (.enter 102 args) w := enter_of (fn := Try.f102) (by kernel_rfl) (by kernel_rfl) (by kernel_rfl)
noncomputable def T102_1 (F : Nat) : FuncId → Option Summ := tab [(52, (S52_1 F noS))]
def sh102_1_l5 : Sh := ⟨[.lf (.ptr 0 0), .lf (.full 1), .lf (.int .i64)], [some ⟨some false, [.int .i64, .int .i64, .int .i64, .int .i64]⟩, some ⟨some false, [.seq (.int .i64) 0]⟩]⟩
noncomputable def G102_1_5 (F k : Nat) : LoopS := mkG sh102_1_l5 [1, 3, 4] (outT [(.exit 0, [3])]) (fun d K => f102_1_l5 F d.2.1.2.1 d.2.1.2.2.1 d.2.1.2.2.2.1 d.2.1.2.2.2.2.1 (fun (y4 : List Int) => K (.exit 0) [.tv (.lf (.full 1))] [some ⟨false, [.int .i64 d.2.1.2.1, .int .i64 d.2.1.2.2.1, .int .i64 d.2.1.2.2.2.1, .int .i64 d.2.1.2.2.2.2.1]⟩, some ⟨false, [.seq (.int .i64) 0 y4]⟩]) k d.1.2.2.1 d.2.2.1.2.1) []
noncomputable def LT102_1 (F : Nat) : Nat → Option LoopS := ltab [(5, G102_1_5 F F)]
theorem L102_1_l5g (F k : Nat) (c52_1 : Int → Int → Int → Int → (Bool → Option Res) → Option Res)  (l5 : Int → Int → Int → Int → (List Int → Option Res) → Nat → Int → List Int → Option Res) (X5 : LoopS) (d : sh102_1_l5.den) (K : KL) : (fun (v3 : Int) (v4 : Int) (v5 : Int) (v6 : Int) (K0 : (List Int → Option Res)) (k : Nat) (v2 : Int) (v7 : List Int) => cond (decide (v2 > 1)) (cond (decide (v4 = 0)) none (cond (decide ((v7.length + 1) * 8 ≤ 70368744177664)) (l5 v3 v4 v5 v6 K0 k (IntKind.i64.wrap ((IntKind.i64.wrap ((IntKind.i64.wrap (v2 + v4)) - 1)).tdiv v4)) (v7 ++ [IntKind.i64.wrap ((IntKind.i64.wrap ((IntKind.i64.wrap (v2 + v4)) - 1)).tdiv v4)])) none)) (K0 v7)) d.2.1.2.1 d.2.1.2.2.1 d.2.1.2.2.2.1 d.2.1.2.2.2.2.1 (fun (y4 : List Int) => K (.exit 0) [.tv (.lf (.full 1))] [some ⟨false, [.int .i64 d.2.1.2.1, .int .i64 d.2.1.2.2.1, .int .i64 d.2.1.2.2.2.1, .int .i64 d.2.1.2.2.2.2.1]⟩, some ⟨false, [.seq (.int .i64) 0 y4]⟩]) k d.1.2.2.1 d.2.2.1.2.1 = roundOf Try.prog (tab [(52, (mkS sh52_1 (fun d K => c52_1 d.1.1.1 d.1.1.2.1 d.1.1.2.2.1 d.1.1.2.2.2.1 (fun (y0 : Bool) => K [.lf (.bool y0)] [])) noS))]) (xw []) 28 0 (ltab [(5, X5)]) (mkG sh102_1_l5 [1, 3, 4] (outT [(.exit 0, [3])]) (fun d K => l5 d.2.1.2.1 d.2.1.2.2.1 d.2.1.2.2.2.1 d.2.1.2.2.2.2.1 (fun (y4 : List Int) => K (.exit 0) [.tv (.lf (.full 1))] [some ⟨false, [.int .i64 d.2.1.2.1, .int .i64 d.2.1.2.2.1, .int .i64 d.2.1.2.2.2.1, .int .i64 d.2.1.2.2.2.2.1]⟩, some ⟨false, [.seq (.int .i64) 0 y4]⟩]) k d.1.2.2.1 d.2.2.1.2.1) []) b102_0 (encT sh102_1_l5.vs d.1) (encH sh102_1_l5.h d.2) K := by kernel_rfl
theorem L102_1_5 (F : Nat) : LoopOK Try.prog (T102_1 F) (xw []) 28 0 (LT102_1 F) (G102_1_5 F F) b102_0 :=
  loopOK_of (s := sh102_1_l5) (live := [1, 3, 4]) (out := (outT [(.exit 0, [3])])) (mv := []) (fun k d K => f102_1_l5 F d.2.1.2.1 d.2.1.2.2.1 d.2.1.2.2.2.1 d.2.1.2.2.2.2.1 (fun (y4 : List Int) => K (.exit 0) [.tv (.lf (.full 1))] [some ⟨false, [.int .i64 d.2.1.2.1, .int .i64 d.2.1.2.2.1, .int .i64 d.2.1.2.2.2.1, .int .i64 d.2.1.2.2.2.2.1]⟩, some ⟨false, [.seq (.int .i64) 0 y4]⟩]) k d.1.2.2.1 d.2.2.1.2.1) F (fun d K => by kernel_rfl)  (fun k d K => Eq.mp (by kernel_rfl) (L102_1_l5g F k (f52_1 F)  (f102_1_l5 F) (G102_1_5 F F) d K))
theorem E102_1g (F : Nat) (c52_1 : Int → Int → Int → Int → (Bool → Option Res) → Option Res) (l5 : Int → Int → Int → Int → (List Int → Option Res) → Nat → Int → List Int → Option Res)  (d : sh102_1.den) (K : KF) : evBody Try.prog (tab [(52, (mkS sh52_1 (fun d K => c52_1 d.1.1.1 d.1.1.2.1 d.1.1.2.2.1 d.1.1.2.2.2.1 (fun (y0 : Bool) => K [.lf (.bool y0)] [])) noS))]) (xw []) 28 0 (ltab [(5, mkG sh102_1_l5 [1, 3, 4] (outT [(.exit 0, [3])]) (fun d K => l5 d.2.1.2.1 d.2.1.2.2.1 d.2.1.2.2.2.1 d.2.1.2.2.2.2.1 (fun (y4 : List Int) => K (.exit 0) [.tv (.lf (.full 1))] [some ⟨false, [.int .i64 d.2.1.2.1, .int .i64 d.2.1.2.2.1, .int .i64 d.2.1.2.2.2.1, .int .i64 d.2.1.2.2.2.2.1]⟩, some ⟨false, [.seq (.int .i64) 0 y4]⟩]) F d.1.2.2.1 d.2.2.1.2.1) [])]) code102 Try.f102.results.toList (encT sh102_1.vs d.1) (encH sh102_1.h d.2) K = (fun (a1 : Int) (a2 : Int) (a3 : Int) (a4 : Int) (K0 : (List Int → Option Res)) => c52_1 a1 a2 a3 a4 (fun x1 => cond (!x1) (K0 []) (l5 a1 a2 a3 a4 (fun x8 => K0 x8) F a1 [a1])) ) d.1.1.1 d.1.1.2.1 d.1.1.2.2.1 d.1.1.2.2.2.1 (fun (y0 : List Int) => K [.lf (.full 0)] [some ⟨false, [.seq (.int .i64) 0 y0]⟩]) := by kernel_rfl
theorem E102_1 (F : Nat) (d : sh102_1.den) (K : KF) : evBody Try.prog (T102_1 F) (xw []) 28 0 (LT102_1 F) code102 Try.f102.results.toList (encT sh102_1.vs d.1) (encH sh102_1.h d.2) K = f102_1 F d.1.1.1 d.1.1.2.1 d.1.1.2.2.1 d.1.1.2.2.2.1 (fun (y0 : List Int) => K [.lf (.full 0)] [some ⟨false, [.seq (.int .i64) 0 y0]⟩]) := Eq.mp (by kernel_rfl) (E102_1g F (f52_1 F) (f102_1_l5 F)  d K)
theorem S102_1_ok (F : Nat) (o : Summ) (ho : SoundFn Try.prog 102 o) : SoundFn Try.prog 102 (S102_1 F o) :=
  soundFn_of (fn := Try.f102) (c := code102) rfl rfl (by kernel_rfl) (tab_cons (S52_1_ok F _ (noS_sound enter52)) tab_nil) (by kernel_rfl) (by kernel_rfl) ho (by rw [loops102]; exact (loopsOK_cons (by kernel_rfl) (L102_1_5 F) loopsOK_nil)) (by rw [scopes102]; exact scopesOK_nil) (by rw [ranges102]; exact rangesOK_nil) (E102_1 F)
end Go.Proofs.Ytillbabmlfjegaa.X
end

section
namespace Go.Proofs.Ytillbabmlfjegaa.X
open Go Go.Proofs.Ytillbabmlfjegaa.Ev Go.Proofs
set_option linter.unusedVariables false
set_option linter.unusedSectionVars false
/-! geom.Nodes -/
noncomputable def f72_1_l3 {β : Type} (F : Nat) (v3 : Int) (v5 : List Int) (K0 : Int → Option β) : Nat → Int → Int → Option β
  | 0, _, _ => none
  | k + 1, v2, v4 => cond (decide (v4 < v3)) (cond (decide ((0 : Int) ≤ v4 ∧ v4 < ((v5.length : Nat) : Int))) (cond (decide (0 + v4.toNat < v5.length)) (f72_1_l3 F v3 v5 K0 k (IntKind.i64.wrap (v2 + (v5.getD (0 + v4.toNat) 0))) (IntKind.i64.wrap (v4 + 1))) none) none) (K0 v2)
noncomputable def f72_1 {β : Type} (F : Nat) (a1 : Int) (a2 : Int) (a3 : Int) (a4 : Int) (K0 : Int → Option β) : Option β := f102_1 F a1 a2 a3 a4 (fun x1 => f72_1_l3 F ((x1.length : Nat) : Int) x1 (fun x6 => K0 x6) F 0 0) 
variable [FZ]
def sh72_1 : Sh := ⟨[.agg [.int .i64, .int .i64, .int .i64, .int .i64]], []⟩
noncomputable def S72_1 (F : Nat) (o : Summ) : Summ := mkS sh72_1 (fun d K => f72_1 F d.1.1.1 d.1.1.2.1 d.1.1.2.2.1 d.1.1.2.2.2.1 (fun (y0 : Int) => K [.lf (.int .i64 y0)] [])) o
noncomputable def code72 : Code := bodyOf Try.f72
noncomputable def b72_0 : Code := cB (cB (cR (cL (cR (cR (code72))))))
theorem scopes72 : scopesOf code72 = [] := by kernel_rfl
theorem ranges72 : rangesOf code72 = [] := by kernel_rfl
theorem loops72 : loopsOf code72 = [b72_0] := by kernel_rfl
theorem enter72 : ∀ args w, (callFunc 72 args).run Try.prog w = .ok (.enter 72 args) w := enter_of (fn := Try.f72) (by kernel_rfl) (by kernel_rfl) (by kernel_rfl)
noncomputable def T72_1 (F : Nat) : FuncId → Option Summ := tab [(102, (S102_1 F noS))]
def sh72_1_l3 : Sh := ⟨[.lf (.int .i64), .lf (.full 0), .lf (.int .i64), .lf (.int .i64)], [some ⟨some false, [.seq (.int .i64) 0]⟩]⟩
noncomputable def G72_1_3 (F k : Nat) : LoopS := mkG sh72_1_l3 [3, 7, 8, 9] (outT [(.exit 0, [3])]) (fun d K => f72_1_l3 F d.1.2.2.1 d.2.1.2.1 (fun (y0 : Int) => K (.exit 0) [.tv (.lf (.int .i64 y0))] [some ⟨false, [.seq (.int .i64) 0 d.2.1.2.1]⟩]) k d.1.1 d.1.2.2.2.1) []
noncomputable def LT72_1 (F : Nat) : Nat → Option LoopS := ltab [(3, G72_1_3 F F)]
theorem L72_1_l3g (F k : Nat) (c102_1 : Int → Int → Int → Int → (List Int → Option Res) → Option Res)  (l3 : Int → List Int → (Int → Option Res) → Nat → Int → Int → Option Res) (X3 : LoopS) (d : sh72_1_l3.den) (K : KL) : (fun (v3 : Int) (v5 : List Int) (K0 : (Int → Option Res)) (k : Nat) (v2 : Int) (v4 : Int) => cond (decide (v4 < v3)) (cond (decide ((0 : Int) ≤ v4 ∧ v4 < ((v5.length : Nat) : Int))) (cond (decide (0 + v4.toNat < v5.length)) (l3 v3 v5 K0 k (IntKind.i64.wrap (v2 + (v5.getD (0 + v4.toNat) 0))) (IntKind.i64.wrap (v4 + 1))) none) none) (K0 v2)) d.1.2.2.1 d.2.1.2.1 (fun (y0 : Int) => K (.exit 0) [.tv (.lf (.int .i64 y0))] [some ⟨false, [.seq (.int .i64) 0 d.2.1.2.1]⟩]) k d.1.1 d.1.2.2.2.1 = roundOf Try.prog (tab [(102, (mkS sh102_1 (fun d K => c102_1 d.1.1.1 d.1.1.2.1 d.1.1.2.2.1 d.1.1.2.2.2.1 (fun (y0 : List Int) => K [.lf (.full 0)] [some ⟨false, [.seq (.int .i64) 0 y0]⟩])) noS))]) (xw []) 18 0 (ltab [(3, X3)]) (mkG sh72_1_l3 [3, 7, 8, 9] (outT [(.exit 0, [3])]) (fun d K => l3 d.1.2.2.1 d.2.1.2.1 (fun (y0 : Int) => K (.exit 0) [.tv (.lf (.int .i64 y0))] [some ⟨false, [.seq (.int .i64) 0 d.2.1.2.1]⟩]) k d.1.1 d.1.2.2.2.1) []) b72_0 (encT sh72_1_l3.vs d.1) (encH sh72_1_l3.h d.2) K := by kernel_rfl
theorem L72_1_3 (F : Nat) : LoopOK Try.prog (T72_1 F) (xw []) 18 0 (LT72_1 F) (G72_1_3 F F) b72_0 :=
  loopOK_of (s := sh72_1_l3) (live := [3, 7, 8, 9]) (out := (outT [(.exit 0, [3])])) (mv := []) (fun k d K => f72_1_l3 F d.1.2.2.1 d.2.1.2.1 (fun (y0 : Int) => K (.exit 0) [.tv (.lf (.int .i64 y0))] [some ⟨false, [.seq (.int .i64) 0 d.2.1.2.1]⟩]) k d.1.1 d.1.2.2.2.1) F (fun d K => by kernel_rfl)  (fun k d K => Eq.mp (by kernel_rfl) (L72_1_l3g F k (f102_1 F)  (f72_1_l3 F) (G72_1_3 F F) d K))
theorem E72_1g (F : Nat) (c102_1 : Int → Int → Int → Int → (List Int → Option Res) → Option Res) (l3 : Int → List Int → (Int → Option Res) → Nat → Int → Int → Option Res)  (d : sh72_1.den) (K : KF) : evBody Try.prog (tab [(102, (mkS sh102_1 (fun d K => c102_1 d.1.1.1 d.1.1.2.1 d.1.1.2.2.1 d.1.1.2.2.2.1 (fun (y0 : List Int) => K [.lf (.full 0)] [some ⟨false, [.seq (.int .i64) 0 y0]⟩])) noS))]) (xw []) 18 0 (ltab [(3, mkG sh72_1_l3 [3, 7, 8, 9] (outT [(.exit 0, [3])]) (fun d K => l3 d.1.2.2.1 d.2.1.2.1 (fun (y0 : Int) => K (.exit 0) [.tv (.lf (.int .i64 y0))] [some ⟨false, [.seq (.int .i64) 0 d.2.1.2.1]⟩]) F d.1.1 d.1.2.2.2.1) [])]) code72 Try.f72.results.toList (encT sh72_1.vs d.1) (encH sh72_1.h d.2) K = (fun (a1 : Int) (a2 : Int) (a3 : Int) (a4 : Int) (K0 : (Int → Option Res)) => c102_1 a1 a2 a3 a4 (fun x1 => l3 ((x1.length : Nat) : Int) x1 (fun x6 => K0 x6) F 0 0) ) d.1.1.1 d.1.1.2.1 d.1.1.2.2.1 d.1.1.2.2.2.1 (fun (y0 : Int) => K [.lf (.int .i64 y0)] []) := by kernel_rfl
theorem E72_1 (F : Nat) (d : sh72_1.den) (K : KF) : evBody Try.prog (T72_1 F) (xw []) 18 0 (LT72_1 F) code72 Try.f72.results.toList (encT sh72_1.vs d.1) (encH sh72_1.h d.2) K = f72_1 F d.1.1.1 d.1.1.2.1 d.1.1.2.2.1 d.1.1.2.2.2.1 (fun (y0 : Int) => K [.lf (.int .i64 y0)] []) := Eq.mp (by kernel_rfl) (E72_1g F (f102_1 F) (f72_1_l3 F)  d K)
theorem S72_1_ok (F : Nat) (o : Summ) (ho : SoundFn Try.prog 72 o) : SoundFn Try.prog 72 (S72_1 F o) :=
  soundFn_of (fn := Try.f72) (c := code72) rfl rfl (by kernel_rfl) (tab_cons (S102_1_ok F _ (noS_sound enter102)) tab_nil) (by kernel_rfl) (by kernel_rfl) ho (by rw [loops72]; exact (loopsOK_cons (by kernel_rfl) (L72_1_3 F) loopsOK_nil)) (by rw [scopes72]; exact scopesOK_nil) (by rw [ranges72]; exact rangesOK_nil) (E72_1 F)
end Go.Proofs.Ytillbabmlfjegaa.X
end

section
namespace Go.Proofs.Ytillbabmlfjegaa.X
open Go Go.Proofs.Ytillbabmlfjegaa.Ev Go.Proofs
set_option linter.unusedVariables false
set_option linter.unusedSectionVars false
/-! geom.Root -/
noncomputable def f57_1 {β : Type} (F : Nat) (a1 : Int) (a2 : Int) (a3 : Int) (a4 : Int) (K0 : Int → Option β) : Option β := f72_1 F a1 a2 a3 a4 (fun x1 => K0 (if IntKind.i64.wrap (x1 - 1) > 0 then IntKind.i64.wrap (x1 - 1) else 0)) 
variable [FZ]
def sh57_1 : Sh := ⟨[.agg [.int .i64, .int .i64, .int .i64, .int .i64]], []⟩
noncomputable def S57_1 (F : Nat) (o : Summ) : Summ := mkS sh57_1 (fun d K => f57_1 F d.1.1.1 d.1.1.2.1 d.1.1.2.2.1 d.1.1.2.2.2.1 (fun (y0 : Int) => K [.lf (.int .i64 y0)] [])) o
noncomputable def code57 : Code := bodyOf Try.f57
theorem scopes57 : scopesOf code57 = [] := by kernel_rfl
theorem ranges57 : rangesOf code57 = [] := by kernel_rfl
theorem loops57 : loopsOf code57 = [] := by kernel_rfl
theorem enter57 : ∀ args w, (callFunc 57 args).run Try.prog w = .ok (.enter 57 args) w := enter_of (fn := Try.f57) (by kernel_rfl) (by kernel_rfl) (by kernel_rfl)
noncomputable def T57_1 (F : Nat) : FuncId → Option Summ := tab [(72, (S72_1 F noS))]
noncomputable def LT57_1 (F : Nat) : Nat → Option LoopS := ltab []
theorem E57_1g (F : Nat) (c72_1 : Int → Int → Int → Int → (Int → Option Res) → Option Res)   (d : sh57_1.den) (K : KF) : evBody Try.prog (tab [(72, (mkS sh72_1 (fun d K => c72_1 d.1.1.1 d.1.1.2.1 d.1.1.2.2.1 d.1.1.2.2.2.1 (fun (y0 : Int) => K [.lf (.int .i64 y0)] [])) noS))]) (xw []) 7 0 (ltab []) code57 Try.f57.results.toList (encT sh57_1.vs d.1) (encH sh57_1.h d.2) K = (fun (a1 : Int) (a2 : Int) (a3 : Int) (a4 : Int) (K0 : (Int → Option Res)) => c72_1 a1 a2 a3 a4 (fun x1 => K0 (if IntKind.i64.wrap (x1 - 1) > 0 then IntKind.i64.wrap (x1 - 1) else 0)) ) d.1.1.1 d.1.1.2.1 d.1.1.2.2.1 d.1.1.2.2.2.1 (fun (y0 : Int) => K [.lf (.int .i64 y0)] []) := by kernel_rfl
theorem E57_1 (F : Nat) (d : sh57_1.den) (K : KF) : evBody Try.prog (T57_1 F) (xw []) 7 0 (LT57_1 F) code57 Try.f57.results.toList (encT sh57_1.vs d.1) (encH sh57_1.h d.2) K = f57_1 F d.1.1.1 d.1.1.2.1 d.1.1.2.2.1 d.1.1.2.2.2.1 (fun (y0 : Int) => K [.lf (.int .i64 y0)] []) := Eq.mp (by kernel_rfl) (E57_1g F (f72_1 F)   d K)
theorem S57_1_ok (F : Nat) (o : Summ) (ho : SoundFn Try.prog 57 o) : SoundFn Try.prog 57 (S57_1 F o) :=
  soundFn_of (fn := Try.f57) (c := code57) rfl rfl (by kernel_rfl) (tab_cons (S72_1_ok F _ (noS_sound enter72)) tab_nil) (by kernel_rfl) (by kernel_rfl) ho (by rw [loops57]; exact loopsOK_nil) (by rw [scopes57]; exact scopesOK_nil) (by rw [ranges57]; exact rangesOK_nil) (E57_1 F)
end Go.Proofs.Ytillbabmlfjegaa.X
end

section
namespace Go.Proofs.Ytillbabmlfjegaa.X
open Go Go.Proofs.Ytillbabmlfjegaa.Ev Go.Proofs
set_option linter.unusedVariables false
set_option linter.unusedSectionVars false
/-! geom.level -/
noncomputable def f101_1_l3 {β : Type} (F : Nat) (v2 : Int) (v4 : Int) (v6 : List Int) (K0 : Int → Int → Option β) (K1 : Option β) : Nat → Int → Int → Option β
  | 0, _, _ => none
  | k + 1, v3, v5 => cond (decide (v5 < v4)) (cond (decide ((0 : Int) ≤ v5 ∧ v5 < ((v6.length : Nat) : Int))) (cond (decide (0 + v5.toNat < v6.length)) (f95_1 F v2 v3 (IntKind.i64.wrap ((IntKind.i64.wrap (v3 + (v6.getD (0 + v5.toNat) 0))) - 1)) (fun x7 => cond x7 (K0 v5 v3) (f101_1_l3 F v2 v4 v6 K0 K1 k (IntKind.i64.wrap (v3 + (v6.getD (0 + v5.toNat) 0))) (IntKind.i64.wrap (v5 + 1)))) ) none) none) (K1)
noncomputable def f101_1 {β : Type} (F : Nat) (a1 : Int) (a2 : Int) (a3 : Int) (a4 : Int) (a5 : Int) (K0 : Int → Int → Bool → Option β) : Option β := f102_1 F a1 a2 a3 a4 (fun x1 => f101_1_l3 F a5 ((x1.length : Nat) : Int) x1 (fun x8 x9 => K0 x8 x9 true) (K0 0 0 false) F 0 0) 
variable [FZ]
def sh101_1 : Sh := ⟨[.agg [.int .i64, .int .i64, .int .i64, .int .i64], .lf (.int .i64)], []⟩
noncomputable def S101_1 (F : Nat) (o : Summ) : Summ := mkS sh101_1 (fun d K => f101_1 F d.1.1.1 d.1.1.2.1 d.1.1.2.2.1 d.1.1.2.2.2.1 d.1.2.1 (fun (y0 : Int) (y1 : Int) (y2 : Bool) => K [.lf (.int .i64 y0), .lf (.int .i64 y1), .lf (.bool y2)] [])) o
noncomputable def code101 : Code := bodyOf Try.f101
noncomputable def b101_0 : Code := cB (cB (cR (cL (cR (cR (code101))))))
theorem scopes101 : scopesOf code101 = [] := by kernel_rfl
theorem ranges101 : rangesOf code101 = [] := by kernel_rfl
theorem loops101 : loopsOf code101 = [b101_0] := by kernel_rfl
theorem enter101 : ∀ args w, (callFunc 101 args).run Try.prog w = .ok (.enter 101 args) w := enter_of (fn := Try.f101) (by kernel_rfl) (by kernel_rfl) (by kernel_rfl)
noncomputable def T101_1 (F : Nat) : FuncId → Option Summ := tab [(95, (S95_1 F noS)), (102, (S102_1 F noS))]
def sh101_1_l3 : Sh := ⟨[.lf (.int .i64), .lf (.int .i64), .lf (.full 0), .lf (.int .i64), .lf (.int .i64)], [some ⟨some false, [.seq (.int .i64) 0]⟩]⟩
noncomputable def G101_1_3 (F k : Nat) : LoopS := mkG sh101_1_l3 [1, 7, 11, 12, 13] (outT [(.exit 0, []), (.ret, [4, 5, 6])]) (fun d K => f101_1_l3 F d.1.1 d.1.2.2.2.1 d.2.1.2.1 (fun (y0 : Int) (y1 : Int) => K .ret [.tv (.lf (.int .i64 y0)), .tv (.lf (.int .i64 y1)), .tv (.lf (.bool true))] [some ⟨false, [.seq (.int .i64) 0 d.2.1.2.1]⟩]) (K (.exit 0) [] [some ⟨false, [.seq (.int .i64) 0 d.2.1.2.1]⟩]) k d.1.2.1 d.1.2.2.2.2.1) []
noncomputable def LT101_1 (F : Nat) : Nat → Option LoopS := ltab [(3, G101_1_3 F F)]
theorem L101_1_l3g (F k : Nat) (c95_1 : Int → Int → Int → (Bool → Option Res) → Option Res) (c102_1 : Int → Int → Int → Int → (List Int → Option Res) → Option Res)  (l3 : Int → Int → List Int → (Int → Int → Option Res) → (Option Res) → Nat → Int → Int → Option Res) (X3 : LoopS) (d : sh101_1_l3.den) (K : KL) : (fun (v2 : Int) (v4 : Int) (v6 : List Int) (K0 : (Int → Int → Option Res)) (K1 : (Option Res)) (k : Nat) (v3 : Int) (v5 : Int) => cond (decide (v5 < v4)) (cond (decide ((0 : Int) ≤ v5 ∧ v5 < ((v6.length : Nat) : Int))) (cond (decide (0 + v5.toNat < v6.length)) (c95_1 v2 v3 (IntKind.i64.wrap ((IntKind.i64.wrap (v3 + (v6.getD (0 + v5.toNat) 0))) - 1)) (fun x7 => cond x7 (K0 v5 v3) (l3 v2 v4 v6 K0 K1 k (IntKind.i64.wrap (v3 + (v6.getD (0 + v5.toNat) 0))) (IntKind.i64.wrap (v5 + 1)))) ) none) none) (K1)) d.1.1 d.1.2.2.2.1 d.2.1.2.1 (fun (y0 : Int) (y1 : Int) => K .ret [.tv (.lf (.int .i64 y0)), .tv (.lf (.int .i64 y1)), .tv (.lf (.bool true))] [some ⟨false, [.seq (.int .i64) 0 d.2.1.2.1]⟩]) (K (.exit 0) [] [some ⟨false, [.seq (.int .i64) 0 d.2.1.2.1]⟩]) k d.1.2.1 d.1.2.2.2.2.1 = roundOf Try.prog (tab [(95, (mkS sh95_1 (fun d K => c95_1 d.1.1 d.1.2.1 d.1.2.2.1 (fun (y0 : Bool) => K [.lf (.bool y0)] [])) noS)), (102, (mkS sh102_1 (fun d K => c102_1 d.1.1.1 d.1.1.2.1 d.1.1.2.2.1 d.1.1.2.2.2.1 (fun (y0 : List Int) => K [.lf (.full 0)] [some ⟨false, [.seq (.int .i64) 0 y0]⟩])) noS))]) (xw []) 31 0 (ltab [(3, X3)]) (mkG sh101_1_l3 [1, 7, 11, 12, 13] (outT [(.exit 0, []), (.ret, [4, 5, 6])]) (fun d K => l3 d.1.1 d.1.2.2.2.1 d.2.1.2.1 (fun (y0 : Int) (y1 : Int) => K .ret [.tv (.lf (.int .i64 y0)), .tv (.lf (.int .i64 y1)), .tv (.lf (.bool true))] [some ⟨false, [.seq (.int .i64) 0 d.2.1.2.1]⟩]) (K (.exit 0) [] [some ⟨false, [.seq (.int .i64) 0 d.2.1.2.1]⟩]) k d.1.2.1 d.1.2.2.2.2.1) []) b101_0 (encT sh101_1_l3.vs d.1) (encH sh101_1_l3.h d.2) K := by kernel_rfl
theorem L101_1_3 (F : Nat) : LoopOK Try.prog (T101_1 F) (xw []) 31 0 (LT101_1 F) (G101_1_3 F F) b101_0 :=
  loopOK_of (s := sh101_1_l3) (live := [1, 7, 11, 12, 13]) (out := (outT [(.exit 0, []), (.ret, [4, 5, 6])])) (mv := []) (fun k d K => f101_1_l3 F d.1.1 d.1.2.2.2.1 d.2.1.2.1 (fun (y0 : Int) (y1 : Int) => K .ret [.tv (.lf (.int .i64 y0)), .tv (.lf (.int .i64 y1)), .tv (.lf (.bool true))] [some ⟨false, [.seq (.int .i64) 0 d.2.1.2.1]⟩]) (K (.exit 0) [] [some ⟨false, [.seq (.int .i64) 0 d.2.1.2.1]⟩]) k d.1.2.1 d.1.2.2.2.2.1) F (fun d K => by kernel_rfl)  (fun k d K => Eq.mp (by kernel_rfl) (L101_1_l3g F k (f95_1 F) (f102_1 F)  (f101_1_l3 F) (G101_1_3 F F) d K))
theorem E101_1g (F : Nat) (c95_1 : Int → Int → Int → (Bool → Option Res) → Option Res) (c102_1 : Int → Int → Int → Int → (List Int → Option Res) → Option Res) (l3 : Int → Int → List Int → (Int → Int → Option Res) → (Option Res) → Nat → Int → Int → Option Res)  (d : sh101_1.den) (K : KF) : evBody Try.prog (tab [(95, (mkS sh95_1 (fun d K => c95_1 d.1.1 d.1.2.1 d.1.2.2.1 (fun (y0 : Bool) => K [.lf (.bool y0)] [])) noS)), (102, (mkS sh102_1 (fun d K => c102_1 d.1.1.1 d.1.1.2.1 d.1.1.2.2.1 d.1.1.2.2.2.1 (fun (y0 : List Int) => K [.lf (.full 0)] [some ⟨false, [.seq (.int .i64) 0 y0]⟩])) noS))]) (xw []) 31 0 (ltab [(3, mkG sh101_1_l3 [1, 7, 11, 12, 13] (outT [(.exit 0, []), (.ret, [4, 5, 6])]) (fun d K => l3 d.1.1 d.1.2.2.2.1 d.2.1.2.1 (fun (y0 : Int) (y1 : Int) => K .ret [.tv (.lf (.int .i64 y0)), .tv (.lf (.int .i64 y1)), .tv (.lf (.bool true))] [some ⟨false, [.seq (.int .i64) 0 d.2.1.2.1]⟩]) (K (.exit 0) [] [some ⟨false, [.seq (.int .i64) 0 d.2.1.2.1]⟩]) F d.1.2.1 d.1.2.2.2.2.1) [])]) code101 Try.f101.results.toList (encT sh101_1.vs d.1) (encH sh101_1.h d.2) K = (fun (a1 : Int) (a2 : Int) (a3 : Int) (a4 : Int) (a5 : Int) (K0 : (Int → Int → Bool → Option Res)) => c102_1 a1 a2 a3 a4 (fun x1 => l3 a5 ((x1.length : Nat) : Int) x1 (fun x8 x9 => K0 x8 x9 true) (K0 0 0 false) F 0 0) ) d.1.1.1 d.1.1.2.1 d.1.1.2.2.1 d.1.1.2.2.2.1 d.1.2.1 (fun (y0 : Int) (y1 : Int) (y2 : Bool) => K [.lf (.int .i64 y0), .lf (.int .i64 y1), .lf (.bool y2)] []) := by kernel_rfl
theorem E101_1 (F : Nat) (d : sh101_1.den) (K : KF) : evBody Try.prog (T101_1 F) (xw []) 31 0 (LT101_1 F) code101 Try.f101.results.toList (encT sh101_1.vs d.1) (encH sh101_1.h d.2) K = f101_1 F d.1.1.1 d.1.1.2.1 d.1.1.2.2.1 d.1.1.2.2.2.1 d.1.2.1 (fun (y0 : Int) (y1 : Int) (y2 : Bool) => K [.lf (.int .i64 y0), .lf (.int .i64 y1), .lf (.bool y2)] []) := Eq.mp (by kernel_rfl) (E101_1g F (f95_1 F) (f102_1 F) (f101_1_l3 F)  d K)
theorem S101_1_ok (F : Nat) (o : Summ) (ho : SoundFn Try.prog 101 o) : SoundFn Try.prog 101 (S101_1 F o) :=
  soundFn_of (fn := Try.f101) (c := code101) rfl rfl (by kernel_rfl) (tab_cons (S95_1_ok F _ (noS_sound enter95)) (tab_cons (S102_1_ok F _ (noS_sound enter102)) tab_nil)) (by kernel_rfl) (by kernel_rfl) ho (by rw [loops101]; exact (loopsOK_cons (by kernel_rfl) (L101_1_3 F) loopsOK_nil)) (by rw [scopes101]; exact scopesOK_nil) (by rw [ranges101]; exact rangesOK_nil) (E101_1 F)
end Go.Proofs.Ytillbabmlfjegaa.X
end

section
namespace Go.Proofs.Ytillbabmlfjegaa.X
open Go Go.Proofs.Ytillbabmlfjegaa.Ev Go.Proofs
set_option linter.unusedVariables false
set_option linter.unusedSectionVars false
/-! geom.Children -/
noncomputable def f68_1_l7 {β : Type} (F : Nat) (v5 : Int) (v6 : Int) (v7 : Int) (v8 : Int) (v10 : Int) (v11 : Int) (v12 : Int) (v13 : Int) (K0 : List Int → Option β) : Nat → Int → List Int → Option β
  | 0, _, _ => none
  | k + 1, v9, v14 => cond (decide (v9 < v8)) (cond (decide (IntKind.i64.wrap ((IntKind.i64.wrap ((IntKind.i64.wrap (v5 - v6)) * v11)) + v9) < v7)) (cond (decide ((v14.length + 1) * 8 ≤ 70368744177664)) (f68_1_l7 F v5 v6 v7 v8 v10 v11 v12 v13 K0 k (IntKind.i64.wrap (v9 + 1)) (v14 ++ [IntKind.i64.wrap ((IntKind.i64.wrap (v6 - v7)) + (IntKind.i64.wrap ((IntKind.i64.wrap ((IntKind.i64.wrap (v5 - v6)) * v11)) + v9)))])) none) (f68_1_l7 F v5 v6 v7 v8 v10 v11 v12 v13 K0 k (IntKind.i64.wrap (v9 + 1)) v14)) (K0 v14)
noncomputable def f68_1 {β : Type} (F : Nat) (a1 : Int) (a2 : Int) (a3 : Int) (a4 : Int) (a5 : Int) (K0 : List Int → Option β) : Option β := f101_1 F a1 a2 a3 a4 a5 (fun x1 x2 x3 => cond (!x3) (K0 []) (cond (x1 == 0) (K0 []) (f102_1 F a1 a2 a3 a4 (fun x4 => cond (decide ((0 : Int) ≤ IntKind.i64.wrap (x1 - 1) ∧ IntKind.i64.wrap (x1 - 1) < ((x4.length : Nat) : Int))) (cond (decide (0 + ((IntKind.i64.wrap (x1 - 1)).toNat) < x4.length)) (f68_1_l7 F a5 x2 (x4.getD (0 + ((IntKind.i64.wrap (x1 - 1)).toNat)) 0) a2 a1 a2 a3 a4 (fun x15 => K0 x15) F 0 []) none) none) ))) 
variable [FZ]
def sh68_1 : Sh := ⟨[.agg [.int .i64, .int .i64, .int .i64, .int .i64], .lf (.int .i64)], []⟩
noncomputable def S68_1 (F : Nat) (o : Summ) : Summ := mkS sh68_1 (fun d K => f68_1 F d.1.1.1 d.1.1.2.1 d.1.1.2.2.1 d.1.1.2.2.2.1 d.1.2.1 (fun (y0 : List Int) => K [.lf (.full 0)] [some ⟨false, [.seq (.int .i64) 0 y0]⟩])) o
noncomputable def code68 : Code := bodyOf Try.f68
noncomputable def b68_0 : Code := cB (cB (cR (cL (cR (cR (cR (cR (cR (code68)))))))))
theorem scopes68 : scopesOf code68 = [] := by kernel_rfl
theorem ranges68 : rangesOf code68 = [] := by kernel_rfl
theorem loops68 : loopsOf code68 = [b68_0] := by kernel_rfl
theorem enter68 : ∀ args w, (callFunc 68 args).run Try.prog w = .ok (.enter 68 args) w := enter_of (fn := Try.f68) (by kernel_rfl) (by kernel_rfl) (by kernel_rfl)
noncomputable def T68_1 (F : Nat) : FuncId → Option Summ := tab [(101, (S101_1 F noS)), (102, (S102_1 F noS))]
def sh68_1_l7 : Sh := ⟨[.lf (.int .i64), .lf (.ptr 0 0), .lf (.int .i64), .lf (.int .i64), .lf (.full 1), .lf (.int .i64), .lf (.int .i64)], [some ⟨some false, [.int .i64, .int .i64, .int .i64, .int .i64]⟩, some ⟨some false, [.seq (.int .i64) 0]⟩]⟩
noncomputable def G68_1_7 (F k : Nat) : LoopS := mkG sh68_1_l7 [1, 2, 6, 8, 9, 32, 33] (outT [(.exit 0, [9])]) (fun d K => f68_1_l7 F d.1.1 d.1.2.2.1 d.1.2.2.2.1 d.1.2.2.2.2.2.1 d.2.1.2.1 d.2.1.2.2.1 d.2.1.2.2.2.1 d.2.1.2.2.2.2.1 (fun (y4 : List Int) => K (.exit 0) [.tv (.lf (.full 1))] [some ⟨false, [.int .i64 d.2.1.2.1, .int .i64 d.2.1.2.2.1, .int .i64 d.2.1.2.2.2.1, .int .i64 d.2.1.2.2.2.2.1]⟩, some ⟨false, [.seq (.int .i64) 0 y4]⟩]) k d.1.2.2.2.2.2.2.1 d.2.2.1.2.1) []
noncomputable def LT68_1 (F : Nat) : Nat → Option LoopS := ltab [(7, G68_1_7 F F)]
theorem L68_1_l7g (F k : Nat) (c101_1 : Int → Int → Int → Int → Int → (Int → Int → Bool → Option Res) → Option Res) (c102_1 : Int → Int → Int → Int → (List Int → Option Res) → Option Res)  (l7 : Int → Int → Int → Int → Int → Int → Int → Int → (List Int → Option Res) → Nat → Int → List Int → Option Res) (X7 : LoopS) (d : sh68_1_l7.den) (K : KL) : (fun (v5 : Int) (v6 : Int) (v7 : Int) (v8 : Int) (v10 : Int) (v11 : Int) (v12 : Int) (v13 : Int) (K0 : (List Int → Option Res)) (k : Nat) (v9 : Int) (v14 : List Int) => cond (decide (v9 < v8)) (cond (decide (IntKind.i64.wrap ((IntKind.i64.wrap ((IntKind.i64.wrap (v5 - v6)) * v11)) + v9) < v7)) (cond (decide ((v14.length + 1) * 8 ≤ 70368744177664)) (l7 v5 v6 v7 v8 v10 v11 v12 v13 K0 k (IntKind.i64.wrap (v9 + 1)) (v14 ++ [IntKind.i64.wrap ((IntKind.i64.wrap (v6 - v7)) + (IntKind.i64.wrap ((IntKind.i64.wrap ((IntKind.i64.wrap (v5 - v6)) * v11)) + v9)))])) none) (l7 v5 v6 v7 v8 v10 v11 v12 v13 K0 k (IntKind.i64.wrap (v9 + 1)) v14)) (K0 v14)) d.1.1 d.1.2.2.1 d.1.2.2.2.1 d.1.2.2.2.2.2.1 d.2.1.2.1 d.2.1.2.2.1 d.2.1.2.2.2.1 d.2.1.2.2.2.2.1 (fun (y4 : List Int) => K (.exit 0) [.tv (.lf (.full 1))] [some ⟨false, [.int .i64 d.2.1.2.1, .int .i64 d.2.1.2.2.1, .int .i64 d.2.1.2.2.2.1, .int .i64 d.2.1.2.2.2.2.1]⟩, some ⟨false, [.seq (.int .i64) 0 y4]⟩]) k d.1.2.2.2.2.2.2.1 d.2.2.1.2.1 = roundOf Try.prog (tab [(101, (mkS sh101_1 (fun d K => c101_1 d.1.1.1 d.1.1.2.1 d.1.1.2.2.1 d.1.1.2.2.2.1 d.1.2.1 (fun (y0 : Int) (y1 : Int) (y2 : Bool) => K [.lf (.int .i64 y0), .lf (.int .i64 y1), .lf (.bool y2)] [])) noS)), (102, (mkS sh102_1 (fun d K => c102_1 d.1.1.1 d.1.1.2.1 d.1.1.2.2.1 d.1.1.2.2.2.1 (fun (y0 : List Int) => K [.lf (.full 0)] [some ⟨false, [.seq (.int .i64) 0 y0]⟩])) noS))]) (xw []) 57 0 (ltab [(7, X7)]) (mkG sh68_1_l7 [1, 2, 6, 8, 9, 32, 33] (outT [(.exit 0, [9])]) (fun d K => l7 d.1.1 d.1.2.2.1 d.1.2.2.2.1 d.1.2.2.2.2.2.1 d.2.1.2.1 d.2.1.2.2.1 d.2.1.2.2.2.1 d.2.1.2.2.2.2.1 (fun (y4 : List Int) => K (.exit 0) [.tv (.lf (.full 1))] [some ⟨false, [.int .i64 d.2.1.2.1, .int .i64 d.2.1.2.2.1, .int .i64 d.2.1.2.2.2.1, .int .i64 d.2.1.2.2.2.2.1]⟩, some ⟨false, [.seq (.int .i64) 0 y4]⟩]) k d.1.2.2.2.2.2.2.1 d.2.2.1.2.1) []) b68_0 (encT sh68_1_l7.vs d.1) (encH sh68_1_l7.h d.2) K := by kernel_rfl
theorem L68_1_7 (F : Nat) : LoopOK Try.prog (T68_1 F) (xw []) 57 0 (LT68_1 F) (G68_1_7 F F) b68_0 :=
  loopOK_of (s := sh68_1_l7) (live := [1, 2, 6, 8, 9, 32, 33]) (out := (outT [(.exit 0, [9])])) (mv := []) (fun k d K => f68_1_l7 F d.1.1 d.1.2.2.1 d.1.2.2.2.1 d.1.2.2.2.2.2.1 d.2.1.2.1 d.2.1.2.2.1 d.2.1.2.2.2.1 d.2.1.2.2.2.2.1 (fun (y4 : List Int) => K (.exit 0) [.tv (.lf (.full 1))] [some ⟨false, [.int .i64 d.2.1.2.1, .int .i64 d.2.1.2.2.1, .int .i64 d.2.1.2.2.2.1, .int .i64 d.2.1.2.2.2.2.1]⟩, some ⟨false, [.seq (.int .i64) 0 y4]⟩]) k d.1.2.2.2.2.2.2.1 d.2.2.1.2.1) F (fun d K => by kernel_rfl)  (fun k d K => Eq.mp (by kernel_rfl) (L68_1_l7g F k (f101_1 F) (f102_1 F)  (f68_1_l7 F) (G68_1_7 F F) d K))
theorem E68_1g (F : Nat) (c101_1 : Int → Int → Int → Int → Int → (Int → Int → Bool → Option Res) → Option Res) (c102_1 : Int → Int → Int → Int → (List Int → Option Res) → Option Res) (l7 : Int → Int → Int → Int → Int → Int → Int → Int → (List Int → Option Res) → Nat → Int → List Int → Option Res)  (d : sh68_1.den) (K : KF) : evBody Try.prog (tab [(101, (mkS sh101_1 (fun d K => c101_1 d.1.1.1 d.1.1.2.1 d.1.1.2.2.1 d.1.1.2.2.2.1 d.1.2.1 (fun (y0 : Int) (y1 : Int) (y2 : Bool) => K [.lf (.int .i64 y0), .lf (.int .i64 y1), .lf (.bool y2)] [])) noS)), (102, (mkS sh102_1 (fun d K => c102_1 d.1.1.1 d.1.1.2.1 d.1.1.2.2.1 d.1.1.2.2.2.1 (fun (y0 : List Int) => K [.lf (.full 0)] [some ⟨false, [.seq (.int .i64) 0 y0]⟩])) noS))]) (xw []) 57 0 (ltab [(7, mkG sh68_1_l7 [1, 2, 6, 8, 9, 32, 33] (outT [(.exit 0, [9])]) (fun d K => l7 d.1.1 d.1.2.2.1 d.1.2.2.2.1 d.1.2.2.2.2.2.1 d.2.1.2.1 d.2.1.2.2.1 d.2.1.2.2.2.1 d.2.1.2.2.2.2.1 (fun (y4 : List Int) => K (.exit 0) [.tv (.lf (.full 1))] [some ⟨false, [.int .i64 d.2.1.2.1, .int .i64 d.2.1.2.2.1, .int .i64 d.2.1.2.2.2.1, .int .i64 d.2.1.2.2.2.2.1]⟩, some ⟨false, [.seq (.int .i64) 0 y4]⟩]) F d.1.2.2.2.2.2.2.1 d.2.2.1.2.1) [])]) code68 Try.f68.results.toList (encT sh68_1.vs d.1) (encH sh68_1.h d.2) K = (fun (a1 : Int) (a2 : Int) (a3 : Int) (a4 : Int) (a5 : Int) (K0 : (List Int → Option Res)) => c101_1 a1 a2 a3 a4 a5 (fun x1 x2 x3 => cond (!x3) (K0 []) (cond (x1 == 0) (K0 []) (c102_1 a1 a2 a3 a4 (fun x4 => cond (decide ((0 : Int) ≤ IntKind.i64.wrap (x1 - 1) ∧ IntKind.i64.wrap (x1 - 1) < ((x4.length : Nat) : Int))) (cond (decide (0 + ((IntKind.i64.wrap (x1 - 1)).toNat) < x4.length)) (l7 a5 x2 (x4.getD (0 + ((IntKind.i64.wrap (x1 - 1)).toNat)) 0) a2 a1 a2 a3 a4 (fun x15 => K0 x15) F 0 []) none) none) ))) ) d.1.1.1 d.1.1.2.1 d.1.1.2.2.1 d.1.1.2.2.2.1 d.1.2.1 (fun (y0 : List Int) => K [.lf (.full 0)] [some ⟨false, [.seq (.int .i64) 0 y0]⟩]) := by kernel_rfl
theorem E68_1 (F : Nat) (d : sh68_1.den) (K : KF) : evBody Try.prog (T68_1 F) (xw []) 57 0 (LT68_1 F) code68 Try.f68.results.toList (encT sh68_1.vs d.1) (encH sh68_1.h d.2) K = f68_1 F d.1.1.1 d.1.1.2.1 d.1.1.2.2.1 d.1.1.2.2.2.1 d.1.2.1 (fun (y0 : List Int) => K [.lf (.full 0)] [some ⟨false, [.seq (.int .i64) 0 y0]⟩]) := Eq.mp (by kernel_rfl) (E68_1g F (f101_1 F) (f102_1 F) (f68_1_l7 F)  d K)
theorem S68_1_ok (F : Nat) (o : Summ) (ho : SoundFn Try.prog 68 o) : SoundFn Try.prog 68 (S68_1 F o) :=
  soundFn_of (fn := Try.f68) (c := code68) rfl rfl (by kernel_rfl) (tab_cons (S101_1_ok F _ (noS_sound enter101)) (tab_cons (S102_1_ok F _ (noS_sound enter102)) tab_nil)) (by kernel_rfl) (by kernel_rfl) ho (by rw [loops68]; exact (loopsOK_cons (by kernel_rfl) (L68_1_7 F) loopsOK_nil)) (by rw [scopes68]; exact scopesOK_nil) (by rw [ranges68]; exact rangesOK_nil) (E68_1 F)
end Go.Proofs.Ytillbabmlfjegaa.X
end

section
namespace Go.Proofs.Ytillbabmlfjegaa.X
open Go Go.Proofs.Ytillbabmlfjegaa.Ev Go.Proofs
set_option linter.unusedVariables false
set_option linter.unusedSectionVars false
/-! digest.Node -/
noncomputable def f69_1 {β : Type} (F : Nat) (a1 : List ByteArray) (K0 : ByteArray → Option β) : Option β := f97_1 F 1 a1 (fun x1 => K0 x1) 
variable [FZ]
def sh69_1 : Sh := ⟨[.lf (.full 0)], [some ⟨none, [.seq .str 0]⟩]⟩
noncomputable def S69_1 (F : Nat) (o : Summ) : Summ := mkS sh69_1 (fun d K => f69_1 F d.2.1.2.1 (fun (y0 : ByteArray) => K [.lf (.str y0)] [some ⟨d.2.1.1, [.seq .str 0 d.2.1.2.1]⟩])) o
noncomputable def code69 : Code := bodyOf Try.f69
theorem scopes69 : scopesOf code69 = [] := by kernel_rfl
theorem ranges69 : rangesOf code69 = [] := by kernel_rfl
theorem loops69 : loopsOf code69 = [] := by kernel_rfl
theorem enter69 : ∀ args w, (callFunc 69 args).run Try.prog w = .ok (.enter 69 args) w := enter_of (fn := Try.f69) (by kernel_rfl) (by kernel_rfl) (by kernel_rfl)
noncomputable def T69_1 (F : Nat) : FuncId → Option Summ := tab [(97, (S97_1 F noS))]
noncomputable def LT69_1 (F : Nat) : Nat → Option LoopS := ltab []
theorem E69_1g (F : Nat) (c97_1 : Int → List ByteArray → (ByteArray → Option Res) → Option Res)   (d : sh69_1.den) (K : KF) : evBody Try.prog (tab [(97, (mkS sh97_1 (fun d K => c97_1 d.1.1 d.2.1.2.1 (fun (y0 : ByteArray) => K [.lf (.str y0)] [some ⟨d.2.1.1, [.seq .str 0 d.2.1.2.1]⟩])) noS))]) (xw []) 5 1 (ltab []) code69 Try.f69.results.toList (encT sh69_1.vs d.1) (encH sh69_1.h d.2) K = (fun (a1 : List ByteArray) (K0 : (ByteArray → Option Res)) => c97_1 1 a1 (fun x1 => K0 x1) ) d.2.1.2.1 (fun (y0 : ByteArray) => K [.lf (.str y0)] [some ⟨d.2.1.1, [.seq .str 0 d.2.1.2.1]⟩]) := by kernel_rfl
theorem E69_1 (F : Nat) (d : sh69_1.den) (K : KF) : evBody Try.prog (T69_1 F) (xw []) 5 1 (LT69_1 F) code69 Try.f69.results.toList (encT sh69_1.vs d.1) (encH sh69_1.h d.2) K = f69_1 F d.2.1.2.1 (fun (y0 : ByteArray) => K [.lf (.str y0)] [some ⟨d.2.1.1, [.seq .str 0 d.2.1.2.1]⟩]) := Eq.mp (by kernel_rfl) (E69_1g F (f97_1 F)   d K)
theorem S69_1_ok (F : Nat) (o : Summ) (ho : SoundFn Try.prog 69 o) : SoundFn Try.prog 69 (S69_1 F o) :=
  soundFn_of (fn := Try.f69) (c := code69) rfl rfl (by kernel_rfl) (tab_cons (S97_1_ok F _ (noS_sound enter97)) tab_nil) (by kernel_rfl) (by kernel_rfl) ho (by rw [loops69]; exact loopsOK_nil) (by rw [scopes69]; exact scopesOK_nil) (by rw [ranges69]; exact rangesOK_nil) (E69_1 F)
end Go.Proofs.Ytillbabmlfjegaa.X
end
