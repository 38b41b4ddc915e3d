/- Merged: EvF3, EvS19, ShaB, ShaC, GeoA, GeoB. -/
import Derived.Test.YtillbabmlfjegaaMWalkEnds3
import Derived.Test.YtillbabmlfjegaaProg
import Derived.KernelRfl
import Derived.Test.YtillbabmlfjegaaMWalkEnds5
import Derived.Test.YtillbabmlfjegaaMWalkEnds6
import Derived.Test.YtillbabmlfjegaaMWalkEnds4
section
namespace Go.Proofs.Ytillbabmlfjegaa.X
open Go Go.Proofs.Ytillbabmlfjegaa.Ev Go.Proofs
set_option linter.unusedVariables false
set_option linter.unusedSectionVars false
/-! pentimentolaw14.WalkEnds -/
noncomputable def f3_1_l20 {β : Type} (F : Nat) (v51 : Int) (v52 : Int) (v53 : Int) (v54 : Int) (v56 : List Int) (v57 : List Int) (v58 : Int) (v59 : Int) (v60 : Int) (v61 : Int) (v62 : List ByteArray) (v63 : Int) (v64 : Int) (v65 : Int) (v66 : Int) (v67 : List ByteArray) (v68 : Int) (v69 : Int) (v70 : Int) (v71 : Int) (v72 : Int) (v73 : Int) (v74 : Int) (v75 : Int) (v76 : Int) (v77 : Int) (v78 : Int) (v79 : List ByteArray) (v80 : List (Int × ByteArray)) (v81 : List (Int × ByteArray)) (v82 : List Int) (v84 : List Int) (K0 : List ByteArray → Option β) : Nat → Int → List ByteArray → Option β
  | 0, _, _ => none
  | k + 1, v55, v83 => cond (decide (v55 < ((v84.length : Nat) : Int))) (cond (decide ((0 : Int) ≤ v55 ∧ v55 < ((v84.length : Nat) : Int))) (cond (decide (0 + v55.toNat < v84.length)) (f18_1 F (v84.getD (0 + v55.toNat) 0) v63 v64 v65 v66 v67 (fun x85 x86 => cond (decide ((v83.length + 1) * 16 ≤ 70368744177664)) (f3_1_l20 F v51 v52 v53 v54 v56 v57 v58 v59 v60 v61 v62 v63 v64 v65 v66 v67 v68 v69 v70 v71 v72 v73 v74 v75 v76 v77 v78 v79 v80 v81 v82 v84 K0 k (IntKind.i64.wrap (v55 + 1)) (v83 ++ [x85])) none) ) none) none) (K0 v83)
noncomputable def f3_1_l12 {β : Type} (F : Nat) (v18 : Int) (v20 : List Int) (v21 : List Int) (v22 : Int) (v23 : Int) (v24 : Int) (v25 : Int) (v26 : List ByteArray) (v27 : Int) (v28 : Int) (v29 : Int) (v30 : Int) (v31 : List ByteArray) (v32 : Int) (v33 : Int) (v34 : Int) (v35 : Int) (v39 : Int) (v40 : Int) (v41 : Int) (v42 : Int) (v43 : List ByteArray) (K0 : Int → Int → Int → List (Int × ByteArray) → List (Int × ByteArray) → List ByteArray → List Int → List Int → List Int → Option β) (K1 : Int → Int → Int → List (Int × ByteArray) → List (Int × ByteArray) → List Int → List ByteArray → List Int → Option β) (K2 : Int → Int → Int → List ByteArray → List Int → List (Int × ByteArray) → List (Int × ByteArray) → List Int → List Int → Option β) (K3 : Int → Int → Int → List (Int × ByteArray) → List (Int × ByteArray) → List Int → List Int → Option β) (K4 : Int → Int → Int → List (Int × ByteArray) → List (Int × ByteArray) → List Int → Option β) (K5 : Int → Int → Int → List (Int × ByteArray) → List (Int × ByteArray) → List Int → Option β) : Nat → Int → Int → Int → Int → List (Int × ByteArray) → List (Int × ByteArray) → List Int → Option β
  | 0, _, _, _, _, _, _, _ => none
  | k + 1, v19, v36, v37, v38, v44, v45, v46 => cond (decide (v19 ≤ v18)) (f15_1 F v32 v33 v34 v35 v36 v37 v38 v39 v40 v41 v42 v43 v44 v45 (fun x47 => cond (!x47) (f16_1 F v32 v33 v34 v35 v36 v37 v38 v39 v40 v41 v42 v43 v44 v45 (fun x48 x49 => cond (x48 == 1) (f17_1 F v22 v23 v24 v25 x49 (fun x50 => f3_1_l20 F v18 v19 x48 x49 v20 v21 v22 v23 v24 v25 v26 v27 v28 v29 v30 v31 v32 v33 v34 v35 v36 v37 v38 v39 v40 v41 v42 v43 v44 v45 v46 x50 (fun x87 => f19_1 F x49 v32 v33 v34 v35 v36 v37 v38 v39 v40 v41 v42 v43 v44 v45 x87 (fun x88 => cond (x48 == 2) (cond (decide (x49 ≥ 0)) (cond (decide (x49 < ((v26.length : Nat) : Int))) (cond (decide ((0 : Int) ≤ x49 ∧ x49 < ((v26.length : Nat) : Int))) (cond (decide (0 + x49.toNat < v26.length)) (f20_1 F x49 (v26.getD (0 + x49.toNat) ByteArray.empty) v32 v33 v34 v35 v36 v37 v38 v39 v40 v41 v42 v43 v44 v45 (fun x89 => cond (decide ((v46.length + 1) * 8 ≤ 70368744177664)) (cond (x89 != 0) (K0 v36 v37 v38 v44 v45 x87 x50 [x49] (v46 ++ [x49])) (f3_1_l12 F v18 v20 v21 v22 v23 v24 v25 v26 v27 v28 v29 v30 v31 v32 v33 v34 v35 v39 v40 v41 v42 v43 K0 K1 K2 K3 K4 K5 k (IntKind.i64.wrap (v19 + 1)) v36 v37 v38 v44 v45 (v46 ++ [x49]))) none) (fun x90 x91 => cond (decide ((v46.length + 1) * 8 ≤ 70368744177664)) (f3_1_l12 F v18 v20 v21 v22 v23 v24 v25 v26 v27 v28 v29 v30 v31 v32 v33 v34 v35 v39 v40 v41 v42 v43 K0 K1 K2 K3 K4 K5 k (IntKind.i64.wrap (v19 + 1)) v36 v37 x90 v44 x91 (v46 ++ [x49])) none) ) none) none) (cond (x88 != 0) (K1 v36 v37 v38 v44 v45 v46 x87 x50) (f3_1_l12 F v18 v20 v21 v22 v23 v24 v25 v26 v27 v28 v29 v30 v31 v32 v33 v34 v35 v39 v40 v41 v42 v43 K0 K1 K2 K3 K4 K5 k (IntKind.i64.wrap (v19 + 1)) v36 v37 v38 v44 v45 v46))) (cond (x88 != 0) (K1 v36 v37 v38 v44 v45 v46 x87 x50) (f3_1_l12 F v18 v20 v21 v22 v23 v24 v25 v26 v27 v28 v29 v30 v31 v32 v33 v34 v35 v39 v40 v41 v42 v43 K0 K1 K2 K3 K4 K5 k (IntKind.i64.wrap (v19 + 1)) v36 v37 v38 v44 v45 v46))) (cond (x88 != 0) (K1 v36 v37 v38 v44 v45 v46 x87 x50) (f3_1_l12 F v18 v20 v21 v22 v23 v24 v25 v26 v27 v28 v29 v30 v31 v32 v33 v34 v35 v39 v40 v41 v42 v43 K0 K1 K2 K3 K4 K5 k (IntKind.i64.wrap (v19 + 1)) v36 v37 v38 v44 v45 v46))) (fun x92 x93 x94 x95 => cond (x48 == 2) (cond (decide (x49 ≥ 0)) (cond (decide (x49 < ((v26.length : Nat) : Int))) (cond (decide ((0 : Int) ≤ x49 ∧ x49 < ((v26.length : Nat) : Int))) (cond (decide (0 + x49.toNat < v26.length)) (f20_1 F x49 (v26.getD (0 + x49.toNat) ByteArray.empty) v32 v33 v34 v35 x92 x93 v38 v39 v40 v41 v42 v43 x94 x95 (fun x96 => cond (decide ((v46.length + 1) * 8 ≤ 70368744177664)) (cond (x96 != 0) (K2 x92 x93 v38 x87 x50 x94 x95 [x49] (v46 ++ [x49])) (f3_1_l12 F v18 v20 v21 v22 v23 v24 v25 v26 v27 v28 v29 v30 v31 v32 v33 v34 v35 v39 v40 v41 v42 v43 K0 K1 K2 K3 K4 K5 k (IntKind.i64.wrap (v19 + 1)) x92 x93 v38 x94 x95 (v46 ++ [x49]))) none) (fun x97 x98 => cond (decide ((v46.length + 1) * 8 ≤ 70368744177664)) (f3_1_l12 F v18 v20 v21 v22 v23 v24 v25 v26 v27 v28 v29 v30 v31 v32 v33 v34 v35 v39 v40 v41 v42 v43 K0 K1 K2 K3 K4 K5 k (IntKind.i64.wrap (v19 + 1)) x92 x93 x97 x94 x98 (v46 ++ [x49])) none) ) none) none) (f3_1_l12 F v18 v20 v21 v22 v23 v24 v25 v26 v27 v28 v29 v30 v31 v32 v33 v34 v35 v39 v40 v41 v42 v43 K0 K1 K2 K3 K4 K5 k (IntKind.i64.wrap (v19 + 1)) x92 x93 v38 x94 x95 v46)) (f3_1_l12 F v18 v20 v21 v22 v23 v24 v25 v26 v27 v28 v29 v30 v31 v32 v33 v34 v35 v39 v40 v41 v42 v43 K0 K1 K2 K3 K4 K5 k (IntKind.i64.wrap (v19 + 1)) x92 x93 v38 x94 x95 v46)) (f3_1_l12 F v18 v20 v21 v22 v23 v24 v25 v26 v27 v28 v29 v30 v31 v32 v33 v34 v35 v39 v40 v41 v42 v43 K0 K1 K2 K3 K4 K5 k (IntKind.i64.wrap (v19 + 1)) x92 x93 v38 x94 x95 v46)) ) F 0 []) ) (cond (x48 == 2) (cond (decide (x49 ≥ 0)) (cond (decide (x49 < ((v26.length : Nat) : Int))) (cond (decide ((0 : Int) ≤ x49 ∧ x49 < ((v26.length : Nat) : Int))) (cond (decide (0 + x49.toNat < v26.length)) (f20_1 F x49 (v26.getD (0 + x49.toNat) ByteArray.empty) v32 v33 v34 v35 v36 v37 v38 v39 v40 v41 v42 v43 v44 v45 (fun x99 => cond (decide ((v46.length + 1) * 8 ≤ 70368744177664)) (cond (x99 != 0) (K3 v36 v37 v38 v44 v45 [x49] (v46 ++ [x49])) (f3_1_l12 F v18 v20 v21 v22 v23 v24 v25 v26 v27 v28 v29 v30 v31 v32 v33 v34 v35 v39 v40 v41 v42 v43 K0 K1 K2 K3 K4 K5 k (IntKind.i64.wrap (v19 + 1)) v36 v37 v38 v44 v45 (v46 ++ [x49]))) none) (fun x100 x101 => cond (decide ((v46.length + 1) * 8 ≤ 70368744177664)) (f3_1_l12 F v18 v20 v21 v22 v23 v24 v25 v26 v27 v28 v29 v30 v31 v32 v33 v34 v35 v39 v40 v41 v42 v43 K0 K1 K2 K3 K4 K5 k (IntKind.i64.wrap (v19 + 1)) v36 v37 x100 v44 x101 (v46 ++ [x49])) none) ) none) none) (K4 v36 v37 v38 v44 v45 v46)) (K4 v36 v37 v38 v44 v45 v46)) (K4 v36 v37 v38 v44 v45 v46))) ) (K5 v36 v37 v38 v44 v45 v46)) ) (K5 v36 v37 v38 v44 v45 v46)
noncomputable def f3_1 {β : Type} (F : Nat) (a1 : Int) (a2 : Int) (a3 : Int) (a4 : Int) (a5 : List Int) (a6 : List Int) (K0 : Bool → Option β) : Option β := cond (decide (a1 > 30)) (f8_1 F  (fun x1 => K0 x1) ) (f7_1 F a1 a2 a3 a4 (fun x2 => cond (!x2) (f8_1 F  (fun x3 => K0 x3) ) (f9_1 F a1 a2 a3 a4 a6 (fun x4 => f9_1 F a1 a2 a3 a4 a5 (fun x5 => f10_1 F a1 a2 a3 a4 x5 (fun x6 => f11_1 F a1 a2 a3 a4 x4 (fun x7 => f13_568 F  ) (fun x8 => f13_1 F a1 a2 a3 a4 x8 (fun x9 => f12_115 F x9 (K0 false) ) ) ) (fun x10 => f11_1 F a1 a2 a3 a4 x4 (fun x11 => f13_568 F  ) (fun x12 => f13_1 F a1 a2 a3 a4 x12 (fun x13 => f12_1 F x13 a1 a2 a3 a4 x10 (K0 false) (fun x14 x15 x16 => f14_1 F a1 a2 a3 a4 (fun x17 => f3_1_l12 F x17 a5 a6 a1 a2 a3 a4 x4 a1 a2 a3 a4 x12 a1 a2 a3 a4 a1 a2 a3 a4 x14 (fun x102 x103 x104 x105 x106 x107 x108 x109 x110 => K0 false) (fun x111 x112 x113 x114 x115 x116 x117 x118 => K0 false) (fun x119 x120 x121 x122 x123 x124 x125 x126 x127 => K0 false) (fun x128 x129 x130 x131 x132 x133 x134 => K0 false) (fun x135 x136 x137 x138 x139 x140 => K0 false) (fun x141 x142 x143 x144 x145 x146 => f9_1 F a1 a2 a3 a4 a5 (fun x147 => f11_1 F a1 a2 a3 a4 x147 (fun x148 => f21_1545 F a1 a2 a3 a4 x12 ) (fun x149 => f21_1 F a1 a2 a3 a4 x149 a1 a2 a3 a4 x12 (fun x150 x151 x152 => f22_1 F a1 a2 a3 a4 x141 x142 x143 a1 a2 a3 a4 x14 x144 x145 (f15_1 F a1 a2 a3 a4 x141 x142 x143 a1 a2 a3 a4 x14 x144 x145 (fun x153 => cond x153 (f23_1 F x146 x152 (fun x154 => cond x154 (cond (x143 == ((x152.length : Nat) : Int)) (f24_1 F a1 a2 a3 a4 (fun x155 => cond (decide (x142 ≤ IntKind.i64.wrap ((IntKind.i64.wrap (a2 * x155)) * ((x152.length : Nat) : Int)))) (f8_1 F  (fun x156 => K0 x156) ) (K0 false)) ) (K0 false)) (K0 false)) ) (K0 false)) ) ) ) ) ) F 0 0 0 0 x15 x16 []) ) ) ) ) ) ) )) )
variable [FZ]
def sh3_1 : Sh := ⟨[.agg [.int .i64, .int .i64, .int .i64, .int .i64], .lf (.full 0), .lf (.full 1)], [some ⟨none, [.seq (.int .u8) 0]⟩, some ⟨none, [.seq (.int .u8) 0]⟩]⟩
noncomputable def S3_1 (F : Nat) (o : Summ) : Summ := mkS sh3_1 (fun d K => f3_1 F d.1.1.1 d.1.1.2.1 d.1.1.2.2.1 d.1.1.2.2.2.1 d.2.1.2.1 d.2.2.1.2.1 (fun (y0 : Bool) => K [.lf (.bool y0)] [some ⟨d.2.1.1, [.seq (.int .u8) 0 d.2.1.2.1]⟩, some ⟨d.2.2.1.1, [.seq (.int .u8) 0 d.2.2.1.2.1]⟩])) o
noncomputable def code3 : Code := bodyOf Try.f3
noncomputable def b3_0 : Code := cB (cB (cR (cL (cR (cR (cR (cR (cR (cR (cR (cR (cR (code3)))))))))))))
noncomputable def b3_1 : Code := cB (cB (cR (cL (cR (cR (cT (cR (cL (cR (cR (cB (cL (cR (cB (cB (cR (cL (cR (cR (cR (cR (cR (cR (cR (cR (cR (code3)))))))))))))))))))))))))))
theorem scopes3 : scopesOf code3 = [] := by kernel_rfl
theorem ranges3 : rangesOf code3 = [] := by kernel_rfl
theorem loops3 : loopsOf code3 = [b3_0, b3_1] := by kernel_rfl
theorem enter3 : ∀ args w, (callFunc 3 args).run Try.prog w = .ok (.enter 3 args) w := enter_of (fn := Try.f3) (by kernel_rfl) (by kernel_rfl) (by kernel_rfl)
noncomputable def T3_1 (F : Nat) : FuncId → Option Summ := tab [(7, (S7_1 F noS)), (8, (S8_1 F noS)), (9, (S9_1 F noS)), (10, (S10_1 F noS)), (11, (S11_1 F noS)), (12, (S12_1 F (S12_115 F noS))), (13, (S13_1 F (S13_568 F noS))), (14, (S14_1 F noS)), (15, (S15_1 F noS)), (16, (S16_1 F noS)), (17, (S17_1 F noS)), (18, (S18_1 F noS)), (19, (S19_1 F noS)), (20, (S20_1 F noS)), (21, (S21_1 F (S21_1545 F noS))), (22, (S22_1 F noS)), (23, (S23_1 F noS)), (24, (S24_1 F noS))]
def sh3_1_l20 : Sh := ⟨[.lf (.full 0), .lf (.ptr 2 0), .lf (.full 3), .lf (.ptr 4 0), .lf (.ptr 6 0), .lf (.full 11), .lf (.int .i64), .lf (.int .i64), .lf (.int .i64), .lf (.int .i64), .lf (.full 12), .lf (.full 13), .lf (.int .i64)], [some ⟨none, [.seq (.int .u8) 0]⟩, some ⟨none, [.seq (.int .u8) 0]⟩, some ⟨some false, [.int .i64, .int .i64, .int .i64, .int .i64]⟩, some ⟨some false, [.seq .str 0]⟩, some ⟨some false, [.int .i64, .int .i64, .int .i64, .int .i64, .full 5]⟩, some ⟨some false, [.seq .str 0]⟩, some ⟨some false, [.int .i64, .int .i64, .int .i64, .int .i64, .ptr 7 0, .full 9, .full 10, .int .i64, .int .i64, .int .i64]⟩, some ⟨some false, [.int .i64, .int .i64, .int .i64, .int .i64, .full 8]⟩, some ⟨some false, [.seq .str 0]⟩, some ⟨some false, [.seq (.pair (.int .i64) .str) 0]⟩, some ⟨some false, [.seq (.pair (.int .i64) .str) 0]⟩, some ⟨some false, [.seq (.int .i64) 0]⟩, some ⟨some false, [.seq .str 0]⟩, some ⟨some false, [.seq (.int .i64) 0]⟩]⟩
def sh3_1_l12 : Sh := ⟨[.lf (.full 0), .lf (.ptr 2 0), .lf (.full 3), .lf (.ptr 4 0), .lf (.ptr 6 0), .lf (.full 11), .lf (.int .i64), .lf (.int .i64)], [some ⟨none, [.seq (.int .u8) 0]⟩, some ⟨none, [.seq (.int .u8) 0]⟩, some ⟨some false, [.int .i64, .int .i64, .int .i64, .int .i64]⟩, some ⟨some false, [.seq .str 0]⟩, some ⟨some false, [.int .i64, .int .i64, .int .i64, .int .i64, .full 5]⟩, some ⟨some false, [.seq .str 0]⟩, some ⟨some false, [.int .i64, .int .i64, .int .i64, .int .i64, .ptr 7 0, .full 9, .full 10, .int .i64, .int .i64, .int .i64]⟩, some ⟨some false, [.int .i64, .int .i64, .int .i64, .int .i64, .full 8]⟩, some ⟨some false, [.seq .str 0]⟩, some ⟨some false, [.seq (.pair (.int .i64) .str) 0]⟩, some ⟨some false, [.seq (.pair (.int .i64) .str) 0]⟩, some ⟨some false, [.seq (.int .i64) 0]⟩]⟩
noncomputable def G3_1_20 (F k : Nat) : LoopS := mkG sh3_1_l20 [1, 3, 7, 10, 12, 14, 15, 16, 17, 18, 20, 21, 22] (outT [(.exit 2, [1, 3, 7, 10, 12, 14, 15, 16, 17, 18, 20])]) (fun d K => f3_1_l20 F d.1.2.2.2.2.2.2.1 d.1.2.2.2.2.2.2.2.1 d.1.2.2.2.2.2.2.2.2.1 d.1.2.2.2.2.2.2.2.2.2.1 d.2.1.2.1 d.2.2.1.2.1 d.2.2.2.1.2.1 d.2.2.2.1.2.2.1 d.2.2.2.1.2.2.2.1 d.2.2.2.1.2.2.2.2.1 d.2.2.2.2.1.2.1 d.2.2.2.2.2.1.2.1 d.2.2.2.2.2.1.2.2.1 d.2.2.2.2.2.1.2.2.2.1 d.2.2.2.2.2.1.2.2.2.2.1 d.2.2.2.2.2.2.1.2.1 d.2.2.2.2.2.2.2.1.2.1 d.2.2.2.2.2.2.2.1.2.2.1 d.2.2.2.2.2.2.2.1.2.2.2.1 d.2.2.2.2.2.2.2.1.2.2.2.2.1 d.2.2.2.2.2.2.2.1.2.2.2.2.2.2.2.2.1 d.2.2.2.2.2.2.2.1.2.2.2.2.2.2.2.2.2.1 d.2.2.2.2.2.2.2.1.2.2.2.2.2.2.2.2.2.2.1 d.2.2.2.2.2.2.2.2.1.2.1 d.2.2.2.2.2.2.2.2.1.2.2.1 d.2.2.2.2.2.2.2.2.1.2.2.2.1 d.2.2.2.2.2.2.2.2.1.2.2.2.2.1 d.2.2.2.2.2.2.2.2.2.1.2.1 d.2.2.2.2.2.2.2.2.2.2.1.2.1 d.2.2.2.2.2.2.2.2.2.2.2.1.2.1 d.2.2.2.2.2.2.2.2.2.2.2.2.1.2.1 d.2.2.2.2.2.2.2.2.2.2.2.2.2.2.1.2.1 (fun (y31 : List ByteArray) => K (.exit 2) [.tv (.lf (.full 0)), .tv (.lf (.ptr 2 0)), .tv (.lf (.full 3)), .tv (.lf (.ptr 4 0)), .tv (.lf (.ptr 6 0)), .tv (.lf (.full 11)), .tv (.lf (.int .i64 d.1.2.2.2.2.2.2.1)), .tv (.lf (.int .i64 d.1.2.2.2.2.2.2.2.1)), .tv (.lf (.int .i64 d.1.2.2.2.2.2.2.2.2.1)), .tv (.lf (.int .i64 d.1.2.2.2.2.2.2.2.2.2.1)), .tv (.lf (.full 12))] [some ⟨d.2.1.1, [.seq (.int .u8) 0 d.2.1.2.1]⟩, some ⟨d.2.2.1.1, [.seq (.int .u8) 0 d.2.2.1.2.1]⟩, some ⟨false, [.int .i64 d.2.2.2.1.2.1, .int .i64 d.2.2.2.1.2.2.1, .int .i64 d.2.2.2.1.2.2.2.1, .int .i64 d.2.2.2.1.2.2.2.2.1]⟩, some ⟨false, [.seq .str 0 d.2.2.2.2.1.2.1]⟩, some ⟨false, [.int .i64 d.2.2.2.2.2.1.2.1, .int .i64 d.2.2.2.2.2.1.2.2.1, .int .i64 d.2.2.2.2.2.1.2.2.2.1, .int .i64 d.2.2.2.2.2.1.2.2.2.2.1, .full 5]⟩, some ⟨false, [.seq .str 0 d.2.2.2.2.2.2.1.2.1]⟩, some ⟨false, [.int .i64 d.2.2.2.2.2.2.2.1.2.1, .int .i64 d.2.2.2.2.2.2.2.1.2.2.1, .int .i64 d.2.2.2.2.2.2.2.1.2.2.2.1, .int .i64 d.2.2.2.2.2.2.2.1.2.2.2.2.1, .ptr 7 0, .full 9, .full 10, .int .i64 d.2.2.2.2.2.2.2.1.2.2.2.2.2.2.2.2.1, .int .i64 d.2.2.2.2.2.2.2.1.2.2.2.2.2.2.2.2.2.1, .int .i64 d.2.2.2.2.2.2.2.1.2.2.2.2.2.2.2.2.2.2.1]⟩, some ⟨false, [.int .i64 d.2.2.2.2.2.2.2.2.1.2.1, .int .i64 d.2.2.2.2.2.2.2.2.1.2.2.1, .int .i64 d.2.2.2.2.2.2.2.2.1.2.2.2.1, .int .i64 d.2.2.2.2.2.2.2.2.1.2.2.2.2.1, .full 8]⟩, some ⟨false, [.seq .str 0 d.2.2.2.2.2.2.2.2.2.1.2.1]⟩, some ⟨false, [.seq (.pair (.int .i64) .str) 0 d.2.2.2.2.2.2.2.2.2.2.1.2.1]⟩, some ⟨false, [.seq (.pair (.int .i64) .str) 0 d.2.2.2.2.2.2.2.2.2.2.2.1.2.1]⟩, some ⟨false, [.seq (.int .i64) 0 d.2.2.2.2.2.2.2.2.2.2.2.2.1.2.1]⟩, some ⟨false, [.seq .str 0 y31]⟩, some ⟨false, [.seq (.int .i64) 0 d.2.2.2.2.2.2.2.2.2.2.2.2.2.2.1.2.1]⟩]) k d.1.2.2.2.2.2.2.2.2.2.2.2.2.1 d.2.2.2.2.2.2.2.2.2.2.2.2.2.1.2.1) []
noncomputable def G3_1_12 (F k : Nat) : LoopS := mkG sh3_1_l12 [1, 3, 7, 10, 12, 14, 15, 16] (outT [(.exit 0, [1, 3, 10, 12, 14]), (.ret, [6])]) (fun d K => f3_1_l12 F d.1.2.2.2.2.2.2.1 d.2.1.2.1 d.2.2.1.2.1 d.2.2.2.1.2.1 d.2.2.2.1.2.2.1 d.2.2.2.1.2.2.2.1 d.2.2.2.1.2.2.2.2.1 d.2.2.2.2.1.2.1 d.2.2.2.2.2.1.2.1 d.2.2.2.2.2.1.2.2.1 d.2.2.2.2.2.1.2.2.2.1 d.2.2.2.2.2.1.2.2.2.2.1 d.2.2.2.2.2.2.1.2.1 d.2.2.2.2.2.2.2.1.2.1 d.2.2.2.2.2.2.2.1.2.2.1 d.2.2.2.2.2.2.2.1.2.2.2.1 d.2.2.2.2.2.2.2.1.2.2.2.2.1 d.2.2.2.2.2.2.2.2.1.2.1 d.2.2.2.2.2.2.2.2.1.2.2.1 d.2.2.2.2.2.2.2.2.1.2.2.2.1 d.2.2.2.2.2.2.2.2.1.2.2.2.2.1 d.2.2.2.2.2.2.2.2.2.1.2.1 (fun (y17 : Int) (y18 : Int) (y19 : Int) (y25 : List (Int × ByteArray)) (y26 : List (Int × ByteArray)) (y27 : List ByteArray) (y28 : List Int) (y29 : List Int) (y30 : List Int) => K .ret [.tv (.lf (.bool false))] [some ⟨d.2.1.1, [.seq (.int .u8) 0 d.2.1.2.1]⟩, some ⟨d.2.2.1.1, [.seq (.int .u8) 0 d.2.2.1.2.1]⟩, some ⟨false, [.int .i64 d.2.2.2.1.2.1, .int .i64 d.2.2.2.1.2.2.1, .int .i64 d.2.2.2.1.2.2.2.1, .int .i64 d.2.2.2.1.2.2.2.2.1]⟩, some ⟨false, [.seq .str 0 d.2.2.2.2.1.2.1]⟩, some ⟨false, [.int .i64 d.2.2.2.2.2.1.2.1, .int .i64 d.2.2.2.2.2.1.2.2.1, .int .i64 d.2.2.2.2.2.1.2.2.2.1, .int .i64 d.2.2.2.2.2.1.2.2.2.2.1, .full 5]⟩, some ⟨false, [.seq .str 0 d.2.2.2.2.2.2.1.2.1]⟩, some ⟨false, [.int .i64 d.2.2.2.2.2.2.2.1.2.1, .int .i64 d.2.2.2.2.2.2.2.1.2.2.1, .int .i64 d.2.2.2.2.2.2.2.1.2.2.2.1, .int .i64 d.2.2.2.2.2.2.2.1.2.2.2.2.1, .ptr 7 0, .full 9, .full 10, .int .i64 y17, .int .i64 y18, .int .i64 y19]⟩, some ⟨false, [.int .i64 d.2.2.2.2.2.2.2.2.1.2.1, .int .i64 d.2.2.2.2.2.2.2.2.1.2.2.1, .int .i64 d.2.2.2.2.2.2.2.2.1.2.2.2.1, .int .i64 d.2.2.2.2.2.2.2.2.1.2.2.2.2.1, .full 8]⟩, some ⟨false, [.seq .str 0 d.2.2.2.2.2.2.2.2.2.1.2.1]⟩, some ⟨false, [.seq (.pair (.int .i64) .str) 0 y25]⟩, some ⟨false, [.seq (.pair (.int .i64) .str) 0 y26]⟩, none, some ⟨false, [.seq .str 0 y27]⟩, some ⟨false, [.seq (.int .i64) 0 y28]⟩, some ⟨false, [.seq (.int .i64) 0 y29]⟩, some ⟨false, [.seq (.int .i64) 0 y30]⟩]) (fun (y17 : Int) (y18 : Int) (y19 : Int) (y25 : List (Int × ByteArray)) (y26 : List (Int × ByteArray)) (y27 : List Int) (y28 : List ByteArray) (y29 : List Int) => K .ret [.tv (.lf (.bool false))] [some ⟨d.2.1.1, [.seq (.int .u8) 0 d.2.1.2.1]⟩, some ⟨d.2.2.1.1, [.seq (.int .u8) 0 d.2.2.1.2.1]⟩, some ⟨false, [.int .i64 d.2.2.2.1.2.1, .int .i64 d.2.2.2.1.2.2.1, .int .i64 d.2.2.2.1.2.2.2.1, .int .i64 d.2.2.2.1.2.2.2.2.1]⟩, some ⟨false, [.seq .str 0 d.2.2.2.2.1.2.1]⟩, some ⟨false, [.int .i64 d.2.2.2.2.2.1.2.1, .int .i64 d.2.2.2.2.2.1.2.2.1, .int .i64 d.2.2.2.2.2.1.2.2.2.1, .int .i64 d.2.2.2.2.2.1.2.2.2.2.1, .full 5]⟩, some ⟨false, [.seq .str 0 d.2.2.2.2.2.2.1.2.1]⟩, some ⟨false, [.int .i64 d.2.2.2.2.2.2.2.1.2.1, .int .i64 d.2.2.2.2.2.2.2.1.2.2.1, .int .i64 d.2.2.2.2.2.2.2.1.2.2.2.1, .int .i64 d.2.2.2.2.2.2.2.1.2.2.2.2.1, .ptr 7 0, .full 9, .full 10, .int .i64 y17, .int .i64 y18, .int .i64 y19]⟩, some ⟨false, [.int .i64 d.2.2.2.2.2.2.2.2.1.2.1, .int .i64 d.2.2.2.2.2.2.2.2.1.2.2.1, .int .i64 d.2.2.2.2.2.2.2.2.1.2.2.2.1, .int .i64 d.2.2.2.2.2.2.2.2.1.2.2.2.2.1, .full 8]⟩, some ⟨false, [.seq .str 0 d.2.2.2.2.2.2.2.2.2.1.2.1]⟩, some ⟨false, [.seq (.pair (.int .i64) .str) 0 y25]⟩, some ⟨false, [.seq (.pair (.int .i64) .str) 0 y26]⟩, some ⟨false, [.seq (.int .i64) 0 y27]⟩, some ⟨false, [.seq .str 0 y28]⟩, some ⟨false, [.seq (.int .i64) 0 y29]⟩]) (fun (y17 : Int) (y18 : Int) (y19 : Int) (y25 : List ByteArray) (y26 : List Int) (y27 : List (Int × ByteArray)) (y28 : List (Int × ByteArray)) (y29 : List Int) (y30 : List Int) => K .ret [.tv (.lf (.bool false))] [some ⟨d.2.1.1, [.seq (.int .u8) 0 d.2.1.2.1]⟩, some ⟨d.2.2.1.1, [.seq (.int .u8) 0 d.2.2.1.2.1]⟩, some ⟨false, [.int .i64 d.2.2.2.1.2.1, .int .i64 d.2.2.2.1.2.2.1, .int .i64 d.2.2.2.1.2.2.2.1, .int .i64 d.2.2.2.1.2.2.2.2.1]⟩, some ⟨false, [.seq .str 0 d.2.2.2.2.1.2.1]⟩, some ⟨false, [.int .i64 d.2.2.2.2.2.1.2.1, .int .i64 d.2.2.2.2.2.1.2.2.1, .int .i64 d.2.2.2.2.2.1.2.2.2.1, .int .i64 d.2.2.2.2.2.1.2.2.2.2.1, .full 5]⟩, some ⟨false, [.seq .str 0 d.2.2.2.2.2.2.1.2.1]⟩, some ⟨false, [.int .i64 d.2.2.2.2.2.2.2.1.2.1, .int .i64 d.2.2.2.2.2.2.2.1.2.2.1, .int .i64 d.2.2.2.2.2.2.2.1.2.2.2.1, .int .i64 d.2.2.2.2.2.2.2.1.2.2.2.2.1, .ptr 7 0, .full 14, .full 15, .int .i64 y17, .int .i64 y18, .int .i64 y19]⟩, some ⟨false, [.int .i64 d.2.2.2.2.2.2.2.2.1.2.1, .int .i64 d.2.2.2.2.2.2.2.2.1.2.2.1, .int .i64 d.2.2.2.2.2.2.2.2.1.2.2.2.1, .int .i64 d.2.2.2.2.2.2.2.2.1.2.2.2.2.1, .full 8]⟩, some ⟨false, [.seq .str 0 d.2.2.2.2.2.2.2.2.2.1.2.1]⟩, none, none, none, some ⟨false, [.seq .str 0 y25]⟩, some ⟨false, [.seq (.int .i64) 0 y26]⟩, some ⟨false, [.seq (.pair (.int .i64) .str) 0 y27]⟩, some ⟨false, [.seq (.pair (.int .i64) .str) 0 y28]⟩, some ⟨false, [.seq (.int .i64) 0 y29]⟩, some ⟨false, [.seq (.int .i64) 0 y30]⟩]) (fun (y17 : Int) (y18 : Int) (y19 : Int) (y25 : List (Int × ByteArray)) (y26 : List (Int × ByteArray)) (y27 : List Int) (y28 : List Int) => K .ret [.tv (.lf (.bool false))] [some ⟨d.2.1.1, [.seq (.int .u8) 0 d.2.1.2.1]⟩, some ⟨d.2.2.1.1, [.seq (.int .u8) 0 d.2.2.1.2.1]⟩, some ⟨false, [.int .i64 d.2.2.2.1.2.1, .int .i64 d.2.2.2.1.2.2.1, .int .i64 d.2.2.2.1.2.2.2.1, .int .i64 d.2.2.2.1.2.2.2.2.1]⟩, some ⟨false, [.seq .str 0 d.2.2.2.2.1.2.1]⟩, some ⟨false, [.int .i64 d.2.2.2.2.2.1.2.1, .int .i64 d.2.2.2.2.2.1.2.2.1, .int .i64 d.2.2.2.2.2.1.2.2.2.1, .int .i64 d.2.2.2.2.2.1.2.2.2.2.1, .full 5]⟩, some ⟨false, [.seq .str 0 d.2.2.2.2.2.2.1.2.1]⟩, some ⟨false, [.int .i64 d.2.2.2.2.2.2.2.1.2.1, .int .i64 d.2.2.2.2.2.2.2.1.2.2.1, .int .i64 d.2.2.2.2.2.2.2.1.2.2.2.1, .int .i64 d.2.2.2.2.2.2.2.1.2.2.2.2.1, .ptr 7 0, .full 9, .full 10, .int .i64 y17, .int .i64 y18, .int .i64 y19]⟩, some ⟨false, [.int .i64 d.2.2.2.2.2.2.2.2.1.2.1, .int .i64 d.2.2.2.2.2.2.2.2.1.2.2.1, .int .i64 d.2.2.2.2.2.2.2.2.1.2.2.2.1, .int .i64 d.2.2.2.2.2.2.2.2.1.2.2.2.2.1, .full 8]⟩, some ⟨false, [.seq .str 0 d.2.2.2.2.2.2.2.2.2.1.2.1]⟩, some ⟨false, [.seq (.pair (.int .i64) .str) 0 y25]⟩, some ⟨false, [.seq (.pair (.int .i64) .str) 0 y26]⟩, none, some ⟨false, [.seq (.int .i64) 0 y27]⟩, some ⟨false, [.seq (.int .i64) 0 y28]⟩]) (fun (y17 : Int) (y18 : Int) (y19 : Int) (y25 : List (Int × ByteArray)) (y26 : List (Int × ByteArray)) (y27 : List Int) => K .ret [.tv (.lf (.bool false))] [some ⟨d.2.1.1, [.seq (.int .u8) 0 d.2.1.2.1]⟩, some ⟨d.2.2.1.1, [.seq (.int .u8) 0 d.2.2.1.2.1]⟩, some ⟨false, [.int .i64 d.2.2.2.1.2.1, .int .i64 d.2.2.2.1.2.2.1, .int .i64 d.2.2.2.1.2.2.2.1, .int .i64 d.2.2.2.1.2.2.2.2.1]⟩, some ⟨false, [.seq .str 0 d.2.2.2.2.1.2.1]⟩, some ⟨false, [.int .i64 d.2.2.2.2.2.1.2.1, .int .i64 d.2.2.2.2.2.1.2.2.1, .int .i64 d.2.2.2.2.2.1.2.2.2.1, .int .i64 d.2.2.2.2.2.1.2.2.2.2.1, .full 5]⟩, some ⟨false, [.seq .str 0 d.2.2.2.2.2.2.1.2.1]⟩, some ⟨false, [.int .i64 d.2.2.2.2.2.2.2.1.2.1, .int .i64 d.2.2.2.2.2.2.2.1.2.2.1, .int .i64 d.2.2.2.2.2.2.2.1.2.2.2.1, .int .i64 d.2.2.2.2.2.2.2.1.2.2.2.2.1, .ptr 7 0, .full 9, .full 10, .int .i64 y17, .int .i64 y18, .int .i64 y19]⟩, some ⟨false, [.int .i64 d.2.2.2.2.2.2.2.2.1.2.1, .int .i64 d.2.2.2.2.2.2.2.2.1.2.2.1, .int .i64 d.2.2.2.2.2.2.2.2.1.2.2.2.1, .int .i64 d.2.2.2.2.2.2.2.2.1.2.2.2.2.1, .full 8]⟩, some ⟨false, [.seq .str 0 d.2.2.2.2.2.2.2.2.2.1.2.1]⟩, some ⟨false, [.seq (.pair (.int .i64) .str) 0 y25]⟩, some ⟨false, [.seq (.pair (.int .i64) .str) 0 y26]⟩, some ⟨false, [.seq (.int .i64) 0 y27]⟩]) (fun (y16 : Int) (y17 : Int) (y18 : Int) (y24 : List (Int × ByteArray)) (y25 : List (Int × ByteArray)) (y26 : List Int) => K (.exit 0) [.tv (.lf (.full 0)), .tv (.lf (.ptr 2 0)), .tv (.lf (.ptr 4 0)), .tv (.lf (.ptr 6 0)), .tv (.lf (.full 11))] [some ⟨d.2.1.1, [.seq (.int .u8) 0 d.2.1.2.1]⟩, some ⟨d.2.2.1.1, [.seq (.int .u8) 0 d.2.2.1.2.1]⟩, some ⟨false, [.int .i64 d.2.2.2.1.2.1, .int .i64 d.2.2.2.1.2.2.1, .int .i64 d.2.2.2.1.2.2.2.1, .int .i64 d.2.2.2.1.2.2.2.2.1]⟩, some ⟨false, [.seq .str 0 d.2.2.2.2.1.2.1]⟩, some ⟨false, [.int .i64 d.2.2.2.2.2.1.2.1, .int .i64 d.2.2.2.2.2.1.2.2.1, .int .i64 d.2.2.2.2.2.1.2.2.2.1, .int .i64 d.2.2.2.2.2.1.2.2.2.2.1, .full 5]⟩, some ⟨false, [.seq .str 0 d.2.2.2.2.2.2.1.2.1]⟩, some ⟨false, [.int .i64 d.2.2.2.2.2.2.2.1.2.1, .int .i64 d.2.2.2.2.2.2.2.1.2.2.1, .int .i64 d.2.2.2.2.2.2.2.1.2.2.2.1, .int .i64 d.2.2.2.2.2.2.2.1.2.2.2.2.1, .ptr 7 0, .full 9, .full 10, .int .i64 y16, .int .i64 y17, .int .i64 y18]⟩, some ⟨false, [.int .i64 d.2.2.2.2.2.2.2.2.1.2.1, .int .i64 d.2.2.2.2.2.2.2.2.1.2.2.1, .int .i64 d.2.2.2.2.2.2.2.2.1.2.2.2.1, .int .i64 d.2.2.2.2.2.2.2.2.1.2.2.2.2.1, .full 8]⟩, some ⟨false, [.seq .str 0 d.2.2.2.2.2.2.2.2.2.1.2.1]⟩, some ⟨false, [.seq (.pair (.int .i64) .str) 0 y24]⟩, some ⟨false, [.seq (.pair (.int .i64) .str) 0 y25]⟩, some ⟨false, [.seq (.int .i64) 0 y26]⟩]) k d.1.2.2.2.2.2.2.2.1 d.2.2.2.2.2.2.2.1.2.2.2.2.2.2.2.2.1 d.2.2.2.2.2.2.2.1.2.2.2.2.2.2.2.2.2.1 d.2.2.2.2.2.2.2.1.2.2.2.2.2.2.2.2.2.2.1 d.2.2.2.2.2.2.2.2.2.2.1.2.1 d.2.2.2.2.2.2.2.2.2.2.2.1.2.1 d.2.2.2.2.2.2.2.2.2.2.2.2.1.2.1) []
noncomputable def LT3_1 (F : Nat) : Nat → Option LoopS := ltab [(20, G3_1_20 F F), (12, G3_1_12 F F)]
theorem L3_1_l20g (F k : Nat) (c7_1 : Int → Int → Int → Int → (Bool → Option Res) → Option Res) (c8_1 : (Bool → Option Res) → Option Res) (c9_1 : Int → Int → Int → Int → List Int → (List ByteArray → Option Res) → Option Res) (c10_1 : Int → Int → Int → Int → List ByteArray → (Int → Option Res) → (List ByteArray → Option Res) → Option Res) (c11_1 : Int → Int → Int → Int → List ByteArray → (Int → Option Res) → (List ByteArray → Option Res) → Option Res) (c12_1 : ByteArray → Int → Int → Int → Int → List ByteArray → (Option Res) → (List ByteArray → List (Int × ByteArray) → List (Int × ByteArray) → Option Res) → Option Res) (c12_115 : ByteArray → (Option Res) → Option Res) (c13_1 : Int → Int → Int → Int → List ByteArray → (ByteArray → Option Res) → Option Res) (c13_568 : Option Res) (c14_1 : Int → Int → Int → Int → (Int → Option Res) → Option Res) (c15_1 : Int → Int → Int → Int → Int → Int → Int → Int → Int → Int → Int → List ByteArray → List (Int × ByteArray) → List (Int × ByteArray) → (Bool → Option Res) → Option Res) (c16_1 : Int → Int → Int → Int → Int → Int → Int → Int → Int → Int → Int → List ByteArray → List (Int × ByteArray) → List (Int × ByteArray) → (Int → Int → Option Res) → Option Res) (c17_1 : Int → Int → Int → Int → Int → (List Int → Option Res) → Option Res) (c18_1 : Int → Int → Int → Int → Int → List ByteArray → (ByteArray → Int → Option Res) → Option Res) (c19_1 : Int → Int → Int → Int → Int → Int → Int → Int → Int → Int → Int → Int → List ByteArray → List (Int × ByteArray) → List (Int × ByteArray) → List ByteArray → (Int → Option Res) → (Int → Int → List (Int × ByteArray) → List (Int × ByteArray) → Option Res) → Option Res) (c20_1 : Int → ByteArray → Int → Int → Int → Int → Int → Int → Int → Int → Int → Int → Int → List ByteArray → List (Int × ByteArray) → List (Int × ByteArray) → (Int → Option Res) → (Int → List (Int × ByteArray) → Option Res) → Option Res) (c21_1 : Int → Int → Int → Int → List ByteArray → Int → Int → Int → Int → List ByteArray → (Int → Int → List Int → Option Res) → Option Res) (c21_1545 : Int → Int → Int → Int → List ByteArray → Option Res) (c22_1 : Int → Int → Int → Int → Int → Int → Int → Int → Int → Int → Int → List ByteArray → List (Int × ByteArray) → List (Int × ByteArray) → (Option Res) → Option Res) (c23_1 : List Int → List Int → (Bool → Option Res) → Option Res) (c24_1 : Int → Int → Int → Int → (Int → Option Res) → Option Res)  (l20 : Int → Int → Int → Int → List Int → List Int → Int → Int → Int → Int → List ByteArray → Int → Int → Int → Int → List ByteArray → Int → Int → Int → Int → Int → Int → Int → Int → Int → Int → Int → List ByteArray → List (Int × ByteArray) → List (Int × ByteArray) → List Int → List Int → (List ByteArray → Option Res) → Nat → Int → List ByteArray → Option Res) (X20 : LoopS) (X12 : LoopS) (d : sh3_1_l20.den) (K : KL) : (fun (v51 : Int) (v52 : Int) (v53 : Int) (v54 : Int) (v56 : List Int) (v57 : List Int) (v58 : Int) (v59 : Int) (v60 : Int) (v61 : Int) (v62 : List ByteArray) (v63 : Int) (v64 : Int) (v65 : Int) (v66 : Int) (v67 : List ByteArray) (v68 : Int) (v69 : Int) (v70 : Int) (v71 : Int) (v72 : Int) (v73 : Int) (v74 : Int) (v75 : Int) (v76 : Int) (v77 : Int) (v78 : Int) (v79 : List ByteArray) (v80 : List (Int × ByteArray)) (v81 : List (Int × ByteArray)) (v82 : List Int) (v84 : List Int) (K0 : (List ByteArray → Option Res)) (k : Nat) (v55 : Int) (v83 : List ByteArray) => cond (decide (v55 < ((v84.length : Nat) : Int))) (cond (decide ((0 : Int) ≤ v55 ∧ v55 < ((v84.length : Nat) : Int))) (cond (decide (0 + v55.toNat < v84.length)) (c18_1 (v84.getD (0 + v55.toNat) 0) v63 v64 v65 v66 v67 (fun x85 x86 => cond (decide ((v83.length + 1) * 16 ≤ 70368744177664)) (l20 v51 v52 v53 v54 v56 v57 v58 v59 v60 v61 v62 v63 v64 v65 v66 v67 v68 v69 v70 v71 v72 v73 v74 v75 v76 v77 v78 v79 v80 v81 v82 v84 K0 k (IntKind.i64.wrap (v55 + 1)) (v83 ++ [x85])) none) ) none) none) (K0 v83)) d.1.2.2.2.2.2.2.1 d.1.2.2.2.2.2.2.2.1 d.1.2.2.2.2.2.2.2.2.1 d.1.2.2.2.2.2.2.2.2.2.1 d.2.1.2.1 d.2.2.1.2.1 d.2.2.2.1.2.1 d.2.2.2.1.2.2.1 d.2.2.2.1.2.2.2.1 d.2.2.2.1.2.2.2.2.1 d.2.2.2.2.1.2.1 d.2.2.2.2.2.1.2.1 d.2.2.2.2.2.1.2.2.1 d.2.2.2.2.2.1.2.2.2.1 d.2.2.2.2.2.1.2.2.2.2.1 d.2.2.2.2.2.2.1.2.1 d.2.2.2.2.2.2.2.1.2.1 d.2.2.2.2.2.2.2.1.2.2.1 d.2.2.2.2.2.2.2.1.2.2.2.1 d.2.2.2.2.2.2.2.1.2.2.2.2.1 d.2.2.2.2.2.2.2.1.2.2.2.2.2.2.2.2.1 d.2.2.2.2.2.2.2.1.2.2.2.2.2.2.2.2.2.1 d.2.2.2.2.2.2.2.1.2.2.2.2.2.2.2.2.2.2.1 d.2.2.2.2.2.2.2.2.1.2.1 d.2.2.2.2.2.2.2.2.1.2.2.1 d.2.2.2.2.2.2.2.2.1.2.2.2.1 d.2.2.2.2.2.2.2.2.1.2.2.2.2.1 d.2.2.2.2.2.2.2.2.2.1.2.1 d.2.2.2.2.2.2.2.2.2.2.1.2.1 d.2.2.2.2.2.2.2.2.2.2.2.1.2.1 d.2.2.2.2.2.2.2.2.2.2.2.2.1.2.1 d.2.2.2.2.2.2.2.2.2.2.2.2.2.2.1.2.1 (fun (y31 : List ByteArray) => K (.exit 2) [.tv (.lf (.full 0)), .tv (.lf (.ptr 2 0)), .tv (.lf (.full 3)), .tv (.lf (.ptr 4 0)), .tv (.lf (.ptr 6 0)), .tv (.lf (.full 11)), .tv (.lf (.int .i64 d.1.2.2.2.2.2.2.1)), .tv (.lf (.int .i64 d.1.2.2.2.2.2.2.2.1)), .tv (.lf (.int .i64 d.1.2.2.2.2.2.2.2.2.1)), .tv (.lf (.int .i64 d.1.2.2.2.2.2.2.2.2.2.1)), .tv (.lf (.full 12))] [some ⟨d.2.1.1, [.seq (.int .u8) 0 d.2.1.2.1]⟩, some ⟨d.2.2.1.1, [.seq (.int .u8) 0 d.2.2.1.2.1]⟩, some ⟨false, [.int .i64 d.2.2.2.1.2.1, .int .i64 d.2.2.2.1.2.2.1, .int .i64 d.2.2.2.1.2.2.2.1, .int .i64 d.2.2.2.1.2.2.2.2.1]⟩, some ⟨false, [.seq .str 0 d.2.2.2.2.1.2.1]⟩, some ⟨false, [.int .i64 d.2.2.2.2.2.1.2.1, .int .i64 d.2.2.2.2.2.1.2.2.1, .int .i64 d.2.2.2.2.2.1.2.2.2.1, .int .i64 d.2.2.2.2.2.1.2.2.2.2.1, .full 5]⟩, some ⟨false, [.seq .str 0 d.2.2.2.2.2.2.1.2.1]⟩, some ⟨false, [.int .i64 d.2.2.2.2.2.2.2.1.2.1, .int .i64 d.2.2.2.2.2.2.2.1.2.2.1, .int .i64 d.2.2.2.2.2.2.2.1.2.2.2.1, .int .i64 d.2.2.2.2.2.2.2.1.2.2.2.2.1, .ptr 7 0, .full 9, .full 10, .int .i64 d.2.2.2.2.2.2.2.1.2.2.2.2.2.2.2.2.1, .int .i64 d.2.2.2.2.2.2.2.1.2.2.2.2.2.2.2.2.2.1, .int .i64 d.2.2.2.2.2.2.2.1.2.2.2.2.2.2.2.2.2.2.1]⟩, some ⟨false, [.int .i64 d.2.2.2.2.2.2.2.2.1.2.1, .int .i64 d.2.2.2.2.2.2.2.2.1.2.2.1, .int .i64 d.2.2.2.2.2.2.2.2.1.2.2.2.1, .int .i64 d.2.2.2.2.2.2.2.2.1.2.2.2.2.1, .full 8]⟩, some ⟨false, [.seq .str 0 d.2.2.2.2.2.2.2.2.2.1.2.1]⟩, some ⟨false, [.seq (.pair (.int .i64) .str) 0 d.2.2.2.2.2.2.2.2.2.2.1.2.1]⟩, some ⟨false, [.seq (.pair (.int .i64) .str) 0 d.2.2.2.2.2.2.2.2.2.2.2.1.2.1]⟩, some ⟨false, [.seq (.int .i64) 0 d.2.2.2.2.2.2.2.2.2.2.2.2.1.2.1]⟩, some ⟨false, [.seq .str 0 y31]⟩, some ⟨false, [.seq (.int .i64) 0 d.2.2.2.2.2.2.2.2.2.2.2.2.2.2.1.2.1]⟩]) k d.1.2.2.2.2.2.2.2.2.2.2.2.2.1 d.2.2.2.2.2.2.2.2.2.2.2.2.2.1.2.1 = roundOf Try.prog (tab [(7, (mkS sh7_1 (fun d K => c7_1 d.1.1.1 d.1.1.2.1 d.1.1.2.2.1 d.1.1.2.2.2.1 (fun (y0 : Bool) => K [.lf (.bool y0)] [])) noS)), (8, (mkS sh8_1 (fun d K => c8_1 (fun (y0 : Bool) => K [.lf (.bool y0)] [])) noS)), (9, (mkS sh9_1 (fun d K => c9_1 d.1.1.1 d.1.1.2.1 d.1.1.2.2.1 d.1.1.2.2.2.1 d.2.1.2.1 (fun (y1 : List ByteArray) => K [.lf (.full 1)] [some ⟨d.2.1.1, [.seq (.int .u8) 0 d.2.1.2.1]⟩, some ⟨false, [.seq .str 0 y1]⟩])) noS)), (10, (mkS sh10_1 (fun d K => c10_1 d.1.1.1 d.1.1.2.1 d.1.1.2.2.1 d.1.1.2.2.2.1 d.2.1.2.1 (fun (y0 : Int) => K [.lf (.nilp), .lf (.int .i64 y0)] [some ⟨d.2.1.1, [.seq .str 0 d.2.1.2.1]⟩]) (fun (y6 : List ByteArray) => K [.lf (.ptr 1 0), .lf (.int .i64 0)] [some ⟨d.2.1.1, [.seq .str 0 d.2.1.2.1]⟩, some ⟨false, [.int .i64 d.1.1.1, .int .i64 d.1.1.2.1, .int .i64 d.1.1.2.2.1, .int .i64 d.1.1.2.2.2.1, .full 2]⟩, some ⟨false, [.seq .str 0 y6]⟩])) noS)), (11, (mkS sh11_1 (fun d K => c11_1 d.1.1.1 d.1.1.2.1 d.1.1.2.2.1 d.1.1.2.2.2.1 d.2.1.2.1 (fun (y0 : Int) => K [.lf (.nilp), .lf (.int .i64 y0)] [some ⟨d.2.1.1, [.seq .str 0 d.2.1.2.1]⟩]) (fun (y6 : List ByteArray) => K [.lf (.ptr 1 0), .lf (.int .i64 0)] [some ⟨d.2.1.1, [.seq .str 0 d.2.1.2.1]⟩, some ⟨false, [.int .i64 d.1.1.1, .int .i64 d.1.1.2.1, .int .i64 d.1.1.2.2.1, .int .i64 d.1.1.2.2.2.1, .full 2]⟩, some ⟨false, [.seq .str 0 y6]⟩])) noS)), (12, (mkS sh12_1 (fun d K => c12_1 d.1.2.1 d.2.1.2.1 d.2.1.2.2.1 d.2.1.2.2.2.1 d.2.1.2.2.2.2.1 d.2.2.1.2.1 (K [.lf (.nilp), .lf (.int .i64 4)] [some ⟨d.2.1.1, [.int .i64 d.2.1.2.1, .int .i64 d.2.1.2.2.1, .int .i64 d.2.1.2.2.2.1, .int .i64 d.2.1.2.2.2.2.1, .full 1]⟩, some ⟨d.2.2.1.1, [.seq .str 0 d.2.2.1.2.1]⟩]) (fun (y17 : List ByteArray) (y18 : List (Int × ByteArray)) (y19 : List (Int × ByteArray)) => K [.lf (.ptr 2 0), .lf (.int .i64 0)] [some ⟨d.2.1.1, [.int .i64 d.2.1.2.1, .int .i64 d.2.1.2.2.1, .int .i64 d.2.1.2.2.2.1, .int .i64 d.2.1.2.2.2.2.1, .full 1]⟩, some ⟨d.2.2.1.1, [.seq .str 0 d.2.2.1.2.1]⟩, some ⟨false, [.int .i64 d.2.1.2.1, .int .i64 d.2.1.2.2.1, .int .i64 d.2.1.2.2.2.1, .int .i64 d.2.1.2.2.2.2.1, .ptr 3 0, .full 5, .full 6, .int .i64 0, .int .i64 0, .int .i64 0]⟩, some ⟨false, [.int .i64 d.2.1.2.1, .int .i64 d.2.1.2.2.1, .int .i64 d.2.1.2.2.2.1, .int .i64 d.2.1.2.2.2.2.1, .full 4]⟩, some ⟨false, [.seq .str 0 y17]⟩, some ⟨false, [.seq (.pair (.int .i64) .str) 0 y18]⟩, some ⟨false, [.seq (.pair (.int .i64) .str) 0 y19]⟩])) (mkS sh12_115 (fun d K => c12_115 d.1.2.1 (K [.lf (.nilp), .lf (.int .i64 1)] [])) noS))), (13, (mkS sh13_1 (fun d K => c13_1 d.2.1.2.1 d.2.1.2.2.1 d.2.1.2.2.2.1 d.2.1.2.2.2.2.1 d.2.2.1.2.1 (fun (y0 : ByteArray) => K [.lf (.str y0)] [some ⟨d.2.1.1, [.int .i64 d.2.1.2.1, .int .i64 d.2.1.2.2.1, .int .i64 d.2.1.2.2.2.1, .int .i64 d.2.1.2.2.2.2.1, .full 1]⟩, some ⟨d.2.2.1.1, [.seq .str 0 d.2.2.1.2.1]⟩])) (mkS sh13_568 (fun d K => c13_568) noS))), (14, (mkS sh14_1 (fun d K => c14_1 d.1.1.1 d.1.1.2.1 d.1.1.2.2.1 d.1.1.2.2.2.1 (fun (y0 : Int) => K [.lf (.int .i64 y0)] [])) noS)), (15, (mkS sh15_1 (fun d K => c15_1 d.2.1.2.1 d.2.1.2.2.1 d.2.1.2.2.2.1 d.2.1.2.2.2.2.1 d.2.1.2.2.2.2.2.2.2.2.1 d.2.1.2.2.2.2.2.2.2.2.2.1 d.2.1.2.2.2.2.2.2.2.2.2.2.1 d.2.2.1.2.1 d.2.2.1.2.2.1 d.2.2.1.2.2.2.1 d.2.2.1.2.2.2.2.1 d.2.2.2.1.2.1 d.2.2.2.2.1.2.1 d.2.2.2.2.2.1.2.1 (fun (y0 : Bool) => K [.lf (.bool y0)] [some ⟨d.2.1.1, [.int .i64 d.2.1.2.1, .int .i64 d.2.1.2.2.1, .int .i64 d.2.1.2.2.2.1, .int .i64 d.2.1.2.2.2.2.1, .ptr 1 0, .full 3, .full 4, .int .i64 d.2.1.2.2.2.2.2.2.2.2.1, .int .i64 d.2.1.2.2.2.2.2.2.2.2.2.1, .int .i64 d.2.1.2.2.2.2.2.2.2.2.2.2.1]⟩, some ⟨d.2.2.1.1, [.int .i64 d.2.2.1.2.1, .int .i64 d.2.2.1.2.2.1, .int .i64 d.2.2.1.2.2.2.1, .int .i64 d.2.2.1.2.2.2.2.1, .full 2]⟩, some ⟨d.2.2.2.1.1, [.seq .str 0 d.2.2.2.1.2.1]⟩, some ⟨d.2.2.2.2.1.1, [.seq (.pair (.int .i64) .str) 0 d.2.2.2.2.1.2.1]⟩, some ⟨d.2.2.2.2.2.1.1, [.seq (.pair (.int .i64) .str) 0 d.2.2.2.2.2.1.2.1]⟩])) noS)), (16, (mkS sh16_1 (fun d K => c16_1 d.2.1.2.1 d.2.1.2.2.1 d.2.1.2.2.2.1 d.2.1.2.2.2.2.1 d.2.1.2.2.2.2.2.2.2.2.1 d.2.1.2.2.2.2.2.2.2.2.2.1 d.2.1.2.2.2.2.2.2.2.2.2.2.1 d.2.2.1.2.1 d.2.2.1.2.2.1 d.2.2.1.2.2.2.1 d.2.2.1.2.2.2.2.1 d.2.2.2.1.2.1 d.2.2.2.2.1.2.1 d.2.2.2.2.2.1.2.1 (fun (y0 : Int) (y1 : Int) => K [.lf (.int .i64 y0), .lf (.int .i64 y1)] [some ⟨d.2.1.1, [.int .i64 d.2.1.2.1, .int .i64 d.2.1.2.2.1, .int .i64 d.2.1.2.2.2.1, .int .i64 d.2.1.2.2.2.2.1, .ptr 1 0, .full 3, .full 4, .int .i64 d.2.1.2.2.2.2.2.2.2.2.1, .int .i64 d.2.1.2.2.2.2.2.2.2.2.2.1, .int .i64 d.2.1.2.2.2.2.2.2.2.2.2.2.1]⟩, some ⟨d.2.2.1.1, [.int .i64 d.2.2.1.2.1, .int .i64 d.2.2.1.2.2.1, .int .i64 d.2.2.1.2.2.2.1, .int .i64 d.2.2.1.2.2.2.2.1, .full 2]⟩, some ⟨d.2.2.2.1.1, [.seq .str 0 d.2.2.2.1.2.1]⟩, some ⟨d.2.2.2.2.1.1, [.seq (.pair (.int .i64) .str) 0 d.2.2.2.2.1.2.1]⟩, some ⟨d.2.2.2.2.2.1.1, [.seq (.pair (.int .i64) .str) 0 d.2.2.2.2.2.1.2.1]⟩])) noS)), (17, (mkS sh17_1 (fun d K => c17_1 d.1.1.1 d.1.1.2.1 d.1.1.2.2.1 d.1.1.2.2.2.1 d.1.2.1 (fun (y0 : List Int) => K [.lf (.full 0)] [some ⟨false, [.seq (.int .i64) 0 y0]⟩])) noS)), (18, (mkS sh18_1 (fun d K => c18_1 d.1.2.1 d.2.1.2.1 d.2.1.2.2.1 d.2.1.2.2.2.1 d.2.1.2.2.2.2.1 d.2.2.1.2.1 (fun (y0 : ByteArray) (y1 : Int) => K [.lf (.str y0), .lf (.int .i64 y1)] [some ⟨d.2.1.1, [.int .i64 d.2.1.2.1, .int .i64 d.2.1.2.2.1, .int .i64 d.2.1.2.2.2.1, .int .i64 d.2.1.2.2.2.2.1, .full 1]⟩, some ⟨d.2.2.1.1, [.seq .str 0 d.2.2.1.2.1]⟩])) noS)), (19, (mkS sh19_1 (fun d K => c19_1 d.1.2.1 d.2.1.2.1 d.2.1.2.2.1 d.2.1.2.2.2.1 d.2.1.2.2.2.2.1 d.2.1.2.2.2.2.2.2.2.2.1 d.2.1.2.2.2.2.2.2.2.2.2.1 d.2.1.2.2.2.2.2.2.2.2.2.2.1 d.2.2.1.2.1 d.2.2.1.2.2.1 d.2.2.1.2.2.2.1 d.2.2.1.2.2.2.2.1 d.2.2.2.1.2.1 d.2.2.2.2.1.2.1 d.2.2.2.2.2.1.2.1 d.2.2.2.2.2.2.1.2.1 (fun (y0 : Int) => K [.lf (.int .i64 y0)] [some ⟨false, [.int .i64 d.2.1.2.1, .int .i64 d.2.1.2.2.1, .int .i64 d.2.1.2.2.2.1, .int .i64 d.2.1.2.2.2.2.1, .ptr 1 0, .full 3, .full 4, .int .i64 d.2.1.2.2.2.2.2.2.2.2.1, .int .i64 d.2.1.2.2.2.2.2.2.2.2.2.1, .int .i64 d.2.1.2.2.2.2.2.2.2.2.2.2.1]⟩, some ⟨d.2.2.1.1, [.int .i64 d.2.2.1.2.1, .int .i64 d.2.2.1.2.2.1, .int .i64 d.2.2.1.2.2.2.1, .int .i64 d.2.2.1.2.2.2.2.1, .full 2]⟩, some ⟨d.2.2.2.1.1, [.seq .str 0 d.2.2.2.1.2.1]⟩, some ⟨false, [.seq (.pair (.int .i64) .str) 0 d.2.2.2.2.1.2.1]⟩, some ⟨false, [.seq (.pair (.int .i64) .str) 0 d.2.2.2.2.2.1.2.1]⟩, some ⟨d.2.2.2.2.2.2.1.1, [.seq .str 0 d.2.2.2.2.2.2.1.2.1]⟩]) (fun (y5 : Int) (y6 : Int) (y14 : List (Int × ByteArray)) (y15 : List (Int × ByteArray)) => K [.lf (.int .i64 0)] [some ⟨false, [.int .i64 d.2.1.2.1, .int .i64 d.2.1.2.2.1, .int .i64 d.2.1.2.2.2.1, .int .i64 d.2.1.2.2.2.2.1, .ptr 1 0, .full 6, .full 7, .int .i64 y5, .int .i64 y6, .int .i64 d.2.1.2.2.2.2.2.2.2.2.2.2.1]⟩, some ⟨d.2.2.1.1, [.int .i64 d.2.2.1.2.1, .int .i64 d.2.2.1.2.2.1, .int .i64 d.2.2.1.2.2.2.1, .int .i64 d.2.2.1.2.2.2.2.1, .full 2]⟩, some ⟨d.2.2.2.1.1, [.seq .str 0 d.2.2.2.1.2.1]⟩, none, none, some ⟨d.2.2.2.2.2.2.1.1, [.seq .str 0 d.2.2.2.2.2.2.1.2.1]⟩, some ⟨false, [.seq (.pair (.int .i64) .str) 0 y14]⟩, some ⟨false, [.seq (.pair (.int .i64) .str) 0 y15]⟩])) noS)), (20, (mkS sh20_1 (fun d K => c20_1 d.1.2.1 d.1.2.2.1 d.2.1.2.1 d.2.1.2.2.1 d.2.1.2.2.2.1 d.2.1.2.2.2.2.1 d.2.1.2.2.2.2.2.2.2.2.1 d.2.1.2.2.2.2.2.2.2.2.2.1 d.2.1.2.2.2.2.2.2.2.2.2.2.1 d.2.2.1.2.1 d.2.2.1.2.2.1 d.2.2.1.2.2.2.1 d.2.2.1.2.2.2.2.1 d.2.2.2.1.2.1 d.2.2.2.2.1.2.1 d.2.2.2.2.2.1.2.1 (fun (y0 : Int) => K [.lf (.int .i64 y0)] [some ⟨false, [.int .i64 d.2.1.2.1, .int .i64 d.2.1.2.2.1, .int .i64 d.2.1.2.2.2.1, .int .i64 d.2.1.2.2.2.2.1, .ptr 1 0, .full 3, .full 4, .int .i64 d.2.1.2.2.2.2.2.2.2.2.1, .int .i64 d.2.1.2.2.2.2.2.2.2.2.2.1, .int .i64 d.2.1.2.2.2.2.2.2.2.2.2.2.1]⟩, some ⟨d.2.2.1.1, [.int .i64 d.2.2.1.2.1, .int .i64 d.2.2.1.2.2.1, .int .i64 d.2.2.1.2.2.2.1, .int .i64 d.2.2.1.2.2.2.2.1, .full 2]⟩, some ⟨d.2.2.2.1.1, [.seq .str 0 d.2.2.2.1.2.1]⟩, some ⟨d.2.2.2.2.1.1, [.seq (.pair (.int .i64) .str) 0 d.2.2.2.2.1.2.1]⟩, some ⟨false, [.seq (.pair (.int .i64) .str) 0 d.2.2.2.2.2.1.2.1]⟩]) (fun (y7 : Int) (y14 : List (Int × ByteArray)) => K [.lf (.int .i64 0)] [some ⟨false, [.int .i64 d.2.1.2.1, .int .i64 d.2.1.2.2.1, .int .i64 d.2.1.2.2.2.1, .int .i64 d.2.1.2.2.2.2.1, .ptr 1 0, .full 3, .full 5, .int .i64 d.2.1.2.2.2.2.2.2.2.2.1, .int .i64 d.2.1.2.2.2.2.2.2.2.2.2.1, .int .i64 y7]⟩, some ⟨d.2.2.1.1, [.int .i64 d.2.2.1.2.1, .int .i64 d.2.2.1.2.2.1, .int .i64 d.2.2.1.2.2.2.1, .int .i64 d.2.2.1.2.2.2.2.1, .full 2]⟩, some ⟨d.2.2.2.1.1, [.seq .str 0 d.2.2.2.1.2.1]⟩, some ⟨d.2.2.2.2.1.1, [.seq (.pair (.int .i64) .str) 0 d.2.2.2.2.1.2.1]⟩, none, some ⟨false, [.seq (.pair (.int .i64) .str) 0 y14]⟩])) noS)), (21, (mkS sh21_1 (fun d K => c21_1 d.2.1.2.1 d.2.1.2.2.1 d.2.1.2.2.2.1 d.2.1.2.2.2.2.1 d.2.2.1.2.1 d.2.2.2.1.2.1 d.2.2.2.1.2.2.1 d.2.2.2.1.2.2.2.1 d.2.2.2.1.2.2.2.2.1 d.2.2.2.2.1.2.1 (fun (y0 : Int) (y1 : Int) (y12 : List Int) => K [.lf (.full 4), .lf (.int .i64 y0), .lf (.int .i64 y1)] [some ⟨d.2.1.1, [.int .i64 d.2.1.2.1, .int .i64 d.2.1.2.2.1, .int .i64 d.2.1.2.2.2.1, .int .i64 d.2.1.2.2.2.2.1, .full 1]⟩, some ⟨d.2.2.1.1, [.seq .str 0 d.2.2.1.2.1]⟩, some ⟨d.2.2.2.1.1, [.int .i64 d.2.2.2.1.2.1, .int .i64 d.2.2.2.1.2.2.1, .int .i64 d.2.2.2.1.2.2.2.1, .int .i64 d.2.2.2.1.2.2.2.2.1, .full 3]⟩, some ⟨d.2.2.2.2.1.1, [.seq .str 0 d.2.2.2.2.1.2.1]⟩, some ⟨false, [.seq (.int .i64) 0 y12]⟩])) (mkS sh21_1545 (fun d K => c21_1545 d.2.1.2.1 d.2.1.2.2.1 d.2.1.2.2.2.1 d.2.1.2.2.2.2.1 d.2.2.1.2.1) noS))), (22, (mkS sh22_1 (fun d K => c22_1 d.2.1.2.1 d.2.1.2.2.1 d.2.1.2.2.2.1 d.2.1.2.2.2.2.1 d.2.1.2.2.2.2.2.2.2.2.1 d.2.1.2.2.2.2.2.2.2.2.2.1 d.2.1.2.2.2.2.2.2.2.2.2.2.1 d.2.2.1.2.1 d.2.2.1.2.2.1 d.2.2.1.2.2.2.1 d.2.2.1.2.2.2.2.1 d.2.2.2.1.2.1 d.2.2.2.2.1.2.1 d.2.2.2.2.2.1.2.1 (K [.lf (.int .i64 d.2.1.2.2.2.2.2.2.2.2.1), .lf (.int .i64 d.2.1.2.2.2.2.2.2.2.2.2.1), .lf (.int .i64 d.2.1.2.2.2.2.2.2.2.2.2.2.1)] [some ⟨d.2.1.1, [.int .i64 d.2.1.2.1, .int .i64 d.2.1.2.2.1, .int .i64 d.2.1.2.2.2.1, .int .i64 d.2.1.2.2.2.2.1, .ptr 1 0, .full 3, .full 4, .int .i64 d.2.1.2.2.2.2.2.2.2.2.1, .int .i64 d.2.1.2.2.2.2.2.2.2.2.2.1, .int .i64 d.2.1.2.2.2.2.2.2.2.2.2.2.1]⟩, some ⟨d.2.2.1.1, [.int .i64 d.2.2.1.2.1, .int .i64 d.2.2.1.2.2.1, .int .i64 d.2.2.1.2.2.2.1, .int .i64 d.2.2.1.2.2.2.2.1, .full 2]⟩, some ⟨d.2.2.2.1.1, [.seq .str 0 d.2.2.2.1.2.1]⟩, some ⟨d.2.2.2.2.1.1, [.seq (.pair (.int .i64) .str) 0 d.2.2.2.2.1.2.1]⟩, some ⟨d.2.2.2.2.2.1.1, [.seq (.pair (.int .i64) .str) 0 d.2.2.2.2.2.1.2.1]⟩])) noS)), (23, (mkS sh23_1 (fun d K => c23_1 d.2.1.2.1 d.2.2.1.2.1 (fun (y0 : Bool) => K [.lf (.bool y0)] [some ⟨d.2.1.1, [.seq (.int .i64) 0 d.2.1.2.1]⟩, some ⟨d.2.2.1.1, [.seq (.int .i64) 0 d.2.2.1.2.1]⟩])) noS)), (24, (mkS sh24_1 (fun d K => c24_1 d.1.1.1 d.1.1.2.1 d.1.1.2.2.1 d.1.1.2.2.2.1 (fun (y0 : Int) => K [.lf (.int .i64 y0)] [])) noS))]) (xw []) 187 2 (ltab [(20, X20), (12, X12)]) (mkG sh3_1_l20 [1, 3, 7, 10, 12, 14, 15, 16, 17, 18, 20, 21, 22] (outT [(.exit 2, [1, 3, 7, 10, 12, 14, 15, 16, 17, 18, 20])]) (fun d K => l20 d.1.2.2.2.2.2.2.1 d.1.2.2.2.2.2.2.2.1 d.1.2.2.2.2.2.2.2.2.1 d.1.2.2.2.2.2.2.2.2.2.1 d.2.1.2.1 d.2.2.1.2.1 d.2.2.2.1.2.1 d.2.2.2.1.2.2.1 d.2.2.2.1.2.2.2.1 d.2.2.2.1.2.2.2.2.1 d.2.2.2.2.1.2.1 d.2.2.2.2.2.1.2.1 d.2.2.2.2.2.1.2.2.1 d.2.2.2.2.2.1.2.2.2.1 d.2.2.2.2.2.1.2.2.2.2.1 d.2.2.2.2.2.2.1.2.1 d.2.2.2.2.2.2.2.1.2.1 d.2.2.2.2.2.2.2.1.2.2.1 d.2.2.2.2.2.2.2.1.2.2.2.1 d.2.2.2.2.2.2.2.1.2.2.2.2.1 d.2.2.2.2.2.2.2.1.2.2.2.2.2.2.2.2.1 d.2.2.2.2.2.2.2.1.2.2.2.2.2.2.2.2.2.1 d.2.2.2.2.2.2.2.1.2.2.2.2.2.2.2.2.2.2.1 d.2.2.2.2.2.2.2.2.1.2.1 d.2.2.2.2.2.2.2.2.1.2.2.1 d.2.2.2.2.2.2.2.2.1.2.2.2.1 d.2.2.2.2.2.2.2.2.1.2.2.2.2.1 d.2.2.2.2.2.2.2.2.2.1.2.1 d.2.2.2.2.2.2.2.2.2.2.1.2.1 d.2.2.2.2.2.2.2.2.2.2.2.1.2.1 d.2.2.2.2.2.2.2.2.2.2.2.2.1.2.1 d.2.2.2.2.2.2.2.2.2.2.2.2.2.2.1.2.1 (fun (y31 : List ByteArray) => K (.exit 2) [.tv (.lf (.full 0)), .tv (.lf (.ptr 2 0)), .tv (.lf (.full 3)), .tv (.lf (.ptr 4 0)), .tv (.lf (.ptr 6 0)), .tv (.lf (.full 11)), .tv (.lf (.int .i64 d.1.2.2.2.2.2.2.1)), .tv (.lf (.int .i64 d.1.2.2.2.2.2.2.2.1)), .tv (.lf (.int .i64 d.1.2.2.2.2.2.2.2.2.1)), .tv (.lf (.int .i64 d.1.2.2.2.2.2.2.2.2.2.1)), .tv (.lf (.full 12))] [some ⟨d.2.1.1, [.seq (.int .u8) 0 d.2.1.2.1]⟩, some ⟨d.2.2.1.1, [.seq (.int .u8) 0 d.2.2.1.2.1]⟩, some ⟨false, [.int .i64 d.2.2.2.1.2.1, .int .i64 d.2.2.2.1.2.2.1, .int .i64 d.2.2.2.1.2.2.2.1, .int .i64 d.2.2.2.1.2.2.2.2.1]⟩, some ⟨false, [.seq .str 0 d.2.2.2.2.1.2.1]⟩, some ⟨false, [.int .i64 d.2.2.2.2.2.1.2.1, .int .i64 d.2.2.2.2.2.1.2.2.1, .int .i64 d.2.2.2.2.2.1.2.2.2.1, .int .i64 d.2.2.2.2.2.1.2.2.2.2.1, .full 5]⟩, some ⟨false, [.seq .str 0 d.2.2.2.2.2.2.1.2.1]⟩, some ⟨false, [.int .i64 d.2.2.2.2.2.2.2.1.2.1, .int .i64 d.2.2.2.2.2.2.2.1.2.2.1, .int .i64 d.2.2.2.2.2.2.2.1.2.2.2.1, .int .i64 d.2.2.2.2.2.2.2.1.2.2.2.2.1, .ptr 7 0, .full 9, .full 10, .int .i64 d.2.2.2.2.2.2.2.1.2.2.2.2.2.2.2.2.1, .int .i64 d.2.2.2.2.2.2.2.1.2.2.2.2.2.2.2.2.2.1, .int .i64 d.2.2.2.2.2.2.2.1.2.2.2.2.2.2.2.2.2.2.1]⟩, some ⟨false, [.int .i64 d.2.2.2.2.2.2.2.2.1.2.1, .int .i64 d.2.2.2.2.2.2.2.2.1.2.2.1, .int .i64 d.2.2.2.2.2.2.2.2.1.2.2.2.1, .int .i64 d.2.2.2.2.2.2.2.2.1.2.2.2.2.1, .full 8]⟩, some ⟨false, [.seq .str 0 d.2.2.2.2.2.2.2.2.2.1.2.1]⟩, some ⟨false, [.seq (.pair (.int .i64) .str) 0 d.2.2.2.2.2.2.2.2.2.2.1.2.1]⟩, some ⟨false, [.seq (.pair (.int .i64) .str) 0 d.2.2.2.2.2.2.2.2.2.2.2.1.2.1]⟩, some ⟨false, [.seq (.int .i64) 0 d.2.2.2.2.2.2.2.2.2.2.2.2.1.2.1]⟩, some ⟨false, [.seq .str 0 y31]⟩, some ⟨false, [.seq (.int .i64) 0 d.2.2.2.2.2.2.2.2.2.2.2.2.2.2.1.2.1]⟩]) k d.1.2.2.2.2.2.2.2.2.2.2.2.2.1 d.2.2.2.2.2.2.2.2.2.2.2.2.2.1.2.1) []) b3_1 (encT sh3_1_l20.vs d.1) (encH sh3_1_l20.h d.2) K := by kernel_rfl
theorem L3_1_20 (F : Nat) : LoopOK Try.prog (T3_1 F) (xw []) 187 2 (LT3_1 F) (G3_1_20 F F) b3_1 :=
  loopOK_of (s := sh3_1_l20) (live := [1, 3, 7, 10, 12, 14, 15, 16, 17, 18, 20, 21, 22]) (out := (outT [(.exit 2, [1, 3, 7, 10, 12, 14, 15, 16, 17, 18, 20])])) (mv := []) (fun k d K => f3_1_l20 F d.1.2.2.2.2.2.2.1 d.1.2.2.2.2.2.2.2.1 d.1.2.2.2.2.2.2.2.2.1 d.1.2.2.2.2.2.2.2.2.2.1 d.2.1.2.1 d.2.2.1.2.1 d.2.2.2.1.2.1 d.2.2.2.1.2.2.1 d.2.2.2.1.2.2.2.1 d.2.2.2.1.2.2.2.2.1 d.2.2.2.2.1.2.1 d.2.2.2.2.2.1.2.1 d.2.2.2.2.2.1.2.2.1 d.2.2.2.2.2.1.2.2.2.1 d.2.2.2.2.2.1.2.2.2.2.1 d.2.2.2.2.2.2.1.2.1 d.2.2.2.2.2.2.2.1.2.1 d.2.2.2.2.2.2.2.1.2.2.1 d.2.2.2.2.2.2.2.1.2.2.2.1 d.2.2.2.2.2.2.2.1.2.2.2.2.1 d.2.2.2.2.2.2.2.1.2.2.2.2.2.2.2.2.1 d.2.2.2.2.2.2.2.1.2.2.2.2.2.2.2.2.2.1 d.2.2.2.2.2.2.2.1.2.2.2.2.2.2.2.2.2.2.1 d.2.2.2.2.2.2.2.2.1.2.1 d.2.2.2.2.2.2.2.2.1.2.2.1 d.2.2.2.2.2.2.2.2.1.2.2.2.1 d.2.2.2.2.2.2.2.2.1.2.2.2.2.1 d.2.2.2.2.2.2.2.2.2.1.2.1 d.2.2.2.2.2.2.2.2.2.2.1.2.1 d.2.2.2.2.2.2.2.2.2.2.2.1.2.1 d.2.2.2.2.2.2.2.2.2.2.2.2.1.2.1 d.2.2.2.2.2.2.2.2.2.2.2.2.2.2.1.2.1 (fun (y31 : List ByteArray) => K (.exit 2) [.tv (.lf (.full 0)), .tv (.lf (.ptr 2 0)), .tv (.lf (.full 3)), .tv (.lf (.ptr 4 0)), .tv (.lf (.ptr 6 0)), .tv (.lf (.full 11)), .tv (.lf (.int .i64 d.1.2.2.2.2.2.2.1)), .tv (.lf (.int .i64 d.1.2.2.2.2.2.2.2.1)), .tv (.lf (.int .i64 d.1.2.2.2.2.2.2.2.2.1)), .tv (.lf (.int .i64 d.1.2.2.2.2.2.2.2.2.2.1)), .tv (.lf (.full 12))] [some ⟨d.2.1.1, [.seq (.int .u8) 0 d.2.1.2.1]⟩, some ⟨d.2.2.1.1, [.seq (.int .u8) 0 d.2.2.1.2.1]⟩, some ⟨false, [.int .i64 d.2.2.2.1.2.1, .int .i64 d.2.2.2.1.2.2.1, .int .i64 d.2.2.2.1.2.2.2.1, .int .i64 d.2.2.2.1.2.2.2.2.1]⟩, some ⟨false, [.seq .str 0 d.2.2.2.2.1.2.1]⟩, some ⟨false, [.int .i64 d.2.2.2.2.2.1.2.1, .int .i64 d.2.2.2.2.2.1.2.2.1, .int .i64 d.2.2.2.2.2.1.2.2.2.1, .int .i64 d.2.2.2.2.2.1.2.2.2.2.1, .full 5]⟩, some ⟨false, [.seq .str 0 d.2.2.2.2.2.2.1.2.1]⟩, some ⟨false, [.int .i64 d.2.2.2.2.2.2.2.1.2.1, .int .i64 d.2.2.2.2.2.2.2.1.2.2.1, .int .i64 d.2.2.2.2.2.2.2.1.2.2.2.1, .int .i64 d.2.2.2.2.2.2.2.1.2.2.2.2.1, .ptr 7 0, .full 9, .full 10, .int .i64 d.2.2.2.2.2.2.2.1.2.2.2.2.2.2.2.2.1, .int .i64 d.2.2.2.2.2.2.2.1.2.2.2.2.2.2.2.2.2.1, .int .i64 d.2.2.2.2.2.2.2.1.2.2.2.2.2.2.2.2.2.2.1]⟩, some ⟨false, [.int .i64 d.2.2.2.2.2.2.2.2.1.2.1, .int .i64 d.2.2.2.2.2.2.2.2.1.2.2.1, .int .i64 d.2.2.2.2.2.2.2.2.1.2.2.2.1, .int .i64 d.2.2.2.2.2.2.2.2.1.2.2.2.2.1, .full 8]⟩, some ⟨false, [.seq .str 0 d.2.2.2.2.2.2.2.2.2.1.2.1]⟩, some ⟨false, [.seq (.pair (.int .i64) .str) 0 d.2.2.2.2.2.2.2.2.2.2.1.2.1]⟩, some ⟨false, [.seq (.pair (.int .i64) .str) 0 d.2.2.2.2.2.2.2.2.2.2.2.1.2.1]⟩, some ⟨false, [.seq (.int .i64) 0 d.2.2.2.2.2.2.2.2.2.2.2.2.1.2.1]⟩, some ⟨false, [.seq .str 0 y31]⟩, some ⟨false, [.seq (.int .i64) 0 d.2.2.2.2.2.2.2.2.2.2.2.2.2.2.1.2.1]⟩]) k d.1.2.2.2.2.2.2.2.2.2.2.2.2.1 d.2.2.2.2.2.2.2.2.2.2.2.2.2.1.2.1) F (fun d K => by kernel_rfl)  (fun k d K => Eq.mp (by kernel_rfl) (L3_1_l20g F k (f7_1 F) (f8_1 F) (f9_1 F) (f10_1 F) (f11_1 F) (f12_1 F) (f12_115 F) (f13_1 F) (f13_568 F) (f14_1 F) (f15_1 F) (f16_1 F) (f17_1 F) (f18_1 F) (f19_1 F) (f20_1 F) (f21_1 F) (f21_1545 F) (f22_1 F) (f23_1 F) (f24_1 F)  (f3_1_l20 F) (G3_1_20 F F) (G3_1_12 F F) d K))
theorem L3_1_l12g (F k : Nat) (c7_1 : Int → Int → Int → Int → (Bool → Option Res) → Option Res) (c8_1 : (Bool → Option Res) → Option Res) (c9_1 : Int → Int → Int → Int → List Int → (List ByteArray → Option Res) → Option Res) (c10_1 : Int → Int → Int → Int → List ByteArray → (Int → Option Res) → (List ByteArray → Option Res) → Option Res) (c11_1 : Int → Int → Int → Int → List ByteArray → (Int → Option Res) → (List ByteArray → Option Res) → Option Res) (c12_1 : ByteArray → Int → Int → Int → Int → List ByteArray → (Option Res) → (List ByteArray → List (Int × ByteArray) → List (Int × ByteArray) → Option Res) → Option Res) (c12_115 : ByteArray → (Option Res) → Option Res) (c13_1 : Int → Int → Int → Int → List ByteArray → (ByteArray → Option Res) → Option Res) (c13_568 : Option Res) (c14_1 : Int → Int → Int → Int → (Int → Option Res) → Option Res) (c15_1 : Int → Int → Int → Int → Int → Int → Int → Int → Int → Int → Int → List ByteArray → List (Int × ByteArray) → List (Int × ByteArray) → (Bool → Option Res) → Option Res) (c16_1 : Int → Int → Int → Int → Int → Int → Int → Int → Int → Int → Int → List ByteArray → List (Int × ByteArray) → List (Int × ByteArray) → (Int → Int → Option Res) → Option Res) (c17_1 : Int → Int → Int → Int → Int → (List Int → Option Res) → Option Res) (c18_1 : Int → Int → Int → Int → Int → List ByteArray → (ByteArray → Int → Option Res) → Option Res) (c19_1 : Int → Int → Int → Int → Int → Int → Int → Int → Int → Int → Int → Int → List ByteArray → List (Int × ByteArray) → List (Int × ByteArray) → List ByteArray → (Int → Option Res) → (Int → Int → List (Int × ByteArray) → List (Int × ByteArray) → Option Res) → Option Res) (c20_1 : Int → ByteArray → Int → Int → Int → Int → Int → Int → Int → Int → Int → Int → Int → List ByteArray → List (Int × ByteArray) → List (Int × ByteArray) → (Int → Option Res) → (Int → List (Int × ByteArray) → Option Res) → Option Res) (c21_1 : Int → Int → Int → Int → List ByteArray → Int → Int → Int → Int → List ByteArray → (Int → Int → List Int → Option Res) → Option Res) (c21_1545 : Int → Int → Int → Int → List ByteArray → Option Res) (c22_1 : Int → Int → Int → Int → Int → Int → Int → Int → Int → Int → Int → List ByteArray → List (Int × ByteArray) → List (Int × ByteArray) → (Option Res) → Option Res) (c23_1 : List Int → List Int → (Bool → Option Res) → Option Res) (c24_1 : Int → Int → Int → Int → (Int → Option Res) → Option Res) (l20 : Int → Int → Int → Int → List Int → List Int → Int → Int → Int → Int → List ByteArray → Int → Int → Int → Int → List ByteArray → Int → Int → Int → Int → Int → Int → Int → Int → Int → Int → Int → List ByteArray → List (Int × ByteArray) → List (Int × ByteArray) → List Int → List Int → (List ByteArray → Option Res) → Nat → Int → List ByteArray → Option Res) (l12 : Int → List Int → List Int → Int → Int → Int → Int → List ByteArray → Int → Int → Int → Int → List ByteArray → Int → Int → Int → Int → Int → Int → Int → Int → List ByteArray → (Int → Int → Int → List (Int × ByteArray) → List (Int × ByteArray) → List ByteArray → List Int → List Int → List Int → Option Res) → (Int → Int → Int → List (Int × ByteArray) → List (Int × ByteArray) → List Int → List ByteArray → List Int → Option Res) → (Int → Int → Int → List ByteArray → List Int → List (Int × ByteArray) → List (Int × ByteArray) → List Int → List Int → Option Res) → (Int → Int → Int → List (Int × ByteArray) → List (Int × ByteArray) → List Int → List Int → Option Res) → (Int → Int → Int → List (Int × ByteArray) → List (Int × ByteArray) → List Int → Option Res) → (Int → Int → Int → List (Int × ByteArray) → List (Int × ByteArray) → List Int → Option Res) → Nat → Int → Int → Int → Int → List (Int × ByteArray) → List (Int × ByteArray) → List Int → Option Res) (X12 : LoopS) (d : sh3_1_l12.den) (K : KL) : (fun (v18 : Int) (v20 : List Int) (v21 : List Int) (v22 : Int) (v23 : Int) (v24 : Int) (v25 : Int) (v26 : List ByteArray) (v27 : Int) (v28 : Int) (v29 : Int) (v30 : Int) (v31 : List ByteArray) (v32 : Int) (v33 : Int) (v34 : Int) (v35 : Int) (v39 : Int) (v40 : Int) (v41 : Int) (v42 : Int) (v43 : List ByteArray) (K0 : (Int → Int → Int → List (Int × ByteArray) → List (Int × ByteArray) → List ByteArray → List Int → List Int → List Int → Option Res)) (K1 : (Int → Int → Int → List (Int × ByteArray) → List (Int × ByteArray) → List Int → List ByteArray → List Int → Option Res)) (K2 : (Int → Int → Int → List ByteArray → List Int → List (Int × ByteArray) → List (Int × ByteArray) → List Int → List Int → Option Res)) (K3 : (Int → Int → Int → List (Int × ByteArray) → List (Int × ByteArray) → List Int → List Int → Option Res)) (K4 : (Int → Int → Int → List (Int × ByteArray) → List (Int × ByteArray) → List Int → Option Res)) (K5 : (Int → Int → Int → List (Int × ByteArray) → List (Int × ByteArray) → List Int → Option Res)) (k : Nat) (v19 : Int) (v36 : Int) (v37 : Int) (v38 : Int) (v44 : List (Int × ByteArray)) (v45 : List (Int × ByteArray)) (v46 : List Int) => cond (decide (v19 ≤ v18)) (c15_1 v32 v33 v34 v35 v36 v37 v38 v39 v40 v41 v42 v43 v44 v45 (fun x47 => cond (!x47) (c16_1 v32 v33 v34 v35 v36 v37 v38 v39 v40 v41 v42 v43 v44 v45 (fun x48 x49 => cond (x48 == 1) (c17_1 v22 v23 v24 v25 x49 (fun x50 => l20 v18 v19 x48 x49 v20 v21 v22 v23 v24 v25 v26 v27 v28 v29 v30 v31 v32 v33 v34 v35 v36 v37 v38 v39 v40 v41 v42 v43 v44 v45 v46 x50 (fun x87 => c19_1 x49 v32 v33 v34 v35 v36 v37 v38 v39 v40 v41 v42 v43 v44 v45 x87 (fun x88 => cond (x48 == 2) (cond (decide (x49 ≥ 0)) (cond (decide (x49 < ((v26.length : Nat) : Int))) (cond (decide ((0 : Int) ≤ x49 ∧ x49 < ((v26.length : Nat) : Int))) (cond (decide (0 + x49.toNat < v26.length)) (c20_1 x49 (v26.getD (0 + x49.toNat) ByteArray.empty) v32 v33 v34 v35 v36 v37 v38 v39 v40 v41 v42 v43 v44 v45 (fun x89 => cond (decide ((v46.length + 1) * 8 ≤ 70368744177664)) (cond (x89 != 0) (K0 v36 v37 v38 v44 v45 x87 x50 [x49] (v46 ++ [x49])) (l12 v18 v20 v21 v22 v23 v24 v25 v26 v27 v28 v29 v30 v31 v32 v33 v34 v35 v39 v40 v41 v42 v43 K0 K1 K2 K3 K4 K5 k (IntKind.i64.wrap (v19 + 1)) v36 v37 v38 v44 v45 (v46 ++ [x49]))) none) (fun x90 x91 => cond (decide ((v46.length + 1) * 8 ≤ 70368744177664)) (l12 v18 v20 v21 v22 v23 v24 v25 v26 v27 v28 v29 v30 v31 v32 v33 v34 v35 v39 v40 v41 v42 v43 K0 K1 K2 K3 K4 K5 k (IntKind.i64.wrap (v19 + 1)) v36 v37 x90 v44 x91 (v46 ++ [x49])) none) ) none) none) (cond (x88 != 0) (K1 v36 v37 v38 v44 v45 v46 x87 x50) (l12 v18 v20 v21 v22 v23 v24 v25 v26 v27 v28 v29 v30 v31 v32 v33 v34 v35 v39 v40 v41 v42 v43 K0 K1 K2 K3 K4 K5 k (IntKind.i64.wrap (v19 + 1)) v36 v37 v38 v44 v45 v46))) (cond (x88 != 0) (K1 v36 v37 v38 v44 v45 v46 x87 x50) (l12 v18 v20 v21 v22 v23 v24 v25 v26 v27 v28 v29 v30 v31 v32 v33 v34 v35 v39 v40 v41 v42 v43 K0 K1 K2 K3 K4 K5 k (IntKind.i64.wrap (v19 + 1)) v36 v37 v38 v44 v45 v46))) (cond (x88 != 0) (K1 v36 v37 v38 v44 v45 v46 x87 x50) (l12 v18 v20 v21 v22 v23 v24 v25 v26 v27 v28 v29 v30 v31 v32 v33 v34 v35 v39 v40 v41 v42 v43 K0 K1 K2 K3 K4 K5 k (IntKind.i64.wrap (v19 + 1)) v36 v37 v38 v44 v45 v46))) (fun x92 x93 x94 x95 => cond (x48 == 2) (cond (decide (x49 ≥ 0)) (cond (decide (x49 < ((v26.length : Nat) : Int))) (cond (decide ((0 : Int) ≤ x49 ∧ x49 < ((v26.length : Nat) : Int))) (cond (decide (0 + x49.toNat < v26.length)) (c20_1 x49 (v26.getD (0 + x49.toNat) ByteArray.empty) v32 v33 v34 v35 x92 x93 v38 v39 v40 v41 v42 v43 x94 x95 (fun x96 => cond (decide ((v46.length + 1) * 8 ≤ 70368744177664)) (cond (x96 != 0) (K2 x92 x93 v38 x87 x50 x94 x95 [x49] (v46 ++ [x49])) (l12 v18 v20 v21 v22 v23 v24 v25 v26 v27 v28 v29 v30 v31 v32 v33 v34 v35 v39 v40 v41 v42 v43 K0 K1 K2 K3 K4 K5 k (IntKind.i64.wrap (v19 + 1)) x92 x93 v38 x94 x95 (v46 ++ [x49]))) none) (fun x97 x98 => cond (decide ((v46.length + 1) * 8 ≤ 70368744177664)) (l12 v18 v20 v21 v22 v23 v24 v25 v26 v27 v28 v29 v30 v31 v32 v33 v34 v35 v39 v40 v41 v42 v43 K0 K1 K2 K3 K4 K5 k (IntKind.i64.wrap (v19 + 1)) x92 x93 x97 x94 x98 (v46 ++ [x49])) none) ) none) none) (l12 v18 v20 v21 v22 v23 v24 v25 v26 v27 v28 v29 v30 v31 v32 v33 v34 v35 v39 v40 v41 v42 v43 K0 K1 K2 K3 K4 K5 k (IntKind.i64.wrap (v19 + 1)) x92 x93 v38 x94 x95 v46)) (l12 v18 v20 v21 v22 v23 v24 v25 v26 v27 v28 v29 v30 v31 v32 v33 v34 v35 v39 v40 v41 v42 v43 K0 K1 K2 K3 K4 K5 k (IntKind.i64.wrap (v19 + 1)) x92 x93 v38 x94 x95 v46)) (l12 v18 v20 v21 v22 v23 v24 v25 v26 v27 v28 v29 v30 v31 v32 v33 v34 v35 v39 v40 v41 v42 v43 K0 K1 K2 K3 K4 K5 k (IntKind.i64.wrap (v19 + 1)) x92 x93 v38 x94 x95 v46)) ) F 0 []) ) (cond (x48 == 2) (cond (decide (x49 ≥ 0)) (cond (decide (x49 < ((v26.length : Nat) : Int))) (cond (decide ((0 : Int) ≤ x49 ∧ x49 < ((v26.length : Nat) : Int))) (cond (decide (0 + x49.toNat < v26.length)) (c20_1 x49 (v26.getD (0 + x49.toNat) ByteArray.empty) v32 v33 v34 v35 v36 v37 v38 v39 v40 v41 v42 v43 v44 v45 (fun x99 => cond (decide ((v46.length + 1) * 8 ≤ 70368744177664)) (cond (x99 != 0) (K3 v36 v37 v38 v44 v45 [x49] (v46 ++ [x49])) (l12 v18 v20 v21 v22 v23 v24 v25 v26 v27 v28 v29 v30 v31 v32 v33 v34 v35 v39 v40 v41 v42 v43 K0 K1 K2 K3 K4 K5 k (IntKind.i64.wrap (v19 + 1)) v36 v37 v38 v44 v45 (v46 ++ [x49]))) none) (fun x100 x101 => cond (decide ((v46.length + 1) * 8 ≤ 70368744177664)) (l12 v18 v20 v21 v22 v23 v24 v25 v26 v27 v28 v29 v30 v31 v32 v33 v34 v35 v39 v40 v41 v42 v43 K0 K1 K2 K3 K4 K5 k (IntKind.i64.wrap (v19 + 1)) v36 v37 x100 v44 x101 (v46 ++ [x49])) none) ) none) none) (K4 v36 v37 v38 v44 v45 v46)) (K4 v36 v37 v38 v44 v45 v46)) (K4 v36 v37 v38 v44 v45 v46))) ) (K5 v36 v37 v38 v44 v45 v46)) ) (K5 v36 v37 v38 v44 v45 v46)) d.1.2.2.2.2.2.2.1 d.2.1.2.1 d.2.2.1.2.1 d.2.2.2.1.2.1 d.2.2.2.1.2.2.1 d.2.2.2.1.2.2.2.1 d.2.2.2.1.2.2.2.2.1 d.2.2.2.2.1.2.1 d.2.2.2.2.2.1.2.1 d.2.2.2.2.2.1.2.2.1 d.2.2.2.2.2.1.2.2.2.1 d.2.2.2.2.2.1.2.2.2.2.1 d.2.2.2.2.2.2.1.2.1 d.2.2.2.2.2.2.2.1.2.1 d.2.2.2.2.2.2.2.1.2.2.1 d.2.2.2.2.2.2.2.1.2.2.2.1 d.2.2.2.2.2.2.2.1.2.2.2.2.1 d.2.2.2.2.2.2.2.2.1.2.1 d.2.2.2.2.2.2.2.2.1.2.2.1 d.2.2.2.2.2.2.2.2.1.2.2.2.1 d.2.2.2.2.2.2.2.2.1.2.2.2.2.1 d.2.2.2.2.2.2.2.2.2.1.2.1 (fun (y17 : Int) (y18 : Int) (y19 : Int) (y25 : List (Int × ByteArray)) (y26 : List (Int × ByteArray)) (y27 : List ByteArray) (y28 : List Int) (y29 : List Int) (y30 : List Int) => K .ret [.tv (.lf (.bool false))] [some ⟨d.2.1.1, [.seq (.int .u8) 0 d.2.1.2.1]⟩, some ⟨d.2.2.1.1, [.seq (.int .u8) 0 d.2.2.1.2.1]⟩, some ⟨false, [.int .i64 d.2.2.2.1.2.1, .int .i64 d.2.2.2.1.2.2.1, .int .i64 d.2.2.2.1.2.2.2.1, .int .i64 d.2.2.2.1.2.2.2.2.1]⟩, some ⟨false, [.seq .str 0 d.2.2.2.2.1.2.1]⟩, some ⟨false, [.int .i64 d.2.2.2.2.2.1.2.1, .int .i64 d.2.2.2.2.2.1.2.2.1, .int .i64 d.2.2.2.2.2.1.2.2.2.1, .int .i64 d.2.2.2.2.2.1.2.2.2.2.1, .full 5]⟩, some ⟨false, [.seq .str 0 d.2.2.2.2.2.2.1.2.1]⟩, some ⟨false, [.int .i64 d.2.2.2.2.2.2.2.1.2.1, .int .i64 d.2.2.2.2.2.2.2.1.2.2.1, .int .i64 d.2.2.2.2.2.2.2.1.2.2.2.1, .int .i64 d.2.2.2.2.2.2.2.1.2.2.2.2.1, .ptr 7 0, .full 9, .full 10, .int .i64 y17, .int .i64 y18, .int .i64 y19]⟩, some ⟨false, [.int .i64 d.2.2.2.2.2.2.2.2.1.2.1, .int .i64 d.2.2.2.2.2.2.2.2.1.2.2.1, .int .i64 d.2.2.2.2.2.2.2.2.1.2.2.2.1, .int .i64 d.2.2.2.2.2.2.2.2.1.2.2.2.2.1, .full 8]⟩, some ⟨false, [.seq .str 0 d.2.2.2.2.2.2.2.2.2.1.2.1]⟩, some ⟨false, [.seq (.pair (.int .i64) .str) 0 y25]⟩, some ⟨false, [.seq (.pair (.int .i64) .str) 0 y26]⟩, none, some ⟨false, [.seq .str 0 y27]⟩, some ⟨false, [.seq (.int .i64) 0 y28]⟩, some ⟨false, [.seq (.int .i64) 0 y29]⟩, some ⟨false, [.seq (.int .i64) 0 y30]⟩]) (fun (y17 : Int) (y18 : Int) (y19 : Int) (y25 : List (Int × ByteArray)) (y26 : List (Int × ByteArray)) (y27 : List Int) (y28 : List ByteArray) (y29 : List Int) => K .ret [.tv (.lf (.bool false))] [some ⟨d.2.1.1, [.seq (.int .u8) 0 d.2.1.2.1]⟩, some ⟨d.2.2.1.1, [.seq (.int .u8) 0 d.2.2.1.2.1]⟩, some ⟨false, [.int .i64 d.2.2.2.1.2.1, .int .i64 d.2.2.2.1.2.2.1, .int .i64 d.2.2.2.1.2.2.2.1, .int .i64 d.2.2.2.1.2.2.2.2.1]⟩, some ⟨false, [.seq .str 0 d.2.2.2.2.1.2.1]⟩, some ⟨false, [.int .i64 d.2.2.2.2.2.1.2.1, .int .i64 d.2.2.2.2.2.1.2.2.1, .int .i64 d.2.2.2.2.2.1.2.2.2.1, .int .i64 d.2.2.2.2.2.1.2.2.2.2.1, .full 5]⟩, some ⟨false, [.seq .str 0 d.2.2.2.2.2.2.1.2.1]⟩, some ⟨false, [.int .i64 d.2.2.2.2.2.2.2.1.2.1, .int .i64 d.2.2.2.2.2.2.2.1.2.2.1, .int .i64 d.2.2.2.2.2.2.2.1.2.2.2.1, .int .i64 d.2.2.2.2.2.2.2.1.2.2.2.2.1, .ptr 7 0, .full 9, .full 10, .int .i64 y17, .int .i64 y18, .int .i64 y19]⟩, some ⟨false, [.int .i64 d.2.2.2.2.2.2.2.2.1.2.1, .int .i64 d.2.2.2.2.2.2.2.2.1.2.2.1, .int .i64 d.2.2.2.2.2.2.2.2.1.2.2.2.1, .int .i64 d.2.2.2.2.2.2.2.2.1.2.2.2.2.1, .full 8]⟩, some ⟨false, [.seq .str 0 d.2.2.2.2.2.2.2.2.2.1.2.1]⟩, some ⟨false, [.seq (.pair (.int .i64) .str) 0 y25]⟩, some ⟨false, [.seq (.pair (.int .i64) .str) 0 y26]⟩, some ⟨false, [.seq (.int .i64) 0 y27]⟩, some ⟨false, [.seq .str 0 y28]⟩, some ⟨false, [.seq (.int .i64) 0 y29]⟩]) (fun (y17 : Int) (y18 : Int) (y19 : Int) (y25 : List ByteArray) (y26 : List Int) (y27 : List (Int × ByteArray)) (y28 : List (Int × ByteArray)) (y29 : List Int) (y30 : List Int) => K .ret [.tv (.lf (.bool false))] [some ⟨d.2.1.1, [.seq (.int .u8) 0 d.2.1.2.1]⟩, some ⟨d.2.2.1.1, [.seq (.int .u8) 0 d.2.2.1.2.1]⟩, some ⟨false, [.int .i64 d.2.2.2.1.2.1, .int .i64 d.2.2.2.1.2.2.1, .int .i64 d.2.2.2.1.2.2.2.1, .int .i64 d.2.2.2.1.2.2.2.2.1]⟩, some ⟨false, [.seq .str 0 d.2.2.2.2.1.2.1]⟩, some ⟨false, [.int .i64 d.2.2.2.2.2.1.2.1, .int .i64 d.2.2.2.2.2.1.2.2.1, .int .i64 d.2.2.2.2.2.1.2.2.2.1, .int .i64 d.2.2.2.2.2.1.2.2.2.2.1, .full 5]⟩, some ⟨false, [.seq .str 0 d.2.2.2.2.2.2.1.2.1]⟩, some ⟨false, [.int .i64 d.2.2.2.2.2.2.2.1.2.1, .int .i64 d.2.2.2.2.2.2.2.1.2.2.1, .int .i64 d.2.2.2.2.2.2.2.1.2.2.2.1, .int .i64 d.2.2.2.2.2.2.2.1.2.2.2.2.1, .ptr 7 0, .full 14, .full 15, .int .i64 y17, .int .i64 y18, .int .i64 y19]⟩, some ⟨false, [.int .i64 d.2.2.2.2.2.2.2.2.1.2.1, .int .i64 d.2.2.2.2.2.2.2.2.1.2.2.1, .int .i64 d.2.2.2.2.2.2.2.2.1.2.2.2.1, .int .i64 d.2.2.2.2.2.2.2.2.1.2.2.2.2.1, .full 8]⟩, some ⟨false, [.seq .str 0 d.2.2.2.2.2.2.2.2.2.1.2.1]⟩, none, none, none, some ⟨false, [.seq .str 0 y25]⟩, some ⟨false, [.seq (.int .i64) 0 y26]⟩, some ⟨false, [.seq (.pair (.int .i64) .str) 0 y27]⟩, some ⟨false, [.seq (.pair (.int .i64) .str) 0 y28]⟩, some ⟨false, [.seq (.int .i64) 0 y29]⟩, some ⟨false, [.seq (.int .i64) 0 y30]⟩]) (fun (y17 : Int) (y18 : Int) (y19 : Int) (y25 : List (Int × ByteArray)) (y26 : List (Int × ByteArray)) (y27 : List Int) (y28 : List Int) => K .ret [.tv (.lf (.bool false))] [some ⟨d.2.1.1, [.seq (.int .u8) 0 d.2.1.2.1]⟩, some ⟨d.2.2.1.1, [.seq (.int .u8) 0 d.2.2.1.2.1]⟩, some ⟨false, [.int .i64 d.2.2.2.1.2.1, .int .i64 d.2.2.2.1.2.2.1, .int .i64 d.2.2.2.1.2.2.2.1, .int .i64 d.2.2.2.1.2.2.2.2.1]⟩, some ⟨false, [.seq .str 0 d.2.2.2.2.1.2.1]⟩, some ⟨false, [.int .i64 d.2.2.2.2.2.1.2.1, .int .i64 d.2.2.2.2.2.1.2.2.1, .int .i64 d.2.2.2.2.2.1.2.2.2.1, .int .i64 d.2.2.2.2.2.1.2.2.2.2.1, .full 5]⟩, some ⟨false, [.seq .str 0 d.2.2.2.2.2.2.1.2.1]⟩, some ⟨false, [.int .i64 d.2.2.2.2.2.2.2.1.2.1, .int .i64 d.2.2.2.2.2.2.2.1.2.2.1, .int .i64 d.2.2.2.2.2.2.2.1.2.2.2.1, .int .i64 d.2.2.2.2.2.2.2.1.2.2.2.2.1, .ptr 7 0, .full 9, .full 10, .int .i64 y17, .int .i64 y18, .int .i64 y19]⟩, some ⟨false, [.int .i64 d.2.2.2.2.2.2.2.2.1.2.1, .int .i64 d.2.2.2.2.2.2.2.2.1.2.2.1, .int .i64 d.2.2.2.2.2.2.2.2.1.2.2.2.1, .int .i64 d.2.2.2.2.2.2.2.2.1.2.2.2.2.1, .full 8]⟩, some ⟨false, [.seq .str 0 d.2.2.2.2.2.2.2.2.2.1.2.1]⟩, some ⟨false, [.seq (.pair (.int .i64) .str) 0 y25]⟩, some ⟨false, [.seq (.pair (.int .i64) .str) 0 y26]⟩, none, some ⟨false, [.seq (.int .i64) 0 y27]⟩, some ⟨false, [.seq (.int .i64) 0 y28]⟩]) (fun (y17 : Int) (y18 : Int) (y19 : Int) (y25 : List (Int × ByteArray)) (y26 : List (Int × ByteArray)) (y27 : List Int) => K .ret [.tv (.lf (.bool false))] [some ⟨d.2.1.1, [.seq (.int .u8) 0 d.2.1.2.1]⟩, some ⟨d.2.2.1.1, [.seq (.int .u8) 0 d.2.2.1.2.1]⟩, some ⟨false, [.int .i64 d.2.2.2.1.2.1, .int .i64 d.2.2.2.1.2.2.1, .int .i64 d.2.2.2.1.2.2.2.1, .int .i64 d.2.2.2.1.2.2.2.2.1]⟩, some ⟨false, [.seq .str 0 d.2.2.2.2.1.2.1]⟩, some ⟨false, [.int .i64 d.2.2.2.2.2.1.2.1, .int .i64 d.2.2.2.2.2.1.2.2.1, .int .i64 d.2.2.2.2.2.1.2.2.2.1, .int .i64 d.2.2.2.2.2.1.2.2.2.2.1, .full 5]⟩, some ⟨false, [.seq .str 0 d.2.2.2.2.2.2.1.2.1]⟩, some ⟨false, [.int .i64 d.2.2.2.2.2.2.2.1.2.1, .int .i64 d.2.2.2.2.2.2.2.1.2.2.1, .int .i64 d.2.2.2.2.2.2.2.1.2.2.2.1, .int .i64 d.2.2.2.2.2.2.2.1.2.2.2.2.1, .ptr 7 0, .full 9, .full 10, .int .i64 y17, .int .i64 y18, .int .i64 y19]⟩, some ⟨false, [.int .i64 d.2.2.2.2.2.2.2.2.1.2.1, .int .i64 d.2.2.2.2.2.2.2.2.1.2.2.1, .int .i64 d.2.2.2.2.2.2.2.2.1.2.2.2.1, .int .i64 d.2.2.2.2.2.2.2.2.1.2.2.2.2.1, .full 8]⟩, some ⟨false, [.seq .str 0 d.2.2.2.2.2.2.2.2.2.1.2.1]⟩, some ⟨false, [.seq (.pair (.int .i64) .str) 0 y25]⟩, some ⟨false, [.seq (.pair (.int .i64) .str) 0 y26]⟩, some ⟨false, [.seq (.int .i64) 0 y27]⟩]) (fun (y16 : Int) (y17 : Int) (y18 : Int) (y24 : List (Int × ByteArray)) (y25 : List (Int × ByteArray)) (y26 : List Int) => K (.exit 0) [.tv (.lf (.full 0)), .tv (.lf (.ptr 2 0)), .tv (.lf (.ptr 4 0)), .tv (.lf (.ptr 6 0)), .tv (.lf (.full 11))] [some ⟨d.2.1.1, [.seq (.int .u8) 0 d.2.1.2.1]⟩, some ⟨d.2.2.1.1, [.seq (.int .u8) 0 d.2.2.1.2.1]⟩, some ⟨false, [.int .i64 d.2.2.2.1.2.1, .int .i64 d.2.2.2.1.2.2.1, .int .i64 d.2.2.2.1.2.2.2.1, .int .i64 d.2.2.2.1.2.2.2.2.1]⟩, some ⟨false, [.seq .str 0 d.2.2.2.2.1.2.1]⟩, some ⟨false, [.int .i64 d.2.2.2.2.2.1.2.1, .int .i64 d.2.2.2.2.2.1.2.2.1, .int .i64 d.2.2.2.2.2.1.2.2.2.1, .int .i64 d.2.2.2.2.2.1.2.2.2.2.1, .full 5]⟩, some ⟨false, [.seq .str 0 d.2.2.2.2.2.2.1.2.1]⟩, some ⟨false, [.int .i64 d.2.2.2.2.2.2.2.1.2.1, .int .i64 d.2.2.2.2.2.2.2.1.2.2.1, .int .i64 d.2.2.2.2.2.2.2.1.2.2.2.1, .int .i64 d.2.2.2.2.2.2.2.1.2.2.2.2.1, .ptr 7 0, .full 9, .full 10, .int .i64 y16, .int .i64 y17, .int .i64 y18]⟩, some ⟨false, [.int .i64 d.2.2.2.2.2.2.2.2.1.2.1, .int .i64 d.2.2.2.2.2.2.2.2.1.2.2.1, .int .i64 d.2.2.2.2.2.2.2.2.1.2.2.2.1, .int .i64 d.2.2.2.2.2.2.2.2.1.2.2.2.2.1, .full 8]⟩, some ⟨false, [.seq .str 0 d.2.2.2.2.2.2.2.2.2.1.2.1]⟩, some ⟨false, [.seq (.pair (.int .i64) .str) 0 y24]⟩, some ⟨false, [.seq (.pair (.int .i64) .str) 0 y25]⟩, some ⟨false, [.seq (.int .i64) 0 y26]⟩]) k d.1.2.2.2.2.2.2.2.1 d.2.2.2.2.2.2.2.1.2.2.2.2.2.2.2.2.1 d.2.2.2.2.2.2.2.1.2.2.2.2.2.2.2.2.2.1 d.2.2.2.2.2.2.2.1.2.2.2.2.2.2.2.2.2.2.1 d.2.2.2.2.2.2.2.2.2.2.1.2.1 d.2.2.2.2.2.2.2.2.2.2.2.1.2.1 d.2.2.2.2.2.2.2.2.2.2.2.2.1.2.1 = roundOf Try.prog (tab [(7, (mkS sh7_1 (fun d K => c7_1 d.1.1.1 d.1.1.2.1 d.1.1.2.2.1 d.1.1.2.2.2.1 (fun (y0 : Bool) => K [.lf (.bool y0)] [])) noS)), (8, (mkS sh8_1 (fun d K => c8_1 (fun (y0 : Bool) => K [.lf (.bool y0)] [])) noS)), (9, (mkS sh9_1 (fun d K => c9_1 d.1.1.1 d.1.1.2.1 d.1.1.2.2.1 d.1.1.2.2.2.1 d.2.1.2.1 (fun (y1 : List ByteArray) => K [.lf (.full 1)] [some ⟨d.2.1.1, [.seq (.int .u8) 0 d.2.1.2.1]⟩, some ⟨false, [.seq .str 0 y1]⟩])) noS)), (10, (mkS sh10_1 (fun d K => c10_1 d.1.1.1 d.1.1.2.1 d.1.1.2.2.1 d.1.1.2.2.2.1 d.2.1.2.1 (fun (y0 : Int) => K [.lf (.nilp), .lf (.int .i64 y0)] [some ⟨d.2.1.1, [.seq .str 0 d.2.1.2.1]⟩]) (fun (y6 : List ByteArray) => K [.lf (.ptr 1 0), .lf (.int .i64 0)] [some ⟨d.2.1.1, [.seq .str 0 d.2.1.2.1]⟩, some ⟨false, [.int .i64 d.1.1.1, .int .i64 d.1.1.2.1, .int .i64 d.1.1.2.2.1, .int .i64 d.1.1.2.2.2.1, .full 2]⟩, some ⟨false, [.seq .str 0 y6]⟩])) noS)), (11, (mkS sh11_1 (fun d K => c11_1 d.1.1.1 d.1.1.2.1 d.1.1.2.2.1 d.1.1.2.2.2.1 d.2.1.2.1 (fun (y0 : Int) => K [.lf (.nilp), .lf (.int .i64 y0)] [some ⟨d.2.1.1, [.seq .str 0 d.2.1.2.1]⟩]) (fun (y6 : List ByteArray) => K [.lf (.ptr 1 0), .lf (.int .i64 0)] [some ⟨d.2.1.1, [.seq .str 0 d.2.1.2.1]⟩, some ⟨false, [.int .i64 d.1.1.1, .int .i64 d.1.1.2.1, .int .i64 d.1.1.2.2.1, .int .i64 d.1.1.2.2.2.1, .full 2]⟩, some ⟨false, [.seq .str 0 y6]⟩])) noS)), (12, (mkS sh12_1 (fun d K => c12_1 d.1.2.1 d.2.1.2.1 d.2.1.2.2.1 d.2.1.2.2.2.1 d.2.1.2.2.2.2.1 d.2.2.1.2.1 (K [.lf (.nilp), .lf (.int .i64 4)] [some ⟨d.2.1.1, [.int .i64 d.2.1.2.1, .int .i64 d.2.1.2.2.1, .int .i64 d.2.1.2.2.2.1, .int .i64 d.2.1.2.2.2.2.1, .full 1]⟩, some ⟨d.2.2.1.1, [.seq .str 0 d.2.2.1.2.1]⟩]) (fun (y17 : List ByteArray) (y18 : List (Int × ByteArray)) (y19 : List (Int × ByteArray)) => K [.lf (.ptr 2 0), .lf (.int .i64 0)] [some ⟨d.2.1.1, [.int .i64 d.2.1.2.1, .int .i64 d.2.1.2.2.1, .int .i64 d.2.1.2.2.2.1, .int .i64 d.2.1.2.2.2.2.1, .full 1]⟩, some ⟨d.2.2.1.1, [.seq .str 0 d.2.2.1.2.1]⟩, some ⟨false, [.int .i64 d.2.1.2.1, .int .i64 d.2.1.2.2.1, .int .i64 d.2.1.2.2.2.1, .int .i64 d.2.1.2.2.2.2.1, .ptr 3 0, .full 5, .full 6, .int .i64 0, .int .i64 0, .int .i64 0]⟩, some ⟨false, [.int .i64 d.2.1.2.1, .int .i64 d.2.1.2.2.1, .int .i64 d.2.1.2.2.2.1, .int .i64 d.2.1.2.2.2.2.1, .full 4]⟩, some ⟨false, [.seq .str 0 y17]⟩, some ⟨false, [.seq (.pair (.int .i64) .str) 0 y18]⟩, some ⟨false, [.seq (.pair (.int .i64) .str) 0 y19]⟩])) (mkS sh12_115 (fun d K => c12_115 d.1.2.1 (K [.lf (.nilp), .lf (.int .i64 1)] [])) noS))), (13, (mkS sh13_1 (fun d K => c13_1 d.2.1.2.1 d.2.1.2.2.1 d.2.1.2.2.2.1 d.2.1.2.2.2.2.1 d.2.2.1.2.1 (fun (y0 : ByteArray) => K [.lf (.str y0)] [some ⟨d.2.1.1, [.int .i64 d.2.1.2.1, .int .i64 d.2.1.2.2.1, .int .i64 d.2.1.2.2.2.1, .int .i64 d.2.1.2.2.2.2.1, .full 1]⟩, some ⟨d.2.2.1.1, [.seq .str 0 d.2.2.1.2.1]⟩])) (mkS sh13_568 (fun d K => c13_568) noS))), (14, (mkS sh14_1 (fun d K => c14_1 d.1.1.1 d.1.1.2.1 d.1.1.2.2.1 d.1.1.2.2.2.1 (fun (y0 : Int) => K [.lf (.int .i64 y0)] [])) noS)), (15, (mkS sh15_1 (fun d K => c15_1 d.2.1.2.1 d.2.1.2.2.1 d.2.1.2.2.2.1 d.2.1.2.2.2.2.1 d.2.1.2.2.2.2.2.2.2.2.1 d.2.1.2.2.2.2.2.2.2.2.2.1 d.2.1.2.2.2.2.2.2.2.2.2.2.1 d.2.2.1.2.1 d.2.2.1.2.2.1 d.2.2.1.2.2.2.1 d.2.2.1.2.2.2.2.1 d.2.2.2.1.2.1 d.2.2.2.2.1.2.1 d.2.2.2.2.2.1.2.1 (fun (y0 : Bool) => K [.lf (.bool y0)] [some ⟨d.2.1.1, [.int .i64 d.2.1.2.1, .int .i64 d.2.1.2.2.1, .int .i64 d.2.1.2.2.2.1, .int .i64 d.2.1.2.2.2.2.1, .ptr 1 0, .full 3, .full 4, .int .i64 d.2.1.2.2.2.2.2.2.2.2.1, .int .i64 d.2.1.2.2.2.2.2.2.2.2.2.1, .int .i64 d.2.1.2.2.2.2.2.2.2.2.2.2.1]⟩, some ⟨d.2.2.1.1, [.int .i64 d.2.2.1.2.1, .int .i64 d.2.2.1.2.2.1, .int .i64 d.2.2.1.2.2.2.1, .int .i64 d.2.2.1.2.2.2.2.1, .full 2]⟩, some ⟨d.2.2.2.1.1, [.seq .str 0 d.2.2.2.1.2.1]⟩, some ⟨d.2.2.2.2.1.1, [.seq (.pair (.int .i64) .str) 0 d.2.2.2.2.1.2.1]⟩, some ⟨d.2.2.2.2.2.1.1, [.seq (.pair (.int .i64) .str) 0 d.2.2.2.2.2.1.2.1]⟩])) noS)), (16, (mkS sh16_1 (fun d K => c16_1 d.2.1.2.1 d.2.1.2.2.1 d.2.1.2.2.2.1 d.2.1.2.2.2.2.1 d.2.1.2.2.2.2.2.2.2.2.1 d.2.1.2.2.2.2.2.2.2.2.2.1 d.2.1.2.2.2.2.2.2.2.2.2.2.1 d.2.2.1.2.1 d.2.2.1.2.2.1 d.2.2.1.2.2.2.1 d.2.2.1.2.2.2.2.1 d.2.2.2.1.2.1 d.2.2.2.2.1.2.1 d.2.2.2.2.2.1.2.1 (fun (y0 : Int) (y1 : Int) => K [.lf (.int .i64 y0), .lf (.int .i64 y1)] [some ⟨d.2.1.1, [.int .i64 d.2.1.2.1, .int .i64 d.2.1.2.2.1, .int .i64 d.2.1.2.2.2.1, .int .i64 d.2.1.2.2.2.2.1, .ptr 1 0, .full 3, .full 4, .int .i64 d.2.1.2.2.2.2.2.2.2.2.1, .int .i64 d.2.1.2.2.2.2.2.2.2.2.2.1, .int .i64 d.2.1.2.2.2.2.2.2.2.2.2.2.1]⟩, some ⟨d.2.2.1.1, [.int .i64 d.2.2.1.2.1, .int .i64 d.2.2.1.2.2.1, .int .i64 d.2.2.1.2.2.2.1, .int .i64 d.2.2.1.2.2.2.2.1, .full 2]⟩, some ⟨d.2.2.2.1.1, [.seq .str 0 d.2.2.2.1.2.1]⟩, some ⟨d.2.2.2.2.1.1, [.seq (.pair (.int .i64) .str) 0 d.2.2.2.2.1.2.1]⟩, some ⟨d.2.2.2.2.2.1.1, [.seq (.pair (.int .i64) .str) 0 d.2.2.2.2.2.1.2.1]⟩])) noS)), (17, (mkS sh17_1 (fun d K => c17_1 d.1.1.1 d.1.1.2.1 d.1.1.2.2.1 d.1.1.2.2.2.1 d.1.2.1 (fun (y0 : List Int) => K [.lf (.full 0)] [some ⟨false, [.seq (.int .i64) 0 y0]⟩])) noS)), (18, (mkS sh18_1 (fun d K => c18_1 d.1.2.1 d.2.1.2.1 d.2.1.2.2.1 d.2.1.2.2.2.1 d.2.1.2.2.2.2.1 d.2.2.1.2.1 (fun (y0 : ByteArray) (y1 : Int) => K [.lf (.str y0), .lf (.int .i64 y1)] [some ⟨d.2.1.1, [.int .i64 d.2.1.2.1, .int .i64 d.2.1.2.2.1, .int .i64 d.2.1.2.2.2.1, .int .i64 d.2.1.2.2.2.2.1, .full 1]⟩, some ⟨d.2.2.1.1, [.seq .str 0 d.2.2.1.2.1]⟩])) noS)), (19, (mkS sh19_1 (fun d K => c19_1 d.1.2.1 d.2.1.2.1 d.2.1.2.2.1 d.2.1.2.2.2.1 d.2.1.2.2.2.2.1 d.2.1.2.2.2.2.2.2.2.2.1 d.2.1.2.2.2.2.2.2.2.2.2.1 d.2.1.2.2.2.2.2.2.2.2.2.2.1 d.2.2.1.2.1 d.2.2.1.2.2.1 d.2.2.1.2.2.2.1 d.2.2.1.2.2.2.2.1 d.2.2.2.1.2.1 d.2.2.2.2.1.2.1 d.2.2.2.2.2.1.2.1 d.2.2.2.2.2.2.1.2.1 (fun (y0 : Int) => K [.lf (.int .i64 y0)] [some ⟨false, [.int .i64 d.2.1.2.1, .int .i64 d.2.1.2.2.1, .int .i64 d.2.1.2.2.2.1, .int .i64 d.2.1.2.2.2.2.1, .ptr 1 0, .full 3, .full 4, .int .i64 d.2.1.2.2.2.2.2.2.2.2.1, .int .i64 d.2.1.2.2.2.2.2.2.2.2.2.1, .int .i64 d.2.1.2.2.2.2.2.2.2.2.2.2.1]⟩, some ⟨d.2.2.1.1, [.int .i64 d.2.2.1.2.1, .int .i64 d.2.2.1.2.2.1, .int .i64 d.2.2.1.2.2.2.1, .int .i64 d.2.2.1.2.2.2.2.1, .full 2]⟩, some ⟨d.2.2.2.1.1, [.seq .str 0 d.2.2.2.1.2.1]⟩, some ⟨false, [.seq (.pair (.int .i64) .str) 0 d.2.2.2.2.1.2.1]⟩, some ⟨false, [.seq (.pair (.int .i64) .str) 0 d.2.2.2.2.2.1.2.1]⟩, some ⟨d.2.2.2.2.2.2.1.1, [.seq .str 0 d.2.2.2.2.2.2.1.2.1]⟩]) (fun (y5 : Int) (y6 : Int) (y14 : List (Int × ByteArray)) (y15 : List (Int × ByteArray)) => K [.lf (.int .i64 0)] [some ⟨false, [.int .i64 d.2.1.2.1, .int .i64 d.2.1.2.2.1, .int .i64 d.2.1.2.2.2.1, .int .i64 d.2.1.2.2.2.2.1, .ptr 1 0, .full 6, .full 7, .int .i64 y5, .int .i64 y6, .int .i64 d.2.1.2.2.2.2.2.2.2.2.2.2.1]⟩, some ⟨d.2.2.1.1, [.int .i64 d.2.2.1.2.1, .int .i64 d.2.2.1.2.2.1, .int .i64 d.2.2.1.2.2.2.1, .int .i64 d.2.2.1.2.2.2.2.1, .full 2]⟩, some ⟨d.2.2.2.1.1, [.seq .str 0 d.2.2.2.1.2.1]⟩, none, none, some ⟨d.2.2.2.2.2.2.1.1, [.seq .str 0 d.2.2.2.2.2.2.1.2.1]⟩, some ⟨false, [.seq (.pair (.int .i64) .str) 0 y14]⟩, some ⟨false, [.seq (.pair (.int .i64) .str) 0 y15]⟩])) noS)), (20, (mkS sh20_1 (fun d K => c20_1 d.1.2.1 d.1.2.2.1 d.2.1.2.1 d.2.1.2.2.1 d.2.1.2.2.2.1 d.2.1.2.2.2.2.1 d.2.1.2.2.2.2.2.2.2.2.1 d.2.1.2.2.2.2.2.2.2.2.2.1 d.2.1.2.2.2.2.2.2.2.2.2.2.1 d.2.2.1.2.1 d.2.2.1.2.2.1 d.2.2.1.2.2.2.1 d.2.2.1.2.2.2.2.1 d.2.2.2.1.2.1 d.2.2.2.2.1.2.1 d.2.2.2.2.2.1.2.1 (fun (y0 : Int) => K [.lf (.int .i64 y0)] [some ⟨false, [.int .i64 d.2.1.2.1, .int .i64 d.2.1.2.2.1, .int .i64 d.2.1.2.2.2.1, .int .i64 d.2.1.2.2.2.2.1, .ptr 1 0, .full 3, .full 4, .int .i64 d.2.1.2.2.2.2.2.2.2.2.1, .int .i64 d.2.1.2.2.2.2.2.2.2.2.2.1, .int .i64 d.2.1.2.2.2.2.2.2.2.2.2.2.1]⟩, some ⟨d.2.2.1.1, [.int .i64 d.2.2.1.2.1, .int .i64 d.2.2.1.2.2.1, .int .i64 d.2.2.1.2.2.2.1, .int .i64 d.2.2.1.2.2.2.2.1, .full 2]⟩, some ⟨d.2.2.2.1.1, [.seq .str 0 d.2.2.2.1.2.1]⟩, some ⟨d.2.2.2.2.1.1, [.seq (.pair (.int .i64) .str) 0 d.2.2.2.2.1.2.1]⟩, some ⟨false, [.seq (.pair (.int .i64) .str) 0 d.2.2.2.2.2.1.2.1]⟩]) (fun (y7 : Int) (y14 : List (Int × ByteArray)) => K [.lf (.int .i64 0)] [some ⟨false, [.int .i64 d.2.1.2.1, .int .i64 d.2.1.2.2.1, .int .i64 d.2.1.2.2.2.1, .int .i64 d.2.1.2.2.2.2.1, .ptr 1 0, .full 3, .full 5, .int .i64 d.2.1.2.2.2.2.2.2.2.2.1, .int .i64 d.2.1.2.2.2.2.2.2.2.2.2.1, .int .i64 y7]⟩, some ⟨d.2.2.1.1, [.int .i64 d.2.2.1.2.1, .int .i64 d.2.2.1.2.2.1, .int .i64 d.2.2.1.2.2.2.1, .int .i64 d.2.2.1.2.2.2.2.1, .full 2]⟩, some ⟨d.2.2.2.1.1, [.seq .str 0 d.2.2.2.1.2.1]⟩, some ⟨d.2.2.2.2.1.1, [.seq (.pair (.int .i64) .str) 0 d.2.2.2.2.1.2.1]⟩, none, some ⟨false, [.seq (.pair (.int .i64) .str) 0 y14]⟩])) noS)), (21, (mkS sh21_1 (fun d K => c21_1 d.2.1.2.1 d.2.1.2.2.1 d.2.1.2.2.2.1 d.2.1.2.2.2.2.1 d.2.2.1.2.1 d.2.2.2.1.2.1 d.2.2.2.1.2.2.1 d.2.2.2.1.2.2.2.1 d.2.2.2.1.2.2.2.2.1 d.2.2.2.2.1.2.1 (fun (y0 : Int) (y1 : Int) (y12 : List Int) => K [.lf (.full 4), .lf (.int .i64 y0), .lf (.int .i64 y1)] [some ⟨d.2.1.1, [.int .i64 d.2.1.2.1, .int .i64 d.2.1.2.2.1, .int .i64 d.2.1.2.2.2.1, .int .i64 d.2.1.2.2.2.2.1, .full 1]⟩, some ⟨d.2.2.1.1, [.seq .str 0 d.2.2.1.2.1]⟩, some ⟨d.2.2.2.1.1, [.int .i64 d.2.2.2.1.2.1, .int .i64 d.2.2.2.1.2.2.1, .int .i64 d.2.2.2.1.2.2.2.1, .int .i64 d.2.2.2.1.2.2.2.2.1, .full 3]⟩, some ⟨d.2.2.2.2.1.1, [.seq .str 0 d.2.2.2.2.1.2.1]⟩, some ⟨false, [.seq (.int .i64) 0 y12]⟩])) (mkS sh21_1545 (fun d K => c21_1545 d.2.1.2.1 d.2.1.2.2.1 d.2.1.2.2.2.1 d.2.1.2.2.2.2.1 d.2.2.1.2.1) noS))), (22, (mkS sh22_1 (fun d K => c22_1 d.2.1.2.1 d.2.1.2.2.1 d.2.1.2.2.2.1 d.2.1.2.2.2.2.1 d.2.1.2.2.2.2.2.2.2.2.1 d.2.1.2.2.2.2.2.2.2.2.2.1 d.2.1.2.2.2.2.2.2.2.2.2.2.1 d.2.2.1.2.1 d.2.2.1.2.2.1 d.2.2.1.2.2.2.1 d.2.2.1.2.2.2.2.1 d.2.2.2.1.2.1 d.2.2.2.2.1.2.1 d.2.2.2.2.2.1.2.1 (K [.lf (.int .i64 d.2.1.2.2.2.2.2.2.2.2.1), .lf (.int .i64 d.2.1.2.2.2.2.2.2.2.2.2.1), .lf (.int .i64 d.2.1.2.2.2.2.2.2.2.2.2.2.1)] [some ⟨d.2.1.1, [.int .i64 d.2.1.2.1, .int .i64 d.2.1.2.2.1, .int .i64 d.2.1.2.2.2.1, .int .i64 d.2.1.2.2.2.2.1, .ptr 1 0, .full 3, .full 4, .int .i64 d.2.1.2.2.2.2.2.2.2.2.1, .int .i64 d.2.1.2.2.2.2.2.2.2.2.2.1, .int .i64 d.2.1.2.2.2.2.2.2.2.2.2.2.1]⟩, some ⟨d.2.2.1.1, [.int .i64 d.2.2.1.2.1, .int .i64 d.2.2.1.2.2.1, .int .i64 d.2.2.1.2.2.2.1, .int .i64 d.2.2.1.2.2.2.2.1, .full 2]⟩, some ⟨d.2.2.2.1.1, [.seq .str 0 d.2.2.2.1.2.1]⟩, some ⟨d.2.2.2.2.1.1, [.seq (.pair (.int .i64) .str) 0 d.2.2.2.2.1.2.1]⟩, some ⟨d.2.2.2.2.2.1.1, [.seq (.pair (.int .i64) .str) 0 d.2.2.2.2.2.1.2.1]⟩])) noS)), (23, (mkS sh23_1 (fun d K => c23_1 d.2.1.2.1 d.2.2.1.2.1 (fun (y0 : Bool) => K [.lf (.bool y0)] [some ⟨d.2.1.1, [.seq (.int .i64) 0 d.2.1.2.1]⟩, some ⟨d.2.2.1.1, [.seq (.int .i64) 0 d.2.2.1.2.1]⟩])) noS)), (24, (mkS sh24_1 (fun d K => c24_1 d.1.1.1 d.1.1.2.1 d.1.1.2.2.1 d.1.1.2.2.2.1 (fun (y0 : Int) => K [.lf (.int .i64 y0)] [])) noS))]) (xw []) 187 2 (ltab [(20, mkG sh3_1_l20 [1, 3, 7, 10, 12, 14, 15, 16, 17, 18, 20, 21, 22] (outT [(.exit 2, [1, 3, 7, 10, 12, 14, 15, 16, 17, 18, 20])]) (fun d K => l20 d.1.2.2.2.2.2.2.1 d.1.2.2.2.2.2.2.2.1 d.1.2.2.2.2.2.2.2.2.1 d.1.2.2.2.2.2.2.2.2.2.1 d.2.1.2.1 d.2.2.1.2.1 d.2.2.2.1.2.1 d.2.2.2.1.2.2.1 d.2.2.2.1.2.2.2.1 d.2.2.2.1.2.2.2.2.1 d.2.2.2.2.1.2.1 d.2.2.2.2.2.1.2.1 d.2.2.2.2.2.1.2.2.1 d.2.2.2.2.2.1.2.2.2.1 d.2.2.2.2.2.1.2.2.2.2.1 d.2.2.2.2.2.2.1.2.1 d.2.2.2.2.2.2.2.1.2.1 d.2.2.2.2.2.2.2.1.2.2.1 d.2.2.2.2.2.2.2.1.2.2.2.1 d.2.2.2.2.2.2.2.1.2.2.2.2.1 d.2.2.2.2.2.2.2.1.2.2.2.2.2.2.2.2.1 d.2.2.2.2.2.2.2.1.2.2.2.2.2.2.2.2.2.1 d.2.2.2.2.2.2.2.1.2.2.2.2.2.2.2.2.2.2.1 d.2.2.2.2.2.2.2.2.1.2.1 d.2.2.2.2.2.2.2.2.1.2.2.1 d.2.2.2.2.2.2.2.2.1.2.2.2.1 d.2.2.2.2.2.2.2.2.1.2.2.2.2.1 d.2.2.2.2.2.2.2.2.2.1.2.1 d.2.2.2.2.2.2.2.2.2.2.1.2.1 d.2.2.2.2.2.2.2.2.2.2.2.1.2.1 d.2.2.2.2.2.2.2.2.2.2.2.2.1.2.1 d.2.2.2.2.2.2.2.2.2.2.2.2.2.2.1.2.1 (fun (y31 : List ByteArray) => K (.exit 2) [.tv (.lf (.full 0)), .tv (.lf (.ptr 2 0)), .tv (.lf (.full 3)), .tv (.lf (.ptr 4 0)), .tv (.lf (.ptr 6 0)), .tv (.lf (.full 11)), .tv (.lf (.int .i64 d.1.2.2.2.2.2.2.1)), .tv (.lf (.int .i64 d.1.2.2.2.2.2.2.2.1)), .tv (.lf (.int .i64 d.1.2.2.2.2.2.2.2.2.1)), .tv (.lf (.int .i64 d.1.2.2.2.2.2.2.2.2.2.1)), .tv (.lf (.full 12))] [some ⟨d.2.1.1, [.seq (.int .u8) 0 d.2.1.2.1]⟩, some ⟨d.2.2.1.1, [.seq (.int .u8) 0 d.2.2.1.2.1]⟩, some ⟨false, [.int .i64 d.2.2.2.1.2.1, .int .i64 d.2.2.2.1.2.2.1, .int .i64 d.2.2.2.1.2.2.2.1, .int .i64 d.2.2.2.1.2.2.2.2.1]⟩, some ⟨false, [.seq .str 0 d.2.2.2.2.1.2.1]⟩, some ⟨false, [.int .i64 d.2.2.2.2.2.1.2.1, .int .i64 d.2.2.2.2.2.1.2.2.1, .int .i64 d.2.2.2.2.2.1.2.2.2.1, .int .i64 d.2.2.2.2.2.1.2.2.2.2.1, .full 5]⟩, some ⟨false, [.seq .str 0 d.2.2.2.2.2.2.1.2.1]⟩, some ⟨false, [.int .i64 d.2.2.2.2.2.2.2.1.2.1, .int .i64 d.2.2.2.2.2.2.2.1.2.2.1, .int .i64 d.2.2.2.2.2.2.2.1.2.2.2.1, .int .i64 d.2.2.2.2.2.2.2.1.2.2.2.2.1, .ptr 7 0, .full 9, .full 10, .int .i64 d.2.2.2.2.2.2.2.1.2.2.2.2.2.2.2.2.1, .int .i64 d.2.2.2.2.2.2.2.1.2.2.2.2.2.2.2.2.2.1, .int .i64 d.2.2.2.2.2.2.2.1.2.2.2.2.2.2.2.2.2.2.1]⟩, some ⟨false, [.int .i64 d.2.2.2.2.2.2.2.2.1.2.1, .int .i64 d.2.2.2.2.2.2.2.2.1.2.2.1, .int .i64 d.2.2.2.2.2.2.2.2.1.2.2.2.1, .int .i64 d.2.2.2.2.2.2.2.2.1.2.2.2.2.1, .full 8]⟩, some ⟨false, [.seq .str 0 d.2.2.2.2.2.2.2.2.2.1.2.1]⟩, some ⟨false, [.seq (.pair (.int .i64) .str) 0 d.2.2.2.2.2.2.2.2.2.2.1.2.1]⟩, some ⟨false, [.seq (.pair (.int .i64) .str) 0 d.2.2.2.2.2.2.2.2.2.2.2.1.2.1]⟩, some ⟨false, [.seq (.int .i64) 0 d.2.2.2.2.2.2.2.2.2.2.2.2.1.2.1]⟩, some ⟨false, [.seq .str 0 y31]⟩, some ⟨false, [.seq (.int .i64) 0 d.2.2.2.2.2.2.2.2.2.2.2.2.2.2.1.2.1]⟩]) F d.1.2.2.2.2.2.2.2.2.2.2.2.2.1 d.2.2.2.2.2.2.2.2.2.2.2.2.2.1.2.1) []), (12, X12)]) (mkG sh3_1_l12 [1, 3, 7, 10, 12, 14, 15, 16] (outT [(.exit 0, [1, 3, 10, 12, 14]), (.ret, [6])]) (fun d K => l12 d.1.2.2.2.2.2.2.1 d.2.1.2.1 d.2.2.1.2.1 d.2.2.2.1.2.1 d.2.2.2.1.2.2.1 d.2.2.2.1.2.2.2.1 d.2.2.2.1.2.2.2.2.1 d.2.2.2.2.1.2.1 d.2.2.2.2.2.1.2.1 d.2.2.2.2.2.1.2.2.1 d.2.2.2.2.2.1.2.2.2.1 d.2.2.2.2.2.1.2.2.2.2.1 d.2.2.2.2.2.2.1.2.1 d.2.2.2.2.2.2.2.1.2.1 d.2.2.2.2.2.2.2.1.2.2.1 d.2.2.2.2.2.2.2.1.2.2.2.1 d.2.2.2.2.2.2.2.1.2.2.2.2.1 d.2.2.2.2.2.2.2.2.1.2.1 d.2.2.2.2.2.2.2.2.1.2.2.1 d.2.2.2.2.2.2.2.2.1.2.2.2.1 d.2.2.2.2.2.2.2.2.1.2.2.2.2.1 d.2.2.2.2.2.2.2.2.2.1.2.1 (fun (y17 : Int) (y18 : Int) (y19 : Int) (y25 : List (Int × ByteArray)) (y26 : List (Int × ByteArray)) (y27 : List ByteArray) (y28 : List Int) (y29 : List Int) (y30 : List Int) => K .ret [.tv (.lf (.bool false))] [some ⟨d.2.1.1, [.seq (.int .u8) 0 d.2.1.2.1]⟩, some ⟨d.2.2.1.1, [.seq (.int .u8) 0 d.2.2.1.2.1]⟩, some ⟨false, [.int .i64 d.2.2.2.1.2.1, .int .i64 d.2.2.2.1.2.2.1, .int .i64 d.2.2.2.1.2.2.2.1, .int .i64 d.2.2.2.1.2.2.2.2.1]⟩, some ⟨false, [.seq .str 0 d.2.2.2.2.1.2.1]⟩, some ⟨false, [.int .i64 d.2.2.2.2.2.1.2.1, .int .i64 d.2.2.2.2.2.1.2.2.1, .int .i64 d.2.2.2.2.2.1.2.2.2.1, .int .i64 d.2.2.2.2.2.1.2.2.2.2.1, .full 5]⟩, some ⟨false, [.seq .str 0 d.2.2.2.2.2.2.1.2.1]⟩, some ⟨false, [.int .i64 d.2.2.2.2.2.2.2.1.2.1, .int .i64 d.2.2.2.2.2.2.2.1.2.2.1, .int .i64 d.2.2.2.2.2.2.2.1.2.2.2.1, .int .i64 d.2.2.2.2.2.2.2.1.2.2.2.2.1, .ptr 7 0, .full 9, .full 10, .int .i64 y17, .int .i64 y18, .int .i64 y19]⟩, some ⟨false, [.int .i64 d.2.2.2.2.2.2.2.2.1.2.1, .int .i64 d.2.2.2.2.2.2.2.2.1.2.2.1, .int .i64 d.2.2.2.2.2.2.2.2.1.2.2.2.1, .int .i64 d.2.2.2.2.2.2.2.2.1.2.2.2.2.1, .full 8]⟩, some ⟨false, [.seq .str 0 d.2.2.2.2.2.2.2.2.2.1.2.1]⟩, some ⟨false, [.seq (.pair (.int .i64) .str) 0 y25]⟩, some ⟨false, [.seq (.pair (.int .i64) .str) 0 y26]⟩, none, some ⟨false, [.seq .str 0 y27]⟩, some ⟨false, [.seq (.int .i64) 0 y28]⟩, some ⟨false, [.seq (.int .i64) 0 y29]⟩, some ⟨false, [.seq (.int .i64) 0 y30]⟩]) (fun (y17 : Int) (y18 : Int) (y19 : Int) (y25 : List (Int × ByteArray)) (y26 : List (Int × ByteArray)) (y27 : List Int) (y28 : List ByteArray) (y29 : List Int) => K .ret [.tv (.lf (.bool false))] [some ⟨d.2.1.1, [.seq (.int .u8) 0 d.2.1.2.1]⟩, some ⟨d.2.2.1.1, [.seq (.int .u8) 0 d.2.2.1.2.1]⟩, some ⟨false, [.int .i64 d.2.2.2.1.2.1, .int .i64 d.2.2.2.1.2.2.1, .int .i64 d.2.2.2.1.2.2.2.1, .int .i64 d.2.2.2.1.2.2.2.2.1]⟩, some ⟨false, [.seq .str 0 d.2.2.2.2.1.2.1]⟩, some ⟨false, [.int .i64 d.2.2.2.2.2.1.2.1, .int .i64 d.2.2.2.2.2.1.2.2.1, .int .i64 d.2.2.2.2.2.1.2.2.2.1, .int .i64 d.2.2.2.2.2.1.2.2.2.2.1, .full 5]⟩, some ⟨false, [.seq .str 0 d.2.2.2.2.2.2.1.2.1]⟩, some ⟨false, [.int .i64 d.2.2.2.2.2.2.2.1.2.1, .int .i64 d.2.2.2.2.2.2.2.1.2.2.1, .int .i64 d.2.2.2.2.2.2.2.1.2.2.2.1, .int .i64 d.2.2.2.2.2.2.2.1.2.2.2.2.1, .ptr 7 0, .full 9, .full 10, .int .i64 y17, .int .i64 y18, .int .i64 y19]⟩, some ⟨false, [.int .i64 d.2.2.2.2.2.2.2.2.1.2.1, .int .i64 d.2.2.2.2.2.2.2.2.1.2.2.1, .int .i64 d.2.2.2.2.2.2.2.2.1.2.2.2.1, .int .i64 d.2.2.2.2.2.2.2.2.1.2.2.2.2.1, .full 8]⟩, some ⟨false, [.seq .str 0 d.2.2.2.2.2.2.2.2.2.1.2.1]⟩, some ⟨false, [.seq (.pair (.int .i64) .str) 0 y25]⟩, some ⟨false, [.seq (.pair (.int .i64) .str) 0 y26]⟩, some ⟨false, [.seq (.int .i64) 0 y27]⟩, some ⟨false, [.seq .str 0 y28]⟩, some ⟨false, [.seq (.int .i64) 0 y29]⟩]) (fun (y17 : Int) (y18 : Int) (y19 : Int) (y25 : List ByteArray) (y26 : List Int) (y27 : List (Int × ByteArray)) (y28 : List (Int × ByteArray)) (y29 : List Int) (y30 : List Int) => K .ret [.tv (.lf (.bool false))] [some ⟨d.2.1.1, [.seq (.int .u8) 0 d.2.1.2.1]⟩, some ⟨d.2.2.1.1, [.seq (.int .u8) 0 d.2.2.1.2.1]⟩, some ⟨false, [.int .i64 d.2.2.2.1.2.1, .int .i64 d.2.2.2.1.2.2.1, .int .i64 d.2.2.2.1.2.2.2.1, .int .i64 d.2.2.2.1.2.2.2.2.1]⟩, some ⟨false, [.seq .str 0 d.2.2.2.2.1.2.1]⟩, some ⟨false, [.int .i64 d.2.2.2.2.2.1.2.1, .int .i64 d.2.2.2.2.2.1.2.2.1, .int .i64 d.2.2.2.2.2.1.2.2.2.1, .int .i64 d.2.2.2.2.2.1.2.2.2.2.1, .full 5]⟩, some ⟨false, [.seq .str 0 d.2.2.2.2.2.2.1.2.1]⟩, some ⟨false, [.int .i64 d.2.2.2.2.2.2.2.1.2.1, .int .i64 d.2.2.2.2.2.2.2.1.2.2.1, .int .i64 d.2.2.2.2.2.2.2.1.2.2.2.1, .int .i64 d.2.2.2.2.2.2.2.1.2.2.2.2.1, .ptr 7 0, .full 14, .full 15, .int .i64 y17, .int .i64 y18, .int .i64 y19]⟩, some ⟨false, [.int .i64 d.2.2.2.2.2.2.2.2.1.2.1, .int .i64 d.2.2.2.2.2.2.2.2.1.2.2.1, .int .i64 d.2.2.2.2.2.2.2.2.1.2.2.2.1, .int .i64 d.2.2.2.2.2.2.2.2.1.2.2.2.2.1, .full 8]⟩, some ⟨false, [.seq .str 0 d.2.2.2.2.2.2.2.2.2.1.2.1]⟩, none, none, none, some ⟨false, [.seq .str 0 y25]⟩, some ⟨false, [.seq (.int .i64) 0 y26]⟩, some ⟨false, [.seq (.pair (.int .i64) .str) 0 y27]⟩, some ⟨false, [.seq (.pair (.int .i64) .str) 0 y28]⟩, some ⟨false, [.seq (.int .i64) 0 y29]⟩, some ⟨false, [.seq (.int .i64) 0 y30]⟩]) (fun (y17 : Int) (y18 : Int) (y19 : Int) (y25 : List (Int × ByteArray)) (y26 : List (Int × ByteArray)) (y27 : List Int) (y28 : List Int) => K .ret [.tv (.lf (.bool false))] [some ⟨d.2.1.1, [.seq (.int .u8) 0 d.2.1.2.1]⟩, some ⟨d.2.2.1.1, [.seq (.int .u8) 0 d.2.2.1.2.1]⟩, some ⟨false, [.int .i64 d.2.2.2.1.2.1, .int .i64 d.2.2.2.1.2.2.1, .int .i64 d.2.2.2.1.2.2.2.1, .int .i64 d.2.2.2.1.2.2.2.2.1]⟩, some ⟨false, [.seq .str 0 d.2.2.2.2.1.2.1]⟩, some ⟨false, [.int .i64 d.2.2.2.2.2.1.2.1, .int .i64 d.2.2.2.2.2.1.2.2.1, .int .i64 d.2.2.2.2.2.1.2.2.2.1, .int .i64 d.2.2.2.2.2.1.2.2.2.2.1, .full 5]⟩, some ⟨false, [.seq .str 0 d.2.2.2.2.2.2.1.2.1]⟩, some ⟨false, [.int .i64 d.2.2.2.2.2.2.2.1.2.1, .int .i64 d.2.2.2.2.2.2.2.1.2.2.1, .int .i64 d.2.2.2.2.2.2.2.1.2.2.2.1, .int .i64 d.2.2.2.2.2.2.2.1.2.2.2.2.1, .ptr 7 0, .full 9, .full 10, .int .i64 y17, .int .i64 y18, .int .i64 y19]⟩, some ⟨false, [.int .i64 d.2.2.2.2.2.2.2.2.1.2.1, .int .i64 d.2.2.2.2.2.2.2.2.1.2.2.1, .int .i64 d.2.2.2.2.2.2.2.2.1.2.2.2.1, .int .i64 d.2.2.2.2.2.2.2.2.1.2.2.2.2.1, .full 8]⟩, some ⟨false, [.seq .str 0 d.2.2.2.2.2.2.2.2.2.1.2.1]⟩, some ⟨false, [.seq (.pair (.int .i64) .str) 0 y25]⟩, some ⟨false, [.seq (.pair (.int .i64) .str) 0 y26]⟩, none, some ⟨false, [.seq (.int .i64) 0 y27]⟩, some ⟨false, [.seq (.int .i64) 0 y28]⟩]) (fun (y17 : Int) (y18 : Int) (y19 : Int) (y25 : List (Int × ByteArray)) (y26 : List (Int × ByteArray)) (y27 : List Int) => K .ret [.tv (.lf (.bool false))] [some ⟨d.2.1.1, [.seq (.int .u8) 0 d.2.1.2.1]⟩, some ⟨d.2.2.1.1, [.seq (.int .u8) 0 d.2.2.1.2.1]⟩, some ⟨false, [.int .i64 d.2.2.2.1.2.1, .int .i64 d.2.2.2.1.2.2.1, .int .i64 d.2.2.2.1.2.2.2.1, .int .i64 d.2.2.2.1.2.2.2.2.1]⟩, some ⟨false, [.seq .str 0 d.2.2.2.2.1.2.1]⟩, some ⟨false, [.int .i64 d.2.2.2.2.2.1.2.1, .int .i64 d.2.2.2.2.2.1.2.2.1, .int .i64 d.2.2.2.2.2.1.2.2.2.1, .int .i64 d.2.2.2.2.2.1.2.2.2.2.1, .full 5]⟩, some ⟨false, [.seq .str 0 d.2.2.2.2.2.2.1.2.1]⟩, some ⟨false, [.int .i64 d.2.2.2.2.2.2.2.1.2.1, .int .i64 d.2.2.2.2.2.2.2.1.2.2.1, .int .i64 d.2.2.2.2.2.2.2.1.2.2.2.1, .int .i64 d.2.2.2.2.2.2.2.1.2.2.2.2.1, .ptr 7 0, .full 9, .full 10, .int .i64 y17, .int .i64 y18, .int .i64 y19]⟩, some ⟨false, [.int .i64 d.2.2.2.2.2.2.2.2.1.2.1, .int .i64 d.2.2.2.2.2.2.2.2.1.2.2.1, .int .i64 d.2.2.2.2.2.2.2.2.1.2.2.2.1, .int .i64 d.2.2.2.2.2.2.2.2.1.2.2.2.2.1, .full 8]⟩, some ⟨false, [.seq .str 0 d.2.2.2.2.2.2.2.2.2.1.2.1]⟩, some ⟨false, [.seq (.pair (.int .i64) .str) 0 y25]⟩, some ⟨false, [.seq (.pair (.int .i64) .str) 0 y26]⟩, some ⟨false, [.seq (.int .i64) 0 y27]⟩]) (fun (y16 : Int) (y17 : Int) (y18 : Int) (y24 : List (Int × ByteArray)) (y25 : List (Int × ByteArray)) (y26 : List Int) => K (.exit 0) [.tv (.lf (.full 0)), .tv (.lf (.ptr 2 0)), .tv (.lf (.ptr 4 0)), .tv (.lf (.ptr 6 0)), .tv (.lf (.full 11))] [some ⟨d.2.1.1, [.seq (.int .u8) 0 d.2.1.2.1]⟩, some ⟨d.2.2.1.1, [.seq (.int .u8) 0 d.2.2.1.2.1]⟩, some ⟨false, [.int .i64 d.2.2.2.1.2.1, .int .i64 d.2.2.2.1.2.2.1, .int .i64 d.2.2.2.1.2.2.2.1, .int .i64 d.2.2.2.1.2.2.2.2.1]⟩, some ⟨false, [.seq .str 0 d.2.2.2.2.1.2.1]⟩, some ⟨false, [.int .i64 d.2.2.2.2.2.1.2.1, .int .i64 d.2.2.2.2.2.1.2.2.1, .int .i64 d.2.2.2.2.2.1.2.2.2.1, .int .i64 d.2.2.2.2.2.1.2.2.2.2.1, .full 5]⟩, some ⟨false, [.seq .str 0 d.2.2.2.2.2.2.1.2.1]⟩, some ⟨false, [.int .i64 d.2.2.2.2.2.2.2.1.2.1, .int .i64 d.2.2.2.2.2.2.2.1.2.2.1, .int .i64 d.2.2.2.2.2.2.2.1.2.2.2.1, .int .i64 d.2.2.2.2.2.2.2.1.2.2.2.2.1, .ptr 7 0, .full 9, .full 10, .int .i64 y16, .int .i64 y17, .int .i64 y18]⟩, some ⟨false, [.int .i64 d.2.2.2.2.2.2.2.2.1.2.1, .int .i64 d.2.2.2.2.2.2.2.2.1.2.2.1, .int .i64 d.2.2.2.2.2.2.2.2.1.2.2.2.1, .int .i64 d.2.2.2.2.2.2.2.2.1.2.2.2.2.1, .full 8]⟩, some ⟨false, [.seq .str 0 d.2.2.2.2.2.2.2.2.2.1.2.1]⟩, some ⟨false, [.seq (.pair (.int .i64) .str) 0 y24]⟩, some ⟨false, [.seq (.pair (.int .i64) .str) 0 y25]⟩, some ⟨false, [.seq (.int .i64) 0 y26]⟩]) k d.1.2.2.2.2.2.2.2.1 d.2.2.2.2.2.2.2.1.2.2.2.2.2.2.2.2.1 d.2.2.2.2.2.2.2.1.2.2.2.2.2.2.2.2.2.1 d.2.2.2.2.2.2.2.1.2.2.2.2.2.2.2.2.2.2.1 d.2.2.2.2.2.2.2.2.2.2.1.2.1 d.2.2.2.2.2.2.2.2.2.2.2.1.2.1 d.2.2.2.2.2.2.2.2.2.2.2.2.1.2.1) []) b3_0 (encT sh3_1_l12.vs d.1) (encH sh3_1_l12.h d.2) K := by kernel_rfl
theorem L3_1_12 (F : Nat) : LoopOK Try.prog (T3_1 F) (xw []) 187 2 (LT3_1 F) (G3_1_12 F F) b3_0 :=
  loopOK_of (s := sh3_1_l12) (live := [1, 3, 7, 10, 12, 14, 15, 16]) (out := (outT [(.exit 0, [1, 3, 10, 12, 14]), (.ret, [6])])) (mv := []) (fun k d K => f3_1_l12 F d.1.2.2.2.2.2.2.1 d.2.1.2.1 d.2.2.1.2.1 d.2.2.2.1.2.1 d.2.2.2.1.2.2.1 d.2.2.2.1.2.2.2.1 d.2.2.2.1.2.2.2.2.1 d.2.2.2.2.1.2.1 d.2.2.2.2.2.1.2.1 d.2.2.2.2.2.1.2.2.1 d.2.2.2.2.2.1.2.2.2.1 d.2.2.2.2.2.1.2.2.2.2.1 d.2.2.2.2.2.2.1.2.1 d.2.2.2.2.2.2.2.1.2.1 d.2.2.2.2.2.2.2.1.2.2.1 d.2.2.2.2.2.2.2.1.2.2.2.1 d.2.2.2.2.2.2.2.1.2.2.2.2.1 d.2.2.2.2.2.2.2.2.1.2.1 d.2.2.2.2.2.2.2.2.1.2.2.1 d.2.2.2.2.2.2.2.2.1.2.2.2.1 d.2.2.2.2.2.2.2.2.1.2.2.2.2.1 d.2.2.2.2.2.2.2.2.2.1.2.1 (fun (y17 : Int) (y18 : Int) (y19 : Int) (y25 : List (Int × ByteArray)) (y26 : List (Int × ByteArray)) (y27 : List ByteArray) (y28 : List Int) (y29 : List Int) (y30 : List Int) => K .ret [.tv (.lf (.bool false))] [some ⟨d.2.1.1, [.seq (.int .u8) 0 d.2.1.2.1]⟩, some ⟨d.2.2.1.1, [.seq (.int .u8) 0 d.2.2.1.2.1]⟩, some ⟨false, [.int .i64 d.2.2.2.1.2.1, .int .i64 d.2.2.2.1.2.2.1, .int .i64 d.2.2.2.1.2.2.2.1, .int .i64 d.2.2.2.1.2.2.2.2.1]⟩, some ⟨false, [.seq .str 0 d.2.2.2.2.1.2.1]⟩, some ⟨false, [.int .i64 d.2.2.2.2.2.1.2.1, .int .i64 d.2.2.2.2.2.1.2.2.1, .int .i64 d.2.2.2.2.2.1.2.2.2.1, .int .i64 d.2.2.2.2.2.1.2.2.2.2.1, .full 5]⟩, some ⟨false, [.seq .str 0 d.2.2.2.2.2.2.1.2.1]⟩, some ⟨false, [.int .i64 d.2.2.2.2.2.2.2.1.2.1, .int .i64 d.2.2.2.2.2.2.2.1.2.2.1, .int .i64 d.2.2.2.2.2.2.2.1.2.2.2.1, .int .i64 d.2.2.2.2.2.2.2.1.2.2.2.2.1, .ptr 7 0, .full 9, .full 10, .int .i64 y17, .int .i64 y18, .int .i64 y19]⟩, some ⟨false, [.int .i64 d.2.2.2.2.2.2.2.2.1.2.1, .int .i64 d.2.2.2.2.2.2.2.2.1.2.2.1, .int .i64 d.2.2.2.2.2.2.2.2.1.2.2.2.1, .int .i64 d.2.2.2.2.2.2.2.2.1.2.2.2.2.1, .full 8]⟩, some ⟨false, [.seq .str 0 d.2.2.2.2.2.2.2.2.2.1.2.1]⟩, some ⟨false, [.seq (.pair (.int .i64) .str) 0 y25]⟩, some ⟨false, [.seq (.pair (.int .i64) .str) 0 y26]⟩, none, some ⟨false, [.seq .str 0 y27]⟩, some ⟨false, [.seq (.int .i64) 0 y28]⟩, some ⟨false, [.seq (.int .i64) 0 y29]⟩, some ⟨false, [.seq (.int .i64) 0 y30]⟩]) (fun (y17 : Int) (y18 : Int) (y19 : Int) (y25 : List (Int × ByteArray)) (y26 : List (Int × ByteArray)) (y27 : List Int) (y28 : List ByteArray) (y29 : List Int) => K .ret [.tv (.lf (.bool false))] [some ⟨d.2.1.1, [.seq (.int .u8) 0 d.2.1.2.1]⟩, some ⟨d.2.2.1.1, [.seq (.int .u8) 0 d.2.2.1.2.1]⟩, some ⟨false, [.int .i64 d.2.2.2.1.2.1, .int .i64 d.2.2.2.1.2.2.1, .int .i64 d.2.2.2.1.2.2.2.1, .int .i64 d.2.2.2.1.2.2.2.2.1]⟩, some ⟨false, [.seq .str 0 d.2.2.2.2.1.2.1]⟩, some ⟨false, [.int .i64 d.2.2.2.2.2.1.2.1, .int .i64 d.2.2.2.2.2.1.2.2.1, .int .i64 d.2.2.2.2.2.1.2.2.2.1, .int .i64 d.2.2.2.2.2.1.2.2.2.2.1, .full 5]⟩, some ⟨false, [.seq .str 0 d.2.2.2.2.2.2.1.2.1]⟩, some ⟨false, [.int .i64 d.2.2.2.2.2.2.2.1.2.1, .int .i64 d.2.2.2.2.2.2.2.1.2.2.1, .int .i64 d.2.2.2.2.2.2.2.1.2.2.2.1, .int .i64 d.2.2.2.2.2.2.2.1.2.2.2.2.1, .ptr 7 0, .full 9, .full 10, .int .i64 y17, .int .i64 y18, .int .i64 y19]⟩, some ⟨false, [.int .i64 d.2.2.2.2.2.2.2.2.1.2.1, .int .i64 d.2.2.2.2.2.2.2.2.1.2.2.1, .int .i64 d.2.2.2.2.2.2.2.2.1.2.2.2.1, .int .i64 d.2.2.2.2.2.2.2.2.1.2.2.2.2.1, .full 8]⟩, some ⟨false, [.seq .str 0 d.2.2.2.2.2.2.2.2.2.1.2.1]⟩, some ⟨false, [.seq (.pair (.int .i64) .str) 0 y25]⟩, some ⟨false, [.seq (.pair (.int .i64) .str) 0 y26]⟩, some ⟨false, [.seq (.int .i64) 0 y27]⟩, some ⟨false, [.seq .str 0 y28]⟩, some ⟨false, [.seq (.int .i64) 0 y29]⟩]) (fun (y17 : Int) (y18 : Int) (y19 : Int) (y25 : List ByteArray) (y26 : List Int) (y27 : List (Int × ByteArray)) (y28 : List (Int × ByteArray)) (y29 : List Int) (y30 : List Int) => K .ret [.tv (.lf (.bool false))] [some ⟨d.2.1.1, [.seq (.int .u8) 0 d.2.1.2.1]⟩, some ⟨d.2.2.1.1, [.seq (.int .u8) 0 d.2.2.1.2.1]⟩, some ⟨false, [.int .i64 d.2.2.2.1.2.1, .int .i64 d.2.2.2.1.2.2.1, .int .i64 d.2.2.2.1.2.2.2.1, .int .i64 d.2.2.2.1.2.2.2.2.1]⟩, some ⟨false, [.seq .str 0 d.2.2.2.2.1.2.1]⟩, some ⟨false, [.int .i64 d.2.2.2.2.2.1.2.1, .int .i64 d.2.2.2.2.2.1.2.2.1, .int .i64 d.2.2.2.2.2.1.2.2.2.1, .int .i64 d.2.2.2.2.2.1.2.2.2.2.1, .full 5]⟩, some ⟨false, [.seq .str 0 d.2.2.2.2.2.2.1.2.1]⟩, some ⟨false, [.int .i64 d.2.2.2.2.2.2.2.1.2.1, .int .i64 d.2.2.2.2.2.2.2.1.2.2.1, .int .i64 d.2.2.2.2.2.2.2.1.2.2.2.1, .int .i64 d.2.2.2.2.2.2.2.1.2.2.2.2.1, .ptr 7 0, .full 14, .full 15, .int .i64 y17, .int .i64 y18, .int .i64 y19]⟩, some ⟨false, [.int .i64 d.2.2.2.2.2.2.2.2.1.2.1, .int .i64 d.2.2.2.2.2.2.2.2.1.2.2.1, .int .i64 d.2.2.2.2.2.2.2.2.1.2.2.2.1, .int .i64 d.2.2.2.2.2.2.2.2.1.2.2.2.2.1, .full 8]⟩, some ⟨false, [.seq .str 0 d.2.2.2.2.2.2.2.2.2.1.2.1]⟩, none, none, none, some ⟨false, [.seq .str 0 y25]⟩, some ⟨false, [.seq (.int .i64) 0 y26]⟩, some ⟨false, [.seq (.pair (.int .i64) .str) 0 y27]⟩, some ⟨false, [.seq (.pair (.int .i64) .str) 0 y28]⟩, some ⟨false, [.seq (.int .i64) 0 y29]⟩, some ⟨false, [.seq (.int .i64) 0 y30]⟩]) (fun (y17 : Int) (y18 : Int) (y19 : Int) (y25 : List (Int × ByteArray)) (y26 : List (Int × ByteArray)) (y27 : List Int) (y28 : List Int) => K .ret [.tv (.lf (.bool false))] [some ⟨d.2.1.1, [.seq (.int .u8) 0 d.2.1.2.1]⟩, some ⟨d.2.2.1.1, [.seq (.int .u8) 0 d.2.2.1.2.1]⟩, some ⟨false, [.int .i64 d.2.2.2.1.2.1, .int .i64 d.2.2.2.1.2.2.1, .int .i64 d.2.2.2.1.2.2.2.1, .int .i64 d.2.2.2.1.2.2.2.2.1]⟩, some ⟨false, [.seq .str 0 d.2.2.2.2.1.2.1]⟩, some ⟨false, [.int .i64 d.2.2.2.2.2.1.2.1, .int .i64 d.2.2.2.2.2.1.2.2.1, .int .i64 d.2.2.2.2.2.1.2.2.2.1, .int .i64 d.2.2.2.2.2.1.2.2.2.2.1, .full 5]⟩, some ⟨false, [.seq .str 0 d.2.2.2.2.2.2.1.2.1]⟩, some ⟨false, [.int .i64 d.2.2.2.2.2.2.2.1.2.1, .int .i64 d.2.2.2.2.2.2.2.1.2.2.1, .int .i64 d.2.2.2.2.2.2.2.1.2.2.2.1, .int .i64 d.2.2.2.2.2.2.2.1.2.2.2.2.1, .ptr 7 0, .full 9, .full 10, .int .i64 y17, .int .i64 y18, .int .i64 y19]⟩, some ⟨false, [.int .i64 d.2.2.2.2.2.2.2.2.1.2.1, .int .i64 d.2.2.2.2.2.2.2.2.1.2.2.1, .int .i64 d.2.2.2.2.2.2.2.2.1.2.2.2.1, .int .i64 d.2.2.2.2.2.2.2.2.1.2.2.2.2.1, .full 8]⟩, some ⟨false, [.seq .str 0 d.2.2.2.2.2.2.2.2.2.1.2.1]⟩, some ⟨false, [.seq (.pair (.int .i64) .str) 0 y25]⟩, some ⟨false, [.seq (.pair (.int .i64) .str) 0 y26]⟩, none, some ⟨false, [.seq (.int .i64) 0 y27]⟩, some ⟨false, [.seq (.int .i64) 0 y28]⟩]) (fun (y17 : Int) (y18 : Int) (y19 : Int) (y25 : List (Int × ByteArray)) (y26 : List (Int × ByteArray)) (y27 : List Int) => K .ret [.tv (.lf (.bool false))] [some ⟨d.2.1.1, [.seq (.int .u8) 0 d.2.1.2.1]⟩, some ⟨d.2.2.1.1, [.seq (.int .u8) 0 d.2.2.1.2.1]⟩, some ⟨false, [.int .i64 d.2.2.2.1.2.1, .int .i64 d.2.2.2.1.2.2.1, .int .i64 d.2.2.2.1.2.2.2.1, .int .i64 d.2.2.2.1.2.2.2.2.1]⟩, some ⟨false, [.seq .str 0 d.2.2.2.2.1.2.1]⟩, some ⟨false, [.int .i64 d.2.2.2.2.2.1.2.1, .int .i64 d.2.2.2.2.2.1.2.2.1, .int .i64 d.2.2.2.2.2.1.2.2.2.1, .int .i64 d.2.2.2.2.2.1.2.2.2.2.1, .full 5]⟩, some ⟨false, [.seq .str 0 d.2.2.2.2.2.2.1.2.1]⟩, some ⟨false, [.int .i64 d.2.2.2.2.2.2.2.1.2.1, .int .i64 d.2.2.2.2.2.2.2.1.2.2.1, .int .i64 d.2.2.2.2.2.2.2.1.2.2.2.1, .int .i64 d.2.2.2.2.2.2.2.1.2.2.2.2.1, .ptr 7 0, .full 9, .full 10, .int .i64 y17, .int .i64 y18, .int .i64 y19]⟩, some ⟨false, [.int .i64 d.2.2.2.2.2.2.2.2.1.2.1, .int .i64 d.2.2.2.2.2.2.2.2.1.2.2.1, .int .i64 d.2.2.2.2.2.2.2.2.1.2.2.2.1, .int .i64 d.2.2.2.2.2.2.2.2.1.2.2.2.2.1, .full 8]⟩, some ⟨false, [.seq .str 0 d.2.2.2.2.2.2.2.2.2.1.2.1]⟩, some ⟨false, [.seq (.pair (.int .i64) .str) 0 y25]⟩, some ⟨false, [.seq (.pair (.int .i64) .str) 0 y26]⟩, some ⟨false, [.seq (.int .i64) 0 y27]⟩]) (fun (y16 : Int) (y17 : Int) (y18 : Int) (y24 : List (Int × ByteArray)) (y25 : List (Int × ByteArray)) (y26 : List Int) => K (.exit 0) [.tv (.lf (.full 0)), .tv (.lf (.ptr 2 0)), .tv (.lf (.ptr 4 0)), .tv (.lf (.ptr 6 0)), .tv (.lf (.full 11))] [some ⟨d.2.1.1, [.seq (.int .u8) 0 d.2.1.2.1]⟩, some ⟨d.2.2.1.1, [.seq (.int .u8) 0 d.2.2.1.2.1]⟩, some ⟨false, [.int .i64 d.2.2.2.1.2.1, .int .i64 d.2.2.2.1.2.2.1, .int .i64 d.2.2.2.1.2.2.2.1, .int .i64 d.2.2.2.1.2.2.2.2.1]⟩, some ⟨false, [.seq .str 0 d.2.2.2.2.1.2.1]⟩, some ⟨false, [.int .i64 d.2.2.2.2.2.1.2.1, .int .i64 d.2.2.2.2.2.1.2.2.1, .int .i64 d.2.2.2.2.2.1.2.2.2.1, .int .i64 d.2.2.2.2.2.1.2.2.2.2.1, .full 5]⟩, some ⟨false, [.seq .str 0 d.2.2.2.2.2.2.1.2.1]⟩, some ⟨false, [.int .i64 d.2.2.2.2.2.2.2.1.2.1, .int .i64 d.2.2.2.2.2.2.2.1.2.2.1, .int .i64 d.2.2.2.2.2.2.2.1.2.2.2.1, .int .i64 d.2.2.2.2.2.2.2.1.2.2.2.2.1, .ptr 7 0, .full 9, .full 10, .int .i64 y16, .int .i64 y17, .int .i64 y18]⟩, some ⟨false, [.int .i64 d.2.2.2.2.2.2.2.2.1.2.1, .int .i64 d.2.2.2.2.2.2.2.2.1.2.2.1, .int .i64 d.2.2.2.2.2.2.2.2.1.2.2.2.1, .int .i64 d.2.2.2.2.2.2.2.2.1.2.2.2.2.1, .full 8]⟩, some ⟨false, [.seq .str 0 d.2.2.2.2.2.2.2.2.2.1.2.1]⟩, some ⟨false, [.seq (.pair (.int .i64) .str) 0 y24]⟩, some ⟨false, [.seq (.pair (.int .i64) .str) 0 y25]⟩, some ⟨false, [.seq (.int .i64) 0 y26]⟩]) k d.1.2.2.2.2.2.2.2.1 d.2.2.2.2.2.2.2.1.2.2.2.2.2.2.2.2.1 d.2.2.2.2.2.2.2.1.2.2.2.2.2.2.2.2.2.1 d.2.2.2.2.2.2.2.1.2.2.2.2.2.2.2.2.2.2.1 d.2.2.2.2.2.2.2.2.2.2.1.2.1 d.2.2.2.2.2.2.2.2.2.2.2.1.2.1 d.2.2.2.2.2.2.2.2.2.2.2.2.1.2.1) F (fun d K => by kernel_rfl)  (fun k d K => Eq.mp (by kernel_rfl) (L3_1_l12g F k (f7_1 F) (f8_1 F) (f9_1 F) (f10_1 F) (f11_1 F) (f12_1 F) (f12_115 F) (f13_1 F) (f13_568 F) (f14_1 F) (f15_1 F) (f16_1 F) (f17_1 F) (f18_1 F) (f19_1 F) (f20_1 F) (f21_1 F) (f21_1545 F) (f22_1 F) (f23_1 F) (f24_1 F) (f3_1_l20 F) (f3_1_l12 F) (G3_1_12 F F) d K))
theorem E3_1g (F : Nat) (c7_1 : Int → Int → Int → Int → (Bool → Option Res) → Option Res) (c8_1 : (Bool → Option Res) → Option Res) (c9_1 : Int → Int → Int → Int → List Int → (List ByteArray → Option Res) → Option Res) (c10_1 : Int → Int → Int → Int → List ByteArray → (Int → Option Res) → (List ByteArray → Option Res) → Option Res) (c11_1 : Int → Int → Int → Int → List ByteArray → (Int → Option Res) → (List ByteArray → Option Res) → Option Res) (c12_1 : ByteArray → Int → Int → Int → Int → List ByteArray → (Option Res) → (List ByteArray → List (Int × ByteArray) → List (Int × ByteArray) → Option Res) → Option Res) (c12_115 : ByteArray → (Option Res) → Option Res) (c13_1 : Int → Int → Int → Int → List ByteArray → (ByteArray → Option Res) → Option Res) (c13_568 : Option Res) (c14_1 : Int → Int → Int → Int → (Int → Option Res) → Option Res) (c15_1 : Int → Int → Int → Int → Int → Int → Int → Int → Int → Int → Int → List ByteArray → List (Int × ByteArray) → List (Int × ByteArray) → (Bool → Option Res) → Option Res) (c16_1 : Int → Int → Int → Int → Int → Int → Int → Int → Int → Int → Int → List ByteArray → List (Int × ByteArray) → List (Int × ByteArray) → (Int → Int → Option Res) → Option Res) (c17_1 : Int → Int → Int → Int → Int → (List Int → Option Res) → Option Res) (c18_1 : Int → Int → Int → Int → Int → List ByteArray → (ByteArray → Int → Option Res) → Option Res) (c19_1 : Int → Int → Int → Int → Int → Int → Int → Int → Int → Int → Int → Int → List ByteArray → List (Int × ByteArray) → List (Int × ByteArray) → List ByteArray → (Int → Option Res) → (Int → Int → List (Int × ByteArray) → List (Int × ByteArray) → Option Res) → Option Res) (c20_1 : Int → ByteArray → Int → Int → Int → Int → Int → Int → Int → Int → Int → Int → Int → List ByteArray → List (Int × ByteArray) → List (Int × ByteArray) → (Int → Option Res) → (Int → List (Int × ByteArray) → Option Res) → Option Res) (c21_1 : Int → Int → Int → Int → List ByteArray → Int → Int → Int → Int → List ByteArray → (Int → Int → List Int → Option Res) → Option Res) (c21_1545 : Int → Int → Int → Int → List ByteArray → Option Res) (c22_1 : Int → Int → Int → Int → Int → Int → Int → Int → Int → Int → Int → List ByteArray → List (Int × ByteArray) → List (Int × ByteArray) → (Option Res) → Option Res) (c23_1 : List Int → List Int → (Bool → Option Res) → Option Res) (c24_1 : Int → Int → Int → Int → (Int → Option Res) → Option Res) (l12 : Int → List Int → List Int → Int → Int → Int → Int → List ByteArray → Int → Int → Int → Int → List ByteArray → Int → Int → Int → Int → Int → Int → Int → Int → List ByteArray → (Int → Int → Int → List (Int × ByteArray) → List (Int × ByteArray) → List ByteArray → List Int → List Int → List Int → Option Res) → (Int → Int → Int → List (Int × ByteArray) → List (Int × ByteArray) → List Int → List ByteArray → List Int → Option Res) → (Int → Int → Int → List ByteArray → List Int → List (Int × ByteArray) → List (Int × ByteArray) → List Int → List Int → Option Res) → (Int → Int → Int → List (Int × ByteArray) → List (Int × ByteArray) → List Int → List Int → Option Res) → (Int → Int → Int → List (Int × ByteArray) → List (Int × ByteArray) → List Int → Option Res) → (Int → Int → Int → List (Int × ByteArray) → List (Int × ByteArray) → List Int → Option Res) → Nat → Int → Int → Int → Int → List (Int × ByteArray) → List (Int × ByteArray) → List Int → Option Res) (X20 : LoopS) (d : sh3_1.den) (K : KF) : evBody Try.prog (tab [(7, (mkS sh7_1 (fun d K => c7_1 d.1.1.1 d.1.1.2.1 d.1.1.2.2.1 d.1.1.2.2.2.1 (fun (y0 : Bool) => K [.lf (.bool y0)] [])) noS)), (8, (mkS sh8_1 (fun d K => c8_1 (fun (y0 : Bool) => K [.lf (.bool y0)] [])) noS)), (9, (mkS sh9_1 (fun d K => c9_1 d.1.1.1 d.1.1.2.1 d.1.1.2.2.1 d.1.1.2.2.2.1 d.2.1.2.1 (fun (y1 : List ByteArray) => K [.lf (.full 1)] [some ⟨d.2.1.1, [.seq (.int .u8) 0 d.2.1.2.1]⟩, some ⟨false, [.seq .str 0 y1]⟩])) noS)), (10, (mkS sh10_1 (fun d K => c10_1 d.1.1.1 d.1.1.2.1 d.1.1.2.2.1 d.1.1.2.2.2.1 d.2.1.2.1 (fun (y0 : Int) => K [.lf (.nilp), .lf (.int .i64 y0)] [some ⟨d.2.1.1, [.seq .str 0 d.2.1.2.1]⟩]) (fun (y6 : List ByteArray) => K [.lf (.ptr 1 0), .lf (.int .i64 0)] [some ⟨d.2.1.1, [.seq .str 0 d.2.1.2.1]⟩, some ⟨false, [.int .i64 d.1.1.1, .int .i64 d.1.1.2.1, .int .i64 d.1.1.2.2.1, .int .i64 d.1.1.2.2.2.1, .full 2]⟩, some ⟨false, [.seq .str 0 y6]⟩])) noS)), (11, (mkS sh11_1 (fun d K => c11_1 d.1.1.1 d.1.1.2.1 d.1.1.2.2.1 d.1.1.2.2.2.1 d.2.1.2.1 (fun (y0 : Int) => K [.lf (.nilp), .lf (.int .i64 y0)] [some ⟨d.2.1.1, [.seq .str 0 d.2.1.2.1]⟩]) (fun (y6 : List ByteArray) => K [.lf (.ptr 1 0), .lf (.int .i64 0)] [some ⟨d.2.1.1, [.seq .str 0 d.2.1.2.1]⟩, some ⟨false, [.int .i64 d.1.1.1, .int .i64 d.1.1.2.1, .int .i64 d.1.1.2.2.1, .int .i64 d.1.1.2.2.2.1, .full 2]⟩, some ⟨false, [.seq .str 0 y6]⟩])) noS)), (12, (mkS sh12_1 (fun d K => c12_1 d.1.2.1 d.2.1.2.1 d.2.1.2.2.1 d.2.1.2.2.2.1 d.2.1.2.2.2.2.1 d.2.2.1.2.1 (K [.lf (.nilp), .lf (.int .i64 4)] [some ⟨d.2.1.1, [.int .i64 d.2.1.2.1, .int .i64 d.2.1.2.2.1, .int .i64 d.2.1.2.2.2.1, .int .i64 d.2.1.2.2.2.2.1, .full 1]⟩, some ⟨d.2.2.1.1, [.seq .str 0 d.2.2.1.2.1]⟩]) (fun (y17 : List ByteArray) (y18 : List (Int × ByteArray)) (y19 : List (Int × ByteArray)) => K [.lf (.ptr 2 0), .lf (.int .i64 0)] [some ⟨d.2.1.1, [.int .i64 d.2.1.2.1, .int .i64 d.2.1.2.2.1, .int .i64 d.2.1.2.2.2.1, .int .i64 d.2.1.2.2.2.2.1, .full 1]⟩, some ⟨d.2.2.1.1, [.seq .str 0 d.2.2.1.2.1]⟩, some ⟨false, [.int .i64 d.2.1.2.1, .int .i64 d.2.1.2.2.1, .int .i64 d.2.1.2.2.2.1, .int .i64 d.2.1.2.2.2.2.1, .ptr 3 0, .full 5, .full 6, .int .i64 0, .int .i64 0, .int .i64 0]⟩, some ⟨false, [.int .i64 d.2.1.2.1, .int .i64 d.2.1.2.2.1, .int .i64 d.2.1.2.2.2.1, .int .i64 d.2.1.2.2.2.2.1, .full 4]⟩, some ⟨false, [.seq .str 0 y17]⟩, some ⟨false, [.seq (.pair (.int .i64) .str) 0 y18]⟩, some ⟨false, [.seq (.pair (.int .i64) .str) 0 y19]⟩])) (mkS sh12_115 (fun d K => c12_115 d.1.2.1 (K [.lf (.nilp), .lf (.int .i64 1)] [])) noS))), (13, (mkS sh13_1 (fun d K => c13_1 d.2.1.2.1 d.2.1.2.2.1 d.2.1.2.2.2.1 d.2.1.2.2.2.2.1 d.2.2.1.2.1 (fun (y0 : ByteArray) => K [.lf (.str y0)] [some ⟨d.2.1.1, [.int .i64 d.2.1.2.1, .int .i64 d.2.1.2.2.1, .int .i64 d.2.1.2.2.2.1, .int .i64 d.2.1.2.2.2.2.1, .full 1]⟩, some ⟨d.2.2.1.1, [.seq .str 0 d.2.2.1.2.1]⟩])) (mkS sh13_568 (fun d K => c13_568) noS))), (14, (mkS sh14_1 (fun d K => c14_1 d.1.1.1 d.1.1.2.1 d.1.1.2.2.1 d.1.1.2.2.2.1 (fun (y0 : Int) => K [.lf (.int .i64 y0)] [])) noS)), (15, (mkS sh15_1 (fun d K => c15_1 d.2.1.2.1 d.2.1.2.2.1 d.2.1.2.2.2.1 d.2.1.2.2.2.2.1 d.2.1.2.2.2.2.2.2.2.2.1 d.2.1.2.2.2.2.2.2.2.2.2.1 d.2.1.2.2.2.2.2.2.2.2.2.2.1 d.2.2.1.2.1 d.2.2.1.2.2.1 d.2.2.1.2.2.2.1 d.2.2.1.2.2.2.2.1 d.2.2.2.1.2.1 d.2.2.2.2.1.2.1 d.2.2.2.2.2.1.2.1 (fun (y0 : Bool) => K [.lf (.bool y0)] [some ⟨d.2.1.1, [.int .i64 d.2.1.2.1, .int .i64 d.2.1.2.2.1, .int .i64 d.2.1.2.2.2.1, .int .i64 d.2.1.2.2.2.2.1, .ptr 1 0, .full 3, .full 4, .int .i64 d.2.1.2.2.2.2.2.2.2.2.1, .int .i64 d.2.1.2.2.2.2.2.2.2.2.2.1, .int .i64 d.2.1.2.2.2.2.2.2.2.2.2.2.1]⟩, some ⟨d.2.2.1.1, [.int .i64 d.2.2.1.2.1, .int .i64 d.2.2.1.2.2.1, .int .i64 d.2.2.1.2.2.2.1, .int .i64 d.2.2.1.2.2.2.2.1, .full 2]⟩, some ⟨d.2.2.2.1.1, [.seq .str 0 d.2.2.2.1.2.1]⟩, some ⟨d.2.2.2.2.1.1, [.seq (.pair (.int .i64) .str) 0 d.2.2.2.2.1.2.1]⟩, some ⟨d.2.2.2.2.2.1.1, [.seq (.pair (.int .i64) .str) 0 d.2.2.2.2.2.1.2.1]⟩])) noS)), (16, (mkS sh16_1 (fun d K => c16_1 d.2.1.2.1 d.2.1.2.2.1 d.2.1.2.2.2.1 d.2.1.2.2.2.2.1 d.2.1.2.2.2.2.2.2.2.2.1 d.2.1.2.2.2.2.2.2.2.2.2.1 d.2.1.2.2.2.2.2.2.2.2.2.2.1 d.2.2.1.2.1 d.2.2.1.2.2.1 d.2.2.1.2.2.2.1 d.2.2.1.2.2.2.2.1 d.2.2.2.1.2.1 d.2.2.2.2.1.2.1 d.2.2.2.2.2.1.2.1 (fun (y0 : Int) (y1 : Int) => K [.lf (.int .i64 y0), .lf (.int .i64 y1)] [some ⟨d.2.1.1, [.int .i64 d.2.1.2.1, .int .i64 d.2.1.2.2.1, .int .i64 d.2.1.2.2.2.1, .int .i64 d.2.1.2.2.2.2.1, .ptr 1 0, .full 3, .full 4, .int .i64 d.2.1.2.2.2.2.2.2.2.2.1, .int .i64 d.2.1.2.2.2.2.2.2.2.2.2.1, .int .i64 d.2.1.2.2.2.2.2.2.2.2.2.2.1]⟩, some ⟨d.2.2.1.1, [.int .i64 d.2.2.1.2.1, .int .i64 d.2.2.1.2.2.1, .int .i64 d.2.2.1.2.2.2.1, .int .i64 d.2.2.1.2.2.2.2.1, .full 2]⟩, some ⟨d.2.2.2.1.1, [.seq .str 0 d.2.2.2.1.2.1]⟩, some ⟨d.2.2.2.2.1.1, [.seq (.pair (.int .i64) .str) 0 d.2.2.2.2.1.2.1]⟩, some ⟨d.2.2.2.2.2.1.1, [.seq (.pair (.int .i64) .str) 0 d.2.2.2.2.2.1.2.1]⟩])) noS)), (17, (mkS sh17_1 (fun d K => c17_1 d.1.1.1 d.1.1.2.1 d.1.1.2.2.1 d.1.1.2.2.2.1 d.1.2.1 (fun (y0 : List Int) => K [.lf (.full 0)] [some ⟨false, [.seq (.int .i64) 0 y0]⟩])) noS)), (18, (mkS sh18_1 (fun d K => c18_1 d.1.2.1 d.2.1.2.1 d.2.1.2.2.1 d.2.1.2.2.2.1 d.2.1.2.2.2.2.1 d.2.2.1.2.1 (fun (y0 : ByteArray) (y1 : Int) => K [.lf (.str y0), .lf (.int .i64 y1)] [some ⟨d.2.1.1, [.int .i64 d.2.1.2.1, .int .i64 d.2.1.2.2.1, .int .i64 d.2.1.2.2.2.1, .int .i64 d.2.1.2.2.2.2.1, .full 1]⟩, some ⟨d.2.2.1.1, [.seq .str 0 d.2.2.1.2.1]⟩])) noS)), (19, (mkS sh19_1 (fun d K => c19_1 d.1.2.1 d.2.1.2.1 d.2.1.2.2.1 d.2.1.2.2.2.1 d.2.1.2.2.2.2.1 d.2.1.2.2.2.2.2.2.2.2.1 d.2.1.2.2.2.2.2.2.2.2.2.1 d.2.1.2.2.2.2.2.2.2.2.2.2.1 d.2.2.1.2.1 d.2.2.1.2.2.1 d.2.2.1.2.2.2.1 d.2.2.1.2.2.2.2.1 d.2.2.2.1.2.1 d.2.2.2.2.1.2.1 d.2.2.2.2.2.1.2.1 d.2.2.2.2.2.2.1.2.1 (fun (y0 : Int) => K [.lf (.int .i64 y0)] [some ⟨false, [.int .i64 d.2.1.2.1, .int .i64 d.2.1.2.2.1, .int .i64 d.2.1.2.2.2.1, .int .i64 d.2.1.2.2.2.2.1, .ptr 1 0, .full 3, .full 4, .int .i64 d.2.1.2.2.2.2.2.2.2.2.1, .int .i64 d.2.1.2.2.2.2.2.2.2.2.2.1, .int .i64 d.2.1.2.2.2.2.2.2.2.2.2.2.1]⟩, some ⟨d.2.2.1.1, [.int .i64 d.2.2.1.2.1, .int .i64 d.2.2.1.2.2.1, .int .i64 d.2.2.1.2.2.2.1, .int .i64 d.2.2.1.2.2.2.2.1, .full 2]⟩, some ⟨d.2.2.2.1.1, [.seq .str 0 d.2.2.2.1.2.1]⟩, some ⟨false, [.seq (.pair (.int .i64) .str) 0 d.2.2.2.2.1.2.1]⟩, some ⟨false, [.seq (.pair (.int .i64) .str) 0 d.2.2.2.2.2.1.2.1]⟩, some ⟨d.2.2.2.2.2.2.1.1, [.seq .str 0 d.2.2.2.2.2.2.1.2.1]⟩]) (fun (y5 : Int) (y6 : Int) (y14 : List (Int × ByteArray)) (y15 : List (Int × ByteArray)) => K [.lf (.int .i64 0)] [some ⟨false, [.int .i64 d.2.1.2.1, .int .i64 d.2.1.2.2.1, .int .i64 d.2.1.2.2.2.1, .int .i64 d.2.1.2.2.2.2.1, .ptr 1 0, .full 6, .full 7, .int .i64 y5, .int .i64 y6, .int .i64 d.2.1.2.2.2.2.2.2.2.2.2.2.1]⟩, some ⟨d.2.2.1.1, [.int .i64 d.2.2.1.2.1, .int .i64 d.2.2.1.2.2.1, .int .i64 d.2.2.1.2.2.2.1, .int .i64 d.2.2.1.2.2.2.2.1, .full 2]⟩, some ⟨d.2.2.2.1.1, [.seq .str 0 d.2.2.2.1.2.1]⟩, none, none, some ⟨d.2.2.2.2.2.2.1.1, [.seq .str 0 d.2.2.2.2.2.2.1.2.1]⟩, some ⟨false, [.seq (.pair (.int .i64) .str) 0 y14]⟩, some ⟨false, [.seq (.pair (.int .i64) .str) 0 y15]⟩])) noS)), (20, (mkS sh20_1 (fun d K => c20_1 d.1.2.1 d.1.2.2.1 d.2.1.2.1 d.2.1.2.2.1 d.2.1.2.2.2.1 d.2.1.2.2.2.2.1 d.2.1.2.2.2.2.2.2.2.2.1 d.2.1.2.2.2.2.2.2.2.2.2.1 d.2.1.2.2.2.2.2.2.2.2.2.2.1 d.2.2.1.2.1 d.2.2.1.2.2.1 d.2.2.1.2.2.2.1 d.2.2.1.2.2.2.2.1 d.2.2.2.1.2.1 d.2.2.2.2.1.2.1 d.2.2.2.2.2.1.2.1 (fun (y0 : Int) => K [.lf (.int .i64 y0)] [some ⟨false, [.int .i64 d.2.1.2.1, .int .i64 d.2.1.2.2.1, .int .i64 d.2.1.2.2.2.1, .int .i64 d.2.1.2.2.2.2.1, .ptr 1 0, .full 3, .full 4, .int .i64 d.2.1.2.2.2.2.2.2.2.2.1, .int .i64 d.2.1.2.2.2.2.2.2.2.2.2.1, .int .i64 d.2.1.2.2.2.2.2.2.2.2.2.2.1]⟩, some ⟨d.2.2.1.1, [.int .i64 d.2.2.1.2.1, .int .i64 d.2.2.1.2.2.1, .int .i64 d.2.2.1.2.2.2.1, .int .i64 d.2.2.1.2.2.2.2.1, .full 2]⟩, some ⟨d.2.2.2.1.1, [.seq .str 0 d.2.2.2.1.2.1]⟩, some ⟨d.2.2.2.2.1.1, [.seq (.pair (.int .i64) .str) 0 d.2.2.2.2.1.2.1]⟩, some ⟨false, [.seq (.pair (.int .i64) .str) 0 d.2.2.2.2.2.1.2.1]⟩]) (fun (y7 : Int) (y14 : List (Int × ByteArray)) => K [.lf (.int .i64 0)] [some ⟨false, [.int .i64 d.2.1.2.1, .int .i64 d.2.1.2.2.1, .int .i64 d.2.1.2.2.2.1, .int .i64 d.2.1.2.2.2.2.1, .ptr 1 0, .full 3, .full 5, .int .i64 d.2.1.2.2.2.2.2.2.2.2.1, .int .i64 d.2.1.2.2.2.2.2.2.2.2.2.1, .int .i64 y7]⟩, some ⟨d.2.2.1.1, [.int .i64 d.2.2.1.2.1, .int .i64 d.2.2.1.2.2.1, .int .i64 d.2.2.1.2.2.2.1, .int .i64 d.2.2.1.2.2.2.2.1, .full 2]⟩, some ⟨d.2.2.2.1.1, [.seq .str 0 d.2.2.2.1.2.1]⟩, some ⟨d.2.2.2.2.1.1, [.seq (.pair (.int .i64) .str) 0 d.2.2.2.2.1.2.1]⟩, none, some ⟨false, [.seq (.pair (.int .i64) .str) 0 y14]⟩])) noS)), (21, (mkS sh21_1 (fun d K => c21_1 d.2.1.2.1 d.2.1.2.2.1 d.2.1.2.2.2.1 d.2.1.2.2.2.2.1 d.2.2.1.2.1 d.2.2.2.1.2.1 d.2.2.2.1.2.2.1 d.2.2.2.1.2.2.2.1 d.2.2.2.1.2.2.2.2.1 d.2.2.2.2.1.2.1 (fun (y0 : Int) (y1 : Int) (y12 : List Int) => K [.lf (.full 4), .lf (.int .i64 y0), .lf (.int .i64 y1)] [some ⟨d.2.1.1, [.int .i64 d.2.1.2.1, .int .i64 d.2.1.2.2.1, .int .i64 d.2.1.2.2.2.1, .int .i64 d.2.1.2.2.2.2.1, .full 1]⟩, some ⟨d.2.2.1.1, [.seq .str 0 d.2.2.1.2.1]⟩, some ⟨d.2.2.2.1.1, [.int .i64 d.2.2.2.1.2.1, .int .i64 d.2.2.2.1.2.2.1, .int .i64 d.2.2.2.1.2.2.2.1, .int .i64 d.2.2.2.1.2.2.2.2.1, .full 3]⟩, some ⟨d.2.2.2.2.1.1, [.seq .str 0 d.2.2.2.2.1.2.1]⟩, some ⟨false, [.seq (.int .i64) 0 y12]⟩])) (mkS sh21_1545 (fun d K => c21_1545 d.2.1.2.1 d.2.1.2.2.1 d.2.1.2.2.2.1 d.2.1.2.2.2.2.1 d.2.2.1.2.1) noS))), (22, (mkS sh22_1 (fun d K => c22_1 d.2.1.2.1 d.2.1.2.2.1 d.2.1.2.2.2.1 d.2.1.2.2.2.2.1 d.2.1.2.2.2.2.2.2.2.2.1 d.2.1.2.2.2.2.2.2.2.2.2.1 d.2.1.2.2.2.2.2.2.2.2.2.2.1 d.2.2.1.2.1 d.2.2.1.2.2.1 d.2.2.1.2.2.2.1 d.2.2.1.2.2.2.2.1 d.2.2.2.1.2.1 d.2.2.2.2.1.2.1 d.2.2.2.2.2.1.2.1 (K [.lf (.int .i64 d.2.1.2.2.2.2.2.2.2.2.1), .lf (.int .i64 d.2.1.2.2.2.2.2.2.2.2.2.1), .lf (.int .i64 d.2.1.2.2.2.2.2.2.2.2.2.2.1)] [some ⟨d.2.1.1, [.int .i64 d.2.1.2.1, .int .i64 d.2.1.2.2.1, .int .i64 d.2.1.2.2.2.1, .int .i64 d.2.1.2.2.2.2.1, .ptr 1 0, .full 3, .full 4, .int .i64 d.2.1.2.2.2.2.2.2.2.2.1, .int .i64 d.2.1.2.2.2.2.2.2.2.2.2.1, .int .i64 d.2.1.2.2.2.2.2.2.2.2.2.2.1]⟩, some ⟨d.2.2.1.1, [.int .i64 d.2.2.1.2.1, .int .i64 d.2.2.1.2.2.1, .int .i64 d.2.2.1.2.2.2.1, .int .i64 d.2.2.1.2.2.2.2.1, .full 2]⟩, some ⟨d.2.2.2.1.1, [.seq .str 0 d.2.2.2.1.2.1]⟩, some ⟨d.2.2.2.2.1.1, [.seq (.pair (.int .i64) .str) 0 d.2.2.2.2.1.2.1]⟩, some ⟨d.2.2.2.2.2.1.1, [.seq (.pair (.int .i64) .str) 0 d.2.2.2.2.2.1.2.1]⟩])) noS)), (23, (mkS sh23_1 (fun d K => c23_1 d.2.1.2.1 d.2.2.1.2.1 (fun (y0 : Bool) => K [.lf (.bool y0)] [some ⟨d.2.1.1, [.seq (.int .i64) 0 d.2.1.2.1]⟩, some ⟨d.2.2.1.1, [.seq (.int .i64) 0 d.2.2.1.2.1]⟩])) noS)), (24, (mkS sh24_1 (fun d K => c24_1 d.1.1.1 d.1.1.2.1 d.1.1.2.2.1 d.1.1.2.2.2.1 (fun (y0 : Int) => K [.lf (.int .i64 y0)] [])) noS))]) (xw []) 187 2 (ltab [(20, X20), (12, mkG sh3_1_l12 [1, 3, 7, 10, 12, 14, 15, 16] (outT [(.exit 0, [1, 3, 10, 12, 14]), (.ret, [6])]) (fun d K => l12 d.1.2.2.2.2.2.2.1 d.2.1.2.1 d.2.2.1.2.1 d.2.2.2.1.2.1 d.2.2.2.1.2.2.1 d.2.2.2.1.2.2.2.1 d.2.2.2.1.2.2.2.2.1 d.2.2.2.2.1.2.1 d.2.2.2.2.2.1.2.1 d.2.2.2.2.2.1.2.2.1 d.2.2.2.2.2.1.2.2.2.1 d.2.2.2.2.2.1.2.2.2.2.1 d.2.2.2.2.2.2.1.2.1 d.2.2.2.2.2.2.2.1.2.1 d.2.2.2.2.2.2.2.1.2.2.1 d.2.2.2.2.2.2.2.1.2.2.2.1 d.2.2.2.2.2.2.2.1.2.2.2.2.1 d.2.2.2.2.2.2.2.2.1.2.1 d.2.2.2.2.2.2.2.2.1.2.2.1 d.2.2.2.2.2.2.2.2.1.2.2.2.1 d.2.2.2.2.2.2.2.2.1.2.2.2.2.1 d.2.2.2.2.2.2.2.2.2.1.2.1 (fun (y17 : Int) (y18 : Int) (y19 : Int) (y25 : List (Int × ByteArray)) (y26 : List (Int × ByteArray)) (y27 : List ByteArray) (y28 : List Int) (y29 : List Int) (y30 : List Int) => K .ret [.tv (.lf (.bool false))] [some ⟨d.2.1.1, [.seq (.int .u8) 0 d.2.1.2.1]⟩, some ⟨d.2.2.1.1, [.seq (.int .u8) 0 d.2.2.1.2.1]⟩, some ⟨false, [.int .i64 d.2.2.2.1.2.1, .int .i64 d.2.2.2.1.2.2.1, .int .i64 d.2.2.2.1.2.2.2.1, .int .i64 d.2.2.2.1.2.2.2.2.1]⟩, some ⟨false, [.seq .str 0 d.2.2.2.2.1.2.1]⟩, some ⟨false, [.int .i64 d.2.2.2.2.2.1.2.1, .int .i64 d.2.2.2.2.2.1.2.2.1, .int .i64 d.2.2.2.2.2.1.2.2.2.1, .int .i64 d.2.2.2.2.2.1.2.2.2.2.1, .full 5]⟩, some ⟨false, [.seq .str 0 d.2.2.2.2.2.2.1.2.1]⟩, some ⟨false, [.int .i64 d.2.2.2.2.2.2.2.1.2.1, .int .i64 d.2.2.2.2.2.2.2.1.2.2.1, .int .i64 d.2.2.2.2.2.2.2.1.2.2.2.1, .int .i64 d.2.2.2.2.2.2.2.1.2.2.2.2.1, .ptr 7 0, .full 9, .full 10, .int .i64 y17, .int .i64 y18, .int .i64 y19]⟩, some ⟨false, [.int .i64 d.2.2.2.2.2.2.2.2.1.2.1, .int .i64 d.2.2.2.2.2.2.2.2.1.2.2.1, .int .i64 d.2.2.2.2.2.2.2.2.1.2.2.2.1, .int .i64 d.2.2.2.2.2.2.2.2.1.2.2.2.2.1, .full 8]⟩, some ⟨false, [.seq .str 0 d.2.2.2.2.2.2.2.2.2.1.2.1]⟩, some ⟨false, [.seq (.pair (.int .i64) .str) 0 y25]⟩, some ⟨false, [.seq (.pair (.int .i64) .str) 0 y26]⟩, none, some ⟨false, [.seq .str 0 y27]⟩, some ⟨false, [.seq (.int .i64) 0 y28]⟩, some ⟨false, [.seq (.int .i64) 0 y29]⟩, some ⟨false, [.seq (.int .i64) 0 y30]⟩]) (fun (y17 : Int) (y18 : Int) (y19 : Int) (y25 : List (Int × ByteArray)) (y26 : List (Int × ByteArray)) (y27 : List Int) (y28 : List ByteArray) (y29 : List Int) => K .ret [.tv (.lf (.bool false))] [some ⟨d.2.1.1, [.seq (.int .u8) 0 d.2.1.2.1]⟩, some ⟨d.2.2.1.1, [.seq (.int .u8) 0 d.2.2.1.2.1]⟩, some ⟨false, [.int .i64 d.2.2.2.1.2.1, .int .i64 d.2.2.2.1.2.2.1, .int .i64 d.2.2.2.1.2.2.2.1, .int .i64 d.2.2.2.1.2.2.2.2.1]⟩, some ⟨false, [.seq .str 0 d.2.2.2.2.1.2.1]⟩, some ⟨false, [.int .i64 d.2.2.2.2.2.1.2.1, .int .i64 d.2.2.2.2.2.1.2.2.1, .int .i64 d.2.2.2.2.2.1.2.2.2.1, .int .i64 d.2.2.2.2.2.1.2.2.2.2.1, .full 5]⟩, some ⟨false, [.seq .str 0 d.2.2.2.2.2.2.1.2.1]⟩, some ⟨false, [.int .i64 d.2.2.2.2.2.2.2.1.2.1, .int .i64 d.2.2.2.2.2.2.2.1.2.2.1, .int .i64 d.2.2.2.2.2.2.2.1.2.2.2.1, .int .i64 d.2.2.2.2.2.2.2.1.2.2.2.2.1, .ptr 7 0, .full 9, .full 10, .int .i64 y17, .int .i64 y18, .int .i64 y19]⟩, some ⟨false, [.int .i64 d.2.2.2.2.2.2.2.2.1.2.1, .int .i64 d.2.2.2.2.2.2.2.2.1.2.2.1, .int .i64 d.2.2.2.2.2.2.2.2.1.2.2.2.1, .int .i64 d.2.2.2.2.2.2.2.2.1.2.2.2.2.1, .full 8]⟩, some ⟨false, [.seq .str 0 d.2.2.2.2.2.2.2.2.2.1.2.1]⟩, some ⟨false, [.seq (.pair (.int .i64) .str) 0 y25]⟩, some ⟨false, [.seq (.pair (.int .i64) .str) 0 y26]⟩, some ⟨false, [.seq (.int .i64) 0 y27]⟩, some ⟨false, [.seq .str 0 y28]⟩, some ⟨false, [.seq (.int .i64) 0 y29]⟩]) (fun (y17 : Int) (y18 : Int) (y19 : Int) (y25 : List ByteArray) (y26 : List Int) (y27 : List (Int × ByteArray)) (y28 : List (Int × ByteArray)) (y29 : List Int) (y30 : List Int) => K .ret [.tv (.lf (.bool false))] [some ⟨d.2.1.1, [.seq (.int .u8) 0 d.2.1.2.1]⟩, some ⟨d.2.2.1.1, [.seq (.int .u8) 0 d.2.2.1.2.1]⟩, some ⟨false, [.int .i64 d.2.2.2.1.2.1, .int .i64 d.2.2.2.1.2.2.1, .int .i64 d.2.2.2.1.2.2.2.1, .int .i64 d.2.2.2.1.2.2.2.2.1]⟩, some ⟨false, [.seq .str 0 d.2.2.2.2.1.2.1]⟩, some ⟨false, [.int .i64 d.2.2.2.2.2.1.2.1, .int .i64 d.2.2.2.2.2.1.2.2.1, .int .i64 d.2.2.2.2.2.1.2.2.2.1, .int .i64 d.2.2.2.2.2.1.2.2.2.2.1, .full 5]⟩, some ⟨false, [.seq .str 0 d.2.2.2.2.2.2.1.2.1]⟩, some ⟨false, [.int .i64 d.2.2.2.2.2.2.2.1.2.1, .int .i64 d.2.2.2.2.2.2.2.1.2.2.1, .int .i64 d.2.2.2.2.2.2.2.1.2.2.2.1, .int .i64 d.2.2.2.2.2.2.2.1.2.2.2.2.1, .ptr 7 0, .full 14, .full 15, .int .i64 y17, .int .i64 y18, .int .i64 y19]⟩, some ⟨false, [.int .i64 d.2.2.2.2.2.2.2.2.1.2.1, .int .i64 d.2.2.2.2.2.2.2.2.1.2.2.1, .int .i64 d.2.2.2.2.2.2.2.2.1.2.2.2.1, .int .i64 d.2.2.2.2.2.2.2.2.1.2.2.2.2.1, .full 8]⟩, some ⟨false, [.seq .str 0 d.2.2.2.2.2.2.2.2.2.1.2.1]⟩, none, none, none, some ⟨false, [.seq .str 0 y25]⟩, some ⟨false, [.seq (.int .i64) 0 y26]⟩, some ⟨false, [.seq (.pair (.int .i64) .str) 0 y27]⟩, some ⟨false, [.seq (.pair (.int .i64) .str) 0 y28]⟩, some ⟨false, [.seq (.int .i64) 0 y29]⟩, some ⟨false, [.seq (.int .i64) 0 y30]⟩]) (fun (y17 : Int) (y18 : Int) (y19 : Int) (y25 : List (Int × ByteArray)) (y26 : List (Int × ByteArray)) (y27 : List Int) (y28 : List Int) => K .ret [.tv (.lf (.bool false))] [some ⟨d.2.1.1, [.seq (.int .u8) 0 d.2.1.2.1]⟩, some ⟨d.2.2.1.1, [.seq (.int .u8) 0 d.2.2.1.2.1]⟩, some ⟨false, [.int .i64 d.2.2.2.1.2.1, .int .i64 d.2.2.2.1.2.2.1, .int .i64 d.2.2.2.1.2.2.2.1, .int .i64 d.2.2.2.1.2.2.2.2.1]⟩, some ⟨false, [.seq .str 0 d.2.2.2.2.1.2.1]⟩, some ⟨false, [.int .i64 d.2.2.2.2.2.1.2.1, .int .i64 d.2.2.2.2.2.1.2.2.1, .int .i64 d.2.2.2.2.2.1.2.2.2.1, .int .i64 d.2.2.2.2.2.1.2.2.2.2.1, .full 5]⟩, some ⟨false, [.seq .str 0 d.2.2.2.2.2.2.1.2.1]⟩, some ⟨false, [.int .i64 d.2.2.2.2.2.2.2.1.2.1, .int .i64 d.2.2.2.2.2.2.2.1.2.2.1, .int .i64 d.2.2.2.2.2.2.2.1.2.2.2.1, .int .i64 d.2.2.2.2.2.2.2.1.2.2.2.2.1, .ptr 7 0, .full 9, .full 10, .int .i64 y17, .int .i64 y18, .int .i64 y19]⟩, some ⟨false, [.int .i64 d.2.2.2.2.2.2.2.2.1.2.1, .int .i64 d.2.2.2.2.2.2.2.2.1.2.2.1, .int .i64 d.2.2.2.2.2.2.2.2.1.2.2.2.1, .int .i64 d.2.2.2.2.2.2.2.2.1.2.2.2.2.1, .full 8]⟩, some ⟨false, [.seq .str 0 d.2.2.2.2.2.2.2.2.2.1.2.1]⟩, some ⟨false, [.seq (.pair (.int .i64) .str) 0 y25]⟩, some ⟨false, [.seq (.pair (.int .i64) .str) 0 y26]⟩, none, some ⟨false, [.seq (.int .i64) 0 y27]⟩, some ⟨false, [.seq (.int .i64) 0 y28]⟩]) (fun (y17 : Int) (y18 : Int) (y19 : Int) (y25 : List (Int × ByteArray)) (y26 : List (Int × ByteArray)) (y27 : List Int) => K .ret [.tv (.lf (.bool false))] [some ⟨d.2.1.1, [.seq (.int .u8) 0 d.2.1.2.1]⟩, some ⟨d.2.2.1.1, [.seq (.int .u8) 0 d.2.2.1.2.1]⟩, some ⟨false, [.int .i64 d.2.2.2.1.2.1, .int .i64 d.2.2.2.1.2.2.1, .int .i64 d.2.2.2.1.2.2.2.1, .int .i64 d.2.2.2.1.2.2.2.2.1]⟩, some ⟨false, [.seq .str 0 d.2.2.2.2.1.2.1]⟩, some ⟨false, [.int .i64 d.2.2.2.2.2.1.2.1, .int .i64 d.2.2.2.2.2.1.2.2.1, .int .i64 d.2.2.2.2.2.1.2.2.2.1, .int .i64 d.2.2.2.2.2.1.2.2.2.2.1, .full 5]⟩, some ⟨false, [.seq .str 0 d.2.2.2.2.2.2.1.2.1]⟩, some ⟨false, [.int .i64 d.2.2.2.2.2.2.2.1.2.1, .int .i64 d.2.2.2.2.2.2.2.1.2.2.1, .int .i64 d.2.2.2.2.2.2.2.1.2.2.2.1, .int .i64 d.2.2.2.2.2.2.2.1.2.2.2.2.1, .ptr 7 0, .full 9, .full 10, .int .i64 y17, .int .i64 y18, .int .i64 y19]⟩, some ⟨false, [.int .i64 d.2.2.2.2.2.2.2.2.1.2.1, .int .i64 d.2.2.2.2.2.2.2.2.1.2.2.1, .int .i64 d.2.2.2.2.2.2.2.2.1.2.2.2.1, .int .i64 d.2.2.2.2.2.2.2.2.1.2.2.2.2.1, .full 8]⟩, some ⟨false, [.seq .str 0 d.2.2.2.2.2.2.2.2.2.1.2.1]⟩, some ⟨false, [.seq (.pair (.int .i64) .str) 0 y25]⟩, some ⟨false, [.seq (.pair (.int .i64) .str) 0 y26]⟩, some ⟨false, [.seq (.int .i64) 0 y27]⟩]) (fun (y16 : Int) (y17 : Int) (y18 : Int) (y24 : List (Int × ByteArray)) (y25 : List (Int × ByteArray)) (y26 : List Int) => K (.exit 0) [.tv (.lf (.full 0)), .tv (.lf (.ptr 2 0)), .tv (.lf (.ptr 4 0)), .tv (.lf (.ptr 6 0)), .tv (.lf (.full 11))] [some ⟨d.2.1.1, [.seq (.int .u8) 0 d.2.1.2.1]⟩, some ⟨d.2.2.1.1, [.seq (.int .u8) 0 d.2.2.1.2.1]⟩, some ⟨false, [.int .i64 d.2.2.2.1.2.1, .int .i64 d.2.2.2.1.2.2.1, .int .i64 d.2.2.2.1.2.2.2.1, .int .i64 d.2.2.2.1.2.2.2.2.1]⟩, some ⟨false, [.seq .str 0 d.2.2.2.2.1.2.1]⟩, some ⟨false, [.int .i64 d.2.2.2.2.2.1.2.1, .int .i64 d.2.2.2.2.2.1.2.2.1, .int .i64 d.2.2.2.2.2.1.2.2.2.1, .int .i64 d.2.2.2.2.2.1.2.2.2.2.1, .full 5]⟩, some ⟨false, [.seq .str 0 d.2.2.2.2.2.2.1.2.1]⟩, some ⟨false, [.int .i64 d.2.2.2.2.2.2.2.1.2.1, .int .i64 d.2.2.2.2.2.2.2.1.2.2.1, .int .i64 d.2.2.2.2.2.2.2.1.2.2.2.1, .int .i64 d.2.2.2.2.2.2.2.1.2.2.2.2.1, .ptr 7 0, .full 9, .full 10, .int .i64 y16, .int .i64 y17, .int .i64 y18]⟩, some ⟨false, [.int .i64 d.2.2.2.2.2.2.2.2.1.2.1, .int .i64 d.2.2.2.2.2.2.2.2.1.2.2.1, .int .i64 d.2.2.2.2.2.2.2.2.1.2.2.2.1, .int .i64 d.2.2.2.2.2.2.2.2.1.2.2.2.2.1, .full 8]⟩, some ⟨false, [.seq .str 0 d.2.2.2.2.2.2.2.2.2.1.2.1]⟩, some ⟨false, [.seq (.pair (.int .i64) .str) 0 y24]⟩, some ⟨false, [.seq (.pair (.int .i64) .str) 0 y25]⟩, some ⟨false, [.seq (.int .i64) 0 y26]⟩]) F d.1.2.2.2.2.2.2.2.1 d.2.2.2.2.2.2.2.1.2.2.2.2.2.2.2.2.1 d.2.2.2.2.2.2.2.1.2.2.2.2.2.2.2.2.2.1 d.2.2.2.2.2.2.2.1.2.2.2.2.2.2.2.2.2.2.1 d.2.2.2.2.2.2.2.2.2.2.1.2.1 d.2.2.2.2.2.2.2.2.2.2.2.1.2.1 d.2.2.2.2.2.2.2.2.2.2.2.2.1.2.1) [])]) code3 Try.f3.results.toList (encT sh3_1.vs d.1) (encH sh3_1.h d.2) K = (fun (a1 : Int) (a2 : Int) (a3 : Int) (a4 : Int) (a5 : List Int) (a6 : List Int) (K0 : (Bool → Option Res)) => cond (decide (a1 > 30)) (c8_1  (fun x1 => K0 x1) ) (c7_1 a1 a2 a3 a4 (fun x2 => cond (!x2) (c8_1  (fun x3 => K0 x3) ) (c9_1 a1 a2 a3 a4 a6 (fun x4 => c9_1 a1 a2 a3 a4 a5 (fun x5 => c10_1 a1 a2 a3 a4 x5 (fun x6 => c11_1 a1 a2 a3 a4 x4 (fun x7 => c13_568  ) (fun x8 => c13_1 a1 a2 a3 a4 x8 (fun x9 => c12_115 x9 (K0 false) ) ) ) (fun x10 => c11_1 a1 a2 a3 a4 x4 (fun x11 => c13_568  ) (fun x12 => c13_1 a1 a2 a3 a4 x12 (fun x13 => c12_1 x13 a1 a2 a3 a4 x10 (K0 false) (fun x14 x15 x16 => c14_1 a1 a2 a3 a4 (fun x17 => l12 x17 a5 a6 a1 a2 a3 a4 x4 a1 a2 a3 a4 x12 a1 a2 a3 a4 a1 a2 a3 a4 x14 (fun x102 x103 x104 x105 x106 x107 x108 x109 x110 => K0 false) (fun x111 x112 x113 x114 x115 x116 x117 x118 => K0 false) (fun x119 x120 x121 x122 x123 x124 x125 x126 x127 => K0 false) (fun x128 x129 x130 x131 x132 x133 x134 => K0 false) (fun x135 x136 x137 x138 x139 x140 => K0 false) (fun x141 x142 x143 x144 x145 x146 => c9_1 a1 a2 a3 a4 a5 (fun x147 => c11_1 a1 a2 a3 a4 x147 (fun x148 => c21_1545 a1 a2 a3 a4 x12 ) (fun x149 => c21_1 a1 a2 a3 a4 x149 a1 a2 a3 a4 x12 (fun x150 x151 x152 => c22_1 a1 a2 a3 a4 x141 x142 x143 a1 a2 a3 a4 x14 x144 x145 (c15_1 a1 a2 a3 a4 x141 x142 x143 a1 a2 a3 a4 x14 x144 x145 (fun x153 => cond x153 (c23_1 x146 x152 (fun x154 => cond x154 (cond (x143 == ((x152.length : Nat) : Int)) (c24_1 a1 a2 a3 a4 (fun x155 => cond (decide (x142 ≤ IntKind.i64.wrap ((IntKind.i64.wrap (a2 * x155)) * ((x152.length : Nat) : Int)))) (c8_1  (fun x156 => K0 x156) ) (K0 false)) ) (K0 false)) (K0 false)) ) (K0 false)) ) ) ) ) ) F 0 0 0 0 x15 x16 []) ) ) ) ) ) ) )) )) d.1.1.1 d.1.1.2.1 d.1.1.2.2.1 d.1.1.2.2.2.1 d.2.1.2.1 d.2.2.1.2.1 (fun (y0 : Bool) => K [.lf (.bool y0)] [some ⟨d.2.1.1, [.seq (.int .u8) 0 d.2.1.2.1]⟩, some ⟨d.2.2.1.1, [.seq (.int .u8) 0 d.2.2.1.2.1]⟩]) := by kernel_rfl
theorem E3_1 (F : Nat) (d : sh3_1.den) (K : KF) : evBody Try.prog (T3_1 F) (xw []) 187 2 (LT3_1 F) code3 Try.f3.results.toList (encT sh3_1.vs d.1) (encH sh3_1.h d.2) K = f3_1 F d.1.1.1 d.1.1.2.1 d.1.1.2.2.1 d.1.1.2.2.2.1 d.2.1.2.1 d.2.2.1.2.1 (fun (y0 : Bool) => K [.lf (.bool y0)] [some ⟨d.2.1.1, [.seq (.int .u8) 0 d.2.1.2.1]⟩, some ⟨d.2.2.1.1, [.seq (.int .u8) 0 d.2.2.1.2.1]⟩]) := Eq.mp (by kernel_rfl) (E3_1g F (f7_1 F) (f8_1 F) (f9_1 F) (f10_1 F) (f11_1 F) (f12_1 F) (f12_115 F) (f13_1 F) (f13_568 F) (f14_1 F) (f15_1 F) (f16_1 F) (f17_1 F) (f18_1 F) (f19_1 F) (f20_1 F) (f21_1 F) (f21_1545 F) (f22_1 F) (f23_1 F) (f24_1 F) (f3_1_l12 F) (G3_1_20 F F) d K)
theorem S3_1_ok (F : Nat) (o : Summ) (ho : SoundFn Try.prog 3 o) : SoundFn Try.prog 3 (S3_1 F o) :=
  soundFn_of (fn := Try.f3) (c := code3) rfl rfl (by kernel_rfl) (tab_cons (S7_1_ok F _ (noS_sound enter7)) (tab_cons (S8_1_ok F _ (noS_sound enter8)) (tab_cons (S9_1_ok F _ (noS_sound enter9)) (tab_cons (S10_1_ok F _ (noS_sound enter10)) (tab_cons (S11_1_ok F _ (noS_sound enter11)) (tab_cons (S12_1_ok F _ (S12_115_ok F _ (noS_sound enter12))) (tab_cons (S13_1_ok F _ (S13_568_ok F _ (noS_sound enter13))) (tab_cons (S14_1_ok F _ (noS_sound enter14)) (tab_cons (S15_1_ok F _ (noS_sound enter15)) (tab_cons (S16_1_ok F _ (noS_sound enter16)) (tab_cons (S17_1_ok F _ (noS_sound enter17)) (tab_cons (S18_1_ok F _ (noS_sound enter18)) (tab_cons (S19_1_ok F _ (noS_sound enter19)) (tab_cons (S20_1_ok F _ (noS_sound enter20)) (tab_cons (S21_1_ok F _ (S21_1545_ok F _ (noS_sound enter21))) (tab_cons (S22_1_ok F _ (noS_sound enter22)) (tab_cons (S23_1_ok F _ (noS_sound enter23)) (tab_cons (S24_1_ok F _ (noS_sound enter24)) tab_nil)))))))))))))))))) (by kernel_rfl) (by kernel_rfl) ho (by rw [loops3]; exact (loopsOK_cons (by kernel_rfl) (L3_1_12 F) (loopsOK_cons (by kernel_rfl) (L3_1_20 F) loopsOK_nil))) (by rw [scopes3]; exact scopesOK_nil) (by rw [ranges3]; exact rangesOK_nil) (E3_1 F)
end Go.Proofs.Ytillbabmlfjegaa.X
end

section
/- A row's arguments, opened as typed values: slices, which are lent for reading. -/
namespace Go.Proofs.Ytillbabmlfjegaa.Ev
open Go Go.RowKit
set_option linter.unusedVariables false
set_option linter.unusedSimpArgs false
set_option linter.unusedSectionVars false
variable [FZ]

section
variable {P : Program} {H : Type} {enc : TypeId × Value → H} {w : World} {held : Bool}

theorem open_slice (hfz : ∀ a cap cs, FzW (Ctx.of w fun _ => False) a cap cs → FZ.ok a cap cs) {e t : TypeId} {sl : List SL} {k : EK} (conv : denL sl → k.den) (ht : P.underlying t = some (.slice e)) (hs : slOf P 8 e = some sl) (hc : P.cellsOf e = k.w) (hconv : ∀ y, k.of1 (encL sl y) = some (conv y))
    (hwf : ∀ y, wfL sl y → wfE k (conv y)) {r : Reach} {b0 : Nat} {v : Value} {d : DataW H} {ps : List MemPlace} (hv : Value.okWide P w r b0 t v) (h : DataW.Trod enc P w 0 (fun _ => true) held t v d ps) :
    ∃ (l : List k.den) (g : Gh), Shown w k l g v := by
  obtain ⟨a0, n0, c0, rfl⟩ := Go.WideShapes.okWide_slice ht hv
  obtain ⟨fuel, hf⟩ := h
  exact slice_core ht hc (fun n cs x hx => by
    obtain ⟨d', o1, o2⟩ := slOf_open (m := []) hfz 8 e sl n cs x hs hx
    exact ⟨conv d', of1_cells k (hconv d') o1, hwf d' o2⟩) hf

/-- Arguments that are lent. -/
theorem inv_shown {m : GM} {h : Heap} (hfz : ∀ a cap cs, FZ.ok a cap cs → FzW (Ctx.of w fun _ => False) a cap cs) (hl : m.length = h.length) (hq : ∀ (i : Nat) ob g, hget h i = some ob → m[i]? = some g → ob.ro = true ∧ ObRel m g w ob ∧ ∀ b, g.addr = some b → b.1 < w.heap.size) :
    Inv (Ctx.of w fun _ => False) m h w :=
  ⟨hl, fun id ob g h1 h2 => (hq id ob g h1 h2).2.1, fun id ob g b h1 h2 h3 => by rw [(hq id ob g h1 h2).1]; exact ⟨fun h => h, (hq id ob g h1 h2).2.2 b h3, trivial⟩,
   fun i j oi oj gi gj b c _ h1 h2 h3 _ h5 h6 => (by rw [(hq i oi gi h1 h5).1] at h3; cases h3), Str.refl w, Nat.le_refl _, fun _ _ _ => rfl, hfz, fun x hx => by cases hx⟩

theorem inv_cons {m : GM} {h : Heap} {k : EK} {l : List k.den} {g : Gh} {v : Value} (hi : Inv (Ctx.of w fun _ => False) m h w) (hro : ∀ (i : Nat) ob, hget h i = some ob → ob.ro = true) (hs : Shown w k l g v) :
    Inv (Ctx.of w fun _ => False) (m ++ [g]) (h ++ [some ⟨true, [.seq k 0 l]⟩]) w ∧ (∀ (i : Nat) ob, hget (h ++ [some ⟨true, [.seq k 0 l]⟩]) i = some ob → ob.ro = true) ∧ LRel (m ++ [g]) (.full h.length) v := by
  have hro' : ∀ (i : Nat) ob, hget (h ++ [some ⟨true, [.seq k 0 l]⟩]) i = some ob → ob.ro = true := by
    intro i ob h1
    rcases hget_app h1 with ⟨_, h2⟩ | ⟨_, h2⟩
    · exact hro i ob h2
    · cases h2; rfl
  refine ⟨inv_shown hi.fz (by simp [hi.len]) fun i ob g' h1 h2 => ⟨hro' i ob h1, ?_⟩, hro', ?_⟩
  · rcases hget_app h1 with ⟨hlt, h3⟩ | ⟨rfl, h3⟩
    · have h4 := gm_app_old (by rw [hi.len]; exact hlt) h2
      obtain ⟨o1, cs, o2, o3⟩ := hi.obs i ob g' h3 h4
      exact ⟨⟨o1, cs, o2.mono (pre_append _ _), o3⟩, fun b hb => hi.block_lt h3 h4 hb⟩
    · cases h3
      have : (m ++ [g])[h.length]? = some g := by rw [← hi.len]; exact gm_app_new
      rw [this] at h2; cases h2
      exact ⟨hs.obj _, hs.blk⟩
  · exact hs.rel _ _ (by rw [← hi.len]; exact gm_app_new)

end
end Go.Proofs.Ytillbabmlfjegaa.Ev
end

section
/- SHA-256: blocks; bytes that come in parts; the digest. -/
namespace Go.Proofs.Ytillbabmlfjegaa.X
open Go Go.Proofs.Ytillbabmlfjegaa.Ev
set_option linter.unusedSectionVars false
variable [FZ]
set_option linter.unusedVariables false
set_option linter.unusedSimpArgs false

def sS1 (e : Int) : Int := ixor .u32 (ixor .u32 (rot e 6) (rot e 11)) (rot e 25)
def sS0 (a : Int) : Int := ixor .u32 (ixor .u32 (rot a 2) (rot a 13)) (rot a 22)
def t1 (e f g h k w : Int) : Int := IntKind.u32.wrap (IntKind.u32.wrap (IntKind.u32.wrap (IntKind.u32.wrap (h + sS1 e) + ixor .u32 (iand .u32 e f) (iand .u32 (ixor .u32 4294967295 e) g)) + k) + w)
def t2 (a b c : Int) : Int := IntKind.u32.wrap (sS0 a + ixor .u32 (ixor .u32 (iand .u32 a b) (iand .u32 a c)) (iand .u32 b c))

def stp (v : List Int) (k w : Int) : List Int := match v with
  | [a, b, c, d, e, f, g, h] => [IntKind.u32.wrap (t1 e f g h k w + t2 a b c), a, b, c, IntKind.u32.wrap (d + t1 e f g h k w), e, f, g]
  | v => v

def rds (kk ww : List Int) : Nat → Nat → List Int → List Int
  | 0, _, v => v
  | m + 1, i, v => rds kk ww m (i + 1) (stp v (kk.getD i 0) (ww.getD i 0))

def fin8 (s v : List Int) : List Int := match s, v with
  | [a, b, c, d, e, f, g, h], [a', b', c', d', e', f', g', h'] => [IntKind.u32.wrap (a' + a), IntKind.u32.wrap (b' + b), IntKind.u32.wrap (c' + c), IntKind.u32.wrap (d' + d), IntKind.u32.wrap (e' + e), IntKind.u32.wrap (f' + f), IntKind.u32.wrap (g' + g), IntKind.u32.wrap (h' + h)]
  | _, _ => []

def eight (s : List Int) : Prop := ∃ a b c d e f g h, s = [a, b, c, d, e, f, g, h]
theorem eight_of {s : List Int} (h : s.length = 8) : eight s := by
  match s, h with
  | [a, b, c, d, e, f, g, h], _ => exact ⟨a, b, c, d, e, f, g, h, rfl⟩

theorem stp_eight {v : List Int} (h : eight v) (k w : Int) : eight (stp v k w) := by
  obtain ⟨a, b, c, d, e, f, g, h, rfl⟩ := h
  exact ⟨_, _, _, _, _, _, _, _, rfl⟩
theorem rds_eight {kk ww : List Int} : ∀ (m i : Nat) {v : List Int}, eight v → eight (rds kk ww m i v)
  | 0, _, v, h => h
  | m + 1, i, v, h => rds_eight m (i + 1) (stp_eight h _ _)

/-- The numbers behind a block. -/
def blk (s b : List Int) : List Int := fin8 s (rds k64 (wds b) 64 0 s)
theorem blk_eight {s : List Int} (b : List Int) (h : eight s) : eight (blk s b) := by
  have h2 := rds_eight (kk := k64) (ww := wds b) 64 0 h
  obtain ⟨a, b', c, d, e, f, g, h, rfl⟩ := h
  obtain ⟨a', b'', c', d', e', f', g', h', h3⟩ := h2
  unfold blk
  rw [h3]
  exact ⟨_, _, _, _, _, _, _, _, rfl⟩

theorem k64_len : k64.length = 64 := rfl

theorem rdP {β : Type} {F : Nat} {b s z ww : List Int} {K : List Int → Option β} (hw : ww.length = 64) : ∀ (m i k : Nat) (v : List Int), eight v → i + m = 64 → m < k →
    f130_0_l3 F b s z k64 ww K k (i : Int) v = K (rds k64 ww m i v)
  | 0, i, k, v, he, hi, hk => by
    obtain ⟨k, rfl⟩ : ∃ j, k = j + 1 := ⟨k - 1, by omega⟩
    simp only [f130_0_l3]
    rw [cf (by omega)]; rfl
  | m + 1, i, k, v, he, hi, hk => by
    obtain ⟨k, rfl⟩ : ∃ j, k = j + 1 := ⟨k - 1, by omega⟩
    have e4 : IntKind.i64.wrap ((i : Int) + 1) = ((i + 1 : Nat) : Int) := by rw [w64 (by omega) (by omega)]; omega
    have ih := rdP (F := F) (b := b) (s := s) (z := z) (K := K) hw m (i + 1) k _ (stp_eight he (k64.getD i 0) (ww.getD i 0)) (by omega) (by omega)
    obtain ⟨va, vb, vc, vd, ve, vf, vg, vh, rfl⟩ := he
    simp only [f130_0_l3, e4, hw, Int.toNat_natCast]
    have q0 : i < k64.length := by rw [k64_len]; omega
    rw [ct (by omega), ct (by simp), ct (by simp), ct (by simp), ct (by simp), ct (by simp), ct (by simp), ct (by simp), ct (by simp), ct (by simp), ct (by omega), ct q0, ct (by omega), ct (by omega),
      turnP (by omega) (by omega), turnP (by omega) (by omega), turnP (by omega) (by omega), turnP (by omega) (by omega), turnP (by omega) (by omega), turnP (by omega) (by omega)]
    rw [ct (by simp), ct (by simp), ct (by simp)]
    exact ih

def adds (s : List Int) : Nat → Nat → List Int → List Int
  | 0, _, v => v
  | m + 1, i, v => adds s m (i + 1) (v.set i (IntKind.u32.wrap (v.getD i 0 + s.getD i 0)))

theorem addP {β : Type} {F : Nat} {b z s : List Int} {K : List Int → Option β} (hs : s.length = 8) : ∀ (m i k : Nat) (v : List Int), v.length = 8 → i + m = 8 → m < k →
    f130_0_l14 F b s z K k (i : Int) v = K (adds s m i v)
  | 0, i, k, v, he, hi, hk => by
    obtain ⟨k, rfl⟩ : ∃ j, k = j + 1 := ⟨k - 1, by omega⟩
    simp only [f130_0_l14]
    rw [cf (by omega)]; rfl
  | m + 1, i, k, v, he, hi, hk => by
    obtain ⟨k, rfl⟩ : ∃ j, k = j + 1 := ⟨k - 1, by omega⟩
    have e4 : IntKind.i64.wrap ((i : Int) + 1) = ((i + 1 : Nat) : Int) := by rw [w64 (by omega) (by omega)]; omega
    simp only [f130_0_l14, e4, hs, he, Int.toNat_natCast]
    rw [ct (by omega), ct (by omega), ct (by omega), ct (by omega), ct (by omega), ct (by omega), ct (by omega)]
    exact addP hs m (i + 1) k _ (by simp [he]) (by omega) (by omega)

theorem fnP {β : Type} {F : Nat} {b z s v : List Int} {K : List Int → Option β} (hF : 9 ≤ F) (hs : eight s) (hv : eight v) : f130_0_l14 F b s z K F 0 v = K (fin8 s v) := by
  obtain ⟨a, b', c, d, e, f, g, h, rfl⟩ := hs
  obtain ⟨va, vb, vc, vd, ve, vf, vg, vh, rfl⟩ := hv
  exact addP rfl 8 0 F _ rfl (by omega) (by omega)

theorem blkP {β : Type} {F : Nat} {s b : List Int} {K : List Int → Option β} (hF : 100 ≤ F) (hs : eight s) (hb : 64 ≤ b.length) : f130_1 F s b K = K (blk s b) := by
  simp only [f130_1]
  rw [ct ⟨hF, hb⟩]
  simp only [f130_0]
  have h1 := rdP (F := F) (b := b) (s := s) (z := [0, 0, 0, 0, 0, 0, 0, 0]) (K := fun x14 => f130_0_l14 F b s [0, 0, 0, 0, 0, 0, 0, 0] (fun x20 => K x20) F 0 x14) (wds_len b) 64 0 F s hs (by omega) (by omega)
  rw [show ((0 : Nat) : Int) = 0 from rfl] at h1
  rw [h1, fnP (by omega) hs (rds_eight 64 0 hs)]
  rfl

theorem rdR {β : Type} {F : Nat} {b s z ww : List Int} {K : Int → Int → Int → Int → Int → Int → Int → Int → Option β} {K' : List Int → Option β} (hK : ∀ a b c d e f g h, K a b c d e f g h = K' [a, b, c, d, e, f, g, h]) (hw : ww.length = 64) : ∀ (m i k : Nat) (va vb vc vd ve vf vg vh : Int), i + m = 64 → m < k →
    f120_1_l21 F k64 b s z ww K k va vb vc vd ve vf vg vh (i : Int) = K' (rds k64 ww m i [va, vb, vc, vd, ve, vf, vg, vh])
  | 0, i, k, va, vb, vc, vd, ve, vf, vg, vh, hi, hk => by
    obtain ⟨k, rfl⟩ : ∃ j, k = j + 1 := ⟨k - 1, by omega⟩
    simp only [f120_1_l21]
    rw [cf (by omega), hK]; rfl
  | m + 1, i, k, va, vb, vc, vd, ve, vf, vg, vh, hi, hk => by
    obtain ⟨k, rfl⟩ : ∃ j, k = j + 1 := ⟨k - 1, by omega⟩
    have e4 : IntKind.i64.wrap ((i : Int) + 1) = ((i + 1 : Nat) : Int) := by rw [w64 (by omega) (by omega)]; omega
    have q0 : i < k64.length := by rw [k64_len]; omega
    simp only [f120_1_l21, e4, hw, Int.toNat_natCast, Nat.zero_add]
    rw [ct (by omega), ct (by omega), ct q0, ct (by omega), ct (by omega),
      turnR (by omega) (by omega), turnR (by omega) (by omega), turnR (by omega) (by omega), turnR (by omega) (by omega), turnR (by omega) (by omega), turnR (by omega) (by omega)]
    exact rdR hK hw m (i + 1) k _ _ _ _ _ _ _ _ (by omega) (by omega)

theorem blkR {β : Type} {F : Nat} {s b : List Int} {K : List Int → Option β} (hF : 100 ≤ F) (hs : eight s) (hb : 64 ≤ b.length) : f120_1 F s k64 b K = K (blk s b) := by
  simp only [f120_1]
  rw [show ([0, 0, 0, 0, 0, 0, 0, 0, 0, 0, 0, 0, 0, 0, 0, 0, 0, 0, 0, 0, 0, 0, 0, 0, 0, 0, 0, 0, 0, 0, 0, 0, 0, 0, 0, 0, 0, 0, 0, 0, 0, 0, 0, 0, 0, 0, 0, 0, 0, 0, 0, 0, 0, 0, 0, 0, 0, 0, 0, 0, 0, 0, 0, 0] : List Int) = List.replicate 64 0 from rfl]
  have h0 := ldR (F := F) (b := b) (z := [0, 0, 0, 0, 0, 0, 0, 0]) (s := s) (y := k64) (K := fun x7 => f120_1_l7 F k64 b s [0, 0, 0, 0, 0, 0, 0, 0] (fun x18 => cond (decide (0 < s.length)) (cond (decide (1 < s.length)) (cond (decide (2 < s.length)) (cond (decide (3 < s.length)) (cond (decide (4 < s.length)) (cond (decide (5 < s.length)) (cond (decide (6 < s.length)) (cond (decide (7 < s.length)) (f120_1_l21 F k64 b s [0, 0, 0, 0, 0, 0, 0, 0] x18 (fun x39 x40 x41 x42 x43 x44 x45 x46 => cond (decide (0 < s.length)) (cond (decide (1 < s.length)) (cond (decide (2 < s.length)) (cond (decide (3 < s.length)) (cond (decide (4 < s.length)) (cond (decide (5 < s.length)) (cond (decide (6 < s.length)) (cond (decide (7 < s.length)) (K [IntKind.u32.wrap ((s.getD 0 0) + x39), IntKind.u32.wrap ((s.getD 1 0) + x40), IntKind.u32.wrap ((s.getD 2 0) + x41), IntKind.u32.wrap ((s.getD 3 0) + x42), IntKind.u32.wrap ((s.getD 4 0) + x43), IntKind.u32.wrap ((s.getD 5 0) + x44), IntKind.u32.wrap ((s.getD 6 0) + x45), IntKind.u32.wrap ((s.getD 7 0) + x46)]) none) none) none) none) none) none) none) none) F (s.getD 0 0) (s.getD 1 0) (s.getD 2 0) (s.getD 3 0) (s.getD 4 0) (s.getD 5 0) (s.getD 6 0) (s.getD 7 0) 0) none) none) none) none) none) none) none) none) F 16 x7) hb 16 0 F (List.replicate 64 0) (by omega) (by omega) (by simp)
  rw [show ((0 : Nat) : Int) = 0 from rfl] at h0
  rw [h0]
  rw [show (16 : Int) = ((16 : Nat) : Int) from rfl, exR 48 16 F _ (by omega) (by omega) (by omega) (by rw [ldr_len]; simp)]
  obtain ⟨a, b', c, d, e, f, g, h, rfl⟩ := hs
  have hw := wds_len b
  unfold blk
  unfold wds at hw ⊢
  rw [ct (by simp), ct (by simp), ct (by simp), ct (by simp), ct (by simp), ct (by simp), ct (by simp), ct (by simp)]
  have h1 := rdR (F := F) (b := b) (s := [a, b', c, d, e, f, g, h]) (z := [0, 0, 0, 0, 0, 0, 0, 0]) (K' := fun v => K (fin8 [a, b', c, d, e, f, g, h] v)) (K := fun x39 x40 x41 x42 x43 x44 x45 x46 =>
    K [IntKind.u32.wrap (a + x39), IntKind.u32.wrap (b' + x40), IntKind.u32.wrap (c + x41), IntKind.u32.wrap (d + x42), IntKind.u32.wrap (e + x43), IntKind.u32.wrap (f + x44), IntKind.u32.wrap (g + x45), IntKind.u32.wrap (h + x46)])
    (fun x1 x2 x3 x4 x5 x6 x7 x8 => by simp only [fin8]; rw [Int.add_comm a, Int.add_comm b', Int.add_comm c, Int.add_comm d, Int.add_comm e, Int.add_comm f, Int.add_comm g, Int.add_comm h]) hw 64 0 F a b' c d e f g h (by omega) (by omega)
  rw [show ((0 : Nat) : Int) = 0 from rfl] at h1
  exact h1

end Go.Proofs.Ytillbabmlfjegaa.X
end

section
/- SHA-256: bytes that come in parts, and the digest: the code's and the document's are one. -/
namespace Go.Proofs.Ytillbabmlfjegaa.X
open Go Go.Proofs.Ytillbabmlfjegaa.Ev
set_option linter.unusedSectionVars false
variable [FZ]
set_option linter.unusedVariables false
set_option linter.unusedSimpArgs false

def cmpN : Nat → List Int → List Int → List Int × List Int
  | 0, s, l => (s, l)
  | q + 1, s, l => cmpN q (blk s (l.take 64)) (l.drop 64)

theorem cmpN_add : ∀ (q r : Nat) (s l : List Int), cmpN (q + r) s l = cmpN r (cmpN q s l).1 (cmpN q s l).2
  | 0, r, s, l => by simp [cmpN]
  | q + 1, r, s, l => by
    rw [show q + 1 + r = (q + r) + 1 by omega]
    simp only [cmpN]
    exact cmpN_add q r _ _
theorem cmpN_app : ∀ (q : Nat) (s l t : List Int), 64 * q ≤ l.length → cmpN q s (l ++ t) = ((cmpN q s l).1, (cmpN q s l).2 ++ t)
  | 0, s, l, t, _ => rfl
  | q + 1, s, l, t, h => by
    simp only [cmpN]
    rw [List.take_append_of_le_length (by omega), List.drop_append_of_le_length (by omega)]
    exact cmpN_app q _ _ t (by simp; omega)
theorem cmpN_len : ∀ (q : Nat) (s l : List Int), (cmpN q s l).2.length = l.length - 64 * q
  | 0, s, l => by simp [cmpN]
  | q + 1, s, l => by simp only [cmpN]; rw [cmpN_len q]; simp; omega
theorem cmpN_eight : ∀ (q : Nat) {s : List Int} (l : List Int), eight s → eight (cmpN q s l).1
  | 0, s, l, h => h
  | q + 1, s, l, h => cmpN_eight q _ (blk_eight _ h)

theorem writeL {β : Type} {F : Nat} {n : Int} {b : List Int} {K : List Int → List Int → Option β} (hF : 100 ≤ F) : ∀ (q k : Nat) (s l : List Int), eight s → l.length / 64 = q → q < k → l.length ≤ 70368744177664 →
    f116_1_l3 F n b K k s l = K (cmpN q s l).1 (cmpN q s l).2
  | 0, k, s, l, he, hq, hk, hl => by
    obtain ⟨k, rfl⟩ : ∃ j, k = j + 1 := ⟨k - 1, by omega⟩
    simp only [f116_1_l3]
    rw [cf (by omega)]; rfl
  | q + 1, k, s, l, he, hq, hk, hl => by
    obtain ⟨k, rfl⟩ : ∃ j, k = j + 1 := ⟨k - 1, by omega⟩
    have h64 : 64 ≤ l.length := by omega
    have e1 : (l.drop 64).take ((((l.length : Nat) : Int) - 64).toNat) = l.drop 64 := List.take_of_length_le (by simp; omega)
    simp only [f116_1_l3, e1, List.drop_zero, List.nil_append]
    rw [ct (by omega), ct (by omega), blkP hF he (by simp; omega), ct (by omega), ct (by simp; omega)]
    exact writeL hF q k _ _ (blk_eight _ he) (by simp; omega) (by omega) (by simp; omega)

def byt (n : Int) (j : Nat) : Int := IntKind.u8.wrap (ishr .u64 n ((8 * j : Nat) : Int))
/-- A number's eight bytes, the highest first. -/
def bes (n : Int) : Nat → List Int
  | 0 => []
  | m + 1 => byt n m :: bes n m

def setB (n : Int) : Nat → Nat → List Int → List Int
  | 0, _, xs => xs
  | m + 1, i, xs => setB n m (i + 1) (xs.set (7 - i) (byt n i))

theorem setB_len (n : Int) : ∀ m i xs, (setB n m i xs).length = xs.length
  | 0, _, _ => rfl
  | m + 1, i, xs => by rw [setB, setB_len n m]; simp
theorem setB_eq (n : Int) {xs : List Int} (h : xs.length = 8) : setB n 8 0 xs = bes n 8 := by
  match xs, h with
  | [a, b, c, d, e, f, g, h], _ => rfl

theorem bitsL {β : Type} {F L cp : Nat} {n : Int} {s w : List Int} {y : Int} {K : List Int → Option β} {A C : List Int} (hA : A.length + 8 = L) (hL : L ≤ 128) : ∀ (m i k : Nat) (xs : List Int), i + m = 8 → m < k → xs.length = 8 →
    f117_1_l10 F 0 L cp n s y w K k (i : Int) (A ++ (xs ++ C)) = K (A ++ (setB n m i xs ++ C))
  | 0, i, k, xs, hi, hk, hx => by
    obtain ⟨k, rfl⟩ : ∃ j, k = j + 1 := ⟨k - 1, by omega⟩
    simp only [f117_1_l10]
    rw [cf (by omega)]; rfl
  | m + 1, i, k, xs, hi, hk, hx => by
    obtain ⟨k, rfl⟩ : ∃ j, k = j + 1 := ⟨k - 1, by omega⟩
    have e1 : IntKind.i64.wrap (8 * (i : Int)) = ((8 * i : Nat) : Int) := by rw [w64 (by omega) (by omega)]; omega
    have e2 : IntKind.i64.wrap (IntKind.i64.wrap (((L : Nat) : Int) - 1) - (i : Int)) = ((A.length + (7 - i) : Nat) : Int) := by rw [w64 (x := ((L : Nat) : Int) - 1) (by omega) (by omega), w64 (by omega) (by omega)]; omega
    have e4 : IntKind.i64.wrap ((i : Int) + 1) = ((i + 1 : Nat) : Int) := by rw [w64 (by omega) (by omega)]; omega
    have e5 : (A ++ (xs ++ C)).set (A.length + (7 - i)) (byt n i) = A ++ (xs.set (7 - i) (byt n i) ++ C) := by
      rw [List.set_append_right _ _ (by omega), List.set_append_left _ _ (by omega)]
      congr 2
      rw [show A.length + (7 - i) - A.length = 7 - i by omega]
    have e6 : (A ++ (xs ++ C)).length = A.length + 8 + C.length := by simp [hx]; omega
    simp only [f117_1_l10, e1, e2, e4, Int.toNat_natCast, Nat.zero_add]
    rw [ct (by omega), cf (by omega), ct (by omega), ct (by omega)]
    rw [show IntKind.u8.wrap (ishr .u64 n ((8 * i : Nat) : Int)) = byt n i from rfl, e5]
    exact bitsL hA hL m (i + 1) k _ (by omega) (by omega) (by simp [hx])

theorem getD_take {l : List Int} {n i : Nat} (h : i < n) : (l.take n).getD i 0 = l.getD i 0 := by
  rw [List.getD_eq_getElem?_getD, List.getD_eq_getElem?_getD, List.getElem?_take_of_lt h]

theorem word_take {b : List Int} {i : Nat} (h : i < 16) : word (b.take 64) i = word b i := by
  simp only [word]
  rw [getD_take (by omega), getD_take (by omega), getD_take (by omega), getD_take (by omega)]

theorem ldr_take {b : List Int} : ∀ (m i : Nat) (acc : List Int), i + m = 16 → ldr (b.take 64) m i acc = ldr b m i acc
  | 0, i, acc, h => rfl
  | m + 1, i, acc, h => by simp only [ldr]; rw [word_take (by omega), ldr_take m (i + 1) _ (by omega)]

theorem blk_take (s b : List Int) : blk s (b.take 64) = blk s b := by
  simp only [blk, wds]; rw [ldr_take 16 0 _ (by omega)]

theorem lastL {β : Type} {F : Nat} {s0 w buf : List Int} {y : Int} {K : List Int → Option β} (hF : 100 ≤ F) : ∀ (r k lo cp : Nat) (s : List Int), eight s → r < k → r ≤ 2 → lo + 64 * r ≤ buf.length → 64 * r ≤ cp →
    f117_1_l15 F s0 y w buf K k lo (64 * r) cp s = K (cmpN r s ((buf.drop lo).take (64 * r))).1
  | 0, k, lo, cp, s, he, hk, hr, hb, hc => by
    obtain ⟨k, rfl⟩ : ∃ j, k = j + 1 := ⟨k - 1, by omega⟩
    simp only [f117_1_l15]
    rw [cf (by omega)]; rfl
  | r + 1, k, lo, cp, s, he, hk, hr, hb, hc => by
    obtain ⟨k, rfl⟩ : ∃ j, k = j + 1 := ⟨k - 1, by omega⟩
    have e1 : (((64 * (r + 1) : Nat) : Int) - 64).toNat = 64 * r := by omega
    simp only [f117_1_l15, e1]
    rw [ct (by omega), blkP hF he (by simp; omega), ct (by omega)]
    rw [lastL hF r k (lo + 64) (cp - 64) _ (blk_eight _ he) (by omega) (by omega) (by omega) (by omega)]
    simp only [cmpN]
    rw [blk_take, List.drop_take, List.drop_drop, show 64 * (r + 1) - 64 = 64 * r by omega]

def outs (s : List Int) : Nat → Nat → List Int → List Int
  | 0, _, acc => acc
  | m + 1, i, acc => outs s m (i + 1) (acc ++ [IntKind.u8.wrap (ishr .u32 (s.getD i 0) 24), IntKind.u8.wrap (ishr .u32 (s.getD i 0) 16), IntKind.u8.wrap (ishr .u32 (s.getD i 0) 8), IntKind.u8.wrap (s.getD i 0)])

theorem outP {β : Type} {F : Nat} {s s0 w : List Int} {y : Int} {K : List Int → Option β} : ∀ (m i k : Nat) (acc : List Int), i + m = 8 → m < k → acc.length ≤ 4 * i →
    f117_1_l20 F s s0 y w K k (i : Int) acc = K (outs s m i acc)
  | 0, i, k, acc, hi, hk, ha => by
    obtain ⟨k, rfl⟩ : ∃ j, k = j + 1 := ⟨k - 1, by omega⟩
    simp only [f117_1_l20]
    rw [cf (by omega)]; rfl
  | m + 1, i, k, acc, hi, hk, ha => by
    obtain ⟨k, rfl⟩ : ∃ j, k = j + 1 := ⟨k - 1, by omega⟩
    have e4 : IntKind.i64.wrap ((i : Int) + 1) = ((i + 1 : Nat) : Int) := by rw [w64 (by omega) (by omega)]; omega
    simp only [f117_1_l20, e4, Int.toNat_natCast]
    rw [ct (by omega), ct (by omega), ct (by omega)]
    exact outP m (i + 1) k _ (by omega) (by omega) (by simp; omega)

theorem outR {β : Type} {F : Nat} {s b : List Int} {K : List Int → Option β} (hs : s.length = 8) : ∀ (m i k : Nat) (acc : List Int), i + m = 8 → m < k → acc.length ≤ 4 * i →
    f98_1_l19 F b s K k (i : Int) acc = K (outs s m i acc)
  | 0, i, k, acc, hi, hk, ha => by
    obtain ⟨k, rfl⟩ : ∃ j, k = j + 1 := ⟨k - 1, by omega⟩
    simp only [f98_1_l19]
    rw [cf (by omega)]; rfl
  | m + 1, i, k, acc, hi, hk, ha => by
    obtain ⟨k, rfl⟩ : ∃ j, k = j + 1 := ⟨k - 1, by omega⟩
    have e4 : IntKind.i64.wrap ((i : Int) + 1) = ((i + 1 : Nat) : Int) := by rw [w64 (by omega) (by omega)]; omega
    simp only [f98_1_l19, e4, Int.toNat_natCast, hs]
    rw [ct (by omega), ct (by omega), ct (by omega), ct (by omega), ct (by omega), ct (by omega), ct (by omega), ct (by omega), ct (by omega), ct (by omega)]
    exact outR hs m (i + 1) k _ (by omega) (by omega) (by simp; omega)

/-- The numbers ahead of all blocks. -/
def ini : List Int := [1779033703, 3144134277, 1013904242, 2773480762, 1359893119, 2600822924, 528734635, 1541459225]
theorem ini_eight : eight ini := ⟨_, _, _, _, _, _, _, _, rfl⟩

/-- How many bytes 0 stand behind the first one that is laid on. -/
def zs (n : Nat) : Nat := if n % 64 < 56 then 55 - n % 64 else 119 - n % 64
/-- What is laid on behind n bytes. -/
def pad (n : Nat) : List Int := [128] ++ (List.replicate (zs n) 0 ++ bes ((8 * n : Nat) : Int) 8)
def blks (n : Nat) : Nat := if n % 64 < 56 then 1 else 2
theorem pad_len (n : Nat) : (pad n).length = 1 + zs n + 8 := by simp [pad, bes]; omega

/-- The digest of bytes. -/
def dig (b : List Int) : ByteArray := ofInts (outs (cmpN (b.length / 64 + blks b.length) ini (b ++ pad b.length)).1 8 0 [])

theorem zeroL {β : Type} {F : Nat} {b : List Int} {K : List Int → Option β} : ∀ (m k : Nat) (acc : List Int), (acc.length + m) % 64 = 56 → m < 64 → m < k → acc.length + m ≤ 1000000 →
    f98_1_l4 F b K k acc = K (acc ++ List.replicate m 0)
  | 0, k, acc, hm, h6, hk, ha => by
    obtain ⟨k, rfl⟩ : ∃ j, k = j + 1 := ⟨k - 1, by omega⟩
    have : ((((acc.length : Nat) : Int).tmod 64) != 56) = false := by
      rw [show (64 : Int) = ((64 : Nat) : Int) from rfl, tmod_nn, show acc.length % 64 = 56 by omega]; rfl
    simp only [f98_1_l4, this, cond_false, List.replicate_zero, List.append_nil]
  | m + 1, k, acc, hm, h6, hk, ha => by
    obtain ⟨k, rfl⟩ : ∃ j, k = j + 1 := ⟨k - 1, by omega⟩
    have : ((((acc.length : Nat) : Int).tmod 64) != 56) = true := by
      rw [show (64 : Int) = ((64 : Nat) : Int) from rfl, tmod_nn]
      have h0 : ¬ (acc.length % 64 = 56) := by omega
      rw [bne_iff_ne]; intro h1; exact h0 (by exact_mod_cast h1)
    simp only [f98_1_l4, this, cond_true]
    have hl1 : (acc ++ [(0 : Int)]).length = acc.length + 1 := by simp
    rw [ct (by omega), zeroL m k (acc ++ [0]) (by rw [hl1]; omega) (by omega) (by omega) (by rw [hl1]; omega), List.append_assoc]
    rfl

theorem besL {β : Type} {F : Nat} {n : Int} {b : List Int} {K : List Int → Option β} : ∀ (m k : Nat) (acc : List Int), m ≤ 8 → m < k → acc.length ≤ 1000000 - m →
    f98_1_l8 F n b K k ((m : Int) - 1) acc = K (acc ++ bes n m)
  | 0, k, acc, hm, hk, ha => by
    obtain ⟨k, rfl⟩ : ∃ j, k = j + 1 := ⟨k - 1, by omega⟩
    simp only [f98_1_l8]
    rw [cf (by omega)]; simp [bes]
  | m + 1, k, acc, hm, hk, ha => by
    obtain ⟨k, rfl⟩ : ∃ j, k = j + 1 := ⟨k - 1, by omega⟩
    have e1 : IntKind.i64.wrap (8 * (((m + 1 : Nat) : Int) - 1)) = ((8 * m : Nat) : Int) := by rw [w64 (by omega) (by omega)]; omega
    have e2 : IntKind.u64.wrap ((8 * m : Nat) : Int) = ((8 * m : Nat) : Int) := wu64 (by omega) (by omega)
    have e3 : IntKind.i64.wrap ((((m + 1 : Nat) : Int) - 1) - 1) = (m : Int) - 1 := by rw [w64 (by omega) (by omega)]; omega
    simp only [f98_1_l8, e1, e2, e3]
    rw [ct (by omega), cf (by omega), ct (by omega), besL m k _ (by omega) (by omega) (by simp; omega), List.append_assoc]
    rfl

theorem blocksL {β : Type} {F : Nat} {b all : List Int} {K : List Int → Option β} (hF : 100 ≤ F) (hall : all.length ≤ 1000000) : ∀ (q k at_ : Nat) (h : List Int), eight h → at_ + 64 * q = all.length → q < k →
    f98_1_l14 F b all k64 K k (at_ : Int) h = K (cmpN q h (all.drop at_)).1
  | 0, k, at_, h, he, hq, hk => by
    obtain ⟨k, rfl⟩ : ∃ j, k = j + 1 := ⟨k - 1, by omega⟩
    have e1 : IntKind.i64.wrap ((at_ : Int) + 64) = ((at_ + 64 : Nat) : Int) := by rw [w64 (by omega) (by omega)]; omega
    simp only [f98_1_l14, e1]
    rw [cf (by omega)]; rfl
  | q + 1, k, at_, h, he, hq, hk => by
    obtain ⟨k, rfl⟩ : ∃ j, k = j + 1 := ⟨k - 1, by omega⟩
    have e1 : IntKind.i64.wrap ((at_ : Int) + 64) = ((at_ + 64 : Nat) : Int) := by rw [w64 (by omega) (by omega)]; omega
    have e2 : (((at_ + 64 : Nat) : Int) - (at_ : Int)).toNat = 64 := by omega
    simp only [f98_1_l14, e1, e2, Nat.zero_add, Int.toNat_natCast]
    rw [ct (by omega), ct (by omega), blkR hF he (by simp; omega), blocksL hF hall q k (at_ + 64) _ (blk_eight _ he) (by omega) (by omega)]
    simp only [cmpN]
    rw [List.drop_drop]

theorem sumR {β : Type} {F : Nat} {b : List Int} {K : ByteArray → Option β} (hb : b.length ≤ 100000) (hF : 2000 ≤ F) : f98_1 F b K = K (dig b) := by
  have e1 : IntKind.u64.wrap ((b.length : Nat) : Int) = ((b.length : Nat) : Int) := wu64 (by omega) (by omega)
  have e2 : IntKind.u64.wrap (((b.length : Nat) : Int) * 8) = ((8 * b.length : Nat) : Int) := by rw [wu64 (by omega) (by omega)]; omega
  have hz : zs b.length < 64 ∧ (b.length + 1 + zs b.length) % 64 = 56 := by unfold zs; split <;> omega
  have hpl := pad_len b.length
  have hbl : (b ++ pad b.length).length = 64 * (b.length / 64 + blks b.length) := by
    rw [List.length_append, hpl]; unfold zs blks; split <;> omega
  simp only [f98_1, e1, e2]
  rw [ct (by omega), ct (by omega), zeroL (zs b.length) F _ (by simp; omega) (by omega) (by omega) (by simp; omega)]
  have h8 := besL (F := F) (n := ((8 * b.length : Nat) : Int)) (b := b) (K := fun x8 => f118_1 F fun x9 => f119_1 F fun x10 => f98_1_l14 F b x8 x10 (fun x17 => f98_1_l19 F b x17 (fun x22 => K (ofInts x22)) F 0 []) F 0 x9) 8 F (b ++ [128] ++ List.replicate (zs b.length) 0) (by omega) (by omega) (by simp; omega)
  rw [show ((8 : Nat) : Int) - 1 = 7 from rfl] at h8
  rw [h8]
  rw [show b ++ [128] ++ List.replicate (zs b.length) 0 ++ bes ((8 * b.length : Nat) : Int) 8 = b ++ pad b.length by simp [pad]]
  simp only [f118_1, f119_1]
  have hB := blocksL (F := F) (b := b) (all := b ++ pad b.length) (K := fun x17 => f98_1_l19 F b x17 (fun x22 => K (ofInts x22)) F 0 []) (by omega) (by rw [hbl]; unfold blks; split <;> omega)
    (b.length / 64 + blks b.length) F 0 ini ini_eight (by omega) (by unfold blks; split <;> omega)
  rw [show ((0 : Nat) : Int) = 0 from rfl, List.drop_zero] at hB
  refine hB.trans ?_
  obtain ⟨a, b', c, d, e, f, g, h, hx⟩ := cmpN_eight (b.length / 64 + blks b.length) (b ++ pad b.length) ini_eight
  have := outR (F := F) (s := (cmpN (b.length / 64 + blks b.length) ini (b ++ pad b.length)).1) (b := b) (K := fun x22 => K (ofInts x22)) (by rw [hx]; rfl) 8 0 F [] (by omega) (by omega) (by simp)
  exact this

/-- What a hash has behind all these bytes. -/
def HS (all s : List Int) (n : Int) (w : List Int) : Prop := s = (cmpN (all.length / 64) ini all).1 ∧ w = (cmpN (all.length / 64) ini all).2 ∧ n = ((all.length : Nat) : Int)

theorem HS_eight {all s w : List Int} {n : Int} (h : HS all s n w) : eight s := by rw [h.1]; exact cmpN_eight _ _ ini_eight
theorem HS_len {all s w : List Int} {n : Int} (h : HS all s n w) : w.length = all.length % 64 := by rw [h.2.1, cmpN_len]; omega

theorem HS_nil : HS [] ini 0 [] := ⟨rfl, rfl, rfl⟩

theorem HS_app {all s w b : List Int} {n : Int} (h : HS all s n w) : cmpN ((w ++ b).length / 64) s (w ++ b) = cmpN ((all ++ b).length / 64) ini (all ++ b) := by
  have hl := HS_len h
  have : (all ++ b).length / 64 = all.length / 64 + (w ++ b).length / 64 := by simp only [List.length_append, hl]; omega
  rw [this, cmpN_add, cmpN_app (all.length / 64) ini all b (by omega), ← h.1, ← h.2.1]

/-- Some more bytes. -/
theorem writeP {β : Type} {F : Nat} {all s w b : List Int} {n : Int} {K : List Int → Int → List Int → Option β} (hF : 2000 ≤ F) (h : HS all s n w) (hb : (all ++ b).length ≤ 100000) :
    ∃ s' w', HS (all ++ b) s' (((all ++ b).length : Nat) : Int) w' ∧ f116_1 F s n w b K = K s' (((all ++ b).length : Nat) : Int) w' := by
  have hl := HS_len h
  have hab : (all ++ b).length = all.length + b.length := by simp
  refine ⟨_, _, ⟨rfl, rfl, rfl⟩, ?_⟩
  have e1 : IntKind.u64.wrap ((b.length : Nat) : Int) = ((b.length : Nat) : Int) := wu64 (by omega) (by omega)
  have e2 : IntKind.u64.wrap (n + ((b.length : Nat) : Int)) = (((all ++ b).length : Nat) : Int) := by rw [h.2.2, wu64 (by omega) (by omega)]; simp
  simp only [f116_1, e1, e2]
  rw [ct (by omega), writeL (by omega) ((w ++ b).length / 64) F s (w ++ b) (HS_eight h) rfl (by simp; omega) (by simp; omega), HS_app h]

/-- The digest of all that came. -/
theorem sumP {β : Type} {F : Nat} {all s w : List Int} {n : Int} {K : ByteArray → Option β} (hF : 2000 ≤ F) (h : HS all s n w) (hb : all.length ≤ 100000) : f117_1 F s n w K = K (dig all) := by
  have hl := HS_len h
  have he := HS_eight h
  have e2 : IntKind.u64.wrap (8 * n) = ((8 * all.length : Nat) : Int) := by rw [h.2.2, wu64 (by omega) (by omega)]; omega
  have e3 : min w.length 64 = w.length := by omega
  have e4 : w.take 64 = w := List.take_of_length_le (by omega)
  have hbuf : ((List.replicate 128 (0 : Int)).take 0 ++ (w.take 64 ++ (List.replicate 128 0).drop (0 + (min w.length 64)))).set (0 + (((min w.length 64 : Nat) : Int).toNat)) 128 = w ++ ([128] ++ List.replicate (127 - w.length) 0) := by
    rw [e3, e4, Int.toNat_natCast, List.take_zero, List.nil_append, Nat.zero_add, List.set_append_right _ _ (by omega), Nat.sub_self, List.drop_replicate, show 128 - w.length = (127 - w.length) + 1 by omega, List.replicate_succ, List.set_cons_zero]
    rfl
  have hlen0 : ((List.replicate 128 (0 : Int)).take 0 ++ (w.take 64 ++ (List.replicate 128 0).drop (0 + (min w.length 64)))).length = 128 := by
    rw [e3, e4]; simp; omega
  have hall : cmpN (all.length / 64 + blks all.length) ini (all ++ pad all.length) = cmpN (blks all.length) s (w ++ pad all.length) := by
    rw [cmpN_add, cmpN_app _ _ _ _ (by omega), ← h.1, ← h.2.1]
  have fin : ∀ s', eight s' → f117_1_l20 F s' s n w (fun x27 => K (ofInts x27)) F 0 [] = K (ofInts (outs s' 8 0 [])) := fun s' _ =>
    outP (F := F) (s := s') (s0 := s) (w := w) (y := n) (K := fun x27 => K (ofInts x27)) 8 0 F [] (by omega) (by omega) (by simp)
  simp only [f117_1, hbuf]
  rw [ct (by omega), ct (by rw [hlen0]; omega), e2]
  unfold dig
  rw [hall]
  by_cases hw : w.length < 56
  · rw [cf (by omega)]
    have hbk : blks all.length = 1 := by unfold blks; rw [if_pos (by omega)]
    have hzs : zs all.length = 55 - w.length := by unfold zs; rw [if_pos (by omega), hl]
    have hsplit : w ++ ([128] ++ List.replicate (127 - w.length) 0) = (w ++ ([128] ++ List.replicate (zs all.length) 0)) ++ (List.replicate 8 0 ++ List.replicate 64 0) := by
      rw [hzs, show 127 - w.length = (55 - w.length) + (8 + 64) by omega, ← List.replicate_append_replicate, ← List.replicate_append_replicate]
      simp
    rw [hsplit]
    have hb1 := bitsL (F := F) (L := 64) (cp := 128) (n := ((8 * all.length : Nat) : Int)) (s := s) (w := w) (y := n) (A := w ++ ([128] ++ List.replicate (zs all.length) 0)) (C := List.replicate 64 0)
      (K := fun x28 => f117_1_l15 F s n w x28 (fun x29 => f117_1_l20 F x29 s n w (fun x30 => K (ofInts x30)) F 0 []) F 0 64 128 s) (by simp [hzs]; omega) (by omega) 8 0 F (List.replicate 8 0) (by omega) (by omega) (by simp)
    rw [show ((0 : Nat) : Int) = 0 from rfl] at hb1
    refine hb1.trans ?_
    rw [setB_eq _ (by simp)]
    have hpre : (w ++ ([128] ++ List.replicate (zs all.length) 0)) ++ (bes ((8 * all.length : Nat) : Int) 8 ++ List.replicate 64 0) = (w ++ pad all.length) ++ List.replicate 64 0 := by simp [pad]
    rw [hpre]
    have hpl : (w ++ pad all.length).length = 64 := by rw [List.length_append, pad_len, hzs]; omega
    have hL := lastL (F := F) (s0 := s) (w := w) (y := n) (buf := (w ++ pad all.length) ++ List.replicate 64 0) (K := fun x29 => f117_1_l20 F x29 s n w (fun x30 => K (ofInts x30)) F 0 []) (by omega) 1 F 0 128 s he (by omega) (by omega) (by rw [List.length_append, hpl]; simp) (by omega)
    refine hL.trans ?_
    rw [List.drop_zero, List.take_append_of_le_length (by omega), List.take_of_length_le (by omega), fin _ (cmpN_eight _ _ he), hbk]
  · rw [ct (by omega)]
    have hbk : blks all.length = 2 := by unfold blks; rw [if_neg (by omega)]
    have hzs : zs all.length = 119 - w.length := by unfold zs; rw [if_neg (by omega), hl]
    have hsplit : w ++ ([128] ++ List.replicate (127 - w.length) 0) = (w ++ ([128] ++ List.replicate (zs all.length) 0)) ++ (List.replicate 8 0 ++ []) := by
      rw [hzs, show 127 - w.length = (119 - w.length) + 8 by omega, ← List.replicate_append_replicate]
      simp
    rw [hsplit]
    have hb1 := bitsL (F := F) (L := 128) (cp := 128) (n := ((8 * all.length : Nat) : Int)) (s := s) (w := w) (y := n) (A := w ++ ([128] ++ List.replicate (zs all.length) 0)) (C := [])
      (K := fun x28 => f117_1_l15 F s n w x28 (fun x29 => f117_1_l20 F x29 s n w (fun x30 => K (ofInts x30)) F 0 []) F 0 128 128 s) (by simp [hzs]; omega) (by omega) 8 0 F (List.replicate 8 0) (by omega) (by omega) (by simp)
    rw [show ((0 : Nat) : Int) = 0 from rfl] at hb1
    refine hb1.trans ?_
    rw [setB_eq _ (by simp)]
    have hpre : (w ++ ([128] ++ List.replicate (zs all.length) 0)) ++ (bes ((8 * all.length : Nat) : Int) 8 ++ []) = w ++ pad all.length := by simp [pad]
    rw [hpre]
    have hpl : (w ++ pad all.length).length = 128 := by rw [List.length_append, pad_len, hzs]; omega
    have hL := lastL (F := F) (s0 := s) (w := w) (y := n) (buf := w ++ pad all.length) (K := fun x29 => f117_1_l20 F x29 s n w (fun x30 => K (ofInts x30)) F 0 []) (by omega) 2 F 0 128 s he (by omega) (by omega) (by rw [hpl]; omega) (by omega)
    refine hL.trans ?_
    rw [List.drop_zero, List.take_of_length_le (by omega), fin _ (cmpN_eight _ _ he), hbk]

end Go.Proofs.Ytillbabmlfjegaa.X
end

section
/- Trees' shapes: levels and numbers of nodes; any seat. -/
namespace Go.Proofs.Ytillbabmlfjegaa.X
open Go Go.Proofs.Ytillbabmlfjegaa.Ev
set_option linter.unusedSectionVars false
variable [FZ]
set_option linter.unusedVariables false
set_option linter.unusedSimpArgs false

def lv : Nat → Int → Int → List Int
  | 0, _, _ => []
  | k + 1, n, f => if n > 1 then ((n + f - 1) / f) :: lv k ((n + f - 1) / f) f else []

theorem step_eq {n f : Int} (hf : 2 ≤ f ∧ f ≤ 4) (h1 : 1 < n) (h2 : n ≤ 128) :
    IntKind.i64.wrap ((IntKind.i64.wrap ((IntKind.i64.wrap (n + f)) - 1)).tdiv f) = (n + f - 1) / f ∧ 1 ≤ (n + f - 1) / f ∧ (n + f - 1) / f < n := by
  rw [w64 (x := n + f) (by omega) (by omega), w64 (x := n + f - 1) (by omega) (by omega), Int.tdiv_eq_ediv_of_nonneg (by omega)]
  have : f = 2 ∨ f = 3 ∨ f = 4 := by omega
  rcases this with rfl | rfl | rfl
  · rw [w64 (by omega) (by omega)]; omega
  · rw [w64 (by omega) (by omega)]; omega
  · rw [w64 (by omega) (by omega)]; omega

theorem lev48 {β : Type} {F : Nat} {x f c u : Int} (hf : 2 ≤ f ∧ f ≤ 4) {K : List Int → Option β} : ∀ (k : Nat) (n : Int) (acc : List Int), 1 ≤ n → n ≤ 128 → n < k → (acc.length : Int) + n ≤ 2000 →
    f102_1_l5 F x f c u K k n acc = K (acc ++ lv k n f)
  | 0, n, acc, h1, h2, h3, h4 => by omega
  | k + 1, n, acc, h1, h2, h3, h4 => by
    simp only [f102_1_l5, lv]
    by_cases hn : n > 1
    · obtain ⟨e, g1, g2⟩ := step_eq hf hn h2
      rw [e]
      have h0 : ¬ f = 0 := by omega
      have hl : (acc.length + 1) * 8 ≤ 70368744177664 := by omega
      simp only [hn, h0, hl, decide_true, decide_false, cond_true, cond_false, if_true]
      rw [lev48 hf k _ _ g1 (by omega) (by omega) (by simp; omega)]
      simp
    · simp [hn]

theorem lev49 {β : Type} {F : Nat} {x f c u : Int} (hf : 2 ≤ f ∧ f ≤ 4) {K : List Int → Option β} : ∀ (k : Nat) (n : Int) (acc : List Int), 1 ≤ n → n ≤ 128 → n < k → (acc.length : Int) + n ≤ 2000 →
    f66_1_l5 F x f c u K k n acc = K (acc ++ lv k n f)
  | 0, n, acc, h1, h2, h3, h4 => by omega
  | k + 1, n, acc, h1, h2, h3, h4 => by
    simp only [f66_1_l5, lv]
    by_cases hn : n > 1
    · obtain ⟨e, g1, g2⟩ := step_eq hf hn h2
      rw [e]
      have h0 : ¬ f = 0 := by omega
      have hl : (acc.length + 1) * 8 ≤ 70368744177664 := by omega
      simp only [hn, h0, hl, decide_true, decide_false, cond_true, cond_false, if_true]
      rw [lev49 hf k _ _ g1 (by omega) (by omega) (by simp; omega)]
      simp
    · simp [hn]

theorem lv_ok {f : Int} (hf : 2 ≤ f ∧ f ≤ 4) : ∀ (k : Nat) (n : Int), 1 ≤ n → n ≤ 128 → ((lv k n f).length : Int) < n ∧ ∀ y ∈ lv k n f, 1 ≤ y ∧ y ≤ 128
  | 0, n, h1, h2 => by simp [lv]; omega
  | k + 1, n, h1, h2 => by
    simp only [lv]
    by_cases hn : n > 1
    · obtain ⟨e, g1, g2⟩ := step_eq hf hn h2
      obtain ⟨q1, q2⟩ := lv_ok hf k _ g1 (by omega)
      rw [if_pos hn]
      refine ⟨by simp; omega, fun y hy => ?_⟩
      rcases List.mem_cons.1 hy with rfl | hy
      · omega
      · exact q2 y hy
    · rw [if_neg hn]; simp; omega

/-- The geometry can be. -/
def rt (n f c u : Int) : Prop := (1 ≤ n ∧ n ≤ 128) ∧ (2 ≤ f ∧ f ≤ 4) ∧ (0 ≤ c ∧ c ≤ 64) ∧ (1 ≤ u ∧ u ≤ 320)
instance (n f c u : Int) : Decidable (rt n f c u) := by unfold rt; infer_instance

theorem cnd {β : Type} {p q : Prop} [Decidable p] [Decidable q] {K : Bool → Option β} : cond (decide p) (K (decide q)) (K false) = K (decide (p ∧ q)) := by
  by_cases h : p <;> simp [h]

theorem within87 {β : Type} {F : Nat} {a b c : Int} {K : Bool → Option β} : f95_1 F a b c K = K (decide (a ≥ b ∧ a ≤ c)) := by
  simp only [f95_1, cnd]

theorem right46 {β : Type} {F : Nat} {n f c u : Int} {K : Bool → Option β} : f52_1 F n f c u K = K (decide (rt n f c u)) := by
  simp only [f52_1, within87, cnd]
  congr 1

theorem right47 {β : Type} {F : Nat} {n f c u : Int} {K : Bool → Option β} : f7_1 F n f c u K = K (decide (rt n f c u)) := by
  simp only [f7_1, cnd]
  congr 1
  exact decide_eq_decide.2 (by unfold rt; omega)

def levels (n f c u : Int) : List Int := if rt n f c u then n :: lv 20000 n f else []

theorem levels48 {β : Type} {n f c u : Int} {K : List Int → Option β} : f102_1 20000 n f c u K = K (levels n f c u) := by
  simp only [f102_1, right46, levels]
  by_cases h : rt n f c u
  · simp only [h, decide_true, Bool.not_true, cond_false, if_true]
    rw [lev48 h.2.1 20000 n [n] h.1.1 h.1.2 (by have := h.1.2; omega) (by have := h.1.2; simp; omega)]
    rfl
  · simp [h]

theorem levels49 {β : Type} {n f c u : Int} {K : List Int → Option β} : f66_1 20000 n f c u K = K (levels n f c u) := by
  simp only [f66_1, right47, levels]
  by_cases h : rt n f c u
  · simp only [h, decide_true, Bool.not_true, cond_false, if_true]
    rw [lev49 h.2.1 20000 n [n] h.1.1 h.1.2 (by have := h.1.2; omega) (by have := h.1.2; simp; omega)]
    rfl
  · simp [h]

theorem levels_ok (n f c u : Int) : (levels n f c u).length ≤ 128 ∧ ∀ y ∈ levels n f c u, 1 ≤ y ∧ y ≤ 128 := by
  unfold levels
  split
  · rename_i h
    obtain ⟨q1, q2⟩ := lv_ok h.2.1 20000 n h.1.1 h.1.2
    have := h.1
    refine ⟨by simp; omega, fun y hy => ?_⟩
    rcases List.mem_cons.1 hy with rfl | hy
    · omega
    · exact q2 y hy
  · simp

def sumI : List Int → Int
  | [] => 0
  | x :: r => x + sumI r

theorem sumI_ok : ∀ (l : List Int), (∀ y ∈ l, 1 ≤ y ∧ y ≤ 128) → (l.length : Int) ≤ sumI l ∧ sumI l ≤ 128 * l.length
  | [], _ => by simp [sumI]
  | x :: r, h => by
    obtain ⟨q1, q2⟩ := sumI_ok r fun y hy => h y (by simp [hy])
    have := h x (by simp)
    simp only [sumI, List.length_cons]
    omega

theorem sum50 {β : Type} {F : Nat} {K : Int → Option β} (l : List Int) (hl : l.length ≤ 128) (hy : ∀ y ∈ l, 1 ≤ y ∧ y ≤ 128) : ∀ (r : List Int) (i : Nat) (k : Nat) (s : Int), l.drop i = r → i ≤ l.length → r.length < k → 0 ≤ s → s ≤ 128 * i →
    f72_1_l3 F ((l.length : Nat) : Int) l K k s (i : Int) = K (s + sumI r)
  | [], i, k, s, hd, hi, hk, h0, h1 => by
    cases k with
    | zero => omega
    | succ k =>
      have : i = l.length := by
        have := congrArg List.length hd
        simp at this; omega
      subst this
      simp [f72_1_l3, sumI]
  | x :: r, i, k, s, hd, hi, hk, h0, h1 => by
    cases k with
    | zero => omega
    | succ k =>
      have hlen : l.length - i = r.length + 1 := by
        have := congrArg List.length hd
        simpa using this
      have hlt : i < l.length := by omega
      have hx : l[i]? = some x := by
        have := congrArg (·[0]?) hd
        simpa using this
      have hm := hy x (List.mem_of_getElem? hx)
      have hdr : l.drop (i + 1) = r := by
        rw [← List.drop_drop, hd]; rfl
      simp only [f72_1_l3]
      have e1 : decide ((i : Int) < ((l.length : Nat) : Int)) = true := by simp; omega
      have e2 : decide ((0 : Int) ≤ (i : Int) ∧ (i : Int) < ((l.length : Nat) : Int)) = true := by simp; omega
      have e3 : decide (0 + (i : Int).toNat < l.length) = true := by simp; omega
      have e4 : l.getD (0 + (i : Int).toNat) 0 = x := by
        rw [List.getD_eq_getElem?_getD]; simp [hx]
      rw [e1, e2, e3, e4, cond_true, cond_true, cond_true, w64 (by omega) (by omega), w64 (by omega) (by omega)]
      have := sum50 (F := F) (K := K) l hl hy r (i + 1) k (s + x) hdr (by omega) (by simpa using hk) (by omega) (by omega)
      rw [show ((i : Int) + 1) = ((i + 1 : Nat) : Int) by omega, this]
      congr 1
      simp only [sumI]; omega

theorem sum51 {β : Type} {F : Nat} {K : Int → Option β} (l : List Int) (hl : l.length ≤ 128) (hy : ∀ y ∈ l, 1 ≤ y ∧ y ≤ 128) : ∀ (r : List Int) (i : Nat) (k : Nat) (s : Int), l.drop i = r → i ≤ l.length → r.length < k → 0 ≤ s → s ≤ 128 * i →
    f14_1_l4 F l K k s (i : Int) = K (s + sumI r)
  | [], i, k, s, hd, hi, hk, h0, h1 => by
    cases k with
    | zero => omega
    | succ k =>
      have : i = l.length := by
        have := congrArg List.length hd
        simp at this; omega
      subst this
      simp [f14_1_l4, sumI]
  | x :: r, i, k, s, hd, hi, hk, h0, h1 => by
    cases k with
    | zero => omega
    | succ k =>
      have hlen : l.length - i = r.length + 1 := by
        have := congrArg List.length hd
        simpa using this
      have hlt : i < l.length := by omega
      have hx : l[i]? = some x := by
        have := congrArg (·[0]?) hd
        simpa using this
      have hm := hy x (List.mem_of_getElem? hx)
      have hdr : l.drop (i + 1) = r := by
        rw [← List.drop_drop, hd]; rfl
      simp only [f14_1_l4]
      have e1 : decide ((i : Int) < ((l.length : Nat) : Int)) = true := by simp; omega
      have e2 : decide ((0 : Int) ≤ (i : Int) ∧ (i : Int) < ((l.length : Nat) : Int)) = true := by simp; omega
      have e3 : decide (0 + (i : Int).toNat < l.length) = true := by simp; omega
      have e4 : l.getD (0 + (i : Int).toNat) 0 = x := by
        rw [List.getD_eq_getElem?_getD]; simp [hx]
      rw [e1, e2, e3, e4, cond_true, cond_true, cond_true, w64 (by omega) (by omega), w64 (by omega) (by omega)]
      have := sum51 (F := F) (K := K) l hl hy r (i + 1) k (s + x) hdr (by omega) (by simpa using hk) (by omega) (by omega)
      rw [show ((i : Int) + 1) = ((i + 1 : Nat) : Int) by omega, this]
      congr 1
      simp only [sumI]; omega

def nodes (n f c u : Int) : Int := sumI (levels n f c u)

theorem nodes_ok (n f c u : Int) : 0 ≤ nodes n f c u ∧ nodes n f c u ≤ 16384 ∧ (rt n f c u → 1 ≤ nodes n f c u) ∧ (¬ rt n f c u → nodes n f c u = 0) := by
  obtain ⟨h1, h2⟩ := levels_ok n f c u
  obtain ⟨h3, h4⟩ := sumI_ok _ h2
  unfold nodes
  refine ⟨by omega, by omega, fun h => ?_, fun h => by simp [levels, h, sumI]⟩
  have : 1 ≤ (levels n f c u).length := by simp [levels, h]
  omega

theorem nodes50 {β : Type} {n f c u : Int} {K : Int → Option β} : f72_1 20000 n f c u K = K (nodes n f c u) := by
  obtain ⟨h1, h2⟩ := levels_ok n f c u
  simp only [f72_1, levels48]
  have := sum50 (F := 20000) (K := K) (levels n f c u) h1 h2 _ 0 20000 0 rfl (by omega) (by simp; omega) (by omega) (by omega)
  simp only [List.drop_zero, Int.zero_add] at this
  exact this

theorem nodes51 {β : Type} {n f c u : Int} {K : Int → Option β} : f14_1 20000 n f c u K = K (nodes n f c u) := by
  obtain ⟨h1, h2⟩ := levels_ok n f c u
  simp only [f14_1, levels49]
  have := sum51 (F := 20000) (K := K) (levels n f c u) h1 h2 _ 0 20000 0 rfl (by omega) (by simp; omega) (by omega) (by omega)
  simp only [List.drop_zero, Int.zero_add] at this
  exact this


end Go.Proofs.Ytillbabmlfjegaa.X
end

section
/- Trees' shapes: parents and children over the list of the levels; any seat. -/
namespace Go.Proofs.Ytillbabmlfjegaa.X
open Go Go.Proofs.Ytillbabmlfjegaa.Ev
set_option linter.unusedSectionVars false
variable [FZ]
set_option linter.unusedVariables false
set_option linter.unusedSimpArgs false

/-- Children of a node, by the levels from a number on. -/
def kids (f : Int) (from_ a q : Int) : Nat → List Int
  | 0 => []
  | k + 1 => kids f from_ a q k ++ (if q * f + k < a then [from_ + (q * f + k)] else [])

def chl (f : Int) (node : Int) : Int → List Int → List Int
  | s, a :: b :: r => if s + a ≤ node ∧ node < s + a + b then kids f s a (node - (s + a)) f.toNat else chl f node (s + a) (b :: r)
  | _, _ => []

def par (f : Int) (node : Int) : Int → List Int → Int
  | s, a :: b :: r => if s ≤ node ∧ node < s + a then s + a + (node - s) / f else par f node (s + a) (b :: r)
  | _, _ => -1

/-- Each level is the one below it, over f, rounded up; the last one is 1. -/
def chain (f : Int) : List Int → Prop
  | a :: b :: r => 1 < a ∧ b = (a + f - 1) / f ∧ chain f (b :: r)
  | [a] => a = 1
  | [] => True

theorem chain_lv {f : Int} (hf : 2 ≤ f ∧ f ≤ 4) : ∀ (k : Nat) (n : Int), 1 ≤ n → n ≤ 128 → n < k → chain f (n :: lv k n f)
  | 0, n, h1, h2, h3 => by omega
  | k + 1, n, h1, h2, h3 => by
    simp only [lv]
    by_cases hn : n > 1
    · obtain ⟨e, g1, g2⟩ := step_eq hf hn h2
      rw [if_pos hn]
      exact ⟨hn, rfl, chain_lv hf k _ g1 (by omega) (by omega)⟩
    · rw [if_neg hn]
      show n = 1
      omega

/-- The level of a node: its number in the list and the number of the first node there. -/
def lvl (node : Int) : Int → Nat → List Int → Option (Nat × Int)
  | s, i, a :: r => if s ≤ node ∧ node < s + a then some (i, s) else lvl node (s + a) (i + 1) r
  | _, _, [] => none

/-- What is at hand in the middle of a list. -/
theorem at_drop {l r : List Int} {x : Int} {i : Nat} (hd : l.drop i = x :: r) : i < l.length ∧ l.getD (0 + (i : Int).toNat) 0 = x ∧ l.drop (i + 1) = r := by
  have hlen : l.length - i = r.length + 1 := by
    have := congrArg List.length hd
    simpa using this
  have hx : l[i]? = some x := by
    have := congrArg (·[0]?) hd
    simpa using this
  refine ⟨by omega, ?_, ?_⟩
  · rw [List.getD_eq_getElem?_getD]; simp [hx]
  · rw [← List.drop_drop, hd]; rfl

theorem level88 {β : Type} {F : Nat} {node : Int} {K0 : Int → Int → Option β} {K1 : Option β} (l : List Int) (hl : l.length ≤ 128) (hy : ∀ y ∈ l, 1 ≤ y ∧ y ≤ 128) :
    ∀ (r : List Int) (i k : Nat) (s : Int), l.drop i = r → i ≤ l.length → r.length < k → 0 ≤ s → s ≤ 128 * i →
      f101_1_l3 F node ((l.length : Nat) : Int) l K0 K1 k s (i : Int) = match lvl node s i r with | some (j, t) => K0 (j : Int) t | none => K1
  | [], i, k, s, hd, hi, hk, h0, h1 => by
    cases k with
    | zero => omega
    | succ k =>
      have : i = l.length := by
        have := congrArg List.length hd
        simp at this; omega
      subst this
      simp [f101_1_l3, lvl]
  | x :: r, i, k, s, hd, hi, hk, h0, h1 => by
    cases k with
    | zero => omega
    | succ k =>
      obtain ⟨hlt, hx, hdr⟩ := at_drop hd
      have hm := hy x (by
        have : x ∈ l.drop i := by rw [hd]; simp
        exact List.mem_of_mem_drop this)
      simp only [f101_1_l3, within87]
      have e1 : decide ((i : Int) < ((l.length : Nat) : Int)) = true := by simp; omega
      have e2 : decide ((0 : Int) ≤ (i : Int) ∧ (i : Int) < ((l.length : Nat) : Int)) = true := by simp; omega
      have e3 : decide (0 + (i : Int).toNat < l.length) = true := by simp; omega
      rw [e1, e2, e3, hx, cond_true, cond_true, cond_true, w64 (x := s + x) (by omega) (by omega), w64 (x := s + x - 1) (by omega) (by omega), w64 (x := (i : Int) + 1) (by omega) (by omega)]
      simp only [lvl]
      by_cases hn : s ≤ node ∧ node < s + x
      · have e : decide (node ≥ s ∧ node ≤ s + x - 1) = true := by simp; omega
        rw [e, cond_true, if_pos hn]
      · have e : decide (node ≥ s ∧ node ≤ s + x - 1) = false := by simp; omega
        rw [e, cond_false, if_neg hn, show ((i : Int) + 1) = ((i + 1 : Nat) : Int) by omega]
        exact level88 l hl hy r (i + 1) k (s + x) hdr (by omega) (by simpa using hk) (by omega) (by omega)

/-- What is known of a level that was found. -/
theorem lvl_spec {node : Int} : ∀ (r : List Int) (s : Int) (i j : Nat) (t : Int), lvl node s i r = some (j, t) → ∃ p a q, r = p ++ a :: q ∧ j = i + p.length ∧ t = s + sumI p ∧ t ≤ node ∧ node < t + a
  | [], s, i, j, t, h => by simp [lvl] at h
  | x :: r, s, i, j, t, h => by
    simp only [lvl] at h
    split at h
    · rename_i hn
      simp only [Option.some.injEq, Prod.mk.injEq] at h
      obtain ⟨rfl, rfl⟩ := h
      exact ⟨[], x, r, rfl, by simp, by simp [sumI], hn.1, hn.2⟩
    · obtain ⟨p, a, q, h1, h2, h3, h4, h5⟩ := lvl_spec r _ _ _ _ h
      refine ⟨x :: p, a, q, by rw [h1]; rfl, by simp; omega, by simp only [sumI]; omega, h4, h5⟩

theorem lvl_none {node : Int} : ∀ (r : List Int) (s : Int) (i : Nat), (∀ y ∈ r, 1 ≤ y) → (lvl node s i r = none ↔ ¬ (s ≤ node ∧ node < s + sumI r))
  | [], s, i, h => by
    simp only [lvl, sumI, true_iff]
    omega
  | x :: r, s, i, h => by
    have h0 := h x (by simp)
    have h1 : 0 ≤ sumI r := by
      have : ∀ (l : List Int), (∀ y ∈ l, 1 ≤ y) → 0 ≤ sumI l := by
        intro l
        induction l with
        | nil => intro _; simp [sumI]
        | cons a l ih => intro hl; have := hl a (by simp); have := ih fun y hy => hl y (by simp [hy]); simp only [sumI]; omega
      exact this r fun y hy => h y (by simp [hy])
    simp only [lvl, sumI]
    split
    · simp; omega
    · rw [lvl_none r _ _ fun y hy => h y (by simp [hy])]
      omega

theorem kids_len (f from_ a q : Int) : ∀ k, (kids f from_ a q k).length ≤ k
  | 0 => by simp [kids]
  | k + 1 => by
    have := kids_len f from_ a q k
    simp only [kids, List.length_append]
    split <;> simp <;> omega

theorem mul_small {f q : Int} (hf : 2 ≤ f ∧ f ≤ 4) (hq : 0 ≤ q ∧ q < 128) : 0 ≤ q * f ∧ q * f < 512 := by
  have : f = 2 ∨ f = 3 ∨ f = 4 := by omega
  rcases this with rfl | rfl | rfl <;> omega

/-- The inner loop of the code's Children. -/
theorem kids58 {β : Type} {F : Nat} {node t below f n c u : Int} {K : List Int → Option β} (hf : 2 ≤ f ∧ f ≤ 4) (ht : 0 ≤ t ∧ t ≤ 16384) (hb : 1 ≤ below ∧ below ≤ 128) (hn : t ≤ node ∧ node < t + 128) :
    ∀ (m i k : Nat), (i : Int) + m = f → m < k → f68_1_l7 F node t below f n f c u K k (i : Int) (kids f (t - below) below (node - t) i) = K (kids f (t - below) below (node - t) f.toNat)
  | 0, i, k, hi, hk => by
    cases k with
    | zero => omega
    | succ k =>
      have e : decide ((i : Int) < f) = false := by simp; omega
      simp only [f68_1_l7, e, cond_false]
      rw [show f.toNat = i by omega]
  | m + 1, i, k, hi, hk => by
    cases k with
    | zero => omega
    | succ k =>
      have e : decide ((i : Int) < f) = true := by simp; omega
      obtain ⟨q1, q2⟩ := mul_small hf (q := node - t) (by omega)
      have hl := kids_len f (t - below) below (node - t) i
      have e8 : decide (((kids f (t - below) below (node - t) i).length + 1) * 8 ≤ 70368744177664) = true := by simp; omega
      simp only [f68_1_l7]
      rw [e, cond_true, w64 (x := node - t) (by omega) (by omega), w64 (x := (node - t) * f) (by omega) (by omega), w64 (x := (node - t) * f + i) (by omega) (by omega), w64 (x := (i : Int) + 1) (by omega) (by omega), w64 (x := t - below) (by omega) (by omega),
        w64 (x := t - below + ((node - t) * f + i)) (by omega) (by omega), e8, cond_true]
      have hk' : kids f (t - below) below (node - t) (i + 1) = kids f (t - below) below (node - t) i ++ (if (node - t) * f + (i : Int) < below then [t - below + ((node - t) * f + (i : Int))] else []) := rfl
      have := kids58 (F := F) (n := n) (c := c) (u := u) (K := K) hf ht hb hn m (i + 1) k (by omega) (by omega)
      rw [hk'] at this
      rw [show ((i : Int) + 1) = ((i + 1 : Nat) : Int) by omega]
      by_cases h : (node - t) * f + (i : Int) < below
      · simp only [h, decide_true, cond_true]
        rw [if_pos h] at this
        exact this
      · simp only [h, decide_false, cond_false]
        rw [if_neg h, List.append_nil] at this
        exact this

/-- The inner loop of the document's Children. -/
theorem kids59 {β : Type} {F : Nat} {node s above a f n c u : Int} {l : List Int} {j : Nat} {K : List Int → Option β} (hf : 2 ≤ f ∧ f ≤ 4) (ht : 0 ≤ s ∧ s ≤ 16384) (hj : j < l.length) (hlj : l.getD (0 + (j : Int).toNat) 0 = a)
    (hb : 1 ≤ a ∧ a ≤ 128) (hab : above = s + a) (hn : above ≤ node ∧ node < above + 128) :
    ∀ (m i k : Nat), (i : Int) + m = f → m < k → f17_1_l10 F node s (j : Int) above n f c u l K k (i : Int) (kids f s a (node - above) i) = K (kids f s a (node - above) f.toNat)
  | 0, i, k, hi, hk => by
    cases k with
    | zero => omega
    | succ k =>
      have e : decide ((i : Int) < f) = false := by simp; omega
      simp only [f17_1_l10, e, cond_false]
      rw [show f.toNat = i by omega]
  | m + 1, i, k, hi, hk => by
    cases k with
    | zero => omega
    | succ k =>
      have e : decide ((i : Int) < f) = true := by simp; omega
      obtain ⟨q1, q2⟩ := mul_small hf (q := node - above) (by omega)
      have hl := kids_len f s a (node - above) i
      have e8 : decide (((kids f s a (node - above) i).length + 1) * 8 ≤ 70368744177664) = true := by simp; omega
      have e2 : decide ((0 : Int) ≤ (j : Int) ∧ (j : Int) < ((l.length : Nat) : Int)) = true := by simp; omega
      have e3 : decide (0 + (j : Int).toNat < l.length) = true := by simp; omega
      simp only [f17_1_l10]
      rw [e, cond_true, e2, cond_true, e3, cond_true, hlj, w64 (x := node - above) (by omega) (by omega), w64 (x := (node - above) * f) (by omega) (by omega), w64 (x := (node - above) * f + i) (by omega) (by omega), w64 (x := (i : Int) + 1) (by omega) (by omega),
        w64 (x := s + ((node - above) * f + i)) (by omega) (by omega), e8, cond_true]
      have hk' : kids f s a (node - above) (i + 1) = kids f s a (node - above) i ++ (if (node - above) * f + (i : Int) < a then [s + ((node - above) * f + (i : Int))] else []) := rfl
      have := kids59 (F := F) (n := n) (c := c) (u := u) (K := K) hf ht hj hlj hb hab hn m (i + 1) k (by omega) (by omega)
      rw [hk'] at this
      rw [show ((i : Int) + 1) = ((i + 1 : Nat) : Int) by omega]
      by_cases h : (node - above) * f + (i : Int) < a
      · simp only [h, decide_true, cond_true]
        rw [if_pos h] at this
        exact this
      · simp only [h, decide_false, cond_false]
        rw [if_neg h, List.append_nil] at this
        exact this

/-- A node's children, by the list of the levels. -/
def chs (f node : Int) (L : List Int) : List Int := match lvl node 0 0 L with
  | some (j + 1, t) => kids f (t - L.getD j 0) (L.getD j 0) (node - t) f.toNat
  | _ => []

theorem level88' {β : Type} {n f c u node : Int} {K0 : Int → Int → Bool → Option β} : f101_1 20000 n f c u node K0 = match lvl node 0 0 (levels n f c u) with | some (j, t) => K0 (j : Int) t true | none => K0 0 0 false := by
  obtain ⟨h1, h2⟩ := levels_ok n f c u
  simp only [f101_1, levels48]
  have := level88 (F := 20000) (node := node) (K0 := fun x8 x9 => K0 x8 x9 true) (K1 := K0 0 0 false) (levels n f c u) h1 h2 _ 0 20000 0 rfl (by omega) (by simp; omega) (by omega) (by omega)
  simp only [List.drop_zero] at this
  exact this

theorem mem_getD {l : List Int} {j : Nat} (h : j < l.length) : l.getD j 0 ∈ l := by
  rw [List.getD_eq_getElem?_getD, List.getElem?_eq_getElem h]; simp

theorem chs58 {β : Type} {n f c u node : Int} {K : List Int → Option β} : f68_1 20000 n f c u node K = K (chs f node (levels n f c u)) := by
  obtain ⟨h1, h2⟩ := levels_ok n f c u
  simp only [f68_1, level88', levels48, chs]
  cases hl : lvl node 0 0 (levels n f c u) with
  | none => rfl
  | some q =>
    obtain ⟨j, t⟩ := q
    obtain ⟨p, a, r, e1, e2, e3, e4, e5⟩ := lvl_spec _ _ _ _ _ hl
    have hrt : rt n f c u := by
      by_cases h : rt n f c u
      · exact h
      · simp [levels, h] at e1
    cases j with
    | zero => simp
    | succ j =>
      have hlen : (levels n f c u).length = p.length + 1 + r.length := by rw [e1]; simp; omega
      have ha := h2 a (by rw [e1]; simp)
      have hp := sumI_ok p fun y hy => h2 y (by rw [e1]; simp [hy])
      have hj : j < (levels n f c u).length := by omega
      have hm := h2 _ (mem_getD hj)
      have x0 : (((j + 1 : Nat) : Int) == 0) = false := by simp; omega
      have x1 : IntKind.i64.wrap (((j + 1 : Nat) : Int) - 1) = (j : Int) := by rw [w64 (by omega) (by omega)]; omega
      have x2 : decide ((0 : Int) ≤ (j : Int) ∧ (j : Int) < (((levels n f c u).length : Nat) : Int)) = true := by simp; omega
      have x3 : decide (0 + (j : Int).toNat < (levels n f c u).length) = true := by simp; omega
      have x4 : (levels n f c u).getD (0 + (j : Int).toNat) 0 = (levels n f c u).getD j 0 := by simp
      simp only [Bool.not_true, cond_false, x0, x1, x2, x3, x4, cond_true]
      have := kids58 (F := 20000) (n := n) (c := c) (u := u) (K := K) (node := node) (t := t) (below := (levels n f c u).getD j 0) hrt.2.1 (by omega) hm (by omega) f.toNat 0 20000 (by have := hrt.2.1; omega) (by have := hrt.2.1; omega)
      simpa [kids] using this

end Go.Proofs.Ytillbabmlfjegaa.X
end
