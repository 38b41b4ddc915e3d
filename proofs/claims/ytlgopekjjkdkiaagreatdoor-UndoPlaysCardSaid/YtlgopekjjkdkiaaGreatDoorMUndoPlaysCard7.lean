/- Merged: EvF4, PureW, DiskN, DiskM, RecA, RecB, RecC, NumA, NumC, NumD, GeoA, EvF129, GeoQ, EvF130, EvF132, EvF133, EvF65, EvF134, EvF66, CowA, CowB, CowC, EvF217, EvF201, EvF165, GeoB, EvF106, EvF170, GeoC, GeoD, UndoA, UndoB, EvF25, EvF70, EvF71, EvF67, EvF72, CowD. -/
import Derived.Test.YtlgopekjjkdkiaaGreatDoorMUndoPlaysCard3
import Derived.Test.YtlgopekjjkdkiaaGreatDoorProg
import Derived.KernelRfl
import Derived.Test.YtlgopekjjkdkiaaGreatDoorMUndoPlaysCard5
import Derived.Test.YtlgopekjjkdkiaaGreatDoorMUndoPlaysCard6
import Derived.Test.YtlgopekjjkdkiaaGreatDoorMUndoPlaysCard4
section
namespace Go.Proofs.YtlgopekjjkdkiaaGreatDoor.X
open Go Go.Proofs.YtlgopekjjkdkiaaGreatDoor.Ev Go.Proofs
set_option linter.unusedVariables false
set_option linter.unusedSectionVars false
/-! pentimentolaw15.UndoPlays -/
noncomputable def f4_1_l6 [FZ] {β : Type} (F : Nat) (v4 : Int) (v6 : List (Int × (Int × (Int × (Int × (Int × (ByteArray × (Sl .bool)))))))) (v7 : Int) (v8 : Int) (v9 : Int) (v10 : Int) (K0 : Bool → Option β) (K1 : Option β) : Nat → Int → Option β
  | 0, _ => none
  | k + 1, v5 => cond (decide (v5 < ((v6.length : Nat) : Int))) (cond (decide ((0 : Int) ≤ v5 ∧ v5 < ((v6.length : Nat) : Int))) (cond (decide (0 + v5.toNat < v6.length)) (cond (decide (((((((((v6.getD (0 + v5.toNat) (0, (0, (0, (0, (0, (ByteArray.empty, (Sl.nil .bool)))))))).2).2).2).2).2).1).size : Int) > 200)) (f19_1 F  (fun x11 => K0 x11) ) (cond (decide ((0 : Int) ≤ v5 ∧ v5 < ((v6.length : Nat) : Int))) (cond (decide (0 + v5.toNat < v6.length)) (f20_6416 F v7 v8 v9 v10 ((v6.getD (0 + v5.toNat) (0, (0, (0, (0, (0, (ByteArray.empty, (Sl.nil .bool)))))))).1) (((v6.getD (0 + v5.toNat) (0, (0, (0, (0, (0, (ByteArray.empty, (Sl.nil .bool)))))))).2).1) ((((v6.getD (0 + v5.toNat) (0, (0, (0, (0, (0, (ByteArray.empty, (Sl.nil .bool)))))))).2).2).1) (((((v6.getD (0 + v5.toNat) (0, (0, (0, (0, (0, (ByteArray.empty, (Sl.nil .bool)))))))).2).2).2).1) ((((((v6.getD (0 + v5.toNat) (0, (0, (0, (0, (0, (ByteArray.empty, (Sl.nil .bool)))))))).2).2).2).2).1) (((((((v6.getD (0 + v5.toNat) (0, (0, (0, (0, (0, (ByteArray.empty, (Sl.nil .bool)))))))).2).2).2).2).2).1) (((((((v6.getD (0 + v5.toNat) (0, (0, (0, (0, (0, (ByteArray.empty, (Sl.nil .bool)))))))).2).2).2).2).2).2) (fun x12 => cond (!x12) (K0 false) (f4_1_l6 F v4 v6 v7 v8 v9 v10 K0 K1 k (IntKind.i64.wrap (v5 + 1)))) ) none) none)) none) none) (K1)
noncomputable def f4_1_l13 [FZ] {β : Type} (F : Nat) (v14 : Int) (v15 : Int) (v16 : List (Int × (Int × (Int × (Int × (Int × (ByteArray × (Sl .bool)))))))) (K0 : Option β) : Nat → Option β
  | 0 => none
  | k + 1 => cond (decide (v15 < v14)) (f15_6206 F v15 (none) ) (K0)
noncomputable def f4_1_l6_2 [FZ] {β : Type} (F : Nat) (v19 : Int) (v21 : List (Int × (Int × (Int × (Int × (Int × (ByteArray × (Sl .bool)))))))) (v22 : Int) (v23 : Int) (v24 : Int) (v25 : Int) (K0 : Bool → Int → Bool → Int → List ByteArray → List (Int × ByteArray) → Option β) (K1 : Int → Bool → Int → List ByteArray → List (Int × ByteArray) → Option β) (K2 : Int → Bool → Int → List ByteArray → List (Int × ByteArray) → Option β) : Nat → Int → Int → Bool → Int → List ByteArray → List (Int × ByteArray) → Option β
  | 0, _, _, _, _, _, _ => none
  | k + 1, v20, v26, v27, v28, v29, v30 => cond (decide (v20 < ((v21.length : Nat) : Int))) (cond (decide ((0 : Int) ≤ v20 ∧ v20 < ((v21.length : Nat) : Int))) (cond (decide (0 + v20.toNat < v21.length)) (cond (decide (((((((((v21.getD (0 + v20.toNat) (0, (0, (0, (0, (0, (ByteArray.empty, (Sl.nil .bool)))))))).2).2).2).2).2).1).size : Int) > 200)) (f19_1 F  (fun x31 => K0 x31 v26 v27 v28 v29 v30) ) (cond (decide ((0 : Int) ≤ v20 ∧ v20 < ((v21.length : Nat) : Int))) (cond (decide (0 + v20.toNat < v21.length)) (f20_9733 F v22 v23 v24 v25 ((v21.getD (0 + v20.toNat) (0, (0, (0, (0, (0, (ByteArray.empty, (Sl.nil .bool)))))))).1) (((v21.getD (0 + v20.toNat) (0, (0, (0, (0, (0, (ByteArray.empty, (Sl.nil .bool)))))))).2).1) ((((v21.getD (0 + v20.toNat) (0, (0, (0, (0, (0, (ByteArray.empty, (Sl.nil .bool)))))))).2).2).1) (((((v21.getD (0 + v20.toNat) (0, (0, (0, (0, (0, (ByteArray.empty, (Sl.nil .bool)))))))).2).2).2).1) ((((((v21.getD (0 + v20.toNat) (0, (0, (0, (0, (0, (ByteArray.empty, (Sl.nil .bool)))))))).2).2).2).2).1) (((((((v21.getD (0 + v20.toNat) (0, (0, (0, (0, (0, (ByteArray.empty, (Sl.nil .bool)))))))).2).2).2).2).2).1) (((((((v21.getD (0 + v20.toNat) (0, (0, (0, (0, (0, (ByteArray.empty, (Sl.nil .bool)))))))).2).2).2).2).2).2) v26 v27 v28 v29 v30 (fun x32 x33 x34 x35 x36 x37 => cond (!x32) (K1 x33 x34 x35 x36 x37) (f4_1_l6_2 F v19 v21 v22 v23 v24 v25 K0 K1 K2 k (IntKind.i64.wrap (v20 + 1)) x33 x34 x35 x36 x37)) ) none) none)) none) none) (K2 v26 v27 v28 v29 v30)
noncomputable def f4_1_l13_2 [FZ] {β : Type} (F : Nat) (v54 : Int) (v56 : List (Int × (Int × (Int × (Int × (Int × (ByteArray × (Sl .bool)))))))) (v57 : Int) (v58 : Bool) (v59 : Int) (v60 : List ByteArray) (v61 : List (Int × ByteArray)) (K0 : Option β) (K1 : Option β) : Nat → Int → Option β
  | 0, _ => none
  | k + 1, v55 => cond (decide (v55 < v54)) (f15_6206 F v55 (cond (decide ((0 : Int) ≤ v55 ∧ v55 < ((v60.length : Nat) : Int))) (cond (decide (0 + v55.toNat < v60.length)) (cond (!(ByteArray.empty.toList == (v60.getD (0 + v55.toNat) ByteArray.empty).toList)) (K0) (f4_1_l13_2 F v54 v56 v57 v58 v59 v60 v61 K0 K1 k (IntKind.i64.wrap (v55 + 1)))) none) none) ) (K1)
noncomputable def f4_1_l6_3 [FZ] {β : Type} (F : Nat) (v67 : Int) (v69 : List (Int × (Int × (Int × (Int × (Int × (ByteArray × (Sl .bool)))))))) (v70 : Int) (v71 : Int) (v72 : Int) (v73 : Int) (K0 : Bool → Int → Bool → Int → List ByteArray → List (Int × ByteArray) → Option β) (K1 : Int → Bool → Int → List ByteArray → List (Int × ByteArray) → Option β) (K2 : Int → Bool → Int → List ByteArray → List (Int × ByteArray) → Option β) : Nat → Int → Int → Bool → Int → List ByteArray → List (Int × ByteArray) → Option β
  | 0, _, _, _, _, _, _ => none
  | k + 1, v68, v74, v75, v76, v77, v78 => cond (decide (v68 < ((v69.length : Nat) : Int))) (cond (decide ((0 : Int) ≤ v68 ∧ v68 < ((v69.length : Nat) : Int))) (cond (decide (0 + v68.toNat < v69.length)) (cond (decide (((((((((v69.getD (0 + v68.toNat) (0, (0, (0, (0, (0, (ByteArray.empty, (Sl.nil .bool)))))))).2).2).2).2).2).1).size : Int) > 200)) (f19_1 F  (fun x79 => K0 x79 v74 v75 v76 v77 v78) ) (cond (decide ((0 : Int) ≤ v68 ∧ v68 < ((v69.length : Nat) : Int))) (cond (decide (0 + v68.toNat < v69.length)) (f20_8056 F v70 v71 v72 v73 ((v69.getD (0 + v68.toNat) (0, (0, (0, (0, (0, (ByteArray.empty, (Sl.nil .bool)))))))).1) (((v69.getD (0 + v68.toNat) (0, (0, (0, (0, (0, (ByteArray.empty, (Sl.nil .bool)))))))).2).1) ((((v69.getD (0 + v68.toNat) (0, (0, (0, (0, (0, (ByteArray.empty, (Sl.nil .bool)))))))).2).2).1) (((((v69.getD (0 + v68.toNat) (0, (0, (0, (0, (0, (ByteArray.empty, (Sl.nil .bool)))))))).2).2).2).1) ((((((v69.getD (0 + v68.toNat) (0, (0, (0, (0, (0, (ByteArray.empty, (Sl.nil .bool)))))))).2).2).2).2).1) (((((((v69.getD (0 + v68.toNat) (0, (0, (0, (0, (0, (ByteArray.empty, (Sl.nil .bool)))))))).2).2).2).2).2).1) (((((((v69.getD (0 + v68.toNat) (0, (0, (0, (0, (0, (ByteArray.empty, (Sl.nil .bool)))))))).2).2).2).2).2).2) v74 v75 v76 v77 v78 (fun x80 x81 x82 x83 x84 x85 => cond (!x80) (K1 x81 x82 x83 x84 x85) (f4_1_l6_3 F v67 v69 v70 v71 v72 v73 K0 K1 K2 k (IntKind.i64.wrap (v68 + 1)) x81 x82 x83 x84 x85)) ) none) none)) none) none) (K2 v74 v75 v76 v77 v78)
noncomputable def f4_1_l13_3 [FZ] {β : Type} (F : Nat) (v102 : Int) (v103 : Int) (v104 : List (Int × (Int × (Int × (Int × (Int × (ByteArray × (Sl .bool)))))))) (v105 : Int) (v106 : Bool) (v107 : Int) (v108 : List ByteArray) (v109 : List (Int × ByteArray)) (K0 : Option β) : Nat → Option β
  | 0 => none
  | k + 1 => cond (decide (v103 < v102)) (f15_1 F v103 v105 v106 v107 v108 v109 (fun x110 x111 => none) ) (K0)
noncomputable def f4_1_l6_4 [FZ] {β : Type} (F : Nat) (v114 : Int) (v116 : List (Int × (Int × (Int × (Int × (Int × (ByteArray × (Sl .bool)))))))) (v117 : Int) (v118 : Int) (v119 : Int) (v120 : Int) (K0 : Bool → Int → Bool → Int → List ByteArray → List (Int × ByteArray) → Int → Bool → Int → List ByteArray → List (Int × ByteArray) → Option β) (K1 : Int → Bool → Int → List ByteArray → Int → Bool → Int → List ByteArray → List (Int × ByteArray) → List (Int × ByteArray) → Option β) (K2 : Int → Bool → Int → List ByteArray → List (Int × ByteArray) → Int → Bool → Int → List ByteArray → List (Int × ByteArray) → Option β) : Nat → Int → Int → Bool → Int → List ByteArray → List (Int × ByteArray) → Int → Bool → Int → List ByteArray → List (Int × ByteArray) → Option β
  | 0, _, _, _, _, _, _, _, _, _, _, _ => none
  | k + 1, v115, v121, v122, v123, v124, v125, v126, v127, v128, v129, v130 => cond (decide (v115 < ((v116.length : Nat) : Int))) (cond (decide ((0 : Int) ≤ v115 ∧ v115 < ((v116.length : Nat) : Int))) (cond (decide (0 + v115.toNat < v116.length)) (cond (decide (((((((((v116.getD (0 + v115.toNat) (0, (0, (0, (0, (0, (ByteArray.empty, (Sl.nil .bool)))))))).2).2).2).2).2).1).size : Int) > 200)) (f19_1 F  (fun x131 => K0 x131 v121 v122 v123 v124 v125 v126 v127 v128 v129 v130) ) (cond (decide ((0 : Int) ≤ v115 ∧ v115 < ((v116.length : Nat) : Int))) (cond (decide (0 + v115.toNat < v116.length)) (f20_1 F v117 v118 v119 v120 ((v116.getD (0 + v115.toNat) (0, (0, (0, (0, (0, (ByteArray.empty, (Sl.nil .bool)))))))).1) (((v116.getD (0 + v115.toNat) (0, (0, (0, (0, (0, (ByteArray.empty, (Sl.nil .bool)))))))).2).1) ((((v116.getD (0 + v115.toNat) (0, (0, (0, (0, (0, (ByteArray.empty, (Sl.nil .bool)))))))).2).2).1) (((((v116.getD (0 + v115.toNat) (0, (0, (0, (0, (0, (ByteArray.empty, (Sl.nil .bool)))))))).2).2).2).1) ((((((v116.getD (0 + v115.toNat) (0, (0, (0, (0, (0, (ByteArray.empty, (Sl.nil .bool)))))))).2).2).2).2).1) (((((((v116.getD (0 + v115.toNat) (0, (0, (0, (0, (0, (ByteArray.empty, (Sl.nil .bool)))))))).2).2).2).2).2).1) (((((((v116.getD (0 + v115.toNat) (0, (0, (0, (0, (0, (ByteArray.empty, (Sl.nil .bool)))))))).2).2).2).2).2).2) v121 v122 v123 v124 v125 v126 v127 v128 v129 v130 (fun x132 x133 x134 x135 x136 x137 x138 x139 x140 x141 x142 => cond (!x132) (K1 x133 x134 x135 x136 x137 x138 x139 x140 x141 x142) (f4_1_l6_4 F v114 v116 v117 v118 v119 v120 K0 K1 K2 k (IntKind.i64.wrap (v115 + 1)) x133 x134 x135 x136 x141 x137 x138 x139 x140 x142)) ) none) none)) none) none) (K2 v121 v122 v123 v124 v125 v126 v127 v128 v129 v130)
noncomputable def f4_1_l13_4 [FZ] {β : Type} (F : Nat) (v174 : Int) (v176 : List (Int × (Int × (Int × (Int × (Int × (ByteArray × (Sl .bool)))))))) (v177 : Int) (v178 : Bool) (v179 : Int) (v180 : List ByteArray) (v181 : List (Int × ByteArray)) (v182 : Int) (v183 : Bool) (v184 : Int) (v185 : List ByteArray) (v186 : List (Int × ByteArray)) (K0 : Option β) (K1 : Option β) : Nat → Int → Option β
  | 0, _ => none
  | k + 1, v175 => cond (decide (v175 < v174)) (f15_1 F v175 v177 v178 v179 v180 v181 (fun x187 x188 => cond (decide ((0 : Int) ≤ v175 ∧ v175 < ((v185.length : Nat) : Int))) (cond (decide (0 + v175.toNat < v185.length)) (cond (!(x187.toList == (v185.getD (0 + v175.toNat) ByteArray.empty).toList)) (K0) (f4_1_l13_4 F v174 v176 v177 v178 v179 v180 v181 v182 v183 v184 v185 v186 K0 K1 k (IntKind.i64.wrap (v175 + 1)))) none) none) ) (K1)
noncomputable def f4_1 [FZ] {β : Type} (F : Nat) (a1 : Int) (a2 : Int) (a3 : Int) (a4 : Int) (a5 : Int) (a6 : List (Int × (Int × (Int × (Int × (Int × (ByteArray × (Sl .bool)))))))) (K0 : Bool → Option β) : Option β := cond (decide (a5 < 1)) (f19_1 F  (fun x1 => K0 x1) ) (cond (decide (a5 > 120)) (f19_1 F  (fun x2 => K0 x2) ) (cond (decide (((a6.length : Nat) : Int) > 40)) (f19_1 F  (fun x3 => K0 x3) ) (f12_1 F a5 (f13_1 F a5 (f4_1_l6 F a5 a6 a1 a2 a3 a4 (fun x13 => K0 x13) (f4_1_l13 F a5 0 a6 (none) F) F 0) (fun x17 x18 => f4_1_l6_2 F a5 a6 a1 a2 a3 a4 (fun x38 x39 x40 x41 x42 x43 => K0 x38) (fun x44 x45 x46 x47 x48 => K0 false) (fun x49 x50 x51 x52 x53 => f4_1_l13_2 F a5 a6 x49 x50 x51 x52 x53 (K0 false) (f16_568 F  (cond ((0 : Int) == x51) (f18_568 F  (fun x62 => f17_1 F x62 x53 (fun x63 => cond x63 (f19_1 F  (fun x64 => K0 x64) ) (K0 false)) ) ) (K0 false)) ) F 0) F 0 (-1) false 0 x17 x18) ) (fun x65 x66 => f13_1 F a5 (f4_1_l6_3 F a5 a6 a1 a2 a3 a4 (fun x86 x87 x88 x89 x90 x91 => K0 x86) (fun x92 x93 x94 x95 x96 => K0 false) (fun x97 x98 x99 x100 x101 => f4_1_l13_3 F a5 0 a6 x97 x98 x99 x100 x101 (none) F) F 0 (-1) false 0 x65 x66) (fun x112 x113 => f4_1_l6_4 F a5 a6 a1 a2 a3 a4 (fun x143 x144 x145 x146 x147 x148 x149 x150 x151 x152 x153 => K0 x143) (fun x154 x155 x156 x157 x158 x159 x160 x161 x162 x163 => K0 false) (fun x164 x165 x166 x167 x168 x169 x170 x171 x172 x173 => f4_1_l13_4 F a5 a6 x164 x165 x166 x167 x168 x169 x170 x171 x172 x173 (K0 false) (f16_1 F x164 x165 x166 x167 x168 (cond (x166 == x171) (f18_1 F x164 x165 x166 x167 x168 (fun x189 => f17_1 F x189 x173 (fun x190 => cond x190 (f19_1 F  (fun x191 => K0 x191) ) (K0 false)) ) ) (K0 false)) ) F 0) F 0 (-1) false 0 x65 x66 (-1) false 0 x112 x113) ) )))
variable [FZ]
def sh4_1 : Sh := ⟨[.agg [.int .i64, .int .i64, .int .i64, .int .i64], .lf (.int .i64), .lf (.full 0)], [some ⟨none, [.seq (.pair (.int .i64) (.pair (.int .i64) (.pair (.int .u64) (.pair (.int .u64) (.pair (.int .i64) (.pair .str (.sl .bool))))))) 0]⟩]⟩
abbrev Y4_1 := Int → Int → Int → Int → Int → List (Int × (Int × (Int × (Int × (Int × (ByteArray × (Sl .bool))))))) → (Bool → Option Res) → Option Res
noncomputable def A4_1 (g : Y4_1) (d : sh4_1.den) (K : KF) : Option Res := g d.1.1.1 d.1.1.2.1 d.1.1.2.2.1 d.1.1.2.2.2.1 d.1.2.1 d.2.1.2.1 (fun (y0 : Bool) => K [.lf (.bool y0)] [some ⟨d.2.1.1, [.seq (.pair (.int .i64) (.pair (.int .i64) (.pair (.int .u64) (.pair (.int .u64) (.pair (.int .i64) (.pair .str (.sl .bool))))))) 0 d.2.1.2.1]⟩])
noncomputable def S4_1 (F : Nat) (o : Summ) : Summ := mkS sh4_1 (fun d K => A4_1 (f4_1 F) d K) o
noncomputable def code4 : Code := bodyOf Tryz.f4
noncomputable def b4_0 : Code := cB (cB (cR (cL (cR (cR (cR (cR (code4))))))))
noncomputable def b4_1 : Code := cB (cB (cR (cL (cR (cR (cR (cR (cR (code4)))))))))
theorem scopes4 : scopesOf code4 = [] := by kernel_rfl
theorem ranges4 : rangesOf code4 = [] := by kernel_rfl
theorem loops4 : loopsOf code4 = [b4_0, b4_1] := by kernel_rfl
theorem enter4 : ∀ args w, (callFunc 4 args).run Tryz.prog w = .ok (.enter 4 args) w := enter_of (fn := Tryz.f4) (by kernel_rfl) (by kernel_rfl) (by kernel_rfl)
noncomputable def T4_1 (F : Nat) : FuncId → Option Summ := tab [(12, (S12_1 F noS)), (13, (S13_1 F noS)), (15, (S15_1 F (S15_6206 F noS))), (16, (S16_1 F (S16_568 F noS))), (17, (S17_1 F noS)), (18, (S18_1 F (S18_568 F noS))), (19, (S19_1 F noS)), (20, (S20_1 F (S20_6416 F (S20_8056 F (S20_9733 F noS)))))]
noncomputable def TB4_1 (c12_1 : Y12_1) (c13_1 : Y13_1) (c15_1 : Y15_1) (c15_6206 : Y15_6206) (c16_1 : Y16_1) (c16_568 : Y16_568) (c17_1 : Y17_1) (c18_1 : Y18_1) (c18_568 : Y18_568) (c19_1 : Y19_1) (c20_1 : Y20_1) (c20_6416 : Y20_6416) (c20_8056 : Y20_8056) (c20_9733 : Y20_9733) : FuncId → Option Summ := tab [(12, (mkS sh12_1 (fun d K => A12_1 c12_1 d K) noS)), (13, (mkS sh13_1 (fun d K => A13_1 c13_1 d K) noS)), (15, (mkS sh15_1 (fun d K => A15_1 c15_1 d K) (mkS sh15_6206 (fun d K => A15_6206 c15_6206 d K) noS))), (16, (mkS sh16_1 (fun d K => A16_1 c16_1 d K) (mkS sh16_568 (fun d K => A16_568 c16_568 d K) noS))), (17, (mkS sh17_1 (fun d K => A17_1 c17_1 d K) noS)), (18, (mkS sh18_1 (fun d K => A18_1 c18_1 d K) (mkS sh18_568 (fun d K => A18_568 c18_568 d K) noS))), (19, (mkS sh19_1 (fun d K => A19_1 c19_1 d K) noS)), (20, (mkS sh20_1 (fun d K => A20_1 c20_1 d K) (mkS sh20_6416 (fun d K => A20_6416 c20_6416 d K) (mkS sh20_8056 (fun d K => A20_8056 c20_8056 d K) (mkS sh20_9733 (fun d K => A20_9733 c20_9733 d K) noS)))))]
def sh4_1_l6 : Sh := ⟨[.lf (.int .i64), .lf (.full 0), .lf (.ptr 1 0), .lf (.nilp), .lf (.nilp), .lf (.int .i64)], [some ⟨none, [.seq (.pair (.int .i64) (.pair (.int .i64) (.pair (.int .u64) (.pair (.int .u64) (.pair (.int .i64) (.pair .str (.sl .bool))))))) 0]⟩, some ⟨some false, [.int .i64, .int .i64, .int .i64, .int .i64]⟩]⟩
abbrev Y4_1_l6 := Int → List (Int × (Int × (Int × (Int × (Int × (ByteArray × (Sl .bool))))))) → Int → Int → Int → Int → (Bool → Option Res) → (Option Res) → Nat → Int → Option Res
noncomputable def A4_1_l6 (g : Y4_1_l6) (k : Nat) (d : sh4_1_l6.den) (K : KL) : Option Res := g d.1.1 d.2.1.2.1 d.2.2.1.2.1 d.2.2.1.2.2.1 d.2.2.1.2.2.2.1 d.2.2.1.2.2.2.2.1 (fun (y0 : Bool) => K .ret [.tv (.lf (.bool y0))] [some ⟨d.2.1.1, [.seq (.pair (.int .i64) (.pair (.int .i64) (.pair (.int .u64) (.pair (.int .u64) (.pair (.int .i64) (.pair .str (.sl .bool))))))) 0 d.2.1.2.1]⟩, some ⟨false, [.int .i64 d.2.2.1.2.1, .int .i64 d.2.2.1.2.2.1, .int .i64 d.2.2.1.2.2.2.1, .int .i64 d.2.2.1.2.2.2.2.1]⟩]) (K (.exit 0) [.tv (.lf (.int .i64 d.1.1)), .tv (.lf (.nilp)), .tv (.lf (.nilp))] [some ⟨d.2.1.1, [.seq (.pair (.int .i64) (.pair (.int .i64) (.pair (.int .u64) (.pair (.int .u64) (.pair (.int .i64) (.pair .str (.sl .bool))))))) 0 d.2.1.2.1]⟩, some ⟨false, [.int .i64 d.2.2.1.2.1, .int .i64 d.2.2.1.2.2.1, .int .i64 d.2.2.1.2.2.2.1, .int .i64 d.2.2.1.2.2.2.2.1]⟩]) k d.1.2.2.2.2.2.1
def sh4_1_l13 : Sh := ⟨[.lf (.int .i64), .lf (.nilp), .lf (.nilp), .lf (.int .i64)], [some ⟨none, [.seq (.pair (.int .i64) (.pair (.int .i64) (.pair (.int .u64) (.pair (.int .u64) (.pair (.int .i64) (.pair .str (.sl .bool))))))) 0]⟩]⟩
abbrev Y4_1_l13 := Int → Int → List (Int × (Int × (Int × (Int × (Int × (ByteArray × (Sl .bool))))))) → (Option Res) → Nat → Option Res
noncomputable def A4_1_l13 (g : Y4_1_l13) (k : Nat) (d : sh4_1_l13.den) (K : KL) : Option Res := g d.1.1 d.1.2.2.2.1 d.2.1.2.1 (K (.exit 2) [.tv (.lf (.nilp)), .tv (.lf (.nilp))] [some ⟨d.2.1.1, [.seq (.pair (.int .i64) (.pair (.int .i64) (.pair (.int .u64) (.pair (.int .u64) (.pair (.int .i64) (.pair .str (.sl .bool))))))) 0 d.2.1.2.1]⟩]) k
def sh4_1_l6_2 : Sh := ⟨[.lf (.int .i64), .lf (.full 0), .lf (.ptr 1 0), .lf (.nilp), .lf (.ptr 2 0), .lf (.int .i64)], [some ⟨none, [.seq (.pair (.int .i64) (.pair (.int .i64) (.pair (.int .u64) (.pair (.int .u64) (.pair (.int .i64) (.pair .str (.sl .bool))))))) 0]⟩, some ⟨some false, [.int .i64, .int .i64, .int .i64, .int .i64]⟩, some ⟨some false, [.full 3, .full 4, .int .i64, .bool, .int .i64]⟩, some ⟨some false, [.seq .str 0]⟩, some ⟨some false, [.seq (.pair (.int .i64) .str) 0]⟩]⟩
abbrev Y4_1_l6_2 := Int → List (Int × (Int × (Int × (Int × (Int × (ByteArray × (Sl .bool))))))) → Int → Int → Int → Int → (Bool → Int → Bool → Int → List ByteArray → List (Int × ByteArray) → Option Res) → (Int → Bool → Int → List ByteArray → List (Int × ByteArray) → Option Res) → (Int → Bool → Int → List ByteArray → List (Int × ByteArray) → Option Res) → Nat → Int → Int → Bool → Int → List ByteArray → List (Int × ByteArray) → Option Res
noncomputable def A4_1_l6_2 (g : Y4_1_l6_2) (k : Nat) (d : sh4_1_l6_2.den) (K : KL) : Option Res := g d.1.1 d.2.1.2.1 d.2.2.1.2.1 d.2.2.1.2.2.1 d.2.2.1.2.2.2.1 d.2.2.1.2.2.2.2.1 (fun (y0 : Bool) (y6 : Int) (y7 : Bool) (y8 : Int) (y9 : List ByteArray) (y10 : List (Int × ByteArray)) => K .ret [.tv (.lf (.bool y0))] [some ⟨d.2.1.1, [.seq (.pair (.int .i64) (.pair (.int .i64) (.pair (.int .u64) (.pair (.int .u64) (.pair (.int .i64) (.pair .str (.sl .bool))))))) 0 d.2.1.2.1]⟩, some ⟨false, [.int .i64 d.2.2.1.2.1, .int .i64 d.2.2.1.2.2.1, .int .i64 d.2.2.1.2.2.2.1, .int .i64 d.2.2.1.2.2.2.2.1]⟩, some ⟨false, [.full 3, .full 4, .int .i64 y6, .bool y7, .int .i64 y8]⟩, some ⟨false, [.seq .str 0 y9]⟩, some ⟨false, [.seq (.pair (.int .i64) .str) 0 y10]⟩]) (fun (y6 : Int) (y7 : Bool) (y8 : Int) (y9 : List ByteArray) (y10 : List (Int × ByteArray)) => K .ret [.tv (.lf (.bool false))] [some ⟨d.2.1.1, [.seq (.pair (.int .i64) (.pair (.int .i64) (.pair (.int .u64) (.pair (.int .u64) (.pair (.int .i64) (.pair .str (.sl .bool))))))) 0 d.2.1.2.1]⟩, some ⟨false, [.int .i64 d.2.2.1.2.1, .int .i64 d.2.2.1.2.2.1, .int .i64 d.2.2.1.2.2.2.1, .int .i64 d.2.2.1.2.2.2.2.1]⟩, some ⟨false, [.full 3, .full 5, .int .i64 y6, .bool y7, .int .i64 y8]⟩, some ⟨false, [.seq .str 0 y9]⟩, none, some ⟨false, [.seq (.pair (.int .i64) .str) 0 y10]⟩]) (fun (y6 : Int) (y7 : Bool) (y8 : Int) (y9 : List ByteArray) (y10 : List (Int × ByteArray)) => K (.exit 0) [.tv (.lf (.int .i64 d.1.1)), .tv (.lf (.nilp)), .tv (.lf (.ptr 2 0))] [some ⟨d.2.1.1, [.seq (.pair (.int .i64) (.pair (.int .i64) (.pair (.int .u64) (.pair (.int .u64) (.pair (.int .i64) (.pair .str (.sl .bool))))))) 0 d.2.1.2.1]⟩, some ⟨false, [.int .i64 d.2.2.1.2.1, .int .i64 d.2.2.1.2.2.1, .int .i64 d.2.2.1.2.2.2.1, .int .i64 d.2.2.1.2.2.2.2.1]⟩, some ⟨false, [.full 3, .full 4, .int .i64 y6, .bool y7, .int .i64 y8]⟩, some ⟨false, [.seq .str 0 y9]⟩, some ⟨false, [.seq (.pair (.int .i64) .str) 0 y10]⟩]) k d.1.2.2.2.2.2.1 d.2.2.2.1.2.2.2.1 d.2.2.2.1.2.2.2.2.1 d.2.2.2.1.2.2.2.2.2.1 d.2.2.2.2.1.2.1 d.2.2.2.2.2.1.2.1
def sh4_1_l13_2 : Sh := ⟨[.lf (.int .i64), .lf (.nilp), .lf (.ptr 1 0), .lf (.int .i64)], [some ⟨none, [.seq (.pair (.int .i64) (.pair (.int .i64) (.pair (.int .u64) (.pair (.int .u64) (.pair (.int .i64) (.pair .str (.sl .bool))))))) 0]⟩, some ⟨some false, [.full 2, .full 3, .int .i64, .bool, .int .i64]⟩, some ⟨some false, [.seq .str 0]⟩, some ⟨some false, [.seq (.pair (.int .i64) .str) 0]⟩]⟩
abbrev Y4_1_l13_2 := Int → List (Int × (Int × (Int × (Int × (Int × (ByteArray × (Sl .bool))))))) → Int → Bool → Int → List ByteArray → List (Int × ByteArray) → (Option Res) → (Option Res) → Nat → Int → Option Res
noncomputable def A4_1_l13_2 (g : Y4_1_l13_2) (k : Nat) (d : sh4_1_l13_2.den) (K : KL) : Option Res := g d.1.1 d.2.1.2.1 d.2.2.1.2.2.2.1 d.2.2.1.2.2.2.2.1 d.2.2.1.2.2.2.2.2.1 d.2.2.2.1.2.1 d.2.2.2.2.1.2.1 (K .ret [.tv (.lf (.bool false))] [some ⟨d.2.1.1, [.seq (.pair (.int .i64) (.pair (.int .i64) (.pair (.int .u64) (.pair (.int .u64) (.pair (.int .i64) (.pair .str (.sl .bool))))))) 0 d.2.1.2.1]⟩, some ⟨false, [.full 2, .full 3, .int .i64 d.2.2.1.2.2.2.1, .bool d.2.2.1.2.2.2.2.1, .int .i64 d.2.2.1.2.2.2.2.2.1]⟩, some ⟨false, [.seq .str 0 d.2.2.2.1.2.1]⟩, some ⟨false, [.seq (.pair (.int .i64) .str) 0 d.2.2.2.2.1.2.1]⟩]) (K (.exit 2) [.tv (.lf (.nilp)), .tv (.lf (.ptr 1 0))] [some ⟨d.2.1.1, [.seq (.pair (.int .i64) (.pair (.int .i64) (.pair (.int .u64) (.pair (.int .u64) (.pair (.int .i64) (.pair .str (.sl .bool))))))) 0 d.2.1.2.1]⟩, some ⟨false, [.full 2, .full 3, .int .i64 d.2.2.1.2.2.2.1, .bool d.2.2.1.2.2.2.2.1, .int .i64 d.2.2.1.2.2.2.2.2.1]⟩, some ⟨false, [.seq .str 0 d.2.2.2.1.2.1]⟩, some ⟨false, [.seq (.pair (.int .i64) .str) 0 d.2.2.2.2.1.2.1]⟩]) k d.1.2.2.2.1
def sh4_1_l6_3 : Sh := ⟨[.lf (.int .i64), .lf (.full 0), .lf (.ptr 1 0), .lf (.ptr 2 0), .lf (.nilp), .lf (.int .i64)], [some ⟨none, [.seq (.pair (.int .i64) (.pair (.int .i64) (.pair (.int .u64) (.pair (.int .u64) (.pair (.int .i64) (.pair .str (.sl .bool))))))) 0]⟩, some ⟨some false, [.int .i64, .int .i64, .int .i64, .int .i64]⟩, some ⟨some false, [.full 3, .full 4, .int .i64, .bool, .int .i64]⟩, some ⟨some false, [.seq .str 0]⟩, some ⟨some false, [.seq (.pair (.int .i64) .str) 0]⟩]⟩
abbrev Y4_1_l6_3 := Int → List (Int × (Int × (Int × (Int × (Int × (ByteArray × (Sl .bool))))))) → Int → Int → Int → Int → (Bool → Int → Bool → Int → List ByteArray → List (Int × ByteArray) → Option Res) → (Int → Bool → Int → List ByteArray → List (Int × ByteArray) → Option Res) → (Int → Bool → Int → List ByteArray → List (Int × ByteArray) → Option Res) → Nat → Int → Int → Bool → Int → List ByteArray → List (Int × ByteArray) → Option Res
noncomputable def A4_1_l6_3 (g : Y4_1_l6_3) (k : Nat) (d : sh4_1_l6_3.den) (K : KL) : Option Res := g d.1.1 d.2.1.2.1 d.2.2.1.2.1 d.2.2.1.2.2.1 d.2.2.1.2.2.2.1 d.2.2.1.2.2.2.2.1 (fun (y0 : Bool) (y6 : Int) (y7 : Bool) (y8 : Int) (y9 : List ByteArray) (y10 : List (Int × ByteArray)) => K .ret [.tv (.lf (.bool y0))] [some ⟨d.2.1.1, [.seq (.pair (.int .i64) (.pair (.int .i64) (.pair (.int .u64) (.pair (.int .u64) (.pair (.int .i64) (.pair .str (.sl .bool))))))) 0 d.2.1.2.1]⟩, some ⟨false, [.int .i64 d.2.2.1.2.1, .int .i64 d.2.2.1.2.2.1, .int .i64 d.2.2.1.2.2.2.1, .int .i64 d.2.2.1.2.2.2.2.1]⟩, some ⟨false, [.full 3, .full 4, .int .i64 y6, .bool y7, .int .i64 y8]⟩, some ⟨false, [.seq .str 0 y9]⟩, some ⟨false, [.seq (.pair (.int .i64) .str) 0 y10]⟩]) (fun (y6 : Int) (y7 : Bool) (y8 : Int) (y9 : List ByteArray) (y10 : List (Int × ByteArray)) => K .ret [.tv (.lf (.bool false))] [some ⟨d.2.1.1, [.seq (.pair (.int .i64) (.pair (.int .i64) (.pair (.int .u64) (.pair (.int .u64) (.pair (.int .i64) (.pair .str (.sl .bool))))))) 0 d.2.1.2.1]⟩, some ⟨false, [.int .i64 d.2.2.1.2.1, .int .i64 d.2.2.1.2.2.1, .int .i64 d.2.2.1.2.2.2.1, .int .i64 d.2.2.1.2.2.2.2.1]⟩, some ⟨false, [.full 3, .full 5, .int .i64 y6, .bool y7, .int .i64 y8]⟩, some ⟨false, [.seq .str 0 y9]⟩, none, some ⟨false, [.seq (.pair (.int .i64) .str) 0 y10]⟩]) (fun (y6 : Int) (y7 : Bool) (y8 : Int) (y9 : List ByteArray) (y10 : List (Int × ByteArray)) => K (.exit 0) [.tv (.lf (.int .i64 d.1.1)), .tv (.lf (.ptr 2 0)), .tv (.lf (.nilp))] [some ⟨d.2.1.1, [.seq (.pair (.int .i64) (.pair (.int .i64) (.pair (.int .u64) (.pair (.int .u64) (.pair (.int .i64) (.pair .str (.sl .bool))))))) 0 d.2.1.2.1]⟩, some ⟨false, [.int .i64 d.2.2.1.2.1, .int .i64 d.2.2.1.2.2.1, .int .i64 d.2.2.1.2.2.2.1, .int .i64 d.2.2.1.2.2.2.2.1]⟩, some ⟨false, [.full 3, .full 4, .int .i64 y6, .bool y7, .int .i64 y8]⟩, some ⟨false, [.seq .str 0 y9]⟩, some ⟨false, [.seq (.pair (.int .i64) .str) 0 y10]⟩]) k d.1.2.2.2.2.2.1 d.2.2.2.1.2.2.2.1 d.2.2.2.1.2.2.2.2.1 d.2.2.2.1.2.2.2.2.2.1 d.2.2.2.2.1.2.1 d.2.2.2.2.2.1.2.1
def sh4_1_l13_3 : Sh := ⟨[.lf (.int .i64), .lf (.ptr 1 0), .lf (.nilp), .lf (.int .i64)], [some ⟨none, [.seq (.pair (.int .i64) (.pair (.int .i64) (.pair (.int .u64) (.pair (.int .u64) (.pair (.int .i64) (.pair .str (.sl .bool))))))) 0]⟩, some ⟨some false, [.full 2, .full 3, .int .i64, .bool, .int .i64]⟩, some ⟨some false, [.seq .str 0]⟩, some ⟨some false, [.seq (.pair (.int .i64) .str) 0]⟩]⟩
abbrev Y4_1_l13_3 := Int → Int → List (Int × (Int × (Int × (Int × (Int × (ByteArray × (Sl .bool))))))) → Int → Bool → Int → List ByteArray → List (Int × ByteArray) → (Option Res) → Nat → Option Res
noncomputable def A4_1_l13_3 (g : Y4_1_l13_3) (k : Nat) (d : sh4_1_l13_3.den) (K : KL) : Option Res := g d.1.1 d.1.2.2.2.1 d.2.1.2.1 d.2.2.1.2.2.2.1 d.2.2.1.2.2.2.2.1 d.2.2.1.2.2.2.2.2.1 d.2.2.2.1.2.1 d.2.2.2.2.1.2.1 (K (.exit 2) [.tv (.lf (.ptr 1 0)), .tv (.lf (.nilp))] [some ⟨d.2.1.1, [.seq (.pair (.int .i64) (.pair (.int .i64) (.pair (.int .u64) (.pair (.int .u64) (.pair (.int .i64) (.pair .str (.sl .bool))))))) 0 d.2.1.2.1]⟩, some ⟨false, [.full 2, .full 3, .int .i64 d.2.2.1.2.2.2.1, .bool d.2.2.1.2.2.2.2.1, .int .i64 d.2.2.1.2.2.2.2.2.1]⟩, some ⟨false, [.seq .str 0 d.2.2.2.1.2.1]⟩, some ⟨false, [.seq (.pair (.int .i64) .str) 0 d.2.2.2.2.1.2.1]⟩]) k
def sh4_1_l6_4 : Sh := ⟨[.lf (.int .i64), .lf (.full 0), .lf (.ptr 1 0), .lf (.ptr 2 0), .lf (.ptr 5 0), .lf (.int .i64)], [some ⟨none, [.seq (.pair (.int .i64) (.pair (.int .i64) (.pair (.int .u64) (.pair (.int .u64) (.pair (.int .i64) (.pair .str (.sl .bool))))))) 0]⟩, some ⟨some false, [.int .i64, .int .i64, .int .i64, .int .i64]⟩, some ⟨some false, [.full 3, .full 4, .int .i64, .bool, .int .i64]⟩, some ⟨some false, [.seq .str 0]⟩, some ⟨some false, [.seq (.pair (.int .i64) .str) 0]⟩, some ⟨some false, [.full 6, .full 7, .int .i64, .bool, .int .i64]⟩, some ⟨some false, [.seq .str 0]⟩, some ⟨some false, [.seq (.pair (.int .i64) .str) 0]⟩]⟩
abbrev Y4_1_l6_4 := Int → List (Int × (Int × (Int × (Int × (Int × (ByteArray × (Sl .bool))))))) → Int → Int → Int → Int → (Bool → Int → Bool → Int → List ByteArray → List (Int × ByteArray) → Int → Bool → Int → List ByteArray → List (Int × ByteArray) → Option Res) → (Int → Bool → Int → List ByteArray → Int → Bool → Int → List ByteArray → List (Int × ByteArray) → List (Int × ByteArray) → Option Res) → (Int → Bool → Int → List ByteArray → List (Int × ByteArray) → Int → Bool → Int → List ByteArray → List (Int × ByteArray) → Option Res) → Nat → Int → Int → Bool → Int → List ByteArray → List (Int × ByteArray) → Int → Bool → Int → List ByteArray → List (Int × ByteArray) → Option Res
noncomputable def A4_1_l6_4 (g : Y4_1_l6_4) (k : Nat) (d : sh4_1_l6_4.den) (K : KL) : Option Res := g d.1.1 d.2.1.2.1 d.2.2.1.2.1 d.2.2.1.2.2.1 d.2.2.1.2.2.2.1 d.2.2.1.2.2.2.2.1 (fun (y0 : Bool) (y6 : Int) (y7 : Bool) (y8 : Int) (y9 : List ByteArray) (y10 : List (Int × ByteArray)) (y11 : Int) (y12 : Bool) (y13 : Int) (y14 : List ByteArray) (y15 : List (Int × ByteArray)) => K .ret [.tv (.lf (.bool y0))] [some ⟨d.2.1.1, [.seq (.pair (.int .i64) (.pair (.int .i64) (.pair (.int .u64) (.pair (.int .u64) (.pair (.int .i64) (.pair .str (.sl .bool))))))) 0 d.2.1.2.1]⟩, some ⟨false, [.int .i64 d.2.2.1.2.1, .int .i64 d.2.2.1.2.2.1, .int .i64 d.2.2.1.2.2.2.1, .int .i64 d.2.2.1.2.2.2.2.1]⟩, some ⟨false, [.full 3, .full 4, .int .i64 y6, .bool y7, .int .i64 y8]⟩, some ⟨false, [.seq .str 0 y9]⟩, some ⟨false, [.seq (.pair (.int .i64) .str) 0 y10]⟩, some ⟨false, [.full 6, .full 7, .int .i64 y11, .bool y12, .int .i64 y13]⟩, some ⟨false, [.seq .str 0 y14]⟩, some ⟨false, [.seq (.pair (.int .i64) .str) 0 y15]⟩]) (fun (y6 : Int) (y7 : Bool) (y8 : Int) (y9 : List ByteArray) (y10 : Int) (y11 : Bool) (y12 : Int) (y13 : List ByteArray) (y14 : List (Int × ByteArray)) (y15 : List (Int × ByteArray)) => K .ret [.tv (.lf (.bool false))] [some ⟨d.2.1.1, [.seq (.pair (.int .i64) (.pair (.int .i64) (.pair (.int .u64) (.pair (.int .u64) (.pair (.int .i64) (.pair .str (.sl .bool))))))) 0 d.2.1.2.1]⟩, some ⟨false, [.int .i64 d.2.2.1.2.1, .int .i64 d.2.2.1.2.2.1, .int .i64 d.2.2.1.2.2.2.1, .int .i64 d.2.2.1.2.2.2.2.1]⟩, some ⟨false, [.full 3, .full 8, .int .i64 y6, .bool y7, .int .i64 y8]⟩, some ⟨false, [.seq .str 0 y9]⟩, none, some ⟨false, [.full 6, .full 9, .int .i64 y10, .bool y11, .int .i64 y12]⟩, some ⟨false, [.seq .str 0 y13]⟩, none, some ⟨false, [.seq (.pair (.int .i64) .str) 0 y14]⟩, some ⟨false, [.seq (.pair (.int .i64) .str) 0 y15]⟩]) (fun (y6 : Int) (y7 : Bool) (y8 : Int) (y9 : List ByteArray) (y10 : List (Int × ByteArray)) (y11 : Int) (y12 : Bool) (y13 : Int) (y14 : List ByteArray) (y15 : List (Int × ByteArray)) => K (.exit 0) [.tv (.lf (.int .i64 d.1.1)), .tv (.lf (.ptr 2 0)), .tv (.lf (.ptr 5 0))] [some ⟨d.2.1.1, [.seq (.pair (.int .i64) (.pair (.int .i64) (.pair (.int .u64) (.pair (.int .u64) (.pair (.int .i64) (.pair .str (.sl .bool))))))) 0 d.2.1.2.1]⟩, some ⟨false, [.int .i64 d.2.2.1.2.1, .int .i64 d.2.2.1.2.2.1, .int .i64 d.2.2.1.2.2.2.1, .int .i64 d.2.2.1.2.2.2.2.1]⟩, some ⟨false, [.full 3, .full 4, .int .i64 y6, .bool y7, .int .i64 y8]⟩, some ⟨false, [.seq .str 0 y9]⟩, some ⟨false, [.seq (.pair (.int .i64) .str) 0 y10]⟩, some ⟨false, [.full 6, .full 7, .int .i64 y11, .bool y12, .int .i64 y13]⟩, some ⟨false, [.seq .str 0 y14]⟩, some ⟨false, [.seq (.pair (.int .i64) .str) 0 y15]⟩]) k d.1.2.2.2.2.2.1 d.2.2.2.1.2.2.2.1 d.2.2.2.1.2.2.2.2.1 d.2.2.2.1.2.2.2.2.2.1 d.2.2.2.2.1.2.1 d.2.2.2.2.2.1.2.1 d.2.2.2.2.2.2.1.2.2.2.1 d.2.2.2.2.2.2.1.2.2.2.2.1 d.2.2.2.2.2.2.1.2.2.2.2.2.1 d.2.2.2.2.2.2.2.1.2.1 d.2.2.2.2.2.2.2.2.1.2.1
def sh4_1_l13_4 : Sh := ⟨[.lf (.int .i64), .lf (.ptr 1 0), .lf (.ptr 4 0), .lf (.int .i64)], [some ⟨none, [.seq (.pair (.int .i64) (.pair (.int .i64) (.pair (.int .u64) (.pair (.int .u64) (.pair (.int .i64) (.pair .str (.sl .bool))))))) 0]⟩, some ⟨some false, [.full 2, .full 3, .int .i64, .bool, .int .i64]⟩, some ⟨some false, [.seq .str 0]⟩, some ⟨some false, [.seq (.pair (.int .i64) .str) 0]⟩, some ⟨some false, [.full 5, .full 6, .int .i64, .bool, .int .i64]⟩, some ⟨some false, [.seq .str 0]⟩, some ⟨some false, [.seq (.pair (.int .i64) .str) 0]⟩]⟩
abbrev Y4_1_l13_4 := Int → List (Int × (Int × (Int × (Int × (Int × (ByteArray × (Sl .bool))))))) → Int → Bool → Int → List ByteArray → List (Int × ByteArray) → Int → Bool → Int → List ByteArray → List (Int × ByteArray) → (Option Res) → (Option Res) → Nat → Int → Option Res
noncomputable def A4_1_l13_4 (g : Y4_1_l13_4) (k : Nat) (d : sh4_1_l13_4.den) (K : KL) : Option Res := g d.1.1 d.2.1.2.1 d.2.2.1.2.2.2.1 d.2.2.1.2.2.2.2.1 d.2.2.1.2.2.2.2.2.1 d.2.2.2.1.2.1 d.2.2.2.2.1.2.1 d.2.2.2.2.2.1.2.2.2.1 d.2.2.2.2.2.1.2.2.2.2.1 d.2.2.2.2.2.1.2.2.2.2.2.1 d.2.2.2.2.2.2.1.2.1 d.2.2.2.2.2.2.2.1.2.1 (K .ret [.tv (.lf (.bool false))] [some ⟨d.2.1.1, [.seq (.pair (.int .i64) (.pair (.int .i64) (.pair (.int .u64) (.pair (.int .u64) (.pair (.int .i64) (.pair .str (.sl .bool))))))) 0 d.2.1.2.1]⟩, some ⟨false, [.full 2, .full 3, .int .i64 d.2.2.1.2.2.2.1, .bool d.2.2.1.2.2.2.2.1, .int .i64 d.2.2.1.2.2.2.2.2.1]⟩, some ⟨false, [.seq .str 0 d.2.2.2.1.2.1]⟩, some ⟨false, [.seq (.pair (.int .i64) .str) 0 d.2.2.2.2.1.2.1]⟩, some ⟨false, [.full 5, .full 6, .int .i64 d.2.2.2.2.2.1.2.2.2.1, .bool d.2.2.2.2.2.1.2.2.2.2.1, .int .i64 d.2.2.2.2.2.1.2.2.2.2.2.1]⟩, some ⟨false, [.seq .str 0 d.2.2.2.2.2.2.1.2.1]⟩, some ⟨false, [.seq (.pair (.int .i64) .str) 0 d.2.2.2.2.2.2.2.1.2.1]⟩]) (K (.exit 2) [.tv (.lf (.ptr 1 0)), .tv (.lf (.ptr 4 0))] [some ⟨d.2.1.1, [.seq (.pair (.int .i64) (.pair (.int .i64) (.pair (.int .u64) (.pair (.int .u64) (.pair (.int .i64) (.pair .str (.sl .bool))))))) 0 d.2.1.2.1]⟩, some ⟨false, [.full 2, .full 3, .int .i64 d.2.2.1.2.2.2.1, .bool d.2.2.1.2.2.2.2.1, .int .i64 d.2.2.1.2.2.2.2.2.1]⟩, some ⟨false, [.seq .str 0 d.2.2.2.1.2.1]⟩, some ⟨false, [.seq (.pair (.int .i64) .str) 0 d.2.2.2.2.1.2.1]⟩, some ⟨false, [.full 5, .full 6, .int .i64 d.2.2.2.2.2.1.2.2.2.1, .bool d.2.2.2.2.2.1.2.2.2.2.1, .int .i64 d.2.2.2.2.2.1.2.2.2.2.2.1]⟩, some ⟨false, [.seq .str 0 d.2.2.2.2.2.2.1.2.1]⟩, some ⟨false, [.seq (.pair (.int .i64) .str) 0 d.2.2.2.2.2.2.2.1.2.1]⟩]) k d.1.2.2.2.1
noncomputable def G4_1_6 (F k : Nat) : LoopS := orG sh4_1_l6 (fun d K => A4_1_l6 (f4_1_l6 F) k d K) (orG sh4_1_l6_2 (fun d K => A4_1_l6_2 (f4_1_l6_2 F) k d K) (orG sh4_1_l6_3 (fun d K => A4_1_l6_3 (f4_1_l6_3 F) k d K) (mkG sh4_1_l6_4 [1, 2, 3, 7, 9, 11] (outT [(.exit 0, [1, 7, 9]), (.ret, [6])]) (fun d K => A4_1_l6_4 (f4_1_l6_4 F) k d K) [])))
noncomputable def G4_1_13 (F k : Nat) : LoopS := orG sh4_1_l13 (fun d K => A4_1_l13 (f4_1_l13 F) k d K) (orG sh4_1_l13_2 (fun d K => A4_1_l13_2 (f4_1_l13_2 F) k d K) (orG sh4_1_l13_3 (fun d K => A4_1_l13_3 (f4_1_l13_3 F) k d K) (mkG sh4_1_l13_4 [1, 7, 9, 12] (outT [(.exit 2, [7, 9]), (.ret, [6])]) (fun d K => A4_1_l13_4 (f4_1_l13_4 F) k d K) [])))
noncomputable def LT4_1 (F : Nat) : Nat → Option LoopS := ltab [(6, G4_1_6 F F), (13, G4_1_13 F F)]
theorem L4_1_l6g (F k : Nat) (c12_1 : Y12_1) (c13_1 : Y13_1) (c15_1 : Y15_1) (c15_6206 : Y15_6206) (c16_1 : Y16_1) (c16_568 : Y16_568) (c17_1 : Y17_1) (c18_1 : Y18_1) (c18_568 : Y18_568) (c19_1 : Y19_1) (c20_1 : Y20_1) (c20_6416 : Y20_6416) (c20_8056 : Y20_8056) (c20_9733 : Y20_9733)  (l6 : Y4_1_l6) (l6_2 : Y4_1_l6_2) (l6_3 : Y4_1_l6_3) (l6_4 : Y4_1_l6_4) (X6 : LoopS) (X13 : LoopS) (d : sh4_1_l6.den) (K : KL) : A4_1_l6 ((fun (v4 : Int) (v6 : List (Int × (Int × (Int × (Int × (Int × (ByteArray × (Sl .bool)))))))) (v7 : Int) (v8 : Int) (v9 : Int) (v10 : Int) (K0 : (Bool → Option Res)) (K1 : (Option Res)) (k : Nat) (v5 : Int) => cond (decide (v5 < ((v6.length : Nat) : Int))) (cond (decide ((0 : Int) ≤ v5 ∧ v5 < ((v6.length : Nat) : Int))) (cond (decide (0 + v5.toNat < v6.length)) (cond (decide (((((((((v6.getD (0 + v5.toNat) (0, (0, (0, (0, (0, (ByteArray.empty, (Sl.nil .bool)))))))).2).2).2).2).2).1).size : Int) > 200)) (c19_1  (fun x11 => K0 x11) ) (cond (decide ((0 : Int) ≤ v5 ∧ v5 < ((v6.length : Nat) : Int))) (cond (decide (0 + v5.toNat < v6.length)) (c20_6416 v7 v8 v9 v10 ((v6.getD (0 + v5.toNat) (0, (0, (0, (0, (0, (ByteArray.empty, (Sl.nil .bool)))))))).1) (((v6.getD (0 + v5.toNat) (0, (0, (0, (0, (0, (ByteArray.empty, (Sl.nil .bool)))))))).2).1) ((((v6.getD (0 + v5.toNat) (0, (0, (0, (0, (0, (ByteArray.empty, (Sl.nil .bool)))))))).2).2).1) (((((v6.getD (0 + v5.toNat) (0, (0, (0, (0, (0, (ByteArray.empty, (Sl.nil .bool)))))))).2).2).2).1) ((((((v6.getD (0 + v5.toNat) (0, (0, (0, (0, (0, (ByteArray.empty, (Sl.nil .bool)))))))).2).2).2).2).1) (((((((v6.getD (0 + v5.toNat) (0, (0, (0, (0, (0, (ByteArray.empty, (Sl.nil .bool)))))))).2).2).2).2).2).1) (((((((v6.getD (0 + v5.toNat) (0, (0, (0, (0, (0, (ByteArray.empty, (Sl.nil .bool)))))))).2).2).2).2).2).2) (fun x12 => cond (!x12) (K0 false) (l6 v4 v6 v7 v8 v9 v10 K0 K1 k (IntKind.i64.wrap (v5 + 1)))) ) none) none)) none) none) (K1))) k d K = roundOf Tryz.prog (TB4_1 c12_1 c13_1 c15_1 c15_6206 c16_1 c16_568 c17_1 c18_1 c18_568 c19_1 c20_1 c20_6416 c20_8056 c20_9733) (xw [10]) 99 1 (ltab [(6, X6), (13, X13)]) (orG sh4_1_l6 (fun d K => A4_1_l6 l6 k d K) (orG sh4_1_l6_2 (fun d K => A4_1_l6_2 l6_2 k d K) (orG sh4_1_l6_3 (fun d K => A4_1_l6_3 l6_3 k d K) (mkG sh4_1_l6_4 [1, 2, 3, 7, 9, 11] (outT [(.exit 0, [1, 7, 9]), (.ret, [6])]) (fun d K => A4_1_l6_4 l6_4 k d K) [])))) b4_0 (encT sh4_1_l6.vs d.1) (encH sh4_1_l6.h d.2) K := by kernel_rfl
theorem L4_1_l6_2g (F k : Nat) (c12_1 : Y12_1) (c13_1 : Y13_1) (c15_1 : Y15_1) (c15_6206 : Y15_6206) (c16_1 : Y16_1) (c16_568 : Y16_568) (c17_1 : Y17_1) (c18_1 : Y18_1) (c18_568 : Y18_568) (c19_1 : Y19_1) (c20_1 : Y20_1) (c20_6416 : Y20_6416) (c20_8056 : Y20_8056) (c20_9733 : Y20_9733)  (l6 : Y4_1_l6) (l6_2 : Y4_1_l6_2) (l6_3 : Y4_1_l6_3) (l6_4 : Y4_1_l6_4) (X6 : LoopS) (X13 : LoopS) (d : sh4_1_l6_2.den) (K : KL) : A4_1_l6_2 ((fun (v19 : Int) (v21 : List (Int × (Int × (Int × (Int × (Int × (ByteArray × (Sl .bool)))))))) (v22 : Int) (v23 : Int) (v24 : Int) (v25 : Int) (K0 : (Bool → Int → Bool → Int → List ByteArray → List (Int × ByteArray) → Option Res)) (K1 : (Int → Bool → Int → List ByteArray → List (Int × ByteArray) → Option Res)) (K2 : (Int → Bool → Int → List ByteArray → List (Int × ByteArray) → Option Res)) (k : Nat) (v20 : Int) (v26 : Int) (v27 : Bool) (v28 : Int) (v29 : List ByteArray) (v30 : List (Int × ByteArray)) => cond (decide (v20 < ((v21.length : Nat) : Int))) (cond (decide ((0 : Int) ≤ v20 ∧ v20 < ((v21.length : Nat) : Int))) (cond (decide (0 + v20.toNat < v21.length)) (cond (decide (((((((((v21.getD (0 + v20.toNat) (0, (0, (0, (0, (0, (ByteArray.empty, (Sl.nil .bool)))))))).2).2).2).2).2).1).size : Int) > 200)) (c19_1  (fun x31 => K0 x31 v26 v27 v28 v29 v30) ) (cond (decide ((0 : Int) ≤ v20 ∧ v20 < ((v21.length : Nat) : Int))) (cond (decide (0 + v20.toNat < v21.length)) (c20_9733 v22 v23 v24 v25 ((v21.getD (0 + v20.toNat) (0, (0, (0, (0, (0, (ByteArray.empty, (Sl.nil .bool)))))))).1) (((v21.getD (0 + v20.toNat) (0, (0, (0, (0, (0, (ByteArray.empty, (Sl.nil .bool)))))))).2).1) ((((v21.getD (0 + v20.toNat) (0, (0, (0, (0, (0, (ByteArray.empty, (Sl.nil .bool)))))))).2).2).1) (((((v21.getD (0 + v20.toNat) (0, (0, (0, (0, (0, (ByteArray.empty, (Sl.nil .bool)))))))).2).2).2).1) ((((((v21.getD (0 + v20.toNat) (0, (0, (0, (0, (0, (ByteArray.empty, (Sl.nil .bool)))))))).2).2).2).2).1) (((((((v21.getD (0 + v20.toNat) (0, (0, (0, (0, (0, (ByteArray.empty, (Sl.nil .bool)))))))).2).2).2).2).2).1) (((((((v21.getD (0 + v20.toNat) (0, (0, (0, (0, (0, (ByteArray.empty, (Sl.nil .bool)))))))).2).2).2).2).2).2) v26 v27 v28 v29 v30 (fun x32 x33 x34 x35 x36 x37 => cond (!x32) (K1 x33 x34 x35 x36 x37) (l6_2 v19 v21 v22 v23 v24 v25 K0 K1 K2 k (IntKind.i64.wrap (v20 + 1)) x33 x34 x35 x36 x37)) ) none) none)) none) none) (K2 v26 v27 v28 v29 v30))) k d K = roundOf Tryz.prog (TB4_1 c12_1 c13_1 c15_1 c15_6206 c16_1 c16_568 c17_1 c18_1 c18_568 c19_1 c20_1 c20_6416 c20_8056 c20_9733) (xw [10]) 99 1 (ltab [(6, X6), (13, X13)]) (orG sh4_1_l6 (fun d K => A4_1_l6 l6 k d K) (orG sh4_1_l6_2 (fun d K => A4_1_l6_2 l6_2 k d K) (orG sh4_1_l6_3 (fun d K => A4_1_l6_3 l6_3 k d K) (mkG sh4_1_l6_4 [1, 2, 3, 7, 9, 11] (outT [(.exit 0, [1, 7, 9]), (.ret, [6])]) (fun d K => A4_1_l6_4 l6_4 k d K) [])))) b4_0 (encT sh4_1_l6_2.vs d.1) (encH sh4_1_l6_2.h d.2) K := by kernel_rfl
theorem L4_1_l6_3g (F k : Nat) (c12_1 : Y12_1) (c13_1 : Y13_1) (c15_1 : Y15_1) (c15_6206 : Y15_6206) (c16_1 : Y16_1) (c16_568 : Y16_568) (c17_1 : Y17_1) (c18_1 : Y18_1) (c18_568 : Y18_568) (c19_1 : Y19_1) (c20_1 : Y20_1) (c20_6416 : Y20_6416) (c20_8056 : Y20_8056) (c20_9733 : Y20_9733)  (l6 : Y4_1_l6) (l6_2 : Y4_1_l6_2) (l6_3 : Y4_1_l6_3) (l6_4 : Y4_1_l6_4) (X6 : LoopS) (X13 : LoopS) (d : sh4_1_l6_3.den) (K : KL) : A4_1_l6_3 ((fun (v67 : Int) (v69 : List (Int × (Int × (Int × (Int × (Int × (ByteArray × (Sl .bool)))))))) (v70 : Int) (v71 : Int) (v72 : Int) (v73 : Int) (K0 : (Bool → Int → Bool → Int → List ByteArray → List (Int × ByteArray) → Option Res)) (K1 : (Int → Bool → Int → List ByteArray → List (Int × ByteArray) → Option Res)) (K2 : (Int → Bool → Int → List ByteArray → List (Int × ByteArray) → Option Res)) (k : Nat) (v68 : Int) (v74 : Int) (v75 : Bool) (v76 : Int) (v77 : List ByteArray) (v78 : List (Int × ByteArray)) => cond (decide (v68 < ((v69.length : Nat) : Int))) (cond (decide ((0 : Int) ≤ v68 ∧ v68 < ((v69.length : Nat) : Int))) (cond (decide (0 + v68.toNat < v69.length)) (cond (decide (((((((((v69.getD (0 + v68.toNat) (0, (0, (0, (0, (0, (ByteArray.empty, (Sl.nil .bool)))))))).2).2).2).2).2).1).size : Int) > 200)) (c19_1  (fun x79 => K0 x79 v74 v75 v76 v77 v78) ) (cond (decide ((0 : Int) ≤ v68 ∧ v68 < ((v69.length : Nat) : Int))) (cond (decide (0 + v68.toNat < v69.length)) (c20_8056 v70 v71 v72 v73 ((v69.getD (0 + v68.toNat) (0, (0, (0, (0, (0, (ByteArray.empty, (Sl.nil .bool)))))))).1) (((v69.getD (0 + v68.toNat) (0, (0, (0, (0, (0, (ByteArray.empty, (Sl.nil .bool)))))))).2).1) ((((v69.getD (0 + v68.toNat) (0, (0, (0, (0, (0, (ByteArray.empty, (Sl.nil .bool)))))))).2).2).1) (((((v69.getD (0 + v68.toNat) (0, (0, (0, (0, (0, (ByteArray.empty, (Sl.nil .bool)))))))).2).2).2).1) ((((((v69.getD (0 + v68.toNat) (0, (0, (0, (0, (0, (ByteArray.empty, (Sl.nil .bool)))))))).2).2).2).2).1) (((((((v69.getD (0 + v68.toNat) (0, (0, (0, (0, (0, (ByteArray.empty, (Sl.nil .bool)))))))).2).2).2).2).2).1) (((((((v69.getD (0 + v68.toNat) (0, (0, (0, (0, (0, (ByteArray.empty, (Sl.nil .bool)))))))).2).2).2).2).2).2) v74 v75 v76 v77 v78 (fun x80 x81 x82 x83 x84 x85 => cond (!x80) (K1 x81 x82 x83 x84 x85) (l6_3 v67 v69 v70 v71 v72 v73 K0 K1 K2 k (IntKind.i64.wrap (v68 + 1)) x81 x82 x83 x84 x85)) ) none) none)) none) none) (K2 v74 v75 v76 v77 v78))) k d K = roundOf Tryz.prog (TB4_1 c12_1 c13_1 c15_1 c15_6206 c16_1 c16_568 c17_1 c18_1 c18_568 c19_1 c20_1 c20_6416 c20_8056 c20_9733) (xw [10]) 99 1 (ltab [(6, X6), (13, X13)]) (orG sh4_1_l6 (fun d K => A4_1_l6 l6 k d K) (orG sh4_1_l6_2 (fun d K => A4_1_l6_2 l6_2 k d K) (orG sh4_1_l6_3 (fun d K => A4_1_l6_3 l6_3 k d K) (mkG sh4_1_l6_4 [1, 2, 3, 7, 9, 11] (outT [(.exit 0, [1, 7, 9]), (.ret, [6])]) (fun d K => A4_1_l6_4 l6_4 k d K) [])))) b4_0 (encT sh4_1_l6_3.vs d.1) (encH sh4_1_l6_3.h d.2) K := by kernel_rfl
theorem L4_1_l6_4g (F k : Nat) (c12_1 : Y12_1) (c13_1 : Y13_1) (c15_1 : Y15_1) (c15_6206 : Y15_6206) (c16_1 : Y16_1) (c16_568 : Y16_568) (c17_1 : Y17_1) (c18_1 : Y18_1) (c18_568 : Y18_568) (c19_1 : Y19_1) (c20_1 : Y20_1) (c20_6416 : Y20_6416) (c20_8056 : Y20_8056) (c20_9733 : Y20_9733)  (l6 : Y4_1_l6) (l6_2 : Y4_1_l6_2) (l6_3 : Y4_1_l6_3) (l6_4 : Y4_1_l6_4) (X6 : LoopS) (X13 : LoopS) (d : sh4_1_l6_4.den) (K : KL) : A4_1_l6_4 ((fun (v114 : Int) (v116 : List (Int × (Int × (Int × (Int × (Int × (ByteArray × (Sl .bool)))))))) (v117 : Int) (v118 : Int) (v119 : Int) (v120 : Int) (K0 : (Bool → Int → Bool → Int → List ByteArray → List (Int × ByteArray) → Int → Bool → Int → List ByteArray → List (Int × ByteArray) → Option Res)) (K1 : (Int → Bool → Int → List ByteArray → Int → Bool → Int → List ByteArray → List (Int × ByteArray) → List (Int × ByteArray) → Option Res)) (K2 : (Int → Bool → Int → List ByteArray → List (Int × ByteArray) → Int → Bool → Int → List ByteArray → List (Int × ByteArray) → Option Res)) (k : Nat) (v115 : Int) (v121 : Int) (v122 : Bool) (v123 : Int) (v124 : List ByteArray) (v125 : List (Int × ByteArray)) (v126 : Int) (v127 : Bool) (v128 : Int) (v129 : List ByteArray) (v130 : List (Int × ByteArray)) => cond (decide (v115 < ((v116.length : Nat) : Int))) (cond (decide ((0 : Int) ≤ v115 ∧ v115 < ((v116.length : Nat) : Int))) (cond (decide (0 + v115.toNat < v116.length)) (cond (decide (((((((((v116.getD (0 + v115.toNat) (0, (0, (0, (0, (0, (ByteArray.empty, (Sl.nil .bool)))))))).2).2).2).2).2).1).size : Int) > 200)) (c19_1  (fun x131 => K0 x131 v121 v122 v123 v124 v125 v126 v127 v128 v129 v130) ) (cond (decide ((0 : Int) ≤ v115 ∧ v115 < ((v116.length : Nat) : Int))) (cond (decide (0 + v115.toNat < v116.length)) (c20_1 v117 v118 v119 v120 ((v116.getD (0 + v115.toNat) (0, (0, (0, (0, (0, (ByteArray.empty, (Sl.nil .bool)))))))).1) (((v116.getD (0 + v115.toNat) (0, (0, (0, (0, (0, (ByteArray.empty, (Sl.nil .bool)))))))).2).1) ((((v116.getD (0 + v115.toNat) (0, (0, (0, (0, (0, (ByteArray.empty, (Sl.nil .bool)))))))).2).2).1) (((((v116.getD (0 + v115.toNat) (0, (0, (0, (0, (0, (ByteArray.empty, (Sl.nil .bool)))))))).2).2).2).1) ((((((v116.getD (0 + v115.toNat) (0, (0, (0, (0, (0, (ByteArray.empty, (Sl.nil .bool)))))))).2).2).2).2).1) (((((((v116.getD (0 + v115.toNat) (0, (0, (0, (0, (0, (ByteArray.empty, (Sl.nil .bool)))))))).2).2).2).2).2).1) (((((((v116.getD (0 + v115.toNat) (0, (0, (0, (0, (0, (ByteArray.empty, (Sl.nil .bool)))))))).2).2).2).2).2).2) v121 v122 v123 v124 v125 v126 v127 v128 v129 v130 (fun x132 x133 x134 x135 x136 x137 x138 x139 x140 x141 x142 => cond (!x132) (K1 x133 x134 x135 x136 x137 x138 x139 x140 x141 x142) (l6_4 v114 v116 v117 v118 v119 v120 K0 K1 K2 k (IntKind.i64.wrap (v115 + 1)) x133 x134 x135 x136 x141 x137 x138 x139 x140 x142)) ) none) none)) none) none) (K2 v121 v122 v123 v124 v125 v126 v127 v128 v129 v130))) k d K = roundOf Tryz.prog (TB4_1 c12_1 c13_1 c15_1 c15_6206 c16_1 c16_568 c17_1 c18_1 c18_568 c19_1 c20_1 c20_6416 c20_8056 c20_9733) (xw [10]) 99 1 (ltab [(6, X6), (13, X13)]) (orG sh4_1_l6 (fun d K => A4_1_l6 l6 k d K) (orG sh4_1_l6_2 (fun d K => A4_1_l6_2 l6_2 k d K) (orG sh4_1_l6_3 (fun d K => A4_1_l6_3 l6_3 k d K) (mkG sh4_1_l6_4 [1, 2, 3, 7, 9, 11] (outT [(.exit 0, [1, 7, 9]), (.ret, [6])]) (fun d K => A4_1_l6_4 l6_4 k d K) [])))) b4_0 (encT sh4_1_l6_4.vs d.1) (encH sh4_1_l6_4.h d.2) K := by kernel_rfl
theorem L4_1_6 (F : Nat) : LoopOK Tryz.prog (T4_1 F) (xw [10]) 99 1 (LT4_1 F) (G4_1_6 F F) b4_0 :=
  loopOK_vers (G4_1_6 F) F (fun k => ⟨rfl, rfl⟩) (verOK_cons (s := sh4_1_l6) (all := (G4_1_6 F)) (fun k d K => A4_1_l6 (f4_1_l6 F) k d K) (fun d K => by kernel_rfl) (fun k d K => Eq.mp (by kernel_rfl) (L4_1_l6g F k (f12_1 F) (f13_1 F) (f15_1 F) (f15_6206 F) (f16_1 F) (f16_568 F) (f17_1 F) (f18_1 F) (f18_568 F) (f19_1 F) (f20_1 F) (f20_6416 F) (f20_8056 F) (f20_9733 F)  (f4_1_l6 F) (f4_1_l6_2 F) (f4_1_l6_3 F) (f4_1_l6_4 F) (G4_1_6 F F) (G4_1_13 F F) d K)) (verOK_cons (s := sh4_1_l6_2) (all := (G4_1_6 F)) (fun k d K => A4_1_l6_2 (f4_1_l6_2 F) k d K) (fun d K => by kernel_rfl) (fun k d K => Eq.mp (by kernel_rfl) (L4_1_l6_2g F k (f12_1 F) (f13_1 F) (f15_1 F) (f15_6206 F) (f16_1 F) (f16_568 F) (f17_1 F) (f18_1 F) (f18_568 F) (f19_1 F) (f20_1 F) (f20_6416 F) (f20_8056 F) (f20_9733 F)  (f4_1_l6 F) (f4_1_l6_2 F) (f4_1_l6_3 F) (f4_1_l6_4 F) (G4_1_6 F F) (G4_1_13 F F) d K)) (verOK_cons (s := sh4_1_l6_3) (all := (G4_1_6 F)) (fun k d K => A4_1_l6_3 (f4_1_l6_3 F) k d K) (fun d K => by kernel_rfl) (fun k d K => Eq.mp (by kernel_rfl) (L4_1_l6_3g F k (f12_1 F) (f13_1 F) (f15_1 F) (f15_6206 F) (f16_1 F) (f16_568 F) (f17_1 F) (f18_1 F) (f18_568 F) (f19_1 F) (f20_1 F) (f20_6416 F) (f20_8056 F) (f20_9733 F)  (f4_1_l6 F) (f4_1_l6_2 F) (f4_1_l6_3 F) (f4_1_l6_4 F) (G4_1_6 F F) (G4_1_13 F F) d K)) (verOK_last (s := sh4_1_l6_4) (live := [1, 2, 3, 7, 9, 11]) (out := (outT [(.exit 0, [1, 7, 9]), (.ret, [6])])) (mv := []) (all := (G4_1_6 F)) (fun k d K => A4_1_l6_4 (f4_1_l6_4 F) k d K) (fun d K => by kernel_rfl) (fun k d K => Eq.mp (by kernel_rfl) (L4_1_l6_4g F k (f12_1 F) (f13_1 F) (f15_1 F) (f15_6206 F) (f16_1 F) (f16_568 F) (f17_1 F) (f18_1 F) (f18_568 F) (f19_1 F) (f20_1 F) (f20_6416 F) (f20_8056 F) (f20_9733 F)  (f4_1_l6 F) (f4_1_l6_2 F) (f4_1_l6_3 F) (f4_1_l6_4 F) (G4_1_6 F F) (G4_1_13 F F) d K))))))
theorem L4_1_l13g (F k : Nat) (c12_1 : Y12_1) (c13_1 : Y13_1) (c15_1 : Y15_1) (c15_6206 : Y15_6206) (c16_1 : Y16_1) (c16_568 : Y16_568) (c17_1 : Y17_1) (c18_1 : Y18_1) (c18_568 : Y18_568) (c19_1 : Y19_1) (c20_1 : Y20_1) (c20_6416 : Y20_6416) (c20_8056 : Y20_8056) (c20_9733 : Y20_9733)  (l13 : Y4_1_l13) (l13_2 : Y4_1_l13_2) (l13_3 : Y4_1_l13_3) (l13_4 : Y4_1_l13_4) (X6 : LoopS) (X13 : LoopS) (d : sh4_1_l13.den) (K : KL) : A4_1_l13 ((fun (v14 : Int) (v15 : Int) (v16 : List (Int × (Int × (Int × (Int × (Int × (ByteArray × (Sl .bool)))))))) (K0 : (Option Res)) (k : Nat)  => cond (decide (v15 < v14)) (c15_6206 v15 (none) ) (K0))) k d K = roundOf Tryz.prog (TB4_1 c12_1 c13_1 c15_1 c15_6206 c16_1 c16_568 c17_1 c18_1 c18_568 c19_1 c20_1 c20_6416 c20_8056 c20_9733) (xw [10]) 99 1 (ltab [(6, X6), (13, X13)]) (orG sh4_1_l13 (fun d K => A4_1_l13 l13 k d K) (orG sh4_1_l13_2 (fun d K => A4_1_l13_2 l13_2 k d K) (orG sh4_1_l13_3 (fun d K => A4_1_l13_3 l13_3 k d K) (mkG sh4_1_l13_4 [1, 7, 9, 12] (outT [(.exit 2, [7, 9]), (.ret, [6])]) (fun d K => A4_1_l13_4 l13_4 k d K) [])))) b4_1 (encT sh4_1_l13.vs d.1) (encH sh4_1_l13.h d.2) K := by kernel_rfl
theorem L4_1_l13_2g (F k : Nat) (c12_1 : Y12_1) (c13_1 : Y13_1) (c15_1 : Y15_1) (c15_6206 : Y15_6206) (c16_1 : Y16_1) (c16_568 : Y16_568) (c17_1 : Y17_1) (c18_1 : Y18_1) (c18_568 : Y18_568) (c19_1 : Y19_1) (c20_1 : Y20_1) (c20_6416 : Y20_6416) (c20_8056 : Y20_8056) (c20_9733 : Y20_9733)  (l13 : Y4_1_l13) (l13_2 : Y4_1_l13_2) (l13_3 : Y4_1_l13_3) (l13_4 : Y4_1_l13_4) (X6 : LoopS) (X13 : LoopS) (d : sh4_1_l13_2.den) (K : KL) : A4_1_l13_2 ((fun (v54 : Int) (v56 : List (Int × (Int × (Int × (Int × (Int × (ByteArray × (Sl .bool)))))))) (v57 : Int) (v58 : Bool) (v59 : Int) (v60 : List ByteArray) (v61 : List (Int × ByteArray)) (K0 : (Option Res)) (K1 : (Option Res)) (k : Nat) (v55 : Int) => cond (decide (v55 < v54)) (c15_6206 v55 (cond (decide ((0 : Int) ≤ v55 ∧ v55 < ((v60.length : Nat) : Int))) (cond (decide (0 + v55.toNat < v60.length)) (cond (!(ByteArray.empty.toList == (v60.getD (0 + v55.toNat) ByteArray.empty).toList)) (K0) (l13_2 v54 v56 v57 v58 v59 v60 v61 K0 K1 k (IntKind.i64.wrap (v55 + 1)))) none) none) ) (K1))) k d K = roundOf Tryz.prog (TB4_1 c12_1 c13_1 c15_1 c15_6206 c16_1 c16_568 c17_1 c18_1 c18_568 c19_1 c20_1 c20_6416 c20_8056 c20_9733) (xw [10]) 99 1 (ltab [(6, X6), (13, X13)]) (orG sh4_1_l13 (fun d K => A4_1_l13 l13 k d K) (orG sh4_1_l13_2 (fun d K => A4_1_l13_2 l13_2 k d K) (orG sh4_1_l13_3 (fun d K => A4_1_l13_3 l13_3 k d K) (mkG sh4_1_l13_4 [1, 7, 9, 12] (outT [(.exit 2, [7, 9]), (.ret, [6])]) (fun d K => A4_1_l13_4 l13_4 k d K) [])))) b4_1 (encT sh4_1_l13_2.vs d.1) (encH sh4_1_l13_2.h d.2) K := by kernel_rfl
theorem L4_1_l13_3g (F k : Nat) (c12_1 : Y12_1) (c13_1 : Y13_1) (c15_1 : Y15_1) (c15_6206 : Y15_6206) (c16_1 : Y16_1) (c16_568 : Y16_568) (c17_1 : Y17_1) (c18_1 : Y18_1) (c18_568 : Y18_568) (c19_1 : Y19_1) (c20_1 : Y20_1) (c20_6416 : Y20_6416) (c20_8056 : Y20_8056) (c20_9733 : Y20_9733)  (l13 : Y4_1_l13) (l13_2 : Y4_1_l13_2) (l13_3 : Y4_1_l13_3) (l13_4 : Y4_1_l13_4) (X6 : LoopS) (X13 : LoopS) (d : sh4_1_l13_3.den) (K : KL) : A4_1_l13_3 ((fun (v102 : Int) (v103 : Int) (v104 : List (Int × (Int × (Int × (Int × (Int × (ByteArray × (Sl .bool)))))))) (v105 : Int) (v106 : Bool) (v107 : Int) (v108 : List ByteArray) (v109 : List (Int × ByteArray)) (K0 : (Option Res)) (k : Nat)  => cond (decide (v103 < v102)) (c15_1 v103 v105 v106 v107 v108 v109 (fun x110 x111 => none) ) (K0))) k d K = roundOf Tryz.prog (TB4_1 c12_1 c13_1 c15_1 c15_6206 c16_1 c16_568 c17_1 c18_1 c18_568 c19_1 c20_1 c20_6416 c20_8056 c20_9733) (xw [10]) 99 1 (ltab [(6, X6), (13, X13)]) (orG sh4_1_l13 (fun d K => A4_1_l13 l13 k d K) (orG sh4_1_l13_2 (fun d K => A4_1_l13_2 l13_2 k d K) (orG sh4_1_l13_3 (fun d K => A4_1_l13_3 l13_3 k d K) (mkG sh4_1_l13_4 [1, 7, 9, 12] (outT [(.exit 2, [7, 9]), (.ret, [6])]) (fun d K => A4_1_l13_4 l13_4 k d K) [])))) b4_1 (encT sh4_1_l13_3.vs d.1) (encH sh4_1_l13_3.h d.2) K := by kernel_rfl
theorem L4_1_l13_4g (F k : Nat) (c12_1 : Y12_1) (c13_1 : Y13_1) (c15_1 : Y15_1) (c15_6206 : Y15_6206) (c16_1 : Y16_1) (c16_568 : Y16_568) (c17_1 : Y17_1) (c18_1 : Y18_1) (c18_568 : Y18_568) (c19_1 : Y19_1) (c20_1 : Y20_1) (c20_6416 : Y20_6416) (c20_8056 : Y20_8056) (c20_9733 : Y20_9733)  (l13 : Y4_1_l13) (l13_2 : Y4_1_l13_2) (l13_3 : Y4_1_l13_3) (l13_4 : Y4_1_l13_4) (X6 : LoopS) (X13 : LoopS) (d : sh4_1_l13_4.den) (K : KL) : A4_1_l13_4 ((fun (v174 : Int) (v176 : List (Int × (Int × (Int × (Int × (Int × (ByteArray × (Sl .bool)))))))) (v177 : Int) (v178 : Bool) (v179 : Int) (v180 : List ByteArray) (v181 : List (Int × ByteArray)) (v182 : Int) (v183 : Bool) (v184 : Int) (v185 : List ByteArray) (v186 : List (Int × ByteArray)) (K0 : (Option Res)) (K1 : (Option Res)) (k : Nat) (v175 : Int) => cond (decide (v175 < v174)) (c15_1 v175 v177 v178 v179 v180 v181 (fun x187 x188 => cond (decide ((0 : Int) ≤ v175 ∧ v175 < ((v185.length : Nat) : Int))) (cond (decide (0 + v175.toNat < v185.length)) (cond (!(x187.toList == (v185.getD (0 + v175.toNat) ByteArray.empty).toList)) (K0) (l13_4 v174 v176 v177 v178 v179 v180 v181 v182 v183 v184 v185 v186 K0 K1 k (IntKind.i64.wrap (v175 + 1)))) none) none) ) (K1))) k d K = roundOf Tryz.prog (TB4_1 c12_1 c13_1 c15_1 c15_6206 c16_1 c16_568 c17_1 c18_1 c18_568 c19_1 c20_1 c20_6416 c20_8056 c20_9733) (xw [10]) 99 1 (ltab [(6, X6), (13, X13)]) (orG sh4_1_l13 (fun d K => A4_1_l13 l13 k d K) (orG sh4_1_l13_2 (fun d K => A4_1_l13_2 l13_2 k d K) (orG sh4_1_l13_3 (fun d K => A4_1_l13_3 l13_3 k d K) (mkG sh4_1_l13_4 [1, 7, 9, 12] (outT [(.exit 2, [7, 9]), (.ret, [6])]) (fun d K => A4_1_l13_4 l13_4 k d K) [])))) b4_1 (encT sh4_1_l13_4.vs d.1) (encH sh4_1_l13_4.h d.2) K := by kernel_rfl
theorem L4_1_13 (F : Nat) : LoopOK Tryz.prog (T4_1 F) (xw [10]) 99 1 (LT4_1 F) (G4_1_13 F F) b4_1 :=
  loopOK_vers (G4_1_13 F) F (fun k => ⟨rfl, rfl⟩) (verOK_cons (s := sh4_1_l13) (all := (G4_1_13 F)) (fun k d K => A4_1_l13 (f4_1_l13 F) k d K) (fun d K => by kernel_rfl) (fun k d K => Eq.mp (by kernel_rfl) (L4_1_l13g F k (f12_1 F) (f13_1 F) (f15_1 F) (f15_6206 F) (f16_1 F) (f16_568 F) (f17_1 F) (f18_1 F) (f18_568 F) (f19_1 F) (f20_1 F) (f20_6416 F) (f20_8056 F) (f20_9733 F)  (f4_1_l13 F) (f4_1_l13_2 F) (f4_1_l13_3 F) (f4_1_l13_4 F) (G4_1_6 F F) (G4_1_13 F F) d K)) (verOK_cons (s := sh4_1_l13_2) (all := (G4_1_13 F)) (fun k d K => A4_1_l13_2 (f4_1_l13_2 F) k d K) (fun d K => by kernel_rfl) (fun k d K => Eq.mp (by kernel_rfl) (L4_1_l13_2g F k (f12_1 F) (f13_1 F) (f15_1 F) (f15_6206 F) (f16_1 F) (f16_568 F) (f17_1 F) (f18_1 F) (f18_568 F) (f19_1 F) (f20_1 F) (f20_6416 F) (f20_8056 F) (f20_9733 F)  (f4_1_l13 F) (f4_1_l13_2 F) (f4_1_l13_3 F) (f4_1_l13_4 F) (G4_1_6 F F) (G4_1_13 F F) d K)) (verOK_cons (s := sh4_1_l13_3) (all := (G4_1_13 F)) (fun k d K => A4_1_l13_3 (f4_1_l13_3 F) k d K) (fun d K => by kernel_rfl) (fun k d K => Eq.mp (by kernel_rfl) (L4_1_l13_3g F k (f12_1 F) (f13_1 F) (f15_1 F) (f15_6206 F) (f16_1 F) (f16_568 F) (f17_1 F) (f18_1 F) (f18_568 F) (f19_1 F) (f20_1 F) (f20_6416 F) (f20_8056 F) (f20_9733 F)  (f4_1_l13 F) (f4_1_l13_2 F) (f4_1_l13_3 F) (f4_1_l13_4 F) (G4_1_6 F F) (G4_1_13 F F) d K)) (verOK_last (s := sh4_1_l13_4) (live := [1, 7, 9, 12]) (out := (outT [(.exit 2, [7, 9]), (.ret, [6])])) (mv := []) (all := (G4_1_13 F)) (fun k d K => A4_1_l13_4 (f4_1_l13_4 F) k d K) (fun d K => by kernel_rfl) (fun k d K => Eq.mp (by kernel_rfl) (L4_1_l13_4g F k (f12_1 F) (f13_1 F) (f15_1 F) (f15_6206 F) (f16_1 F) (f16_568 F) (f17_1 F) (f18_1 F) (f18_568 F) (f19_1 F) (f20_1 F) (f20_6416 F) (f20_8056 F) (f20_9733 F)  (f4_1_l13 F) (f4_1_l13_2 F) (f4_1_l13_3 F) (f4_1_l13_4 F) (G4_1_6 F F) (G4_1_13 F F) d K))))))
theorem E4_1g (F : Nat) (c12_1 : Y12_1) (c13_1 : Y13_1) (c15_1 : Y15_1) (c15_6206 : Y15_6206) (c16_1 : Y16_1) (c16_568 : Y16_568) (c17_1 : Y17_1) (c18_1 : Y18_1) (c18_568 : Y18_568) (c19_1 : Y19_1) (c20_1 : Y20_1) (c20_6416 : Y20_6416) (c20_8056 : Y20_8056) (c20_9733 : Y20_9733) (l6 : Y4_1_l6) (l6_2 : Y4_1_l6_2) (l6_3 : Y4_1_l6_3) (l6_4 : Y4_1_l6_4) (l13 : Y4_1_l13) (l13_2 : Y4_1_l13_2) (l13_3 : Y4_1_l13_3) (l13_4 : Y4_1_l13_4)  (d : sh4_1.den) (K : KF) : evBody Tryz.prog (TB4_1 c12_1 c13_1 c15_1 c15_6206 c16_1 c16_568 c17_1 c18_1 c18_568 c19_1 c20_1 c20_6416 c20_8056 c20_9733) (xw [10]) 99 1 (ltab [(6, orG sh4_1_l6 (fun d K => A4_1_l6 l6 F d K) (orG sh4_1_l6_2 (fun d K => A4_1_l6_2 l6_2 F d K) (orG sh4_1_l6_3 (fun d K => A4_1_l6_3 l6_3 F d K) (mkG sh4_1_l6_4 [1, 2, 3, 7, 9, 11] (outT [(.exit 0, [1, 7, 9]), (.ret, [6])]) (fun d K => A4_1_l6_4 l6_4 F d K) [])))), (13, orG sh4_1_l13 (fun d K => A4_1_l13 l13 F d K) (orG sh4_1_l13_2 (fun d K => A4_1_l13_2 l13_2 F d K) (orG sh4_1_l13_3 (fun d K => A4_1_l13_3 l13_3 F d K) (mkG sh4_1_l13_4 [1, 7, 9, 12] (outT [(.exit 2, [7, 9]), (.ret, [6])]) (fun d K => A4_1_l13_4 l13_4 F d K) []))))]) [] false code4 Tryz.f4.results.toList (encT sh4_1.vs d.1) (encH sh4_1.h d.2) K = A4_1 (fun (a1 : Int) (a2 : Int) (a3 : Int) (a4 : Int) (a5 : Int) (a6 : List (Int × (Int × (Int × (Int × (Int × (ByteArray × (Sl .bool)))))))) (K0 : (Bool → Option Res)) => cond (decide (a5 < 1)) (c19_1  (fun x1 => K0 x1) ) (cond (decide (a5 > 120)) (c19_1  (fun x2 => K0 x2) ) (cond (decide (((a6.length : Nat) : Int) > 40)) (c19_1  (fun x3 => K0 x3) ) (c12_1 a5 (c13_1 a5 (l6 a5 a6 a1 a2 a3 a4 (fun x13 => K0 x13) (l13 a5 0 a6 (none) F) F 0) (fun x17 x18 => l6_2 a5 a6 a1 a2 a3 a4 (fun x38 x39 x40 x41 x42 x43 => K0 x38) (fun x44 x45 x46 x47 x48 => K0 false) (fun x49 x50 x51 x52 x53 => l13_2 a5 a6 x49 x50 x51 x52 x53 (K0 false) (c16_568  (cond ((0 : Int) == x51) (c18_568  (fun x62 => c17_1 x62 x53 (fun x63 => cond x63 (c19_1  (fun x64 => K0 x64) ) (K0 false)) ) ) (K0 false)) ) F 0) F 0 (-1) false 0 x17 x18) ) (fun x65 x66 => c13_1 a5 (l6_3 a5 a6 a1 a2 a3 a4 (fun x86 x87 x88 x89 x90 x91 => K0 x86) (fun x92 x93 x94 x95 x96 => K0 false) (fun x97 x98 x99 x100 x101 => l13_3 a5 0 a6 x97 x98 x99 x100 x101 (none) F) F 0 (-1) false 0 x65 x66) (fun x112 x113 => l6_4 a5 a6 a1 a2 a3 a4 (fun x143 x144 x145 x146 x147 x148 x149 x150 x151 x152 x153 => K0 x143) (fun x154 x155 x156 x157 x158 x159 x160 x161 x162 x163 => K0 false) (fun x164 x165 x166 x167 x168 x169 x170 x171 x172 x173 => l13_4 a5 a6 x164 x165 x166 x167 x168 x169 x170 x171 x172 x173 (K0 false) (c16_1 x164 x165 x166 x167 x168 (cond (x166 == x171) (c18_1 x164 x165 x166 x167 x168 (fun x189 => c17_1 x189 x173 (fun x190 => cond x190 (c19_1  (fun x191 => K0 x191) ) (K0 false)) ) ) (K0 false)) ) F 0) F 0 (-1) false 0 x65 x66 (-1) false 0 x112 x113) ) )))) d K := by kernel_rfl
theorem E4_1 (F : Nat) (d : sh4_1.den) (K : KF) : evBody Tryz.prog (T4_1 F) (xw [10]) 99 1 (LT4_1 F) [] false code4 Tryz.f4.results.toList (encT sh4_1.vs d.1) (encH sh4_1.h d.2) K = A4_1 (f4_1 F) d K := Eq.mp (by kernel_rfl) (E4_1g F (f12_1 F) (f13_1 F) (f15_1 F) (f15_6206 F) (f16_1 F) (f16_568 F) (f17_1 F) (f18_1 F) (f18_568 F) (f19_1 F) (f20_1 F) (f20_6416 F) (f20_8056 F) (f20_9733 F) (f4_1_l6 F) (f4_1_l6_2 F) (f4_1_l6_3 F) (f4_1_l6_4 F) (f4_1_l13 F) (f4_1_l13_2 F) (f4_1_l13_3 F) (f4_1_l13_4 F)  d K)
theorem S4_1_ok (F : Nat) (o : Summ) (ho : SoundFn Tryz.prog 4 o) : SoundFn Tryz.prog 4 (S4_1 F o) :=
  soundFn_of (fn := Tryz.f4) (c := code4) rfl rfl (by kernel_rfl) (tab_cons (S12_1_ok F _ (noS_sound enter12)) (tab_cons (S13_1_ok F _ (noS_sound enter13)) (tab_cons (S15_1_ok F _ (S15_6206_ok F _ (noS_sound enter15))) (tab_cons (S16_1_ok F _ (S16_568_ok F _ (noS_sound enter16))) (tab_cons (S17_1_ok F _ (noS_sound enter17)) (tab_cons (S18_1_ok F _ (S18_568_ok F _ (noS_sound enter18))) (tab_cons (S19_1_ok F _ (noS_sound enter19)) (tab_cons (S20_1_ok F _ (S20_6416_ok F _ (S20_8056_ok F _ (S20_9733_ok F _ (noS_sound enter20))))) tab_nil)))))))) (by kernel_rfl) (by kernel_rfl) ho (by rw [loops4]; exact (loopsOK_cons (by kernel_rfl) (L4_1_6 F) (loopsOK_cons (by kernel_rfl) (L4_1_13 F) loopsOK_nil))) (by rw [scopes4]; exact scopesOK_nil) (by rw [ranges4]; exact rangesOK_nil)  (E4_1 F)
end Go.Proofs.YtlgopekjjkdkiaaGreatDoor.X
end

section
/- Numbers of a fixed width: what wrapping and the bits' operations come to where nothing is lost. -/
namespace Go.Proofs.YtlgopekjjkdkiaaGreatDoor.X
open Go Go.Proofs.YtlgopekjjkdkiaaGreatDoor.Ev
set_option linter.unusedSectionVars false
variable [FZ]
set_option linter.unusedVariables false
set_option linter.unusedSimpArgs false

theorem w64 {x : Int} (h : -9223372036854775808 ≤ x) (h' : x ≤ 9223372036854775807) : IntKind.i64.wrap x = x := by
  simp only [IntKind.wrap, IntKind.bits, IntKind.signed, Bool.true_and]
  split <;> (rename_i hq; simp at hq; omega)

theorem wu64 {x : Int} (h : 0 ≤ x) (h' : x < 18446744073709551616) : IntKind.u64.wrap x = x := by
  simp only [IntKind.wrap, IntKind.bits, IntKind.signed, Bool.false_and]
  simp; omega

theorem wu32 {x : Int} (h : 0 ≤ x) (h' : x < 4294967296) : IntKind.u32.wrap x = x := by
  simp only [IntKind.wrap, IntKind.bits, IntKind.signed, Bool.false_and]
  simp; omega

theorem wu8 {x : Int} (h : 0 ≤ x) (h' : x < 256) : IntKind.u8.wrap x = x := by
  simp only [IntKind.wrap, IntKind.bits, IntKind.signed, Bool.false_and]
  simp; omega

theorem wu32m (x : Int) : IntKind.u32.wrap x = x % 4294967296 := by
  simp only [IntKind.wrap, IntKind.bits, IntKind.signed, Bool.false_and]
  simp
theorem wu8m (x : Int) : IntKind.u8.wrap x = x % 256 := by
  simp only [IntKind.wrap, IntKind.bits, IntKind.signed, Bool.false_and]
  simp

theorem i64_of_wf {n : Int} (h : (Lit.int .i64 n).wf = true) : -9223372036854775808 ≤ n ∧ n ≤ 9223372036854775807 := by
  simp [Lit.wf, IntKind.min, IntKind.max, IntKind.bits, IntKind.signed] at h; omega
theorem or64 {A B : Nat} (hA : A < 2 ^ 64) (hB : B < 2 ^ 64) : ior .u64 (A : Int) (B : Int) = ((A ||| B : Nat) : Int) := by
  have h : (BitVec.ofInt 64 (A : Int) ||| BitVec.ofInt 64 (B : Int)).toNat = A ||| B := by
    simp [BitVec.toNat_or, BitVec.ofInt_natCast, BitVec.toNat_ofNat, Nat.mod_eq_of_lt hA, Nat.mod_eq_of_lt hB]
  have hl := Nat.or_lt_two_pow hA hB
  show IntKind.u64.wrap ((BitVec.ofInt 64 (A : Int) ||| BitVec.ofInt 64 (B : Int)).toNat : Int) = _
  rw [h, wu64 (by omega) (by omega)]
theorem and64 {A B : Nat} (hA : A < 2 ^ 64) (hB : B < 2 ^ 64) : iand .u64 (A : Int) (B : Int) = ((A &&& B : Nat) : Int) := by
  have h : (BitVec.ofInt 64 (A : Int) &&& BitVec.ofInt 64 (B : Int)).toNat = A &&& B := by
    simp [BitVec.toNat_and, BitVec.ofInt_natCast, BitVec.toNat_ofNat, Nat.mod_eq_of_lt hA, Nat.mod_eq_of_lt hB]
  have hl : A &&& B < 2 ^ 64 := Nat.and_lt_two_pow A hB
  show IntKind.u64.wrap ((BitVec.ofInt 64 (A : Int) &&& BitVec.ofInt 64 (B : Int)).toNat : Int) = _
  rw [h, wu64 (by omega) (by omega)]
/-- The number with given bits, below n. -/
def mk (f : Nat → Bool) : Nat → Nat
  | 0 => 0
  | n + 1 => if f n then mk f n ||| 2 ^ n else mk f n

theorem ct {α : Sort _} {p : Prop} [Decidable p] {a b : α} (h : p) : cond (decide p) a b = a := by simp [h]
theorem cf {α : Sort _} {p : Prop} [Decidable p] {a b : α} (h : ¬ p) : cond (decide p) a b = b := by simp [h]

end Go.Proofs.YtlgopekjjkdkiaaGreatDoor.X
end

section
/- A disk: what each act of the program's and of the document's comes to, in one form (each function has one way out: gen.py moves the lists). -/
namespace Go.Proofs.YtlgopekjjkdkiaaGreatDoor.X
open Go Go.Proofs.YtlgopekjjkdkiaaGreatDoor.Ev
set_option linter.unusedSectionVars false
variable [FZ]
set_option linter.unusedVariables false
set_option linter.unusedSimpArgs false

abbrev WL := List (Int × ByteArray)

/-- What is so of a disk of n sectors, behind at most k acts. -/
structure DS (n k : Nat) (a c : Int) (l : List ByteArray) (w : WL) : Prop where
  n40 : n ≤ 2000
  k300 : k ≤ 6000
  len : l.length = n
  wl : w.length ≤ k
  wb : ∀ p ∈ w, 0 ≤ p.1 ∧ p.1 < n
  ar : -1 ≤ a ∧ a ≤ 9223372036854775807
  cr : 0 ≤ c ∧ c ≤ k

theorem getD_of_drop {α : Type} {l r : List α} {i : Nat} {x d : α} (h : l.drop i = x :: r) : i < l.length ∧ l.getD (0 + (i : Int).toNat) d = x ∧ l.drop (i + 1) = r := by
  have h1 : i < l.length := by
    rcases Nat.lt_or_ge i l.length with h1 | h1
    · exact h1
    · rw [List.drop_eq_nil_of_le h1] at h; cases h
  rw [List.drop_eq_getElem_cons h1] at h
  injection h with h2 h3
  refine ⟨h1, ?_, h3⟩
  simp [h1, h2]

theorem getD_out {α : Type} {l : List α} {i : Nat} {d : α} (h : l.length ≤ i) : l.getD i d = d := by simp [List.getD_eq_getElem?_getD, List.getElem?_eq_none h]

theorem len_of_drop_nil {α : Type} {l : List α} {i : Nat} (h : l.drop i = []) (hi : i ≤ l.length) : i = l.length := by
  have := congrArg List.length h
  simp at this; omega

/-! ### A sector as it is flushed; as it was written last -/

def kp (x : Int) (l : List ByteArray) : ByteArray × Int := if 0 ≤ x ∧ x < (l.length : Int) then (l.getD x.toNat ByteArray.empty, 0) else (ByteArray.empty, 3)

theorem keptP {β : Type} {F : Nat} {x a c : Int} {b : Bool} {l : List ByteArray} {w : WL} {K : ByteArray → Int → Option β} : f15_1 F x a b c l w K = K (kp x l).1 (kp x l).2 := by
  rw [f15_1, f77_1, kp]
  by_cases h1 : 0 ≤ x
  · rw [ct (by omega)]
    by_cases h2 : x < (l.length : Int)
    · rw [if_pos ⟨h1, h2⟩, decide_eq_true h2, Bool.not_true, cond_false, ct ⟨h1, h2⟩, ct (by omega), Nat.zero_add]
    · rw [if_neg (by omega), decide_eq_false h2, Bool.not_false, cond_true]
  · rw [cf (by omega), if_neg (by omega), Bool.not_false, cond_true]

theorem keptR {β : Type} {F : Nat} {x a c : Int} {b : Bool} {l : List ByteArray} {w : WL} {K : ByteArray → Int → Option β} : f175_1 F x a b c l w K = K (kp x l).1 (kp x l).2 := by
  rw [f175_1, kp]
  by_cases h1 : 0 ≤ x
  · rw [cf (by omega)]
    by_cases h2 : x < (l.length : Int)
    · rw [if_pos ⟨h1, h2⟩, cf (by omega), ct ⟨h1, h2⟩, ct (by omega), Nat.zero_add]
    · rw [if_neg (by omega), ct (by omega)]
  · rw [ct (by omega), if_neg (by omega)]

/-- What was written last to a sector, in place of s. -/
def last (x : Int) (s : ByteArray) (w : WL) : ByteArray := w.foldl (fun s p => if p.1 = x then p.2 else s) s

def rd (x : Int) (b : Bool) (l : List ByteArray) (w : WL) : ByteArray × Int :=
  if b then (ByteArray.empty, 5) else (if 0 ≤ x ∧ x < (l.length : Int) then last x (l.getD x.toNat ByteArray.empty) w else ByteArray.empty, (kp x l).2)

theorem readRl {β : Type} {F : Nat} {x a c : Int} {b : Bool} {l : List ByteArray} {w : WL} {K : ByteArray → Option β} (hw : w.length ≤ 6000) : ∀ (r : WL) (i k : Nat) (s : ByteArray), w.drop i = r → i ≤ w.length → r.length < k →
    f124_1_l5 F x 0 a b c l w K k s (i : Int) = K (last x s r)
  | [], i, 0, s, _, _, hk => by simp at hk
  | _ :: _, i, 0, s, _, _, hk => by simp at hk
  | [], i, k + 1, s, hd, hi, _ => by
    have := len_of_drop_nil hd hi
    rw [f124_1_l5, cf (by omega)]; rfl
  | p :: r, i, k + 1, s, hd, hi, hk => by
    obtain ⟨h1, h2, h3⟩ := getD_of_drop (d := ((0, ByteArray.empty) : Int × ByteArray)) hd
    rw [f124_1_l5, ct (by omega), show ((0 : Int) == 0) = true from rfl, cond_true, ct (by omega), ct (by omega), h2, w64 (by omega) (by omega), ct (by omega), ct (by omega)]
    have ih := fun s => readRl (F := F) (x := x) (a := a) (b := b) (c := c) (l := l) (K := K) hw r (i + 1) k s h3 (by omega) (by simp at hk; omega)
    push_cast at ih
    by_cases hx : p.1 = x
    · rw [show (p.1 == x) = true from by simp [hx], cond_true, ih, last, last, List.foldl_cons, if_pos hx]
    · rw [show (p.1 == x) = false from by simp [hx], cond_false, ih, last, last, List.foldl_cons, if_neg hx]

theorem readRl3 {β : Type} {F : Nat} {x a c : Int} {b : Bool} {l : List ByteArray} {w : WL} {s : ByteArray} {K : ByteArray → Option β} {k : Nat} : f124_1_l5 F x 3 a b c l w K (k + 1) s 0 = K s := by
  rw [f124_1_l5]
  by_cases h : (0 : Int) < ((w.length : Nat) : Int)
  · rw [ct h]; rfl
  · rw [cf h]

theorem readR {β : Type} {F n k : Nat} (hF : 7000 ≤ F) {x a c : Int} {b : Bool} {l : List ByteArray} {w : WL} (h : DS n k a c l w) {K : ByteArray → Int → Option β} : f124_1 F x a b c l w K = K (rd x b l w).1 (rd x b l w).2 := by
  have hk := h.k300; have hwl := h.wl
  rw [f124_1]
  cases b with
  | true => rfl
  | false =>
    rw [cond_false, keptR, rd, if_neg (by simp), kp]
    by_cases hx : 0 ≤ x ∧ x < (l.length : Int)
    · rw [if_pos hx, if_pos hx]
      exact readRl (by omega) w 0 F _ rfl (by omega) (by omega)
    · rw [if_neg hx, if_neg hx]
      obtain ⟨F', rfl⟩ : ∃ F', F = F' + 1 := ⟨F - 1, by omega⟩
      exact readRl3

/-- The last write to a sector. -/
def lastW (x : Int) : WL → Option ByteArray
  | [] => none
  | p :: r => match lastW x r with
    | some s => some s
    | none => if p.1 = x then some p.2 else none

theorem last_eq (x : Int) : ∀ (w : WL) (s : ByteArray), last x s w = (match lastW x w with | some t => t | none => s)
  | [], s => rfl
  | p :: r, s => by
    rw [last, List.foldl_cons, ← last, last_eq x r, lastW]
    cases lastW x r with
    | some t => rfl
    | none =>
      by_cases hp : p.1 = x
      · simp [hp]
      · simp [hp]

theorem lastW_app (x : Int) (p : Int × ByteArray) : ∀ w : WL, lastW x (w ++ [p]) = if p.1 = x then some p.2 else lastW x w
  | [] => by simp [lastW]
  | q :: r => by
    rw [List.cons_append, lastW, lastW_app x p r, lastW]
    by_cases hp : p.1 = x
    · simp [hp]
    · simp [hp]

theorem readPl {β : Type} {F : Nat} {x a c z : Int} {b : Bool} {l : List ByteArray} {w : WL} {s : ByteArray} {K0 : ByteArray → Int → ByteArray → Option β} {K1 : Option β} (hw : w.length ≤ 6000) : ∀ (i k : Nat), i ≤ w.length → i < k →
    f37_1_r2000006_l1 F a b c l w x s z K0 K1 k ((i : Int) - 1) = (match lastW x (w.take i) with | some t => K0 t x t | none => K1)
  | _, 0, _, h => by omega
  | 0, k + 1, _, _ => by
    rw [f37_1_r2000006_l1, cf (by omega)]; rfl
  | i + 1, k + 1, hi, hk => by
    have h1 : i < w.length := by omega
    have e1 : (((i + 1 : Nat) : Int) - 1) = (i : Int) := by omega
    rw [e1, f37_1_r2000006_l1, ct (by omega), ct (by omega), ct (by omega), w64 (by omega) (by omega), readPl hw i k (by omega) (by omega)]
    have hg : w.getD (0 + (i : Int).toNat) ((0, ByteArray.empty) : Int × ByteArray) = w[i] := by simp [h1]
    rw [hg, List.take_succ_eq_append_getElem h1, lastW_app]
    by_cases hp : w[i].1 = x
    · rw [if_pos hp, show (w[i].1 == x) = true from by simp [hp], cond_true, hp]
    · rw [if_neg hp, show (w[i].1 == x) = false from by simp [hp], cond_false]

theorem lastW_none {x : Int} : ∀ {w : WL}, (∀ p ∈ w, p.1 ≠ x) → lastW x w = none
  | [], _ => rfl
  | p :: r, h => by rw [lastW, lastW_none (fun q hq => h q (by simp [hq]))]; simp [h p (by simp)]

theorem readP {β : Type} {F n k : Nat} (hF : 7000 ≤ F) {x a c : Int} {b : Bool} {l : List ByteArray} {w : WL} (h : DS n k a c l w) {K : ByteArray → Int → Option β} : f37_1 F x a b c l w K = K (rd x b l w).1 (rd x b l w).2 := by
  have hk := h.k300; have hwl := h.wl
  rw [f37_1]
  cases b with
  | true => rfl
  | false =>
    rw [cond_false, f99_1, f37_1_r2000006, w64 (by omega) (by omega), readPl (by omega) w.length F (Nat.le_refl _) (by omega), List.take_length, rd, if_neg (by simp)]
    by_cases hx : 0 ≤ x ∧ x < (l.length : Int)
    · rw [if_pos hx, last_eq]
      cases hq : lastW x w with
      | none => simp only [keptP]; rw [kp, if_pos hx]
      | some t => simp only [kp, if_pos hx]
    · rw [if_neg hx, lastW_none (fun p hp he => hx (by have := h.wb p hp; have := h.len; omega))]
      simp only [keptP]; rw [kp, if_neg hx]

/-! ### A write -/

def dec (a : Int) : Int := if a = -1 then a else a - 1

def wS (x : Int) (t : ByteArray) (a : Int) (b : Bool) (c : Int) (l : List ByteArray) (w : WL) : Int × Int × Bool × Int × WL :=
  if b then (5, a, b, c, w) else if ¬ (0 ≤ x ∧ x < (l.length : Int)) then (3, a, b, c, w) else if t.size ≠ 64 then (4, a, b, c, w) else if a = 0 then (5, -1, true, c, w) else (0, dec a, b, c + 1, w ++ [(x, t)])

theorem writeP {β : Type} {F n k : Nat} {x a c : Int} {t : ByteArray} {b : Bool} {l : List ByteArray} {w : WL} (h : DS n k a c l w) {K : Int → Int → Bool → Int → WL → Option β} :
    f24_1 F x t a b c l w K = K (wS x t a b c l w).1 (wS x t a b c l w).2.1 (wS x t a b c l w).2.2.1 (wS x t a b c l w).2.2.2.1 (wS x t a b c l w).2.2.2.2 := by
  have hk := h.k300; have hwl := h.wl; have ha := h.ar; have hc := h.cr
  rw [f24_1, wS]
  cases b with
  | true => rfl
  | false =>
    rw [cond_false, if_neg (by simp), f77_1, f85_1, f86_1]
    by_cases h1 : 0 ≤ x
    · rw [ct (by omega)]
      by_cases h2 : x < (l.length : Int)
      · rw [if_neg (by simp [h1, h2]), decide_eq_true h2, Bool.not_true, cond_false]
        by_cases h3 : t.size = 64
        · rw [if_neg (by simp [h3]), show ((t.size : Int) == 64) = true from by simp [h3], Bool.not_true, cond_false]
          by_cases h4 : a = 0
          · subst h4; rfl
          · rw [if_neg h4, show (a == 0) = false from by simp [h4], cond_false, dec]
            by_cases h5 : a = -1
            · rw [if_pos h5, show (a == -1) = true from by simp [h5], cond_true, cond_false, ct (by omega), w64 (by omega) (by omega)]
            · rw [if_neg h5, show (a == -1) = false from by simp [h5], cond_false, cond_false, ct (by omega), w64 (x := a - 1) (by omega) (by omega), w64 (by omega) (by omega)]
        · rw [if_pos (by simpa using h3), show ((t.size : Int) == 64) = false from by simp; omega]; rfl
      · rw [if_pos (by omega), decide_eq_false h2]; rfl
    · rw [cf (by omega), if_pos (by omega)]; rfl

theorem writeR {β : Type} {F n k : Nat} {x a c : Int} {t : ByteArray} {b : Bool} {l : List ByteArray} {w : WL} (h : DS n k a c l w) {K : Int → Int → Bool → Int → WL → Option β} :
    f74_1 F x t a b c l w K = K (wS x t a b c l w).1 (wS x t a b c l w).2.1 (wS x t a b c l w).2.2.1 (wS x t a b c l w).2.2.2.1 (wS x t a b c l w).2.2.2.2 := by
  have hk := h.k300; have hwl := h.wl; have ha := h.ar; have hc := h.cr
  rw [f74_1, wS]
  cases b with
  | true => rfl
  | false =>
    rw [cond_false, if_neg (by simp), f112_1, f140_1]
    by_cases h1 : 0 ≤ x
    · rw [cf (by omega)]
      by_cases h2 : x < (l.length : Int)
      · rw [if_neg (by simp [h1, h2]), cf (by omega)]
        by_cases h3 : t.size = 64
        · rw [if_neg (by simp [h3]), show ((t.size : Int) == 64) = true from by simp [h3], Bool.not_true, cond_false]
          by_cases h4 : a = 0
          · subst h4; rfl
          · rw [if_neg h4, show (a == 0) = false from by simp [h4], cond_false, dec]
            by_cases h5 : a = -1
            · rw [if_pos h5, cf (by omega), cond_false, ct (by omega), w64 (by omega) (by omega)]
            · rw [if_neg h5, ct (by omega), cond_false, ct (by omega), w64 (x := a - 1) (by omega) (by omega), w64 (by omega) (by omega)]
        · rw [if_pos (by simpa using h3), show ((t.size : Int) == 64) = false from by simp; omega]; rfl
      · rw [if_pos (by omega), ct (by omega)]
    · rw [ct (by omega), if_pos (by omega)]

/-! ### A flush -/

def put1 (l : List ByteArray) (p : Int × ByteArray) : List ByteArray := l.set p.1.toNat p.2
theorem put1_len (l : List ByteArray) (p : Int × ByteArray) : (put1 l p).length = l.length := by simp [put1]
theorem puts_len : ∀ (w : WL) (l : List ByteArray), (w.foldl put1 l).length = l.length
  | [], l => rfl
  | p :: r, l => by rw [List.foldl_cons, puts_len r, put1_len]

theorem flushPl {β : Type} {F n : Nat} {a c : Int} {b : Bool} {w : WL} {K : List ByteArray → Option β} (hw : w.length ≤ 6000) (hb : ∀ p ∈ w, 0 ≤ p.1 ∧ p.1 < (n : Int)) : ∀ (r : WL) (i k : Nat) (l : List ByteArray), w.drop i = r → i ≤ w.length → r.length < k → l.length = n →
    f27_1_l6 F ((w.length : Nat) : Int) a b c w K k (i : Int) l = K (r.foldl put1 l)
  | [], i, 0, s, _, _, hk, _ => by simp at hk
  | _ :: _, i, 0, s, _, _, hk, _ => by simp at hk
  | [], i, k + 1, s, hd, hi, _, _ => by
    have := len_of_drop_nil hd hi
    rw [f27_1_l6, cf (by omega)]; rfl
  | p :: r, i, k + 1, l, hd, hi, hk, hl => by
    obtain ⟨h1, h2, h3⟩ := getD_of_drop (d := ((0, ByteArray.empty) : Int × ByteArray)) hd
    have hp := hb p (List.mem_of_mem_drop (by rw [hd]; simp))
    rw [f27_1_l6, ct (by omega), ct (by omega), ct (by omega), h2, ct (by omega), ct (by omega), w64 (by omega) (by omega), Nat.zero_add, List.foldl_cons]
    exact flushPl hw hb r (i + 1) k (put1 l p) h3 (by omega) (by simp at hk; omega) (by rw [put1_len]; exact hl)

theorem flushRl {β : Type} {F n : Nat} {a c : Int} {b : Bool} {w : WL} {K : List ByteArray → Option β} (hw : w.length ≤ 6000) (hb : ∀ p ∈ w, 0 ≤ p.1 ∧ p.1 < (n : Int)) : ∀ (r : WL) (i k : Nat) (l : List ByteArray), w.drop i = r → i ≤ w.length → r.length < k → l.length = n →
    f143_1_l4 F a b c w K k (i : Int) l = K (r.foldl put1 l)
  | [], i, 0, s, _, _, hk, _ => by simp at hk
  | _ :: _, i, 0, s, _, _, hk, _ => by simp at hk
  | [], i, k + 1, s, hd, hi, _, _ => by
    have := len_of_drop_nil hd hi
    rw [f143_1_l4, cf (by omega)]; rfl
  | p :: r, i, k + 1, l, hd, hi, hk, hl => by
    obtain ⟨h1, h2, h3⟩ := getD_of_drop (d := ((0, ByteArray.empty) : Int × ByteArray)) hd
    have hp := hb p (List.mem_of_mem_drop (by rw [hd]; simp))
    rw [f143_1_l4, ct (by omega), ct (by omega), ct (by omega), h2, ct (by omega), ct (by omega), w64 (by omega) (by omega), Nat.zero_add, List.foldl_cons]
    exact flushRl hw hb r (i + 1) k (put1 l p) h3 (by omega) (by simp at hk; omega) (by rw [put1_len]; exact hl)

def fS (a : Int) (b : Bool) (c : Int) (l : List ByteArray) (w : WL) : Int × Int × Bool × Int × List ByteArray × WL :=
  if b then (5, a, b, c, l, w) else if a = 0 then (5, -1, true, c, l, w) else (0, dec a, b, c + 1, w.foldl put1 l, [])

theorem flushP {β : Type} {F n k : Nat} (hF : 7000 ≤ F) {a c : Int} {b : Bool} {l : List ByteArray} {w : WL} (h : DS n k a c l w) {K : Int → Int → Bool → Int → List ByteArray → WL → Option β} :
    f27_1 F a b c l w K = K (fS a b c l w).1 (fS a b c l w).2.1 (fS a b c l w).2.2.1 (fS a b c l w).2.2.2.1 (fS a b c l w).2.2.2.2.1 (fS a b c l w).2.2.2.2.2 := by
  have hk := h.k300; have hwl := h.wl; have ha := h.ar; have hc := h.cr
  rw [f27_1, fS, f86_1]
  cases b with
  | true => rfl
  | false =>
    rw [cond_false, if_neg (by simp)]
    by_cases h4 : a = 0
    · subst h4; rfl
    · rw [if_neg h4, show (a == 0) = false from by simp [h4], cond_false, dec]
      by_cases h5 : a = -1
      · rw [if_pos h5, show (a == -1) = true from by simp [h5], cond_true, Bool.not_true, cond_false, w64 (by omega) (by omega)]
        exact flushPl (by omega) h.wb w 0 F l rfl (by omega) (by omega) h.len
      · rw [if_neg h5, show (a == -1) = false from by simp [h5], cond_false, Bool.not_true, cond_false, w64 (x := a - 1) (by omega) (by omega), w64 (by omega) (by omega)]
        exact flushPl (by omega) h.wb w 0 F l rfl (by omega) (by omega) h.len

theorem flushR {β : Type} {F n k : Nat} (hF : 7000 ≤ F) {a c : Int} {b : Bool} {l : List ByteArray} {w : WL} (h : DS n k a c l w) {K : Int → Int → Bool → Int → List ByteArray → WL → Option β} :
    f143_1 F a b c l w K = K (fS a b c l w).1 (fS a b c l w).2.1 (fS a b c l w).2.2.1 (fS a b c l w).2.2.2.1 (fS a b c l w).2.2.2.2.1 (fS a b c l w).2.2.2.2.2 := by
  have hk := h.k300; have hwl := h.wl; have ha := h.ar; have hc := h.cr
  rw [f143_1, fS, f140_1]
  cases b with
  | true => rfl
  | false =>
    rw [cond_false, if_neg (by simp)]
    by_cases h4 : a = 0
    · subst h4; rfl
    · rw [if_neg h4, show (a == 0) = false from by simp [h4], cond_false, dec]
      by_cases h5 : a = -1
      · rw [if_pos h5, cf (by omega), Bool.not_true, cond_false, w64 (by omega) (by omega)]
        exact flushRl (by omega) h.wb w 0 F l rfl (by omega) (by omega) h.len
      · rw [if_neg h5, ct (by omega), Bool.not_true, cond_false, w64 (x := a - 1) (by omega) (by omega), w64 (by omega) (by omega)]
        exact flushRl (by omega) h.wb w 0 F l rfl (by omega) (by omega) h.len

section
variable {n k : Nat} {a c : Int} {l : List ByteArray} {w : WL}
theorem DS.more (h : DS n k a c l w) (hk : k < 6000) : DS n (k + 1) a c l w := ⟨h.n40, by omega, h.len, by have := h.wl; omega, h.wb, h.ar, by have := h.cr; omega⟩
theorem DS.off (h : DS n k a c l w) (hk : k < 6000) : DS n (k + 1) (-1) c l w := ⟨h.n40, by omega, h.len, by have := h.wl; omega, h.wb, by omega, by have := h.cr; omega⟩
theorem DS.fuse (h : DS n k a c l w) (hk : k < 6000) {x : Int} (hx : x ≤ 9223372036854775807) : DS n (k + 1) (if (-1) > x then (-1) else x) c l w := ⟨h.n40, by omega, h.len, by have := h.wl; omega, h.wb, by split <;> omega, by have := h.cr; omega⟩
theorem DS.wrote (h : DS n k a c l w) (hk : k < 6000) (h0 : a ≠ 0) {x : Int} {t : ByteArray} (hx : 0 ≤ x ∧ x < (l.length : Int)) : DS n (k + 1) (dec a) (c + 1) l (w ++ [(x, t)]) :=
  ⟨h.n40, by omega, h.len, by have := h.wl; simp; omega, fun p hp => by
    rcases List.mem_append.1 hp with hp | hp
    · exact h.wb p hp
    · simp at hp; subst hp; rw [← h.len]; exact hx, by have := h.ar; unfold dec; split <;> omega, by have := h.cr; omega⟩
theorem DS.flushed (h : DS n k a c l w) (hk : k < 6000) (h0 : a ≠ 0) : DS n (k + 1) (dec a) (c + 1) (w.foldl put1 l) [] :=
  ⟨h.n40, by omega, by rw [puts_len]; exact h.len, by simp, fun p hp => (by cases hp), by have := h.ar; unfold dec; split <;> omega, by have := h.cr; omega⟩
end

theorem wS_ok {n k : Nat} {x a c : Int} {t : ByteArray} {b : Bool} {l : List ByteArray} {w : WL} (h : DS n k a c l w) (hk : k < 6000) : DS n (k + 1) (wS x t a b c l w).2.1 (wS x t a b c l w).2.2.2.1 l (wS x t a b c l w).2.2.2.2 := by
  unfold wS
  split
  · exact h.more hk
  · split
    · exact h.more hk
    · rename_i h2
      split
      · exact h.more hk
      · split
        · exact h.off hk
        · rename_i h4
          exact h.wrote hk h4 (Classical.not_not.1 h2)

theorem fS_ok {n k : Nat} {a c : Int} {b : Bool} {l : List ByteArray} {w : WL} (h : DS n k a c l w) (hk : k < 6000) : DS n (k + 1) (fS a b c l w).2.1 (fS a b c l w).2.2.2.1 (fS a b c l w).2.2.2.2.1 (fS a b c l w).2.2.2.2.2 := by
  unfold fS
  split
  · exact h.more hk
  · split
    · exact h.off hk
    · rename_i h4
      exact h.flushed hk h4

end Go.Proofs.YtlgopekjjkdkiaaGreatDoor.X
end

section
/- A disk: crashes; a write, then a flush. -/
namespace Go.Proofs.YtlgopekjjkdkiaaGreatDoor.X
open Go Go.Proofs.YtlgopekjjkdkiaaGreatDoor.Ev
set_option linter.unusedSectionVars false
variable [FZ]
set_option linter.unusedVariables false
set_option linter.unusedSimpArgs false

/-- A crash: the i-th write is kept where the i-th word says so. -/
def crB (ks : List Bool) : Nat → WL → List ByteArray → List ByteArray
  | _, [], l => l
  | i, p :: r, l => crB ks (i + 1) r (if ks.getD i false then put1 l p else l)

theorem crB_len (ks : List Bool) : ∀ (w : WL) (i : Nat) (l : List ByteArray), (crB ks i w l).length = l.length
  | [], _, l => rfl
  | p :: r, i, l => by
    rw [crB, crB_len ks r]
    split
    · exact put1_len l p
    · rfl

theorem crB_stop (ks : List Bool) : ∀ (w : WL) (i : Nat) (l : List ByteArray), ks.length ≤ i → crB ks i w l = l
  | [], _, l, _ => rfl
  | p :: r, i, l, h => by
    rw [crB, crB_stop ks r (i + 1) _ (by omega), getD_out h]; rfl

theorem crashPl {β : Type} {F n : Nat} {a c : Int} {b : Bool} {w : WL} {ks : List Bool} {K : List ByteArray → Option β} (hw : w.length ≤ 6000) (hb : ∀ p ∈ w, 0 ≤ p.1 ∧ p.1 < (n : Int)) : ∀ (r : WL) (i k : Nat) (l : List ByteArray), w.drop i = r → i ≤ w.length → r.length < k → l.length = n →
    f32_1_l2 F ((w.length : Nat) : Int) a b c w ks K k (i : Int) l = K (crB ks i r l)
  | [], i, 0, s, _, _, hk, _ => by simp at hk
  | _ :: _, i, 0, s, _, _, hk, _ => by simp at hk
  | [], i, k + 1, s, hd, hi, _, _ => by
    have := len_of_drop_nil hd hi
    rw [f32_1_l2, cf (by omega)]; rfl
  | p :: r, i, k + 1, l, hd, hi, hk, hl => by
    obtain ⟨h1, h2, h3⟩ := getD_of_drop (d := ((0, ByteArray.empty) : Int × ByteArray)) hd
    have hp := hb p (List.mem_of_mem_drop (by rw [hd]; simp))
    have ih := fun l hl => crashPl (F := F) (a := a) (b := b) (c := c) (ks := ks) (K := K) hw hb r (i + 1) k l h3 (by omega) (by simp at hk; omega) hl
    push_cast at ih
    rw [f32_1_l2, ct (by omega), ct (by omega), ct (by omega), h2, w64 (by omega) (by omega), crB]
    by_cases hq : (i : Int) < ((ks.length : Nat) : Int)
    · have hg : ks.getD (0 + (i : Int).toNat) false = ks.getD i false := by rw [Nat.zero_add]; rfl
      rw [ct hq, ct (by omega), ct (by omega), hg]
      cases ks.getD i false with
      | false => rw [cond_false, ih l hl]; rfl
      | true => rw [cond_true, ct (by omega), ct (by omega), Nat.zero_add]; exact ih (put1 l p) (by rw [put1_len]; exact hl)
    · rw [cf hq, ih l hl, getD_out (by omega)]; rfl

theorem crashRl {β : Type} {F n : Nat} {a c : Int} {b : Bool} {w : WL} {ks : List Bool} {K : List ByteArray → Option β} (hw : w.length ≤ 6000) (hb : ∀ p ∈ w, 0 ≤ p.1 ∧ p.1 < (n : Int)) : ∀ (r : WL) (i k : Nat) (l : List ByteArray), w.drop i = r → i ≤ w.length → r.length < k → l.length = n →
    f64_1_l1 F a b c w ks K k (i : Int) l = K (crB ks i r l)
  | [], i, 0, s, _, _, hk, _ => by simp at hk
  | _ :: _, i, 0, s, _, _, hk, _ => by simp at hk
  | [], i, k + 1, s, hd, hi, _, _ => by
    have := len_of_drop_nil hd hi
    rw [f64_1_l1, cf (by omega)]; rfl
  | p :: r, i, k + 1, l, hd, hi, hk, hl => by
    obtain ⟨h1, h2, h3⟩ := getD_of_drop (d := ((0, ByteArray.empty) : Int × ByteArray)) hd
    have hp := hb p (List.mem_of_mem_drop (by rw [hd]; simp))
    rw [f64_1_l1, ct (by omega)]
    by_cases hq : (i : Int) < ((ks.length : Nat) : Int)
    · have ih := fun l hl => crashRl (F := F) (a := a) (b := b) (c := c) (ks := ks) (K := K) hw hb r (i + 1) k l h3 (by omega) (by simp at hk; omega) hl
      push_cast at ih
      have hg : ks.getD (0 + (i : Int).toNat) false = ks.getD i false := by rw [Nat.zero_add]; rfl
      rw [ct hq, ct (by omega), ct (by omega), h2, w64 (by omega) (by omega), crB, ct (by omega), ct (by omega), hg]
      cases ks.getD i false with
      | false => rw [cond_false, ih l hl]; rfl
      | true => rw [cond_true, ct (by omega), ct (by omega), Nat.zero_add]; exact ih (put1 l p) (by rw [put1_len]; exact hl)
    · rw [cf hq, crB_stop ks _ i l (by omega)]

theorem crashP {β : Type} {F n k : Nat} (hF : 7000 ≤ F) {a c : Int} {b : Bool} {l : List ByteArray} {w : WL} (h : DS n k a c l w) {ks : List Bool} {K : List ByteArray → WL → Option β} :
    f32_1 F a b c l w ks K = K (crB ks 0 w l) [] := by
  have hk := h.k300; have hwl := h.wl
  rw [f32_1]
  exact crashPl (by omega) h.wb w 0 F l rfl (by omega) (by omega) h.len

theorem crashR {β : Type} {F n k : Nat} (hF : 7000 ≤ F) {a c : Int} {b : Bool} {l : List ByteArray} {w : WL} (h : DS n k a c l w) {ks : List Bool} {K : List ByteArray → WL → Option β} :
    f64_1 F a b c l w ks K = K (crB ks 0 w l) [] := by
  have hk := h.k300; have hwl := h.wl
  rw [f64_1]
  exact crashRl (by omega) h.wb w 0 F l rfl (by omega) (by omega) h.len

section
variable {n k : Nat} {a c : Int} {l : List ByteArray} {w : WL}
theorem DS.crashed (h : DS n k a c l w) (hk : k < 6000) (ks : List Bool) : DS n (k + 1) (-1) c (crB ks 0 w l) [] :=
  ⟨h.n40, by omega, by rw [crB_len]; exact h.len, by simp, fun p hp => (by cases hp), by omega, by have := h.cr; omega⟩
theorem DS.came (h : DS n k a c l w) (hk : k < 6000) : DS n (k + 1) (-1) c l [] :=
  ⟨h.n40, by omega, h.len, by simp, fun p hp => (by cases hp), by omega, by have := h.cr; omega⟩

end

abbrev St := Int × Int × Bool × Int × List ByteArray × WL

/-- A write, then a flush; or why not. -/
def svS (x : Int) (t : ByteArray) (a : Int) (b : Bool) (c : Int) (l : List ByteArray) (w : WL) : St :=
  if (wS x t a b c l w).1 ≠ 0 then ((wS x t a b c l w).1, (wS x t a b c l w).2.1, (wS x t a b c l w).2.2.1, (wS x t a b c l w).2.2.2.1, l, (wS x t a b c l w).2.2.2.2)
  else fS (wS x t a b c l w).2.1 (wS x t a b c l w).2.2.1 (wS x t a b c l w).2.2.2.1 l (wS x t a b c l w).2.2.2.2

def app {β : Type} (K : Int → Int → Bool → Int → List ByteArray → WL → Option β) (s : St) : Option β := K s.1 s.2.1 s.2.2.1 s.2.2.2.1 s.2.2.2.2.1 s.2.2.2.2.2

theorem svS_ok {m k : Nat} {a d : Int} {b : Bool} {l : List ByteArray} {w : WL} {x : Int} {t : ByteArray} (h : DS m k a d l w) (hk : k < 5999) : DS m (k + 2) (svS x t a b d l w).2.1 (svS x t a b d l w).2.2.2.1 (svS x t a b d l w).2.2.2.2.1 (svS x t a b d l w).2.2.2.2.2 := by
  have h1 := wS_ok (x := x) (t := t) (b := b) h (by omega)
  unfold svS
  by_cases q : (wS x t a b d l w).1 = 0
  · rw [if_neg (show ¬ (wS x t a b d l w).1 ≠ 0 from fun hh => hh q)]
    exact fS_ok h1 (by omega)
  · rw [if_pos (show (wS x t a b d l w).1 ≠ 0 from q)]
    exact h1.more (by omega)

theorem svS_P {β : Type} {m k : Nat} {a d : Int} {b : Bool} {l : List ByteArray} {w : WL} {x : Int} {t : ByteArray} (h : DS m k a d l w) (hk : k < 5999) {K : Int → Int → Bool → Int → List ByteArray → WL → Option β} :
    f24_1 20000 x t a b d l w (fun e a b c w => cond (e != 0) (K e a b c l w) (f27_1 20000 a b c l w K)) = app K (svS x t a b d l w) := by
  rw [writeP h, svS]
  by_cases q : (wS x t a b d l w).1 = 0
  · rw [if_neg (fun hh => hh q), flushP (by omega) (wS_ok h (by omega)), q]; rfl
  · rw [if_pos q, show ((wS x t a b d l w).1 != 0) = true from by simp [q]]; rfl

theorem svS_R {β : Type} {m k : Nat} {a d : Int} {b : Bool} {l : List ByteArray} {w : WL} {x : Int} {t : ByteArray} (h : DS m k a d l w) (hk : k < 5999) {K : Int → Int → Bool → Int → List ByteArray → WL → Option β} :
    f74_1 20000 x t a b d l w (fun e a b c w => cond (e != 0) (K e a b c l w) (f143_1 20000 a b c l w K)) = app K (svS x t a b d l w) := by
  rw [writeR h, svS]
  by_cases q : (wS x t a b d l w).1 = 0
  · rw [if_neg (fun hh => hh q), flushR (by omega) (wS_ok h (by omega)), q]; rfl
  · rw [if_pos q, show ((wS x t a b d l w).1 != 0) = true from by simp [q]]; rfl

end Go.Proofs.YtlgopekjjkdkiaaGreatDoor.X
end

section
/- Records: sums, numbers as bytes; the code's and the document's, in one form. -/
namespace Go.Proofs.YtlgopekjjkdkiaaGreatDoor.X
open Go Go.Proofs.YtlgopekjjkdkiaaGreatDoor.Ev
set_option linter.unusedSectionVars false
variable [FZ]
set_option linter.unusedVariables false
set_option linter.unusedSimpArgs false

theorem x32 (x y : Int) : 0 ≤ ixor .u32 x y ∧ ixor .u32 x y < 4294967296 := by
  unfold ixor; rw [wu32m]; omega
theorem x8 (x y : Int) : 0 ≤ ixor .u8 x y ∧ ixor .u8 x y < 256 := by
  unfold ixor; rw [wu8m]; omega

theorem sh8 {n : Int} (h : 0 ≤ n ∧ n < 4294967296) : IntKind.u32.wrap (n.tdiv 256) = ishr .u32 n 8 := by
  have e : (2 : Int) ^ (min (8 : Int).toNat IntKind.u32.bits) = 256 := by decide
  rw [ishr, e, Int.fdiv_eq_ediv_of_nonneg _ (by omega), Int.tdiv_eq_ediv_of_nonneg h.1, wu32 (by omega) (by omega)]

/-- The table: each byte's step. -/
def eStep (x : Int) : Int := if (iand .u32 x 1) == 1 then ixor .u32 (ishr .u32 x 1) 2197175160 else ishr .u32 x 1
def ent (x : Int) : Int := eStep (eStep (eStep (eStep (eStep (eStep (eStep (eStep x)))))))
def tb : List Int := (List.range 256).map fun (i : Nat) => ent (i : Int)
theorem tb_len : tb.length = 256 := by simp [tb]

set_option maxRecDepth 100000 in
theorem tableP {β : Type} {K : List Int → Option β} : f215_1 20000 K = K tb := by kernel_rfl

theorem entNat {β : Type} {F : Nat} {K : Int → Option β} : ∀ (k : Nat) (v i : Int), f192_1_l3 F K k v i = (f192_1_l3 F some k v i).bind K
  | 0, v, i => rfl
  | k + 1, v, i => by
    rw [f192_1_l3, f192_1_l3]
    cases decide (i < 8) with
    | false => rfl
    | true =>
      cases (v.tmod 2 == 1) with
      | true => exact entNat k _ _
      | false => exact entNat k _ _

set_option maxRecDepth 100000 in
theorem entAll : ((List.range 256).all fun (i : Nat) => f192_1 20000 (i : Int) some == some (tb.getD i 0)) = true := by kernel_rfl

theorem entR {β : Type} {x : Int} (h : 0 ≤ x ∧ x < 256) {K : Int → Option β} : f192_1 20000 x K = K (tb.getD x.toNat 0) := by
  have h1 := List.all_eq_true.1 entAll x.toNat (List.mem_range.2 (by omega))
  rw [beq_iff_eq, show ((x.toNat : Nat) : Int) = x by omega, f192_1] at h1
  rw [f192_1, entNat, h1]; rfl

def crcS : Int → List Int → Int
  | n, [] => n
  | n, c :: r => crcS (ixor .u32 (ishr .u32 n 8) (tb.getD (ixor .u8 (IntKind.u8.wrap n) c).toNat 0)) r
def crc (b : List Int) : Int := ixor .u32 4294967295 (crcS (ixor .u32 4294967295 0) b)

theorem atL {α : Type} {l r : List α} {x d : α} {i : Nat} (hd : l.drop i = x :: r) : i < l.length ∧ l.getD (0 + (i : Int).toNat) d = x ∧ l.drop (i + 1) = r := by
  have h1 : i < l.length := by
    rcases Nat.lt_or_ge i l.length with h1 | h1
    · exact h1
    · rw [List.drop_eq_nil_of_le h1] at hd; cases hd
  rw [List.drop_eq_getElem_cons h1] at hd
  injection hd with h2 h3
  refine ⟨h1, ?_, h3⟩
  simp [h1, h2]

theorem nilL {α : Type} {l : List α} {i : Nat} (h : l.drop i = []) (hi : i ≤ l.length) : i = l.length := by
  have := congrArg List.length h
  simp at this; omega

theorem crcPl {β : Type} {F : Nat} {b : List Int} {K : Int → Option β} (hb : b.length ≤ 100000) : ∀ (r : List Int) (i k : Nat) (n : Int), b.drop i = r → i ≤ b.length → r.length < k →
    f191_1_l4 F ((b.length : Nat) : Int) b tb K k n (i : Int) = K (crcS n r)
  | [], i, 0, _, _, _, hk => by simp at hk
  | _ :: _, i, 0, _, _, _, hk => by simp at hk
  | [], i, k + 1, n, hd, hi, _ => by
    have := nilL hd hi
    rw [f191_1_l4, cf (by omega)]; rfl
  | c :: r, i, k + 1, n, hd, hi, hk => by
    obtain ⟨h1, h2, h3⟩ := atL (d := (0 : Int)) hd
    have hx := x8 (IntKind.u8.wrap n) c
    rw [f191_1_l4, ct (by omega), ct (by omega), ct (by omega), h2, ct hx, ct (by rw [tb_len]; omega), w64 (by omega) (by omega), crcS]
    exact crcPl hb r (i + 1) k _ h3 (by omega) (by simp at hk; omega)

theorem crcP {β : Type} {b : List Int} {K : Int → Option β} (hb : b.length ≤ 10000) : f148_1 20000 b K = K (crc b) := by
  rw [f148_1, f191_1, tableP]
  exact crcPl (K := fun x7 => K (ixor .u32 4294967295 x7)) (by omega) b 0 20000 _ rfl (by omega) (by omega)

theorem crcRl {β : Type} {b : List Int} {K : Int → Option β} (hb : b.length ≤ 100000) : ∀ (r : List Int) (i k : Nat) (n : Int), b.drop i = r → i ≤ b.length → r.length < k → 0 ≤ n ∧ n < 4294967296 →
    f154_1_l3 20000 b K k n (i : Int) = K (crcS n r)
  | [], i, 0, _, _, _, hk, _ => by simp at hk
  | _ :: _, i, 0, _, _, _, hk, _ => by simp at hk
  | [], i, k + 1, n, hd, hi, _, _ => by
    have := nilL hd hi
    rw [f154_1_l3, cf (by omega)]; rfl
  | c :: r, i, k + 1, n, hd, hi, hk, hn => by
    obtain ⟨h1, h2, h3⟩ := atL (d := (0 : Int)) hd
    have hx := x8 (IntKind.u8.wrap n) c
    rw [f154_1_l3, ct (by omega), ct (by omega), ct (by omega), h2, entR hx, w64 (by omega) (by omega), sh8 hn, crcS]
    exact crcRl hb r (i + 1) k _ h3 (by omega) (by simp at hk; omega) (x32 _ _)

theorem crcR {β : Type} {b : List Int} {K : Int → Option β} (hb : b.length ≤ 10000) : f102_1 20000 b K = K (crc b) := by
  rw [f102_1, f154_1]
  exact crcRl (K := fun x7 => K (ixor .u32 4294967295 x7)) (by omega) b 0 20000 _ rfl (by omega) (by omega) (x32 _ _)

/-! ### Numbers as bytes -/

def b4 (n : Int) : List Int := [IntKind.u8.wrap (ishr .u64 n 24), IntKind.u8.wrap (ishr .u64 n 16), IntKind.u8.wrap (ishr .u64 n 8), IntKind.u8.wrap (ishr .u64 n 0)]
theorem put4 {β : Type} {n : Int} {K : List Int → Option β} : f147_1 20000 4 n [] K = K (b4 n) := by kernel_rfl
theorem text4 {β : Type} {n : Int} {K : ByteArray → Option β} : f101_1 20000 4 n K = K (ofInts (b4 n)) := by kernel_rfl
theorem text1 {β : Type} {n : Int} {K : ByteArray → Option β} : f101_1 20000 1 n K = K (ofInts [IntKind.u8.wrap (ishr .u64 n 0)]) := by kernel_rfl

end Go.Proofs.YtlgopekjjkdkiaaGreatDoor.X
end

section
/- Records: made, opened; the code's and the document's, in one form. -/
namespace Go.Proofs.YtlgopekjjkdkiaaGreatDoor.X
open Go Go.Proofs.YtlgopekjjkdkiaaGreatDoor.Ev
set_option linter.unusedSectionVars false
variable [FZ]
set_option linter.unusedVariables false
set_option linter.unusedSimpArgs false

/-! ### Bytes -/

abbrev D (s : ByteArray) : List UInt8 := s.data.toList

theorem extB {s t : ByteArray} (h : D s = D t) : s = t := by
  cases s; cases t
  congr
  exact Array.toList_inj.1 h

theorem D_app (s t : ByteArray) : D (s ++ t) = D s ++ D t := by simp [D]
theorem D_ext (s : ByteArray) (a b : Nat) : D (s.extract a b) = ((D s).drop a).take (b - a) := by
  simp only [D, ByteArray.data_extract, Array.toList_extract, List.extract_eq_take_drop]
theorem D_size (s : ByteArray) : s.size = (D s).length := Array.length_toList.symm
theorem D_ofInts (l : List Int) : D (ofInts l) = l.map fun n => UInt8.ofNat n.toNat := by simp [D, ofInts]
theorem toInts_D (s : ByteArray) : toInts s = (D s).map fun c => (c.toNat : Int) := rfl

theorem loopB (s : ByteArray) : ∀ (m i : Nat) (r : List UInt8), i + m = s.size → ByteArray.toList.loop s i r = r.reverse ++ (D s).drop i
  | 0, i, r, h => by
    rw [ByteArray.toList.loop, if_neg (by omega), List.drop_eq_nil_of_le (by rw [← D_size]; omega), List.append_nil]
  | m + 1, i, r, h => by
    have h1 : i < (D s).length := by rw [← D_size]; omega
    rw [ByteArray.toList.loop, if_pos (by omega), loopB s m (i + 1) _ (by omega), List.drop_eq_getElem_cons h1]
    have : s.get! i = (D s)[i] := by
      have h2 : i < s.data.size := by have := h1; simpa [D] using this
      simp only [ByteArray.get!, D, Array.getElem_toList]
      exact getElem!_pos s.data i h2
    rw [this]; simp

theorem toList_D (s : ByteArray) : s.toList = D s := by
  rw [ByteArray.toList, loopB s s.size 0 [] (by omega)]; rfl

theorem beqB {s t : ByteArray} : (s.toList == t.toList) = decide (s = t) := by
  rw [toList_D, toList_D, Bool.eq_iff_iff]
  simp only [beq_iff_eq, decide_eq_true_eq]
  exact ⟨extB, fun h => by rw [h]⟩

/-! ### A record -/

def front (k : Int) (b : ByteArray) : ByteArray := ⟨(UInt8.ofNat k.toNat :: UInt8.ofNat b.size :: (D b ++ List.replicate (58 - b.size) 0)).toArray⟩
def mkB (k : Int) (b : ByteArray) : ByteArray := front k b ++ ofInts (b4 (crc (toInts (front k b))))
def mkR (k : Int) (b : ByteArray) : ByteArray × Int := if k < 1 ∨ k > 8 then (ByteArray.empty, 22) else if b.size > 58 then (ByteArray.empty, 8) else (mkB k b, 0)

theorem front_D (k : Int) (b : ByteArray) : D (front k b) = UInt8.ofNat k.toNat :: UInt8.ofNat b.size :: (D b ++ List.replicate (58 - b.size) 0) := by simp [D, front]
theorem front_size {k : Int} {b : ByteArray} (h : b.size ≤ 58) : (front k b).size = 60 := by
  rw [D_size, front_D]; simp [← D_size]
  have := D_size b
  simp [D] at this
  omega

theorem crc_r (b : List Int) : 0 ≤ crc b ∧ crc b < 4294967296 := x32 _ _

theorem sumP {β : Type} {s : ByteArray} (h : 60 ≤ s.size) {K : ByteArray → Option β} : f146_1 20000 s K = K (ofInts (b4 (crc (toInts (s.extract 0 60))))) := by
  have hc := crc_r (toInts (s.extract 0 60))
  have hl : (toInts (s.extract 0 60)).length ≤ 60 := by
    rw [toInts_D, D_ext]; simp; omega
  rw [f146_1, ct (by omega), crcP (by omega), wu64 (by omega) (by omega), put4]

theorem ext_all {s : ByteArray} {n : Nat} (h : s.size = n) : s.extract 0 n = s := by
  apply extB
  rw [D_ext, List.drop_zero, List.take_of_length_le (by rw [← D_size]; omega)]

theorem rep0 (n : Nat) : D (rep ⟨#[0]⟩ n) = List.replicate n 0 := by
  show D ⟨(Lib.repeatL [0] n).toArray⟩ = _
  have : ∀ n, Lib.repeatL [(0 : UInt8)] n = List.replicate n 0 := fun n => by
    induction n with
    | zero => rfl
    | succ n ih => simp [Lib.repeatL, ih, List.replicate_succ]
  simp [D, this]

theorem u8n {n : Int} (h : 0 ≤ n ∧ n < 256) : IntKind.u8.wrap n = n := wu8 h.1 h.2

theorem shr0 {n : Int} (h : 0 ≤ n) : ishr .u64 n 0 = n := by
  have e : (2 : Int) ^ (min (0 : Int).toNat IntKind.u64.bits) = 1 := by decide
  rw [ishr, e, Int.fdiv_eq_ediv_of_nonneg _ (by omega), Int.ediv_one]

theorem makeP {β : Type} {k : Int} {b : ByteArray} (hb : b.size ≤ maxLen) {K : ByteArray → Int → Option β} : f94_1 20000 k b K = K (mkR k b).1 (mkR k b).2 := by
  rw [f94_1, mkR]
  by_cases h1 : k < 1
  · rw [ct h1, if_pos (.inl h1)]
  · by_cases h2 : k > 8
    · rw [cf h1, ct h2, if_pos (.inr h2)]
    · rw [cf h1, cf h2, if_neg (by omega)]
      by_cases h3 : b.size > 58
      · rw [ct (by omega), if_pos h3]
      · have hs2 : (ofInts [IntKind.u8.wrap k, IntKind.u8.wrap (b.size : Int)]).size = 2 := by rw [D_size, D_ofInts]; rfl
        have hs : (ofInts [IntKind.u8.wrap k, IntKind.u8.wrap (b.size : Int)] ++ b).size = 2 + b.size := by rw [D_size, D_app, List.length_append, ← D_size, ← D_size, hs2]
        rw [cf (by omega), if_neg h3, ct (by omega), f145_1, hs, w64 (by omega) (by omega), ct ⟨by omega, by omega, by
          have : (⟨#[0]⟩ : ByteArray).size = 1 := rfl
          rw [this]; omega⟩]
        have hf : ofInts [IntKind.u8.wrap k, IntKind.u8.wrap (b.size : Int)] ++ b ++ rep ⟨#[0]⟩ (60 - ((2 + b.size : Nat) : Int)).toNat = front k b := by
          apply extB
          rw [D_app, D_app, rep0, D_ofInts, front_D, u8n (by omega), u8n (by omega), show (60 - ((2 + b.size : Nat) : Int)).toNat = 58 - b.size by omega]
          simp
        have hfs := front_size (k := k) (b := b) (by omega)
        have hr : (rep ⟨#[0]⟩ (60 - ((2 + b.size : Nat) : Int)).toNat).size ≤ 60 := by rw [D_size, rep0]; simp; omega
        rw [ct (by omega), hf, sumP (by omega), ext_all hfs, ct (by
          rw [hfs, D_size, D_ofInts]; simp [b4])]
        rfl

noncomputable def Z64 : ByteArray := ofInts (List.replicate 64 0)
theorem zero64 {β : Type} {K : ByteArray → Option β} : f54_1 20000 K = K Z64 := by kernel_rfl
theorem Z64_D : D Z64 = List.replicate 64 0 := by rw [Z64, D_ofInts]; rfl

theorem makeR {β : Type} {k : Int} {b : ByteArray} (hb : b.size ≤ maxLen) {K : ByteArray → Int → Option β} : f100_1 20000 k b K = K (mkR k b).1 (mkR k b).2 := by
  rw [f100_1, mkR]
  by_cases h1 : k < 1
  · rw [ct h1, if_pos (.inl h1)]
  · by_cases h2 : k > 8
    · rw [cf h1, ct h2, if_pos (.inr h2)]
    · rw [cf h1, cf h2, if_neg (by omega)]
      by_cases h3 : b.size > 58
      · rw [ct (by omega), if_pos h3]
      · have hz : Z64.size = 64 := by rw [D_size, Z64_D]; simp
        have hs2 : (ofInts [k] ++ ofInts [(b.size : Int)]).size = 2 := by rw [D_size, D_app, D_ofInts, D_ofInts]; rfl
        have hs : (ofInts [k] ++ ofInts [(b.size : Int)] ++ b).size = 2 + b.size := by rw [D_size, D_app, List.length_append, ← D_size, ← D_size, hs2]
        rw [cf (by omega), if_neg h3, text1, text1, wu64 (by omega) (by omega), wu64 (by omega) (by omega), shr0 (by omega), shr0 (by omega), u8n (by omega), u8n (by omega)]
        have h11 : ∀ n : Int, (ofInts [n]).size = 1 := fun n => by rw [D_size, D_ofInts]; rfl
        rw [ct (by rw [h11, h11]; omega), ct (by rw [hs2]; omega), zero64, hs, ct (by omega)]
        have hf : ofInts [k] ++ ofInts [(b.size : Int)] ++ b ++ Z64.extract ((2 + b.size : Nat) : Int).toNat 60 = front k b := by
          apply extB
          rw [D_app, D_app, D_app, D_ext, D_ofInts, D_ofInts, front_D, Z64_D, show ((2 + b.size : Nat) : Int).toNat = 2 + b.size by omega, List.drop_replicate, List.take_replicate, show min (60 - (2 + b.size)) (64 - (2 + b.size)) = 58 - b.size by omega]
          simp
        have hfs := front_size (k := k) (b := b) (by omega)
        have hext : (Z64.extract ((2 + b.size : Nat) : Int).toNat 60).size ≤ 60 := by rw [D_size, D_ext]; simp; omega
        have hc := crc_r (toInts (front k b))
        have hl : (toInts (front k b)).length = 60 := by rw [toInts_D, List.length_map, ← D_size]; exact hfs
        rw [ct (by omega), hf, crcR (by omega), wu64 (by omega) (by omega), text4, ct (by
          rw [hfs, D_size, D_ofInts]; simp [b4])]
        rfl

/-! ### What a sector is -/

def byt (s : ByteArray) (i : Nat) : Int := ((s.data.getD i 0).toNat : Int)
theorem byt_r (s : ByteArray) (i : Nat) : 0 ≤ byt s i ∧ byt s i < 256 := by
  have := (s.data.getD i 0).toNat_lt
  unfold byt; omega
def sm (s : ByteArray) : ByteArray := ofInts (b4 (crc (toInts (s.extract 0 60))))
def zer (s : ByteArray) (n : Nat) : Bool := (((D s).drop n).take (60 - n)).all (· == 0)
def kd (s : ByteArray) : Int × Int := if s.size ≠ 64 then (0, 4) else if ((sm s).toList == (s.extract 60 64).toList) = false then (0, 9) else
  if byt s 0 < 1 ∨ byt s 0 > 8 ∨ byt s 1 > 58 ∨ zer s (2 + (byt s 1).toNat) = false then (0, 6) else (byt s 0, 0)

theorem dropW_nil {p : UInt8 → Bool} : ∀ l : List UInt8, l.dropWhile p = [] ↔ l.all p = true
  | [] => by simp
  | x :: r => by
    rw [List.dropWhile_cons, List.all_cons]
    cases h : p x with
    | true => simpa using dropW_nil r
    | false => simp

theorem dropW_head {p : UInt8 → Bool} : ∀ (l : List UInt8) {y : UInt8} {r : List UInt8}, l.dropWhile p = y :: r → p y = false
  | [], y, r, h => by cases h
  | x :: l, y, r, h => by
    rw [List.dropWhile_cons] at h
    cases hx : p x with
    | true => rw [hx, if_pos rfl] at h; exact dropW_head l h
    | false => rw [hx, if_neg (by simp)] at h; injection h with h1 h2; rw [← h1]; exact hx

theorem trim_nil (l : List UInt8) : Lib.trimS l [0] = [] ↔ l.all (· == 0) = true := by
  have hp : ∀ x : UInt8, [(0 : UInt8)].contains x = (x == 0) := fun x => by rw [Bool.eq_iff_iff]; simp
  rw [Lib.trimS, Lib.trimLeftS, Lib.trimRightS, dropW_nil]
  constructor
  · intro h
    cases hq : l.reverse.dropWhile ([(0 : UInt8)].contains ·) with
    | nil =>
      have := (dropW_nil _).1 hq
      rw [List.all_reverse] at this
      simpa [hp] using this
    | cons y r =>
      have h1 := dropW_head _ hq
      rw [hq, List.all_reverse, List.all_cons, h1] at h
      cases h
  · intro h
    have : l.reverse.dropWhile ([(0 : UInt8)].contains ·) = [] := (dropW_nil _).2 (by rw [List.all_reverse]; simpa [hp] using h)
    rw [this]; rfl

theorem trm0 (x : ByteArray) : ((trm x ⟨#[0]⟩).toList == ByteArray.empty.toList) = (D x).all (· == 0) := by
  rw [beqB, Bool.eq_iff_iff, decide_eq_true_eq, ← trim_nil]
  constructor
  · intro h
    have : D (trm x ⟨#[0]⟩) = [] := by rw [h]; rfl
    simpa [D, trm] using this
  · intro h
    apply extB
    show D (trm x ⟨#[0]⟩) = []
    simpa [D, trm] using h

theorem kindP {β : Type} {s : ByteArray} {K : Int → Int → Option β} : f127_1 20000 s K = K (kd s).1 (kd s).2 := by
  rw [f127_1, f85_1, kd]
  by_cases h1 : s.size = 64
  · have b0 := byt_r s 0
    have b1 := byt_r s 1
    have e0 : ((s.data.getD 0 0).toNat : Int) = byt s 0 := rfl
    have e1 : ((s.data.getD 1 0).toNat : Int) = byt s 1 := rfl
    rw [show ((s.size : Int) == 64) = true by simp; omega, Bool.not_true, cond_false, if_neg (by omega), ct (by omega), sumP (by omega), show ((s.size : Int).toNat) = 64 by omega, e0, e1, w64 (x := byt s 0) (by omega) (by omega), w64 (x := byt s 1) (by omega) (by omega), ← sm]
    cases h2 : ((sm s).toList == (s.extract 60 64).toList) with
    | false => rfl
    | true =>
      rw [Bool.not_true, cond_false, if_neg (by simp), ct (by omega), ct (by omega)]
      by_cases h3 : byt s 0 < 1
      · rw [ct h3, if_pos (.inl h3)]
      · by_cases h4 : byt s 0 > 8
        · rw [cf h3, ct h4, if_pos (.inr (.inl h4))]
        · by_cases h5 : byt s 1 > 58
          · rw [cf h3, cf h4, ct h5, if_pos (.inr (.inr (.inl h5)))]
          · have hn : (2 + byt s 1).toNat = 2 + (byt s 1).toNat := by omega
            have hx : D (s.extract (2 + byt s 1).toNat 60) = ((D s).drop (2 + (byt s 1).toNat)).take (60 - (2 + (byt s 1).toNat)) := by rw [D_ext, hn]
            have hxs : (s.extract (2 + byt s 1).toNat 60).size ≤ 64 := by rw [D_size, hx]; simp; omega
            rw [cf h3, cf h4, cf h5, w64 (x := 2 + byt s 1) (by omega) (by omega), ct (by omega), f178_1, ct ⟨by omega, by decide, by decide⟩, trm0, hx, ← zer]
            cases h6 : zer s (2 + (byt s 1).toNat) with
            | true => rw [Bool.not_true, cond_false, if_neg (by simp; omega)]
            | false => rw [Bool.not_false, cond_true, if_pos (.inr (.inr (.inr rfl)))]
  · rw [show ((s.size : Int) == 64) = false by simp; omega, Bool.not_false, cond_true, if_pos h1]

theorem zerL {β : Type} {s : ByteArray} {K0 K1 : Option β} (hs : s.size = 64) : ∀ (m i k : Nat), i + m = 60 → m < k → f128_1_l8 20000 s K0 K1 k (i : Int) = if zer s i then K1 else K0
  | _, _, 0, _, h => by omega
  | 0, i, k + 1, hi, _ => by rw [f128_1_l8, cf (by omega), zer, show 60 - i = 0 by omega]; simp
  | m + 1, i, k + 1, hi, hk => by
    have hl : i < (D s).length := by rw [← D_size]; omega
    have hg : s.data.getD i 0 = (D s)[i] := by
      have h2 : i < s.data.size := by have := hl; simpa [D] using this
      simp only [Array.getD_eq_getD_getElem?, Array.getElem?_eq_getElem h2, Option.getD_some, D, Array.getElem_toList]
    rw [f128_1_l8, ct (by omega), ct (by omega), show ((i : Int)).toNat = i from rfl, hg, w64 (by omega) (by omega), zer, List.drop_eq_getElem_cons hl, show 60 - i = (60 - (i + 1)) + 1 by omega, List.take_succ_cons, List.all_cons, ← zer]
    have ih := zerL (K0 := K0) (K1 := K1) hs m (i + 1) k (by omega) (by omega)
    push_cast at ih
    by_cases h0 : (D s)[i] = 0
    · rw [h0, show (((0 : UInt8).toNat : Int) != 0) = false from rfl, cond_false, ih]; simp
    · have : (((D s)[i].toNat : Int) != 0) = true := by
        simp only [bne_iff_ne, ne_eq]
        intro h
        exact h0 (UInt8.toNat_inj.1 (by simpa using h))
      rw [this, cond_true, beq_eq_false_iff_ne.2 h0]; simp

theorem kindR {β : Type} {s : ByteArray} {K : Int → Int → Option β} : f128_1 20000 s K = K (kd s).1 (kd s).2 := by
  rw [f128_1, f112_1, kd]
  by_cases h1 : s.size = 64
  · have b0 := byt_r s 0
    have b1 := byt_r s 1
    have e0 : ((s.data.getD 0 0).toNat : Int) = byt s 0 := rfl
    have e1 : ((s.data.getD 1 0).toNat : Int) = byt s 1 := rfl
    have hc := crc_r (toInts (s.extract 0 60))
    have hl : (toInts (s.extract 0 60)).length ≤ 60 := by
      rw [toInts_D, D_ext]; simp; omega
    rw [show ((s.size : Int) == 64) = true by simp; omega, Bool.not_true, cond_false, if_neg (by omega), ct (by omega), ct (by omega), crcR (by omega), wu64 (by omega) (by omega), text4, show ((s.size : Int).toNat) = 64 by omega, e0, e1, w64 (x := byt s 0) (by omega) (by omega), w64 (x := byt s 1) (by omega) (by omega), ← sm]
    cases h2 : ((sm s).toList == (s.extract 60 64).toList) with
    | false => rfl
    | true =>
      rw [Bool.not_true, cond_false, if_neg (by simp), ct (by omega)]
      by_cases h3 : byt s 0 < 1
      · rw [ct h3, if_pos (.inl h3)]
      · by_cases h4 : byt s 0 > 8
        · rw [cf h3, ct (by omega), ct h4, if_pos (.inr (.inl h4))]
        · by_cases h5 : byt s 1 > 58
          · rw [cf h3, ct (by omega), cf h4, ct (by omega), ct h5, if_pos (.inr (.inr (.inl h5)))]
          · rw [cf h3, ct (by omega), cf h4, ct (by omega), cf h5, ct (by omega), w64 (x := 2 + byt s 1) (by omega) (by omega), ct (by omega), show (2 + byt s 1) = ((2 + (byt s 1).toNat : Nat) : Int) by omega, zerL h1 (60 - (2 + (byt s 1).toNat)) (2 + (byt s 1).toNat) 20000 (by omega) (by omega)]
            cases h6 : zer s (2 + (byt s 1).toNat) with
            | true => rw [if_pos rfl, if_neg (by simp; omega)]
            | false => rw [if_neg (by simp), if_pos (.inr (.inr (.inr rfl)))]
  · rw [show ((s.size : Int) == 64) = false by simp; omega, Bool.not_false, cond_true, if_pos h1]

theorem kd_size {s : ByteArray} (h : (kd s).2 = 0) : s.size = 64 ∧ byt s 1 ≤ 58 ∧ zer s (2 + (byt s 1).toNat) = true ∧ (kd s).1 = byt s 0 ∧ 1 ≤ byt s 0 ∧ byt s 0 ≤ 8 ∧ ((sm s).toList == (s.extract 60 64).toList) = true := by
  unfold kd at h ⊢
  split at h
  · cases h
  · rename_i h1
    split at h
    · cases h
    · rename_i h2
      split at h
      · cases h
      · rename_i h3
        rw [if_neg h1, if_neg h2, if_neg h3]
        refine ⟨by omega, by omega, ?_, rfl, by omega, by omega, by simpa using h2⟩
        cases hz : zer s (2 + (byt s 1).toNat) with
        | true => rfl
        | false => exact (h3 (.inr (.inr (.inr hz)))).elim

def opn (k : Int) (s : ByteArray) : ByteArray × Int := if (kd s).2 ≠ 0 then (ByteArray.empty, (kd s).2) else if (kd s).1 ≠ k then (ByteArray.empty, 22) else (s.extract 2 (2 + (byt s 1).toNat), 0)

theorem openP {β : Type} {k : Int} {s : ByteArray} {K : ByteArray → Int → Option β} : f156_1 20000 k s K = K (opn k s).1 (opn k s).2 := by
  rw [f156_1, kindP, opn]
  have e1 : ((s.data.getD 1 0).toNat : Int) = byt s 1 := rfl
  have b1 := byt_r s 1
  by_cases h1 : (kd s).2 = 0
  · obtain ⟨q1, q2, _⟩ := kd_size h1
    rw [h1, show ((0 : Int) != 0) = false from rfl, cond_false, if_neg (by simp), e1, w64 (x := byt s 1) (by omega) (by omega), w64 (x := 2 + byt s 1) (by omega) (by omega)]
    by_cases h2 : (kd s).1 = k
    · rw [h2, show (k != k) = false by simp, cond_false, if_neg (by simp), ct (by omega), ct (by omega), show (2 + byt s 1).toNat = 2 + (byt s 1).toNat by omega]
    · rw [show ((kd s).1 != k) = true by simp [h2], cond_true, if_pos h2]
  · rw [show ((kd s).2 != 0) = true by simp [h1], cond_true, if_pos h1]

theorem openR {β : Type} {k : Int} {s : ByteArray} {K : ByteArray → Int → Option β} : f168_1 20000 k s K = K (opn k s).1 (opn k s).2 := by
  rw [f168_1, kindR, opn]
  have e1 : ((s.data.getD 1 0).toNat : Int) = byt s 1 := rfl
  have b1 := byt_r s 1
  by_cases h1 : (kd s).2 = 0
  · obtain ⟨q1, q2, _⟩ := kd_size h1
    rw [h1, show ((0 : Int) != 0) = false from rfl, cond_false, if_neg (by simp), e1, w64 (x := byt s 1) (by omega) (by omega), w64 (x := 2 + byt s 1) (by omega) (by omega)]
    by_cases h2 : (kd s).1 = k
    · rw [h2, show (k != k) = false by simp, cond_false, if_neg (by simp), ct (by omega), ct (by omega), show (2 + byt s 1).toNat = 2 + (byt s 1).toNat by omega]
    · rw [show ((kd s).1 != k) = true by simp [h2], cond_true, if_pos h2]
  · rw [show ((kd s).2 != 0) = true by simp [h1], cond_true, if_pos h1]

end Go.Proofs.YtlgopekjjkdkiaaGreatDoor.X
end

section
/- Records: what is made is opened again, and the other way round. -/
namespace Go.Proofs.YtlgopekjjkdkiaaGreatDoor.X
open Go Go.Proofs.YtlgopekjjkdkiaaGreatDoor.Ev
set_option linter.unusedSectionVars false
variable [FZ]
set_option linter.unusedVariables false
set_option linter.unusedSimpArgs false

theorem b4_size (n : Int) : (ofInts (b4 n)).size = 4 := by rw [D_size, D_ofInts]; rfl

theorem mkB_size {k : Int} {b : ByteArray} (h : b.size ≤ 58) : (mkB k b).size = 64 := by
  have hf := front_size (k := k) h
  have hc := b4_size (crc (toInts (front k b)))
  rw [D_size] at hf hc
  rw [D_size, mkB, D_app, List.length_append, hf, hc]

end Go.Proofs.YtlgopekjjkdkiaaGreatDoor.X
end

section
/- Numbers read from bytes; the code's and the document's, in one form. -/
namespace Go.Proofs.YtlgopekjjkdkiaaGreatDoor.X
open Go Go.Proofs.YtlgopekjjkdkiaaGreatDoor.Ev
set_option linter.unusedSectionVars false
variable [FZ]
set_option linter.unusedVariables false
set_option linter.unusedSimpArgs false

def num (v : Int) (l : List Int) : Int := l.foldl (fun v b => v * 256 + b) v

theorem shlor {v b : Int} (hv : 0 ≤ v ∧ v < 72057594037927936) (hb : 0 ≤ b ∧ b < 256) : ior .u64 (ishl .u64 v 8) b = v * 256 + b := by
  obtain ⟨V, rfl⟩ : ∃ V : Nat, v = (V : Int) := ⟨v.toNat, by omega⟩
  obtain ⟨B, rfl⟩ : ∃ B : Nat, b = (B : Int) := ⟨b.toNat, by omega⟩
  have e : (2 : Int) ^ (min (8 : Int).toNat IntKind.u64.bits) = 256 := by decide
  have e1 : ishl .u64 (V : Int) 8 = ((V * 256 : Nat) : Int) := by
    rw [ishl, e, wu64 (by omega) (by omega)]; omega
  rw [e1, or64 (by omega) (by omega)]
  have := Nat.two_pow_add_eq_or_of_lt (i := 8) (b := B) (by omega) V
  have h2 : 2 ^ 8 * V = V * 256 := by omega
  rw [h2] at this
  rw [← this]; omega

theorem getPl {β : Type} {F at_ w : Nat} {l : List Int} {K : Int → Option β} (hw : w ≤ 8) (hl : at_ + w ≤ l.length) (hb : ∀ x ∈ l, 0 ≤ x ∧ x < 256) : ∀ (m i k : Nat) (v : Int), m + i = w → m < k → 0 ≤ v ∧ v < 256 ^ i →
    f211_1_l7 F at_ w (w : Int) l K k v (i : Int) = K (num v ((l.drop (at_ + i)).take m))
  | _, _, 0, _, _, h, _ => by omega
  | 0, i, k + 1, v, hi, _, _ => by rw [f211_1_l7, cf (by omega)]; rfl
  | m + 1, i, k + 1, v, hi, hk, hv => by
    have h1 : at_ + i < l.length := by omega
    have hx := hb _ (List.getElem_mem h1)
    have hg : l.getD (at_ + (i : Int).toNat) 0 = l[at_ + i] := by simp [h1]
    have hp : (256 : Int) ^ i ≤ 256 ^ 7 := by
      have : (256 : Nat) ^ i ≤ 256 ^ 7 := Nat.pow_le_pow_right (by decide) (by omega)
      have h := Int.ofNat_le.2 this
      rw [Int.natCast_pow, Int.natCast_pow] at h
      exact h
    have hv2 : v * 256 + l[at_ + i] < 256 ^ (i + 1) := by rw [Int.pow_succ]; omega
    rw [f211_1_l7, ct (by omega), ct (by omega), ct (by omega), hg, wu64 (by omega) (by omega), shlor ⟨hv.1, by omega⟩ hx, w64 (by omega) (by omega), List.drop_eq_getElem_cons h1, List.take_succ_cons, num, List.foldl_cons, ← num]
    exact getPl hw hl hb m (i + 1) k _ (by omega) (by omega) ⟨by omega, hv2⟩

theorem getRl {β : Type} {F at_ w : Nat} {l : List Int} {K : Int → Option β} (hw : w ≤ 8) (hl : at_ + w ≤ l.length) (hll : l.length ≤ 100000) (hb : ∀ x ∈ l, 0 ≤ x ∧ x < 256) : ∀ (m i k : Nat) (v : Int), m + i = w → m < k → 0 ≤ v ∧ v < 256 ^ i →
    f142_1_l7 F (at_ : Int) (w : Int) l K k v (i : Int) = K (num v ((l.drop (at_ + i)).take m))
  | _, _, 0, _, _, h, _ => by omega
  | 0, i, k + 1, v, hi, _, _ => by rw [f142_1_l7, cf (by omega)]; rfl
  | m + 1, i, k + 1, v, hi, hk, hv => by
    have h1 : at_ + i < l.length := by omega
    have hx := hb _ (List.getElem_mem h1)
    have hg : l.getD (0 + ((at_ : Int) + (i : Int)).toNat) 0 = l[at_ + i] := by
      rw [show 0 + ((at_ : Int) + (i : Int)).toNat = at_ + i by omega]; simp [h1]
    have hp : (256 : Int) ^ i ≤ 256 ^ 7 := by
      have : (256 : Nat) ^ i ≤ 256 ^ 7 := Nat.pow_le_pow_right (by decide) (by omega)
      have h := Int.ofNat_le.2 this
      rw [Int.natCast_pow, Int.natCast_pow] at h
      exact h
    have hv2 : v * 256 + l[at_ + i] < 256 ^ (i + 1) := by rw [Int.pow_succ]; omega
    rw [f142_1_l7, ct (by omega), w64 (x := (at_ : Int) + (i : Int)) (by omega) (by omega), ct (by omega), ct (by omega), hg, wu64 (x := l[at_ + i]) (by omega) (by omega), wu64 (x := v * 256) (by omega) (by omega), wu64 (by omega) (by omega), w64 (by omega) (by omega), List.drop_eq_getElem_cons h1, List.take_succ_cons, num, List.foldl_cons, ← num]
    exact getRl hw hl hll hb m (i + 1) k _ (by omega) (by omega) ⟨by omega, hv2⟩

/-- A number of w bytes from a place on, or that there are not so many. -/
def gt (at_ w : Nat) (l : List Int) : Int × Int := if at_ + w ≤ l.length then (num 0 ((l.drop at_).take w), 0) else (0, 7)

theorem getP {β : Type} {at_ w : Nat} {l : List Int} {K : Int → Int → Option β} (h1 : 1 ≤ w) (hw : w ≤ 8) (hat : at_ ≤ 100000) (hll : l.length ≤ 100000) (hb : ∀ x ∈ l, 0 ≤ x ∧ x < 256) : f211_1 20000 (at_ : Int) (w : Int) l K = K (gt at_ w l).1 (gt at_ w l).2 := by
  rw [f211_1, f190_1, ct (by omega), decide_eq_true (show (w : Int) ≤ 8 by omega), Bool.not_true, cond_false, cf (by omega), gt]
  by_cases h2 : (at_ : Int) > ((l.length : Nat) : Int)
  · rw [ct h2, if_neg (by omega)]
  · rw [cf h2, w64 (by omega) (by omega)]
    by_cases h3 : ((l.length : Nat) : Int) - (at_ : Int) < (w : Int)
    · rw [ct h3, if_neg (by omega)]
    · rw [cf h3, w64 (by omega) (by omega), ct (by omega), if_pos (by omega), show ((at_ : Int) + (w : Int) - (at_ : Int)).toNat = w by omega, show 0 + ((at_ : Int)).toNat = at_ by omega]
      exact getPl (K := fun x8 => K x8 0) hw (by omega) hb w 0 20000 0 (by omega) (by omega) (by simp)

theorem getR {β : Type} {at_ w : Nat} {l : List Int} {K : Int → Int → Option β} (h1 : 1 ≤ w) (hw : w ≤ 8) (hat : at_ ≤ 100000) (hll : l.length ≤ 100000) (hb : ∀ x ∈ l, 0 ≤ x ∧ x < 256) : f142_1 20000 (at_ : Int) (w : Int) l K = K (gt at_ w l).1 (gt at_ w l).2 := by
  rw [f142_1, cf (by omega), cf (by omega), cf (by omega), gt]
  by_cases h2 : (at_ : Int) > ((l.length : Nat) : Int)
  · rw [ct h2, if_neg (by omega)]
  · rw [cf h2, w64 (by omega) (by omega)]
    by_cases h3 : ((l.length : Nat) : Int) - (at_ : Int) < (w : Int)
    · rw [ct h3, if_neg (by omega)]
    · rw [cf h3, if_pos (by omega)]
      exact getRl (K := fun x6 => K x6 0) hw (by omega) hll hb w 0 20000 0 (by omega) (by omega) (by simp)

end Go.Proofs.YtlgopekjjkdkiaaGreatDoor.X
end

section
/- Numbers of eight bytes; reading them. -/
namespace Go.Proofs.YtlgopekjjkdkiaaGreatDoor.X
open Go Go.Proofs.YtlgopekjjkdkiaaGreatDoor.Ev
set_option linter.unusedSectionVars false
variable [FZ]
set_option linter.unusedVariables false
set_option linter.unusedSimpArgs false

theorem bnf {a b : Int} (h : a = b) : (a != b) = false := by simp [h]
theorem bnt {a b : Int} (h : a ≠ b) : (a != b) = true := by simp [h]

/-! ### Numbers of eight bytes -/

def b8 (n : Int) : List Int := [IntKind.u8.wrap (ishr .u64 n 56), IntKind.u8.wrap (ishr .u64 n 48), IntKind.u8.wrap (ishr .u64 n 40), IntKind.u8.wrap (ishr .u64 n 32), IntKind.u8.wrap (ishr .u64 n 24), IntKind.u8.wrap (ishr .u64 n 16), IntKind.u8.wrap (ishr .u64 n 8), IntKind.u8.wrap (ishr .u64 n 0)]
theorem put8 {β : Type} {n : Int} {K : List Int → Option β} : f147_1 20000 8 n [] K = K (b8 n) := by kernel_rfl
theorem text8 {β : Type} {n : Int} {K : ByteArray → Option β} : f101_1 20000 8 n K = K (ofInts (b8 n)) := by kernel_rfl

theorem shrN {n : Int} (h : 0 ≤ n) : ishr .u64 n 56 = n / 72057594037927936 ∧ ishr .u64 n 48 = n / 281474976710656 ∧ ishr .u64 n 40 = n / 1099511627776 ∧ ishr .u64 n 32 = n / 4294967296 ∧ ishr .u64 n 24 = n / 16777216 ∧ ishr .u64 n 16 = n / 65536 ∧ ishr .u64 n 8 = n / 256 ∧ ishr .u64 n 0 = n := by
  have e : ∀ (s : Int) (d : Int), (2 : Int) ^ (min s.toNat IntKind.u64.bits) = d → 0 < d → ishr .u64 n s = n / d := fun s d h1 h2 => by
    rw [ishr, h1, Int.fdiv_eq_ediv_of_nonneg _ (by omega)]
  refine ⟨e 56 _ (by decide) (by decide), e 48 _ (by decide) (by decide), e 40 _ (by decide) (by decide), e 32 _ (by decide) (by decide), e 24 _ (by decide) (by decide), e 16 _ (by decide) (by decide), e 8 _ (by decide) (by decide), ?_⟩
  rw [e 0 1 (by decide) (by decide)]; omega

theorem toInts_ofInts {l : List Int} (h : ∀ x ∈ l, 0 ≤ x ∧ x < 256) : toInts (ofInts l) = l := by
  rw [toInts_D, D_ofInts, List.map_map]
  conv => rhs; rw [← List.map_id l]
  apply List.map_congr_left
  intro x hx
  have := h x hx
  simp only [Function.comp, id, UInt8.toNat_ofNat']
  omega

theorem toInts_r (s : ByteArray) : ∀ x ∈ toInts s, 0 ≤ x ∧ x < 256 := by
  intro x hx
  rw [toInts_D] at hx
  obtain ⟨c, _, rfl⟩ := List.mem_map.1 hx
  have := c.toNat_lt
  omega

theorem app_size (s t : ByteArray) : (s ++ t).size = s.size + t.size := by rw [D_size, D_app, List.length_append, ← D_size, ← D_size]
theorem toInts_size (s : ByteArray) : (toInts s).length = s.size := by rw [toInts_D, List.length_map, ← D_size]

/-- The next number of a reader: what it is, why there is none, what is left. -/
def nm (w : Nat) (e : Int) (l : List Int) : Int × Int × List Int := if e ≠ 0 then (0, e, l) else if w ≤ l.length then (num 0 (l.take w), 0, l.drop w) else (0, 7, l)

theorem numC {β : Type} {w : Nat} {e : Int} {l : List Int} {K : Int → Int → List Int → Option β} (h1 : 1 ≤ w) (hw : w ≤ 8) (hll : l.length ≤ 100000) (hb : ∀ x ∈ l, 0 ≤ x ∧ x < 256) :
    f181_1 20000 (w : Int) e l K = K (nm w e l).1 (nm w e l).2.1 (nm w e l).2.2 := by
  have hg := fun K => getP (β := β) (at_ := 0) (w := w) (l := l) (K := K) h1 hw (by omega) hll hb
  rw [f181_1, nm]
  by_cases he : e = 0
  · subst he
    rw [show ((0 : Int) != 0) = false from rfl, cond_false, if_neg (by simp)]
    refine (hg _).trans ?_
    rw [gt]
    by_cases h2 : w ≤ l.length
    · rw [if_pos (by omega), if_pos h2, List.drop_zero]
      show cond ((0 : Int) != 0) _ _ = _
      rw [bnf rfl, cond_false, ct ⟨by omega, by omega, by omega⟩, show 0 + (w : Int).toNat = w by omega, List.take_of_length_le (l := l.drop w) (by simp)]
    · rw [if_neg (by omega), if_neg h2]
      rfl
  · rw [bnt he, cond_true, if_pos he]

theorem opn_size (k : Int) (s : ByteArray) : (opn k s).1.size ≤ 58 := by
  unfold opn
  split
  · show ByteArray.empty.size ≤ 58; decide
  · rename_i h1
    split
    · show ByteArray.empty.size ≤ 58; decide
    · obtain ⟨q1, q2, _⟩ := kd_size (Classical.not_not.1 h1)
      have := byt_r s 1
      show (s.extract 2 (2 + (byt s 1).toNat)).size ≤ 58
      rw [D_size, D_ext]; simp; omega

theorem big60 : 60 ≤ maxLen := by decide

theorem cond_ff' {α : Sort _} {a b : α} : cond (!true) a b = b := rfl
end Go.Proofs.YtlgopekjjkdkiaaGreatDoor.X
end

section
/- Numbers as bytes and back: what bytes tell of them. -/
namespace Go.Proofs.YtlgopekjjkdkiaaGreatDoor.X
open Go Go.Proofs.YtlgopekjjkdkiaaGreatDoor.Ev
set_option linter.unusedSectionVars false
variable [FZ]
set_option linter.unusedVariables false
set_option linter.unusedSimpArgs false

abbrev U64 (n : Int) : Prop := 0 ≤ n ∧ n < 18446744073709551616
abbrev U32 (n : Int) : Prop := 0 ≤ n ∧ n < 4294967296
abbrev byts (l : List Int) : Prop := ∀ x ∈ l, 0 ≤ x ∧ x < 256

theorem oiA (l r : List Int) : ofInts (l ++ r) = ofInts l ++ ofInts r := by
  apply extB
  rw [D_app, D_ofInts, D_ofInts, D_ofInts, List.map_append]
theorem oi_size (l : List Int) : (ofInts l).size = l.length := by rw [D_size, D_ofInts, List.length_map]
theorem drop_r {l : List Int} (k : Nat) (h : byts l) : byts (l.drop k) := fun x hx => h x (List.mem_of_mem_drop hx)
theorem take_r {l : List Int} (k : Nat) (h : byts l) : byts (l.take k) := fun x hx => h x (List.mem_of_mem_take hx)
theorem b4_r (n : Int) : byts (b4 n) := by
  intro x hx
  simp only [b4, List.mem_cons, List.not_mem_nil, or_false] at hx
  rcases hx with rfl | rfl | rfl | rfl <;> (rw [wu8m]; omega)
theorem num_b4 {n : Int} (h : U32 n) : num 0 (b4 n) = n := by
  obtain ⟨_, _, _, _, e5, e6, e7, e8⟩ := shrN h.1
  simp only [num, b4, List.foldl_cons, List.foldl_nil, wu8m, e5, e6, e7, e8]; omega
theorem toInts_ext (s : ByteArray) (i j : Nat) : toInts (s.extract i j) = ((toInts s).drop i).take (j - i) := by
  rw [toInts_D, D_ext, toInts_D, List.map_take, List.map_drop]

theorem ofInts_toInts (s : ByteArray) : ofInts (toInts s) = s := by
  apply extB
  rw [D_ofInts, toInts_D, List.map_map]
  conv => rhs; rw [← List.map_id (D s)]
  apply List.map_congr_left
  intro c _
  simp [Function.comp]

theorem num4_inv {l : List Int} (h : l.length = 4) (hb : byts l) : b4 (num 0 l) = l ∧ U32 (num 0 l) := by
  match l, h with
  | [w, x, y, z], _ =>
    have hw := hb w (by simp)
    have hx := hb x (by simp)
    have hy := hb y (by simp)
    have hz := hb z (by simp)
    have e : num 0 [w, x, y, z] = ((w * 256 + x) * 256 + y) * 256 + z := by simp [num]
    rw [e]
    have hr : U32 (((w * 256 + x) * 256 + y) * 256 + z) := by omega
    obtain ⟨_, _, _, _, e5, e6, e7, e8⟩ := shrN hr.1
    refine ⟨?_, hr⟩
    simp only [b4, e5, e6, e7, e8, wu8m]
    congr 1
    · omega
    · congr 1
      · omega
      · congr 1
        · omega
        · congr 1; omega

theorem num8_inv {l : List Int} (h : l.length = 8) (hb : byts l) : b8 (num 0 l) = l ∧ U64 (num 0 l) := by
  match l, h with
  | [a, b, c, d, w, x, y, z], _ =>
    have ha := hb a (by simp)
    have hb' := hb b (by simp)
    have hc := hb c (by simp)
    have hd := hb d (by simp)
    have hw := hb w (by simp)
    have hx := hb x (by simp)
    have hy := hb y (by simp)
    have hz := hb z (by simp)
    obtain ⟨n, hn⟩ : ∃ n, n = num 0 [a, b, c, d, w, x, y, z] := ⟨_, rfl⟩
    have e : n = a * 72057594037927936 + b * 281474976710656 + c * 1099511627776 + d * 4294967296 + w * 16777216 + x * 65536 + y * 256 + z := by
      rw [hn]; simp only [num, List.foldl_cons, List.foldl_nil]; omega
    rw [← hn]
    clear hn
    have hr : U64 n := by omega
    obtain ⟨e1, e2, e3, e4, e5, e6, e7, e8⟩ := shrN hr.1
    have f1 : n / 72057594037927936 % 256 = a := by omega
    have f2 : n / 281474976710656 % 256 = b := by omega
    have f3 : n / 1099511627776 % 256 = c := by omega
    have f4 : n / 4294967296 % 256 = d := by omega
    have f5 : n / 16777216 % 256 = w := by omega
    have f6 : n / 65536 % 256 = x := by omega
    have f7 : n / 256 % 256 = y := by omega
    have f8 : n % 256 = z := by omega
    refine ⟨?_, hr⟩
    simp only [b8, e1, e2, e3, e4, e5, e6, e7, e8, wu8m, f1, f2, f3, f4, f5, f6, f7, f8]

/-- Four bytes are a number's, or eight. -/
theorem is4 {s : ByteArray} {k : Int} (hs : s.size = 4) (hk : U32 k) : s = ofInts (b4 k) ↔ num 0 (toInts s) = k := by
  constructor
  · rintro rfl
    rw [toInts_ofInts (b4_r k), num_b4 hk]
  · intro h
    have := (num4_inv (l := toInts s) (by rw [toInts_size]; exact hs) (toInts_r s)).1
    rw [h] at this
    rw [this, ofInts_toInts]
end Go.Proofs.YtlgopekjjkdkiaaGreatDoor.X
end

section
/- Trees' shapes: levels and numbers of nodes; any seat. -/
namespace Go.Proofs.YtlgopekjjkdkiaaGreatDoor.X
open Go Go.Proofs.YtlgopekjjkdkiaaGreatDoor.Ev
set_option linter.unusedSectionVars false
variable [FZ]
set_option linter.unusedVariables false
set_option linter.unusedSimpArgs false

def lv : Nat → Int → Int → List Int
  | 0, _, _ => []
  | k + 1, n, f => if n > 1 then ((n + f - 1) / f) :: lv k ((n + f - 1) / f) f else []

theorem step_eq {n f : Int} (hf : 2 ≤ f ∧ f ≤ 4) (h1 : 1 < n) (h2 : n ≤ 128) :
    IntKind.i64.wrap ((IntKind.i64.wrap ((IntKind.i64.wrap (n + f)) - 1)).tdiv f) = (n + f - 1) / f ∧ 1 ≤ (n + f - 1) / f ∧ (n + f - 1) / f < n := by
  rw [w64 (x := n + f) (by omega) (by omega), w64 (x := n + f - 1) (by omega) (by omega), Int.tdiv_eq_ediv_of_nonneg (by omega)]
  have : f = 2 ∨ f = 3 ∨ f = 4 := by omega
  rcases this with rfl | rfl | rfl
  · rw [w64 (by omega) (by omega)]; omega
  · rw [w64 (by omega) (by omega)]; omega
  · rw [w64 (by omega) (by omega)]; omega

theorem lev48 {β : Type} {F : Nat} {x f c u : Int} (hf : 2 ≤ f ∧ f ≤ 4) {K : List Int → Option β} : ∀ (k : Nat) (n : Int) (acc : List Int), 1 ≤ n → n ≤ 128 → n < k → (acc.length : Int) + n ≤ 2000 →
    f164_1_l5 F x f c u K k n acc = K (acc ++ lv k n f)
  | 0, n, acc, h1, h2, h3, h4 => by omega
  | k + 1, n, acc, h1, h2, h3, h4 => by
    simp only [f164_1_l5, lv]
    by_cases hn : n > 1
    · obtain ⟨e, g1, g2⟩ := step_eq hf hn h2
      rw [e]
      have h0 : ¬ f = 0 := by omega
      have hl : (acc.length + 1) * 8 ≤ 70368744177664 := by omega
      simp only [hn, h0, hl, decide_true, decide_false, cond_true, cond_false, if_true]
      rw [lev48 hf k _ _ g1 (by omega) (by omega) (by simp; omega)]
      simp
    · simp [hn]

theorem lev49 {β : Type} {F : Nat} {x f c u : Int} (hf : 2 ≤ f ∧ f ≤ 4) {K : List Int → Option β} : ∀ (k : Nat) (n : Int) (acc : List Int), 1 ≤ n → n ≤ 128 → n < k → (acc.length : Int) + n ≤ 2000 →
    f98_1_l5 F x f c u K k n acc = K (acc ++ lv k n f)
  | 0, n, acc, h1, h2, h3, h4 => by omega
  | k + 1, n, acc, h1, h2, h3, h4 => by
    simp only [f98_1_l5, lv]
    by_cases hn : n > 1
    · obtain ⟨e, g1, g2⟩ := step_eq hf hn h2
      rw [e]
      have h0 : ¬ f = 0 := by omega
      have hl : (acc.length + 1) * 8 ≤ 70368744177664 := by omega
      simp only [hn, h0, hl, decide_true, decide_false, cond_true, cond_false, if_true]
      rw [lev49 hf k _ _ g1 (by omega) (by omega) (by simp; omega)]
      simp
    · simp [hn]

theorem lv_ok {f : Int} (hf : 2 ≤ f ∧ f ≤ 4) : ∀ (k : Nat) (n : Int), 1 ≤ n → n ≤ 128 → ((lv k n f).length : Int) < n ∧ ∀ y ∈ lv k n f, 1 ≤ y ∧ y ≤ 128
  | 0, n, h1, h2 => by simp [lv]; omega
  | k + 1, n, h1, h2 => by
    simp only [lv]
    by_cases hn : n > 1
    · obtain ⟨e, g1, g2⟩ := step_eq hf hn h2
      obtain ⟨q1, q2⟩ := lv_ok hf k _ g1 (by omega)
      rw [if_pos hn]
      refine ⟨by simp; omega, fun y hy => ?_⟩
      rcases List.mem_cons.1 hy with rfl | hy
      · omega
      · exact q2 y hy
    · rw [if_neg hn]; simp; omega

/-- The geometry can be. -/
def rt (n f c u : Int) : Prop := (1 ≤ n ∧ n ≤ 128) ∧ (2 ≤ f ∧ f ≤ 4) ∧ (0 ≤ c ∧ c ≤ 64) ∧ (1 ≤ u ∧ u ≤ 320)
instance (n f c u : Int) : Decidable (rt n f c u) := by unfold rt; infer_instance

theorem cnd {β : Type} {p q : Prop} [Decidable p] [Decidable q] {K : Bool → Option β} : cond (decide p) (K (decide q)) (K false) = K (decide (p ∧ q)) := by
  by_cases h : p <;> simp [h]

theorem within87 {β : Type} {F : Nat} {a b c : Int} {K : Bool → Option β} : f144_1 F a b c K = K (decide (a ≥ b ∧ a ≤ c)) := by
  simp only [f144_1, cnd]

theorem right46 {β : Type} {F : Nat} {n f c u : Int} {K : Bool → Option β} : f90_1 F n f c u K = K (decide (rt n f c u)) := by
  simp only [f90_1, within87, cnd]
  congr 1

theorem right47 {β : Type} {F : Nat} {n f c u : Int} {K : Bool → Option β} : f21_1 F n f c u K = K (decide (rt n f c u)) := by
  simp only [f21_1, cnd]
  congr 1
  exact decide_eq_decide.2 (by unfold rt; omega)

def levels (n f c u : Int) : List Int := if rt n f c u then n :: lv 20000 n f else []

theorem levels48 {β : Type} {n f c u : Int} {K : List Int → Option β} : f164_1 20000 n f c u K = K (levels n f c u) := by
  simp only [f164_1, right46, levels]
  by_cases h : rt n f c u
  · simp only [h, decide_true, Bool.not_true, cond_false, if_true]
    rw [lev48 h.2.1 20000 n [n] h.1.1 h.1.2 (by have := h.1.2; omega) (by have := h.1.2; simp; omega)]
    rfl
  · simp [h]

theorem levels49 {β : Type} {n f c u : Int} {K : List Int → Option β} : f98_1 20000 n f c u K = K (levels n f c u) := by
  simp only [f98_1, right47, levels]
  by_cases h : rt n f c u
  · simp only [h, decide_true, Bool.not_true, cond_false, if_true]
    rw [lev49 h.2.1 20000 n [n] h.1.1 h.1.2 (by have := h.1.2; omega) (by have := h.1.2; simp; omega)]
    rfl
  · simp [h]

theorem levels_ok (n f c u : Int) : (levels n f c u).length ≤ 128 ∧ ∀ y ∈ levels n f c u, 1 ≤ y ∧ y ≤ 128 := by
  unfold levels
  split
  · rename_i h
    obtain ⟨q1, q2⟩ := lv_ok h.2.1 20000 n h.1.1 h.1.2
    have := h.1
    refine ⟨by simp; omega, fun y hy => ?_⟩
    rcases List.mem_cons.1 hy with rfl | hy
    · omega
    · exact q2 y hy
  · simp

def sumI : List Int → Int
  | [] => 0
  | x :: r => x + sumI r

theorem sumI_ok : ∀ (l : List Int), (∀ y ∈ l, 1 ≤ y ∧ y ≤ 128) → (l.length : Int) ≤ sumI l ∧ sumI l ≤ 128 * l.length
  | [], _ => by simp [sumI]
  | x :: r, h => by
    obtain ⟨q1, q2⟩ := sumI_ok r fun y hy => h y (by simp [hy])
    have := h x (by simp)
    simp only [sumI, List.length_cons]
    omega

theorem sum50 {β : Type} {F : Nat} {K : Int → Option β} (l : List Int) (hl : l.length ≤ 128) (hy : ∀ y ∈ l, 1 ≤ y ∧ y ≤ 128) : ∀ (r : List Int) (i : Nat) (k : Nat) (s : Int), l.drop i = r → i ≤ l.length → r.length < k → 0 ≤ s → s ≤ 128 * i →
    f111_1_l3 F ((l.length : Nat) : Int) l K k s (i : Int) = K (s + sumI r)
  | [], i, k, s, hd, hi, hk, h0, h1 => by
    cases k with
    | zero => omega
    | succ k =>
      have : i = l.length := by
        have := congrArg List.length hd
        simp at this; omega
      subst this
      simp [f111_1_l3, sumI]
  | x :: r, i, k, s, hd, hi, hk, h0, h1 => by
    cases k with
    | zero => omega
    | succ k =>
      have hlen : l.length - i = r.length + 1 := by
        have := congrArg List.length hd
        simpa using this
      have hlt : i < l.length := by omega
      have hx : l[i]? = some x := by
        have := congrArg (·[0]?) hd
        simpa using this
      have hm := hy x (List.mem_of_getElem? hx)
      have hdr : l.drop (i + 1) = r := by
        rw [← List.drop_drop, hd]; rfl
      simp only [f111_1_l3]
      have e1 : decide ((i : Int) < ((l.length : Nat) : Int)) = true := by simp; omega
      have e2 : decide ((0 : Int) ≤ (i : Int) ∧ (i : Int) < ((l.length : Nat) : Int)) = true := by simp; omega
      have e3 : decide (0 + (i : Int).toNat < l.length) = true := by simp; omega
      have e4 : l.getD (0 + (i : Int).toNat) 0 = x := by
        rw [List.getD_eq_getElem?_getD]; simp [hx]
      rw [e1, e2, e3, e4, cond_true, cond_true, cond_true, w64 (by omega) (by omega), w64 (by omega) (by omega)]
      have := sum50 (F := F) (K := K) l hl hy r (i + 1) k (s + x) hdr (by omega) (by simpa using hk) (by omega) (by omega)
      rw [show ((i : Int) + 1) = ((i + 1 : Nat) : Int) by omega, this]
      congr 1
      simp only [sumI]; omega

theorem sum51 {β : Type} {F : Nat} {K : Int → Option β} (l : List Int) (hl : l.length ≤ 128) (hy : ∀ y ∈ l, 1 ≤ y ∧ y ≤ 128) : ∀ (r : List Int) (i : Nat) (k : Nat) (s : Int), l.drop i = r → i ≤ l.length → r.length < k → 0 ≤ s → s ≤ 128 * i →
    f36_1_l4 F l K k s (i : Int) = K (s + sumI r)
  | [], i, k, s, hd, hi, hk, h0, h1 => by
    cases k with
    | zero => omega
    | succ k =>
      have : i = l.length := by
        have := congrArg List.length hd
        simp at this; omega
      subst this
      simp [f36_1_l4, sumI]
  | x :: r, i, k, s, hd, hi, hk, h0, h1 => by
    cases k with
    | zero => omega
    | succ k =>
      have hlen : l.length - i = r.length + 1 := by
        have := congrArg List.length hd
        simpa using this
      have hlt : i < l.length := by omega
      have hx : l[i]? = some x := by
        have := congrArg (·[0]?) hd
        simpa using this
      have hm := hy x (List.mem_of_getElem? hx)
      have hdr : l.drop (i + 1) = r := by
        rw [← List.drop_drop, hd]; rfl
      simp only [f36_1_l4]
      have e1 : decide ((i : Int) < ((l.length : Nat) : Int)) = true := by simp; omega
      have e2 : decide ((0 : Int) ≤ (i : Int) ∧ (i : Int) < ((l.length : Nat) : Int)) = true := by simp; omega
      have e3 : decide (0 + (i : Int).toNat < l.length) = true := by simp; omega
      have e4 : l.getD (0 + (i : Int).toNat) 0 = x := by
        rw [List.getD_eq_getElem?_getD]; simp [hx]
      rw [e1, e2, e3, e4, cond_true, cond_true, cond_true, w64 (by omega) (by omega), w64 (by omega) (by omega)]
      have := sum51 (F := F) (K := K) l hl hy r (i + 1) k (s + x) hdr (by omega) (by simpa using hk) (by omega) (by omega)
      rw [show ((i : Int) + 1) = ((i + 1 : Nat) : Int) by omega, this]
      congr 1
      simp only [sumI]; omega

def nodes (n f c u : Int) : Int := sumI (levels n f c u)

theorem nodes_ok (n f c u : Int) : 0 ≤ nodes n f c u ∧ nodes n f c u ≤ 16384 ∧ (rt n f c u → 1 ≤ nodes n f c u) ∧ (¬ rt n f c u → nodes n f c u = 0) := by
  obtain ⟨h1, h2⟩ := levels_ok n f c u
  obtain ⟨h3, h4⟩ := sumI_ok _ h2
  unfold nodes
  refine ⟨by omega, by omega, fun h => ?_, fun h => by simp [levels, h, sumI]⟩
  have : 1 ≤ (levels n f c u).length := by simp [levels, h]
  omega

theorem nodes50 {β : Type} {n f c u : Int} {K : Int → Option β} : f111_1 20000 n f c u K = K (nodes n f c u) := by
  obtain ⟨h1, h2⟩ := levels_ok n f c u
  simp only [f111_1, levels48]
  have := sum50 (F := 20000) (K := K) (levels n f c u) h1 h2 _ 0 20000 0 rfl (by omega) (by simp; omega) (by omega) (by omega)
  simp only [List.drop_zero, Int.zero_add] at this
  exact this

theorem nodes51 {β : Type} {n f c u : Int} {K : Int → Option β} : f36_1 20000 n f c u K = K (nodes n f c u) := by
  obtain ⟨h1, h2⟩ := levels_ok n f c u
  simp only [f36_1, levels49]
  have := sum51 (F := 20000) (K := K) (levels n f c u) h1 h2 _ 0 20000 0 rfl (by omega) (by simp; omega) (by omega) (by omega)
  simp only [List.drop_zero, Int.zero_add] at this
  exact this


end Go.Proofs.YtlgopekjjkdkiaaGreatDoor.X
end

section
namespace Go.Proofs.YtlgopekjjkdkiaaGreatDoor.X
open Go Go.Proofs.YtlgopekjjkdkiaaGreatDoor.Ev Go.Proofs
set_option linter.unusedVariables false
set_option linter.unusedSectionVars false
/-! geom.Data -/
variable [FZ]
end Go.Proofs.YtlgopekjjkdkiaaGreatDoor.X
end

section
/- Places on disks. -/
namespace Go.Proofs.YtlgopekjjkdkiaaGreatDoor.X
open Go Go.Proofs.YtlgopekjjkdkiaaGreatDoor.Ev
set_option linter.unusedSectionVars false
variable [FZ]
set_option linter.unusedVariables false
set_option linter.unusedSimpArgs false

/-- The place of a data sector; of a sector of an area of m. -/
def dat (n f c u i : Int) : Int := if rt n f c u ∧ 0 ≤ i ∧ i < n then 6 + i else -1
def are (n f c u m k : Int) : Int := if rt n f c u ∧ 0 ≤ k ∧ k < m then 6 + n + nodes n f c u + k else -1

theorem areaP {β : Type} {n f c u s k : Int} (hs : s = 0 ∨ s = 1) {K : Int → Option β} : f131_1 20000 n f c u s k K = K (are n f c u (if s = 0 then 2 * c else 2 * u) k) := by
  have hno := nodes_ok n f c u
  have key : ∀ m : Int, 0 ≤ m → m ≤ 640 → cond (!(decide (rt n f c u))) (K (-1)) (f144_1 20000 k 0 (IntKind.i64.wrap (m - 1)) (fun x3 => cond (!x3) (K (-1)) (f111_1 20000 n f c u (fun x4 => K (IntKind.i64.wrap ((IntKind.i64.wrap ((IntKind.i64.wrap (6 + n)) + x4)) + k)))))) = K (are n f c u m k) := by
    intro m h0 h1
    rw [are]
    by_cases h : rt n f c u
    · have hn := h.1
      rw [decide_eq_true h, Bool.not_true, cond_false, within87, w64 (x := m - 1) (by omega) (by omega)]
      by_cases h2 : 0 ≤ k ∧ k < m
      · rw [decide_eq_true (show k ≥ 0 ∧ k ≤ m - 1 by omega), Bool.not_true, cond_false, if_pos ⟨h, h2⟩, nodes50, w64 (x := 6 + n) (by omega) (by omega), w64 (x := 6 + n + nodes n f c u) (by omega) (by omega), w64 (by omega) (by omega)]
      · rw [decide_eq_false (show ¬ (k ≥ 0 ∧ k ≤ m - 1) by omega), Bool.not_false, cond_true, if_neg (fun hh => h2 hh.2)]
    · rw [decide_eq_false h, Bool.not_false, cond_true, if_neg (fun hh => h hh.1)]
  have no : ∀ m m' : Int, ¬ rt n f c u → are n f c u m k = are n f c u m' k := fun m m' h => by rw [are, are, if_neg (fun hh => h hh.1), if_neg (fun hh => h hh.1)]
  rw [f131_1, f179_1]
  rcases hs with rfl | rfl
  · rw [show ((0 : Int) == 0) = true from rfl, cond_true, right46, if_pos rfl]
    by_cases h : rt n f c u
    · rw [w64 (x := 2 * c) (by have := h.2.2.1; omega) (by have := h.2.2.1; omega)]
      exact key _ (by have := h.2.2.1; omega) (by have := h.2.2.1; omega)
    · rw [no _ 0 h, ← key 0 (by omega) (by omega), decide_eq_false h]; rfl
  · rw [show ((1 : Int) == 0) = false from rfl, cond_false, show ((1 : Int) == 1) = true from rfl, cond_true, right46, if_neg (by omega)]
    by_cases h : rt n f c u
    · rw [w64 (x := 2 * u) (by have := h.2.2.2; omega) (by have := h.2.2.2; omega)]
      exact key _ (by have := h.2.2.2; omega) (by have := h.2.2.2; omega)
    · rw [no _ 0 h, ← key 0 (by omega) (by omega), decide_eq_false h]; rfl

end Go.Proofs.YtlgopekjjkdkiaaGreatDoor.X
end

section
namespace Go.Proofs.YtlgopekjjkdkiaaGreatDoor.X
open Go Go.Proofs.YtlgopekjjkdkiaaGreatDoor.Ev Go.Proofs
set_option linter.unusedVariables false
set_option linter.unusedSectionVars false
/-! cow.write -/
variable [FZ]
end Go.Proofs.YtlgopekjjkdkiaaGreatDoor.X
end

section
namespace Go.Proofs.YtlgopekjjkdkiaaGreatDoor.X
open Go Go.Proofs.YtlgopekjjkdkiaaGreatDoor.Ev Go.Proofs
set_option linter.unusedVariables false
set_option linter.unusedSectionVars false
/-! cow.of -/
variable [FZ]
end Go.Proofs.YtlgopekjjkdkiaaGreatDoor.X
end

section
namespace Go.Proofs.YtlgopekjjkdkiaaGreatDoor.X
open Go Go.Proofs.YtlgopekjjkdkiaaGreatDoor.Ev Go.Proofs
set_option linter.unusedVariables false
set_option linter.unusedSectionVars false
/-! cow.head).body -/
variable [FZ]
end Go.Proofs.YtlgopekjjkdkiaaGreatDoor.X
end

section
namespace Go.Proofs.YtlgopekjjkdkiaaGreatDoor.X
open Go Go.Proofs.YtlgopekjjkdkiaaGreatDoor.Ev Go.Proofs
set_option linter.unusedVariables false
set_option linter.unusedSectionVars false
/-! cow.Append -/
variable [FZ]
end Go.Proofs.YtlgopekjjkdkiaaGreatDoor.X
end

section
namespace Go.Proofs.YtlgopekjjkdkiaaGreatDoor.X
open Go Go.Proofs.YtlgopekjjkdkiaaGreatDoor.Ev Go.Proofs
set_option linter.unusedVariables false
set_option linter.unusedSectionVars false
/-! cow.read -/
variable [FZ]
end Go.Proofs.YtlgopekjjkdkiaaGreatDoor.X
end

section
namespace Go.Proofs.YtlgopekjjkdkiaaGreatDoor.X
open Go Go.Proofs.YtlgopekjjkdkiaaGreatDoor.Ev Go.Proofs
set_option linter.unusedVariables false
set_option linter.unusedSectionVars false
/-! cow.Scan -/
variable [FZ]
end Go.Proofs.YtlgopekjjkdkiaaGreatDoor.X
end

section
/- Sectors that are kept: appended, scanned; the code's. -/
namespace Go.Proofs.YtlgopekjjkdkiaaGreatDoor.X
open Go Go.Proofs.YtlgopekjjkdkiaaGreatDoor.Ev
set_option linter.unusedSectionVars false
variable [FZ]
set_option linter.unusedVariables false
set_option linter.unusedSimpArgs false

/-! ### Numbers behind bytes -/

theorem putS {β : Type} {n s : Int} {v l : List Int} {k : Nat} {K : List Int → Option β} (h : 0 ≤ s ∧ s ≤ 100) (hl : l.length ≤ 2000) : f147_1_l6 20000 n v K (k + 1) s l = f147_1_l6 20000 n v K k (s - 8) (l ++ [IntKind.u8.wrap (ishr .u64 n s)]) := by
  rw [f147_1_l6, ct (by omega), cf (by omega), ct (by omega), w64 (by omega) (by omega)]
theorem putE {β : Type} {n : Int} {v l : List Int} {k : Nat} {K : List Int → Option β} : f147_1_l6 20000 n v K (k + 1) (-8) l = K l := by
  rw [f147_1_l6, cf (by omega)]
theorem putL4 {β : Type} {n : Int} {v l : List Int} {k : Nat} {K : List Int → Option β} (hl : l.length ≤ 1000) : f147_1_l6 20000 n v K (k + 1 + 1 + 1 + 1 + 1) 24 l = K (l ++ b4 n) := by
  rw [putS (by omega) (by omega), putS (by omega) (by simp; omega), putS (by omega) (by simp; omega), putS (by omega) (by simp; omega)]
  refine putE.trans ?_
  congr 1
  simp [b4]
theorem putA4 {β : Type} {n : Int} {l : List Int} {K : List Int → Option β} (hl : l.length ≤ 1000) : f147_1 20000 4 n l K = K (l ++ b4 n) := by
  rw [f147_1, w64 (x := ((l.length : Nat) : Int) + 8) (by omega) (by omega), ct ⟨by omega, by omega, by omega, by omega⟩, ct (by omega), f190_1, ct (by omega), decide_eq_true (show (4 : Int) ≤ 8 by omega), cond_ff', List.take_zero, List.nil_append]
  exact putL4 (k := 19995) (K := fun x => K x) hl

/-! ### A head -/

def hdL (e k i s : Int) : List Int := b8 e ++ (b4 k ++ (b4 i ++ b4 s))
def hdB (e k i s : Int) : ByteArray := mkB 8 (ofInts (hdL e k i s))
theorem hdL_len (e k i s : Int) : (hdL e k i s).length = 20 := rfl
theorem hdB_size (e k i s : Int) : (hdB e k i s).size = 64 := mkB_size (by rw [oi_size, hdL_len]; omega)

/-- What the numbers of a head are. -/
def g1 (L : List Int) : Int := num 0 (L.take 8)
def g2 (L : List Int) : Int := num 0 ((L.drop 8).take 4)
def g3 (L : List Int) : Int := num 0 (((L.drop 8).drop 4).take 4)
def g4 (L : List Int) : Int := num 0 ((((L.drop 8).drop 4).drop 4).take 4)

theorem numOK {w : Nat} {l : List Int} (h1 : 1 ≤ w) (hw : w ≤ 8) (h : w ≤ l.length) (hl : l.length ≤ 100) (hb : byts l) {β : Type} (K : Int → Int → List Int → Option β) : f181_1 20000 (w : Int) 0 l K = K (num 0 (l.take w)) 0 (l.drop w) := by
  refine (numC h1 hw (by omega) hb).trans ?_
  rw [nm, if_neg (by simp), if_pos h]

end Go.Proofs.YtlgopekjjkdkiaaGreatDoor.X
end

section
/- Sectors that are kept: scanned; the code's. -/
namespace Go.Proofs.YtlgopekjjkdkiaaGreatDoor.X
open Go Go.Proofs.YtlgopekjjkdkiaaGreatDoor.Ev
set_option linter.unusedSectionVars false
variable [FZ]
set_option linter.unusedVariables false
set_option linter.unusedSimpArgs false

abbrev EL := List (Int × (Int × (Int × ByteArray)))

end Go.Proofs.YtlgopekjjkdkiaaGreatDoor.X
end

section
/- A disk with entries that are kept; a new disk; an entry more. -/
namespace Go.Proofs.YtlgopekjjkdkiaaGreatDoor.X
open Go Go.Proofs.YtlgopekjjkdkiaaGreatDoor.Ev
set_option linter.unusedSectionVars false
variable [FZ]
set_option linter.unusedVariables false
set_option linter.unusedSimpArgs false

/-! ### A new disk -/

theorem repL {β : Type} {m : Nat} {z : ByteArray} {v : List ByteArray} (hm : m ≤ 2000) {K : List ByteArray → Option β} : ∀ (fuel i : Nat), 1 ≤ i → i ≤ m → m - i < fuel →
    f68_1_l8 20000 v K fuel (i : Int) (List.replicate i z ++ List.replicate (m - i) ByteArray.empty) = K (List.replicate m z)
  | 0, i, _, _, h => by omega
  | fuel + 1, i, h1, h2, hf => by
    have hl : (List.replicate i z ++ List.replicate (m - i) ByteArray.empty).length = m := by simp; omega
    rw [f68_1_l8, hl]
    by_cases h : (i : Int) < (m : Int)
    · rw [ct h, ct ⟨by omega, by omega, by omega⟩, ct ⟨by omega, by omega, by omega⟩]
      have e1 : ((List.replicate i z ++ List.replicate (m - i) ByteArray.empty).drop 0).take (((i : Int) - 0).toNat) = List.replicate i z := by
        rw [List.drop_zero, show ((i : Int) - 0).toNat = i by omega]
        exact List.take_left' (by simp)
      have e2 : ((m : Int) - (i : Int)).toNat = m - i := by omega
      rw [e1, e2, List.length_replicate, show 0 + (i : Int).toNat = i by omega]
      have e3 : (List.replicate i z ++ List.replicate (m - i) ByteArray.empty).take i = List.replicate i z := List.take_left' (by simp)
      have e4 : (List.replicate i z ++ List.replicate (m - i) ByteArray.empty).drop (i + min i (m - i)) = List.replicate (m - (i + min i (m - i))) ByteArray.empty := by
        rw [← List.drop_drop, List.drop_left' (by simp), List.drop_replicate]
        congr 1; omega
      rw [e3, e4, List.take_replicate, ← List.append_assoc, List.replicate_append_replicate, w64 (by omega) (by omega)]
      have ih := repL hm (z := z) (v := v) (K := K) fuel (i + min i (m - i)) (by omega) (by omega) (by omega)
      rw [Nat.min_comm (m - i) i]
      push_cast at ih ⊢
      exact ih
    · have : m = i := by omega
      subst this
      rw [cf h]
      simp

theorem newP {β : Type} {m : Nat} (h1 : 1 ≤ m) (h2 : m ≤ 1200) {K0 : Option β} {K1 : List ByteArray → WL → Option β} : f12_1 20000 (m : Int) K0 K1 = K1 (List.replicate m Z64) [] := by
  have hz : ∀ K : ByteArray → Option β, f69_1 20000 K = K Z64 := fun K => by kernel_rfl
  have hmul : ∀ K : Int → Int → Option β, f135_1 20000 (IntKind.u64.wrap (([Z64].length : Nat) : Int)) (IntKind.u64.wrap (m : Int)) K = K 0 (m : Int) := by
    intro K
    rw [f135_1, f183_1, wu64 (x := (m : Int)) (by omega) (by omega)]
    have e1 : IntKind.u64.wrap (([Z64].length : Nat) : Int) = 1 := rfl
    rw [e1]
    have s1 : ishr .u64 1 32 = 0 := by decide
    have e : (2 : Int) ^ (min (32 : Int).toNat IntKind.u64.bits) = 4294967296 := by decide
    have s2 : ishr .u64 (m : Int) 32 = 0 := by rw [ishr, e, Int.fdiv_eq_ediv_of_nonneg _ (by omega)]; omega
    have a1 : iand .u64 1 4294967295 = 1 := by decide
    have a2 : iand .u64 (m : Int) 4294967295 = (m : Int) := by
      have := and64 (A := m) (B := 4294967295) (by omega) (by decide)
      rw [show (4294967295 : Int) = ((4294967295 : Nat) : Int) from rfl, this]
      have : m &&& (2 ^ 32 - 1) = m % 2 ^ 32 := Nat.and_two_pow_sub_one_eq_mod m 32
      rw [show (4294967295 : Nat) = 2 ^ 32 - 1 from rfl, this, Nat.mod_eq_of_lt (by omega)]
    have a0 : iand .u64 0 4294967295 = 0 := by decide
    have z0 : ishr .u64 0 32 = 0 := by decide
    simp only [s1, s2, a1, a2, Int.zero_mul, Int.mul_zero, Int.one_mul, wu64 (x := (0 : Int)) (by omega) (by omega), wu64 (x := (m : Int)) (by omega) (by omega), z0, a0, Int.zero_add, Int.add_zero]
  rw [f12_1, cf (by omega), cf (by omega), hz, f68_1, cf (by omega), hmul, cf (by omega), cf (by omega), w64 (x := (m : Int)) (by omega) (by omega), ct ⟨by omega, by omega, by omega, by omega⟩]
  have hs : (List.replicate (m : Int).toNat ByteArray.empty).take 0 ++ ([Z64].take (List.replicate (m : Int).toNat ByteArray.empty).length ++ (List.replicate (m : Int).toNat ByteArray.empty).drop (0 + min [Z64].length (List.replicate (m : Int).toNat ByteArray.empty).length)) = List.replicate 1 Z64 ++ List.replicate (m - 1) ByteArray.empty := by
    rw [List.take_zero, List.nil_append, List.length_replicate, show (m : Int).toNat = m by omega, List.take_of_length_le (by simp; omega), List.drop_replicate]
    show [Z64] ++ List.replicate (m - (0 + min 1 m)) ByteArray.empty = _
    rw [show 0 + min 1 m = 1 by omega]; rfl
  rw [hs, List.length_replicate, show (m : Int).toNat = m by omega, show ((min [Z64].length m : Nat) : Int) = ((1 : Nat) : Int) by simp; omega]
  exact repL (by omega) 20000 1 (by omega) (by omega) (by omega)

/-! ### Lists of entries -/

theorem entL {β : Type} {E : EL} (hl : E.length ≤ 10000) {K0 K1 : Option β} : ∀ (r : EL) (i k : Nat), E.drop i = r → i ≤ E.length → r.length < k → f73_1_l4 20000 E E K0 K1 k (i : Int) = K1
  | [], i, 0, _, _, hk => by simp at hk
  | _ :: _, i, 0, _, _, hk => by simp at hk
  | [], i, k + 1, hd, hi, _ => by
    have := len_of_drop_nil hd hi
    rw [f73_1_l4, cf (by omega)]
  | p :: r, i, k + 1, hd, hi, hk => by
    obtain ⟨h1, h2, h3⟩ := getD_of_drop (d := ((0, (0, (0, ByteArray.empty))) : Int × (Int × (Int × ByteArray)))) hd
    rw [f73_1_l4, ct (by omega), ct (by omega), ct (by omega), ct (by omega), ct (by omega), show ∀ p : Int × (Int × (Int × ByteArray)), (!(p.1 == p.1 && (p.2.1 == p.2.1 && (p.2.2.1 == p.2.2.1 && p.2.2.2.toList == p.2.2.2.toList)))) = false from fun p => by simp, cond_false, w64 (by omega) (by omega)]
    exact entL hl r (i + 1) k h3 (by omega) (by simp at hk; omega)
theorem entP {β : Type} {E : EL} (hl : E.length ≤ 10000) {K : Bool → Option β} : f73_1 20000 E E K = K true := by
  rw [f73_1, bnf rfl, cond_false]
  exact entL hl E 0 20000 rfl (by omega) (by omega)

/-! ### A disk on which m entries are kept -/

noncomputable def cZ : Int := crc (toInts Z64)
theorem Z64_size : Z64.size = 64 := by rw [D_size, Z64_D]; simp

structure KI (n c B e : Int) (m : Nat) (E : EL) (l : List ByteArray) : Prop where
  len : (l.length : Int) = B + 2 * c
  el : E.length = m
  mc : (m : Int) ≤ c
  ent : ∀ j : Nat, j < m → ∃ i : Int, 0 ≤ i ∧ i < n ∧ E.drop j = (0, (e, (i, Z64))) :: E.drop (j + 1) ∧ l.getD (B + 2 * (j : Int)).toNat ByteArray.empty = hdB e j i cZ
  oth : ∀ x : Nat, x < l.length → (∀ j : Nat, j < m → (x : Int) ≠ B + 2 * (j : Int)) → l.getD x ByteArray.empty = Z64

section
variable {n c B e : Int} {m : Nat} {E : EL} {l : List ByteArray}

theorem KI.sz (h : KI n c B e m E l) : ∀ x : Nat, x < l.length → (l.getD x ByteArray.empty).size ≤ 100 := by
  intro x hx
  by_cases hj : ∃ j : Nat, j < m ∧ (x : Int) = B + 2 * (j : Int)
  · obtain ⟨j, h1, h2⟩ := hj
    obtain ⟨i, _, _, _, h5⟩ := h.ent j h1
    have : x = (B + 2 * (j : Int)).toNat := by omega
    rw [this, h5, hdB_size]; omega
  · rw [h.oth x hx (fun j h1 h2 => hj ⟨j, h1, h2⟩), Z64_size]; omega

/-- One entry more. -/
theorem KI.more (h : KI n c B e m E l) (hB : 0 ≤ B) (hm : (m : Int) < c) {i : Int} (hi : 0 ≤ i ∧ i < n) : KI n c B e (m + 1) (E ++ [(0, (e, (i, Z64)))]) (put1 l (B + 2 * (m : Int), hdB e m i cZ)) := by
  have hl := h.len
  refine ⟨by rw [put1_len]; exact hl, by simp [h.el], by omega, fun j hj => ?_, fun x hx hno => ?_⟩
  · rcases Nat.lt_or_ge j m with h1 | h1
    · obtain ⟨i', q1, q2, q3, q4⟩ := h.ent j h1
      refine ⟨i', q1, q2, ?_, ?_⟩
      · rw [List.drop_append_of_le_length (by rw [h.el]; omega), List.drop_append_of_le_length (by rw [h.el]; omega), q3]; rfl
      · rw [put1]
        show (l.set (B + 2 * (m : Int)).toNat _).getD _ _ = _
        rw [List.getD_eq_getElem?_getD, List.getElem?_set_ne (by omega), ← List.getD_eq_getElem?_getD, q4]
    · have e : j = m := by omega
      subst e
      refine ⟨i, hi.1, hi.2, ?_, ?_⟩
      · have el := h.el
        rw [List.drop_left' el, List.drop_eq_nil_of_le (by simp; omega)]
      · rw [put1]
        show (l.set (B + 2 * (j : Int)).toNat _).getD _ _ = _
        rw [List.getD_eq_getElem?_getD, List.getElem?_set_self (by omega)]; rfl
  · rw [put1_len] at hx
    rw [put1]
    show (l.set (B + 2 * (m : Int)).toNat _).getD _ _ = _
    rw [List.getD_eq_getElem?_getD, List.getElem?_set_ne (by have := hno m (by omega); omega), ← List.getD_eq_getElem?_getD]
    exact h.oth x hx fun j hj => hno j (by omega)

end

end Go.Proofs.YtlgopekjjkdkiaaGreatDoor.X
end

section
namespace Go.Proofs.YtlgopekjjkdkiaaGreatDoor.X
open Go Go.Proofs.YtlgopekjjkdkiaaGreatDoor.Ev Go.Proofs
set_option linter.unusedVariables false
set_option linter.unusedSectionVars false
/-! geom.level -/
variable [FZ]
end Go.Proofs.YtlgopekjjkdkiaaGreatDoor.X
end

section
namespace Go.Proofs.YtlgopekjjkdkiaaGreatDoor.X
open Go Go.Proofs.YtlgopekjjkdkiaaGreatDoor.Ev Go.Proofs
set_option linter.unusedVariables false
set_option linter.unusedSectionVars false
/-! geom.Children -/
variable [FZ]
end Go.Proofs.YtlgopekjjkdkiaaGreatDoor.X
end

section
namespace Go.Proofs.YtlgopekjjkdkiaaGreatDoor.X
open Go Go.Proofs.YtlgopekjjkdkiaaGreatDoor.Ev Go.Proofs
set_option linter.unusedVariables false
set_option linter.unusedSectionVars false
/-! pentimentoref07.Children -/
variable [FZ]
end Go.Proofs.YtlgopekjjkdkiaaGreatDoor.X
end

section
/- Trees' shapes: parents and children over the list of the levels; any seat. -/
namespace Go.Proofs.YtlgopekjjkdkiaaGreatDoor.X
open Go Go.Proofs.YtlgopekjjkdkiaaGreatDoor.Ev
set_option linter.unusedSectionVars false
variable [FZ]
set_option linter.unusedVariables false
set_option linter.unusedSimpArgs false

/-- Each level is the one below it, over f, rounded up; the last one is 1. -/
def chain (f : Int) : List Int → Prop
  | a :: b :: r => 1 < a ∧ b = (a + f - 1) / f ∧ chain f (b :: r)
  | [a] => a = 1
  | [] => True

end Go.Proofs.YtlgopekjjkdkiaaGreatDoor.X
end

section
namespace Go.Proofs.YtlgopekjjkdkiaaGreatDoor.X
open Go Go.Proofs.YtlgopekjjkdkiaaGreatDoor.Ev Go.Proofs
set_option linter.unusedVariables false
set_option linter.unusedSectionVars false
/-! geom.Root -/
variable [FZ]
end Go.Proofs.YtlgopekjjkdkiaaGreatDoor.X
end

section
namespace Go.Proofs.YtlgopekjjkdkiaaGreatDoor.X
open Go Go.Proofs.YtlgopekjjkdkiaaGreatDoor.Ev Go.Proofs
set_option linter.unusedVariables false
set_option linter.unusedSectionVars false
/-! pentimentoref07.Root -/
variable [FZ]
end Go.Proofs.YtlgopekjjkdkiaaGreatDoor.X
end

section
/- Trees' shapes: document and code reckon the same children; any seat. -/
namespace Go.Proofs.YtlgopekjjkdkiaaGreatDoor.X
open Go Go.Proofs.YtlgopekjjkdkiaaGreatDoor.Ev
set_option linter.unusedSectionVars false
variable [FZ]
set_option linter.unusedVariables false
set_option linter.unusedSimpArgs false

end Go.Proofs.YtlgopekjjkdkiaaGreatDoor.X
end

section
/- Trees' shapes: which nodes have children; any seat. -/
namespace Go.Proofs.YtlgopekjjkdkiaaGreatDoor.X
open Go Go.Proofs.YtlgopekjjkdkiaaGreatDoor.Ev
set_option linter.unusedSectionVars false
variable [FZ]
set_option linter.unusedVariables false
set_option linter.unusedSimpArgs false
end Go.Proofs.YtlgopekjjkdkiaaGreatDoor.X
end

section
/- Sectors as they were: appended, read, scanned; the code's. -/
namespace Go.Proofs.YtlgopekjjkdkiaaGreatDoor.X
open Go Go.Proofs.YtlgopekjjkdkiaaGreatDoor.Ev
set_option linter.unusedSectionVars false
variable [FZ]
set_option linter.unusedVariables false
set_option linter.unusedSimpArgs false

theorem putL8 {β : Type} {n : Int} {v l : List Int} {k : Nat} {K : List Int → Option β} (hl : l.length ≤ 1000) : f147_1_l6 20000 n v K (k + 1 + 1 + 1 + 1 + 1 + 1 + 1 + 1 + 1) 56 l = K (l ++ b8 n) := by
  rw [putS (by omega) (by omega), putS (by omega) (by simp; omega), putS (by omega) (by simp; omega), putS (by omega) (by simp; omega), putS (by omega) (by simp; omega), putS (by omega) (by simp; omega), putS (by omega) (by simp; omega), putS (by omega) (by simp; omega)]
  refine putE.trans ?_
  congr 1
  simp [b8]
theorem putA8 {β : Type} {n : Int} {l : List Int} {K : List Int → Option β} (hl : l.length ≤ 1000) : f147_1 20000 8 n l K = K (l ++ b8 n) := by
  rw [f147_1, w64 (x := ((l.length : Nat) : Int) + 8) (by omega) (by omega), ct ⟨by omega, by omega, by omega, by omega⟩, ct (by omega), f190_1, ct (by omega), decide_eq_true (show (8 : Int) ≤ 8 by omega), cond_ff', List.take_zero, List.nil_append]
  exact putL8 (k := 19991) (K := fun x => K x) hl

/-! ### A head -/

def uhL (t e k p s : Int) : List Int := b8 t ++ (b8 e ++ (b4 k ++ (b4 p ++ b4 s)))
def uhB (t e k p s : Int) : ByteArray := mkB 7 (ofInts (uhL t e k p s))
theorem uhL_len (t e k p s : Int) : (uhL t e k p s).length = 28 := rfl
theorem headS {β : Type} {v l : List Int} {i k : Nat} {x : Int} {K : List Int → Option β} (hi : i < 3) (hv : v.length = 3) (hx : v.getD i 0 = x) (h : U64 x) (hl : l.length ≤ 900) :
    f95_1_l4 20000 3 v K (k + 1) (i : Int) l = f95_1_l4 20000 3 v K k ((i + 1 : Nat) : Int) (l ++ b4 x) := by
  rw [f95_1_l4, ct (by omega), ct (by omega), ct (by omega), show 0 + (i : Int).toNat = i by omega, hx, wu64 h.1 h.2, putA4 (by omega), w64 (by omega) (by omega)]
  push_cast; rfl

theorem headP {β : Type} {t e k p : Int} {old : ByteArray} (hk : U32 k) (hp : U32 p) (ho : old.size ≤ 100) {K : ByteArray → Option β} : f95_1 20000 k t e p old K = K (ofInts (uhL t e k p (crc (toInts old)))) := by
  have htl := toInts_size old
  have hcr := crc_r (toInts old)
  have h8 : ∀ n, (b8 n).length = 8 := fun _ => rfl
  have h4 : ∀ n, (b4 n).length = 4 := fun _ => rfl
  rw [f95_1, put8, putA8 (by simp [h8]), crcP (by omega), wu32 hk.1 hk.2, wu32 hp.1 hp.2]
  refine (headS (i := 0) (k := 19999) (x := k) (by omega) rfl rfl ⟨hk.1, by omega⟩ (by simp [h8])).trans ?_
  refine (headS (i := 1) (k := 19998) (x := p) (by omega) rfl rfl ⟨hp.1, by omega⟩ (by simp [h8, h4])).trans ?_
  refine (headS (i := 2) (k := 19997) (x := crc (toInts old)) (by omega) rfl rfl ⟨hcr.1, by omega⟩ (by simp [h8, h4])).trans ?_
  show f95_1_l4 20000 3 _ _ (19996 + 1) 3 _ = _
  rw [f95_1_l4, cf (by omega)]
  simp only [uhL, List.append_assoc]

def h1 (L : List Int) : Int := num 0 (L.take 8)
def h2 (L : List Int) : Int := num 0 ((L.drop 8).take 8)
def h3 (L : List Int) : Int := num 0 (((L.drop 8).drop 8).take 4)
def h4 (L : List Int) : Int := num 0 ((((L.drop 8).drop 8).drop 4).take 4)
def h5 (L : List Int) : Int := num 0 (((((L.drop 8).drop 8).drop 4).drop 4).take 4)

theorem h_r {L : List Int} (hb : byts L) (hl : L.length = 28) : U64 (h1 L) ∧ U64 (h2 L) ∧ U32 (h3 L) ∧ U32 (h4 L) ∧ U32 (h5 L) :=
  ⟨(num8_inv (by simp; omega) (take_r 8 hb)).2, (num8_inv (by simp; omega) (take_r 8 (drop_r 8 hb))).2, (num4_inv (by simp; omega) (take_r 4 (drop_r 8 (drop_r 8 hb)))).2, (num4_inv (by simp; omega) (take_r 4 (drop_r 4 (drop_r 8 (drop_r 8 hb))))).2, (num4_inv (by simp; omega) (take_r 4 (drop_r 4 (drop_r 4 (drop_r 8 (drop_r 8 hb)))))).2⟩

def isU (s : ByteArray) : Prop := (opn 7 s).2 = 0 ∧ (opn 7 s).1.size = 28
instance (s : ByteArray) : Decidable (isU s) := by unfold isU; infer_instance

/-! ### What may be undone, and where -/

def mayb (n f c u p : Int) : Bool := decide (6 ≤ p ∧ p < 6 + n + nodes n f c u)

theorem mayP {β : Type} {n f c u p : Int} (hr : rt n f c u) {K : Bool → Option β} : f91_1 20000 n f c u p K = K (mayb n f c u p) := by
  have hn := hr.1
  have hno := nodes_ok n f c u
  rw [f91_1, mayb]
  by_cases h : p ≥ 6
  · rw [ct h, nodes50, w64 (x := 6 + n) (by omega) (by omega), w64 (by omega) (by omega)]
    congr 1
    exact decide_eq_decide.2 ⟨fun hh => ⟨h, hh⟩, fun hh => hh.2⟩
  · rw [cf h, decide_eq_false (fun hh => h hh.1)]

theorem uareaP {β : Type} {n f c u k : Int} (hr : rt n f c u) (hk : 0 ≤ k ∧ k < u) {K : Int → Int → Option β} : f92_1 20000 n f c u k K = K (6 + n + nodes n f c u + 2 * k) (6 + n + nodes n f c u + (2 * k + 1)) := by
  have hu := hr.2.2.2
  rw [f92_1, w64 (x := 2 * k) (by omega) (by omega), w64 (x := 2 * k + 1) (by omega) (by omega), areaP (.inr rfl), areaP (.inr rfl), if_neg (by omega), are, are, if_pos (show rt n f c u ∧ 0 ≤ 2 * k ∧ 2 * k < 2 * u from ⟨hr, by omega, by omega⟩), if_pos (show rt n f c u ∧ 0 ≤ 2 * k + 1 ∧ 2 * k + 1 < 2 * u from ⟨hr, by omega, by omega⟩)]

theorem layP {β : Type} {m q : Nat} {x a d : Int} {t : ByteArray} {b : Bool} {l : List ByteArray} {w : WL} (h : DS m q a d l w) (hq : q < 5999) {K : Int → Int → Bool → Int → List ByteArray → WL → Option β} :
    f93_1 20000 x t a b d l w K = app K (svS x t a b d l w) := by
  rw [f93_1]
  exact svS_P (K := K) h hq

/-! ### Append -/

/-- What Append comes to: an entry, why not, and the disk. -/
def unS (n f c u k t e p a : Int) (b : Bool) (d : Int) (l : List ByteArray) (w : WL) : Int × Int × Int × ByteArray × St :=
  if ¬ rt n f c u then (0, 0, 0, ByteArray.empty, 12, a, b, d, l, w)
  else if k < 0 ∨ k ≥ u then (0, 0, 0, ByteArray.empty, 11, a, b, d, l, w)
  else if mayb n f c u p = false then (0, 0, 0, ByteArray.empty, 3, a, b, d, l, w)
  else if (rd p b l w).2 ≠ 0 then (0, 0, 0, ByteArray.empty, (rd p b l w).2, a, b, d, l, w)
  else if (svS (6 + n + nodes n f c u + (2 * k + 1)) (rd p b l w).1 a b d l w).1 ≠ 0 then (0, 0, 0, ByteArray.empty, svS (6 + n + nodes n f c u + (2 * k + 1)) (rd p b l w).1 a b d l w)
  else let s1 := svS (6 + n + nodes n f c u + (2 * k + 1)) (rd p b l w).1 a b d l w
    let s2 := svS (6 + n + nodes n f c u + 2 * k) (uhB t e k p (crc (toInts (rd p b l w).1))) s1.2.1 s1.2.2.1 s1.2.2.2.1 s1.2.2.2.2.1 s1.2.2.2.2.2
    if s2.1 ≠ 0 then (0, 0, 0, ByteArray.empty, s2) else (t, e, p, (rd p b l w).1, s2)

def app10 {β : Type} (K : Int → Int → Int → ByteArray → Int → Int → Bool → Int → List ByteArray → WL → Option β) (s : Int × Int × Int × ByteArray × St) : Option β :=
  K s.1 s.2.1 s.2.2.1 s.2.2.2.1 s.2.2.2.2.1 s.2.2.2.2.2.1 s.2.2.2.2.2.2.1 s.2.2.2.2.2.2.2.1 s.2.2.2.2.2.2.2.2.1 s.2.2.2.2.2.2.2.2.2

theorem unP {β : Type} {m q : Nat} {n f c u k t e p a d : Int} {b : Bool} {l : List ByteArray} {w : WL} (h : DS m q a d l w) (hq : q < 5990) (h64 : (rd p b l w).1.size ≤ 100) {K : Int → Int → Int → ByteArray → Int → Int → Bool → Int → List ByteArray → WL → Option β} :
    f31_1 20000 n f c u k t e p a b d l w K = app10 K (unS n f c u k t e p a b d l w) := by
  rw [f31_1, right46, unS]
  by_cases hr : rt n f c u
  · have hn := hr.1
    have hu := hr.2.2.2
    have hno := nodes_ok n f c u
    rw [decide_eq_true hr, Bool.not_true, cond_false, if_neg (fun hh => hh hr)]
    by_cases h1 : k < 0
    · rw [ct h1, if_pos (Or.inl h1)]; rfl
    · by_cases h2 : k ≥ u
      · rw [cf h1, ct h2, if_pos (Or.inr h2)]; rfl
      · rw [cf h1, cf h2, if_neg (show ¬ (k < 0 ∨ k ≥ u) by omega), mayP hr]
        by_cases h3 : mayb n f c u p = true
        · have h3' : 6 ≤ p ∧ p < 6 + n + nodes n f c u := of_decide_eq_true h3
          rw [h3, Bool.not_true, cond_false, if_neg (show ¬ (true = false) by simp), readP (by omega) h]
          by_cases h4 : (rd p b l w).2 = 0
          · have hcr := crc_r (toInts (rd p b l w).1)
            have htl := toInts_size (rd p b l w).1
            rw [bnf h4, cond_false, if_neg (fun hh => hh h4), uareaP hr (by omega), layP h (by omega), app]
            generalize hs1 : svS (6 + n + nodes n f c u + (2 * k + 1)) (rd p b l w).1 a b d l w = s1
            have h' := svS_ok (x := 6 + n + nodes n f c u + (2 * k + 1)) (t := (rd p b l w).1) (b := b) h (by omega)
            rw [hs1] at h'
            by_cases h5 : s1.1 = 0
            · have hmk : mkR 7 (ofInts (uhL t e k p (crc (toInts (rd p b l w).1)))) = (uhB t e k p (crc (toInts (rd p b l w).1)), 0) := by rw [mkR, if_neg (by omega), if_neg (by rw [oi_size, uhL_len]; omega)]; rfl
              have hbig := big60
              rw [bnf h5, cond_false, if_neg (fun hh => hh h5), headP (by omega) (by omega) h64, makeP (by rw [oi_size, uhL_len]; omega), hmk, bnf rfl, cond_false, layP h' (by omega), app]
              by_cases h6 : (svS (6 + n + nodes n f c u + 2 * k) (uhB t e k p (crc (toInts (rd p b l w).1))) s1.2.1 s1.2.2.1 s1.2.2.2.1 s1.2.2.2.2.1 s1.2.2.2.2.2).1 = 0
              · rw [bnf h6, cond_false]
                show _ = app10 K (if _ then _ else _)
                rw [if_neg (fun hh => hh h6), app10]
                simp only
                rw [h6]
              · rw [bnt h6, cond_true]
                show _ = app10 K (if _ then _ else _)
                rw [if_pos h6]; rfl
            · rw [bnt h5, cond_true, if_pos h5]; rfl
          · rw [bnt h4, cond_true, if_pos h4]; rfl
        · have h3 : mayb n f c u p = false := by simpa using h3
          rw [h3, Bool.not_false, cond_true, if_pos rfl]; rfl
  · rw [decide_eq_false hr, Bool.not_false, cond_true, if_pos hr]; rfl

/-! ### An entry read -/

def okU (n f c u e : Int) (k : Nat) (s : ByteArray) (t1 e1 : Int) : Prop :=
  isU s ∧ h3 (toInts (opn 7 s).1) = (k : Int) ∧ mayb n f c u (h4 (toInts (opn 7 s).1)) = true ∧ e < h2 (toInts (opn 7 s).1) ∧ (0 < k → h1 (toInts (opn 7 s).1) = t1 ∧ h2 (toInts (opn 7 s).1) = e1)
instance (n f c u e : Int) (k : Nat) (s : ByteArray) (t1 e1 : Int) : Decidable (okU n f c u e k s t1 e1) := by unfold okU; infer_instance

/-- An entry, from its two sectors. -/
def rdV (n f c u e : Int) (k : Nat) (t1 e1 : Int) (s1 s2 : ByteArray × Int) : Int × Int × Int × ByteArray × Bool × Int :=
  if ¬ okU n f c u e k s1.1 t1 e1 then (0, 0, 0, ByteArray.empty, false, 0)
  else (h1 (toInts (opn 7 s1.1).1), h2 (toInts (opn 7 s1.1).1), h4 (toInts (opn 7 s1.1).1), s2.1, (if s2.2 = 0 then decide (crc (toInts s2.1) = h5 (toInts (opn 7 s1.1).1)) else false), s2.2)

def rdU (n f c u e : Int) (k : Nat) (t1 e1 : Int) (b : Bool) (l : List ByteArray) (w : WL) : Int × Int × Int × ByteArray × Bool × Int :=
  if (rd (6 + n + nodes n f c u + 2 * (k : Int)) b l w).2 ≠ 0 then (0, 0, 0, ByteArray.empty, false, (rd (6 + n + nodes n f c u + 2 * (k : Int)) b l w).2)
  else rdV n f c u e k t1 e1 (rd (6 + n + nodes n f c u + 2 * (k : Int)) b l w) (rd (6 + n + nodes n f c u + (2 * (k : Int) + 1)) b l w)

def app6 {β : Type} (K : Int → Int → Int → ByteArray → Bool → Int → Option β) (s : Int × Int × Int × ByteArray × Bool × Int) : Option β := K s.1 s.2.1 s.2.2.1 s.2.2.2.1 s.2.2.2.2.1 s.2.2.2.2.2

theorem readU {β : Type} {q p : Nat} {n f c u e a d t1 e1 p1 : Int} {o1 : ByteArray} {k : Nat} {b : Bool} {l : List ByteArray} {w : WL} (hr : rt n f c u) (h : DS q p a d l w) (hsz : ∀ x, (rd x b l w).1.size ≤ 100) (hk : (k : Int) < u) {K : Int → Int → Int → ByteArray → Bool → Int → Option β} :
    f150_1 20000 n f c u (k : Int) e t1 e1 p1 o1 a b d l w K = app6 K (rdU n f c u e k t1 e1 b l w) := by
  have hu := hr.2.2.2
  have hno := nodes_ok n f c u
  have hsz2 := hsz (6 + n + nodes n f c u + (2 * (k : Int) + 1))
  rw [f150_1, uareaP hr (by omega), readP (by omega) h, rdU]
  have hrd : ∀ K : ByteArray → Int → Option β, f37_1 20000 (6 + n + nodes n f c u + (2 * (k : Int) + 1)) a b d l w K = K (rd (6 + n + nodes n f c u + (2 * (k : Int) + 1)) b l w).1 (rd (6 + n + nodes n f c u + (2 * (k : Int) + 1)) b l w).2 := fun K => readP (by omega) h
  generalize rd (6 + n + nodes n f c u + (2 * (k : Int) + 1)) b l w = s2 at hsz2 hrd
  generalize rd (6 + n + nodes n f c u + 2 * (k : Int)) b l w = s1
  by_cases q1 : s1.2 = 0
  · rw [bnf q1, cond_false, if_neg (fun hh => hh q1), openP]
    have no : ¬ okU n f c u e k s1.1 t1 e1 → app6 K (rdV n f c u e k t1 e1 s1 s2) = K 0 0 0 ByteArray.empty false 0 := fun hh => by rw [rdV, if_pos hh]; rfl
    have fin : okU n f c u e k s1.1 t1 e1 → cond (s2.2 == 0) (f148_1 20000 (toInts s2.1) (fun x27 => K (h1 (toInts (opn 7 s1.1).1)) (h2 (toInts (opn 7 s1.1).1)) (h4 (toInts (opn 7 s1.1).1)) s2.1 (x27 == h5 (toInts (opn 7 s1.1).1)) s2.2)) (K (h1 (toInts (opn 7 s1.1).1)) (h2 (toInts (opn 7 s1.1).1)) (h4 (toInts (opn 7 s1.1).1)) s2.1 false s2.2) = app6 K (rdV n f c u e k t1 e1 s1 s2) := by
      intro hh
      have htl := toInts_size s2.1
      rw [rdV, if_neg (fun h' => h' hh), crcP (by omega)]
      generalize h5 (toInts (opn 7 s1.1).1) = g5
      by_cases z5 : s2.2 = 0
      · rw [show (s2.2 == 0) = true by simp [z5], cond_true, app6, if_pos z5]
        by_cases z6 : crc (toInts s2.1) = g5
        · rw [show (crc (toInts s2.1) == g5) = true by simp [z6], decide_eq_true z6]
        · rw [show (crc (toInts s2.1) == g5) = false by simp [z6], decide_eq_false z6]
      · rw [show (s2.2 == 0) = false by simp [z5], cond_false, app6, if_neg z5]
    generalize app6 K (rdV n f c u e k t1 e1 s1 s2) = X at no fin ⊢
    unfold okU at no fin
    by_cases q2 : (opn 7 s1.1).2 = 0
    · by_cases q3 : (opn 7 s1.1).1.size = 28
      · have hL : (toInts (opn 7 s1.1).1).length = 28 := by rw [toInts_size]; exact q3
        have hb := toInts_r (opn 7 s1.1).1
        obtain ⟨r1, r2, r3, r4, r5⟩ := h_r hb hL
        rw [bnf q2, cond_false, bnf (show ((opn 7 s1.1).1.size : Int) = 28 by omega), cond_false, f180_1, ct (by omega), List.nil_append]
        refine (numOK (w := 8) (by omega) (by omega) (by omega) (by omega) hb _).trans ?_
        refine (numOK (w := 8) (by omega) (by omega) (by simp; omega) (by simp; omega) (drop_r 8 hb) _).trans ?_
        refine (numOK (w := 4) (by omega) (by omega) (by simp; omega) (by simp; omega) (drop_r 8 (drop_r 8 hb)) _).trans ?_
        refine (numOK (w := 4) (by omega) (by omega) (by simp; omega) (by simp; omega) (drop_r 4 (drop_r 8 (drop_r 8 hb))) _).trans ?_
        refine (numOK (w := 4) (by omega) (by omega) (by simp; omega) (by simp; omega) (drop_r 4 (drop_r 4 (drop_r 8 (drop_r 8 hb)))) _).trans ?_
        rw [← h1, ← h2, ← h3, ← h4, ← h5]
        generalize toInts (opn 7 s1.1).1 = L at no fin r1 r2 r3 r4 r5 ⊢
        rw [w64 (x := h4 L) (by omega) (by omega), wu64 (x := (k : Int)) (by omega) (by omega), wu32 r5.1 r5.2]
        have lin : ∀ R : Option β, (h3 L = (k : Int) → mayb n f c u (h4 L) = true → e < h2 L → R = X) → cond (h3 L != (k : Int)) (K 0 0 0 ByteArray.empty false 0) (f91_1 20000 n f c u (h4 L) (fun x => cond (!x) (K 0 0 0 ByteArray.empty false 0) (cond (decide (h2 L ≤ e)) (K 0 0 0 ByteArray.empty false 0) R))) = X := by
          intro R hR
          by_cases z1 : h3 L = (k : Int)
          · rw [bnf z1, cond_false, mayP hr]
            by_cases z2 : mayb n f c u (h4 L) = true
            · rw [z2, Bool.not_true, cond_false]
              by_cases z3 : h2 L ≤ e
              · rw [ct z3, no (fun hh => by have := hh.2.2.2.1; omega)]
              · rw [cf z3]; exact hR z1 z2 (by omega)
            · have z2' : mayb n f c u (h4 L) = false := by simpa using z2
              rw [no (fun hh => z2 hh.2.2.1), z2', Bool.not_false, cond_true]
          · rw [no (fun hh => z1 hh.2.1), bnt z1, cond_true]
        by_cases z0 : (k : Int) > 0
        · rw [ct z0]
          by_cases z4 : h1 L = t1
          · rw [bnf z4, cond_false]
            refine lin _ (fun z1 z2 z3 => ?_)
            by_cases z5 : h2 L = e1
            · rw [bnf z5, cond_false, hrd]
              exact fin ⟨⟨q2, q3⟩, z1, z2, by omega, fun _ => ⟨z4, z5⟩⟩
            · rw [bnt z5, cond_true, no (fun hh => z5 (hh.2.2.2.2 (by omega)).2)]
          · rw [bnt z4, cond_true]
            exact lin _ (fun z1 z2 z3 => (no (fun hh => z4 (hh.2.2.2.2 (by omega)).1)).symm)
        · rw [cf z0]
          refine lin _ (fun z1 z2 z3 => ?_)
          rw [hrd]
          exact fin ⟨⟨q2, q3⟩, z1, z2, by omega, fun hh => by omega⟩
      · rw [no (fun hh => q3 hh.1.2), bnf q2, cond_false, bnt (show ¬ ((opn 7 s1.1).1.size : Int) = 28 by omega), cond_true]
    · rw [no (fun hh => q2 hh.1.1), bnt q2, cond_true]
  · rw [bnt q1, cond_true, if_pos q1]; rfl

end Go.Proofs.YtlgopekjjkdkiaaGreatDoor.X
end

section
/- Sectors as they were: scanned, cleared; the code's. -/
namespace Go.Proofs.YtlgopekjjkdkiaaGreatDoor.X
open Go Go.Proofs.YtlgopekjjkdkiaaGreatDoor.Ev
set_option linter.unusedSectionVars false
variable [FZ]
set_option linter.unusedVariables false
set_option linter.unusedSimpArgs false

abbrev E0 : Int × (Int × (Int × ByteArray)) := (0, (0, (0, ByteArray.empty)))

/-- The entries from the k-th on, m of them at most. -/
def usc (n f c u e : Int) (b : Bool) (l : List ByteArray) (w : WL) : Nat → Nat → EL → Int × EL
  | 0, _, out => (0, out)
  | m + 1, k, out =>
    if (rd (6 + n + nodes n f c u + 2 * (k : Int)) b l w).2 ≠ 0 then ((rd (6 + n + nodes n f c u + 2 * (k : Int)) b l w).2, [])
    else if ¬ okU n f c u e k (rd (6 + n + nodes n f c u + 2 * (k : Int)) b l w).1 (out.getD 0 E0).1 (out.getD 0 E0).2.1 then (0, out)
    else if (rd (6 + n + nodes n f c u + (2 * (k : Int) + 1)) b l w).2 ≠ 0 then ((rd (6 + n + nodes n f c u + (2 * (k : Int) + 1)) b l w).2, [])
    else if crc (toInts (rd (6 + n + nodes n f c u + (2 * (k : Int) + 1)) b l w).1) ≠ h5 (toInts (opn 7 (rd (6 + n + nodes n f c u + 2 * (k : Int)) b l w).1).1) then (0, out)
    else usc n f c u e b l w m (k + 1) (out ++ [(h1 (toInts (opn 7 (rd (6 + n + nodes n f c u + 2 * (k : Int)) b l w).1).1), (h2 (toInts (opn 7 (rd (6 + n + nodes n f c u + 2 * (k : Int)) b l w).1).1), (h4 (toInts (opn 7 (rd (6 + n + nodes n f c u + 2 * (k : Int)) b l w).1).1), (rd (6 + n + nodes n f c u + (2 * (k : Int) + 1)) b l w).1)))])

theorem getD_cons_app {out : EL} {x : Int × (Int × (Int × ByteArray))} (h : 0 < out.length) : (out ++ [x]).getD 0 E0 = out.getD 0 E0 := by
  cases out with
  | nil => simp at h
  | cons y r => rfl

theorem uscL {β : Type} {q p : Nat} {n f c u e a d : Int} {z0 : EL} {z1 : Int} {b : Bool} {l : List ByteArray} {w : WL} (hr : rt n f c u) (h : DS q p a d l w) (hsz : ∀ x, (rd x b l w).1.size ≤ 100) {K : Int → EL → Option β} {K0 K1 K2}
    (k0 : ∀ out x1 x2 x3 x4 x5 x6 x7 x8, K0 out x1 x2 x3 x4 x5 x6 x7 x8 = K 0 out) (k1 : ∀ x out x1 x2 x3 x4 x5 x6 x7 x8 x9 x10 x11 x12, K1 x out x1 x2 x3 x4 x5 x6 x7 x8 x9 x10 x11 x12 = K x []) (k2 : ∀ out x1 x2 x3 x4, K2 out x1 x2 x3 x4 = K 0 out) :
    ∀ (m k fuel : Nat) (out : EL) (lt le lp : Int) (lo : ByteArray), ((m + k : Nat) : Int) = u → m < fuel → out.length = k → (0 < k → (out.getD 0 E0).1 = lt ∧ (out.getD 0 E0).2.1 = le) →
    f34_1_r2000005_l2 20000 u a b d l w z0 z1 n f c u e K0 K1 K2 fuel (k : Int) out lt le lp lo =
      K (usc n f c u e b l w m k out).1 (usc n f c u e b l w m k out).2
  | _, _, 0, _, _, _, _, _, _, h, _, _ => by omega
  | 0, k, fuel + 1, out, lt, le, lp, lo, hm, _, _, _ => by
    rw [f34_1_r2000005_l2, cf (by omega), k2]; rfl
  | m + 1, k, fuel + 1, out, lt, le, lp, lo, hm, hf, ho, hlk => by
    have hn := hr.1
    have hu := hr.2.2.2
    have hno := nodes_ok n f c u
    rw [f34_1_r2000005_l2, ct (by omega), readU hr h hsz (by omega), rdU, usc]
    have hlike : okU n f c u e k (rd (6 + n + nodes n f c u + 2 * (k : Int)) b l w).1 (out.getD 0 E0).1 (out.getD 0 E0).2.1 ↔ okU n f c u e k (rd (6 + n + nodes n f c u + 2 * (k : Int)) b l w).1 lt le := by
      by_cases h0 : 0 < k
      · rw [(hlk h0).1, (hlk h0).2]
      · unfold okU
        exact ⟨fun hh => ⟨hh.1, hh.2.1, hh.2.2.1, hh.2.2.2.1, fun h' => (h0 h').elim⟩, fun hh => ⟨hh.1, hh.2.1, hh.2.2.1, hh.2.2.2.1, fun h' => (h0 h').elim⟩⟩
    by_cases q1 : (rd (6 + n + nodes n f c u + 2 * (k : Int)) b l w).2 = 0
    · rw [if_neg (fun hh => hh q1), if_neg (fun hh => hh q1), rdV]
      by_cases q2 : okU n f c u e k (rd (6 + n + nodes n f c u + 2 * (k : Int)) b l w).1 lt le
      · rw [if_neg (show ¬ ¬ okU n f c u e k (rd (6 + n + nodes n f c u + 2 * (k : Int)) b l w).1 lt le from fun hh => hh q2), if_neg (show ¬ ¬ okU n f c u e k (rd (6 + n + nodes n f c u + 2 * (k : Int)) b l w).1 (out.getD 0 E0).1 (out.getD 0 E0).2.1 from fun hh => hh (hlike.2 q2))]
        generalize (rd (6 + n + nodes n f c u + (2 * (k : Int) + 1)) b l w) = s2
        by_cases q3 : s2.2 = 0
        · by_cases q4 : crc (toInts s2.1) = h5 (toInts (opn 7 (rd (6 + n + nodes n f c u + 2 * (k : Int)) b l w).1).1)
          · rw [if_pos q3, decide_eq_true q4, if_neg (fun hh => hh q3), if_neg (fun hh => hh q4), app6]
            simp only
            rw [q3]
            show cond ((0 : Int) == 0) (cond (!true) _ (cond ((0 : Int) != 0) _ _)) _ = _
            rw [beq_self_eq_true, cond_true, Bool.not_true, cond_false, bnf rfl, cond_false, ct (by omega), w64 (x := (k : Int) + 1) (by omega) (by omega)]
            have ih := uscL (e := e) (z0 := z0) (z1 := z1) (K := K) hr h hsz k0 k1 k2 m (k + 1) fuel (out ++ [(h1 (toInts (opn 7 (rd (6 + n + nodes n f c u + 2 * (k : Int)) b l w).1).1), (h2 (toInts (opn 7 (rd (6 + n + nodes n f c u + 2 * (k : Int)) b l w).1).1), (h4 (toInts (opn 7 (rd (6 + n + nodes n f c u + 2 * (k : Int)) b l w).1).1), s2.1)))])
              (h1 (toInts (opn 7 (rd (6 + n + nodes n f c u + 2 * (k : Int)) b l w).1).1)) (h2 (toInts (opn 7 (rd (6 + n + nodes n f c u + 2 * (k : Int)) b l w).1).1)) (h4 (toInts (opn 7 (rd (6 + n + nodes n f c u + 2 * (k : Int)) b l w).1).1)) s2.1 (by omega) (by omega) (by simp; omega) (fun _ => by
                by_cases h0 : 0 < k
                · rw [getD_cons_app (by omega), (hlk h0).1, (hlk h0).2]
                  exact ⟨(q2.2.2.2.2 h0).1.symm, (q2.2.2.2.2 h0).2.symm⟩
                · have : out = [] := List.length_eq_zero_iff.1 (by omega)
                  subst this; exact ⟨rfl, rfl⟩)
            push_cast at ih
            exact ih
          · rw [if_pos q3, decide_eq_false q4, if_neg (fun hh => hh q3), if_pos q4, app6]
            simp only
            rw [q3]
            show cond ((0 : Int) == 0) (cond (!false) _ _) _ = _
            rw [beq_self_eq_true, cond_true, Bool.not_false, cond_true, k0]
        · rw [if_neg q3, if_pos q3, app6]
          simp only
          rw [show (s2.2 == 0) = false by simp [q3], cond_false, bnt q3, cond_true, k1]
      · rw [if_pos q2, if_pos (fun hh => q2 (hlike.1 hh)), app6]
        show cond ((0 : Int) == 0) (cond (!false) _ _) _ = _
        rw [beq_self_eq_true, cond_true, Bool.not_false, cond_true, k0]
    · rw [if_pos q1, if_pos q1, app6]
      simp only
      rw [show ((rd (6 + n + nodes n f c u + 2 * (k : Int)) b l w).2 == 0) = false by simp [q1], cond_false, bnt q1, cond_true, k1]

/-- Scan: the entries, or why not. -/
def usG (n f c u e : Int) (b : Bool) (l : List ByteArray) (w : WL) : Int × EL := if rt n f c u then usc n f c u e b l w u.toNat 0 [] else (12, [])

theorem usGP {β : Type} {q p : Nat} {n f c u e a d : Int} {b : Bool} {l : List ByteArray} {w : WL} (h : DS q p a d l w) (hsz : ∀ x, (rd x b l w).1.size ≤ 100) {K : Int → EL → Option β} :
    f34_1 20000 n f c u e a b d l w K = K (usG n f c u e b l w).1 (usG n f c u e b l w).2 := by
  rw [f34_1, right46, usG]
  by_cases hr : rt n f c u
  · have hu := hr.2.2.2
    rw [decide_eq_true hr, Bool.not_true, cond_false, if_pos hr, f96_1, f34_1_r2000005]
    exact uscL hr h hsz (fun _ _ _ _ _ _ _ _ _ => rfl) (fun _ _ _ _ _ _ _ _ _ _ _ _ _ _ => rfl) (fun _ _ _ _ _ => rfl) u.toNat 0 20000 [] 0 0 0 ByteArray.empty (by omega) (by omega) rfl (fun hh => by omega)
  · rw [decide_eq_false hr, Bool.not_false, cond_true, if_neg hr]

theorem usc_len (n f c u e : Int) (b : Bool) (l : List ByteArray) (w : WL) : ∀ (m k : Nat) (out : EL), (usc n f c u e b l w m k out).2.length ≤ out.length + m
  | 0, k, out => by simp [usc]
  | m + 1, k, out => by
    rw [usc]
    split
    · simp
    · split
      · simp
      · split
        · simp
        · split
          · simp
          · refine Nat.le_trans (usc_len n f c u e b l w m (k + 1) _) ?_
            simp only [List.length_append, List.length_cons, List.length_nil]
            omega

theorem usG_len (n f c u e : Int) (b : Bool) (l : List ByteArray) (w : WL) : (usG n f c u e b l w).2.length ≤ 320 := by
  unfold usG
  split
  · rename_i hr
    have hu := hr.2.2.2
    have := usc_len n f c u e b l w u.toNat 0 []
    simp only [List.length_nil] at this
    omega
  · simp

/-- Clear. -/
noncomputable def clS (n f c u a : Int) (b : Bool) (d : Int) (l : List ByteArray) (w : WL) : St :=
  if rt n f c u then svS (6 + n + nodes n f c u) Z64 a b d l w else (12, a, b, d, l, w)

theorem clP {β : Type} {m q : Nat} {n f c u a d : Int} {b : Bool} {l : List ByteArray} {w : WL} (h : DS m q a d l w) (hq : q < 5990) {K : Int → Int → Bool → Int → List ByteArray → WL → Option β} :
    f81_1 20000 n f c u a b d l w K = app K (clS n f c u a b d l w) := by
  rw [f81_1, right46, clS]
  by_cases hr : rt n f c u
  · have hu := hr.2.2.2
    have hz : ∀ K : ByteArray → Option β, f69_1 20000 K = K Z64 := fun K => by kernel_rfl
    rw [decide_eq_true hr, Bool.not_true, cond_false, if_pos hr, uareaP hr (by omega), hz, layP h (by omega), Int.mul_zero, Int.add_zero]
  · rw [decide_eq_false hr, Bool.not_false, cond_true, if_neg hr]; rfl

end Go.Proofs.YtlgopekjjkdkiaaGreatDoor.X
end

section
namespace Go.Proofs.YtlgopekjjkdkiaaGreatDoor.X
open Go Go.Proofs.YtlgopekjjkdkiaaGreatDoor.Ev Go.Proofs
set_option linter.unusedVariables false
set_option linter.unusedSectionVars false
/-! pentimentoref07.Data -/
variable [FZ]
end Go.Proofs.YtlgopekjjkdkiaaGreatDoor.X
end

section
namespace Go.Proofs.YtlgopekjjkdkiaaGreatDoor.X
open Go Go.Proofs.YtlgopekjjkdkiaaGreatDoor.Ev Go.Proofs
set_option linter.unusedVariables false
set_option linter.unusedSectionVars false
/-! pentimentoref17.Append -/
variable [FZ]
end Go.Proofs.YtlgopekjjkdkiaaGreatDoor.X
end

section
namespace Go.Proofs.YtlgopekjjkdkiaaGreatDoor.X
open Go Go.Proofs.YtlgopekjjkdkiaaGreatDoor.Ev Go.Proofs
set_option linter.unusedVariables false
set_option linter.unusedSectionVars false
/-! pentimentoref17.Scan -/
variable [FZ]
end Go.Proofs.YtlgopekjjkdkiaaGreatDoor.X
end

section
namespace Go.Proofs.YtlgopekjjkdkiaaGreatDoor.X
open Go Go.Proofs.YtlgopekjjkdkiaaGreatDoor.Ev Go.Proofs
set_option linter.unusedVariables false
set_option linter.unusedSectionVars false
/-! cow.Find -/
variable [FZ]
end Go.Proofs.YtlgopekjjkdkiaaGreatDoor.X
end

section
namespace Go.Proofs.YtlgopekjjkdkiaaGreatDoor.X
open Go Go.Proofs.YtlgopekjjkdkiaaGreatDoor.Ev Go.Proofs
set_option linter.unusedVariables false
set_option linter.unusedSectionVars false
/-! pentimentoref16.Find -/
variable [FZ]
end Go.Proofs.YtlgopekjjkdkiaaGreatDoor.X
end

section
/- Sectors that are kept: the document's; lists of entries; what stays so of a disk. -/
namespace Go.Proofs.YtlgopekjjkdkiaaGreatDoor.X
open Go Go.Proofs.YtlgopekjjkdkiaaGreatDoor.Ev
set_option linter.unusedSectionVars false
variable [FZ]
set_option linter.unusedVariables false
set_option linter.unusedSimpArgs false

theorem areaR {β : Type} {n f c u s k : Int} (hs : s = 0 ∨ s = 1) {K : Int → Option β} : f138_1 20000 n f c u s k K = K (are n f c u (if s = 0 then 2 * c else 2 * u) k) := by
  have hno := nodes_ok n f c u
  rw [f138_1, right47, are]
  by_cases h : rt n f c u
  · have hn := h.1
    have hc := h.2.2.1
    have hu := h.2.2.2
    rw [decide_eq_true h, Bool.not_true, cond_false]
    by_cases h1 : k < 0
    · rw [ct h1, if_neg (fun hh => by omega)]
    · have e : ∀ K : Int → Option β, f84_1 20000 n f c u s K = K (if s = 0 then 2 * c else 2 * u) := by
        intro K
        rw [f84_1]
        rcases hs with rfl | rfl
        · rw [show ((0 : Int) == 0) = true from rfl, cond_true, if_pos rfl, w64 (by omega) (by omega)]
        · rw [show ((1 : Int) == 0) = false from rfl, cond_false, show ((1 : Int) == 1) = true from rfl, cond_true, if_neg (by omega), w64 (by omega) (by omega)]
      rw [cf h1, e]
      generalize hm : (if s = 0 then 2 * c else 2 * u) = m
      have hm2 : m ≤ 640 := by rw [← hm]; split <;> omega
      by_cases h2 : k ≥ m
      · rw [ct h2, if_neg (fun hh => by omega)]
      · rw [cf h2, if_pos ⟨h, by omega, by omega⟩, nodes51, w64 (x := 6 + n) (by omega) (by omega), w64 (x := 6 + n + nodes n f c u) (by omega) (by omega), w64 (by omega) (by omega)]
  · rw [decide_eq_false h, Bool.not_false, cond_true, if_neg (fun hh => h hh.1)]

/-- A write and a flush, then something more. -/
theorem svS_R2 {β : Type} {m k : Nat} {a d : Int} {b : Bool} {l : List ByteArray} {w : WL} {x : Int} {t : ByteArray} (h : DS m k a d l w) (hk : k < 5999) {K0 : Int → Int → Bool → Int → List ByteArray → WL → Option β} {N : Int → Bool → Int → List ByteArray → WL → Option β} :
    f74_1 20000 x t a b d l w (fun e a b c w' => cond (e != 0) (K0 e a b c l w') (f143_1 20000 a b c l w' (fun e2 a2 b2 c2 l2 w2 => cond (e2 != 0) (K0 e2 a2 b2 c2 l2 w2) (N a2 b2 c2 l2 w2)))) =
      if (svS x t a b d l w).1 ≠ 0 then app K0 (svS x t a b d l w) else N (svS x t a b d l w).2.1 (svS x t a b d l w).2.2.1 (svS x t a b d l w).2.2.2.1 (svS x t a b d l w).2.2.2.2.1 (svS x t a b d l w).2.2.2.2.2 := by
  rw [writeR h]
  by_cases q : (wS x t a b d l w).1 = 0
  · have e : svS x t a b d l w = fS (wS x t a b d l w).2.1 (wS x t a b d l w).2.2.1 (wS x t a b d l w).2.2.2.1 l (wS x t a b d l w).2.2.2.2 := by rw [svS, if_neg (fun hh => hh q)]
    rw [e, bnf q, cond_false, flushR (by omega) (wS_ok h (by omega))]
    by_cases q2 : (fS (wS x t a b d l w).2.1 (wS x t a b d l w).2.2.1 (wS x t a b d l w).2.2.2.1 l (wS x t a b d l w).2.2.2.2).1 = 0
    · rw [bnf q2, cond_false, if_neg (fun hh => hh q2)]
    · rw [bnt q2, cond_true, if_pos q2]; rfl
  · have e : svS x t a b d l w = ((wS x t a b d l w).1, (wS x t a b d l w).2.1, (wS x t a b d l w).2.2.1, (wS x t a b d l w).2.2.2.1, l, (wS x t a b d l w).2.2.2.2) := by rw [svS, if_pos q]
    rw [e, if_pos q, bnt q, cond_true]; rfl

end Go.Proofs.YtlgopekjjkdkiaaGreatDoor.X
end
