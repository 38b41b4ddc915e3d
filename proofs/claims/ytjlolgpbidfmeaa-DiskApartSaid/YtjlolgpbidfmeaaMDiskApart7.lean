/- Merged: EvF12, PureW, PureDisk0, PureDisk1, PureDiskApart. -/
import Derived.Test.YtjlolgpbidfmeaaMDiskApart3
import Derived.Test.YtjlolgpbidfmeaaProg
import Derived.KernelRfl
import Derived.Test.YtjlolgpbidfmeaaMDiskApart4
import Derived.Test.YtjlolgpbidfmeaaMDiskApart5
import Derived.Test.YtjlolgpbidfmeaaMDiskApart6
section
namespace Go.Proofs.Ytjlolgpbidfmeaa.X
open Go Go.Proofs.Ytjlolgpbidfmeaa.Ev Go.Proofs
set_option linter.unusedVariables false
set_option linter.unusedSectionVars false
/-! pentimentolaw06.DiskPlays -/
noncomputable def f12_1_l8 [FZ] {β : Type} (F : Nat) (v4 : Int) (v5 : List (Int × (Int × (ByteArray × (Sl .bool))))) (K0 : Option β) : Nat → Option β
  | 0 => none
  | k + 1 => cond (decide (v4 < ((v5.length : Nat) : Int))) (K0) (K0)
noncomputable def f12_1_l8_2 [FZ] {β : Type} (F : Nat) (v14 : List (Int × (Int × (ByteArray × (Sl .bool))))) (K0 : Int → Bool → Int → List ByteArray → List (Int × ByteArray) → Int → Bool → Int → List ByteArray → List (Int × ByteArray) → Option β) (K1 : Int → Bool → Int → List ByteArray → List (Int × ByteArray) → Int → Bool → Int → List ByteArray → List (Int × ByteArray) → Option β) (K2 : Int → Bool → Int → List ByteArray → Int → Bool → Int → List ByteArray → List (Int × ByteArray) → List (Int × ByteArray) → Option β) (K3 : Int → Bool → Int → List ByteArray → Int → Bool → Int → List ByteArray → List (Int × ByteArray) → List (Int × ByteArray) → Option β) (K4 : Int → Bool → Int → List ByteArray → List (Int × ByteArray) → Int → Bool → Int → List ByteArray → List (Int × ByteArray) → List (Int × ByteArray) → Option β) (K5 : Int → Bool → Int → List ByteArray → List (Int × ByteArray) → Int → Bool → Int → List ByteArray → List (Int × ByteArray) → List (Int × ByteArray) → Option β) (K6 : Int → Bool → Int → List ByteArray → List (Int × ByteArray) → Int → Bool → Int → List ByteArray → List (Int × ByteArray) → List (Int × ByteArray) → List (Int × ByteArray) → Option β) (K7 : Int → Bool → Int → List ByteArray → List (Int × ByteArray) → Int → Bool → Int → List ByteArray → List (Int × ByteArray) → Option β) : Nat → Int → Int → Bool → Int → List ByteArray → List (Int × ByteArray) → Int → Bool → Int → List ByteArray → List (Int × ByteArray) → Option β
  | 0, _, _, _, _, _, _, _, _, _, _, _ => none
  | k + 1, v13, v15, v16, v17, v18, v19, v20, v21, v22, v23, v24 => cond (decide (v13 < ((v14.length : Nat) : Int))) (cond (decide ((0 : Int) ≤ v13 ∧ v13 < ((v14.length : Nat) : Int))) (cond (decide (0 + v13.toNat < v14.length)) (f53_1 F ((v14.getD (0 + v13.toNat) (0, (0, (ByteArray.empty, (Sl.nil .bool))))).1) (((v14.getD (0 + v13.toNat) (0, (0, (ByteArray.empty, (Sl.nil .bool))))).2).1) ((((v14.getD (0 + v13.toNat) (0, (0, (ByteArray.empty, (Sl.nil .bool))))).2).2).1) ((((v14.getD (0 + v13.toNat) (0, (0, (ByteArray.empty, (Sl.nil .bool))))).2).2).2) v15 v16 v17 v18 v19 v20 v21 v22 v23 v24 (fun x25 x26 x27 x28 x29 x30 x31 => cond (!x25) (K0 x26 x27 x28 v18 v19 x29 x30 x31 v23 v24) (f59_1 F x26 x27 x28 v18 v19 x29 x30 x31 v23 v24 (fun x32 => cond (!x32) (K0 x26 x27 x28 v18 v19 x29 x30 x31 v23 v24) (f12_1_l8_2 F v14 K0 K1 K2 K3 K4 K5 K6 K7 k (IntKind.i64.wrap (v13 + 1)) x26 x27 x28 v18 v19 x29 x30 x31 v23 v24)) )) (fun x33 x34 x35 x36 x37 x38 x39 x40 => cond (!x33) (K1 x34 x35 x36 v18 v19 x37 x38 x39 v23 x40) (f59_1 F x34 x35 x36 v18 v19 x37 x38 x39 v23 x40 (fun x41 => cond (!x41) (K1 x34 x35 x36 v18 v19 x37 x38 x39 v23 x40) (f12_1_l8_2 F v14 K0 K1 K2 K3 K4 K5 K6 K7 k (IntKind.i64.wrap (v13 + 1)) x34 x35 x36 v18 v19 x37 x38 x39 v23 x40)) )) (fun x42 x43 x44 x45 x46 x47 x48 x49 => cond (!x42) (K2 x43 x44 x45 v18 x46 x47 x48 v23 v24 x49) (f59_1 F x43 x44 x45 v18 x49 x46 x47 x48 v23 v24 (fun x50 => cond (!x50) (K2 x43 x44 x45 v18 x46 x47 x48 v23 v24 x49) (f12_1_l8_2 F v14 K0 K1 K2 K3 K4 K5 K6 K7 k (IntKind.i64.wrap (v13 + 1)) x43 x44 x45 v18 x49 x46 x47 x48 v23 v24)) )) (fun x51 x52 x53 x54 x55 x56 x57 x58 => f59_1 F x51 x52 x53 v18 x57 x54 x55 x56 v23 x58 (fun x59 => cond (!x59) (K3 x51 x52 x53 v18 x54 x55 x56 v23 x57 x58) (f12_1_l8_2 F v14 K0 K1 K2 K3 K4 K5 K6 K7 k (IntKind.i64.wrap (v13 + 1)) x51 x52 x53 v18 x57 x54 x55 x56 v23 x58)) ) (fun x60 x61 x62 x63 x64 x65 x66 x67 => K4 x60 x61 x62 v18 v19 x63 x64 x65 x66 v24 x67) (fun x68 x69 x70 x71 x72 x73 x74 x75 => K5 x68 x69 x70 x71 v19 x72 x73 x74 v23 v24 x75) (fun x76 x77 x78 x79 x80 x81 x82 x83 x84 x85 => f59_1 F x76 x77 x78 x79 x84 x80 x81 x82 x83 x85 (fun x86 => cond (!x86) (K6 x76 x77 x78 x79 v19 x80 x81 x82 x83 v24 x84 x85) (f12_1_l8_2 F v14 K0 K1 K2 K3 K4 K5 K6 K7 k (IntKind.i64.wrap (v13 + 1)) x76 x77 x78 x79 x84 x80 x81 x82 x83 x85)) ) ) none) none) (K7 v15 v16 v17 v18 v19 v20 v21 v22 v23 v24)
noncomputable def f12_1 [FZ] {β : Type} (F : Nat) (a1 : Int) (a2 : List (Int × (Int × (ByteArray × (Sl .bool))))) (K0 : Bool → Option β) : Option β := f49_1 F a2 (fun x1 => cond (!x1) (f50_1 F  (fun x2 => K0 x2) ) (cond (decide (a1 > 40)) (f50_1 F  (fun x3 => K0 x3) ) (f51_1 F a1 (f52_1 F a1 (f12_1_l8 F 0 a2 (f50_1 F  (fun x6 => K0 x6) ) F) (fun x7 x8 => K0 false) ) (fun x9 x10 => f52_1 F a1 (K0 false) (fun x11 x12 => f12_1_l8_2 F a2 (fun x87 x88 x89 x90 x91 x92 x93 x94 x95 x96 => K0 false) (fun x97 x98 x99 x100 x101 x102 x103 x104 x105 x106 => K0 false) (fun x107 x108 x109 x110 x111 x112 x113 x114 x115 x116 => K0 false) (fun x117 x118 x119 x120 x121 x122 x123 x124 x125 x126 => K0 false) (fun x127 x128 x129 x130 x131 x132 x133 x134 x135 x136 x137 => K0 false) (fun x138 x139 x140 x141 x142 x143 x144 x145 x146 x147 x148 => K0 false) (fun x149 x150 x151 x152 x153 x154 x155 x156 x157 x158 x159 x160 => K0 false) (fun x161 x162 x163 x164 x165 x166 x167 x168 x169 x170 => f50_1 F  (fun x171 => K0 x171) ) F 0 (-1) false 0 x9 x10 (-1) false 0 x11 x12) ) ))) 
variable [FZ]
def sh12_1 : Sh := ⟨[.lf (.int .i64), .lf (.full 0)], [some ⟨none, [.seq (.pair (.int .i64) (.pair (.int .i64) (.pair .str (.sl .bool)))) 0]⟩]⟩
noncomputable def S12_1 (F : Nat) (o : Summ) : Summ := mkS sh12_1 (fun d K => f12_1 F d.1.1 d.2.1.2.1 (fun (y0 : Bool) => K [.lf (.bool y0)] [some ⟨d.2.1.1, [.seq (.pair (.int .i64) (.pair (.int .i64) (.pair .str (.sl .bool)))) 0 d.2.1.2.1]⟩])) o
noncomputable def code12 : Code := bodyOf Try.f12
noncomputable def b12_0 : Code := cB (cB (cR (cL (cR (cR (cR (cR (cR (code12)))))))))
theorem scopes12 : scopesOf code12 = [] := by kernel_rfl
theorem ranges12 : rangesOf code12 = [] := by kernel_rfl
theorem loops12 : loopsOf code12 = [b12_0] := by kernel_rfl
theorem enter12 : ∀ args w, (callFunc 12 args).run Try.prog w = .ok (.enter 12 args) w := enter_of (fn := Try.f12) (by kernel_rfl) (by kernel_rfl) (by kernel_rfl)
noncomputable def T12_1 (F : Nat) : FuncId → Option Summ := tab [(49, (S49_1 F noS)), (50, (S50_1 F noS)), (51, (S51_1 F noS)), (52, (S52_1 F noS)), (53, (S53_1 F noS)), (59, (S59_1 F noS))]
def sh12_1_l8 : Sh := ⟨[.lf (.full 0), .lf (.nilp), .lf (.nilp), .lf (.int .i64)], [some ⟨none, [.seq (.pair (.int .i64) (.pair (.int .i64) (.pair .str (.sl .bool)))) 0]⟩]⟩
def sh12_1_l8_2 : Sh := ⟨[.lf (.full 0), .lf (.ptr 1 0), .lf (.ptr 4 0), .lf (.int .i64)], [some ⟨none, [.seq (.pair (.int .i64) (.pair (.int .i64) (.pair .str (.sl .bool)))) 0]⟩, some ⟨some false, [.full 2, .full 3, .int .i64, .bool, .int .i64]⟩, some ⟨some false, [.seq .str 0]⟩, some ⟨some false, [.seq (.pair (.int .i64) .str) 0]⟩, some ⟨some false, [.full 5, .full 6, .int .i64, .bool, .int .i64]⟩, some ⟨some false, [.seq .str 0]⟩, some ⟨some false, [.seq (.pair (.int .i64) .str) 0]⟩]⟩
noncomputable def G12_1_8 (F k : Nat) : LoopS := orG sh12_1_l8 (fun d K => f12_1_l8 F d.1.2.2.2.1 d.2.1.2.1 (K (.exit 0) [] [some ⟨d.2.1.1, [.seq (.pair (.int .i64) (.pair (.int .i64) (.pair .str (.sl .bool)))) 0 d.2.1.2.1]⟩]) k) (mkG sh12_1_l8_2 [1, 5, 7, 9] (outT [(.exit 0, []), (.ret, [4])]) (fun d K => f12_1_l8_2 F d.2.1.2.1 (fun (y2 : Int) (y3 : Bool) (y4 : Int) (y5 : List ByteArray) (y6 : List (Int × ByteArray)) (y7 : Int) (y8 : Bool) (y9 : Int) (y10 : List ByteArray) (y11 : List (Int × ByteArray)) => K .ret [.tv (.lf (.bool false))] [some ⟨d.2.1.1, [.seq (.pair (.int .i64) (.pair (.int .i64) (.pair .str (.sl .bool)))) 0 d.2.1.2.1]⟩, some ⟨false, [.full 2, .full 3, .int .i64 y2, .bool y3, .int .i64 y4]⟩, some ⟨false, [.seq .str 0 y5]⟩, some ⟨false, [.seq (.pair (.int .i64) .str) 0 y6]⟩, some ⟨false, [.full 5, .full 6, .int .i64 y7, .bool y8, .int .i64 y9]⟩, some ⟨false, [.seq .str 0 y10]⟩, some ⟨false, [.seq (.pair (.int .i64) .str) 0 y11]⟩]) (fun (y2 : Int) (y3 : Bool) (y4 : Int) (y5 : List ByteArray) (y6 : List (Int × ByteArray)) (y7 : Int) (y8 : Bool) (y9 : Int) (y10 : List ByteArray) (y11 : List (Int × ByteArray)) => K .ret [.tv (.lf (.bool false))] [some ⟨d.2.1.1, [.seq (.pair (.int .i64) (.pair (.int .i64) (.pair .str (.sl .bool)))) 0 d.2.1.2.1]⟩, some ⟨false, [.full 2, .full 3, .int .i64 y2, .bool y3, .int .i64 y4]⟩, some ⟨false, [.seq .str 0 y5]⟩, some ⟨false, [.seq (.pair (.int .i64) .str) 0 y6]⟩, some ⟨false, [.full 5, .full 7, .int .i64 y7, .bool y8, .int .i64 y9]⟩, some ⟨false, [.seq .str 0 y10]⟩, none, some ⟨false, [.seq (.pair (.int .i64) .str) 0 y11]⟩]) (fun (y2 : Int) (y3 : Bool) (y4 : Int) (y5 : List ByteArray) (y6 : Int) (y7 : Bool) (y8 : Int) (y9 : List ByteArray) (y10 : List (Int × ByteArray)) (y11 : List (Int × ByteArray)) => K .ret [.tv (.lf (.bool false))] [some ⟨d.2.1.1, [.seq (.pair (.int .i64) (.pair (.int .i64) (.pair .str (.sl .bool)))) 0 d.2.1.2.1]⟩, some ⟨false, [.full 2, .full 7, .int .i64 y2, .bool y3, .int .i64 y4]⟩, some ⟨false, [.seq .str 0 y5]⟩, none, some ⟨false, [.full 5, .full 6, .int .i64 y6, .bool y7, .int .i64 y8]⟩, some ⟨false, [.seq .str 0 y9]⟩, some ⟨false, [.seq (.pair (.int .i64) .str) 0 y10]⟩, some ⟨false, [.seq (.pair (.int .i64) .str) 0 y11]⟩]) (fun (y2 : Int) (y3 : Bool) (y4 : Int) (y5 : List ByteArray) (y6 : Int) (y7 : Bool) (y8 : Int) (y9 : List ByteArray) (y10 : List (Int × ByteArray)) (y11 : List (Int × ByteArray)) => K .ret [.tv (.lf (.bool false))] [some ⟨d.2.1.1, [.seq (.pair (.int .i64) (.pair (.int .i64) (.pair .str (.sl .bool)))) 0 d.2.1.2.1]⟩, some ⟨false, [.full 2, .full 7, .int .i64 y2, .bool y3, .int .i64 y4]⟩, some ⟨false, [.seq .str 0 y5]⟩, none, some ⟨false, [.full 5, .full 8, .int .i64 y6, .bool y7, .int .i64 y8]⟩, some ⟨false, [.seq .str 0 y9]⟩, none, some ⟨false, [.seq (.pair (.int .i64) .str) 0 y10]⟩, some ⟨false, [.seq (.pair (.int .i64) .str) 0 y11]⟩]) (fun (y2 : Int) (y3 : Bool) (y4 : Int) (y5 : List ByteArray) (y6 : List (Int × ByteArray)) (y7 : Int) (y8 : Bool) (y9 : Int) (y10 : List ByteArray) (y11 : List (Int × ByteArray)) (y12 : List (Int × ByteArray)) => K .ret [.tv (.lf (.bool false))] [some ⟨d.2.1.1, [.seq (.pair (.int .i64) (.pair (.int .i64) (.pair .str (.sl .bool)))) 0 d.2.1.2.1]⟩, some ⟨false, [.full 2, .full 3, .int .i64 y2, .bool y3, .int .i64 y4]⟩, some ⟨false, [.seq .str 0 y5]⟩, some ⟨false, [.seq (.pair (.int .i64) .str) 0 y6]⟩, some ⟨false, [.full 5, .full 7, .int .i64 y7, .bool y8, .int .i64 y9]⟩, some ⟨false, [.seq .str 0 y10]⟩, some ⟨false, [.seq (.pair (.int .i64) .str) 0 y11]⟩, some ⟨false, [.seq (.pair (.int .i64) .str) 0 y12]⟩]) (fun (y2 : Int) (y3 : Bool) (y4 : Int) (y5 : List ByteArray) (y6 : List (Int × ByteArray)) (y7 : Int) (y8 : Bool) (y9 : Int) (y10 : List ByteArray) (y11 : List (Int × ByteArray)) (y12 : List (Int × ByteArray)) => K .ret [.tv (.lf (.bool false))] [some ⟨d.2.1.1, [.seq (.pair (.int .i64) (.pair (.int .i64) (.pair .str (.sl .bool)))) 0 d.2.1.2.1]⟩, some ⟨false, [.full 2, .full 7, .int .i64 y2, .bool y3, .int .i64 y4]⟩, some ⟨false, [.seq .str 0 y5]⟩, some ⟨false, [.seq (.pair (.int .i64) .str) 0 y6]⟩, some ⟨false, [.full 5, .full 6, .int .i64 y7, .bool y8, .int .i64 y9]⟩, some ⟨false, [.seq .str 0 y10]⟩, some ⟨false, [.seq (.pair (.int .i64) .str) 0 y11]⟩, some ⟨false, [.seq (.pair (.int .i64) .str) 0 y12]⟩]) (fun (y2 : Int) (y3 : Bool) (y4 : Int) (y5 : List ByteArray) (y6 : List (Int × ByteArray)) (y7 : Int) (y8 : Bool) (y9 : Int) (y10 : List ByteArray) (y11 : List (Int × ByteArray)) (y12 : List (Int × ByteArray)) (y13 : List (Int × ByteArray)) => K .ret [.tv (.lf (.bool false))] [some ⟨d.2.1.1, [.seq (.pair (.int .i64) (.pair (.int .i64) (.pair .str (.sl .bool)))) 0 d.2.1.2.1]⟩, some ⟨false, [.full 2, .full 7, .int .i64 y2, .bool y3, .int .i64 y4]⟩, some ⟨false, [.seq .str 0 y5]⟩, some ⟨false, [.seq (.pair (.int .i64) .str) 0 y6]⟩, some ⟨false, [.full 5, .full 8, .int .i64 y7, .bool y8, .int .i64 y9]⟩, some ⟨false, [.seq .str 0 y10]⟩, some ⟨false, [.seq (.pair (.int .i64) .str) 0 y11]⟩, some ⟨false, [.seq (.pair (.int .i64) .str) 0 y12]⟩, some ⟨false, [.seq (.pair (.int .i64) .str) 0 y13]⟩]) (fun (y1 : Int) (y2 : Bool) (y3 : Int) (y4 : List ByteArray) (y5 : List (Int × ByteArray)) (y6 : Int) (y7 : Bool) (y8 : Int) (y9 : List ByteArray) (y10 : List (Int × ByteArray)) => K (.exit 0) [] [some ⟨d.2.1.1, [.seq (.pair (.int .i64) (.pair (.int .i64) (.pair .str (.sl .bool)))) 0 d.2.1.2.1]⟩, some ⟨false, [.full 2, .full 3, .int .i64 y1, .bool y2, .int .i64 y3]⟩, some ⟨false, [.seq .str 0 y4]⟩, some ⟨false, [.seq (.pair (.int .i64) .str) 0 y5]⟩, some ⟨false, [.full 5, .full 6, .int .i64 y6, .bool y7, .int .i64 y8]⟩, some ⟨false, [.seq .str 0 y9]⟩, some ⟨false, [.seq (.pair (.int .i64) .str) 0 y10]⟩]) k d.1.2.2.2.1 d.2.2.1.2.2.2.1 d.2.2.1.2.2.2.2.1 d.2.2.1.2.2.2.2.2.1 d.2.2.2.1.2.1 d.2.2.2.2.1.2.1 d.2.2.2.2.2.1.2.2.2.1 d.2.2.2.2.2.1.2.2.2.2.1 d.2.2.2.2.2.1.2.2.2.2.2.1 d.2.2.2.2.2.2.1.2.1 d.2.2.2.2.2.2.2.1.2.1) [])
noncomputable def LT12_1 (F : Nat) : Nat → Option LoopS := ltab [(8, G12_1_8 F F)]
theorem L12_1_l8g (F k : Nat) (c49_1 : List (Int × (Int × (ByteArray × (Sl .bool)))) → (Bool → Option Res) → Option Res) (c50_1 : (Bool → Option Res) → Option Res) (c51_1 : Int → (Option Res) → (List ByteArray → List (Int × ByteArray) → Option Res) → Option Res) (c52_1 : Int → (Option Res) → (List ByteArray → List (Int × ByteArray) → Option Res) → Option Res) (c53_1 : Int → Int → ByteArray → Sl .bool → Int → Bool → Int → List ByteArray → List (Int × ByteArray) → Int → Bool → Int → List ByteArray → List (Int × ByteArray) → (Bool → Int → Bool → Int → Int → Bool → Int → Option Res) → (Bool → Int → Bool → Int → Int → Bool → Int → List (Int × ByteArray) → Option Res) → (Bool → Int → Bool → Int → Int → Bool → Int → List (Int × ByteArray) → Option Res) → (Int → Bool → Int → Int → Bool → Int → List (Int × ByteArray) → List (Int × ByteArray) → Option Res) → (Int → Bool → Int → Int → Bool → Int → List ByteArray → List (Int × ByteArray) → Option Res) → (Int → Bool → Int → List ByteArray → Int → Bool → Int → List (Int × ByteArray) → Option Res) → (Int → Bool → Int → List ByteArray → Int → Bool → Int → List ByteArray → List (Int × ByteArray) → List (Int × ByteArray) → Option Res) → Option Res) (c59_1 : Int → Bool → Int → List ByteArray → List (Int × ByteArray) → Int → Bool → Int → List ByteArray → List (Int × ByteArray) → (Bool → Option Res) → Option Res)  (l8 : Int → List (Int × (Int × (ByteArray × (Sl .bool)))) → (Option Res) → Nat → Option Res) (l8_2 : List (Int × (Int × (ByteArray × (Sl .bool)))) → (Int → Bool → Int → List ByteArray → List (Int × ByteArray) → Int → Bool → Int → List ByteArray → List (Int × ByteArray) → Option Res) → (Int → Bool → Int → List ByteArray → List (Int × ByteArray) → Int → Bool → Int → List ByteArray → List (Int × ByteArray) → Option Res) → (Int → Bool → Int → List ByteArray → Int → Bool → Int → List ByteArray → List (Int × ByteArray) → List (Int × ByteArray) → Option Res) → (Int → Bool → Int → List ByteArray → Int → Bool → Int → List ByteArray → List (Int × ByteArray) → List (Int × ByteArray) → Option Res) → (Int → Bool → Int → List ByteArray → List (Int × ByteArray) → Int → Bool → Int → List ByteArray → List (Int × ByteArray) → List (Int × ByteArray) → Option Res) → (Int → Bool → Int → List ByteArray → List (Int × ByteArray) → Int → Bool → Int → List ByteArray → List (Int × ByteArray) → List (Int × ByteArray) → Option Res) → (Int → Bool → Int → List ByteArray → List (Int × ByteArray) → Int → Bool → Int → List ByteArray → List (Int × ByteArray) → List (Int × ByteArray) → List (Int × ByteArray) → Option Res) → (Int → Bool → Int → List ByteArray → List (Int × ByteArray) → Int → Bool → Int → List ByteArray → List (Int × ByteArray) → Option Res) → Nat → Int → Int → Bool → Int → List ByteArray → List (Int × ByteArray) → Int → Bool → Int → List ByteArray → List (Int × ByteArray) → Option Res) (X8 : LoopS) (d : sh12_1_l8.den) (K : KL) : (fun (v4 : Int) (v5 : List (Int × (Int × (ByteArray × (Sl .bool))))) (K0 : (Option Res)) (k : Nat)  => cond (decide (v4 < ((v5.length : Nat) : Int))) (K0) (K0)) d.1.2.2.2.1 d.2.1.2.1 (K (.exit 0) [] [some ⟨d.2.1.1, [.seq (.pair (.int .i64) (.pair (.int .i64) (.pair .str (.sl .bool)))) 0 d.2.1.2.1]⟩]) k = roundOf Try.prog (tab [(49, (mkS sh49_1 (fun d K => c49_1 d.2.1.2.1 (fun (y0 : Bool) => K [.lf (.bool y0)] [some ⟨d.2.1.1, [.seq (.pair (.int .i64) (.pair (.int .i64) (.pair .str (.sl .bool)))) 0 d.2.1.2.1]⟩])) noS)), (50, (mkS sh50_1 (fun d K => c50_1 (fun (y0 : Bool) => K [.lf (.bool y0)] [])) noS)), (51, (mkS sh51_1 (fun d K => c51_1 d.1.1 (K [.lf (.nilp), .lf (.int .i64 2)] []) (fun (y4 : List ByteArray) (y5 : List (Int × ByteArray)) => K [.lf (.ptr 0 0), .lf (.int .i64 0)] [some ⟨false, [.full 1, .full 2, .int .i64 (-1), .bool false, .int .i64 0]⟩, some ⟨false, [.seq .str 0 y4]⟩, some ⟨false, [.seq (.pair (.int .i64) .str) 0 y5]⟩])) noS)), (52, (mkS sh52_1 (fun d K => c52_1 d.1.1 (K [.lf (.nilp), .lf (.int .i64 2)] []) (fun (y4 : List ByteArray) (y5 : List (Int × ByteArray)) => K [.lf (.ptr 0 0), .lf (.int .i64 0)] [some ⟨false, [.full 1, .full 2, .int .i64 (-1), .bool false, .int .i64 0]⟩, some ⟨false, [.seq .str 0 y4]⟩, some ⟨false, [.seq (.pair (.int .i64) .str) 0 y5]⟩])) noS)), (53, (mkS sh53_1 (fun d K => c53_1 d.1.2.2.1.1 d.1.2.2.1.2.1 d.1.2.2.1.2.2.1 d.1.2.2.1.2.2.2.1 d.2.1.2.2.2.1 d.2.1.2.2.2.2.1 d.2.1.2.2.2.2.2.1 d.2.2.1.2.1 d.2.2.2.1.2.1 d.2.2.2.2.1.2.2.2.1 d.2.2.2.2.1.2.2.2.2.1 d.2.2.2.2.1.2.2.2.2.2.1 d.2.2.2.2.2.1.2.1 d.2.2.2.2.2.2.1.2.1 (fun (y0 : Bool) (y1 : Int) (y2 : Bool) (y3 : Int) (y6 : Int) (y7 : Bool) (y8 : Int) => K [.lf (.bool y0)] [some ⟨false, [.full 1, .full 2, .int .i64 y1, .bool y2, .int .i64 y3]⟩, some ⟨false, [.seq .str 0 d.2.2.1.2.1]⟩, some ⟨false, [.seq (.pair (.int .i64) .str) 0 d.2.2.2.1.2.1]⟩, some ⟨false, [.full 4, .full 5, .int .i64 y6, .bool y7, .int .i64 y8]⟩, some ⟨false, [.seq .str 0 d.2.2.2.2.2.1.2.1]⟩, some ⟨false, [.seq (.pair (.int .i64) .str) 0 d.2.2.2.2.2.2.1.2.1]⟩]) (fun (y0 : Bool) (y1 : Int) (y2 : Bool) (y3 : Int) (y6 : Int) (y7 : Bool) (y8 : Int) (y10 : List (Int × ByteArray)) => K [.lf (.bool y0)] [some ⟨false, [.full 1, .full 2, .int .i64 y1, .bool y2, .int .i64 y3]⟩, some ⟨false, [.seq .str 0 d.2.2.1.2.1]⟩, some ⟨false, [.seq (.pair (.int .i64) .str) 0 d.2.2.2.1.2.1]⟩, some ⟨false, [.full 4, .full 6, .int .i64 y6, .bool y7, .int .i64 y8]⟩, some ⟨false, [.seq .str 0 d.2.2.2.2.2.1.2.1]⟩, none, some ⟨false, [.seq (.pair (.int .i64) .str) 0 y10]⟩]) (fun (y0 : Bool) (y1 : Int) (y2 : Bool) (y3 : Int) (y5 : Int) (y6 : Bool) (y7 : Int) (y10 : List (Int × ByteArray)) => K [.lf (.bool y0)] [some ⟨false, [.full 1, .full 6, .int .i64 y1, .bool y2, .int .i64 y3]⟩, some ⟨false, [.seq .str 0 d.2.2.1.2.1]⟩, none, some ⟨false, [.full 4, .full 5, .int .i64 y5, .bool y6, .int .i64 y7]⟩, some ⟨false, [.seq .str 0 d.2.2.2.2.2.1.2.1]⟩, some ⟨false, [.seq (.pair (.int .i64) .str) 0 d.2.2.2.2.2.2.1.2.1]⟩, some ⟨false, [.seq (.pair (.int .i64) .str) 0 y10]⟩]) (fun (y1 : Int) (y2 : Bool) (y3 : Int) (y5 : Int) (y6 : Bool) (y7 : Int) (y9 : List (Int × ByteArray)) (y10 : List (Int × ByteArray)) => K [.lf (.bool true)] [some ⟨false, [.full 1, .full 6, .int .i64 y1, .bool y2, .int .i64 y3]⟩, some ⟨false, [.seq .str 0 d.2.2.1.2.1]⟩, none, some ⟨false, [.full 4, .full 7, .int .i64 y5, .bool y6, .int .i64 y7]⟩, some ⟨false, [.seq .str 0 d.2.2.2.2.2.1.2.1]⟩, none, some ⟨false, [.seq (.pair (.int .i64) .str) 0 y9]⟩, some ⟨false, [.seq (.pair (.int .i64) .str) 0 y10]⟩]) (fun (y1 : Int) (y2 : Bool) (y3 : Int) (y6 : Int) (y7 : Bool) (y8 : Int) (y9 : List ByteArray) (y11 : List (Int × ByteArray)) => K [.lf (.bool false)] [some ⟨false, [.full 1, .full 2, .int .i64 y1, .bool y2, .int .i64 y3]⟩, some ⟨false, [.seq .str 0 d.2.2.1.2.1]⟩, some ⟨false, [.seq (.pair (.int .i64) .str) 0 d.2.2.2.1.2.1]⟩, some ⟨false, [.full 4, .full 6, .int .i64 y6, .bool y7, .int .i64 y8]⟩, some ⟨false, [.seq .str 0 y9]⟩, some ⟨false, [.seq (.pair (.int .i64) .str) 0 d.2.2.2.2.2.2.1.2.1]⟩, some ⟨false, [.seq (.pair (.int .i64) .str) 0 y11]⟩]) (fun (y1 : Int) (y2 : Bool) (y3 : Int) (y4 : List ByteArray) (y6 : Int) (y7 : Bool) (y8 : Int) (y11 : List (Int × ByteArray)) => K [.lf (.bool false)] [some ⟨false, [.full 1, .full 6, .int .i64 y1, .bool y2, .int .i64 y3]⟩, some ⟨false, [.seq .str 0 y4]⟩, some ⟨false, [.seq (.pair (.int .i64) .str) 0 d.2.2.2.1.2.1]⟩, some ⟨false, [.full 4, .full 5, .int .i64 y6, .bool y7, .int .i64 y8]⟩, some ⟨false, [.seq .str 0 d.2.2.2.2.2.1.2.1]⟩, some ⟨false, [.seq (.pair (.int .i64) .str) 0 d.2.2.2.2.2.2.1.2.1]⟩, some ⟨false, [.seq (.pair (.int .i64) .str) 0 y11]⟩]) (fun (y1 : Int) (y2 : Bool) (y3 : Int) (y4 : List ByteArray) (y6 : Int) (y7 : Bool) (y8 : Int) (y9 : List ByteArray) (y11 : List (Int × ByteArray)) (y12 : List (Int × ByteArray)) => K [.lf (.bool true)] [some ⟨false, [.full 1, .full 6, .int .i64 y1, .bool y2, .int .i64 y3]⟩, some ⟨false, [.seq .str 0 y4]⟩, some ⟨false, [.seq (.pair (.int .i64) .str) 0 d.2.2.2.1.2.1]⟩, some ⟨false, [.full 4, .full 7, .int .i64 y6, .bool y7, .int .i64 y8]⟩, some ⟨false, [.seq .str 0 y9]⟩, some ⟨false, [.seq (.pair (.int .i64) .str) 0 d.2.2.2.2.2.2.1.2.1]⟩, some ⟨false, [.seq (.pair (.int .i64) .str) 0 y11]⟩, some ⟨false, [.seq (.pair (.int .i64) .str) 0 y12]⟩])) noS)), (59, (mkS sh59_1 (fun d K => c59_1 d.2.1.2.2.2.1 d.2.1.2.2.2.2.1 d.2.1.2.2.2.2.2.1 d.2.2.1.2.1 d.2.2.2.1.2.1 d.2.2.2.2.1.2.2.2.1 d.2.2.2.2.1.2.2.2.2.1 d.2.2.2.2.1.2.2.2.2.2.1 d.2.2.2.2.2.1.2.1 d.2.2.2.2.2.2.1.2.1 (fun (y0 : Bool) => K [.lf (.bool y0)] [some ⟨d.2.1.1, [.full 1, .full 2, .int .i64 d.2.1.2.2.2.1, .bool d.2.1.2.2.2.2.1, .int .i64 d.2.1.2.2.2.2.2.1]⟩, some ⟨d.2.2.1.1, [.seq .str 0 d.2.2.1.2.1]⟩, some ⟨d.2.2.2.1.1, [.seq (.pair (.int .i64) .str) 0 d.2.2.2.1.2.1]⟩, some ⟨d.2.2.2.2.1.1, [.full 4, .full 5, .int .i64 d.2.2.2.2.1.2.2.2.1, .bool d.2.2.2.2.1.2.2.2.2.1, .int .i64 d.2.2.2.2.1.2.2.2.2.2.1]⟩, some ⟨d.2.2.2.2.2.1.1, [.seq .str 0 d.2.2.2.2.2.1.2.1]⟩, some ⟨d.2.2.2.2.2.2.1.1, [.seq (.pair (.int .i64) .str) 0 d.2.2.2.2.2.2.1.2.1]⟩])) noS))]) (xw []) 63 1 (ltab [(8, X8)]) (orG sh12_1_l8 (fun d K => l8 d.1.2.2.2.1 d.2.1.2.1 (K (.exit 0) [] [some ⟨d.2.1.1, [.seq (.pair (.int .i64) (.pair (.int .i64) (.pair .str (.sl .bool)))) 0 d.2.1.2.1]⟩]) k) (mkG sh12_1_l8_2 [1, 5, 7, 9] (outT [(.exit 0, []), (.ret, [4])]) (fun d K => l8_2 d.2.1.2.1 (fun (y2 : Int) (y3 : Bool) (y4 : Int) (y5 : List ByteArray) (y6 : List (Int × ByteArray)) (y7 : Int) (y8 : Bool) (y9 : Int) (y10 : List ByteArray) (y11 : List (Int × ByteArray)) => K .ret [.tv (.lf (.bool false))] [some ⟨d.2.1.1, [.seq (.pair (.int .i64) (.pair (.int .i64) (.pair .str (.sl .bool)))) 0 d.2.1.2.1]⟩, some ⟨false, [.full 2, .full 3, .int .i64 y2, .bool y3, .int .i64 y4]⟩, some ⟨false, [.seq .str 0 y5]⟩, some ⟨false, [.seq (.pair (.int .i64) .str) 0 y6]⟩, some ⟨false, [.full 5, .full 6, .int .i64 y7, .bool y8, .int .i64 y9]⟩, some ⟨false, [.seq .str 0 y10]⟩, some ⟨false, [.seq (.pair (.int .i64) .str) 0 y11]⟩]) (fun (y2 : Int) (y3 : Bool) (y4 : Int) (y5 : List ByteArray) (y6 : List (Int × ByteArray)) (y7 : Int) (y8 : Bool) (y9 : Int) (y10 : List ByteArray) (y11 : List (Int × ByteArray)) => K .ret [.tv (.lf (.bool false))] [some ⟨d.2.1.1, [.seq (.pair (.int .i64) (.pair (.int .i64) (.pair .str (.sl .bool)))) 0 d.2.1.2.1]⟩, some ⟨false, [.full 2, .full 3, .int .i64 y2, .bool y3, .int .i64 y4]⟩, some ⟨false, [.seq .str 0 y5]⟩, some ⟨false, [.seq (.pair (.int .i64) .str) 0 y6]⟩, some ⟨false, [.full 5, .full 7, .int .i64 y7, .bool y8, .int .i64 y9]⟩, some ⟨false, [.seq .str 0 y10]⟩, none, some ⟨false, [.seq (.pair (.int .i64) .str) 0 y11]⟩]) (fun (y2 : Int) (y3 : Bool) (y4 : Int) (y5 : List ByteArray) (y6 : Int) (y7 : Bool) (y8 : Int) (y9 : List ByteArray) (y10 : List (Int × ByteArray)) (y11 : List (Int × ByteArray)) => K .ret [.tv (.lf (.bool false))] [some ⟨d.2.1.1, [.seq (.pair (.int .i64) (.pair (.int .i64) (.pair .str (.sl .bool)))) 0 d.2.1.2.1]⟩, some ⟨false, [.full 2, .full 7, .int .i64 y2, .bool y3, .int .i64 y4]⟩, some ⟨false, [.seq .str 0 y5]⟩, none, some ⟨false, [.full 5, .full 6, .int .i64 y6, .bool y7, .int .i64 y8]⟩, some ⟨false, [.seq .str 0 y9]⟩, some ⟨false, [.seq (.pair (.int .i64) .str) 0 y10]⟩, some ⟨false, [.seq (.pair (.int .i64) .str) 0 y11]⟩]) (fun (y2 : Int) (y3 : Bool) (y4 : Int) (y5 : List ByteArray) (y6 : Int) (y7 : Bool) (y8 : Int) (y9 : List ByteArray) (y10 : List (Int × ByteArray)) (y11 : List (Int × ByteArray)) => K .ret [.tv (.lf (.bool false))] [some ⟨d.2.1.1, [.seq (.pair (.int .i64) (.pair (.int .i64) (.pair .str (.sl .bool)))) 0 d.2.1.2.1]⟩, some ⟨false, [.full 2, .full 7, .int .i64 y2, .bool y3, .int .i64 y4]⟩, some ⟨false, [.seq .str 0 y5]⟩, none, some ⟨false, [.full 5, .full 8, .int .i64 y6, .bool y7, .int .i64 y8]⟩, some ⟨false, [.seq .str 0 y9]⟩, none, some ⟨false, [.seq (.pair (.int .i64) .str) 0 y10]⟩, some ⟨false, [.seq (.pair (.int .i64) .str) 0 y11]⟩]) (fun (y2 : Int) (y3 : Bool) (y4 : Int) (y5 : List ByteArray) (y6 : List (Int × ByteArray)) (y7 : Int) (y8 : Bool) (y9 : Int) (y10 : List ByteArray) (y11 : List (Int × ByteArray)) (y12 : List (Int × ByteArray)) => K .ret [.tv (.lf (.bool false))] [some ⟨d.2.1.1, [.seq (.pair (.int .i64) (.pair (.int .i64) (.pair .str (.sl .bool)))) 0 d.2.1.2.1]⟩, some ⟨false, [.full 2, .full 3, .int .i64 y2, .bool y3, .int .i64 y4]⟩, some ⟨false, [.seq .str 0 y5]⟩, some ⟨false, [.seq (.pair (.int .i64) .str) 0 y6]⟩, some ⟨false, [.full 5, .full 7, .int .i64 y7, .bool y8, .int .i64 y9]⟩, some ⟨false, [.seq .str 0 y10]⟩, some ⟨false, [.seq (.pair (.int .i64) .str) 0 y11]⟩, some ⟨false, [.seq (.pair (.int .i64) .str) 0 y12]⟩]) (fun (y2 : Int) (y3 : Bool) (y4 : Int) (y5 : List ByteArray) (y6 : List (Int × ByteArray)) (y7 : Int) (y8 : Bool) (y9 : Int) (y10 : List ByteArray) (y11 : List (Int × ByteArray)) (y12 : List (Int × ByteArray)) => K .ret [.tv (.lf (.bool false))] [some ⟨d.2.1.1, [.seq (.pair (.int .i64) (.pair (.int .i64) (.pair .str (.sl .bool)))) 0 d.2.1.2.1]⟩, some ⟨false, [.full 2, .full 7, .int .i64 y2, .bool y3, .int .i64 y4]⟩, some ⟨false, [.seq .str 0 y5]⟩, some ⟨false, [.seq (.pair (.int .i64) .str) 0 y6]⟩, some ⟨false, [.full 5, .full 6, .int .i64 y7, .bool y8, .int .i64 y9]⟩, some ⟨false, [.seq .str 0 y10]⟩, some ⟨false, [.seq (.pair (.int .i64) .str) 0 y11]⟩, some ⟨false, [.seq (.pair (.int .i64) .str) 0 y12]⟩]) (fun (y2 : Int) (y3 : Bool) (y4 : Int) (y5 : List ByteArray) (y6 : List (Int × ByteArray)) (y7 : Int) (y8 : Bool) (y9 : Int) (y10 : List ByteArray) (y11 : List (Int × ByteArray)) (y12 : List (Int × ByteArray)) (y13 : List (Int × ByteArray)) => K .ret [.tv (.lf (.bool false))] [some ⟨d.2.1.1, [.seq (.pair (.int .i64) (.pair (.int .i64) (.pair .str (.sl .bool)))) 0 d.2.1.2.1]⟩, some ⟨false, [.full 2, .full 7, .int .i64 y2, .bool y3, .int .i64 y4]⟩, some ⟨false, [.seq .str 0 y5]⟩, some ⟨false, [.seq (.pair (.int .i64) .str) 0 y6]⟩, some ⟨false, [.full 5, .full 8, .int .i64 y7, .bool y8, .int .i64 y9]⟩, some ⟨false, [.seq .str 0 y10]⟩, some ⟨false, [.seq (.pair (.int .i64) .str) 0 y11]⟩, some ⟨false, [.seq (.pair (.int .i64) .str) 0 y12]⟩, some ⟨false, [.seq (.pair (.int .i64) .str) 0 y13]⟩]) (fun (y1 : Int) (y2 : Bool) (y3 : Int) (y4 : List ByteArray) (y5 : List (Int × ByteArray)) (y6 : Int) (y7 : Bool) (y8 : Int) (y9 : List ByteArray) (y10 : List (Int × ByteArray)) => K (.exit 0) [] [some ⟨d.2.1.1, [.seq (.pair (.int .i64) (.pair (.int .i64) (.pair .str (.sl .bool)))) 0 d.2.1.2.1]⟩, some ⟨false, [.full 2, .full 3, .int .i64 y1, .bool y2, .int .i64 y3]⟩, some ⟨false, [.seq .str 0 y4]⟩, some ⟨false, [.seq (.pair (.int .i64) .str) 0 y5]⟩, some ⟨false, [.full 5, .full 6, .int .i64 y6, .bool y7, .int .i64 y8]⟩, some ⟨false, [.seq .str 0 y9]⟩, some ⟨false, [.seq (.pair (.int .i64) .str) 0 y10]⟩]) k d.1.2.2.2.1 d.2.2.1.2.2.2.1 d.2.2.1.2.2.2.2.1 d.2.2.1.2.2.2.2.2.1 d.2.2.2.1.2.1 d.2.2.2.2.1.2.1 d.2.2.2.2.2.1.2.2.2.1 d.2.2.2.2.2.1.2.2.2.2.1 d.2.2.2.2.2.1.2.2.2.2.2.1 d.2.2.2.2.2.2.1.2.1 d.2.2.2.2.2.2.2.1.2.1) [])) b12_0 (encT sh12_1_l8.vs d.1) (encH sh12_1_l8.h d.2) K := by kernel_rfl
theorem L12_1_l8_2g (F k : Nat) (c49_1 : List (Int × (Int × (ByteArray × (Sl .bool)))) → (Bool → Option Res) → Option Res) (c50_1 : (Bool → Option Res) → Option Res) (c51_1 : Int → (Option Res) → (List ByteArray → List (Int × ByteArray) → Option Res) → Option Res) (c52_1 : Int → (Option Res) → (List ByteArray → List (Int × ByteArray) → Option Res) → Option Res) (c53_1 : Int → Int → ByteArray → Sl .bool → Int → Bool → Int → List ByteArray → List (Int × ByteArray) → Int → Bool → Int → List ByteArray → List (Int × ByteArray) → (Bool → Int → Bool → Int → Int → Bool → Int → Option Res) → (Bool → Int → Bool → Int → Int → Bool → Int → List (Int × ByteArray) → Option Res) → (Bool → Int → Bool → Int → Int → Bool → Int → List (Int × ByteArray) → Option Res) → (Int → Bool → Int → Int → Bool → Int → List (Int × ByteArray) → List (Int × ByteArray) → Option Res) → (Int → Bool → Int → Int → Bool → Int → List ByteArray → List (Int × ByteArray) → Option Res) → (Int → Bool → Int → List ByteArray → Int → Bool → Int → List (Int × ByteArray) → Option Res) → (Int → Bool → Int → List ByteArray → Int → Bool → Int → List ByteArray → List (Int × ByteArray) → List (Int × ByteArray) → Option Res) → Option Res) (c59_1 : Int → Bool → Int → List ByteArray → List (Int × ByteArray) → Int → Bool → Int → List ByteArray → List (Int × ByteArray) → (Bool → Option Res) → Option Res)  (l8 : Int → List (Int × (Int × (ByteArray × (Sl .bool)))) → (Option Res) → Nat → Option Res) (l8_2 : List (Int × (Int × (ByteArray × (Sl .bool)))) → (Int → Bool → Int → List ByteArray → List (Int × ByteArray) → Int → Bool → Int → List ByteArray → List (Int × ByteArray) → Option Res) → (Int → Bool → Int → List ByteArray → List (Int × ByteArray) → Int → Bool → Int → List ByteArray → List (Int × ByteArray) → Option Res) → (Int → Bool → Int → List ByteArray → Int → Bool → Int → List ByteArray → List (Int × ByteArray) → List (Int × ByteArray) → Option Res) → (Int → Bool → Int → List ByteArray → Int → Bool → Int → List ByteArray → List (Int × ByteArray) → List (Int × ByteArray) → Option Res) → (Int → Bool → Int → List ByteArray → List (Int × ByteArray) → Int → Bool → Int → List ByteArray → List (Int × ByteArray) → List (Int × ByteArray) → Option Res) → (Int → Bool → Int → List ByteArray → List (Int × ByteArray) → Int → Bool → Int → List ByteArray → List (Int × ByteArray) → List (Int × ByteArray) → Option Res) → (Int → Bool → Int → List ByteArray → List (Int × ByteArray) → Int → Bool → Int → List ByteArray → List (Int × ByteArray) → List (Int × ByteArray) → List (Int × ByteArray) → Option Res) → (Int → Bool → Int → List ByteArray → List (Int × ByteArray) → Int → Bool → Int → List ByteArray → List (Int × ByteArray) → Option Res) → Nat → Int → Int → Bool → Int → List ByteArray → List (Int × ByteArray) → Int → Bool → Int → List ByteArray → List (Int × ByteArray) → Option Res) (X8 : LoopS) (d : sh12_1_l8_2.den) (K : KL) : (fun (v14 : List (Int × (Int × (ByteArray × (Sl .bool))))) (K0 : (Int → Bool → Int → List ByteArray → List (Int × ByteArray) → Int → Bool → Int → List ByteArray → List (Int × ByteArray) → Option Res)) (K1 : (Int → Bool → Int → List ByteArray → List (Int × ByteArray) → Int → Bool → Int → List ByteArray → List (Int × ByteArray) → Option Res)) (K2 : (Int → Bool → Int → List ByteArray → Int → Bool → Int → List ByteArray → List (Int × ByteArray) → List (Int × ByteArray) → Option Res)) (K3 : (Int → Bool → Int → List ByteArray → Int → Bool → Int → List ByteArray → List (Int × ByteArray) → List (Int × ByteArray) → Option Res)) (K4 : (Int → Bool → Int → List ByteArray → List (Int × ByteArray) → Int → Bool → Int → List ByteArray → List (Int × ByteArray) → List (Int × ByteArray) → Option Res)) (K5 : (Int → Bool → Int → List ByteArray → List (Int × ByteArray) → Int → Bool → Int → List ByteArray → List (Int × ByteArray) → List (Int × ByteArray) → Option Res)) (K6 : (Int → Bool → Int → List ByteArray → List (Int × ByteArray) → Int → Bool → Int → List ByteArray → List (Int × ByteArray) → List (Int × ByteArray) → List (Int × ByteArray) → Option Res)) (K7 : (Int → Bool → Int → List ByteArray → List (Int × ByteArray) → Int → Bool → Int → List ByteArray → List (Int × ByteArray) → Option Res)) (k : Nat) (v13 : Int) (v15 : Int) (v16 : Bool) (v17 : Int) (v18 : List ByteArray) (v19 : List (Int × ByteArray)) (v20 : Int) (v21 : Bool) (v22 : Int) (v23 : List ByteArray) (v24 : List (Int × ByteArray)) => cond (decide (v13 < ((v14.length : Nat) : Int))) (cond (decide ((0 : Int) ≤ v13 ∧ v13 < ((v14.length : Nat) : Int))) (cond (decide (0 + v13.toNat < v14.length)) (c53_1 ((v14.getD (0 + v13.toNat) (0, (0, (ByteArray.empty, (Sl.nil .bool))))).1) (((v14.getD (0 + v13.toNat) (0, (0, (ByteArray.empty, (Sl.nil .bool))))).2).1) ((((v14.getD (0 + v13.toNat) (0, (0, (ByteArray.empty, (Sl.nil .bool))))).2).2).1) ((((v14.getD (0 + v13.toNat) (0, (0, (ByteArray.empty, (Sl.nil .bool))))).2).2).2) v15 v16 v17 v18 v19 v20 v21 v22 v23 v24 (fun x25 x26 x27 x28 x29 x30 x31 => cond (!x25) (K0 x26 x27 x28 v18 v19 x29 x30 x31 v23 v24) (c59_1 x26 x27 x28 v18 v19 x29 x30 x31 v23 v24 (fun x32 => cond (!x32) (K0 x26 x27 x28 v18 v19 x29 x30 x31 v23 v24) (l8_2 v14 K0 K1 K2 K3 K4 K5 K6 K7 k (IntKind.i64.wrap (v13 + 1)) x26 x27 x28 v18 v19 x29 x30 x31 v23 v24)) )) (fun x33 x34 x35 x36 x37 x38 x39 x40 => cond (!x33) (K1 x34 x35 x36 v18 v19 x37 x38 x39 v23 x40) (c59_1 x34 x35 x36 v18 v19 x37 x38 x39 v23 x40 (fun x41 => cond (!x41) (K1 x34 x35 x36 v18 v19 x37 x38 x39 v23 x40) (l8_2 v14 K0 K1 K2 K3 K4 K5 K6 K7 k (IntKind.i64.wrap (v13 + 1)) x34 x35 x36 v18 v19 x37 x38 x39 v23 x40)) )) (fun x42 x43 x44 x45 x46 x47 x48 x49 => cond (!x42) (K2 x43 x44 x45 v18 x46 x47 x48 v23 v24 x49) (c59_1 x43 x44 x45 v18 x49 x46 x47 x48 v23 v24 (fun x50 => cond (!x50) (K2 x43 x44 x45 v18 x46 x47 x48 v23 v24 x49) (l8_2 v14 K0 K1 K2 K3 K4 K5 K6 K7 k (IntKind.i64.wrap (v13 + 1)) x43 x44 x45 v18 x49 x46 x47 x48 v23 v24)) )) (fun x51 x52 x53 x54 x55 x56 x57 x58 => c59_1 x51 x52 x53 v18 x57 x54 x55 x56 v23 x58 (fun x59 => cond (!x59) (K3 x51 x52 x53 v18 x54 x55 x56 v23 x57 x58) (l8_2 v14 K0 K1 K2 K3 K4 K5 K6 K7 k (IntKind.i64.wrap (v13 + 1)) x51 x52 x53 v18 x57 x54 x55 x56 v23 x58)) ) (fun x60 x61 x62 x63 x64 x65 x66 x67 => K4 x60 x61 x62 v18 v19 x63 x64 x65 x66 v24 x67) (fun x68 x69 x70 x71 x72 x73 x74 x75 => K5 x68 x69 x70 x71 v19 x72 x73 x74 v23 v24 x75) (fun x76 x77 x78 x79 x80 x81 x82 x83 x84 x85 => c59_1 x76 x77 x78 x79 x84 x80 x81 x82 x83 x85 (fun x86 => cond (!x86) (K6 x76 x77 x78 x79 v19 x80 x81 x82 x83 v24 x84 x85) (l8_2 v14 K0 K1 K2 K3 K4 K5 K6 K7 k (IntKind.i64.wrap (v13 + 1)) x76 x77 x78 x79 x84 x80 x81 x82 x83 x85)) ) ) none) none) (K7 v15 v16 v17 v18 v19 v20 v21 v22 v23 v24)) d.2.1.2.1 (fun (y2 : Int) (y3 : Bool) (y4 : Int) (y5 : List ByteArray) (y6 : List (Int × ByteArray)) (y7 : Int) (y8 : Bool) (y9 : Int) (y10 : List ByteArray) (y11 : List (Int × ByteArray)) => K .ret [.tv (.lf (.bool false))] [some ⟨d.2.1.1, [.seq (.pair (.int .i64) (.pair (.int .i64) (.pair .str (.sl .bool)))) 0 d.2.1.2.1]⟩, some ⟨false, [.full 2, .full 3, .int .i64 y2, .bool y3, .int .i64 y4]⟩, some ⟨false, [.seq .str 0 y5]⟩, some ⟨false, [.seq (.pair (.int .i64) .str) 0 y6]⟩, some ⟨false, [.full 5, .full 6, .int .i64 y7, .bool y8, .int .i64 y9]⟩, some ⟨false, [.seq .str 0 y10]⟩, some ⟨false, [.seq (.pair (.int .i64) .str) 0 y11]⟩]) (fun (y2 : Int) (y3 : Bool) (y4 : Int) (y5 : List ByteArray) (y6 : List (Int × ByteArray)) (y7 : Int) (y8 : Bool) (y9 : Int) (y10 : List ByteArray) (y11 : List (Int × ByteArray)) => K .ret [.tv (.lf (.bool false))] [some ⟨d.2.1.1, [.seq (.pair (.int .i64) (.pair (.int .i64) (.pair .str (.sl .bool)))) 0 d.2.1.2.1]⟩, some ⟨false, [.full 2, .full 3, .int .i64 y2, .bool y3, .int .i64 y4]⟩, some ⟨false, [.seq .str 0 y5]⟩, some ⟨false, [.seq (.pair (.int .i64) .str) 0 y6]⟩, some ⟨false, [.full 5, .full 7, .int .i64 y7, .bool y8, .int .i64 y9]⟩, some ⟨false, [.seq .str 0 y10]⟩, none, some ⟨false, [.seq (.pair (.int .i64) .str) 0 y11]⟩]) (fun (y2 : Int) (y3 : Bool) (y4 : Int) (y5 : List ByteArray) (y6 : Int) (y7 : Bool) (y8 : Int) (y9 : List ByteArray) (y10 : List (Int × ByteArray)) (y11 : List (Int × ByteArray)) => K .ret [.tv (.lf (.bool false))] [some ⟨d.2.1.1, [.seq (.pair (.int .i64) (.pair (.int .i64) (.pair .str (.sl .bool)))) 0 d.2.1.2.1]⟩, some ⟨false, [.full 2, .full 7, .int .i64 y2, .bool y3, .int .i64 y4]⟩, some ⟨false, [.seq .str 0 y5]⟩, none, some ⟨false, [.full 5, .full 6, .int .i64 y6, .bool y7, .int .i64 y8]⟩, some ⟨false, [.seq .str 0 y9]⟩, some ⟨false, [.seq (.pair (.int .i64) .str) 0 y10]⟩, some ⟨false, [.seq (.pair (.int .i64) .str) 0 y11]⟩]) (fun (y2 : Int) (y3 : Bool) (y4 : Int) (y5 : List ByteArray) (y6 : Int) (y7 : Bool) (y8 : Int) (y9 : List ByteArray) (y10 : List (Int × ByteArray)) (y11 : List (Int × ByteArray)) => K .ret [.tv (.lf (.bool false))] [some ⟨d.2.1.1, [.seq (.pair (.int .i64) (.pair (.int .i64) (.pair .str (.sl .bool)))) 0 d.2.1.2.1]⟩, some ⟨false, [.full 2, .full 7, .int .i64 y2, .bool y3, .int .i64 y4]⟩, some ⟨false, [.seq .str 0 y5]⟩, none, some ⟨false, [.full 5, .full 8, .int .i64 y6, .bool y7, .int .i64 y8]⟩, some ⟨false, [.seq .str 0 y9]⟩, none, some ⟨false, [.seq (.pair (.int .i64) .str) 0 y10]⟩, some ⟨false, [.seq (.pair (.int .i64) .str) 0 y11]⟩]) (fun (y2 : Int) (y3 : Bool) (y4 : Int) (y5 : List ByteArray) (y6 : List (Int × ByteArray)) (y7 : Int) (y8 : Bool) (y9 : Int) (y10 : List ByteArray) (y11 : List (Int × ByteArray)) (y12 : List (Int × ByteArray)) => K .ret [.tv (.lf (.bool false))] [some ⟨d.2.1.1, [.seq (.pair (.int .i64) (.pair (.int .i64) (.pair .str (.sl .bool)))) 0 d.2.1.2.1]⟩, some ⟨false, [.full 2, .full 3, .int .i64 y2, .bool y3, .int .i64 y4]⟩, some ⟨false, [.seq .str 0 y5]⟩, some ⟨false, [.seq (.pair (.int .i64) .str) 0 y6]⟩, some ⟨false, [.full 5, .full 7, .int .i64 y7, .bool y8, .int .i64 y9]⟩, some ⟨false, [.seq .str 0 y10]⟩, some ⟨false, [.seq (.pair (.int .i64) .str) 0 y11]⟩, some ⟨false, [.seq (.pair (.int .i64) .str) 0 y12]⟩]) (fun (y2 : Int) (y3 : Bool) (y4 : Int) (y5 : List ByteArray) (y6 : List (Int × ByteArray)) (y7 : Int) (y8 : Bool) (y9 : Int) (y10 : List ByteArray) (y11 : List (Int × ByteArray)) (y12 : List (Int × ByteArray)) => K .ret [.tv (.lf (.bool false))] [some ⟨d.2.1.1, [.seq (.pair (.int .i64) (.pair (.int .i64) (.pair .str (.sl .bool)))) 0 d.2.1.2.1]⟩, some ⟨false, [.full 2, .full 7, .int .i64 y2, .bool y3, .int .i64 y4]⟩, some ⟨false, [.seq .str 0 y5]⟩, some ⟨false, [.seq (.pair (.int .i64) .str) 0 y6]⟩, some ⟨false, [.full 5, .full 6, .int .i64 y7, .bool y8, .int .i64 y9]⟩, some ⟨false, [.seq .str 0 y10]⟩, some ⟨false, [.seq (.pair (.int .i64) .str) 0 y11]⟩, some ⟨false, [.seq (.pair (.int .i64) .str) 0 y12]⟩]) (fun (y2 : Int) (y3 : Bool) (y4 : Int) (y5 : List ByteArray) (y6 : List (Int × ByteArray)) (y7 : Int) (y8 : Bool) (y9 : Int) (y10 : List ByteArray) (y11 : List (Int × ByteArray)) (y12 : List (Int × ByteArray)) (y13 : List (Int × ByteArray)) => K .ret [.tv (.lf (.bool false))] [some ⟨d.2.1.1, [.seq (.pair (.int .i64) (.pair (.int .i64) (.pair .str (.sl .bool)))) 0 d.2.1.2.1]⟩, some ⟨false, [.full 2, .full 7, .int .i64 y2, .bool y3, .int .i64 y4]⟩, some ⟨false, [.seq .str 0 y5]⟩, some ⟨false, [.seq (.pair (.int .i64) .str) 0 y6]⟩, some ⟨false, [.full 5, .full 8, .int .i64 y7, .bool y8, .int .i64 y9]⟩, some ⟨false, [.seq .str 0 y10]⟩, some ⟨false, [.seq (.pair (.int .i64) .str) 0 y11]⟩, some ⟨false, [.seq (.pair (.int .i64) .str) 0 y12]⟩, some ⟨false, [.seq (.pair (.int .i64) .str) 0 y13]⟩]) (fun (y1 : Int) (y2 : Bool) (y3 : Int) (y4 : List ByteArray) (y5 : List (Int × ByteArray)) (y6 : Int) (y7 : Bool) (y8 : Int) (y9 : List ByteArray) (y10 : List (Int × ByteArray)) => K (.exit 0) [] [some ⟨d.2.1.1, [.seq (.pair (.int .i64) (.pair (.int .i64) (.pair .str (.sl .bool)))) 0 d.2.1.2.1]⟩, some ⟨false, [.full 2, .full 3, .int .i64 y1, .bool y2, .int .i64 y3]⟩, some ⟨false, [.seq .str 0 y4]⟩, some ⟨false, [.seq (.pair (.int .i64) .str) 0 y5]⟩, some ⟨false, [.full 5, .full 6, .int .i64 y6, .bool y7, .int .i64 y8]⟩, some ⟨false, [.seq .str 0 y9]⟩, some ⟨false, [.seq (.pair (.int .i64) .str) 0 y10]⟩]) k d.1.2.2.2.1 d.2.2.1.2.2.2.1 d.2.2.1.2.2.2.2.1 d.2.2.1.2.2.2.2.2.1 d.2.2.2.1.2.1 d.2.2.2.2.1.2.1 d.2.2.2.2.2.1.2.2.2.1 d.2.2.2.2.2.1.2.2.2.2.1 d.2.2.2.2.2.1.2.2.2.2.2.1 d.2.2.2.2.2.2.1.2.1 d.2.2.2.2.2.2.2.1.2.1 = roundOf Try.prog (tab [(49, (mkS sh49_1 (fun d K => c49_1 d.2.1.2.1 (fun (y0 : Bool) => K [.lf (.bool y0)] [some ⟨d.2.1.1, [.seq (.pair (.int .i64) (.pair (.int .i64) (.pair .str (.sl .bool)))) 0 d.2.1.2.1]⟩])) noS)), (50, (mkS sh50_1 (fun d K => c50_1 (fun (y0 : Bool) => K [.lf (.bool y0)] [])) noS)), (51, (mkS sh51_1 (fun d K => c51_1 d.1.1 (K [.lf (.nilp), .lf (.int .i64 2)] []) (fun (y4 : List ByteArray) (y5 : List (Int × ByteArray)) => K [.lf (.ptr 0 0), .lf (.int .i64 0)] [some ⟨false, [.full 1, .full 2, .int .i64 (-1), .bool false, .int .i64 0]⟩, some ⟨false, [.seq .str 0 y4]⟩, some ⟨false, [.seq (.pair (.int .i64) .str) 0 y5]⟩])) noS)), (52, (mkS sh52_1 (fun d K => c52_1 d.1.1 (K [.lf (.nilp), .lf (.int .i64 2)] []) (fun (y4 : List ByteArray) (y5 : List (Int × ByteArray)) => K [.lf (.ptr 0 0), .lf (.int .i64 0)] [some ⟨false, [.full 1, .full 2, .int .i64 (-1), .bool false, .int .i64 0]⟩, some ⟨false, [.seq .str 0 y4]⟩, some ⟨false, [.seq (.pair (.int .i64) .str) 0 y5]⟩])) noS)), (53, (mkS sh53_1 (fun d K => c53_1 d.1.2.2.1.1 d.1.2.2.1.2.1 d.1.2.2.1.2.2.1 d.1.2.2.1.2.2.2.1 d.2.1.2.2.2.1 d.2.1.2.2.2.2.1 d.2.1.2.2.2.2.2.1 d.2.2.1.2.1 d.2.2.2.1.2.1 d.2.2.2.2.1.2.2.2.1 d.2.2.2.2.1.2.2.2.2.1 d.2.2.2.2.1.2.2.2.2.2.1 d.2.2.2.2.2.1.2.1 d.2.2.2.2.2.2.1.2.1 (fun (y0 : Bool) (y1 : Int) (y2 : Bool) (y3 : Int) (y6 : Int) (y7 : Bool) (y8 : Int) => K [.lf (.bool y0)] [some ⟨false, [.full 1, .full 2, .int .i64 y1, .bool y2, .int .i64 y3]⟩, some ⟨false, [.seq .str 0 d.2.2.1.2.1]⟩, some ⟨false, [.seq (.pair (.int .i64) .str) 0 d.2.2.2.1.2.1]⟩, some ⟨false, [.full 4, .full 5, .int .i64 y6, .bool y7, .int .i64 y8]⟩, some ⟨false, [.seq .str 0 d.2.2.2.2.2.1.2.1]⟩, some ⟨false, [.seq (.pair (.int .i64) .str) 0 d.2.2.2.2.2.2.1.2.1]⟩]) (fun (y0 : Bool) (y1 : Int) (y2 : Bool) (y3 : Int) (y6 : Int) (y7 : Bool) (y8 : Int) (y10 : List (Int × ByteArray)) => K [.lf (.bool y0)] [some ⟨false, [.full 1, .full 2, .int .i64 y1, .bool y2, .int .i64 y3]⟩, some ⟨false, [.seq .str 0 d.2.2.1.2.1]⟩, some ⟨false, [.seq (.pair (.int .i64) .str) 0 d.2.2.2.1.2.1]⟩, some ⟨false, [.full 4, .full 6, .int .i64 y6, .bool y7, .int .i64 y8]⟩, some ⟨false, [.seq .str 0 d.2.2.2.2.2.1.2.1]⟩, none, some ⟨false, [.seq (.pair (.int .i64) .str) 0 y10]⟩]) (fun (y0 : Bool) (y1 : Int) (y2 : Bool) (y3 : Int) (y5 : Int) (y6 : Bool) (y7 : Int) (y10 : List (Int × ByteArray)) => K [.lf (.bool y0)] [some ⟨false, [.full 1, .full 6, .int .i64 y1, .bool y2, .int .i64 y3]⟩, some ⟨false, [.seq .str 0 d.2.2.1.2.1]⟩, none, some ⟨false, [.full 4, .full 5, .int .i64 y5, .bool y6, .int .i64 y7]⟩, some ⟨false, [.seq .str 0 d.2.2.2.2.2.1.2.1]⟩, some ⟨false, [.seq (.pair (.int .i64) .str) 0 d.2.2.2.2.2.2.1.2.1]⟩, some ⟨false, [.seq (.pair (.int .i64) .str) 0 y10]⟩]) (fun (y1 : Int) (y2 : Bool) (y3 : Int) (y5 : Int) (y6 : Bool) (y7 : Int) (y9 : List (Int × ByteArray)) (y10 : List (Int × ByteArray)) => K [.lf (.bool true)] [some ⟨false, [.full 1, .full 6, .int .i64 y1, .bool y2, .int .i64 y3]⟩, some ⟨false, [.seq .str 0 d.2.2.1.2.1]⟩, none, some ⟨false, [.full 4, .full 7, .int .i64 y5, .bool y6, .int .i64 y7]⟩, some ⟨false, [.seq .str 0 d.2.2.2.2.2.1.2.1]⟩, none, some ⟨false, [.seq (.pair (.int .i64) .str) 0 y9]⟩, some ⟨false, [.seq (.pair (.int .i64) .str) 0 y10]⟩]) (fun (y1 : Int) (y2 : Bool) (y3 : Int) (y6 : Int) (y7 : Bool) (y8 : Int) (y9 : List ByteArray) (y11 : List (Int × ByteArray)) => K [.lf (.bool false)] [some ⟨false, [.full 1, .full 2, .int .i64 y1, .bool y2, .int .i64 y3]⟩, some ⟨false, [.seq .str 0 d.2.2.1.2.1]⟩, some ⟨false, [.seq (.pair (.int .i64) .str) 0 d.2.2.2.1.2.1]⟩, some ⟨false, [.full 4, .full 6, .int .i64 y6, .bool y7, .int .i64 y8]⟩, some ⟨false, [.seq .str 0 y9]⟩, some ⟨false, [.seq (.pair (.int .i64) .str) 0 d.2.2.2.2.2.2.1.2.1]⟩, some ⟨false, [.seq (.pair (.int .i64) .str) 0 y11]⟩]) (fun (y1 : Int) (y2 : Bool) (y3 : Int) (y4 : List ByteArray) (y6 : Int) (y7 : Bool) (y8 : Int) (y11 : List (Int × ByteArray)) => K [.lf (.bool false)] [some ⟨false, [.full 1, .full 6, .int .i64 y1, .bool y2, .int .i64 y3]⟩, some ⟨false, [.seq .str 0 y4]⟩, some ⟨false, [.seq (.pair (.int .i64) .str) 0 d.2.2.2.1.2.1]⟩, some ⟨false, [.full 4, .full 5, .int .i64 y6, .bool y7, .int .i64 y8]⟩, some ⟨false, [.seq .str 0 d.2.2.2.2.2.1.2.1]⟩, some ⟨false, [.seq (.pair (.int .i64) .str) 0 d.2.2.2.2.2.2.1.2.1]⟩, some ⟨false, [.seq (.pair (.int .i64) .str) 0 y11]⟩]) (fun (y1 : Int) (y2 : Bool) (y3 : Int) (y4 : List ByteArray) (y6 : Int) (y7 : Bool) (y8 : Int) (y9 : List ByteArray) (y11 : List (Int × ByteArray)) (y12 : List (Int × ByteArray)) => K [.lf (.bool true)] [some ⟨false, [.full 1, .full 6, .int .i64 y1, .bool y2, .int .i64 y3]⟩, some ⟨false, [.seq .str 0 y4]⟩, some ⟨false, [.seq (.pair (.int .i64) .str) 0 d.2.2.2.1.2.1]⟩, some ⟨false, [.full 4, .full 7, .int .i64 y6, .bool y7, .int .i64 y8]⟩, some ⟨false, [.seq .str 0 y9]⟩, some ⟨false, [.seq (.pair (.int .i64) .str) 0 d.2.2.2.2.2.2.1.2.1]⟩, some ⟨false, [.seq (.pair (.int .i64) .str) 0 y11]⟩, some ⟨false, [.seq (.pair (.int .i64) .str) 0 y12]⟩])) noS)), (59, (mkS sh59_1 (fun d K => c59_1 d.2.1.2.2.2.1 d.2.1.2.2.2.2.1 d.2.1.2.2.2.2.2.1 d.2.2.1.2.1 d.2.2.2.1.2.1 d.2.2.2.2.1.2.2.2.1 d.2.2.2.2.1.2.2.2.2.1 d.2.2.2.2.1.2.2.2.2.2.1 d.2.2.2.2.2.1.2.1 d.2.2.2.2.2.2.1.2.1 (fun (y0 : Bool) => K [.lf (.bool y0)] [some ⟨d.2.1.1, [.full 1, .full 2, .int .i64 d.2.1.2.2.2.1, .bool d.2.1.2.2.2.2.1, .int .i64 d.2.1.2.2.2.2.2.1]⟩, some ⟨d.2.2.1.1, [.seq .str 0 d.2.2.1.2.1]⟩, some ⟨d.2.2.2.1.1, [.seq (.pair (.int .i64) .str) 0 d.2.2.2.1.2.1]⟩, some ⟨d.2.2.2.2.1.1, [.full 4, .full 5, .int .i64 d.2.2.2.2.1.2.2.2.1, .bool d.2.2.2.2.1.2.2.2.2.1, .int .i64 d.2.2.2.2.1.2.2.2.2.2.1]⟩, some ⟨d.2.2.2.2.2.1.1, [.seq .str 0 d.2.2.2.2.2.1.2.1]⟩, some ⟨d.2.2.2.2.2.2.1.1, [.seq (.pair (.int .i64) .str) 0 d.2.2.2.2.2.2.1.2.1]⟩])) noS))]) (xw []) 63 1 (ltab [(8, X8)]) (orG sh12_1_l8 (fun d K => l8 d.1.2.2.2.1 d.2.1.2.1 (K (.exit 0) [] [some ⟨d.2.1.1, [.seq (.pair (.int .i64) (.pair (.int .i64) (.pair .str (.sl .bool)))) 0 d.2.1.2.1]⟩]) k) (mkG sh12_1_l8_2 [1, 5, 7, 9] (outT [(.exit 0, []), (.ret, [4])]) (fun d K => l8_2 d.2.1.2.1 (fun (y2 : Int) (y3 : Bool) (y4 : Int) (y5 : List ByteArray) (y6 : List (Int × ByteArray)) (y7 : Int) (y8 : Bool) (y9 : Int) (y10 : List ByteArray) (y11 : List (Int × ByteArray)) => K .ret [.tv (.lf (.bool false))] [some ⟨d.2.1.1, [.seq (.pair (.int .i64) (.pair (.int .i64) (.pair .str (.sl .bool)))) 0 d.2.1.2.1]⟩, some ⟨false, [.full 2, .full 3, .int .i64 y2, .bool y3, .int .i64 y4]⟩, some ⟨false, [.seq .str 0 y5]⟩, some ⟨false, [.seq (.pair (.int .i64) .str) 0 y6]⟩, some ⟨false, [.full 5, .full 6, .int .i64 y7, .bool y8, .int .i64 y9]⟩, some ⟨false, [.seq .str 0 y10]⟩, some ⟨false, [.seq (.pair (.int .i64) .str) 0 y11]⟩]) (fun (y2 : Int) (y3 : Bool) (y4 : Int) (y5 : List ByteArray) (y6 : List (Int × ByteArray)) (y7 : Int) (y8 : Bool) (y9 : Int) (y10 : List ByteArray) (y11 : List (Int × ByteArray)) => K .ret [.tv (.lf (.bool false))] [some ⟨d.2.1.1, [.seq (.pair (.int .i64) (.pair (.int .i64) (.pair .str (.sl .bool)))) 0 d.2.1.2.1]⟩, some ⟨false, [.full 2, .full 3, .int .i64 y2, .bool y3, .int .i64 y4]⟩, some ⟨false, [.seq .str 0 y5]⟩, some ⟨false, [.seq (.pair (.int .i64) .str) 0 y6]⟩, some ⟨false, [.full 5, .full 7, .int .i64 y7, .bool y8, .int .i64 y9]⟩, some ⟨false, [.seq .str 0 y10]⟩, none, some ⟨false, [.seq (.pair (.int .i64) .str) 0 y11]⟩]) (fun (y2 : Int) (y3 : Bool) (y4 : Int) (y5 : List ByteArray) (y6 : Int) (y7 : Bool) (y8 : Int) (y9 : List ByteArray) (y10 : List (Int × ByteArray)) (y11 : List (Int × ByteArray)) => K .ret [.tv (.lf (.bool false))] [some ⟨d.2.1.1, [.seq (.pair (.int .i64) (.pair (.int .i64) (.pair .str (.sl .bool)))) 0 d.2.1.2.1]⟩, some ⟨false, [.full 2, .full 7, .int .i64 y2, .bool y3, .int .i64 y4]⟩, some ⟨false, [.seq .str 0 y5]⟩, none, some ⟨false, [.full 5, .full 6, .int .i64 y6, .bool y7, .int .i64 y8]⟩, some ⟨false, [.seq .str 0 y9]⟩, some ⟨false, [.seq (.pair (.int .i64) .str) 0 y10]⟩, some ⟨false, [.seq (.pair (.int .i64) .str) 0 y11]⟩]) (fun (y2 : Int) (y3 : Bool) (y4 : Int) (y5 : List ByteArray) (y6 : Int) (y7 : Bool) (y8 : Int) (y9 : List ByteArray) (y10 : List (Int × ByteArray)) (y11 : List (Int × ByteArray)) => K .ret [.tv (.lf (.bool false))] [some ⟨d.2.1.1, [.seq (.pair (.int .i64) (.pair (.int .i64) (.pair .str (.sl .bool)))) 0 d.2.1.2.1]⟩, some ⟨false, [.full 2, .full 7, .int .i64 y2, .bool y3, .int .i64 y4]⟩, some ⟨false, [.seq .str 0 y5]⟩, none, some ⟨false, [.full 5, .full 8, .int .i64 y6, .bool y7, .int .i64 y8]⟩, some ⟨false, [.seq .str 0 y9]⟩, none, some ⟨false, [.seq (.pair (.int .i64) .str) 0 y10]⟩, some ⟨false, [.seq (.pair (.int .i64) .str) 0 y11]⟩]) (fun (y2 : Int) (y3 : Bool) (y4 : Int) (y5 : List ByteArray) (y6 : List (Int × ByteArray)) (y7 : Int) (y8 : Bool) (y9 : Int) (y10 : List ByteArray) (y11 : List (Int × ByteArray)) (y12 : List (Int × ByteArray)) => K .ret [.tv (.lf (.bool false))] [some ⟨d.2.1.1, [.seq (.pair (.int .i64) (.pair (.int .i64) (.pair .str (.sl .bool)))) 0 d.2.1.2.1]⟩, some ⟨false, [.full 2, .full 3, .int .i64 y2, .bool y3, .int .i64 y4]⟩, some ⟨false, [.seq .str 0 y5]⟩, some ⟨false, [.seq (.pair (.int .i64) .str) 0 y6]⟩, some ⟨false, [.full 5, .full 7, .int .i64 y7, .bool y8, .int .i64 y9]⟩, some ⟨false, [.seq .str 0 y10]⟩, some ⟨false, [.seq (.pair (.int .i64) .str) 0 y11]⟩, some ⟨false, [.seq (.pair (.int .i64) .str) 0 y12]⟩]) (fun (y2 : Int) (y3 : Bool) (y4 : Int) (y5 : List ByteArray) (y6 : List (Int × ByteArray)) (y7 : Int) (y8 : Bool) (y9 : Int) (y10 : List ByteArray) (y11 : List (Int × ByteArray)) (y12 : List (Int × ByteArray)) => K .ret [.tv (.lf (.bool false))] [some ⟨d.2.1.1, [.seq (.pair (.int .i64) (.pair (.int .i64) (.pair .str (.sl .bool)))) 0 d.2.1.2.1]⟩, some ⟨false, [.full 2, .full 7, .int .i64 y2, .bool y3, .int .i64 y4]⟩, some ⟨false, [.seq .str 0 y5]⟩, some ⟨false, [.seq (.pair (.int .i64) .str) 0 y6]⟩, some ⟨false, [.full 5, .full 6, .int .i64 y7, .bool y8, .int .i64 y9]⟩, some ⟨false, [.seq .str 0 y10]⟩, some ⟨false, [.seq (.pair (.int .i64) .str) 0 y11]⟩, some ⟨false, [.seq (.pair (.int .i64) .str) 0 y12]⟩]) (fun (y2 : Int) (y3 : Bool) (y4 : Int) (y5 : List ByteArray) (y6 : List (Int × ByteArray)) (y7 : Int) (y8 : Bool) (y9 : Int) (y10 : List ByteArray) (y11 : List (Int × ByteArray)) (y12 : List (Int × ByteArray)) (y13 : List (Int × ByteArray)) => K .ret [.tv (.lf (.bool false))] [some ⟨d.2.1.1, [.seq (.pair (.int .i64) (.pair (.int .i64) (.pair .str (.sl .bool)))) 0 d.2.1.2.1]⟩, some ⟨false, [.full 2, .full 7, .int .i64 y2, .bool y3, .int .i64 y4]⟩, some ⟨false, [.seq .str 0 y5]⟩, some ⟨false, [.seq (.pair (.int .i64) .str) 0 y6]⟩, some ⟨false, [.full 5, .full 8, .int .i64 y7, .bool y8, .int .i64 y9]⟩, some ⟨false, [.seq .str 0 y10]⟩, some ⟨false, [.seq (.pair (.int .i64) .str) 0 y11]⟩, some ⟨false, [.seq (.pair (.int .i64) .str) 0 y12]⟩, some ⟨false, [.seq (.pair (.int .i64) .str) 0 y13]⟩]) (fun (y1 : Int) (y2 : Bool) (y3 : Int) (y4 : List ByteArray) (y5 : List (Int × ByteArray)) (y6 : Int) (y7 : Bool) (y8 : Int) (y9 : List ByteArray) (y10 : List (Int × ByteArray)) => K (.exit 0) [] [some ⟨d.2.1.1, [.seq (.pair (.int .i64) (.pair (.int .i64) (.pair .str (.sl .bool)))) 0 d.2.1.2.1]⟩, some ⟨false, [.full 2, .full 3, .int .i64 y1, .bool y2, .int .i64 y3]⟩, some ⟨false, [.seq .str 0 y4]⟩, some ⟨false, [.seq (.pair (.int .i64) .str) 0 y5]⟩, some ⟨false, [.full 5, .full 6, .int .i64 y6, .bool y7, .int .i64 y8]⟩, some ⟨false, [.seq .str 0 y9]⟩, some ⟨false, [.seq (.pair (.int .i64) .str) 0 y10]⟩]) k d.1.2.2.2.1 d.2.2.1.2.2.2.1 d.2.2.1.2.2.2.2.1 d.2.2.1.2.2.2.2.2.1 d.2.2.2.1.2.1 d.2.2.2.2.1.2.1 d.2.2.2.2.2.1.2.2.2.1 d.2.2.2.2.2.1.2.2.2.2.1 d.2.2.2.2.2.1.2.2.2.2.2.1 d.2.2.2.2.2.2.1.2.1 d.2.2.2.2.2.2.2.1.2.1) [])) b12_0 (encT sh12_1_l8_2.vs d.1) (encH sh12_1_l8_2.h d.2) K := by kernel_rfl
theorem L12_1_8 (F : Nat) : LoopOK Try.prog (T12_1 F) (xw []) 63 1 (LT12_1 F) (G12_1_8 F F) b12_0 :=
  loopOK_vers (G12_1_8 F) F (fun k => ⟨rfl, rfl⟩) (verOK_cons (s := sh12_1_l8) (all := (G12_1_8 F)) (fun k d K => f12_1_l8 F d.1.2.2.2.1 d.2.1.2.1 (K (.exit 0) [] [some ⟨d.2.1.1, [.seq (.pair (.int .i64) (.pair (.int .i64) (.pair .str (.sl .bool)))) 0 d.2.1.2.1]⟩]) k) (fun d K => by kernel_rfl) (fun k d K => Eq.mp (by kernel_rfl) (L12_1_l8g F k (f49_1 F) (f50_1 F) (f51_1 F) (f52_1 F) (f53_1 F) (f59_1 F)  (f12_1_l8 F) (f12_1_l8_2 F) (G12_1_8 F F) d K)) (verOK_last (s := sh12_1_l8_2) (live := [1, 5, 7, 9]) (out := (outT [(.exit 0, []), (.ret, [4])])) (mv := []) (all := (G12_1_8 F)) (fun k d K => f12_1_l8_2 F d.2.1.2.1 (fun (y2 : Int) (y3 : Bool) (y4 : Int) (y5 : List ByteArray) (y6 : List (Int × ByteArray)) (y7 : Int) (y8 : Bool) (y9 : Int) (y10 : List ByteArray) (y11 : List (Int × ByteArray)) => K .ret [.tv (.lf (.bool false))] [some ⟨d.2.1.1, [.seq (.pair (.int .i64) (.pair (.int .i64) (.pair .str (.sl .bool)))) 0 d.2.1.2.1]⟩, some ⟨false, [.full 2, .full 3, .int .i64 y2, .bool y3, .int .i64 y4]⟩, some ⟨false, [.seq .str 0 y5]⟩, some ⟨false, [.seq (.pair (.int .i64) .str) 0 y6]⟩, some ⟨false, [.full 5, .full 6, .int .i64 y7, .bool y8, .int .i64 y9]⟩, some ⟨false, [.seq .str 0 y10]⟩, some ⟨false, [.seq (.pair (.int .i64) .str) 0 y11]⟩]) (fun (y2 : Int) (y3 : Bool) (y4 : Int) (y5 : List ByteArray) (y6 : List (Int × ByteArray)) (y7 : Int) (y8 : Bool) (y9 : Int) (y10 : List ByteArray) (y11 : List (Int × ByteArray)) => K .ret [.tv (.lf (.bool false))] [some ⟨d.2.1.1, [.seq (.pair (.int .i64) (.pair (.int .i64) (.pair .str (.sl .bool)))) 0 d.2.1.2.1]⟩, some ⟨false, [.full 2, .full 3, .int .i64 y2, .bool y3, .int .i64 y4]⟩, some ⟨false, [.seq .str 0 y5]⟩, some ⟨false, [.seq (.pair (.int .i64) .str) 0 y6]⟩, some ⟨false, [.full 5, .full 7, .int .i64 y7, .bool y8, .int .i64 y9]⟩, some ⟨false, [.seq .str 0 y10]⟩, none, some ⟨false, [.seq (.pair (.int .i64) .str) 0 y11]⟩]) (fun (y2 : Int) (y3 : Bool) (y4 : Int) (y5 : List ByteArray) (y6 : Int) (y7 : Bool) (y8 : Int) (y9 : List ByteArray) (y10 : List (Int × ByteArray)) (y11 : List (Int × ByteArray)) => K .ret [.tv (.lf (.bool false))] [some ⟨d.2.1.1, [.seq (.pair (.int .i64) (.pair (.int .i64) (.pair .str (.sl .bool)))) 0 d.2.1.2.1]⟩, some ⟨false, [.full 2, .full 7, .int .i64 y2, .bool y3, .int .i64 y4]⟩, some ⟨false, [.seq .str 0 y5]⟩, none, some ⟨false, [.full 5, .full 6, .int .i64 y6, .bool y7, .int .i64 y8]⟩, some ⟨false, [.seq .str 0 y9]⟩, some ⟨false, [.seq (.pair (.int .i64) .str) 0 y10]⟩, some ⟨false, [.seq (.pair (.int .i64) .str) 0 y11]⟩]) (fun (y2 : Int) (y3 : Bool) (y4 : Int) (y5 : List ByteArray) (y6 : Int) (y7 : Bool) (y8 : Int) (y9 : List ByteArray) (y10 : List (Int × ByteArray)) (y11 : List (Int × ByteArray)) => K .ret [.tv (.lf (.bool false))] [some ⟨d.2.1.1, [.seq (.pair (.int .i64) (.pair (.int .i64) (.pair .str (.sl .bool)))) 0 d.2.1.2.1]⟩, some ⟨false, [.full 2, .full 7, .int .i64 y2, .bool y3, .int .i64 y4]⟩, some ⟨false, [.seq .str 0 y5]⟩, none, some ⟨false, [.full 5, .full 8, .int .i64 y6, .bool y7, .int .i64 y8]⟩, some ⟨false, [.seq .str 0 y9]⟩, none, some ⟨false, [.seq (.pair (.int .i64) .str) 0 y10]⟩, some ⟨false, [.seq (.pair (.int .i64) .str) 0 y11]⟩]) (fun (y2 : Int) (y3 : Bool) (y4 : Int) (y5 : List ByteArray) (y6 : List (Int × ByteArray)) (y7 : Int) (y8 : Bool) (y9 : Int) (y10 : List ByteArray) (y11 : List (Int × ByteArray)) (y12 : List (Int × ByteArray)) => K .ret [.tv (.lf (.bool false))] [some ⟨d.2.1.1, [.seq (.pair (.int .i64) (.pair (.int .i64) (.pair .str (.sl .bool)))) 0 d.2.1.2.1]⟩, some ⟨false, [.full 2, .full 3, .int .i64 y2, .bool y3, .int .i64 y4]⟩, some ⟨false, [.seq .str 0 y5]⟩, some ⟨false, [.seq (.pair (.int .i64) .str) 0 y6]⟩, some ⟨false, [.full 5, .full 7, .int .i64 y7, .bool y8, .int .i64 y9]⟩, some ⟨false, [.seq .str 0 y10]⟩, some ⟨false, [.seq (.pair (.int .i64) .str) 0 y11]⟩, some ⟨false, [.seq (.pair (.int .i64) .str) 0 y12]⟩]) (fun (y2 : Int) (y3 : Bool) (y4 : Int) (y5 : List ByteArray) (y6 : List (Int × ByteArray)) (y7 : Int) (y8 : Bool) (y9 : Int) (y10 : List ByteArray) (y11 : List (Int × ByteArray)) (y12 : List (Int × ByteArray)) => K .ret [.tv (.lf (.bool false))] [some ⟨d.2.1.1, [.seq (.pair (.int .i64) (.pair (.int .i64) (.pair .str (.sl .bool)))) 0 d.2.1.2.1]⟩, some ⟨false, [.full 2, .full 7, .int .i64 y2, .bool y3, .int .i64 y4]⟩, some ⟨false, [.seq .str 0 y5]⟩, some ⟨false, [.seq (.pair (.int .i64) .str) 0 y6]⟩, some ⟨false, [.full 5, .full 6, .int .i64 y7, .bool y8, .int .i64 y9]⟩, some ⟨false, [.seq .str 0 y10]⟩, some ⟨false, [.seq (.pair (.int .i64) .str) 0 y11]⟩, some ⟨false, [.seq (.pair (.int .i64) .str) 0 y12]⟩]) (fun (y2 : Int) (y3 : Bool) (y4 : Int) (y5 : List ByteArray) (y6 : List (Int × ByteArray)) (y7 : Int) (y8 : Bool) (y9 : Int) (y10 : List ByteArray) (y11 : List (Int × ByteArray)) (y12 : List (Int × ByteArray)) (y13 : List (Int × ByteArray)) => K .ret [.tv (.lf (.bool false))] [some ⟨d.2.1.1, [.seq (.pair (.int .i64) (.pair (.int .i64) (.pair .str (.sl .bool)))) 0 d.2.1.2.1]⟩, some ⟨false, [.full 2, .full 7, .int .i64 y2, .bool y3, .int .i64 y4]⟩, some ⟨false, [.seq .str 0 y5]⟩, some ⟨false, [.seq (.pair (.int .i64) .str) 0 y6]⟩, some ⟨false, [.full 5, .full 8, .int .i64 y7, .bool y8, .int .i64 y9]⟩, some ⟨false, [.seq .str 0 y10]⟩, some ⟨false, [.seq (.pair (.int .i64) .str) 0 y11]⟩, some ⟨false, [.seq (.pair (.int .i64) .str) 0 y12]⟩, some ⟨false, [.seq (.pair (.int .i64) .str) 0 y13]⟩]) (fun (y1 : Int) (y2 : Bool) (y3 : Int) (y4 : List ByteArray) (y5 : List (Int × ByteArray)) (y6 : Int) (y7 : Bool) (y8 : Int) (y9 : List ByteArray) (y10 : List (Int × ByteArray)) => K (.exit 0) [] [some ⟨d.2.1.1, [.seq (.pair (.int .i64) (.pair (.int .i64) (.pair .str (.sl .bool)))) 0 d.2.1.2.1]⟩, some ⟨false, [.full 2, .full 3, .int .i64 y1, .bool y2, .int .i64 y3]⟩, some ⟨false, [.seq .str 0 y4]⟩, some ⟨false, [.seq (.pair (.int .i64) .str) 0 y5]⟩, some ⟨false, [.full 5, .full 6, .int .i64 y6, .bool y7, .int .i64 y8]⟩, some ⟨false, [.seq .str 0 y9]⟩, some ⟨false, [.seq (.pair (.int .i64) .str) 0 y10]⟩]) k d.1.2.2.2.1 d.2.2.1.2.2.2.1 d.2.2.1.2.2.2.2.1 d.2.2.1.2.2.2.2.2.1 d.2.2.2.1.2.1 d.2.2.2.2.1.2.1 d.2.2.2.2.2.1.2.2.2.1 d.2.2.2.2.2.1.2.2.2.2.1 d.2.2.2.2.2.1.2.2.2.2.2.1 d.2.2.2.2.2.2.1.2.1 d.2.2.2.2.2.2.2.1.2.1) (fun d K => by kernel_rfl) (fun k d K => Eq.mp (by kernel_rfl) (L12_1_l8_2g F k (f49_1 F) (f50_1 F) (f51_1 F) (f52_1 F) (f53_1 F) (f59_1 F)  (f12_1_l8 F) (f12_1_l8_2 F) (G12_1_8 F F) d K))))
theorem E12_1g (F : Nat) (c49_1 : List (Int × (Int × (ByteArray × (Sl .bool)))) → (Bool → Option Res) → Option Res) (c50_1 : (Bool → Option Res) → Option Res) (c51_1 : Int → (Option Res) → (List ByteArray → List (Int × ByteArray) → Option Res) → Option Res) (c52_1 : Int → (Option Res) → (List ByteArray → List (Int × ByteArray) → Option Res) → Option Res) (c53_1 : Int → Int → ByteArray → Sl .bool → Int → Bool → Int → List ByteArray → List (Int × ByteArray) → Int → Bool → Int → List ByteArray → List (Int × ByteArray) → (Bool → Int → Bool → Int → Int → Bool → Int → Option Res) → (Bool → Int → Bool → Int → Int → Bool → Int → List (Int × ByteArray) → Option Res) → (Bool → Int → Bool → Int → Int → Bool → Int → List (Int × ByteArray) → Option Res) → (Int → Bool → Int → Int → Bool → Int → List (Int × ByteArray) → List (Int × ByteArray) → Option Res) → (Int → Bool → Int → Int → Bool → Int → List ByteArray → List (Int × ByteArray) → Option Res) → (Int → Bool → Int → List ByteArray → Int → Bool → Int → List (Int × ByteArray) → Option Res) → (Int → Bool → Int → List ByteArray → Int → Bool → Int → List ByteArray → List (Int × ByteArray) → List (Int × ByteArray) → Option Res) → Option Res) (c59_1 : Int → Bool → Int → List ByteArray → List (Int × ByteArray) → Int → Bool → Int → List ByteArray → List (Int × ByteArray) → (Bool → Option Res) → Option Res) (l8 : Int → List (Int × (Int × (ByteArray × (Sl .bool)))) → (Option Res) → Nat → Option Res) (l8_2 : List (Int × (Int × (ByteArray × (Sl .bool)))) → (Int → Bool → Int → List ByteArray → List (Int × ByteArray) → Int → Bool → Int → List ByteArray → List (Int × ByteArray) → Option Res) → (Int → Bool → Int → List ByteArray → List (Int × ByteArray) → Int → Bool → Int → List ByteArray → List (Int × ByteArray) → Option Res) → (Int → Bool → Int → List ByteArray → Int → Bool → Int → List ByteArray → List (Int × ByteArray) → List (Int × ByteArray) → Option Res) → (Int → Bool → Int → List ByteArray → Int → Bool → Int → List ByteArray → List (Int × ByteArray) → List (Int × ByteArray) → Option Res) → (Int → Bool → Int → List ByteArray → List (Int × ByteArray) → Int → Bool → Int → List ByteArray → List (Int × ByteArray) → List (Int × ByteArray) → Option Res) → (Int → Bool → Int → List ByteArray → List (Int × ByteArray) → Int → Bool → Int → List ByteArray → List (Int × ByteArray) → List (Int × ByteArray) → Option Res) → (Int → Bool → Int → List ByteArray → List (Int × ByteArray) → Int → Bool → Int → List ByteArray → List (Int × ByteArray) → List (Int × ByteArray) → List (Int × ByteArray) → Option Res) → (Int → Bool → Int → List ByteArray → List (Int × ByteArray) → Int → Bool → Int → List ByteArray → List (Int × ByteArray) → Option Res) → Nat → Int → Int → Bool → Int → List ByteArray → List (Int × ByteArray) → Int → Bool → Int → List ByteArray → List (Int × ByteArray) → Option Res)  (d : sh12_1.den) (K : KF) : evBody Try.prog (tab [(49, (mkS sh49_1 (fun d K => c49_1 d.2.1.2.1 (fun (y0 : Bool) => K [.lf (.bool y0)] [some ⟨d.2.1.1, [.seq (.pair (.int .i64) (.pair (.int .i64) (.pair .str (.sl .bool)))) 0 d.2.1.2.1]⟩])) noS)), (50, (mkS sh50_1 (fun d K => c50_1 (fun (y0 : Bool) => K [.lf (.bool y0)] [])) noS)), (51, (mkS sh51_1 (fun d K => c51_1 d.1.1 (K [.lf (.nilp), .lf (.int .i64 2)] []) (fun (y4 : List ByteArray) (y5 : List (Int × ByteArray)) => K [.lf (.ptr 0 0), .lf (.int .i64 0)] [some ⟨false, [.full 1, .full 2, .int .i64 (-1), .bool false, .int .i64 0]⟩, some ⟨false, [.seq .str 0 y4]⟩, some ⟨false, [.seq (.pair (.int .i64) .str) 0 y5]⟩])) noS)), (52, (mkS sh52_1 (fun d K => c52_1 d.1.1 (K [.lf (.nilp), .lf (.int .i64 2)] []) (fun (y4 : List ByteArray) (y5 : List (Int × ByteArray)) => K [.lf (.ptr 0 0), .lf (.int .i64 0)] [some ⟨false, [.full 1, .full 2, .int .i64 (-1), .bool false, .int .i64 0]⟩, some ⟨false, [.seq .str 0 y4]⟩, some ⟨false, [.seq (.pair (.int .i64) .str) 0 y5]⟩])) noS)), (53, (mkS sh53_1 (fun d K => c53_1 d.1.2.2.1.1 d.1.2.2.1.2.1 d.1.2.2.1.2.2.1 d.1.2.2.1.2.2.2.1 d.2.1.2.2.2.1 d.2.1.2.2.2.2.1 d.2.1.2.2.2.2.2.1 d.2.2.1.2.1 d.2.2.2.1.2.1 d.2.2.2.2.1.2.2.2.1 d.2.2.2.2.1.2.2.2.2.1 d.2.2.2.2.1.2.2.2.2.2.1 d.2.2.2.2.2.1.2.1 d.2.2.2.2.2.2.1.2.1 (fun (y0 : Bool) (y1 : Int) (y2 : Bool) (y3 : Int) (y6 : Int) (y7 : Bool) (y8 : Int) => K [.lf (.bool y0)] [some ⟨false, [.full 1, .full 2, .int .i64 y1, .bool y2, .int .i64 y3]⟩, some ⟨false, [.seq .str 0 d.2.2.1.2.1]⟩, some ⟨false, [.seq (.pair (.int .i64) .str) 0 d.2.2.2.1.2.1]⟩, some ⟨false, [.full 4, .full 5, .int .i64 y6, .bool y7, .int .i64 y8]⟩, some ⟨false, [.seq .str 0 d.2.2.2.2.2.1.2.1]⟩, some ⟨false, [.seq (.pair (.int .i64) .str) 0 d.2.2.2.2.2.2.1.2.1]⟩]) (fun (y0 : Bool) (y1 : Int) (y2 : Bool) (y3 : Int) (y6 : Int) (y7 : Bool) (y8 : Int) (y10 : List (Int × ByteArray)) => K [.lf (.bool y0)] [some ⟨false, [.full 1, .full 2, .int .i64 y1, .bool y2, .int .i64 y3]⟩, some ⟨false, [.seq .str 0 d.2.2.1.2.1]⟩, some ⟨false, [.seq (.pair (.int .i64) .str) 0 d.2.2.2.1.2.1]⟩, some ⟨false, [.full 4, .full 6, .int .i64 y6, .bool y7, .int .i64 y8]⟩, some ⟨false, [.seq .str 0 d.2.2.2.2.2.1.2.1]⟩, none, some ⟨false, [.seq (.pair (.int .i64) .str) 0 y10]⟩]) (fun (y0 : Bool) (y1 : Int) (y2 : Bool) (y3 : Int) (y5 : Int) (y6 : Bool) (y7 : Int) (y10 : List (Int × ByteArray)) => K [.lf (.bool y0)] [some ⟨false, [.full 1, .full 6, .int .i64 y1, .bool y2, .int .i64 y3]⟩, some ⟨false, [.seq .str 0 d.2.2.1.2.1]⟩, none, some ⟨false, [.full 4, .full 5, .int .i64 y5, .bool y6, .int .i64 y7]⟩, some ⟨false, [.seq .str 0 d.2.2.2.2.2.1.2.1]⟩, some ⟨false, [.seq (.pair (.int .i64) .str) 0 d.2.2.2.2.2.2.1.2.1]⟩, some ⟨false, [.seq (.pair (.int .i64) .str) 0 y10]⟩]) (fun (y1 : Int) (y2 : Bool) (y3 : Int) (y5 : Int) (y6 : Bool) (y7 : Int) (y9 : List (Int × ByteArray)) (y10 : List (Int × ByteArray)) => K [.lf (.bool true)] [some ⟨false, [.full 1, .full 6, .int .i64 y1, .bool y2, .int .i64 y3]⟩, some ⟨false, [.seq .str 0 d.2.2.1.2.1]⟩, none, some ⟨false, [.full 4, .full 7, .int .i64 y5, .bool y6, .int .i64 y7]⟩, some ⟨false, [.seq .str 0 d.2.2.2.2.2.1.2.1]⟩, none, some ⟨false, [.seq (.pair (.int .i64) .str) 0 y9]⟩, some ⟨false, [.seq (.pair (.int .i64) .str) 0 y10]⟩]) (fun (y1 : Int) (y2 : Bool) (y3 : Int) (y6 : Int) (y7 : Bool) (y8 : Int) (y9 : List ByteArray) (y11 : List (Int × ByteArray)) => K [.lf (.bool false)] [some ⟨false, [.full 1, .full 2, .int .i64 y1, .bool y2, .int .i64 y3]⟩, some ⟨false, [.seq .str 0 d.2.2.1.2.1]⟩, some ⟨false, [.seq (.pair (.int .i64) .str) 0 d.2.2.2.1.2.1]⟩, some ⟨false, [.full 4, .full 6, .int .i64 y6, .bool y7, .int .i64 y8]⟩, some ⟨false, [.seq .str 0 y9]⟩, some ⟨false, [.seq (.pair (.int .i64) .str) 0 d.2.2.2.2.2.2.1.2.1]⟩, some ⟨false, [.seq (.pair (.int .i64) .str) 0 y11]⟩]) (fun (y1 : Int) (y2 : Bool) (y3 : Int) (y4 : List ByteArray) (y6 : Int) (y7 : Bool) (y8 : Int) (y11 : List (Int × ByteArray)) => K [.lf (.bool false)] [some ⟨false, [.full 1, .full 6, .int .i64 y1, .bool y2, .int .i64 y3]⟩, some ⟨false, [.seq .str 0 y4]⟩, some ⟨false, [.seq (.pair (.int .i64) .str) 0 d.2.2.2.1.2.1]⟩, some ⟨false, [.full 4, .full 5, .int .i64 y6, .bool y7, .int .i64 y8]⟩, some ⟨false, [.seq .str 0 d.2.2.2.2.2.1.2.1]⟩, some ⟨false, [.seq (.pair (.int .i64) .str) 0 d.2.2.2.2.2.2.1.2.1]⟩, some ⟨false, [.seq (.pair (.int .i64) .str) 0 y11]⟩]) (fun (y1 : Int) (y2 : Bool) (y3 : Int) (y4 : List ByteArray) (y6 : Int) (y7 : Bool) (y8 : Int) (y9 : List ByteArray) (y11 : List (Int × ByteArray)) (y12 : List (Int × ByteArray)) => K [.lf (.bool true)] [some ⟨false, [.full 1, .full 6, .int .i64 y1, .bool y2, .int .i64 y3]⟩, some ⟨false, [.seq .str 0 y4]⟩, some ⟨false, [.seq (.pair (.int .i64) .str) 0 d.2.2.2.1.2.1]⟩, some ⟨false, [.full 4, .full 7, .int .i64 y6, .bool y7, .int .i64 y8]⟩, some ⟨false, [.seq .str 0 y9]⟩, some ⟨false, [.seq (.pair (.int .i64) .str) 0 d.2.2.2.2.2.2.1.2.1]⟩, some ⟨false, [.seq (.pair (.int .i64) .str) 0 y11]⟩, some ⟨false, [.seq (.pair (.int .i64) .str) 0 y12]⟩])) noS)), (59, (mkS sh59_1 (fun d K => c59_1 d.2.1.2.2.2.1 d.2.1.2.2.2.2.1 d.2.1.2.2.2.2.2.1 d.2.2.1.2.1 d.2.2.2.1.2.1 d.2.2.2.2.1.2.2.2.1 d.2.2.2.2.1.2.2.2.2.1 d.2.2.2.2.1.2.2.2.2.2.1 d.2.2.2.2.2.1.2.1 d.2.2.2.2.2.2.1.2.1 (fun (y0 : Bool) => K [.lf (.bool y0)] [some ⟨d.2.1.1, [.full 1, .full 2, .int .i64 d.2.1.2.2.2.1, .bool d.2.1.2.2.2.2.1, .int .i64 d.2.1.2.2.2.2.2.1]⟩, some ⟨d.2.2.1.1, [.seq .str 0 d.2.2.1.2.1]⟩, some ⟨d.2.2.2.1.1, [.seq (.pair (.int .i64) .str) 0 d.2.2.2.1.2.1]⟩, some ⟨d.2.2.2.2.1.1, [.full 4, .full 5, .int .i64 d.2.2.2.2.1.2.2.2.1, .bool d.2.2.2.2.1.2.2.2.2.1, .int .i64 d.2.2.2.2.1.2.2.2.2.2.1]⟩, some ⟨d.2.2.2.2.2.1.1, [.seq .str 0 d.2.2.2.2.2.1.2.1]⟩, some ⟨d.2.2.2.2.2.2.1.1, [.seq (.pair (.int .i64) .str) 0 d.2.2.2.2.2.2.1.2.1]⟩])) noS))]) (xw []) 63 1 (ltab [(8, orG sh12_1_l8 (fun d K => l8 d.1.2.2.2.1 d.2.1.2.1 (K (.exit 0) [] [some ⟨d.2.1.1, [.seq (.pair (.int .i64) (.pair (.int .i64) (.pair .str (.sl .bool)))) 0 d.2.1.2.1]⟩]) F) (mkG sh12_1_l8_2 [1, 5, 7, 9] (outT [(.exit 0, []), (.ret, [4])]) (fun d K => l8_2 d.2.1.2.1 (fun (y2 : Int) (y3 : Bool) (y4 : Int) (y5 : List ByteArray) (y6 : List (Int × ByteArray)) (y7 : Int) (y8 : Bool) (y9 : Int) (y10 : List ByteArray) (y11 : List (Int × ByteArray)) => K .ret [.tv (.lf (.bool false))] [some ⟨d.2.1.1, [.seq (.pair (.int .i64) (.pair (.int .i64) (.pair .str (.sl .bool)))) 0 d.2.1.2.1]⟩, some ⟨false, [.full 2, .full 3, .int .i64 y2, .bool y3, .int .i64 y4]⟩, some ⟨false, [.seq .str 0 y5]⟩, some ⟨false, [.seq (.pair (.int .i64) .str) 0 y6]⟩, some ⟨false, [.full 5, .full 6, .int .i64 y7, .bool y8, .int .i64 y9]⟩, some ⟨false, [.seq .str 0 y10]⟩, some ⟨false, [.seq (.pair (.int .i64) .str) 0 y11]⟩]) (fun (y2 : Int) (y3 : Bool) (y4 : Int) (y5 : List ByteArray) (y6 : List (Int × ByteArray)) (y7 : Int) (y8 : Bool) (y9 : Int) (y10 : List ByteArray) (y11 : List (Int × ByteArray)) => K .ret [.tv (.lf (.bool false))] [some ⟨d.2.1.1, [.seq (.pair (.int .i64) (.pair (.int .i64) (.pair .str (.sl .bool)))) 0 d.2.1.2.1]⟩, some ⟨false, [.full 2, .full 3, .int .i64 y2, .bool y3, .int .i64 y4]⟩, some ⟨false, [.seq .str 0 y5]⟩, some ⟨false, [.seq (.pair (.int .i64) .str) 0 y6]⟩, some ⟨false, [.full 5, .full 7, .int .i64 y7, .bool y8, .int .i64 y9]⟩, some ⟨false, [.seq .str 0 y10]⟩, none, some ⟨false, [.seq (.pair (.int .i64) .str) 0 y11]⟩]) (fun (y2 : Int) (y3 : Bool) (y4 : Int) (y5 : List ByteArray) (y6 : Int) (y7 : Bool) (y8 : Int) (y9 : List ByteArray) (y10 : List (Int × ByteArray)) (y11 : List (Int × ByteArray)) => K .ret [.tv (.lf (.bool false))] [some ⟨d.2.1.1, [.seq (.pair (.int .i64) (.pair (.int .i64) (.pair .str (.sl .bool)))) 0 d.2.1.2.1]⟩, some ⟨false, [.full 2, .full 7, .int .i64 y2, .bool y3, .int .i64 y4]⟩, some ⟨false, [.seq .str 0 y5]⟩, none, some ⟨false, [.full 5, .full 6, .int .i64 y6, .bool y7, .int .i64 y8]⟩, some ⟨false, [.seq .str 0 y9]⟩, some ⟨false, [.seq (.pair (.int .i64) .str) 0 y10]⟩, some ⟨false, [.seq (.pair (.int .i64) .str) 0 y11]⟩]) (fun (y2 : Int) (y3 : Bool) (y4 : Int) (y5 : List ByteArray) (y6 : Int) (y7 : Bool) (y8 : Int) (y9 : List ByteArray) (y10 : List (Int × ByteArray)) (y11 : List (Int × ByteArray)) => K .ret [.tv (.lf (.bool false))] [some ⟨d.2.1.1, [.seq (.pair (.int .i64) (.pair (.int .i64) (.pair .str (.sl .bool)))) 0 d.2.1.2.1]⟩, some ⟨false, [.full 2, .full 7, .int .i64 y2, .bool y3, .int .i64 y4]⟩, some ⟨false, [.seq .str 0 y5]⟩, none, some ⟨false, [.full 5, .full 8, .int .i64 y6, .bool y7, .int .i64 y8]⟩, some ⟨false, [.seq .str 0 y9]⟩, none, some ⟨false, [.seq (.pair (.int .i64) .str) 0 y10]⟩, some ⟨false, [.seq (.pair (.int .i64) .str) 0 y11]⟩]) (fun (y2 : Int) (y3 : Bool) (y4 : Int) (y5 : List ByteArray) (y6 : List (Int × ByteArray)) (y7 : Int) (y8 : Bool) (y9 : Int) (y10 : List ByteArray) (y11 : List (Int × ByteArray)) (y12 : List (Int × ByteArray)) => K .ret [.tv (.lf (.bool false))] [some ⟨d.2.1.1, [.seq (.pair (.int .i64) (.pair (.int .i64) (.pair .str (.sl .bool)))) 0 d.2.1.2.1]⟩, some ⟨false, [.full 2, .full 3, .int .i64 y2, .bool y3, .int .i64 y4]⟩, some ⟨false, [.seq .str 0 y5]⟩, some ⟨false, [.seq (.pair (.int .i64) .str) 0 y6]⟩, some ⟨false, [.full 5, .full 7, .int .i64 y7, .bool y8, .int .i64 y9]⟩, some ⟨false, [.seq .str 0 y10]⟩, some ⟨false, [.seq (.pair (.int .i64) .str) 0 y11]⟩, some ⟨false, [.seq (.pair (.int .i64) .str) 0 y12]⟩]) (fun (y2 : Int) (y3 : Bool) (y4 : Int) (y5 : List ByteArray) (y6 : List (Int × ByteArray)) (y7 : Int) (y8 : Bool) (y9 : Int) (y10 : List ByteArray) (y11 : List (Int × ByteArray)) (y12 : List (Int × ByteArray)) => K .ret [.tv (.lf (.bool false))] [some ⟨d.2.1.1, [.seq (.pair (.int .i64) (.pair (.int .i64) (.pair .str (.sl .bool)))) 0 d.2.1.2.1]⟩, some ⟨false, [.full 2, .full 7, .int .i64 y2, .bool y3, .int .i64 y4]⟩, some ⟨false, [.seq .str 0 y5]⟩, some ⟨false, [.seq (.pair (.int .i64) .str) 0 y6]⟩, some ⟨false, [.full 5, .full 6, .int .i64 y7, .bool y8, .int .i64 y9]⟩, some ⟨false, [.seq .str 0 y10]⟩, some ⟨false, [.seq (.pair (.int .i64) .str) 0 y11]⟩, some ⟨false, [.seq (.pair (.int .i64) .str) 0 y12]⟩]) (fun (y2 : Int) (y3 : Bool) (y4 : Int) (y5 : List ByteArray) (y6 : List (Int × ByteArray)) (y7 : Int) (y8 : Bool) (y9 : Int) (y10 : List ByteArray) (y11 : List (Int × ByteArray)) (y12 : List (Int × ByteArray)) (y13 : List (Int × ByteArray)) => K .ret [.tv (.lf (.bool false))] [some ⟨d.2.1.1, [.seq (.pair (.int .i64) (.pair (.int .i64) (.pair .str (.sl .bool)))) 0 d.2.1.2.1]⟩, some ⟨false, [.full 2, .full 7, .int .i64 y2, .bool y3, .int .i64 y4]⟩, some ⟨false, [.seq .str 0 y5]⟩, some ⟨false, [.seq (.pair (.int .i64) .str) 0 y6]⟩, some ⟨false, [.full 5, .full 8, .int .i64 y7, .bool y8, .int .i64 y9]⟩, some ⟨false, [.seq .str 0 y10]⟩, some ⟨false, [.seq (.pair (.int .i64) .str) 0 y11]⟩, some ⟨false, [.seq (.pair (.int .i64) .str) 0 y12]⟩, some ⟨false, [.seq (.pair (.int .i64) .str) 0 y13]⟩]) (fun (y1 : Int) (y2 : Bool) (y3 : Int) (y4 : List ByteArray) (y5 : List (Int × ByteArray)) (y6 : Int) (y7 : Bool) (y8 : Int) (y9 : List ByteArray) (y10 : List (Int × ByteArray)) => K (.exit 0) [] [some ⟨d.2.1.1, [.seq (.pair (.int .i64) (.pair (.int .i64) (.pair .str (.sl .bool)))) 0 d.2.1.2.1]⟩, some ⟨false, [.full 2, .full 3, .int .i64 y1, .bool y2, .int .i64 y3]⟩, some ⟨false, [.seq .str 0 y4]⟩, some ⟨false, [.seq (.pair (.int .i64) .str) 0 y5]⟩, some ⟨false, [.full 5, .full 6, .int .i64 y6, .bool y7, .int .i64 y8]⟩, some ⟨false, [.seq .str 0 y9]⟩, some ⟨false, [.seq (.pair (.int .i64) .str) 0 y10]⟩]) F d.1.2.2.2.1 d.2.2.1.2.2.2.1 d.2.2.1.2.2.2.2.1 d.2.2.1.2.2.2.2.2.1 d.2.2.2.1.2.1 d.2.2.2.2.1.2.1 d.2.2.2.2.2.1.2.2.2.1 d.2.2.2.2.2.1.2.2.2.2.1 d.2.2.2.2.2.1.2.2.2.2.2.1 d.2.2.2.2.2.2.1.2.1 d.2.2.2.2.2.2.2.1.2.1) []))]) code12 Try.f12.results.toList (encT sh12_1.vs d.1) (encH sh12_1.h d.2) K = (fun (a1 : Int) (a2 : List (Int × (Int × (ByteArray × (Sl .bool))))) (K0 : (Bool → Option Res)) => c49_1 a2 (fun x1 => cond (!x1) (c50_1  (fun x2 => K0 x2) ) (cond (decide (a1 > 40)) (c50_1  (fun x3 => K0 x3) ) (c51_1 a1 (c52_1 a1 (l8 0 a2 (c50_1  (fun x6 => K0 x6) ) F) (fun x7 x8 => K0 false) ) (fun x9 x10 => c52_1 a1 (K0 false) (fun x11 x12 => l8_2 a2 (fun x87 x88 x89 x90 x91 x92 x93 x94 x95 x96 => K0 false) (fun x97 x98 x99 x100 x101 x102 x103 x104 x105 x106 => K0 false) (fun x107 x108 x109 x110 x111 x112 x113 x114 x115 x116 => K0 false) (fun x117 x118 x119 x120 x121 x122 x123 x124 x125 x126 => K0 false) (fun x127 x128 x129 x130 x131 x132 x133 x134 x135 x136 x137 => K0 false) (fun x138 x139 x140 x141 x142 x143 x144 x145 x146 x147 x148 => K0 false) (fun x149 x150 x151 x152 x153 x154 x155 x156 x157 x158 x159 x160 => K0 false) (fun x161 x162 x163 x164 x165 x166 x167 x168 x169 x170 => c50_1  (fun x171 => K0 x171) ) F 0 (-1) false 0 x9 x10 (-1) false 0 x11 x12) ) ))) ) d.1.1 d.2.1.2.1 (fun (y0 : Bool) => K [.lf (.bool y0)] [some ⟨d.2.1.1, [.seq (.pair (.int .i64) (.pair (.int .i64) (.pair .str (.sl .bool)))) 0 d.2.1.2.1]⟩]) := by kernel_rfl
theorem E12_1 (F : Nat) (d : sh12_1.den) (K : KF) : evBody Try.prog (T12_1 F) (xw []) 63 1 (LT12_1 F) code12 Try.f12.results.toList (encT sh12_1.vs d.1) (encH sh12_1.h d.2) K = f12_1 F d.1.1 d.2.1.2.1 (fun (y0 : Bool) => K [.lf (.bool y0)] [some ⟨d.2.1.1, [.seq (.pair (.int .i64) (.pair (.int .i64) (.pair .str (.sl .bool)))) 0 d.2.1.2.1]⟩]) := Eq.mp (by kernel_rfl) (E12_1g F (f49_1 F) (f50_1 F) (f51_1 F) (f52_1 F) (f53_1 F) (f59_1 F) (f12_1_l8 F) (f12_1_l8_2 F)  d K)
theorem S12_1_ok (F : Nat) (o : Summ) (ho : SoundFn Try.prog 12 o) : SoundFn Try.prog 12 (S12_1 F o) :=
  soundFn_of (fn := Try.f12) (c := code12) rfl rfl (by kernel_rfl) (tab_cons (S49_1_ok F _ (noS_sound enter49)) (tab_cons (S50_1_ok F _ (noS_sound enter50)) (tab_cons (S51_1_ok F _ (noS_sound enter51)) (tab_cons (S52_1_ok F _ (noS_sound enter52)) (tab_cons (S53_1_ok F _ (noS_sound enter53)) (tab_cons (S59_1_ok F _ (noS_sound enter59)) tab_nil)))))) (by kernel_rfl) (by kernel_rfl) ho (by rw [loops12]; exact (loopsOK_cons (by kernel_rfl) (L12_1_8 F) loopsOK_nil)) (by rw [scopes12]; exact scopesOK_nil) (by rw [ranges12]; exact rangesOK_nil) (E12_1 F)
end Go.Proofs.Ytjlolgpbidfmeaa.X
end

section
/- Numbers of a fixed width: what wrapping and the bits' operations come to where nothing is lost. -/
namespace Go.Proofs.Ytjlolgpbidfmeaa.X
open Go Go.Proofs.Ytjlolgpbidfmeaa.Ev
set_option linter.unusedSectionVars false
variable [FZ]
set_option linter.unusedVariables false
set_option linter.unusedSimpArgs false

theorem w64 {x : Int} (h : -9223372036854775808 ≤ x) (h' : x ≤ 9223372036854775807) : IntKind.i64.wrap x = x := by
  simp only [IntKind.wrap, IntKind.bits, IntKind.signed, Bool.true_and]
  split <;> (rename_i hq; simp at hq; omega)

theorem wu64 {x : Int} (h : 0 ≤ x) (h' : x < 18446744073709551616) : IntKind.u64.wrap x = x := by
  simp only [IntKind.wrap, IntKind.bits, IntKind.signed, Bool.false_and]
  simp; omega

theorem wu32 {x : Int} (h : 0 ≤ x) (h' : x < 4294967296) : IntKind.u32.wrap x = x := by
  simp only [IntKind.wrap, IntKind.bits, IntKind.signed, Bool.false_and]
  simp; omega

theorem wu8 {x : Int} (h : 0 ≤ x) (h' : x < 256) : IntKind.u8.wrap x = x := by
  simp only [IntKind.wrap, IntKind.bits, IntKind.signed, Bool.false_and]
  simp; omega

theorem wu64m (x : Int) : IntKind.u64.wrap x = x % 18446744073709551616 := by
  simp only [IntKind.wrap, IntKind.bits, IntKind.signed, Bool.false_and]
  simp
theorem wu32m (x : Int) : IntKind.u32.wrap x = x % 4294967296 := by
  simp only [IntKind.wrap, IntKind.bits, IntKind.signed, Bool.false_and]
  simp
theorem wu8m (x : Int) : IntKind.u8.wrap x = x % 256 := by
  simp only [IntKind.wrap, IntKind.bits, IntKind.signed, Bool.false_and]
  simp

theorem i64_of_wf {n : Int} (h : (Lit.int .i64 n).wf = true) : -9223372036854775808 ≤ n ∧ n ≤ 9223372036854775807 := by
  simp [Lit.wf, IntKind.min, IntKind.max, IntKind.bits, IntKind.signed] at h; omega
theorem u64_of_wf {n : Int} (h : (Lit.int .u64 n).wf = true) : 0 ≤ n ∧ n < 18446744073709551616 := by
  simp [Lit.wf, IntKind.min, IntKind.max, IntKind.bits, IntKind.signed] at h; omega
theorem u8_of_wf {n : Int} (h : (Lit.int .u8 n).wf = true) : 0 ≤ n ∧ n < 256 := by
  simp [Lit.wf, IntKind.min, IntKind.max, IntKind.bits, IntKind.signed] at h; omega
theorem u32_of_wf {n : Int} (h : (Lit.int .u32 n).wf = true) : 0 ≤ n ∧ n < 4294967296 := by
  simp [Lit.wf, IntKind.min, IntKind.max, IntKind.bits, IntKind.signed] at h; omega

theorem or64 {A B : Nat} (hA : A < 2 ^ 64) (hB : B < 2 ^ 64) : ior .u64 (A : Int) (B : Int) = ((A ||| B : Nat) : Int) := by
  have h : (BitVec.ofInt 64 (A : Int) ||| BitVec.ofInt 64 (B : Int)).toNat = A ||| B := by
    simp [BitVec.toNat_or, BitVec.ofInt_natCast, BitVec.toNat_ofNat, Nat.mod_eq_of_lt hA, Nat.mod_eq_of_lt hB]
  have hl := Nat.or_lt_two_pow hA hB
  show IntKind.u64.wrap ((BitVec.ofInt 64 (A : Int) ||| BitVec.ofInt 64 (B : Int)).toNat : Int) = _
  rw [h, wu64 (by omega) (by omega)]
theorem and64 {A B : Nat} (hA : A < 2 ^ 64) (hB : B < 2 ^ 64) : iand .u64 (A : Int) (B : Int) = ((A &&& B : Nat) : Int) := by
  have h : (BitVec.ofInt 64 (A : Int) &&& BitVec.ofInt 64 (B : Int)).toNat = A &&& B := by
    simp [BitVec.toNat_and, BitVec.ofInt_natCast, BitVec.toNat_ofNat, Nat.mod_eq_of_lt hA, Nat.mod_eq_of_lt hB]
  have hl : A &&& B < 2 ^ 64 := Nat.and_lt_two_pow A hB
  show IntKind.u64.wrap ((BitVec.ofInt 64 (A : Int) &&& BitVec.ofInt 64 (B : Int)).toNat : Int) = _
  rw [h, wu64 (by omega) (by omega)]
theorem shl64 {i : Nat} (hi : i < 64) : ishl .u64 1 (i : Int) = ((2 ^ i : Nat) : Int) := by
  have h2 : (2 : Nat) ^ i < 2 ^ 64 := Nat.pow_lt_pow_right (by omega) hi
  have : (1 : Int) * 2 ^ (min i 64) = ((2 ^ i : Nat) : Int) := by
    rw [Nat.min_eq_left (by omega), Int.one_mul]; push_cast; rfl
  simp only [ishl, IntKind.bits, Int.toNat_natCast]
  rw [this, wu64 (Int.natCast_nonneg _) (Int.ofNat_lt.2 h2)]
theorem shr64 {A i : Nat} (hi : i < 64) : ishr .u64 (A : Int) (i : Int) = ((A >>> i : Nat) : Int) := by
  have : ((2 : Int) ^ i) = ((2 ^ i : Nat) : Int) := by push_cast; rfl
  simp only [ishr, IntKind.bits, Int.toNat_natCast]
  rw [Nat.min_eq_left (by omega), Int.fdiv_eq_ediv_of_nonneg _ (by rw [this]; exact Int.natCast_nonneg _), this, Nat.shiftRight_eq_div_pow]
  push_cast; rfl

/-- The number with given bits, below n. -/
def mk (f : Nat → Bool) : Nat → Nat
  | 0 => 0
  | n + 1 => if f n then mk f n ||| 2 ^ n else mk f n

theorem mk_lt (f : Nat → Bool) : ∀ n, mk f n < 2 ^ n
  | 0 => by simp [mk]
  | n + 1 => by
    have := mk_lt f n
    have h2 : (2 : Nat) ^ n < 2 ^ (n + 1) := Nat.pow_lt_pow_right (by omega) (by omega)
    simp only [mk]
    split
    · exact Nat.or_lt_two_pow (by omega) h2
    · omega

theorem mk_bit (f : Nat → Bool) : ∀ n j, (mk f n).testBit j = (decide (j < n) && f j)
  | 0, j => by simp [mk]
  | n + 1, j => by
    simp only [mk]
    split
    · rename_i h
      rw [Nat.testBit_or, mk_bit f n, Nat.testBit_two_pow]
      by_cases hj : j = n
      · subst hj; simp [h]
      · have h1 : decide (j < n) = decide (j < n + 1) := decide_eq_decide.2 (by omega)
        simp [Ne.symm hj, h1]
    · rename_i h
      rw [mk_bit f n]
      by_cases hj : j = n
      · subst hj; simp at h; simp [h]
      · have h1 : decide (j < n) = decide (j < n + 1) := decide_eq_decide.2 (by omega)
        rw [h1]

theorem mk_eq {A n : Nat} {f : Nat → Bool} (hA : A < 2 ^ n) (h : ∀ j, j < n → f j = A.testBit j) : mk f n = A := by
  apply Nat.eq_of_testBit_eq
  intro j
  rw [mk_bit]
  by_cases hj : j < n
  · simp [hj, h j hj]
  · simp [hj]
    exact Nat.testBit_lt_two_pow (Nat.lt_of_lt_of_le hA (Nat.pow_le_pow_right (by omega) (by omega)))

theorem bit_test {A i : Nat} : ((A >>> i &&& 1 : Nat) == 1) = A.testBit i := by
  simp [Nat.testBit, Nat.and_comm]

theorem natbeq {a b : Nat} : (((a : Int) == ((b : Nat) : Int)) : Bool) = (a == b) := by
  rw [Bool.eq_iff_iff]; simp; omega

theorem tdiv_nn {a b : Nat} : ((a : Int).tdiv (b : Int)) = ((a / b : Nat) : Int) := by
  rw [Int.tdiv_eq_ediv_of_nonneg (by omega)]; rfl
theorem tmod_nn {a b : Nat} : ((a : Int).tmod (b : Int)) = ((a % b : Nat) : Int) := by
  rw [Int.tmod_eq_emod_of_nonneg (by omega)]; rfl

theorem lbeq_refl (k : EK) (hr : ∀ x : k.den, k.beq x x = true) : ∀ l : List k.den, lbeq k l l = true
  | [] => rfl
  | x :: r => by simp [lbeq, hr x, lbeq_refl k hr r]
theorem lbeq_int (k : IntKind) (l : List Int) : lbeq (.int k) l l = true := lbeq_refl (.int k) (fun x => by simp [EK.beq]) l
theorem lbeq_int_iff (k : IntKind) : ∀ (l r : List Int), lbeq (.int k) l r = true ↔ l = r
  | [], [] => by simp [lbeq]
  | [], _ :: _ => by simp [lbeq]
  | _ :: _, [] => by simp [lbeq]
  | x :: l, y :: r => by simp [lbeq, EK.beq, lbeq_int_iff k l r]

theorem ct {α : Sort _} {p : Prop} [Decidable p] {a b : α} (h : p) : cond (decide p) a b = a := by simp [h]
theorem cf {α : Sort _} {p : Prop} [Decidable p] {a b : α} (h : ¬ p) : cond (decide p) a b = b := by simp [h]

end Go.Proofs.Ytjlolgpbidfmeaa.X
end

section
/- A disk: what each act of the program's and of the document's comes to, in one form. -/
namespace Go.Proofs.Ytjlolgpbidfmeaa.X
open Go Go.Proofs.Ytjlolgpbidfmeaa.Ev
set_option linter.unusedSectionVars false
variable [FZ]
set_option linter.unusedVariables false
set_option linter.unusedSimpArgs false

abbrev WL := List (Int × ByteArray)

/-- What is so of a disk of n sectors, behind at most k acts. -/
structure DS (n k : Nat) (a c : Int) (l : List ByteArray) (w : WL) : Prop where
  n40 : n ≤ 40
  k300 : k ≤ 300
  len : l.length = n
  wl : w.length ≤ k
  wb : ∀ p ∈ w, 0 ≤ p.1 ∧ p.1 < n
  ar : -1 ≤ a ∧ a ≤ 9223372036854775807
  cr : 0 ≤ c ∧ c ≤ k

theorem getD_of_drop {α : Type} {l r : List α} {i : Nat} {x d : α} (h : l.drop i = x :: r) : i < l.length ∧ l.getD (0 + (i : Int).toNat) d = x ∧ l.drop (i + 1) = r := by
  have h1 : i < l.length := by
    rcases Nat.lt_or_ge i l.length with h1 | h1
    · exact h1
    · rw [List.drop_eq_nil_of_le h1] at h; cases h
  rw [List.drop_eq_getElem_cons h1] at h
  injection h with h2 h3
  refine ⟨h1, ?_, h3⟩
  simp [h1, h2]

theorem getD_out {α : Type} {l : List α} {i : Nat} {d : α} (h : l.length ≤ i) : l.getD i d = d := by simp [List.getD_eq_getElem?_getD, List.getElem?_eq_none h]

theorem len_of_drop_nil {α : Type} {l : List α} {i : Nat} (h : l.drop i = []) (hi : i ≤ l.length) : i = l.length := by
  have := congrArg List.length h
  simp at this; omega

/-! ### A sector as it is flushed; as it was written last -/

def kp (x : Int) (l : List ByteArray) : ByteArray × Int := if 0 ≤ x ∧ x < (l.length : Int) then (l.getD x.toNat ByteArray.empty, 0) else (ByteArray.empty, 3)

theorem keptP {β : Type} {F : Nat} {x a c : Int} {b : Bool} {l : List ByteArray} {w : WL} {K : ByteArray → Int → Option β} : f55_1 F x a b c l w K = K (kp x l).1 (kp x l).2 := by
  rw [f55_1, f108_1, kp]
  by_cases h1 : 0 ≤ x
  · rw [ct (by omega)]
    by_cases h2 : x < (l.length : Int)
    · rw [if_pos ⟨h1, h2⟩, decide_eq_true h2, Bool.not_true, cond_false, ct ⟨h1, h2⟩, ct (by omega), Nat.zero_add]
    · rw [if_neg (by omega), decide_eq_false h2, Bool.not_false, cond_true]
  · rw [cf (by omega), if_neg (by omega), Bool.not_false, cond_true]

theorem keptR {β : Type} {F : Nat} {x a c : Int} {b : Bool} {l : List ByteArray} {w : WL} {K : ByteArray → Int → Option β} : f106_1 F x a b c l w K = K (kp x l).1 (kp x l).2 := by
  rw [f106_1, kp]
  by_cases h1 : 0 ≤ x
  · rw [cf (by omega)]
    by_cases h2 : x < (l.length : Int)
    · rw [if_pos ⟨h1, h2⟩, cf (by omega), ct ⟨h1, h2⟩, ct (by omega), Nat.zero_add]
    · rw [if_neg (by omega), ct (by omega)]
  · rw [ct (by omega), if_neg (by omega)]

/-- What was written last to a sector, in place of s. -/
def last (x : Int) (s : ByteArray) (w : WL) : ByteArray := w.foldl (fun s p => if p.1 = x then p.2 else s) s

def rd (x : Int) (b : Bool) (l : List ByteArray) (w : WL) : ByteArray × Int :=
  if b then (ByteArray.empty, 5) else (if 0 ≤ x ∧ x < (l.length : Int) then last x (l.getD x.toNat ByteArray.empty) w else ByteArray.empty, (kp x l).2)

theorem readRl {β : Type} {F : Nat} {x a c : Int} {b : Bool} {l : List ByteArray} {w : WL} {K : ByteArray → Option β} (hw : w.length ≤ 300) : ∀ (r : WL) (i k : Nat) (s : ByteArray), w.drop i = r → i ≤ w.length → r.length < k →
    f100_1_l5 F x 0 a b c l w K k s (i : Int) = K (last x s r)
  | [], i, 0, s, _, _, hk => by simp at hk
  | _ :: _, i, 0, s, _, _, hk => by simp at hk
  | [], i, k + 1, s, hd, hi, _ => by
    have := len_of_drop_nil hd hi
    rw [f100_1_l5, cf (by omega)]; rfl
  | p :: r, i, k + 1, s, hd, hi, hk => by
    obtain ⟨h1, h2, h3⟩ := getD_of_drop (d := ((0, ByteArray.empty) : Int × ByteArray)) hd
    rw [f100_1_l5, ct (by omega), show ((0 : Int) == 0) = true from rfl, cond_true, ct (by omega), ct (by omega), h2, w64 (by omega) (by omega), ct (by omega), ct (by omega)]
    have ih := fun s => readRl (F := F) (x := x) (a := a) (b := b) (c := c) (l := l) (K := K) hw r (i + 1) k s h3 (by omega) (by simp at hk; omega)
    push_cast at ih
    by_cases hx : p.1 = x
    · rw [show (p.1 == x) = true from by simp [hx], cond_true, ih, last, last, List.foldl_cons, if_pos hx]
    · rw [show (p.1 == x) = false from by simp [hx], cond_false, ih, last, last, List.foldl_cons, if_neg hx]

theorem readRl3 {β : Type} {F : Nat} {x a c : Int} {b : Bool} {l : List ByteArray} {w : WL} {s : ByteArray} {K : ByteArray → Option β} {k : Nat} : f100_1_l5 F x 3 a b c l w K (k + 1) s 0 = K s := by
  rw [f100_1_l5]
  by_cases h : (0 : Int) < ((w.length : Nat) : Int)
  · rw [ct h]; rfl
  · rw [cf h]

theorem readR {β : Type} {F n k : Nat} (hF : 400 ≤ F) {x a c : Int} {b : Bool} {l : List ByteArray} {w : WL} (h : DS n k a c l w) {K : ByteArray → Int → Option β} : f100_1 F x a b c l w K = K (rd x b l w).1 (rd x b l w).2 := by
  have hk := h.k300; have hwl := h.wl
  rw [f100_1]
  cases b with
  | true => rfl
  | false =>
    rw [cond_false, keptR, rd, if_neg (by simp), kp]
    by_cases hx : 0 ≤ x ∧ x < (l.length : Int)
    · rw [if_pos hx, if_pos hx]
      exact readRl (by omega) w 0 F _ rfl (by omega) (by omega)
    · rw [if_neg hx, if_neg hx]
      obtain ⟨F', rfl⟩ : ∃ F', F = F' + 1 := ⟨F - 1, by omega⟩
      exact readRl3

/-- The last write to a sector. -/
def lastW (x : Int) : WL → Option ByteArray
  | [] => none
  | p :: r => match lastW x r with
    | some s => some s
    | none => if p.1 = x then some p.2 else none

theorem last_eq (x : Int) : ∀ (w : WL) (s : ByteArray), last x s w = (match lastW x w with | some t => t | none => s)
  | [], s => rfl
  | p :: r, s => by
    rw [last, List.foldl_cons, ← last, last_eq x r, lastW]
    cases lastW x r with
    | some t => rfl
    | none =>
      by_cases hp : p.1 = x
      · simp [hp]
      · simp [hp]

theorem lastW_app (x : Int) (p : Int × ByteArray) : ∀ w : WL, lastW x (w ++ [p]) = if p.1 = x then some p.2 else lastW x w
  | [] => by simp [lastW]
  | q :: r => by
    rw [List.cons_append, lastW, lastW_app x p r, lastW]
    by_cases hp : p.1 = x
    · simp [hp]
    · simp [hp]

theorem readPl {β : Type} {F : Nat} {x a c z : Int} {b : Bool} {l : List ByteArray} {w : WL} {s : ByteArray} {K0 : ByteArray → Int → ByteArray → Option β} {K1 : Option β} (hw : w.length ≤ 300) : ∀ (i k : Nat), i ≤ w.length → i < k →
    f58_1_r2000006_l1 F a b c l w x s z K0 K1 k ((i : Int) - 1) = (match lastW x (w.take i) with | some t => K0 t x t | none => K1)
  | _, 0, _, h => by omega
  | 0, k + 1, _, _ => by
    rw [f58_1_r2000006_l1, cf (by omega)]; rfl
  | i + 1, k + 1, hi, hk => by
    have h1 : i < w.length := by omega
    have e1 : (((i + 1 : Nat) : Int) - 1) = (i : Int) := by omega
    rw [e1, f58_1_r2000006_l1, ct (by omega), ct (by omega), ct (by omega), w64 (by omega) (by omega), readPl hw i k (by omega) (by omega)]
    have hg : w.getD (0 + (i : Int).toNat) ((0, ByteArray.empty) : Int × ByteArray) = w[i] := by simp [h1]
    rw [hg, List.take_succ_eq_append_getElem h1, lastW_app]
    by_cases hp : w[i].1 = x
    · rw [if_pos hp, show (w[i].1 == x) = true from by simp [hp], cond_true, hp]
    · rw [if_neg hp, show (w[i].1 == x) = false from by simp [hp], cond_false]

theorem lastW_none {x : Int} : ∀ {w : WL}, (∀ p ∈ w, p.1 ≠ x) → lastW x w = none
  | [], _ => rfl
  | p :: r, h => by rw [lastW, lastW_none (fun q hq => h q (by simp [hq]))]; simp [h p (by simp)]

theorem readP {β : Type} {F n k : Nat} (hF : 400 ≤ F) {x a c : Int} {b : Bool} {l : List ByteArray} {w : WL} (h : DS n k a c l w) {K : ByteArray → Int → Option β} : f58_1 F x a b c l w K = K (rd x b l w).1 (rd x b l w).2 := by
  have hk := h.k300; have hwl := h.wl
  rw [f58_1]
  cases b with
  | true => rfl
  | false =>
    rw [cond_false, f109_1, f58_1_r2000006, w64 (by omega) (by omega), readPl (by omega) w.length F (Nat.le_refl _) (by omega), List.take_length, rd, if_neg (by simp)]
    by_cases hx : 0 ≤ x ∧ x < (l.length : Int)
    · rw [if_pos hx, last_eq]
      cases hq : lastW x w with
      | none => simp only [keptP]; rw [kp, if_pos hx]
      | some t => simp only [kp, if_pos hx]
    · rw [if_neg hx, lastW_none (fun p hp he => hx (by have := h.wb p hp; have := h.len; omega))]
      simp only [keptP]; rw [kp, if_neg hx]

/-! ### A write -/

def dec (a : Int) : Int := if a = -1 then a else a - 1

/-- What a write is handed on as. -/
def wrB {β : Type} (x : Int) (t : ByteArray) (a : Int) (b : Bool) (c : Int) (l : List ByteArray) (w : WL) (K0 : Int → Int → Bool → Int → Option β) (K1 : Int → Bool → Int → WL → Option β) : Option β :=
  if b then K0 5 a b c else if ¬ (0 ≤ x ∧ x < (l.length : Int)) then K0 3 a b c else if t.size ≠ 64 then K0 4 a b c else if a = 0 then K0 5 (-1) true c else K1 (dec a) b (c + 1) (w ++ [(x, t)])

theorem writeP {β : Type} {F n k : Nat} {x a c : Int} {t : ByteArray} {b : Bool} {l : List ByteArray} {w : WL} (h : DS n k a c l w) {K0 : Int → Int → Bool → Int → Option β} {K1 : Int → Bool → Int → WL → Option β} :
    f64_1 F x t a b c l w K0 K1 = wrB x t a b c l w K0 K1 := by
  have hk := h.k300; have hwl := h.wl; have ha := h.ar; have hc := h.cr
  rw [f64_1, wrB]
  cases b with
  | true => rfl
  | false =>
    rw [cond_false, if_neg (by simp), f108_1, f80_1, f111_1]
    by_cases h1 : 0 ≤ x
    · rw [ct (by omega)]
      by_cases h2 : x < (l.length : Int)
      · rw [if_neg (by simp [h1, h2]), decide_eq_true h2, Bool.not_true, cond_false]
        by_cases h3 : t.size = 64
        · rw [if_neg (by simp [h3]), show ((t.size : Int) == 64) = true from by simp [h3], Bool.not_true, cond_false]
          by_cases h4 : a = 0
          · subst h4; rfl
          · rw [if_neg h4, show (a == 0) = false from by simp [h4], cond_false, dec]
            by_cases h5 : a = -1
            · rw [if_pos h5, show (a == -1) = true from by simp [h5], cond_true, cond_false, ct (by omega), w64 (by omega) (by omega)]
            · rw [if_neg h5, show (a == -1) = false from by simp [h5], cond_false, cond_false, ct (by omega), w64 (x := a - 1) (by omega) (by omega), w64 (by omega) (by omega)]
        · rw [if_pos (by simpa using h3), show ((t.size : Int) == 64) = false from by simp; omega]; rfl
      · rw [if_pos (by omega), decide_eq_false h2]; rfl
    · rw [cf (by omega), if_pos (by omega)]; rfl

theorem writeR {β : Type} {F n k : Nat} {x a c : Int} {t : ByteArray} {b : Bool} {l : List ByteArray} {w : WL} (h : DS n k a c l w) {K0 : Int → Int → Bool → Int → Option β} {K1 : Int → Bool → Int → WL → Option β} :
    f101_1 F x t a b c l w K0 K1 = wrB x t a b c l w K0 K1 := by
  have hk := h.k300; have hwl := h.wl; have ha := h.ar; have hc := h.cr
  rw [f101_1, wrB]
  cases b with
  | true => rfl
  | false =>
    rw [cond_false, if_neg (by simp), f91_1, f129_1]
    by_cases h1 : 0 ≤ x
    · rw [cf (by omega)]
      by_cases h2 : x < (l.length : Int)
      · rw [if_neg (by simp [h1, h2]), cf (by omega)]
        by_cases h3 : t.size = 64
        · rw [if_neg (by simp [h3]), show ((t.size : Int) == 64) = true from by simp [h3], Bool.not_true, cond_false]
          by_cases h4 : a = 0
          · subst h4; rfl
          · rw [if_neg h4, show (a == 0) = false from by simp [h4], cond_false, dec]
            by_cases h5 : a = -1
            · rw [if_pos h5, cf (by omega), cond_false, ct (by omega), w64 (by omega) (by omega)]
            · rw [if_neg h5, ct (by omega), cond_false, ct (by omega), w64 (x := a - 1) (by omega) (by omega), w64 (by omega) (by omega)]
        · rw [if_pos (by simpa using h3), show ((t.size : Int) == 64) = false from by simp; omega]; rfl
      · rw [if_pos (by omega), ct (by omega)]
    · rw [ct (by omega), if_pos (by omega)]

/-! ### A flush, a crash -/

def put1 (l : List ByteArray) (p : Int × ByteArray) : List ByteArray := l.set p.1.toNat p.2
theorem put1_len (l : List ByteArray) (p : Int × ByteArray) : (put1 l p).length = l.length := by simp [put1]
theorem puts_len : ∀ (w : WL) (l : List ByteArray), (w.foldl put1 l).length = l.length
  | [], l => rfl
  | p :: r, l => by rw [List.foldl_cons, puts_len r, put1_len]

theorem flushPl {β : Type} {F n : Nat} {a c : Int} {b : Bool} {w : WL} {K : List ByteArray → Option β} (hw : w.length ≤ 300) (hb : ∀ p ∈ w, 0 ≤ p.1 ∧ p.1 < (n : Int)) : ∀ (r : WL) (i k : Nat) (l : List ByteArray), w.drop i = r → i ≤ w.length → r.length < k → l.length = n →
    f65_1_l6 F ((w.length : Nat) : Int) a b c w K k (i : Int) l = K (r.foldl put1 l)
  | [], i, 0, s, _, _, hk, _ => by simp at hk
  | _ :: _, i, 0, s, _, _, hk, _ => by simp at hk
  | [], i, k + 1, s, hd, hi, _, _ => by
    have := len_of_drop_nil hd hi
    rw [f65_1_l6, cf (by omega)]; rfl
  | p :: r, i, k + 1, l, hd, hi, hk, hl => by
    obtain ⟨h1, h2, h3⟩ := getD_of_drop (d := ((0, ByteArray.empty) : Int × ByteArray)) hd
    have hp := hb p (List.mem_of_mem_drop (by rw [hd]; simp))
    rw [f65_1_l6, ct (by omega), ct (by omega), ct (by omega), h2, ct (by omega), ct (by omega), w64 (by omega) (by omega), Nat.zero_add, List.foldl_cons]
    exact flushPl hw hb r (i + 1) k (put1 l p) h3 (by omega) (by simp at hk; omega) (by rw [put1_len]; exact hl)

theorem flushRl {β : Type} {F n : Nat} {a c : Int} {b : Bool} {w : WL} {K : List ByteArray → Option β} (hw : w.length ≤ 300) (hb : ∀ p ∈ w, 0 ≤ p.1 ∧ p.1 < (n : Int)) : ∀ (r : WL) (i k : Nat) (l : List ByteArray), w.drop i = r → i ≤ w.length → r.length < k → l.length = n →
    f102_1_l4 F a b c w K k (i : Int) l = K (r.foldl put1 l)
  | [], i, 0, s, _, _, hk, _ => by simp at hk
  | _ :: _, i, 0, s, _, _, hk, _ => by simp at hk
  | [], i, k + 1, s, hd, hi, _, _ => by
    have := len_of_drop_nil hd hi
    rw [f102_1_l4, cf (by omega)]; rfl
  | p :: r, i, k + 1, l, hd, hi, hk, hl => by
    obtain ⟨h1, h2, h3⟩ := getD_of_drop (d := ((0, ByteArray.empty) : Int × ByteArray)) hd
    have hp := hb p (List.mem_of_mem_drop (by rw [hd]; simp))
    rw [f102_1_l4, ct (by omega), ct (by omega), ct (by omega), h2, ct (by omega), ct (by omega), w64 (by omega) (by omega), Nat.zero_add, List.foldl_cons]
    exact flushRl hw hb r (i + 1) k (put1 l p) h3 (by omega) (by simp at hk; omega) (by rw [put1_len]; exact hl)

def flB {β : Type} (a : Int) (b : Bool) (c : Int) (l : List ByteArray) (w : WL) (K0 : Int → Bool → Int → Option β) (K1 : Int → Bool → Int → List ByteArray → WL → Option β) : Option β :=
  if b then K0 a b c else if a = 0 then K0 (-1) true c else K1 (dec a) b (c + 1) (w.foldl put1 l) []

theorem flushP {β : Type} {F n k : Nat} (hF : 400 ≤ F) {a c : Int} {b : Bool} {l : List ByteArray} {w : WL} (h : DS n k a c l w) {K0 : Int → Bool → Int → Option β} {K1 : Int → Bool → Int → List ByteArray → WL → Option β} :
    f65_1 F a b c l w K0 K1 = flB a b c l w K0 K1 := by
  have hk := h.k300; have hwl := h.wl; have ha := h.ar; have hc := h.cr
  rw [f65_1, flB, f111_1]
  cases b with
  | true => rfl
  | false =>
    rw [cond_false, if_neg (by simp)]
    by_cases h4 : a = 0
    · subst h4; rfl
    · rw [if_neg h4, show (a == 0) = false from by simp [h4], cond_false, dec]
      by_cases h5 : a = -1
      · rw [if_pos h5, show (a == -1) = true from by simp [h5], cond_true, Bool.not_true, cond_false, w64 (by omega) (by omega)]
        exact flushPl (by omega) h.wb w 0 F l rfl (by omega) (by omega) h.len
      · rw [if_neg h5, show (a == -1) = false from by simp [h5], cond_false, Bool.not_true, cond_false, w64 (x := a - 1) (by omega) (by omega), w64 (by omega) (by omega)]
        exact flushPl (by omega) h.wb w 0 F l rfl (by omega) (by omega) h.len

theorem flushR {β : Type} {F n k : Nat} (hF : 400 ≤ F) {a c : Int} {b : Bool} {l : List ByteArray} {w : WL} (h : DS n k a c l w) {K0 : Int → Bool → Int → Option β} {K1 : Int → Bool → Int → List ByteArray → WL → Option β} :
    f102_1 F a b c l w K0 K1 = flB a b c l w K0 K1 := by
  have hk := h.k300; have hwl := h.wl; have ha := h.ar; have hc := h.cr
  rw [f102_1, flB, f129_1]
  cases b with
  | true => rfl
  | false =>
    rw [cond_false, if_neg (by simp)]
    by_cases h4 : a = 0
    · subst h4; rfl
    · rw [if_neg h4, show (a == 0) = false from by simp [h4], cond_false, dec]
      by_cases h5 : a = -1
      · rw [if_pos h5, cf (by omega), Bool.not_true, cond_false, w64 (by omega) (by omega)]
        exact flushRl (by omega) h.wb w 0 F l rfl (by omega) (by omega) h.len
      · rw [if_neg h5, ct (by omega), Bool.not_true, cond_false, w64 (x := a - 1) (by omega) (by omega), w64 (by omega) (by omega)]
        exact flushRl (by omega) h.wb w 0 F l rfl (by omega) (by omega) h.len

/-- A crash: the i-th write is kept where the i-th word says so. -/
def crB (ks : List Bool) : Nat → WL → List ByteArray → List ByteArray
  | _, [], l => l
  | i, p :: r, l => crB ks (i + 1) r (if ks.getD i false then put1 l p else l)

theorem crB_len (ks : List Bool) : ∀ (w : WL) (i : Nat) (l : List ByteArray), (crB ks i w l).length = l.length
  | [], _, l => rfl
  | p :: r, i, l => by
    rw [crB, crB_len ks r]
    split
    · exact put1_len l p
    · rfl

theorem crB_stop (ks : List Bool) : ∀ (w : WL) (i : Nat) (l : List ByteArray), ks.length ≤ i → crB ks i w l = l
  | [], _, l, _ => rfl
  | p :: r, i, l, h => by
    rw [crB, crB_stop ks r (i + 1) _ (by omega), getD_out h]; rfl

theorem crashPl {β : Type} {F n : Nat} {a c : Int} {b : Bool} {w : WL} {ks : List Bool} {K : List ByteArray → Option β} (hw : w.length ≤ 300) (hb : ∀ p ∈ w, 0 ≤ p.1 ∧ p.1 < (n : Int)) : ∀ (r : WL) (i k : Nat) (l : List ByteArray), w.drop i = r → i ≤ w.length → r.length < k → l.length = n →
    f56_1_l2 F ((w.length : Nat) : Int) a b c w ks K k (i : Int) l = K (crB ks i r l)
  | [], i, 0, s, _, _, hk, _ => by simp at hk
  | _ :: _, i, 0, s, _, _, hk, _ => by simp at hk
  | [], i, k + 1, s, hd, hi, _, _ => by
    have := len_of_drop_nil hd hi
    rw [f56_1_l2, cf (by omega)]; rfl
  | p :: r, i, k + 1, l, hd, hi, hk, hl => by
    obtain ⟨h1, h2, h3⟩ := getD_of_drop (d := ((0, ByteArray.empty) : Int × ByteArray)) hd
    have hp := hb p (List.mem_of_mem_drop (by rw [hd]; simp))
    have ih := fun l hl => crashPl (F := F) (a := a) (b := b) (c := c) (ks := ks) (K := K) hw hb r (i + 1) k l h3 (by omega) (by simp at hk; omega) hl
    push_cast at ih
    rw [f56_1_l2, ct (by omega), ct (by omega), ct (by omega), h2, w64 (by omega) (by omega), crB]
    by_cases hq : (i : Int) < ((ks.length : Nat) : Int)
    · have hg : ks.getD (0 + (i : Int).toNat) false = ks.getD i false := by rw [Nat.zero_add]; rfl
      rw [ct hq, ct (by omega), ct (by omega), hg]
      cases ks.getD i false with
      | false => rw [cond_false, ih l hl]; rfl
      | true => rw [cond_true, ct (by omega), ct (by omega), Nat.zero_add]; exact ih (put1 l p) (by rw [put1_len]; exact hl)
    · rw [cf hq, ih l hl, getD_out (by omega)]; rfl

theorem crashRl {β : Type} {F n : Nat} {a c : Int} {b : Bool} {w : WL} {ks : List Bool} {K : List ByteArray → Option β} (hw : w.length ≤ 300) (hb : ∀ p ∈ w, 0 ≤ p.1 ∧ p.1 < (n : Int)) : ∀ (r : WL) (i k : Nat) (l : List ByteArray), w.drop i = r → i ≤ w.length → r.length < k → l.length = n →
    f104_1_l1 F a b c w ks K k (i : Int) l = K (crB ks i r l)
  | [], i, 0, s, _, _, hk, _ => by simp at hk
  | _ :: _, i, 0, s, _, _, hk, _ => by simp at hk
  | [], i, k + 1, s, hd, hi, _, _ => by
    have := len_of_drop_nil hd hi
    rw [f104_1_l1, cf (by omega)]; rfl
  | p :: r, i, k + 1, l, hd, hi, hk, hl => by
    obtain ⟨h1, h2, h3⟩ := getD_of_drop (d := ((0, ByteArray.empty) : Int × ByteArray)) hd
    have hp := hb p (List.mem_of_mem_drop (by rw [hd]; simp))
    rw [f104_1_l1, ct (by omega)]
    by_cases hq : (i : Int) < ((ks.length : Nat) : Int)
    · have ih := fun l hl => crashRl (F := F) (a := a) (b := b) (c := c) (ks := ks) (K := K) hw hb r (i + 1) k l h3 (by omega) (by simp at hk; omega) hl
      push_cast at ih
      have hg : ks.getD (0 + (i : Int).toNat) false = ks.getD i false := by rw [Nat.zero_add]; rfl
      rw [ct hq, ct (by omega), ct (by omega), h2, w64 (by omega) (by omega), crB, ct (by omega), ct (by omega), hg]
      cases ks.getD i false with
      | false => rw [cond_false, ih l hl]; rfl
      | true => rw [cond_true, ct (by omega), ct (by omega), Nat.zero_add]; exact ih (put1 l p) (by rw [put1_len]; exact hl)
    · rw [cf hq, crB_stop ks _ i l (by omega)]

theorem crashP {β : Type} {F n k : Nat} (hF : 400 ≤ F) {a c : Int} {b : Bool} {l : List ByteArray} {w : WL} (h : DS n k a c l w) {ks : List Bool} {K : List ByteArray → WL → Option β} :
    f56_1 F a b c l w ks K = K (crB ks 0 w l) [] := by
  have hk := h.k300; have hwl := h.wl
  rw [f56_1]
  exact crashPl (by omega) h.wb w 0 F l rfl (by omega) (by omega) h.len

theorem crashR {β : Type} {F n k : Nat} (hF : 400 ≤ F) {a c : Int} {b : Bool} {l : List ByteArray} {w : WL} (h : DS n k a c l w) {ks : List Bool} {K : List ByteArray → WL → Option β} :
    f104_1 F a b c l w ks K = K (crB ks 0 w l) [] := by
  have hk := h.k300; have hwl := h.wl
  rw [f104_1]
  exact crashRl (by omega) h.wb w 0 F l rfl (by omega) (by omega) h.len

end Go.Proofs.Ytjlolgpbidfmeaa.X
end

section
/- A disk: one act to both, what is alike, how both begin. -/
namespace Go.Proofs.Ytjlolgpbidfmeaa.X
open Go Go.Proofs.Ytjlolgpbidfmeaa.Ev
set_option linter.unusedSectionVars false
variable [FZ]
set_option linter.unusedVariables false
set_option linter.unusedSimpArgs false

section
variable {n k : Nat} {a c : Int} {l : List ByteArray} {w : WL}

theorem DS.more (h : DS n k a c l w) (hk : k < 300) : DS n (k + 1) a c l w := ⟨h.n40, by omega, h.len, by have := h.wl; omega, h.wb, h.ar, by have := h.cr; omega⟩
theorem DS.off (h : DS n k a c l w) (hk : k < 300) : DS n (k + 1) (-1) c l w := ⟨h.n40, by omega, h.len, by have := h.wl; omega, h.wb, by omega, by have := h.cr; omega⟩
theorem DS.fuse (h : DS n k a c l w) (hk : k < 300) {x : Int} (hx : x ≤ 9223372036854775807) : DS n (k + 1) (if (-1) > x then (-1) else x) c l w := ⟨h.n40, by omega, h.len, by have := h.wl; omega, h.wb, by split <;> omega, by have := h.cr; omega⟩
theorem DS.wrote (h : DS n k a c l w) (hk : k < 300) (h0 : a ≠ 0) {x : Int} {t : ByteArray} (hx : 0 ≤ x ∧ x < (l.length : Int)) : DS n (k + 1) (dec a) (c + 1) l (w ++ [(x, t)]) :=
  ⟨h.n40, by omega, h.len, by have := h.wl; simp; omega, fun p hp => by
    rcases List.mem_append.1 hp with hp | hp
    · exact h.wb p hp
    · simp at hp; subst hp; rw [← h.len]; exact hx, by have := h.ar; unfold dec; split <;> omega, by have := h.cr; omega⟩
theorem DS.flushed (h : DS n k a c l w) (hk : k < 300) (h0 : a ≠ 0) : DS n (k + 1) (dec a) (c + 1) (w.foldl put1 l) [] :=
  ⟨h.n40, by omega, by rw [puts_len]; exact h.len, by simp, fun p hp => (by cases hp), by have := h.ar; unfold dec; split <;> omega, by have := h.cr; omega⟩
theorem DS.crashed (h : DS n k a c l w) (hk : k < 300) (ks : List Bool) : DS n (k + 1) (-1) c (crB ks 0 w l) [] :=
  ⟨h.n40, by omega, by rw [crB_len]; exact h.len, by simp, fun p hp => (by cases hp), by omega, by have := h.cr; omega⟩
theorem DS.came (h : DS n k a c l w) (hk : k < 300) : DS n (k + 1) (-1) c l [] :=
  ⟨h.n40, by omega, h.len, by simp, fun p hp => (by cases hp), by omega, by have := h.cr; omega⟩

/-- One act to both. -/
theorem doP {β : Type} {F : Nat} (hF : 400 ≤ F) {kd x : Int} {t : ByteArray} {ks : Sl .bool} {b : Bool} (h : DS n k a c l w) (hk : k < 300) (hx : x ≤ 9223372036854775807) {r : Option β}
    {K0 : Bool → Int → Bool → Int → Int → Bool → Int → Option β} {K1 K2 : Bool → Int → Bool → Int → Int → Bool → Int → WL → Option β} {K3 : Int → Bool → Int → Int → Bool → Int → WL → WL → Option β}
    {K4 : Int → Bool → Int → Int → Bool → Int → List ByteArray → WL → Option β} {K5 : Int → Bool → Int → List ByteArray → Int → Bool → Int → WL → Option β}
    {K6 : Int → Bool → Int → List ByteArray → Int → Bool → Int → List ByteArray → WL → WL → Option β}
    (h0 : ∀ a' b' c', DS n (k + 1) a' c' l w → K0 true a' b' c' a' b' c' = r)
    (h3 : ∀ a' b' c' w', DS n (k + 1) a' c' l w' → K3 a' b' c' a' b' c' w' w' = r)
    (h6 : ∀ a' b' c' l' w', DS n (k + 1) a' c' l' w' → K6 a' b' c' l' a' b' c' l' w' w' = r) :
    f53_1 F kd x t ks a b c l w a b c l w K0 K1 K2 K3 K4 K5 K6 = r := by
  rw [f53_1]
  have hself : ∀ z : Int, (z == z) = true := fun z => by simp
  have e2 : ∀ s : ByteArray, (s.toList == s.toList) = true := fun s => by simp
  cases (kd.tmod 7 == 0) with
  | true => rw [cond_true, readP hF h, readR hF h, e2, cond_true, hself]; exact h0 _ _ _ (h.more hk)
  | false =>
    rw [cond_false]
    cases (kd.tmod 7 == 1) with
    | true =>
      rw [cond_true]
      have e : f64_1 F x t a b c l w (fun x5 x6 x7 x8 => f101_1 F x t a b c l w (fun x9 x10 x11 x12 => K0 (x5 == x9) x6 x7 x8 x10 x11 x12) (fun x13 x14 x15 x16 => K1 (x5 == 0) x6 x7 x8 x13 x14 x15 x16))
          (fun x17 x18 x19 x20 => f101_1 F x t a b c l w (fun x21 x22 x23 x24 => K2 ((0 : Int) == x21) x17 x18 x19 x22 x23 x24 x20) (fun x25 x26 x27 x28 => K3 x17 x18 x19 x25 x26 x27 x20 x28)) = r := by
        rw [writeP h]
        simp only [writeR h, wrB]
        by_cases q1 : b = true
        · simp only [if_pos q1, hself]; exact h0 _ _ _ (h.more hk)
        · by_cases q2 : 0 ≤ x ∧ x < (l.length : Int)
          · have q2' : ¬ ¬ (0 ≤ x ∧ x < (l.length : Int)) := fun hh => hh q2
            by_cases q3 : t.size = 64
            · have q3' : ¬ (t.size ≠ 64) := fun hh => hh q3
              by_cases q4 : a = 0
              · simp only [if_neg q1, if_neg q2', if_neg q3', if_pos q4, hself]; exact h0 _ _ _ (h.off hk)
              · simp only [if_neg q1, if_neg q2', if_neg q3', if_neg q4]; exact h3 _ _ _ _ (h.wrote hk q4 q2)
            · have q3' : t.size ≠ 64 := q3
              simp only [if_neg q1, if_neg q2', if_pos q3', hself]; exact h0 _ _ _ (h.more hk)
          · simp only [if_neg q1, if_pos q2, hself]; exact h0 _ _ _ (h.more hk)
      rw [e, amb_self, amb_self, amb_self]
    | false =>
      rw [cond_false]
      cases (kd.tmod 7 == 2) with
      | true =>
        rw [cond_true, flushP hF h]
        simp only [flushR hF h, flB]
        by_cases q1 : b = true
        · simp only [if_pos q1]; exact h0 _ _ _ (h.more hk)
        · by_cases q4 : a = 0
          · simp only [if_neg q1, if_pos q4]; exact h0 _ _ _ (h.off hk)
          · simp only [if_neg q1, if_neg q4]; exact h6 _ _ _ _ _ (h.flushed hk q4)
      | false =>
        rw [cond_false]
        cases (kd.tmod 7 == 3) with
        | true => rw [cond_true, f62_1, f103_1]; exact h0 _ _ _ (h.fuse hk hx)
        | false =>
          rw [cond_false]
          cases (kd.tmod 7 == 4) with
          | true => rw [cond_true, crashP hF h, crashR hF h]; exact h6 _ _ _ _ _ (h.crashed hk _)
          | false =>
            rw [cond_false]
            cases (kd.tmod 7 == 5) with
            | true =>
              rw [cond_true, f57_1]
              simp only [f105_1]
              cases b with
              | false => exact h0 _ _ _ (h.more hk)
              | true => exact h6 _ _ _ _ _ (h.came hk)
            | false => rw [cond_false, keptP, keptR, e2, cond_true, hself]; exact h0 _ _ _ (h.more hk)

/-! ### What is alike -/

theorem cloneW {β : Type} {F : Nat} {w : WL} (hw : w.length ≤ 300) {K : WL → Option β} : f107_1 F w K = K w := by
  rw [f107_1, ct (show (0 + w.length) * 24 ≤ 70368744177664 by omega), List.nil_append]
  by_cases h : 0 < w.length
  · rw [ct h]
  · have : w = [] := List.length_eq_zero_iff.1 (by omega)
    rw [cf h]; subst this; exact amb_self _

theorem putsl {β : Type} {F : Nat} {w : WL} (hw : w.length ≤ 300) {K0 K1 : Option β} : ∀ (r : WL) (i k : Nat), w.drop i = r → i ≤ w.length → r.length < k → f110_1_l4 F w w K0 K1 k (i : Int) = K1
  | [], i, 0, _, _, hk => by simp at hk
  | _ :: _, i, 0, _, _, hk => by simp at hk
  | [], i, k + 1, hd, hi, _ => by
    have := len_of_drop_nil hd hi
    rw [f110_1_l4, cf (by omega)]
  | p :: r, i, k + 1, hd, hi, hk => by
    obtain ⟨h1, h2, h3⟩ := getD_of_drop (d := ((0, ByteArray.empty) : Int × ByteArray)) hd
    rw [f110_1_l4, ct (by omega), ct (by omega), ct (by omega), ct (by omega), ct (by omega), show ∀ p : Int × ByteArray, (!(p.1 == p.1 && p.2.toList == p.2.toList)) = false from fun p => by simp, cond_false, w64 (by omega) (by omega)]
    exact putsl hw r (i + 1) k h3 (by omega) (by simp at hk; omega)

theorem alikel {β : Type} {F : Nat} (hF : 400 ≤ F) {b : Bool} (h : DS n k a c l w) {K0 K1 : Option β} : ∀ (j i f : Nat), j + i = l.length → j < f → f59_1_l4 F a b c l w a b c l w K0 K1 f (i : Int) = K1
  | _, _, 0, _, hf => by omega
  | 0, i, f + 1, hi, _ => by rw [f59_1_l4, cf (by omega)]
  | j + 1, i, f + 1, hi, hf => by
    have hl := h.len; have hn := h.n40
    rw [f59_1_l4, ct (by omega), keptP, readP hF h, readR hF h, ct (by omega), ct (by omega), kp, if_pos (by omega), Nat.zero_add]
    rw [show ∀ s : ByteArray, (!(s.toList == s.toList)) = false from fun s => by simp, cond_false, show ((0 : Int) != 0) = false from rfl, cond_false, show ∀ s : ByteArray, (!(s.toList == s.toList)) = false from fun s => by simp, cond_false, show ∀ z : Int, (z != z) = false from fun z => by simp, cond_false, w64 (by omega) (by omega)]
    exact alikel hF h j (i + 1) f (by omega) (by omega)

theorem alikeP {β : Type} {F : Nat} (hF : 400 ≤ F) {b : Bool} (h : DS n k a c l w) {K : Bool → Option β} : f59_1 F a b c l w a b c l w K = K true := by
  have hk := h.k300; have hwl := h.wl; have hl := h.len; have hn := h.n40
  have e : ∀ z : Int, (z != z) = false := fun z => by simp
  rw [f59_1, f63_1, e, cond_false, f66_1, show (!(b == b)) = false by simp, cond_false, f67_1, e, cond_false, f54_1, cloneW (by omega), f110_1, e, cond_false]
  refine Eq.trans (putsl (by omega) w 0 F rfl (by omega) (by omega)) ?_
  rw [Bool.not_true, cond_false]
  exact alikel hF h l.length 0 F (by omega) (by omega)
end

/-! ### How both begin -/

noncomputable def Z : ByteArray := ofInts (List.replicate 64 0)

theorem zeroP {β : Type} {K : ByteArray → Option β} : f99_1 1000 K = K Z := by kernel_rfl
theorem zeroR {β : Type} {K : ByteArray → Option β} : f75_1 1000 K = K Z := by kernel_rfl

theorem forty {P : Int → Prop} (h : ∀ n : Nat, n < 40 → P ((n : Int) + 1)) {n : Int} (h1 : 1 ≤ n) (h2 : n ≤ 40) : P n := by
  have := h (n - 1).toNat (by omega)
  rwa [show (((n - 1).toNat : Nat) : Int) + 1 = n by omega] at this

set_option maxRecDepth 100000 in
theorem repS {β : Type} {n : Nat} {z : ByteArray} (h : n < 40) {K : List ByteArray → Option β} : f98_1 1000 ((n : Int) + 1) [z] K = K (List.replicate (n + 1) z) := by
  rcases (show n = 0 ∨ n = 1 ∨ n = 2 ∨ n = 3 ∨ n = 4 ∨ n = 5 ∨ n = 6 ∨ n = 7 ∨ n = 8 ∨ n = 9 ∨ n = 10 ∨ n = 11 ∨ n = 12 ∨ n = 13 ∨ n = 14 ∨ n = 15 ∨ n = 16 ∨ n = 17 ∨ n = 18 ∨ n = 19 ∨ n = 20 ∨ n = 21 ∨ n = 22 ∨ n = 23 ∨ n = 24 ∨ n = 25 ∨ n = 26 ∨ n = 27 ∨ n = 28 ∨ n = 29 ∨ n = 30 ∨ n = 31 ∨ n = 32 ∨ n = 33 ∨ n = 34 ∨ n = 35 ∨ n = 36 ∨ n = 37 ∨ n = 38 ∨ n = 39 by omega) with
    rfl | rfl | rfl | rfl | rfl | rfl | rfl | rfl | rfl | rfl | rfl | rfl | rfl | rfl | rfl | rfl | rfl | rfl | rfl | rfl | rfl | rfl | rfl | rfl | rfl | rfl | rfl | rfl | rfl | rfl | rfl | rfl | rfl | rfl | rfl | rfl | rfl | rfl | rfl | rfl <;> kernel_rfl

theorem newP {β : Type} {n : Int} (h2 : n ≤ 40) {K0 : Option β} {K1 : List ByteArray → WL → Option β} : f51_1 1000 n K0 K1 = if n < 1 then K0 else K1 (List.replicate n.toNat Z) [] := by
  rw [f51_1]
  by_cases h : n < 1
  · rw [ct h, if_pos h]
  · rw [cf h, cf (by omega), zeroP, if_neg h]
    obtain ⟨m, rfl⟩ : ∃ m : Nat, n = (m : Int) + 1 := ⟨(n - 1).toNat, by omega⟩
    rw [repS (by omega)]
    rfl

theorem newRl {β : Type} {n : Nat} (hn : n ≤ 40) {a c : Int} {b : Bool} {w : WL} {K : List ByteArray → Option β} : ∀ (j i f : Nat), j + i = n → j < f → f52_1_l5 1000 (n : Int) a b c w K f (i : Int) (List.replicate i Z) = K (List.replicate n Z)
  | _, _, 0, _, hf => by omega
  | 0, i, f + 1, hi, _ => by rw [f52_1_l5, cf (by omega), show i = n by omega]
  | j + 1, i, f + 1, hi, hf => by
    rw [f52_1_l5, ct (by omega), zeroR, ct (by simp; omega), w64 (by omega) (by omega), show List.replicate i Z ++ [Z] = List.replicate (i + 1) Z from List.replicate_succ'.symm]
    exact newRl hn j (i + 1) f (by omega) (by omega)

theorem newR {β : Type} {n : Int} (h2 : n ≤ 40) {K0 : Option β} {K1 : List ByteArray → WL → Option β} : f52_1 1000 n K0 K1 = if n < 1 then K0 else K1 (List.replicate n.toNat Z) [] := by
  rw [f52_1]
  by_cases h : n < 1
  · rw [ct h, if_pos h]
  · rw [cf h, cf (by omega), if_neg h]
    obtain ⟨m, rfl⟩ : ∃ m : Nat, n = (m : Int) := ⟨n.toNat, by omega⟩
    exact newRl (by omega) m 0 1000 (by omega) (by omega)

theorem DS.new {n : Int} (h1 : 1 ≤ n) (h2 : n ≤ 40) : DS n.toNat 0 (-1) 0 (List.replicate n.toNat Z) [] :=
  ⟨by omega, by omega, by simp, by simp, fun p hp => (by cases hp), by omega, by omega⟩

theorem knownD {β : Type} {K : Bool → Option β} : f50_1 1000 K = K true := by kernel_rfl

abbrev AL := List (Int × (Int × (ByteArray × (Sl .bool))))

theorem shortl {β : Type} {F : Nat} {l : AL} (hl : l.length ≤ 100) {K0 K1 : Option β} : ∀ (r : AL) (i k : Nat), l.drop i = r → i ≤ l.length → r.length < k → (f49_1_l4 F l K0 K1 k (i : Int) = K0 ∨ f49_1_l4 F l K0 K1 k (i : Int) = K1)
  | [], i, 0, _, _, hk => by simp at hk
  | _ :: _, i, 0, _, _, hk => by simp at hk
  | [], i, k + 1, hd, hi, _ => by
    have := len_of_drop_nil hd hi
    rw [f49_1_l4, cf (by omega)]; exact .inr rfl
  | p :: r, i, k + 1, hd, hi, hk => by
    obtain ⟨h1, h2, h3⟩ := getD_of_drop (d := ((0, (0, (ByteArray.empty, (Sl.nil .bool)))) : Int × (Int × (ByteArray × (Sl .bool))))) hd
    rw [f49_1_l4, ct (by omega), ct (by omega), ct (by omega), w64 (by omega) (by omega), h2]
    have ih := shortl (F := F) (K0 := K0) (K1 := K1) hl r (i + 1) k h3 (by omega) (by simp at hk; omega)
    push_cast at ih
    by_cases hq : (p.2.2.1.size : Int) > 200
    · rw [ct hq]; exact .inl rfl
    · rw [cf hq]; exact ih

/-- Acts are few, or the law asks no more. -/
theorem shortP {β : Type} {F : Nat} (hF : 400 ≤ F) {l : AL} {K : Bool → Option β} : f49_1 F l K = K false ∨ (f49_1 F l K = K true ∧ l.length ≤ 100) := by
  rw [f49_1]
  by_cases h : ((l.length : Nat) : Int) > 100
  · rw [ct h]; exact .inl rfl
  · rw [cf h]
    rcases shortl (F := F) (K0 := K false) (K1 := K true) (by omega) l 0 F rfl (by omega) (by omega) with h1 | h1
    · exact .inl h1
    · exact .inr ⟨h1, by omega⟩

def AWf (l : AL) : Prop := ∀ x ∈ l, (Lit.int .i64 x.1).wf = true ∧ (Lit.int .i64 x.2.1).wf = true ∧ x.2.2.1.size ≤ maxLen ∧ (x.2.2.2.dat.length ≤ maxLen ∧ ∀ y ∈ x.2.2.2.dat, wfS .bool y)
theorem AWf.at {l : AL} (h : AWf l) {i : Nat} {r : AL} {x} (hd : l.drop i = x :: r) : x.2.1 ≤ 9223372036854775807 := by
  have := (h x (List.mem_of_mem_drop (by rw [hd]; simp))).2.1
  exact (i64_of_wf this).2

end Go.Proofs.Ytjlolgpbidfmeaa.X
end

section
/- The law: copies. -/
namespace Go.Proofs.Ytjlolgpbidfmeaa.X
open Go Go.Proofs.Ytjlolgpbidfmeaa.Ev
set_option linter.unusedSectionVars false
variable [FZ]
set_option linter.unusedVariables false
set_option linter.unusedSimpArgs false

theorem firstl {β : Type} {F : Nat} (hF : 400 ≤ F) {n : Nat} {acts m2 : AL} {z : Int} (ha : acts.length ≤ 100) (hw : AWf acts) {K0} {r0 : Option β} (h7 : ∀ a b c l w, DS n 100 a c l w → K0 a b c l w a b c l w = r0) : ∀ (r : AL) (i k : Nat) {a c : Int} {b : Bool} {l : List ByteArray} {w : WL}, acts.drop i = r → i ≤ acts.length → r.length < k → DS n i a c l w →
    f13_1_l6_4 F z acts m2 K0 k (i : Int) a b c l w a b c l w = r0
  | [], i, 0, _, _, _, _, _, _, _, hk, _ => by simp at hk
  | _ :: _, i, 0, _, _, _, _, _, _, _, hk, _ => by simp at hk
  | [], i, k + 1, a, c, b, l, w, hd, hi, _, h => by
    have := len_of_drop_nil hd hi
    rw [f13_1_l6_4, cf (by omega)]
    exact h7 _ _ _ _ _ ⟨h.n40, by omega, h.len, by have := h.wl; omega, h.wb, h.ar, by have := h.cr; omega⟩
  | p :: r, i, k + 1, a, c, b, l, w, hd, hi, hk, h => by
    obtain ⟨h1, h2, h3⟩ := getD_of_drop (d := ((0, (0, (ByteArray.empty, (Sl.nil .bool)))) : Int × (Int × (ByteArray × (Sl .bool))))) hd
    rw [f13_1_l6_4, ct (by omega), ct (by omega), ct (by omega), h2]
    refine doP hF h (by omega) (hw.at hd) ?_ ?_ ?_
    · intro a' b' c' hd'
      rw [w64 (by omega) (by omega)]
      exact firstl hF ha hw h7 r (i + 1) k h3 (by omega) (by simp at hk; omega) hd'
    · intro a' b' c' w' hd'
      rw [w64 (by omega) (by omega)]
      exact firstl hF ha hw h7 r (i + 1) k h3 (by omega) (by simp at hk; omega) hd'
    · intro a' b' c' l' w' hd'
      rw [w64 (by omega) (by omega)]
      exact firstl hF ha hw h7 r (i + 1) k h3 (by omega) (by simp at hk; omega) hd'

theorem morel {β : Type} {F : Nat} (hF : 400 ≤ F) {n : Nat} {a1 acts : AL} {z y1 y2 y4 y5 : Int} {y3 y6 : Bool} {l1 l2 : List ByteArray} {w1 w2 : WL} (ha : acts.length ≤ 100) (hw : AWf acts) {K0 K1 K2 K3 K4 K5} {r0 : Option β} (h7 : ∀ a b c l w, DS n 200 a c l w → K5 a b c l w a b c l w = r0) : ∀ (r : AL) (i k : Nat) {a c : Int} {b : Bool} {l : List ByteArray} {w : WL}, acts.drop i = r → i ≤ acts.length → r.length < k → DS n (100 + i) a c l w →
    f13_1_l12_2 F z a1 acts y1 y3 y2 l1 w1 y4 y6 y5 l2 w2 K0 K1 K2 K3 K4 K5 k (i : Int) a b c l w a b c l w = r0
  | [], i, 0, _, _, _, _, _, _, _, hk, _ => by simp at hk
  | _ :: _, i, 0, _, _, _, _, _, _, _, hk, _ => by simp at hk
  | [], i, k + 1, a, c, b, l, w, hd, hi, _, h => by
    have := len_of_drop_nil hd hi
    rw [f13_1_l12_2, cf (by omega)]
    exact h7 _ _ _ _ _ ⟨h.n40, by omega, h.len, by have := h.wl; omega, h.wb, h.ar, by have := h.cr; omega⟩
  | p :: r, i, k + 1, a, c, b, l, w, hd, hi, hk, h => by
    obtain ⟨h1, h2, h3⟩ := getD_of_drop (d := ((0, (0, (ByteArray.empty, (Sl.nil .bool)))) : Int × (Int × (ByteArray × (Sl .bool))))) hd
    rw [f13_1_l12_2, ct (by omega), ct (by omega), ct (by omega), h2]
    refine doP hF h (by omega) (hw.at hd) ?_ ?_ ?_
    · intro a' b' c' hd'
      rw [Bool.not_true, cond_false, w64 (by omega) (by omega)]
      exact morel hF ha hw h7 r (i + 1) k h3 (by omega) (by simp at hk; omega) hd'
    · intro a' b' c' w' hd'
      rw [w64 (by omega) (by omega)]
      exact morel hF ha hw h7 r (i + 1) k h3 (by omega) (by simp at hk; omega) hd'
    · intro a' b' c' l' w' hd'
      rw [w64 (by omega) (by omega)]
      exact morel hF ha hw h7 r (i + 1) k h3 (by omega) (by simp at hk; omega) hd'

theorem cloneL {β : Type} {F : Nat} {w : List ByteArray} (hw : w.length ≤ 300) {K : List ByteArray → Option β} : f88_1 F w K = K w := by
  rw [f88_1, ct (show (0 + w.length) * 16 ≤ 70368744177664 by omega), List.nil_append]
  by_cases h : 0 < w.length
  · rw [ct h]
  · have : w = [] := List.length_eq_zero_iff.1 (by omega)
    rw [cf h]; subst this; exact amb_self _

theorem law_true {β : Type} (n : Int) (acts more : AL) (_ : (Lit.int .i64 n).wf = true) {q q2 : Prop} (_ : q) (hw : AWf acts) (_ : q2) (hw2 : AWf more) (r : β) : ∃ F, f13_1 F n acts more (fun b => cond b (some r) none) = some r := by
  refine ⟨1000, ?_⟩
  rw [f13_1]
  simp only [knownD]
  rcases shortP (F := 1000) (l := acts) (by omega) (K := fun x1 => cond (!x1) (cond true (some r) none) (f49_1 1000 more (fun x3 => cond (!x3) (cond true (some r) none) _))) with h | ⟨h, hl⟩
  · rw [h]; rfl
  · rw [h]
    rw [Bool.not_true, cond_false]
    rcases shortP (F := 1000) (l := more) (by omega) (K := fun x3 => cond (!x3) (cond true (some r) none) (cond (decide (n < 1)) (cond true (some r) none) _)) with h | ⟨h, hl2⟩
    · rw [h]; rfl
    · rw [h]
      rw [Bool.not_true, cond_false]
      by_cases h1 : n < 1
      · rw [ct h1]; rfl
      · rw [cf h1]
        by_cases h40 : n > 40
        · rw [ct h40]; rfl
        · rw [cf h40, newP (by omega)]
          simp only [newR (show n ≤ 40 by omega)]
          rw [if_neg h1, if_neg h1]
          obtain ⟨m, rfl⟩ : ∃ m : Nat, n = (m : Int) := ⟨n.toNat, by omega⟩
          refine firstl (by omega) hl hw (fun a b c l w hd => ?_) acts 0 1000 rfl (by omega) (by omega) (DS.new (by omega) (by omega))
          have hwl := hd.wl; have hll := hd.len; have hn := hd.n40
          rw [f60_1, cloneL (by omega), cloneW (by omega), f61_1, ct (by omega), ct (by omega)]
          refine morel (by omega) hl2 hw2 (fun a2 b2 c2 l2 w2 hd2 => ?_) more 0 1000 rfl (by omega) (by omega) hd
          rw [alikeP (by omega) hd, cond_true, alikeP (by omega) hd2, cond_true]
          rfl

end Go.Proofs.Ytjlolgpbidfmeaa.X
end
