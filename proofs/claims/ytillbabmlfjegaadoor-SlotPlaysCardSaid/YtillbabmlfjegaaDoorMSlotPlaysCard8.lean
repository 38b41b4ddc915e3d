/- Merged: EvF8_p2, PureW, DiskA, DiskB, DiskC, RecA, RecB, RecC, NumA. -/
import Derived.Test.YtillbabmlfjegaaDoorMSlotPlaysCard7
import Derived.Test.YtillbabmlfjegaaDoorMSlotPlaysCard3
import Derived.Test.YtillbabmlfjegaaDoorProg
import Derived.KernelRfl
import Derived.Test.YtillbabmlfjegaaDoorMSlotPlaysCard4
import Derived.Test.YtillbabmlfjegaaDoorMSlotPlaysCard5
import Derived.Test.YtillbabmlfjegaaDoorMSlotPlaysCard6
section
namespace Go.Proofs.YtillbabmlfjegaaDoor.X
open Go Go.Proofs.YtillbabmlfjegaaDoor.Ev Go.Proofs
set_option linter.unusedVariables false
set_option linter.unusedSectionVars false
variable [FZ]
theorem L8_1_l11g (F k : Nat) (c21_1 : (Bool → Option Res) → Option Res) (c22_1 : Int → (Option Res) → (List ByteArray → List (Int × ByteArray) → Option Res) → Option Res) (c28_1 : Int → (Option Res) → (List ByteArray → List (Int × ByteArray) → Option Res) → Option Res) (c29_1 : Int → Int → Int → Int → ByteArray → Sl .bool → Int → Bool → Int → List ByteArray → List (Int × ByteArray) → Int → Bool → Int → List ByteArray → List (Int × ByteArray) → (Bool → Int → Bool → Int → Int → Bool → Int → Option Res) → (Bool → Int → Bool → Int → Int → Bool → Int → List ByteArray → List (Int × ByteArray) → Option Res) → (Bool → Int → Bool → Int → Int → Bool → Int → List ByteArray → List (Int × ByteArray) → Option Res) → (Bool → Int → Bool → Int → List ByteArray → Int → Bool → Int → List (Int × ByteArray) → Option Res) → (Bool → Int → Bool → Int → List ByteArray → Int → Bool → Int → List ByteArray → List (Int × ByteArray) → List (Int × ByteArray) → Option Res) → (Bool → Int → Bool → Int → List ByteArray → Int → Bool → Int → List ByteArray → List (Int × ByteArray) → List (Int × ByteArray) → Option Res) → (Bool → Int → Bool → Int → List ByteArray → Int → Bool → Int → List (Int × ByteArray) → Option Res) → (Bool → Int → Bool → Int → List ByteArray → Int → Bool → Int → List ByteArray → List (Int × ByteArray) → List (Int × ByteArray) → Option Res) → (Bool → Int → Bool → Int → List ByteArray → Int → Bool → Int → List ByteArray → List (Int × ByteArray) → List (Int × ByteArray) → Option Res) → Option Res) (c29_1787 : Int → Int → Int → Int → ByteArray → Sl .bool → Int → Bool → Int → List ByteArray → List (Int × ByteArray) → (Bool → Int → Bool → Int → Option Res) → (Bool → Int → Bool → Int → List ByteArray → List (Int × ByteArray) → Option Res) → (Bool → Int → Bool → Int → List ByteArray → List (Int × ByteArray) → Option Res) → Option Res) (c29_2194 : Int → Int → Int → Int → ByteArray → Sl .bool → (Bool → Option Res) → Option Res) (c29_7288 : Int → Int → Int → Int → ByteArray → Sl .bool → Int → Bool → Int → List ByteArray → List (Int × ByteArray) → (Bool → Int → Bool → Int → Option Res) → (Bool → Int → Bool → Int → List ByteArray → List (Int × ByteArray) → Option Res) → (Bool → Int → Bool → Int → List ByteArray → List (Int × ByteArray) → Option Res) → Option Res) (c30_1 : Int → Int → Bool → Int → List ByteArray → List (Int × ByteArray) → (ByteArray → Int → Option Res) → Option Res) (c30_6206 : Int → (Option Res) → Option Res) (c31_1 : Int → Int → Bool → Int → List ByteArray → List (Int × ByteArray) → (ByteArray → Int → Option Res) → Option Res) (c31_6206 : Int → (Option Res) → Option Res) (c32_1 : Int → Bool → Int → List ByteArray → List (Int × ByteArray) → (Option Res) → Option Res) (c32_568 : (Option Res) → Option Res)  (l11 : Int → List (Int × (Int × (Int × (Int × (ByteArray × (Sl .bool)))))) → (Option Res) → (Option Res) → Nat → Option Res) (l11_2 : List (Int × (Int × (Int × (Int × (ByteArray × (Sl .bool)))))) → Int → Bool → Int → List ByteArray → List (Int × ByteArray) → (Option Res) → (Option Res) → Nat → Int → Option Res) (l11_3 : List (Int × (Int × (Int × (Int × (ByteArray × (Sl .bool)))))) → Int → Bool → Int → List ByteArray → List (Int × ByteArray) → (Option Res) → (Option Res) → Nat → Int → Option Res) (l11_4 : List (Int × (Int × (Int × (Int × (ByteArray × (Sl .bool)))))) → Int → Bool → Int → List ByteArray → List (Int × ByteArray) → Int → Bool → Int → List ByteArray → List (Int × ByteArray) → (Option Res) → (Option Res) → Nat → Int → Option Res) (X4 : LoopS) (X11 : LoopS) (d : sh8_1_l11.den) (K : KL) : (fun (v6 : Int) (v7 : List (Int × (Int × (Int × (Int × (ByteArray × (Sl .bool))))))) (K0 : (Option Res)) (K1 : (Option Res)) (k : Nat)  => cond (decide (v6 < 6)) (c30_6206 v6 (c31_6206 v6 (K0) ) ) (K1)) d.1.2.2.1 d.2.1.2.1 (K .ret [.tv (.lf (.bool false))] [some ⟨d.2.1.1, [.seq (.pair (.int .i64) (.pair (.int .i64) (.pair (.int .i64) (.pair (.int .u64) (.pair .str (.sl .bool)))))) 0 d.2.1.2.1]⟩]) (K (.exit 2) [.tv (.lf (.nilp)), .tv (.lf (.nilp))] [some ⟨d.2.1.1, [.seq (.pair (.int .i64) (.pair (.int .i64) (.pair (.int .i64) (.pair (.int .u64) (.pair .str (.sl .bool)))))) 0 d.2.1.2.1]⟩]) k = roundOf Tryd.prog (tab [(21, (mkS sh21_1 (fun d K => c21_1 (fun (y0 : Bool) => K [.lf (.bool y0)] [])) noS)), (22, (mkS sh22_1 (fun d K => c22_1 d.1.1 (K [.lf (.nilp), .lf (.int .i64 2)] []) (fun (y4 : List ByteArray) (y5 : List (Int × ByteArray)) => K [.lf (.ptr 0 0), .lf (.int .i64 0)] [some ⟨false, [.full 1, .full 2, .int .i64 (-1), .bool false, .int .i64 0]⟩, some ⟨false, [.seq .str 0 y4]⟩, some ⟨false, [.seq (.pair (.int .i64) .str) 0 y5]⟩])) noS)), (28, (mkS sh28_1 (fun d K => c28_1 d.1.1 (K [.lf (.nilp), .lf (.int .i64 2)] []) (fun (y4 : List ByteArray) (y5 : List (Int × ByteArray)) => K [.lf (.ptr 0 0), .lf (.int .i64 0)] [some ⟨false, [.full 1, .full 2, .int .i64 (-1), .bool false, .int .i64 0]⟩, some ⟨false, [.seq .str 0 y4]⟩, some ⟨false, [.seq (.pair (.int .i64) .str) 0 y5]⟩])) noS)), (29, (mkS sh29_1 (fun d K => c29_1 d.1.2.2.1.1 d.1.2.2.1.2.1 d.1.2.2.1.2.2.1 d.1.2.2.1.2.2.2.1 d.1.2.2.1.2.2.2.2.1 d.1.2.2.1.2.2.2.2.2.1 d.2.1.2.2.2.1 d.2.1.2.2.2.2.1 d.2.1.2.2.2.2.2.1 d.2.2.1.2.1 d.2.2.2.1.2.1 d.2.2.2.2.1.2.2.2.1 d.2.2.2.2.1.2.2.2.2.1 d.2.2.2.2.1.2.2.2.2.2.1 d.2.2.2.2.2.1.2.1 d.2.2.2.2.2.2.1.2.1 (fun (y0 : Bool) (y1 : Int) (y2 : Bool) (y3 : Int) (y6 : Int) (y7 : Bool) (y8 : Int) => K [.lf (.bool y0)] [some ⟨false, [.full 1, .full 2, .int .i64 y1, .bool y2, .int .i64 y3]⟩, some ⟨false, [.seq .str 0 d.2.2.1.2.1]⟩, some ⟨false, [.seq (.pair (.int .i64) .str) 0 d.2.2.2.1.2.1]⟩, some ⟨false, [.full 4, .full 5, .int .i64 y6, .bool y7, .int .i64 y8]⟩, some ⟨false, [.seq .str 0 d.2.2.2.2.2.1.2.1]⟩, some ⟨false, [.seq (.pair (.int .i64) .str) 0 d.2.2.2.2.2.2.1.2.1]⟩]) (fun (y0 : Bool) (y1 : Int) (y2 : Bool) (y3 : Int) (y6 : Int) (y7 : Bool) (y8 : Int) (y9 : List ByteArray) (y11 : List (Int × ByteArray)) => K [.lf (.bool y0)] [some ⟨false, [.full 1, .full 2, .int .i64 y1, .bool y2, .int .i64 y3]⟩, some ⟨false, [.seq .str 0 d.2.2.1.2.1]⟩, some ⟨false, [.seq (.pair (.int .i64) .str) 0 d.2.2.2.1.2.1]⟩, some ⟨false, [.full 4, .full 6, .int .i64 y6, .bool y7, .int .i64 y8]⟩, some ⟨false, [.seq .str 0 y9]⟩, some ⟨false, [.seq (.pair (.int .i64) .str) 0 d.2.2.2.2.2.2.1.2.1]⟩, some ⟨false, [.seq (.pair (.int .i64) .str) 0 y11]⟩]) (fun (y0 : Bool) (y1 : Int) (y2 : Bool) (y3 : Int) (y6 : Int) (y7 : Bool) (y8 : Int) (y9 : List ByteArray) (y10 : List (Int × ByteArray)) => K [.lf (.bool y0)] [some ⟨false, [.full 1, .full 2, .int .i64 y1, .bool y2, .int .i64 y3]⟩, some ⟨false, [.seq .str 0 d.2.2.1.2.1]⟩, some ⟨false, [.seq (.pair (.int .i64) .str) 0 d.2.2.2.1.2.1]⟩, some ⟨false, [.full 4, .full 6, .int .i64 y6, .bool y7, .int .i64 y8]⟩, some ⟨false, [.seq .str 0 y9]⟩, none, some ⟨false, [.seq (.pair (.int .i64) .str) 0 y10]⟩]) (fun (y0 : Bool) (y1 : Int) (y2 : Bool) (y3 : Int) (y4 : List ByteArray) (y6 : Int) (y7 : Bool) (y8 : Int) (y11 : List (Int × ByteArray)) => K [.lf (.bool y0)] [some ⟨false, [.full 1, .full 6, .int .i64 y1, .bool y2, .int .i64 y3]⟩, some ⟨false, [.seq .str 0 y4]⟩, some ⟨false, [.seq (.pair (.int .i64) .str) 0 d.2.2.2.1.2.1]⟩, some ⟨false, [.full 4, .full 5, .int .i64 y6, .bool y7, .int .i64 y8]⟩, some ⟨false, [.seq .str 0 d.2.2.2.2.2.1.2.1]⟩, some ⟨false, [.seq (.pair (.int .i64) .str) 0 d.2.2.2.2.2.2.1.2.1]⟩, some ⟨false, [.seq (.pair (.int .i64) .str) 0 y11]⟩]) (fun (y0 : Bool) (y1 : Int) (y2 : Bool) (y3 : Int) (y4 : List ByteArray) (y6 : Int) (y7 : Bool) (y8 : Int) (y9 : List ByteArray) (y11 : List (Int × ByteArray)) (y12 : List (Int × ByteArray)) => K [.lf (.bool y0)] [some ⟨false, [.full 1, .full 6, .int .i64 y1, .bool y2, .int .i64 y3]⟩, some ⟨false, [.seq .str 0 y4]⟩, some ⟨false, [.seq (.pair (.int .i64) .str) 0 d.2.2.2.1.2.1]⟩, some ⟨false, [.full 4, .full 7, .int .i64 y6, .bool y7, .int .i64 y8]⟩, some ⟨false, [.seq .str 0 y9]⟩, some ⟨false, [.seq (.pair (.int .i64) .str) 0 d.2.2.2.2.2.2.1.2.1]⟩, some ⟨false, [.seq (.pair (.int .i64) .str) 0 y11]⟩, some ⟨false, [.seq (.pair (.int .i64) .str) 0 y12]⟩]) (fun (y0 : Bool) (y1 : Int) (y2 : Bool) (y3 : Int) (y4 : List ByteArray) (y6 : Int) (y7 : Bool) (y8 : Int) (y9 : List ByteArray) (y10 : List (Int × ByteArray)) (y11 : List (Int × ByteArray)) => K [.lf (.bool y0)] [some ⟨false, [.full 1, .full 6, .int .i64 y1, .bool y2, .int .i64 y3]⟩, some ⟨false, [.seq .str 0 y4]⟩, some ⟨false, [.seq (.pair (.int .i64) .str) 0 d.2.2.2.1.2.1]⟩, some ⟨false, [.full 4, .full 7, .int .i64 y6, .bool y7, .int .i64 y8]⟩, some ⟨false, [.seq .str 0 y9]⟩, none, some ⟨false, [.seq (.pair (.int .i64) .str) 0 y10]⟩, some ⟨false, [.seq (.pair (.int .i64) .str) 0 y11]⟩]) (fun (y0 : Bool) (y1 : Int) (y2 : Bool) (y3 : Int) (y4 : List ByteArray) (y5 : Int) (y6 : Bool) (y7 : Int) (y10 : List (Int × ByteArray)) => K [.lf (.bool y0)] [some ⟨false, [.full 1, .full 6, .int .i64 y1, .bool y2, .int .i64 y3]⟩, some ⟨false, [.seq .str 0 y4]⟩, none, some ⟨false, [.full 4, .full 5, .int .i64 y5, .bool y6, .int .i64 y7]⟩, some ⟨false, [.seq .str 0 d.2.2.2.2.2.1.2.1]⟩, some ⟨false, [.seq (.pair (.int .i64) .str) 0 d.2.2.2.2.2.2.1.2.1]⟩, some ⟨false, [.seq (.pair (.int .i64) .str) 0 y10]⟩]) (fun (y0 : Bool) (y1 : Int) (y2 : Bool) (y3 : Int) (y4 : List ByteArray) (y5 : Int) (y6 : Bool) (y7 : Int) (y8 : List ByteArray) (y10 : List (Int × ByteArray)) (y11 : List (Int × ByteArray)) => K [.lf (.bool y0)] [some ⟨false, [.full 1, .full 6, .int .i64 y1, .bool y2, .int .i64 y3]⟩, some ⟨false, [.seq .str 0 y4]⟩, none, some ⟨false, [.full 4, .full 7, .int .i64 y5, .bool y6, .int .i64 y7]⟩, some ⟨false, [.seq .str 0 y8]⟩, some ⟨false, [.seq (.pair (.int .i64) .str) 0 d.2.2.2.2.2.2.1.2.1]⟩, some ⟨false, [.seq (.pair (.int .i64) .str) 0 y10]⟩, some ⟨false, [.seq (.pair (.int .i64) .str) 0 y11]⟩]) (fun (y0 : Bool) (y1 : Int) (y2 : Bool) (y3 : Int) (y4 : List ByteArray) (y5 : Int) (y6 : Bool) (y7 : Int) (y8 : List ByteArray) (y9 : List (Int × ByteArray)) (y10 : List (Int × ByteArray)) => K [.lf (.bool y0)] [some ⟨false, [.full 1, .full 6, .int .i64 y1, .bool y2, .int .i64 y3]⟩, some ⟨false, [.seq .str 0 y4]⟩, none, some ⟨false, [.full 4, .full 7, .int .i64 y5, .bool y6, .int .i64 y7]⟩, some ⟨false, [.seq .str 0 y8]⟩, none, some ⟨false, [.seq (.pair (.int .i64) .str) 0 y9]⟩, some ⟨false, [.seq (.pair (.int .i64) .str) 0 y10]⟩])) (mkS sh29_1787 (fun d K => c29_1787 d.1.2.2.1.1 d.1.2.2.1.2.1 d.1.2.2.1.2.2.1 d.1.2.2.1.2.2.2.1 d.1.2.2.1.2.2.2.2.1 d.1.2.2.1.2.2.2.2.2.1 d.2.1.2.2.2.1 d.2.1.2.2.2.2.1 d.2.1.2.2.2.2.2.1 d.2.2.1.2.1 d.2.2.2.1.2.1 (fun (y0 : Bool) (y1 : Int) (y2 : Bool) (y3 : Int) => K [.lf (.bool y0)] [some ⟨false, [.full 1, .full 2, .int .i64 y1, .bool y2, .int .i64 y3]⟩, some ⟨false, [.seq .str 0 d.2.2.1.2.1]⟩, some ⟨false, [.seq (.pair (.int .i64) .str) 0 d.2.2.2.1.2.1]⟩]) (fun (y0 : Bool) (y1 : Int) (y2 : Bool) (y3 : Int) (y4 : List ByteArray) (y6 : List (Int × ByteArray)) => K [.lf (.bool y0)] [some ⟨false, [.full 1, .full 3, .int .i64 y1, .bool y2, .int .i64 y3]⟩, some ⟨false, [.seq .str 0 y4]⟩, some ⟨false, [.seq (.pair (.int .i64) .str) 0 d.2.2.2.1.2.1]⟩, some ⟨false, [.seq (.pair (.int .i64) .str) 0 y6]⟩]) (fun (y0 : Bool) (y1 : Int) (y2 : Bool) (y3 : Int) (y4 : List ByteArray) (y5 : List (Int × ByteArray)) => K [.lf (.bool y0)] [some ⟨false, [.full 1, .full 3, .int .i64 y1, .bool y2, .int .i64 y3]⟩, some ⟨false, [.seq .str 0 y4]⟩, none, some ⟨false, [.seq (.pair (.int .i64) .str) 0 y5]⟩])) (mkS sh29_2194 (fun d K => c29_2194 d.1.2.2.1.1 d.1.2.2.1.2.1 d.1.2.2.1.2.2.1 d.1.2.2.1.2.2.2.1 d.1.2.2.1.2.2.2.2.1 d.1.2.2.1.2.2.2.2.2.1 (fun (y0 : Bool) => K [.lf (.bool y0)] [])) (mkS sh29_7288 (fun d K => c29_7288 d.1.2.2.1.1 d.1.2.2.1.2.1 d.1.2.2.1.2.2.1 d.1.2.2.1.2.2.2.1 d.1.2.2.1.2.2.2.2.1 d.1.2.2.1.2.2.2.2.2.1 d.2.1.2.2.2.1 d.2.1.2.2.2.2.1 d.2.1.2.2.2.2.2.1 d.2.2.1.2.1 d.2.2.2.1.2.1 (fun (y0 : Bool) (y1 : Int) (y2 : Bool) (y3 : Int) => K [.lf (.bool y0)] [some ⟨false, [.full 1, .full 2, .int .i64 y1, .bool y2, .int .i64 y3]⟩, some ⟨false, [.seq .str 0 d.2.2.1.2.1]⟩, some ⟨false, [.seq (.pair (.int .i64) .str) 0 d.2.2.2.1.2.1]⟩]) (fun (y0 : Bool) (y1 : Int) (y2 : Bool) (y3 : Int) (y4 : List ByteArray) (y6 : List (Int × ByteArray)) => K [.lf (.bool y0)] [some ⟨false, [.full 1, .full 3, .int .i64 y1, .bool y2, .int .i64 y3]⟩, some ⟨false, [.seq .str 0 y4]⟩, some ⟨false, [.seq (.pair (.int .i64) .str) 0 d.2.2.2.1.2.1]⟩, some ⟨false, [.seq (.pair (.int .i64) .str) 0 y6]⟩]) (fun (y0 : Bool) (y1 : Int) (y2 : Bool) (y3 : Int) (y4 : List ByteArray) (y5 : List (Int × ByteArray)) => K [.lf (.bool y0)] [some ⟨false, [.full 1, .full 3, .int .i64 y1, .bool y2, .int .i64 y3]⟩, some ⟨false, [.seq .str 0 y4]⟩, none, some ⟨false, [.seq (.pair (.int .i64) .str) 0 y5]⟩])) noS))))), (30, (mkS sh30_1 (fun d K => c30_1 d.1.2.1 d.2.1.2.2.2.1 d.2.1.2.2.2.2.1 d.2.1.2.2.2.2.2.1 d.2.2.1.2.1 d.2.2.2.1.2.1 (fun (y0 : ByteArray) (y1 : Int) => K [.lf (.str y0), .lf (.int .i64 y1)] [some ⟨d.2.1.1, [.full 1, .full 2, .int .i64 d.2.1.2.2.2.1, .bool d.2.1.2.2.2.2.1, .int .i64 d.2.1.2.2.2.2.2.1]⟩, some ⟨d.2.2.1.1, [.seq .str 0 d.2.2.1.2.1]⟩, some ⟨d.2.2.2.1.1, [.seq (.pair (.int .i64) .str) 0 d.2.2.2.1.2.1]⟩])) (mkS sh30_6206 (fun d K => c30_6206 d.1.2.1 (K [.lf (.str ByteArray.empty), .lf (.int .i64 1)] [])) noS))), (31, (mkS sh31_1 (fun d K => c31_1 d.1.2.1 d.2.1.2.2.2.1 d.2.1.2.2.2.2.1 d.2.1.2.2.2.2.2.1 d.2.2.1.2.1 d.2.2.2.1.2.1 (fun (y0 : ByteArray) (y1 : Int) => K [.lf (.str y0), .lf (.int .i64 y1)] [some ⟨d.2.1.1, [.full 1, .full 2, .int .i64 d.2.1.2.2.2.1, .bool d.2.1.2.2.2.2.1, .int .i64 d.2.1.2.2.2.2.2.1]⟩, some ⟨d.2.2.1.1, [.seq .str 0 d.2.2.1.2.1]⟩, some ⟨d.2.2.2.1.1, [.seq (.pair (.int .i64) .str) 0 d.2.2.2.1.2.1]⟩])) (mkS sh31_6206 (fun d K => c31_6206 d.1.2.1 (K [.lf (.str ByteArray.empty), .lf (.int .i64 3)] [])) noS))), (32, (mkS sh32_1 (fun d K => c32_1 d.2.1.2.2.2.1 d.2.1.2.2.2.2.1 d.2.1.2.2.2.2.2.1 d.2.2.1.2.1 d.2.2.2.1.2.1 (K [.lf (.int .i64 d.2.1.2.2.2.2.2.1)] [some ⟨d.2.1.1, [.full 1, .full 2, .int .i64 d.2.1.2.2.2.1, .bool d.2.1.2.2.2.2.1, .int .i64 d.2.1.2.2.2.2.2.1]⟩, some ⟨d.2.2.1.1, [.seq .str 0 d.2.2.1.2.1]⟩, some ⟨d.2.2.2.1.1, [.seq (.pair (.int .i64) .str) 0 d.2.2.2.1.2.1]⟩])) (mkS sh32_568 (fun d K => c32_568 (K [.lf (.int .i64 0)] [])) noS)))]) (xw []) 81 1 (ltab [(4, X4), (11, X11)]) (orG sh8_1_l11 (fun d K => l11 d.1.2.2.1 d.2.1.2.1 (K .ret [.tv (.lf (.bool false))] [some ⟨d.2.1.1, [.seq (.pair (.int .i64) (.pair (.int .i64) (.pair (.int .i64) (.pair (.int .u64) (.pair .str (.sl .bool)))))) 0 d.2.1.2.1]⟩]) (K (.exit 2) [.tv (.lf (.nilp)), .tv (.lf (.nilp))] [some ⟨d.2.1.1, [.seq (.pair (.int .i64) (.pair (.int .i64) (.pair (.int .i64) (.pair (.int .u64) (.pair .str (.sl .bool)))))) 0 d.2.1.2.1]⟩]) k) (orG sh8_1_l11_2 (fun d K => l11_2 d.2.1.2.1 d.2.2.1.2.2.2.1 d.2.2.1.2.2.2.2.1 d.2.2.1.2.2.2.2.2.1 d.2.2.2.1.2.1 d.2.2.2.2.1.2.1 (K .ret [.tv (.lf (.bool false))] [some ⟨d.2.1.1, [.seq (.pair (.int .i64) (.pair (.int .i64) (.pair (.int .i64) (.pair (.int .u64) (.pair .str (.sl .bool)))))) 0 d.2.1.2.1]⟩, some ⟨false, [.full 2, .full 3, .int .i64 d.2.2.1.2.2.2.1, .bool d.2.2.1.2.2.2.2.1, .int .i64 d.2.2.1.2.2.2.2.2.1]⟩, some ⟨false, [.seq .str 0 d.2.2.2.1.2.1]⟩, some ⟨false, [.seq (.pair (.int .i64) .str) 0 d.2.2.2.2.1.2.1]⟩]) (K (.exit 2) [.tv (.lf (.nilp)), .tv (.lf (.ptr 1 0))] [some ⟨d.2.1.1, [.seq (.pair (.int .i64) (.pair (.int .i64) (.pair (.int .i64) (.pair (.int .u64) (.pair .str (.sl .bool)))))) 0 d.2.1.2.1]⟩, some ⟨false, [.full 2, .full 3, .int .i64 d.2.2.1.2.2.2.1, .bool d.2.2.1.2.2.2.2.1, .int .i64 d.2.2.1.2.2.2.2.2.1]⟩, some ⟨false, [.seq .str 0 d.2.2.2.1.2.1]⟩, some ⟨false, [.seq (.pair (.int .i64) .str) 0 d.2.2.2.2.1.2.1]⟩]) k d.1.2.2.1) (orG sh8_1_l11_3 (fun d K => l11_3 d.2.1.2.1 d.2.2.1.2.2.2.1 d.2.2.1.2.2.2.2.1 d.2.2.1.2.2.2.2.2.1 d.2.2.2.1.2.1 d.2.2.2.2.1.2.1 (K .ret [.tv (.lf (.bool false))] [some ⟨d.2.1.1, [.seq (.pair (.int .i64) (.pair (.int .i64) (.pair (.int .i64) (.pair (.int .u64) (.pair .str (.sl .bool)))))) 0 d.2.1.2.1]⟩, some ⟨false, [.full 2, .full 3, .int .i64 d.2.2.1.2.2.2.1, .bool d.2.2.1.2.2.2.2.1, .int .i64 d.2.2.1.2.2.2.2.2.1]⟩, some ⟨false, [.seq .str 0 d.2.2.2.1.2.1]⟩, some ⟨false, [.seq (.pair (.int .i64) .str) 0 d.2.2.2.2.1.2.1]⟩]) (K (.exit 2) [.tv (.lf (.ptr 1 0)), .tv (.lf (.nilp))] [some ⟨d.2.1.1, [.seq (.pair (.int .i64) (.pair (.int .i64) (.pair (.int .i64) (.pair (.int .u64) (.pair .str (.sl .bool)))))) 0 d.2.1.2.1]⟩, some ⟨false, [.full 2, .full 3, .int .i64 d.2.2.1.2.2.2.1, .bool d.2.2.1.2.2.2.2.1, .int .i64 d.2.2.1.2.2.2.2.2.1]⟩, some ⟨false, [.seq .str 0 d.2.2.2.1.2.1]⟩, some ⟨false, [.seq (.pair (.int .i64) .str) 0 d.2.2.2.2.1.2.1]⟩]) k d.1.2.2.1) (mkG sh8_1_l11_4 [3, 5, 8] (outT [(.exit 2, [3, 5]), (.ret, [2])]) (fun d K => l11_4 d.2.1.2.1 d.2.2.1.2.2.2.1 d.2.2.1.2.2.2.2.1 d.2.2.1.2.2.2.2.2.1 d.2.2.2.1.2.1 d.2.2.2.2.1.2.1 d.2.2.2.2.2.1.2.2.2.1 d.2.2.2.2.2.1.2.2.2.2.1 d.2.2.2.2.2.1.2.2.2.2.2.1 d.2.2.2.2.2.2.1.2.1 d.2.2.2.2.2.2.2.1.2.1 (K .ret [.tv (.lf (.bool false))] [some ⟨d.2.1.1, [.seq (.pair (.int .i64) (.pair (.int .i64) (.pair (.int .i64) (.pair (.int .u64) (.pair .str (.sl .bool)))))) 0 d.2.1.2.1]⟩, some ⟨false, [.full 2, .full 3, .int .i64 d.2.2.1.2.2.2.1, .bool d.2.2.1.2.2.2.2.1, .int .i64 d.2.2.1.2.2.2.2.2.1]⟩, some ⟨false, [.seq .str 0 d.2.2.2.1.2.1]⟩, some ⟨false, [.seq (.pair (.int .i64) .str) 0 d.2.2.2.2.1.2.1]⟩, some ⟨false, [.full 5, .full 6, .int .i64 d.2.2.2.2.2.1.2.2.2.1, .bool d.2.2.2.2.2.1.2.2.2.2.1, .int .i64 d.2.2.2.2.2.1.2.2.2.2.2.1]⟩, some ⟨false, [.seq .str 0 d.2.2.2.2.2.2.1.2.1]⟩, some ⟨false, [.seq (.pair (.int .i64) .str) 0 d.2.2.2.2.2.2.2.1.2.1]⟩]) (K (.exit 2) [.tv (.lf (.ptr 1 0)), .tv (.lf (.ptr 4 0))] [some ⟨d.2.1.1, [.seq (.pair (.int .i64) (.pair (.int .i64) (.pair (.int .i64) (.pair (.int .u64) (.pair .str (.sl .bool)))))) 0 d.2.1.2.1]⟩, some ⟨false, [.full 2, .full 3, .int .i64 d.2.2.1.2.2.2.1, .bool d.2.2.1.2.2.2.2.1, .int .i64 d.2.2.1.2.2.2.2.2.1]⟩, some ⟨false, [.seq .str 0 d.2.2.2.1.2.1]⟩, some ⟨false, [.seq (.pair (.int .i64) .str) 0 d.2.2.2.2.1.2.1]⟩, some ⟨false, [.full 5, .full 6, .int .i64 d.2.2.2.2.2.1.2.2.2.1, .bool d.2.2.2.2.2.1.2.2.2.2.1, .int .i64 d.2.2.2.2.2.1.2.2.2.2.2.1]⟩, some ⟨false, [.seq .str 0 d.2.2.2.2.2.2.1.2.1]⟩, some ⟨false, [.seq (.pair (.int .i64) .str) 0 d.2.2.2.2.2.2.2.1.2.1]⟩]) k d.1.2.2.1) [])))) b8_1 (encT sh8_1_l11.vs d.1) (encH sh8_1_l11.h d.2) K := by kernel_rfl
theorem L8_1_l11_2g (F k : Nat) (c21_1 : (Bool → Option Res) → Option Res) (c22_1 : Int → (Option Res) → (List ByteArray → List (Int × ByteArray) → Option Res) → Option Res) (c28_1 : Int → (Option Res) → (List ByteArray → List (Int × ByteArray) → Option Res) → Option Res) (c29_1 : Int → Int → Int → Int → ByteArray → Sl .bool → Int → Bool → Int → List ByteArray → List (Int × ByteArray) → Int → Bool → Int → List ByteArray → List (Int × ByteArray) → (Bool → Int → Bool → Int → Int → Bool → Int → Option Res) → (Bool → Int → Bool → Int → Int → Bool → Int → List ByteArray → List (Int × ByteArray) → Option Res) → (Bool → Int → Bool → Int → Int → Bool → Int → List ByteArray → List (Int × ByteArray) → Option Res) → (Bool → Int → Bool → Int → List ByteArray → Int → Bool → Int → List (Int × ByteArray) → Option Res) → (Bool → Int → Bool → Int → List ByteArray → Int → Bool → Int → List ByteArray → List (Int × ByteArray) → List (Int × ByteArray) → Option Res) → (Bool → Int → Bool → Int → List ByteArray → Int → Bool → Int → List ByteArray → List (Int × ByteArray) → List (Int × ByteArray) → Option Res) → (Bool → Int → Bool → Int → List ByteArray → Int → Bool → Int → List (Int × ByteArray) → Option Res) → (Bool → Int → Bool → Int → List ByteArray → Int → Bool → Int → List ByteArray → List (Int × ByteArray) → List (Int × ByteArray) → Option Res) → (Bool → Int → Bool → Int → List ByteArray → Int → Bool → Int → List ByteArray → List (Int × ByteArray) → List (Int × ByteArray) → Option Res) → Option Res) (c29_1787 : Int → Int → Int → Int → ByteArray → Sl .bool → Int → Bool → Int → List ByteArray → List (Int × ByteArray) → (Bool → Int → Bool → Int → Option Res) → (Bool → Int → Bool → Int → List ByteArray → List (Int × ByteArray) → Option Res) → (Bool → Int → Bool → Int → List ByteArray → List (Int × ByteArray) → Option Res) → Option Res) (c29_2194 : Int → Int → Int → Int → ByteArray → Sl .bool → (Bool → Option Res) → Option Res) (c29_7288 : Int → Int → Int → Int → ByteArray → Sl .bool → Int → Bool → Int → List ByteArray → List (Int × ByteArray) → (Bool → Int → Bool → Int → Option Res) → (Bool → Int → Bool → Int → List ByteArray → List (Int × ByteArray) → Option Res) → (Bool → Int → Bool → Int → List ByteArray → List (Int × ByteArray) → Option Res) → Option Res) (c30_1 : Int → Int → Bool → Int → List ByteArray → List (Int × ByteArray) → (ByteArray → Int → Option Res) → Option Res) (c30_6206 : Int → (Option Res) → Option Res) (c31_1 : Int → Int → Bool → Int → List ByteArray → List (Int × ByteArray) → (ByteArray → Int → Option Res) → Option Res) (c31_6206 : Int → (Option Res) → Option Res) (c32_1 : Int → Bool → Int → List ByteArray → List (Int × ByteArray) → (Option Res) → Option Res) (c32_568 : (Option Res) → Option Res)  (l11 : Int → List (Int × (Int × (Int × (Int × (ByteArray × (Sl .bool)))))) → (Option Res) → (Option Res) → Nat → Option Res) (l11_2 : List (Int × (Int × (Int × (Int × (ByteArray × (Sl .bool)))))) → Int → Bool → Int → List ByteArray → List (Int × ByteArray) → (Option Res) → (Option Res) → Nat → Int → Option Res) (l11_3 : List (Int × (Int × (Int × (Int × (ByteArray × (Sl .bool)))))) → Int → Bool → Int → List ByteArray → List (Int × ByteArray) → (Option Res) → (Option Res) → Nat → Int → Option Res) (l11_4 : List (Int × (Int × (Int × (Int × (ByteArray × (Sl .bool)))))) → Int → Bool → Int → List ByteArray → List (Int × ByteArray) → Int → Bool → Int → List ByteArray → List (Int × ByteArray) → (Option Res) → (Option Res) → Nat → Int → Option Res) (X4 : LoopS) (X11 : LoopS) (d : sh8_1_l11_2.den) (K : KL) : (fun (v57 : List (Int × (Int × (Int × (Int × (ByteArray × (Sl .bool))))))) (v58 : Int) (v59 : Bool) (v60 : Int) (v61 : List ByteArray) (v62 : List (Int × ByteArray)) (K0 : (Option Res)) (K1 : (Option Res)) (k : Nat) (v56 : Int) => cond (decide (v56 < 6)) (c30_6206 v56 (c31_1 v56 v58 v59 v60 v61 v62 (fun x63 x64 => cond (!(ByteArray.empty.toList == x63.toList)) (K0) (cond ((1 : Int) != x64) (K0) (l11_2 v57 v58 v59 v60 v61 v62 K0 K1 k (IntKind.i64.wrap (v56 + 1))))) ) ) (K1)) d.2.1.2.1 d.2.2.1.2.2.2.1 d.2.2.1.2.2.2.2.1 d.2.2.1.2.2.2.2.2.1 d.2.2.2.1.2.1 d.2.2.2.2.1.2.1 (K .ret [.tv (.lf (.bool false))] [some ⟨d.2.1.1, [.seq (.pair (.int .i64) (.pair (.int .i64) (.pair (.int .i64) (.pair (.int .u64) (.pair .str (.sl .bool)))))) 0 d.2.1.2.1]⟩, some ⟨false, [.full 2, .full 3, .int .i64 d.2.2.1.2.2.2.1, .bool d.2.2.1.2.2.2.2.1, .int .i64 d.2.2.1.2.2.2.2.2.1]⟩, some ⟨false, [.seq .str 0 d.2.2.2.1.2.1]⟩, some ⟨false, [.seq (.pair (.int .i64) .str) 0 d.2.2.2.2.1.2.1]⟩]) (K (.exit 2) [.tv (.lf (.nilp)), .tv (.lf (.ptr 1 0))] [some ⟨d.2.1.1, [.seq (.pair (.int .i64) (.pair (.int .i64) (.pair (.int .i64) (.pair (.int .u64) (.pair .str (.sl .bool)))))) 0 d.2.1.2.1]⟩, some ⟨false, [.full 2, .full 3, .int .i64 d.2.2.1.2.2.2.1, .bool d.2.2.1.2.2.2.2.1, .int .i64 d.2.2.1.2.2.2.2.2.1]⟩, some ⟨false, [.seq .str 0 d.2.2.2.1.2.1]⟩, some ⟨false, [.seq (.pair (.int .i64) .str) 0 d.2.2.2.2.1.2.1]⟩]) k d.1.2.2.1 = roundOf Tryd.prog (tab [(21, (mkS sh21_1 (fun d K => c21_1 (fun (y0 : Bool) => K [.lf (.bool y0)] [])) noS)), (22, (mkS sh22_1 (fun d K => c22_1 d.1.1 (K [.lf (.nilp), .lf (.int .i64 2)] []) (fun (y4 : List ByteArray) (y5 : List (Int × ByteArray)) => K [.lf (.ptr 0 0), .lf (.int .i64 0)] [some ⟨false, [.full 1, .full 2, .int .i64 (-1), .bool false, .int .i64 0]⟩, some ⟨false, [.seq .str 0 y4]⟩, some ⟨false, [.seq (.pair (.int .i64) .str) 0 y5]⟩])) noS)), (28, (mkS sh28_1 (fun d K => c28_1 d.1.1 (K [.lf (.nilp), .lf (.int .i64 2)] []) (fun (y4 : List ByteArray) (y5 : List (Int × ByteArray)) => K [.lf (.ptr 0 0), .lf (.int .i64 0)] [some ⟨false, [.full 1, .full 2, .int .i64 (-1), .bool false, .int .i64 0]⟩, some ⟨false, [.seq .str 0 y4]⟩, some ⟨false, [.seq (.pair (.int .i64) .str) 0 y5]⟩])) noS)), (29, (mkS sh29_1 (fun d K => c29_1 d.1.2.2.1.1 d.1.2.2.1.2.1 d.1.2.2.1.2.2.1 d.1.2.2.1.2.2.2.1 d.1.2.2.1.2.2.2.2.1 d.1.2.2.1.2.2.2.2.2.1 d.2.1.2.2.2.1 d.2.1.2.2.2.2.1 d.2.1.2.2.2.2.2.1 d.2.2.1.2.1 d.2.2.2.1.2.1 d.2.2.2.2.1.2.2.2.1 d.2.2.2.2.1.2.2.2.2.1 d.2.2.2.2.1.2.2.2.2.2.1 d.2.2.2.2.2.1.2.1 d.2.2.2.2.2.2.1.2.1 (fun (y0 : Bool) (y1 : Int) (y2 : Bool) (y3 : Int) (y6 : Int) (y7 : Bool) (y8 : Int) => K [.lf (.bool y0)] [some ⟨false, [.full 1, .full 2, .int .i64 y1, .bool y2, .int .i64 y3]⟩, some ⟨false, [.seq .str 0 d.2.2.1.2.1]⟩, some ⟨false, [.seq (.pair (.int .i64) .str) 0 d.2.2.2.1.2.1]⟩, some ⟨false, [.full 4, .full 5, .int .i64 y6, .bool y7, .int .i64 y8]⟩, some ⟨false, [.seq .str 0 d.2.2.2.2.2.1.2.1]⟩, some ⟨false, [.seq (.pair (.int .i64) .str) 0 d.2.2.2.2.2.2.1.2.1]⟩]) (fun (y0 : Bool) (y1 : Int) (y2 : Bool) (y3 : Int) (y6 : Int) (y7 : Bool) (y8 : Int) (y9 : List ByteArray) (y11 : List (Int × ByteArray)) => K [.lf (.bool y0)] [some ⟨false, [.full 1, .full 2, .int .i64 y1, .bool y2, .int .i64 y3]⟩, some ⟨false, [.seq .str 0 d.2.2.1.2.1]⟩, some ⟨false, [.seq (.pair (.int .i64) .str) 0 d.2.2.2.1.2.1]⟩, some ⟨false, [.full 4, .full 6, .int .i64 y6, .bool y7, .int .i64 y8]⟩, some ⟨false, [.seq .str 0 y9]⟩, some ⟨false, [.seq (.pair (.int .i64) .str) 0 d.2.2.2.2.2.2.1.2.1]⟩, some ⟨false, [.seq (.pair (.int .i64) .str) 0 y11]⟩]) (fun (y0 : Bool) (y1 : Int) (y2 : Bool) (y3 : Int) (y6 : Int) (y7 : Bool) (y8 : Int) (y9 : List ByteArray) (y10 : List (Int × ByteArray)) => K [.lf (.bool y0)] [some ⟨false, [.full 1, .full 2, .int .i64 y1, .bool y2, .int .i64 y3]⟩, some ⟨false, [.seq .str 0 d.2.2.1.2.1]⟩, some ⟨false, [.seq (.pair (.int .i64) .str) 0 d.2.2.2.1.2.1]⟩, some ⟨false, [.full 4, .full 6, .int .i64 y6, .bool y7, .int .i64 y8]⟩, some ⟨false, [.seq .str 0 y9]⟩, none, some ⟨false, [.seq (.pair (.int .i64) .str) 0 y10]⟩]) (fun (y0 : Bool) (y1 : Int) (y2 : Bool) (y3 : Int) (y4 : List ByteArray) (y6 : Int) (y7 : Bool) (y8 : Int) (y11 : List (Int × ByteArray)) => K [.lf (.bool y0)] [some ⟨false, [.full 1, .full 6, .int .i64 y1, .bool y2, .int .i64 y3]⟩, some ⟨false, [.seq .str 0 y4]⟩, some ⟨false, [.seq (.pair (.int .i64) .str) 0 d.2.2.2.1.2.1]⟩, some ⟨false, [.full 4, .full 5, .int .i64 y6, .bool y7, .int .i64 y8]⟩, some ⟨false, [.seq .str 0 d.2.2.2.2.2.1.2.1]⟩, some ⟨false, [.seq (.pair (.int .i64) .str) 0 d.2.2.2.2.2.2.1.2.1]⟩, some ⟨false, [.seq (.pair (.int .i64) .str) 0 y11]⟩]) (fun (y0 : Bool) (y1 : Int) (y2 : Bool) (y3 : Int) (y4 : List ByteArray) (y6 : Int) (y7 : Bool) (y8 : Int) (y9 : List ByteArray) (y11 : List (Int × ByteArray)) (y12 : List (Int × ByteArray)) => K [.lf (.bool y0)] [some ⟨false, [.full 1, .full 6, .int .i64 y1, .bool y2, .int .i64 y3]⟩, some ⟨false, [.seq .str 0 y4]⟩, some ⟨false, [.seq (.pair (.int .i64) .str) 0 d.2.2.2.1.2.1]⟩, some ⟨false, [.full 4, .full 7, .int .i64 y6, .bool y7, .int .i64 y8]⟩, some ⟨false, [.seq .str 0 y9]⟩, some ⟨false, [.seq (.pair (.int .i64) .str) 0 d.2.2.2.2.2.2.1.2.1]⟩, some ⟨false, [.seq (.pair (.int .i64) .str) 0 y11]⟩, some ⟨false, [.seq (.pair (.int .i64) .str) 0 y12]⟩]) (fun (y0 : Bool) (y1 : Int) (y2 : Bool) (y3 : Int) (y4 : List ByteArray) (y6 : Int) (y7 : Bool) (y8 : Int) (y9 : List ByteArray) (y10 : List (Int × ByteArray)) (y11 : List (Int × ByteArray)) => K [.lf (.bool y0)] [some ⟨false, [.full 1, .full 6, .int .i64 y1, .bool y2, .int .i64 y3]⟩, some ⟨false, [.seq .str 0 y4]⟩, some ⟨false, [.seq (.pair (.int .i64) .str) 0 d.2.2.2.1.2.1]⟩, some ⟨false, [.full 4, .full 7, .int .i64 y6, .bool y7, .int .i64 y8]⟩, some ⟨false, [.seq .str 0 y9]⟩, none, some ⟨false, [.seq (.pair (.int .i64) .str) 0 y10]⟩, some ⟨false, [.seq (.pair (.int .i64) .str) 0 y11]⟩]) (fun (y0 : Bool) (y1 : Int) (y2 : Bool) (y3 : Int) (y4 : List ByteArray) (y5 : Int) (y6 : Bool) (y7 : Int) (y10 : List (Int × ByteArray)) => K [.lf (.bool y0)] [some ⟨false, [.full 1, .full 6, .int .i64 y1, .bool y2, .int .i64 y3]⟩, some ⟨false, [.seq .str 0 y4]⟩, none, some ⟨false, [.full 4, .full 5, .int .i64 y5, .bool y6, .int .i64 y7]⟩, some ⟨false, [.seq .str 0 d.2.2.2.2.2.1.2.1]⟩, some ⟨false, [.seq (.pair (.int .i64) .str) 0 d.2.2.2.2.2.2.1.2.1]⟩, some ⟨false, [.seq (.pair (.int .i64) .str) 0 y10]⟩]) (fun (y0 : Bool) (y1 : Int) (y2 : Bool) (y3 : Int) (y4 : List ByteArray) (y5 : Int) (y6 : Bool) (y7 : Int) (y8 : List ByteArray) (y10 : List (Int × ByteArray)) (y11 : List (Int × ByteArray)) => K [.lf (.bool y0)] [some ⟨false, [.full 1, .full 6, .int .i64 y1, .bool y2, .int .i64 y3]⟩, some ⟨false, [.seq .str 0 y4]⟩, none, some ⟨false, [.full 4, .full 7, .int .i64 y5, .bool y6, .int .i64 y7]⟩, some ⟨false, [.seq .str 0 y8]⟩, some ⟨false, [.seq (.pair (.int .i64) .str) 0 d.2.2.2.2.2.2.1.2.1]⟩, some ⟨false, [.seq (.pair (.int .i64) .str) 0 y10]⟩, some ⟨false, [.seq (.pair (.int .i64) .str) 0 y11]⟩]) (fun (y0 : Bool) (y1 : Int) (y2 : Bool) (y3 : Int) (y4 : List ByteArray) (y5 : Int) (y6 : Bool) (y7 : Int) (y8 : List ByteArray) (y9 : List (Int × ByteArray)) (y10 : List (Int × ByteArray)) => K [.lf (.bool y0)] [some ⟨false, [.full 1, .full 6, .int .i64 y1, .bool y2, .int .i64 y3]⟩, some ⟨false, [.seq .str 0 y4]⟩, none, some ⟨false, [.full 4, .full 7, .int .i64 y5, .bool y6, .int .i64 y7]⟩, some ⟨false, [.seq .str 0 y8]⟩, none, some ⟨false, [.seq (.pair (.int .i64) .str) 0 y9]⟩, some ⟨false, [.seq (.pair (.int .i64) .str) 0 y10]⟩])) (mkS sh29_1787 (fun d K => c29_1787 d.1.2.2.1.1 d.1.2.2.1.2.1 d.1.2.2.1.2.2.1 d.1.2.2.1.2.2.2.1 d.1.2.2.1.2.2.2.2.1 d.1.2.2.1.2.2.2.2.2.1 d.2.1.2.2.2.1 d.2.1.2.2.2.2.1 d.2.1.2.2.2.2.2.1 d.2.2.1.2.1 d.2.2.2.1.2.1 (fun (y0 : Bool) (y1 : Int) (y2 : Bool) (y3 : Int) => K [.lf (.bool y0)] [some ⟨false, [.full 1, .full 2, .int .i64 y1, .bool y2, .int .i64 y3]⟩, some ⟨false, [.seq .str 0 d.2.2.1.2.1]⟩, some ⟨false, [.seq (.pair (.int .i64) .str) 0 d.2.2.2.1.2.1]⟩]) (fun (y0 : Bool) (y1 : Int) (y2 : Bool) (y3 : Int) (y4 : List ByteArray) (y6 : List (Int × ByteArray)) => K [.lf (.bool y0)] [some ⟨false, [.full 1, .full 3, .int .i64 y1, .bool y2, .int .i64 y3]⟩, some ⟨false, [.seq .str 0 y4]⟩, some ⟨false, [.seq (.pair (.int .i64) .str) 0 d.2.2.2.1.2.1]⟩, some ⟨false, [.seq (.pair (.int .i64) .str) 0 y6]⟩]) (fun (y0 : Bool) (y1 : Int) (y2 : Bool) (y3 : Int) (y4 : List ByteArray) (y5 : List (Int × ByteArray)) => K [.lf (.bool y0)] [some ⟨false, [.full 1, .full 3, .int .i64 y1, .bool y2, .int .i64 y3]⟩, some ⟨false, [.seq .str 0 y4]⟩, none, some ⟨false, [.seq (.pair (.int .i64) .str) 0 y5]⟩])) (mkS sh29_2194 (fun d K => c29_2194 d.1.2.2.1.1 d.1.2.2.1.2.1 d.1.2.2.1.2.2.1 d.1.2.2.1.2.2.2.1 d.1.2.2.1.2.2.2.2.1 d.1.2.2.1.2.2.2.2.2.1 (fun (y0 : Bool) => K [.lf (.bool y0)] [])) (mkS sh29_7288 (fun d K => c29_7288 d.1.2.2.1.1 d.1.2.2.1.2.1 d.1.2.2.1.2.2.1 d.1.2.2.1.2.2.2.1 d.1.2.2.1.2.2.2.2.1 d.1.2.2.1.2.2.2.2.2.1 d.2.1.2.2.2.1 d.2.1.2.2.2.2.1 d.2.1.2.2.2.2.2.1 d.2.2.1.2.1 d.2.2.2.1.2.1 (fun (y0 : Bool) (y1 : Int) (y2 : Bool) (y3 : Int) => K [.lf (.bool y0)] [some ⟨false, [.full 1, .full 2, .int .i64 y1, .bool y2, .int .i64 y3]⟩, some ⟨false, [.seq .str 0 d.2.2.1.2.1]⟩, some ⟨false, [.seq (.pair (.int .i64) .str) 0 d.2.2.2.1.2.1]⟩]) (fun (y0 : Bool) (y1 : Int) (y2 : Bool) (y3 : Int) (y4 : List ByteArray) (y6 : List (Int × ByteArray)) => K [.lf (.bool y0)] [some ⟨false, [.full 1, .full 3, .int .i64 y1, .bool y2, .int .i64 y3]⟩, some ⟨false, [.seq .str 0 y4]⟩, some ⟨false, [.seq (.pair (.int .i64) .str) 0 d.2.2.2.1.2.1]⟩, some ⟨false, [.seq (.pair (.int .i64) .str) 0 y6]⟩]) (fun (y0 : Bool) (y1 : Int) (y2 : Bool) (y3 : Int) (y4 : List ByteArray) (y5 : List (Int × ByteArray)) => K [.lf (.bool y0)] [some ⟨false, [.full 1, .full 3, .int .i64 y1, .bool y2, .int .i64 y3]⟩, some ⟨false, [.seq .str 0 y4]⟩, none, some ⟨false, [.seq (.pair (.int .i64) .str) 0 y5]⟩])) noS))))), (30, (mkS sh30_1 (fun d K => c30_1 d.1.2.1 d.2.1.2.2.2.1 d.2.1.2.2.2.2.1 d.2.1.2.2.2.2.2.1 d.2.2.1.2.1 d.2.2.2.1.2.1 (fun (y0 : ByteArray) (y1 : Int) => K [.lf (.str y0), .lf (.int .i64 y1)] [some ⟨d.2.1.1, [.full 1, .full 2, .int .i64 d.2.1.2.2.2.1, .bool d.2.1.2.2.2.2.1, .int .i64 d.2.1.2.2.2.2.2.1]⟩, some ⟨d.2.2.1.1, [.seq .str 0 d.2.2.1.2.1]⟩, some ⟨d.2.2.2.1.1, [.seq (.pair (.int .i64) .str) 0 d.2.2.2.1.2.1]⟩])) (mkS sh30_6206 (fun d K => c30_6206 d.1.2.1 (K [.lf (.str ByteArray.empty), .lf (.int .i64 1)] [])) noS))), (31, (mkS sh31_1 (fun d K => c31_1 d.1.2.1 d.2.1.2.2.2.1 d.2.1.2.2.2.2.1 d.2.1.2.2.2.2.2.1 d.2.2.1.2.1 d.2.2.2.1.2.1 (fun (y0 : ByteArray) (y1 : Int) => K [.lf (.str y0), .lf (.int .i64 y1)] [some ⟨d.2.1.1, [.full 1, .full 2, .int .i64 d.2.1.2.2.2.1, .bool d.2.1.2.2.2.2.1, .int .i64 d.2.1.2.2.2.2.2.1]⟩, some ⟨d.2.2.1.1, [.seq .str 0 d.2.2.1.2.1]⟩, some ⟨d.2.2.2.1.1, [.seq (.pair (.int .i64) .str) 0 d.2.2.2.1.2.1]⟩])) (mkS sh31_6206 (fun d K => c31_6206 d.1.2.1 (K [.lf (.str ByteArray.empty), .lf (.int .i64 3)] [])) noS))), (32, (mkS sh32_1 (fun d K => c32_1 d.2.1.2.2.2.1 d.2.1.2.2.2.2.1 d.2.1.2.2.2.2.2.1 d.2.2.1.2.1 d.2.2.2.1.2.1 (K [.lf (.int .i64 d.2.1.2.2.2.2.2.1)] [some ⟨d.2.1.1, [.full 1, .full 2, .int .i64 d.2.1.2.2.2.1, .bool d.2.1.2.2.2.2.1, .int .i64 d.2.1.2.2.2.2.2.1]⟩, some ⟨d.2.2.1.1, [.seq .str 0 d.2.2.1.2.1]⟩, some ⟨d.2.2.2.1.1, [.seq (.pair (.int .i64) .str) 0 d.2.2.2.1.2.1]⟩])) (mkS sh32_568 (fun d K => c32_568 (K [.lf (.int .i64 0)] [])) noS)))]) (xw []) 81 1 (ltab [(4, X4), (11, X11)]) (orG sh8_1_l11 (fun d K => l11 d.1.2.2.1 d.2.1.2.1 (K .ret [.tv (.lf (.bool false))] [some ⟨d.2.1.1, [.seq (.pair (.int .i64) (.pair (.int .i64) (.pair (.int .i64) (.pair (.int .u64) (.pair .str (.sl .bool)))))) 0 d.2.1.2.1]⟩]) (K (.exit 2) [.tv (.lf (.nilp)), .tv (.lf (.nilp))] [some ⟨d.2.1.1, [.seq (.pair (.int .i64) (.pair (.int .i64) (.pair (.int .i64) (.pair (.int .u64) (.pair .str (.sl .bool)))))) 0 d.2.1.2.1]⟩]) k) (orG sh8_1_l11_2 (fun d K => l11_2 d.2.1.2.1 d.2.2.1.2.2.2.1 d.2.2.1.2.2.2.2.1 d.2.2.1.2.2.2.2.2.1 d.2.2.2.1.2.1 d.2.2.2.2.1.2.1 (K .ret [.tv (.lf (.bool false))] [some ⟨d.2.1.1, [.seq (.pair (.int .i64) (.pair (.int .i64) (.pair (.int .i64) (.pair (.int .u64) (.pair .str (.sl .bool)))))) 0 d.2.1.2.1]⟩, some ⟨false, [.full 2, .full 3, .int .i64 d.2.2.1.2.2.2.1, .bool d.2.2.1.2.2.2.2.1, .int .i64 d.2.2.1.2.2.2.2.2.1]⟩, some ⟨false, [.seq .str 0 d.2.2.2.1.2.1]⟩, some ⟨false, [.seq (.pair (.int .i64) .str) 0 d.2.2.2.2.1.2.1]⟩]) (K (.exit 2) [.tv (.lf (.nilp)), .tv (.lf (.ptr 1 0))] [some ⟨d.2.1.1, [.seq (.pair (.int .i64) (.pair (.int .i64) (.pair (.int .i64) (.pair (.int .u64) (.pair .str (.sl .bool)))))) 0 d.2.1.2.1]⟩, some ⟨false, [.full 2, .full 3, .int .i64 d.2.2.1.2.2.2.1, .bool d.2.2.1.2.2.2.2.1, .int .i64 d.2.2.1.2.2.2.2.2.1]⟩, some ⟨false, [.seq .str 0 d.2.2.2.1.2.1]⟩, some ⟨false, [.seq (.pair (.int .i64) .str) 0 d.2.2.2.2.1.2.1]⟩]) k d.1.2.2.1) (orG sh8_1_l11_3 (fun d K => l11_3 d.2.1.2.1 d.2.2.1.2.2.2.1 d.2.2.1.2.2.2.2.1 d.2.2.1.2.2.2.2.2.1 d.2.2.2.1.2.1 d.2.2.2.2.1.2.1 (K .ret [.tv (.lf (.bool false))] [some ⟨d.2.1.1, [.seq (.pair (.int .i64) (.pair (.int .i64) (.pair (.int .i64) (.pair (.int .u64) (.pair .str (.sl .bool)))))) 0 d.2.1.2.1]⟩, some ⟨false, [.full 2, .full 3, .int .i64 d.2.2.1.2.2.2.1, .bool d.2.2.1.2.2.2.2.1, .int .i64 d.2.2.1.2.2.2.2.2.1]⟩, some ⟨false, [.seq .str 0 d.2.2.2.1.2.1]⟩, some ⟨false, [.seq (.pair (.int .i64) .str) 0 d.2.2.2.2.1.2.1]⟩]) (K (.exit 2) [.tv (.lf (.ptr 1 0)), .tv (.lf (.nilp))] [some ⟨d.2.1.1, [.seq (.pair (.int .i64) (.pair (.int .i64) (.pair (.int .i64) (.pair (.int .u64) (.pair .str (.sl .bool)))))) 0 d.2.1.2.1]⟩, some ⟨false, [.full 2, .full 3, .int .i64 d.2.2.1.2.2.2.1, .bool d.2.2.1.2.2.2.2.1, .int .i64 d.2.2.1.2.2.2.2.2.1]⟩, some ⟨false, [.seq .str 0 d.2.2.2.1.2.1]⟩, some ⟨false, [.seq (.pair (.int .i64) .str) 0 d.2.2.2.2.1.2.1]⟩]) k d.1.2.2.1) (mkG sh8_1_l11_4 [3, 5, 8] (outT [(.exit 2, [3, 5]), (.ret, [2])]) (fun d K => l11_4 d.2.1.2.1 d.2.2.1.2.2.2.1 d.2.2.1.2.2.2.2.1 d.2.2.1.2.2.2.2.2.1 d.2.2.2.1.2.1 d.2.2.2.2.1.2.1 d.2.2.2.2.2.1.2.2.2.1 d.2.2.2.2.2.1.2.2.2.2.1 d.2.2.2.2.2.1.2.2.2.2.2.1 d.2.2.2.2.2.2.1.2.1 d.2.2.2.2.2.2.2.1.2.1 (K .ret [.tv (.lf (.bool false))] [some ⟨d.2.1.1, [.seq (.pair (.int .i64) (.pair (.int .i64) (.pair (.int .i64) (.pair (.int .u64) (.pair .str (.sl .bool)))))) 0 d.2.1.2.1]⟩, some ⟨false, [.full 2, .full 3, .int .i64 d.2.2.1.2.2.2.1, .bool d.2.2.1.2.2.2.2.1, .int .i64 d.2.2.1.2.2.2.2.2.1]⟩, some ⟨false, [.seq .str 0 d.2.2.2.1.2.1]⟩, some ⟨false, [.seq (.pair (.int .i64) .str) 0 d.2.2.2.2.1.2.1]⟩, some ⟨false, [.full 5, .full 6, .int .i64 d.2.2.2.2.2.1.2.2.2.1, .bool d.2.2.2.2.2.1.2.2.2.2.1, .int .i64 d.2.2.2.2.2.1.2.2.2.2.2.1]⟩, some ⟨false, [.seq .str 0 d.2.2.2.2.2.2.1.2.1]⟩, some ⟨false, [.seq (.pair (.int .i64) .str) 0 d.2.2.2.2.2.2.2.1.2.1]⟩]) (K (.exit 2) [.tv (.lf (.ptr 1 0)), .tv (.lf (.ptr 4 0))] [some ⟨d.2.1.1, [.seq (.pair (.int .i64) (.pair (.int .i64) (.pair (.int .i64) (.pair (.int .u64) (.pair .str (.sl .bool)))))) 0 d.2.1.2.1]⟩, some ⟨false, [.full 2, .full 3, .int .i64 d.2.2.1.2.2.2.1, .bool d.2.2.1.2.2.2.2.1, .int .i64 d.2.2.1.2.2.2.2.2.1]⟩, some ⟨false, [.seq .str 0 d.2.2.2.1.2.1]⟩, some ⟨false, [.seq (.pair (.int .i64) .str) 0 d.2.2.2.2.1.2.1]⟩, some ⟨false, [.full 5, .full 6, .int .i64 d.2.2.2.2.2.1.2.2.2.1, .bool d.2.2.2.2.2.1.2.2.2.2.1, .int .i64 d.2.2.2.2.2.1.2.2.2.2.2.1]⟩, some ⟨false, [.seq .str 0 d.2.2.2.2.2.2.1.2.1]⟩, some ⟨false, [.seq (.pair (.int .i64) .str) 0 d.2.2.2.2.2.2.2.1.2.1]⟩]) k d.1.2.2.1) [])))) b8_1 (encT sh8_1_l11_2.vs d.1) (encH sh8_1_l11_2.h d.2) K := by kernel_rfl
theorem L8_1_l11_3g (F k : Nat) (c21_1 : (Bool → Option Res) → Option Res) (c22_1 : Int → (Option Res) → (List ByteArray → List (Int × ByteArray) → Option Res) → Option Res) (c28_1 : Int → (Option Res) → (List ByteArray → List (Int × ByteArray) → Option Res) → Option Res) (c29_1 : Int → Int → Int → Int → ByteArray → Sl .bool → Int → Bool → Int → List ByteArray → List (Int × ByteArray) → Int → Bool → Int → List ByteArray → List (Int × ByteArray) → (Bool → Int → Bool → Int → Int → Bool → Int → Option Res) → (Bool → Int → Bool → Int → Int → Bool → Int → List ByteArray → List (Int × ByteArray) → Option Res) → (Bool → Int → Bool → Int → Int → Bool → Int → List ByteArray → List (Int × ByteArray) → Option Res) → (Bool → Int → Bool → Int → List ByteArray → Int → Bool → Int → List (Int × ByteArray) → Option Res) → (Bool → Int → Bool → Int → List ByteArray → Int → Bool → Int → List ByteArray → List (Int × ByteArray) → List (Int × ByteArray) → Option Res) → (Bool → Int → Bool → Int → List ByteArray → Int → Bool → Int → List ByteArray → List (Int × ByteArray) → List (Int × ByteArray) → Option Res) → (Bool → Int → Bool → Int → List ByteArray → Int → Bool → Int → List (Int × ByteArray) → Option Res) → (Bool → Int → Bool → Int → List ByteArray → Int → Bool → Int → List ByteArray → List (Int × ByteArray) → List (Int × ByteArray) → Option Res) → (Bool → Int → Bool → Int → List ByteArray → Int → Bool → Int → List ByteArray → List (Int × ByteArray) → List (Int × ByteArray) → Option Res) → Option Res) (c29_1787 : Int → Int → Int → Int → ByteArray → Sl .bool → Int → Bool → Int → List ByteArray → List (Int × ByteArray) → (Bool → Int → Bool → Int → Option Res) → (Bool → Int → Bool → Int → List ByteArray → List (Int × ByteArray) → Option Res) → (Bool → Int → Bool → Int → List ByteArray → List (Int × ByteArray) → Option Res) → Option Res) (c29_2194 : Int → Int → Int → Int → ByteArray → Sl .bool → (Bool → Option Res) → Option Res) (c29_7288 : Int → Int → Int → Int → ByteArray → Sl .bool → Int → Bool → Int → List ByteArray → List (Int × ByteArray) → (Bool → Int → Bool → Int → Option Res) → (Bool → Int → Bool → Int → List ByteArray → List (Int × ByteArray) → Option Res) → (Bool → Int → Bool → Int → List ByteArray → List (Int × ByteArray) → Option Res) → Option Res) (c30_1 : Int → Int → Bool → Int → List ByteArray → List (Int × ByteArray) → (ByteArray → Int → Option Res) → Option Res) (c30_6206 : Int → (Option Res) → Option Res) (c31_1 : Int → Int → Bool → Int → List ByteArray → List (Int × ByteArray) → (ByteArray → Int → Option Res) → Option Res) (c31_6206 : Int → (Option Res) → Option Res) (c32_1 : Int → Bool → Int → List ByteArray → List (Int × ByteArray) → (Option Res) → Option Res) (c32_568 : (Option Res) → Option Res)  (l11 : Int → List (Int × (Int × (Int × (Int × (ByteArray × (Sl .bool)))))) → (Option Res) → (Option Res) → Nat → Option Res) (l11_2 : List (Int × (Int × (Int × (Int × (ByteArray × (Sl .bool)))))) → Int → Bool → Int → List ByteArray → List (Int × ByteArray) → (Option Res) → (Option Res) → Nat → Int → Option Res) (l11_3 : List (Int × (Int × (Int × (Int × (ByteArray × (Sl .bool)))))) → Int → Bool → Int → List ByteArray → List (Int × ByteArray) → (Option Res) → (Option Res) → Nat → Int → Option Res) (l11_4 : List (Int × (Int × (Int × (Int × (ByteArray × (Sl .bool)))))) → Int → Bool → Int → List ByteArray → List (Int × ByteArray) → Int → Bool → Int → List ByteArray → List (Int × ByteArray) → (Option Res) → (Option Res) → Nat → Int → Option Res) (X4 : LoopS) (X11 : LoopS) (d : sh8_1_l11_3.den) (K : KL) : (fun (v115 : List (Int × (Int × (Int × (Int × (ByteArray × (Sl .bool))))))) (v116 : Int) (v117 : Bool) (v118 : Int) (v119 : List ByteArray) (v120 : List (Int × ByteArray)) (K0 : (Option Res)) (K1 : (Option Res)) (k : Nat) (v114 : Int) => cond (decide (v114 < 6)) (c30_1 v114 v116 v117 v118 v119 v120 (fun x121 x122 => c31_6206 v114 (cond (!(x121.toList == ByteArray.empty.toList)) (K0) (cond (x122 != 3) (K0) (l11_3 v115 v116 v117 v118 v119 v120 K0 K1 k (IntKind.i64.wrap (v114 + 1))))) ) ) (K1)) d.2.1.2.1 d.2.2.1.2.2.2.1 d.2.2.1.2.2.2.2.1 d.2.2.1.2.2.2.2.2.1 d.2.2.2.1.2.1 d.2.2.2.2.1.2.1 (K .ret [.tv (.lf (.bool false))] [some ⟨d.2.1.1, [.seq (.pair (.int .i64) (.pair (.int .i64) (.pair (.int .i64) (.pair (.int .u64) (.pair .str (.sl .bool)))))) 0 d.2.1.2.1]⟩, some ⟨false, [.full 2, .full 3, .int .i64 d.2.2.1.2.2.2.1, .bool d.2.2.1.2.2.2.2.1, .int .i64 d.2.2.1.2.2.2.2.2.1]⟩, some ⟨false, [.seq .str 0 d.2.2.2.1.2.1]⟩, some ⟨false, [.seq (.pair (.int .i64) .str) 0 d.2.2.2.2.1.2.1]⟩]) (K (.exit 2) [.tv (.lf (.ptr 1 0)), .tv (.lf (.nilp))] [some ⟨d.2.1.1, [.seq (.pair (.int .i64) (.pair (.int .i64) (.pair (.int .i64) (.pair (.int .u64) (.pair .str (.sl .bool)))))) 0 d.2.1.2.1]⟩, some ⟨false, [.full 2, .full 3, .int .i64 d.2.2.1.2.2.2.1, .bool d.2.2.1.2.2.2.2.1, .int .i64 d.2.2.1.2.2.2.2.2.1]⟩, some ⟨false, [.seq .str 0 d.2.2.2.1.2.1]⟩, some ⟨false, [.seq (.pair (.int .i64) .str) 0 d.2.2.2.2.1.2.1]⟩]) k d.1.2.2.1 = roundOf Tryd.prog (tab [(21, (mkS sh21_1 (fun d K => c21_1 (fun (y0 : Bool) => K [.lf (.bool y0)] [])) noS)), (22, (mkS sh22_1 (fun d K => c22_1 d.1.1 (K [.lf (.nilp), .lf (.int .i64 2)] []) (fun (y4 : List ByteArray) (y5 : List (Int × ByteArray)) => K [.lf (.ptr 0 0), .lf (.int .i64 0)] [some ⟨false, [.full 1, .full 2, .int .i64 (-1), .bool false, .int .i64 0]⟩, some ⟨false, [.seq .str 0 y4]⟩, some ⟨false, [.seq (.pair (.int .i64) .str) 0 y5]⟩])) noS)), (28, (mkS sh28_1 (fun d K => c28_1 d.1.1 (K [.lf (.nilp), .lf (.int .i64 2)] []) (fun (y4 : List ByteArray) (y5 : List (Int × ByteArray)) => K [.lf (.ptr 0 0), .lf (.int .i64 0)] [some ⟨false, [.full 1, .full 2, .int .i64 (-1), .bool false, .int .i64 0]⟩, some ⟨false, [.seq .str 0 y4]⟩, some ⟨false, [.seq (.pair (.int .i64) .str) 0 y5]⟩])) noS)), (29, (mkS sh29_1 (fun d K => c29_1 d.1.2.2.1.1 d.1.2.2.1.2.1 d.1.2.2.1.2.2.1 d.1.2.2.1.2.2.2.1 d.1.2.2.1.2.2.2.2.1 d.1.2.2.1.2.2.2.2.2.1 d.2.1.2.2.2.1 d.2.1.2.2.2.2.1 d.2.1.2.2.2.2.2.1 d.2.2.1.2.1 d.2.2.2.1.2.1 d.2.2.2.2.1.2.2.2.1 d.2.2.2.2.1.2.2.2.2.1 d.2.2.2.2.1.2.2.2.2.2.1 d.2.2.2.2.2.1.2.1 d.2.2.2.2.2.2.1.2.1 (fun (y0 : Bool) (y1 : Int) (y2 : Bool) (y3 : Int) (y6 : Int) (y7 : Bool) (y8 : Int) => K [.lf (.bool y0)] [some ⟨false, [.full 1, .full 2, .int .i64 y1, .bool y2, .int .i64 y3]⟩, some ⟨false, [.seq .str 0 d.2.2.1.2.1]⟩, some ⟨false, [.seq (.pair (.int .i64) .str) 0 d.2.2.2.1.2.1]⟩, some ⟨false, [.full 4, .full 5, .int .i64 y6, .bool y7, .int .i64 y8]⟩, some ⟨false, [.seq .str 0 d.2.2.2.2.2.1.2.1]⟩, some ⟨false, [.seq (.pair (.int .i64) .str) 0 d.2.2.2.2.2.2.1.2.1]⟩]) (fun (y0 : Bool) (y1 : Int) (y2 : Bool) (y3 : Int) (y6 : Int) (y7 : Bool) (y8 : Int) (y9 : List ByteArray) (y11 : List (Int × ByteArray)) => K [.lf (.bool y0)] [some ⟨false, [.full 1, .full 2, .int .i64 y1, .bool y2, .int .i64 y3]⟩, some ⟨false, [.seq .str 0 d.2.2.1.2.1]⟩, some ⟨false, [.seq (.pair (.int .i64) .str) 0 d.2.2.2.1.2.1]⟩, some ⟨false, [.full 4, .full 6, .int .i64 y6, .bool y7, .int .i64 y8]⟩, some ⟨false, [.seq .str 0 y9]⟩, some ⟨false, [.seq (.pair (.int .i64) .str) 0 d.2.2.2.2.2.2.1.2.1]⟩, some ⟨false, [.seq (.pair (.int .i64) .str) 0 y11]⟩]) (fun (y0 : Bool) (y1 : Int) (y2 : Bool) (y3 : Int) (y6 : Int) (y7 : Bool) (y8 : Int) (y9 : List ByteArray) (y10 : List (Int × ByteArray)) => K [.lf (.bool y0)] [some ⟨false, [.full 1, .full 2, .int .i64 y1, .bool y2, .int .i64 y3]⟩, some ⟨false, [.seq .str 0 d.2.2.1.2.1]⟩, some ⟨false, [.seq (.pair (.int .i64) .str) 0 d.2.2.2.1.2.1]⟩, some ⟨false, [.full 4, .full 6, .int .i64 y6, .bool y7, .int .i64 y8]⟩, some ⟨false, [.seq .str 0 y9]⟩, none, some ⟨false, [.seq (.pair (.int .i64) .str) 0 y10]⟩]) (fun (y0 : Bool) (y1 : Int) (y2 : Bool) (y3 : Int) (y4 : List ByteArray) (y6 : Int) (y7 : Bool) (y8 : Int) (y11 : List (Int × ByteArray)) => K [.lf (.bool y0)] [some ⟨false, [.full 1, .full 6, .int .i64 y1, .bool y2, .int .i64 y3]⟩, some ⟨false, [.seq .str 0 y4]⟩, some ⟨false, [.seq (.pair (.int .i64) .str) 0 d.2.2.2.1.2.1]⟩, some ⟨false, [.full 4, .full 5, .int .i64 y6, .bool y7, .int .i64 y8]⟩, some ⟨false, [.seq .str 0 d.2.2.2.2.2.1.2.1]⟩, some ⟨false, [.seq (.pair (.int .i64) .str) 0 d.2.2.2.2.2.2.1.2.1]⟩, some ⟨false, [.seq (.pair (.int .i64) .str) 0 y11]⟩]) (fun (y0 : Bool) (y1 : Int) (y2 : Bool) (y3 : Int) (y4 : List ByteArray) (y6 : Int) (y7 : Bool) (y8 : Int) (y9 : List ByteArray) (y11 : List (Int × ByteArray)) (y12 : List (Int × ByteArray)) => K [.lf (.bool y0)] [some ⟨false, [.full 1, .full 6, .int .i64 y1, .bool y2, .int .i64 y3]⟩, some ⟨false, [.seq .str 0 y4]⟩, some ⟨false, [.seq (.pair (.int .i64) .str) 0 d.2.2.2.1.2.1]⟩, some ⟨false, [.full 4, .full 7, .int .i64 y6, .bool y7, .int .i64 y8]⟩, some ⟨false, [.seq .str 0 y9]⟩, some ⟨false, [.seq (.pair (.int .i64) .str) 0 d.2.2.2.2.2.2.1.2.1]⟩, some ⟨false, [.seq (.pair (.int .i64) .str) 0 y11]⟩, some ⟨false, [.seq (.pair (.int .i64) .str) 0 y12]⟩]) (fun (y0 : Bool) (y1 : Int) (y2 : Bool) (y3 : Int) (y4 : List ByteArray) (y6 : Int) (y7 : Bool) (y8 : Int) (y9 : List ByteArray) (y10 : List (Int × ByteArray)) (y11 : List (Int × ByteArray)) => K [.lf (.bool y0)] [some ⟨false, [.full 1, .full 6, .int .i64 y1, .bool y2, .int .i64 y3]⟩, some ⟨false, [.seq .str 0 y4]⟩, some ⟨false, [.seq (.pair (.int .i64) .str) 0 d.2.2.2.1.2.1]⟩, some ⟨false, [.full 4, .full 7, .int .i64 y6, .bool y7, .int .i64 y8]⟩, some ⟨false, [.seq .str 0 y9]⟩, none, some ⟨false, [.seq (.pair (.int .i64) .str) 0 y10]⟩, some ⟨false, [.seq (.pair (.int .i64) .str) 0 y11]⟩]) (fun (y0 : Bool) (y1 : Int) (y2 : Bool) (y3 : Int) (y4 : List ByteArray) (y5 : Int) (y6 : Bool) (y7 : Int) (y10 : List (Int × ByteArray)) => K [.lf (.bool y0)] [some ⟨false, [.full 1, .full 6, .int .i64 y1, .bool y2, .int .i64 y3]⟩, some ⟨false, [.seq .str 0 y4]⟩, none, some ⟨false, [.full 4, .full 5, .int .i64 y5, .bool y6, .int .i64 y7]⟩, some ⟨false, [.seq .str 0 d.2.2.2.2.2.1.2.1]⟩, some ⟨false, [.seq (.pair (.int .i64) .str) 0 d.2.2.2.2.2.2.1.2.1]⟩, some ⟨false, [.seq (.pair (.int .i64) .str) 0 y10]⟩]) (fun (y0 : Bool) (y1 : Int) (y2 : Bool) (y3 : Int) (y4 : List ByteArray) (y5 : Int) (y6 : Bool) (y7 : Int) (y8 : List ByteArray) (y10 : List (Int × ByteArray)) (y11 : List (Int × ByteArray)) => K [.lf (.bool y0)] [some ⟨false, [.full 1, .full 6, .int .i64 y1, .bool y2, .int .i64 y3]⟩, some ⟨false, [.seq .str 0 y4]⟩, none, some ⟨false, [.full 4, .full 7, .int .i64 y5, .bool y6, .int .i64 y7]⟩, some ⟨false, [.seq .str 0 y8]⟩, some ⟨false, [.seq (.pair (.int .i64) .str) 0 d.2.2.2.2.2.2.1.2.1]⟩, some ⟨false, [.seq (.pair (.int .i64) .str) 0 y10]⟩, some ⟨false, [.seq (.pair (.int .i64) .str) 0 y11]⟩]) (fun (y0 : Bool) (y1 : Int) (y2 : Bool) (y3 : Int) (y4 : List ByteArray) (y5 : Int) (y6 : Bool) (y7 : Int) (y8 : List ByteArray) (y9 : List (Int × ByteArray)) (y10 : List (Int × ByteArray)) => K [.lf (.bool y0)] [some ⟨false, [.full 1, .full 6, .int .i64 y1, .bool y2, .int .i64 y3]⟩, some ⟨false, [.seq .str 0 y4]⟩, none, some ⟨false, [.full 4, .full 7, .int .i64 y5, .bool y6, .int .i64 y7]⟩, some ⟨false, [.seq .str 0 y8]⟩, none, some ⟨false, [.seq (.pair (.int .i64) .str) 0 y9]⟩, some ⟨false, [.seq (.pair (.int .i64) .str) 0 y10]⟩])) (mkS sh29_1787 (fun d K => c29_1787 d.1.2.2.1.1 d.1.2.2.1.2.1 d.1.2.2.1.2.2.1 d.1.2.2.1.2.2.2.1 d.1.2.2.1.2.2.2.2.1 d.1.2.2.1.2.2.2.2.2.1 d.2.1.2.2.2.1 d.2.1.2.2.2.2.1 d.2.1.2.2.2.2.2.1 d.2.2.1.2.1 d.2.2.2.1.2.1 (fun (y0 : Bool) (y1 : Int) (y2 : Bool) (y3 : Int) => K [.lf (.bool y0)] [some ⟨false, [.full 1, .full 2, .int .i64 y1, .bool y2, .int .i64 y3]⟩, some ⟨false, [.seq .str 0 d.2.2.1.2.1]⟩, some ⟨false, [.seq (.pair (.int .i64) .str) 0 d.2.2.2.1.2.1]⟩]) (fun (y0 : Bool) (y1 : Int) (y2 : Bool) (y3 : Int) (y4 : List ByteArray) (y6 : List (Int × ByteArray)) => K [.lf (.bool y0)] [some ⟨false, [.full 1, .full 3, .int .i64 y1, .bool y2, .int .i64 y3]⟩, some ⟨false, [.seq .str 0 y4]⟩, some ⟨false, [.seq (.pair (.int .i64) .str) 0 d.2.2.2.1.2.1]⟩, some ⟨false, [.seq (.pair (.int .i64) .str) 0 y6]⟩]) (fun (y0 : Bool) (y1 : Int) (y2 : Bool) (y3 : Int) (y4 : List ByteArray) (y5 : List (Int × ByteArray)) => K [.lf (.bool y0)] [some ⟨false, [.full 1, .full 3, .int .i64 y1, .bool y2, .int .i64 y3]⟩, some ⟨false, [.seq .str 0 y4]⟩, none, some ⟨false, [.seq (.pair (.int .i64) .str) 0 y5]⟩])) (mkS sh29_2194 (fun d K => c29_2194 d.1.2.2.1.1 d.1.2.2.1.2.1 d.1.2.2.1.2.2.1 d.1.2.2.1.2.2.2.1 d.1.2.2.1.2.2.2.2.1 d.1.2.2.1.2.2.2.2.2.1 (fun (y0 : Bool) => K [.lf (.bool y0)] [])) (mkS sh29_7288 (fun d K => c29_7288 d.1.2.2.1.1 d.1.2.2.1.2.1 d.1.2.2.1.2.2.1 d.1.2.2.1.2.2.2.1 d.1.2.2.1.2.2.2.2.1 d.1.2.2.1.2.2.2.2.2.1 d.2.1.2.2.2.1 d.2.1.2.2.2.2.1 d.2.1.2.2.2.2.2.1 d.2.2.1.2.1 d.2.2.2.1.2.1 (fun (y0 : Bool) (y1 : Int) (y2 : Bool) (y3 : Int) => K [.lf (.bool y0)] [some ⟨false, [.full 1, .full 2, .int .i64 y1, .bool y2, .int .i64 y3]⟩, some ⟨false, [.seq .str 0 d.2.2.1.2.1]⟩, some ⟨false, [.seq (.pair (.int .i64) .str) 0 d.2.2.2.1.2.1]⟩]) (fun (y0 : Bool) (y1 : Int) (y2 : Bool) (y3 : Int) (y4 : List ByteArray) (y6 : List (Int × ByteArray)) => K [.lf (.bool y0)] [some ⟨false, [.full 1, .full 3, .int .i64 y1, .bool y2, .int .i64 y3]⟩, some ⟨false, [.seq .str 0 y4]⟩, some ⟨false, [.seq (.pair (.int .i64) .str) 0 d.2.2.2.1.2.1]⟩, some ⟨false, [.seq (.pair (.int .i64) .str) 0 y6]⟩]) (fun (y0 : Bool) (y1 : Int) (y2 : Bool) (y3 : Int) (y4 : List ByteArray) (y5 : List (Int × ByteArray)) => K [.lf (.bool y0)] [some ⟨false, [.full 1, .full 3, .int .i64 y1, .bool y2, .int .i64 y3]⟩, some ⟨false, [.seq .str 0 y4]⟩, none, some ⟨false, [.seq (.pair (.int .i64) .str) 0 y5]⟩])) noS))))), (30, (mkS sh30_1 (fun d K => c30_1 d.1.2.1 d.2.1.2.2.2.1 d.2.1.2.2.2.2.1 d.2.1.2.2.2.2.2.1 d.2.2.1.2.1 d.2.2.2.1.2.1 (fun (y0 : ByteArray) (y1 : Int) => K [.lf (.str y0), .lf (.int .i64 y1)] [some ⟨d.2.1.1, [.full 1, .full 2, .int .i64 d.2.1.2.2.2.1, .bool d.2.1.2.2.2.2.1, .int .i64 d.2.1.2.2.2.2.2.1]⟩, some ⟨d.2.2.1.1, [.seq .str 0 d.2.2.1.2.1]⟩, some ⟨d.2.2.2.1.1, [.seq (.pair (.int .i64) .str) 0 d.2.2.2.1.2.1]⟩])) (mkS sh30_6206 (fun d K => c30_6206 d.1.2.1 (K [.lf (.str ByteArray.empty), .lf (.int .i64 1)] [])) noS))), (31, (mkS sh31_1 (fun d K => c31_1 d.1.2.1 d.2.1.2.2.2.1 d.2.1.2.2.2.2.1 d.2.1.2.2.2.2.2.1 d.2.2.1.2.1 d.2.2.2.1.2.1 (fun (y0 : ByteArray) (y1 : Int) => K [.lf (.str y0), .lf (.int .i64 y1)] [some ⟨d.2.1.1, [.full 1, .full 2, .int .i64 d.2.1.2.2.2.1, .bool d.2.1.2.2.2.2.1, .int .i64 d.2.1.2.2.2.2.2.1]⟩, some ⟨d.2.2.1.1, [.seq .str 0 d.2.2.1.2.1]⟩, some ⟨d.2.2.2.1.1, [.seq (.pair (.int .i64) .str) 0 d.2.2.2.1.2.1]⟩])) (mkS sh31_6206 (fun d K => c31_6206 d.1.2.1 (K [.lf (.str ByteArray.empty), .lf (.int .i64 3)] [])) noS))), (32, (mkS sh32_1 (fun d K => c32_1 d.2.1.2.2.2.1 d.2.1.2.2.2.2.1 d.2.1.2.2.2.2.2.1 d.2.2.1.2.1 d.2.2.2.1.2.1 (K [.lf (.int .i64 d.2.1.2.2.2.2.2.1)] [some ⟨d.2.1.1, [.full 1, .full 2, .int .i64 d.2.1.2.2.2.1, .bool d.2.1.2.2.2.2.1, .int .i64 d.2.1.2.2.2.2.2.1]⟩, some ⟨d.2.2.1.1, [.seq .str 0 d.2.2.1.2.1]⟩, some ⟨d.2.2.2.1.1, [.seq (.pair (.int .i64) .str) 0 d.2.2.2.1.2.1]⟩])) (mkS sh32_568 (fun d K => c32_568 (K [.lf (.int .i64 0)] [])) noS)))]) (xw []) 81 1 (ltab [(4, X4), (11, X11)]) (orG sh8_1_l11 (fun d K => l11 d.1.2.2.1 d.2.1.2.1 (K .ret [.tv (.lf (.bool false))] [some ⟨d.2.1.1, [.seq (.pair (.int .i64) (.pair (.int .i64) (.pair (.int .i64) (.pair (.int .u64) (.pair .str (.sl .bool)))))) 0 d.2.1.2.1]⟩]) (K (.exit 2) [.tv (.lf (.nilp)), .tv (.lf (.nilp))] [some ⟨d.2.1.1, [.seq (.pair (.int .i64) (.pair (.int .i64) (.pair (.int .i64) (.pair (.int .u64) (.pair .str (.sl .bool)))))) 0 d.2.1.2.1]⟩]) k) (orG sh8_1_l11_2 (fun d K => l11_2 d.2.1.2.1 d.2.2.1.2.2.2.1 d.2.2.1.2.2.2.2.1 d.2.2.1.2.2.2.2.2.1 d.2.2.2.1.2.1 d.2.2.2.2.1.2.1 (K .ret [.tv (.lf (.bool false))] [some ⟨d.2.1.1, [.seq (.pair (.int .i64) (.pair (.int .i64) (.pair (.int .i64) (.pair (.int .u64) (.pair .str (.sl .bool)))))) 0 d.2.1.2.1]⟩, some ⟨false, [.full 2, .full 3, .int .i64 d.2.2.1.2.2.2.1, .bool d.2.2.1.2.2.2.2.1, .int .i64 d.2.2.1.2.2.2.2.2.1]⟩, some ⟨false, [.seq .str 0 d.2.2.2.1.2.1]⟩, some ⟨false, [.seq (.pair (.int .i64) .str) 0 d.2.2.2.2.1.2.1]⟩]) (K (.exit 2) [.tv (.lf (.nilp)), .tv (.lf (.ptr 1 0))] [some ⟨d.2.1.1, [.seq (.pair (.int .i64) (.pair (.int .i64) (.pair (.int .i64) (.pair (.int .u64) (.pair .str (.sl .bool)))))) 0 d.2.1.2.1]⟩, some ⟨false, [.full 2, .full 3, .int .i64 d.2.2.1.2.2.2.1, .bool d.2.2.1.2.2.2.2.1, .int .i64 d.2.2.1.2.2.2.2.2.1]⟩, some ⟨false, [.seq .str 0 d.2.2.2.1.2.1]⟩, some ⟨false, [.seq (.pair (.int .i64) .str) 0 d.2.2.2.2.1.2.1]⟩]) k d.1.2.2.1) (orG sh8_1_l11_3 (fun d K => l11_3 d.2.1.2.1 d.2.2.1.2.2.2.1 d.2.2.1.2.2.2.2.1 d.2.2.1.2.2.2.2.2.1 d.2.2.2.1.2.1 d.2.2.2.2.1.2.1 (K .ret [.tv (.lf (.bool false))] [some ⟨d.2.1.1, [.seq (.pair (.int .i64) (.pair (.int .i64) (.pair (.int .i64) (.pair (.int .u64) (.pair .str (.sl .bool)))))) 0 d.2.1.2.1]⟩, some ⟨false, [.full 2, .full 3, .int .i64 d.2.2.1.2.2.2.1, .bool d.2.2.1.2.2.2.2.1, .int .i64 d.2.2.1.2.2.2.2.2.1]⟩, some ⟨false, [.seq .str 0 d.2.2.2.1.2.1]⟩, some ⟨false, [.seq (.pair (.int .i64) .str) 0 d.2.2.2.2.1.2.1]⟩]) (K (.exit 2) [.tv (.lf (.ptr 1 0)), .tv (.lf (.nilp))] [some ⟨d.2.1.1, [.seq (.pair (.int .i64) (.pair (.int .i64) (.pair (.int .i64) (.pair (.int .u64) (.pair .str (.sl .bool)))))) 0 d.2.1.2.1]⟩, some ⟨false, [.full 2, .full 3, .int .i64 d.2.2.1.2.2.2.1, .bool d.2.2.1.2.2.2.2.1, .int .i64 d.2.2.1.2.2.2.2.2.1]⟩, some ⟨false, [.seq .str 0 d.2.2.2.1.2.1]⟩, some ⟨false, [.seq (.pair (.int .i64) .str) 0 d.2.2.2.2.1.2.1]⟩]) k d.1.2.2.1) (mkG sh8_1_l11_4 [3, 5, 8] (outT [(.exit 2, [3, 5]), (.ret, [2])]) (fun d K => l11_4 d.2.1.2.1 d.2.2.1.2.2.2.1 d.2.2.1.2.2.2.2.1 d.2.2.1.2.2.2.2.2.1 d.2.2.2.1.2.1 d.2.2.2.2.1.2.1 d.2.2.2.2.2.1.2.2.2.1 d.2.2.2.2.2.1.2.2.2.2.1 d.2.2.2.2.2.1.2.2.2.2.2.1 d.2.2.2.2.2.2.1.2.1 d.2.2.2.2.2.2.2.1.2.1 (K .ret [.tv (.lf (.bool false))] [some ⟨d.2.1.1, [.seq (.pair (.int .i64) (.pair (.int .i64) (.pair (.int .i64) (.pair (.int .u64) (.pair .str (.sl .bool)))))) 0 d.2.1.2.1]⟩, some ⟨false, [.full 2, .full 3, .int .i64 d.2.2.1.2.2.2.1, .bool d.2.2.1.2.2.2.2.1, .int .i64 d.2.2.1.2.2.2.2.2.1]⟩, some ⟨false, [.seq .str 0 d.2.2.2.1.2.1]⟩, some ⟨false, [.seq (.pair (.int .i64) .str) 0 d.2.2.2.2.1.2.1]⟩, some ⟨false, [.full 5, .full 6, .int .i64 d.2.2.2.2.2.1.2.2.2.1, .bool d.2.2.2.2.2.1.2.2.2.2.1, .int .i64 d.2.2.2.2.2.1.2.2.2.2.2.1]⟩, some ⟨false, [.seq .str 0 d.2.2.2.2.2.2.1.2.1]⟩, some ⟨false, [.seq (.pair (.int .i64) .str) 0 d.2.2.2.2.2.2.2.1.2.1]⟩]) (K (.exit 2) [.tv (.lf (.ptr 1 0)), .tv (.lf (.ptr 4 0))] [some ⟨d.2.1.1, [.seq (.pair (.int .i64) (.pair (.int .i64) (.pair (.int .i64) (.pair (.int .u64) (.pair .str (.sl .bool)))))) 0 d.2.1.2.1]⟩, some ⟨false, [.full 2, .full 3, .int .i64 d.2.2.1.2.2.2.1, .bool d.2.2.1.2.2.2.2.1, .int .i64 d.2.2.1.2.2.2.2.2.1]⟩, some ⟨false, [.seq .str 0 d.2.2.2.1.2.1]⟩, some ⟨false, [.seq (.pair (.int .i64) .str) 0 d.2.2.2.2.1.2.1]⟩, some ⟨false, [.full 5, .full 6, .int .i64 d.2.2.2.2.2.1.2.2.2.1, .bool d.2.2.2.2.2.1.2.2.2.2.1, .int .i64 d.2.2.2.2.2.1.2.2.2.2.2.1]⟩, some ⟨false, [.seq .str 0 d.2.2.2.2.2.2.1.2.1]⟩, some ⟨false, [.seq (.pair (.int .i64) .str) 0 d.2.2.2.2.2.2.2.1.2.1]⟩]) k d.1.2.2.1) [])))) b8_1 (encT sh8_1_l11_3.vs d.1) (encH sh8_1_l11_3.h d.2) K := by kernel_rfl
theorem L8_1_l11_4g (F k : Nat) (c21_1 : (Bool → Option Res) → Option Res) (c22_1 : Int → (Option Res) → (List ByteArray → List (Int × ByteArray) → Option Res) → Option Res) (c28_1 : Int → (Option Res) → (List ByteArray → List (Int × ByteArray) → Option Res) → Option Res) (c29_1 : Int → Int → Int → Int → ByteArray → Sl .bool → Int → Bool → Int → List ByteArray → List (Int × ByteArray) → Int → Bool → Int → List ByteArray → List (Int × ByteArray) → (Bool → Int → Bool → Int → Int → Bool → Int → Option Res) → (Bool → Int → Bool → Int → Int → Bool → Int → List ByteArray → List (Int × ByteArray) → Option Res) → (Bool → Int → Bool → Int → Int → Bool → Int → List ByteArray → List (Int × ByteArray) → Option Res) → (Bool → Int → Bool → Int → List ByteArray → Int → Bool → Int → List (Int × ByteArray) → Option Res) → (Bool → Int → Bool → Int → List ByteArray → Int → Bool → Int → List ByteArray → List (Int × ByteArray) → List (Int × ByteArray) → Option Res) → (Bool → Int → Bool → Int → List ByteArray → Int → Bool → Int → List ByteArray → List (Int × ByteArray) → List (Int × ByteArray) → Option Res) → (Bool → Int → Bool → Int → List ByteArray → Int → Bool → Int → List (Int × ByteArray) → Option Res) → (Bool → Int → Bool → Int → List ByteArray → Int → Bool → Int → List ByteArray → List (Int × ByteArray) → List (Int × ByteArray) → Option Res) → (Bool → Int → Bool → Int → List ByteArray → Int → Bool → Int → List ByteArray → List (Int × ByteArray) → List (Int × ByteArray) → Option Res) → Option Res) (c29_1787 : Int → Int → Int → Int → ByteArray → Sl .bool → Int → Bool → Int → List ByteArray → List (Int × ByteArray) → (Bool → Int → Bool → Int → Option Res) → (Bool → Int → Bool → Int → List ByteArray → List (Int × ByteArray) → Option Res) → (Bool → Int → Bool → Int → List ByteArray → List (Int × ByteArray) → Option Res) → Option Res) (c29_2194 : Int → Int → Int → Int → ByteArray → Sl .bool → (Bool → Option Res) → Option Res) (c29_7288 : Int → Int → Int → Int → ByteArray → Sl .bool → Int → Bool → Int → List ByteArray → List (Int × ByteArray) → (Bool → Int → Bool → Int → Option Res) → (Bool → Int → Bool → Int → List ByteArray → List (Int × ByteArray) → Option Res) → (Bool → Int → Bool → Int → List ByteArray → List (Int × ByteArray) → Option Res) → Option Res) (c30_1 : Int → Int → Bool → Int → List ByteArray → List (Int × ByteArray) → (ByteArray → Int → Option Res) → Option Res) (c30_6206 : Int → (Option Res) → Option Res) (c31_1 : Int → Int → Bool → Int → List ByteArray → List (Int × ByteArray) → (ByteArray → Int → Option Res) → Option Res) (c31_6206 : Int → (Option Res) → Option Res) (c32_1 : Int → Bool → Int → List ByteArray → List (Int × ByteArray) → (Option Res) → Option Res) (c32_568 : (Option Res) → Option Res)  (l11 : Int → List (Int × (Int × (Int × (Int × (ByteArray × (Sl .bool)))))) → (Option Res) → (Option Res) → Nat → Option Res) (l11_2 : List (Int × (Int × (Int × (Int × (ByteArray × (Sl .bool)))))) → Int → Bool → Int → List ByteArray → List (Int × ByteArray) → (Option Res) → (Option Res) → Nat → Int → Option Res) (l11_3 : List (Int × (Int × (Int × (Int × (ByteArray × (Sl .bool)))))) → Int → Bool → Int → List ByteArray → List (Int × ByteArray) → (Option Res) → (Option Res) → Nat → Int → Option Res) (l11_4 : List (Int × (Int × (Int × (Int × (ByteArray × (Sl .bool)))))) → Int → Bool → Int → List ByteArray → List (Int × ByteArray) → Int → Bool → Int → List ByteArray → List (Int × ByteArray) → (Option Res) → (Option Res) → Nat → Int → Option Res) (X4 : LoopS) (X11 : LoopS) (d : sh8_1_l11_4.den) (K : KL) : (fun (v333 : List (Int × (Int × (Int × (Int × (ByteArray × (Sl .bool))))))) (v334 : Int) (v335 : Bool) (v336 : Int) (v337 : List ByteArray) (v338 : List (Int × ByteArray)) (v339 : Int) (v340 : Bool) (v341 : Int) (v342 : List ByteArray) (v343 : List (Int × ByteArray)) (K0 : (Option Res)) (K1 : (Option Res)) (k : Nat) (v332 : Int) => cond (decide (v332 < 6)) (c30_1 v332 v334 v335 v336 v337 v338 (fun x344 x345 => c31_1 v332 v339 v340 v341 v342 v343 (fun x346 x347 => cond (!(x344.toList == x346.toList)) (K0) (cond (x345 != x347) (K0) (l11_4 v333 v334 v335 v336 v337 v338 v339 v340 v341 v342 v343 K0 K1 k (IntKind.i64.wrap (v332 + 1))))) ) ) (K1)) d.2.1.2.1 d.2.2.1.2.2.2.1 d.2.2.1.2.2.2.2.1 d.2.2.1.2.2.2.2.2.1 d.2.2.2.1.2.1 d.2.2.2.2.1.2.1 d.2.2.2.2.2.1.2.2.2.1 d.2.2.2.2.2.1.2.2.2.2.1 d.2.2.2.2.2.1.2.2.2.2.2.1 d.2.2.2.2.2.2.1.2.1 d.2.2.2.2.2.2.2.1.2.1 (K .ret [.tv (.lf (.bool false))] [some ⟨d.2.1.1, [.seq (.pair (.int .i64) (.pair (.int .i64) (.pair (.int .i64) (.pair (.int .u64) (.pair .str (.sl .bool)))))) 0 d.2.1.2.1]⟩, some ⟨false, [.full 2, .full 3, .int .i64 d.2.2.1.2.2.2.1, .bool d.2.2.1.2.2.2.2.1, .int .i64 d.2.2.1.2.2.2.2.2.1]⟩, some ⟨false, [.seq .str 0 d.2.2.2.1.2.1]⟩, some ⟨false, [.seq (.pair (.int .i64) .str) 0 d.2.2.2.2.1.2.1]⟩, some ⟨false, [.full 5, .full 6, .int .i64 d.2.2.2.2.2.1.2.2.2.1, .bool d.2.2.2.2.2.1.2.2.2.2.1, .int .i64 d.2.2.2.2.2.1.2.2.2.2.2.1]⟩, some ⟨false, [.seq .str 0 d.2.2.2.2.2.2.1.2.1]⟩, some ⟨false, [.seq (.pair (.int .i64) .str) 0 d.2.2.2.2.2.2.2.1.2.1]⟩]) (K (.exit 2) [.tv (.lf (.ptr 1 0)), .tv (.lf (.ptr 4 0))] [some ⟨d.2.1.1, [.seq (.pair (.int .i64) (.pair (.int .i64) (.pair (.int .i64) (.pair (.int .u64) (.pair .str (.sl .bool)))))) 0 d.2.1.2.1]⟩, some ⟨false, [.full 2, .full 3, .int .i64 d.2.2.1.2.2.2.1, .bool d.2.2.1.2.2.2.2.1, .int .i64 d.2.2.1.2.2.2.2.2.1]⟩, some ⟨false, [.seq .str 0 d.2.2.2.1.2.1]⟩, some ⟨false, [.seq (.pair (.int .i64) .str) 0 d.2.2.2.2.1.2.1]⟩, some ⟨false, [.full 5, .full 6, .int .i64 d.2.2.2.2.2.1.2.2.2.1, .bool d.2.2.2.2.2.1.2.2.2.2.1, .int .i64 d.2.2.2.2.2.1.2.2.2.2.2.1]⟩, some ⟨false, [.seq .str 0 d.2.2.2.2.2.2.1.2.1]⟩, some ⟨false, [.seq (.pair (.int .i64) .str) 0 d.2.2.2.2.2.2.2.1.2.1]⟩]) k d.1.2.2.1 = roundOf Tryd.prog (tab [(21, (mkS sh21_1 (fun d K => c21_1 (fun (y0 : Bool) => K [.lf (.bool y0)] [])) noS)), (22, (mkS sh22_1 (fun d K => c22_1 d.1.1 (K [.lf (.nilp), .lf (.int .i64 2)] []) (fun (y4 : List ByteArray) (y5 : List (Int × ByteArray)) => K [.lf (.ptr 0 0), .lf (.int .i64 0)] [some ⟨false, [.full 1, .full 2, .int .i64 (-1), .bool false, .int .i64 0]⟩, some ⟨false, [.seq .str 0 y4]⟩, some ⟨false, [.seq (.pair (.int .i64) .str) 0 y5]⟩])) noS)), (28, (mkS sh28_1 (fun d K => c28_1 d.1.1 (K [.lf (.nilp), .lf (.int .i64 2)] []) (fun (y4 : List ByteArray) (y5 : List (Int × ByteArray)) => K [.lf (.ptr 0 0), .lf (.int .i64 0)] [some ⟨false, [.full 1, .full 2, .int .i64 (-1), .bool false, .int .i64 0]⟩, some ⟨false, [.seq .str 0 y4]⟩, some ⟨false, [.seq (.pair (.int .i64) .str) 0 y5]⟩])) noS)), (29, (mkS sh29_1 (fun d K => c29_1 d.1.2.2.1.1 d.1.2.2.1.2.1 d.1.2.2.1.2.2.1 d.1.2.2.1.2.2.2.1 d.1.2.2.1.2.2.2.2.1 d.1.2.2.1.2.2.2.2.2.1 d.2.1.2.2.2.1 d.2.1.2.2.2.2.1 d.2.1.2.2.2.2.2.1 d.2.2.1.2.1 d.2.2.2.1.2.1 d.2.2.2.2.1.2.2.2.1 d.2.2.2.2.1.2.2.2.2.1 d.2.2.2.2.1.2.2.2.2.2.1 d.2.2.2.2.2.1.2.1 d.2.2.2.2.2.2.1.2.1 (fun (y0 : Bool) (y1 : Int) (y2 : Bool) (y3 : Int) (y6 : Int) (y7 : Bool) (y8 : Int) => K [.lf (.bool y0)] [some ⟨false, [.full 1, .full 2, .int .i64 y1, .bool y2, .int .i64 y3]⟩, some ⟨false, [.seq .str 0 d.2.2.1.2.1]⟩, some ⟨false, [.seq (.pair (.int .i64) .str) 0 d.2.2.2.1.2.1]⟩, some ⟨false, [.full 4, .full 5, .int .i64 y6, .bool y7, .int .i64 y8]⟩, some ⟨false, [.seq .str 0 d.2.2.2.2.2.1.2.1]⟩, some ⟨false, [.seq (.pair (.int .i64) .str) 0 d.2.2.2.2.2.2.1.2.1]⟩]) (fun (y0 : Bool) (y1 : Int) (y2 : Bool) (y3 : Int) (y6 : Int) (y7 : Bool) (y8 : Int) (y9 : List ByteArray) (y11 : List (Int × ByteArray)) => K [.lf (.bool y0)] [some ⟨false, [.full 1, .full 2, .int .i64 y1, .bool y2, .int .i64 y3]⟩, some ⟨false, [.seq .str 0 d.2.2.1.2.1]⟩, some ⟨false, [.seq (.pair (.int .i64) .str) 0 d.2.2.2.1.2.1]⟩, some ⟨false, [.full 4, .full 6, .int .i64 y6, .bool y7, .int .i64 y8]⟩, some ⟨false, [.seq .str 0 y9]⟩, some ⟨false, [.seq (.pair (.int .i64) .str) 0 d.2.2.2.2.2.2.1.2.1]⟩, some ⟨false, [.seq (.pair (.int .i64) .str) 0 y11]⟩]) (fun (y0 : Bool) (y1 : Int) (y2 : Bool) (y3 : Int) (y6 : Int) (y7 : Bool) (y8 : Int) (y9 : List ByteArray) (y10 : List (Int × ByteArray)) => K [.lf (.bool y0)] [some ⟨false, [.full 1, .full 2, .int .i64 y1, .bool y2, .int .i64 y3]⟩, some ⟨false, [.seq .str 0 d.2.2.1.2.1]⟩, some ⟨false, [.seq (.pair (.int .i64) .str) 0 d.2.2.2.1.2.1]⟩, some ⟨false, [.full 4, .full 6, .int .i64 y6, .bool y7, .int .i64 y8]⟩, some ⟨false, [.seq .str 0 y9]⟩, none, some ⟨false, [.seq (.pair (.int .i64) .str) 0 y10]⟩]) (fun (y0 : Bool) (y1 : Int) (y2 : Bool) (y3 : Int) (y4 : List ByteArray) (y6 : Int) (y7 : Bool) (y8 : Int) (y11 : List (Int × ByteArray)) => K [.lf (.bool y0)] [some ⟨false, [.full 1, .full 6, .int .i64 y1, .bool y2, .int .i64 y3]⟩, some ⟨false, [.seq .str 0 y4]⟩, some ⟨false, [.seq (.pair (.int .i64) .str) 0 d.2.2.2.1.2.1]⟩, some ⟨false, [.full 4, .full 5, .int .i64 y6, .bool y7, .int .i64 y8]⟩, some ⟨false, [.seq .str 0 d.2.2.2.2.2.1.2.1]⟩, some ⟨false, [.seq (.pair (.int .i64) .str) 0 d.2.2.2.2.2.2.1.2.1]⟩, some ⟨false, [.seq (.pair (.int .i64) .str) 0 y11]⟩]) (fun (y0 : Bool) (y1 : Int) (y2 : Bool) (y3 : Int) (y4 : List ByteArray) (y6 : Int) (y7 : Bool) (y8 : Int) (y9 : List ByteArray) (y11 : List (Int × ByteArray)) (y12 : List (Int × ByteArray)) => K [.lf (.bool y0)] [some ⟨false, [.full 1, .full 6, .int .i64 y1, .bool y2, .int .i64 y3]⟩, some ⟨false, [.seq .str 0 y4]⟩, some ⟨false, [.seq (.pair (.int .i64) .str) 0 d.2.2.2.1.2.1]⟩, some ⟨false, [.full 4, .full 7, .int .i64 y6, .bool y7, .int .i64 y8]⟩, some ⟨false, [.seq .str 0 y9]⟩, some ⟨false, [.seq (.pair (.int .i64) .str) 0 d.2.2.2.2.2.2.1.2.1]⟩, some ⟨false, [.seq (.pair (.int .i64) .str) 0 y11]⟩, some ⟨false, [.seq (.pair (.int .i64) .str) 0 y12]⟩]) (fun (y0 : Bool) (y1 : Int) (y2 : Bool) (y3 : Int) (y4 : List ByteArray) (y6 : Int) (y7 : Bool) (y8 : Int) (y9 : List ByteArray) (y10 : List (Int × ByteArray)) (y11 : List (Int × ByteArray)) => K [.lf (.bool y0)] [some ⟨false, [.full 1, .full 6, .int .i64 y1, .bool y2, .int .i64 y3]⟩, some ⟨false, [.seq .str 0 y4]⟩, some ⟨false, [.seq (.pair (.int .i64) .str) 0 d.2.2.2.1.2.1]⟩, some ⟨false, [.full 4, .full 7, .int .i64 y6, .bool y7, .int .i64 y8]⟩, some ⟨false, [.seq .str 0 y9]⟩, none, some ⟨false, [.seq (.pair (.int .i64) .str) 0 y10]⟩, some ⟨false, [.seq (.pair (.int .i64) .str) 0 y11]⟩]) (fun (y0 : Bool) (y1 : Int) (y2 : Bool) (y3 : Int) (y4 : List ByteArray) (y5 : Int) (y6 : Bool) (y7 : Int) (y10 : List (Int × ByteArray)) => K [.lf (.bool y0)] [some ⟨false, [.full 1, .full 6, .int .i64 y1, .bool y2, .int .i64 y3]⟩, some ⟨false, [.seq .str 0 y4]⟩, none, some ⟨false, [.full 4, .full 5, .int .i64 y5, .bool y6, .int .i64 y7]⟩, some ⟨false, [.seq .str 0 d.2.2.2.2.2.1.2.1]⟩, some ⟨false, [.seq (.pair (.int .i64) .str) 0 d.2.2.2.2.2.2.1.2.1]⟩, some ⟨false, [.seq (.pair (.int .i64) .str) 0 y10]⟩]) (fun (y0 : Bool) (y1 : Int) (y2 : Bool) (y3 : Int) (y4 : List ByteArray) (y5 : Int) (y6 : Bool) (y7 : Int) (y8 : List ByteArray) (y10 : List (Int × ByteArray)) (y11 : List (Int × ByteArray)) => K [.lf (.bool y0)] [some ⟨false, [.full 1, .full 6, .int .i64 y1, .bool y2, .int .i64 y3]⟩, some ⟨false, [.seq .str 0 y4]⟩, none, some ⟨false, [.full 4, .full 7, .int .i64 y5, .bool y6, .int .i64 y7]⟩, some ⟨false, [.seq .str 0 y8]⟩, some ⟨false, [.seq (.pair (.int .i64) .str) 0 d.2.2.2.2.2.2.1.2.1]⟩, some ⟨false, [.seq (.pair (.int .i64) .str) 0 y10]⟩, some ⟨false, [.seq (.pair (.int .i64) .str) 0 y11]⟩]) (fun (y0 : Bool) (y1 : Int) (y2 : Bool) (y3 : Int) (y4 : List ByteArray) (y5 : Int) (y6 : Bool) (y7 : Int) (y8 : List ByteArray) (y9 : List (Int × ByteArray)) (y10 : List (Int × ByteArray)) => K [.lf (.bool y0)] [some ⟨false, [.full 1, .full 6, .int .i64 y1, .bool y2, .int .i64 y3]⟩, some ⟨false, [.seq .str 0 y4]⟩, none, some ⟨false, [.full 4, .full 7, .int .i64 y5, .bool y6, .int .i64 y7]⟩, some ⟨false, [.seq .str 0 y8]⟩, none, some ⟨false, [.seq (.pair (.int .i64) .str) 0 y9]⟩, some ⟨false, [.seq (.pair (.int .i64) .str) 0 y10]⟩])) (mkS sh29_1787 (fun d K => c29_1787 d.1.2.2.1.1 d.1.2.2.1.2.1 d.1.2.2.1.2.2.1 d.1.2.2.1.2.2.2.1 d.1.2.2.1.2.2.2.2.1 d.1.2.2.1.2.2.2.2.2.1 d.2.1.2.2.2.1 d.2.1.2.2.2.2.1 d.2.1.2.2.2.2.2.1 d.2.2.1.2.1 d.2.2.2.1.2.1 (fun (y0 : Bool) (y1 : Int) (y2 : Bool) (y3 : Int) => K [.lf (.bool y0)] [some ⟨false, [.full 1, .full 2, .int .i64 y1, .bool y2, .int .i64 y3]⟩, some ⟨false, [.seq .str 0 d.2.2.1.2.1]⟩, some ⟨false, [.seq (.pair (.int .i64) .str) 0 d.2.2.2.1.2.1]⟩]) (fun (y0 : Bool) (y1 : Int) (y2 : Bool) (y3 : Int) (y4 : List ByteArray) (y6 : List (Int × ByteArray)) => K [.lf (.bool y0)] [some ⟨false, [.full 1, .full 3, .int .i64 y1, .bool y2, .int .i64 y3]⟩, some ⟨false, [.seq .str 0 y4]⟩, some ⟨false, [.seq (.pair (.int .i64) .str) 0 d.2.2.2.1.2.1]⟩, some ⟨false, [.seq (.pair (.int .i64) .str) 0 y6]⟩]) (fun (y0 : Bool) (y1 : Int) (y2 : Bool) (y3 : Int) (y4 : List ByteArray) (y5 : List (Int × ByteArray)) => K [.lf (.bool y0)] [some ⟨false, [.full 1, .full 3, .int .i64 y1, .bool y2, .int .i64 y3]⟩, some ⟨false, [.seq .str 0 y4]⟩, none, some ⟨false, [.seq (.pair (.int .i64) .str) 0 y5]⟩])) (mkS sh29_2194 (fun d K => c29_2194 d.1.2.2.1.1 d.1.2.2.1.2.1 d.1.2.2.1.2.2.1 d.1.2.2.1.2.2.2.1 d.1.2.2.1.2.2.2.2.1 d.1.2.2.1.2.2.2.2.2.1 (fun (y0 : Bool) => K [.lf (.bool y0)] [])) (mkS sh29_7288 (fun d K => c29_7288 d.1.2.2.1.1 d.1.2.2.1.2.1 d.1.2.2.1.2.2.1 d.1.2.2.1.2.2.2.1 d.1.2.2.1.2.2.2.2.1 d.1.2.2.1.2.2.2.2.2.1 d.2.1.2.2.2.1 d.2.1.2.2.2.2.1 d.2.1.2.2.2.2.2.1 d.2.2.1.2.1 d.2.2.2.1.2.1 (fun (y0 : Bool) (y1 : Int) (y2 : Bool) (y3 : Int) => K [.lf (.bool y0)] [some ⟨false, [.full 1, .full 2, .int .i64 y1, .bool y2, .int .i64 y3]⟩, some ⟨false, [.seq .str 0 d.2.2.1.2.1]⟩, some ⟨false, [.seq (.pair (.int .i64) .str) 0 d.2.2.2.1.2.1]⟩]) (fun (y0 : Bool) (y1 : Int) (y2 : Bool) (y3 : Int) (y4 : List ByteArray) (y6 : List (Int × ByteArray)) => K [.lf (.bool y0)] [some ⟨false, [.full 1, .full 3, .int .i64 y1, .bool y2, .int .i64 y3]⟩, some ⟨false, [.seq .str 0 y4]⟩, some ⟨false, [.seq (.pair (.int .i64) .str) 0 d.2.2.2.1.2.1]⟩, some ⟨false, [.seq (.pair (.int .i64) .str) 0 y6]⟩]) (fun (y0 : Bool) (y1 : Int) (y2 : Bool) (y3 : Int) (y4 : List ByteArray) (y5 : List (Int × ByteArray)) => K [.lf (.bool y0)] [some ⟨false, [.full 1, .full 3, .int .i64 y1, .bool y2, .int .i64 y3]⟩, some ⟨false, [.seq .str 0 y4]⟩, none, some ⟨false, [.seq (.pair (.int .i64) .str) 0 y5]⟩])) noS))))), (30, (mkS sh30_1 (fun d K => c30_1 d.1.2.1 d.2.1.2.2.2.1 d.2.1.2.2.2.2.1 d.2.1.2.2.2.2.2.1 d.2.2.1.2.1 d.2.2.2.1.2.1 (fun (y0 : ByteArray) (y1 : Int) => K [.lf (.str y0), .lf (.int .i64 y1)] [some ⟨d.2.1.1, [.full 1, .full 2, .int .i64 d.2.1.2.2.2.1, .bool d.2.1.2.2.2.2.1, .int .i64 d.2.1.2.2.2.2.2.1]⟩, some ⟨d.2.2.1.1, [.seq .str 0 d.2.2.1.2.1]⟩, some ⟨d.2.2.2.1.1, [.seq (.pair (.int .i64) .str) 0 d.2.2.2.1.2.1]⟩])) (mkS sh30_6206 (fun d K => c30_6206 d.1.2.1 (K [.lf (.str ByteArray.empty), .lf (.int .i64 1)] [])) noS))), (31, (mkS sh31_1 (fun d K => c31_1 d.1.2.1 d.2.1.2.2.2.1 d.2.1.2.2.2.2.1 d.2.1.2.2.2.2.2.1 d.2.2.1.2.1 d.2.2.2.1.2.1 (fun (y0 : ByteArray) (y1 : Int) => K [.lf (.str y0), .lf (.int .i64 y1)] [some ⟨d.2.1.1, [.full 1, .full 2, .int .i64 d.2.1.2.2.2.1, .bool d.2.1.2.2.2.2.1, .int .i64 d.2.1.2.2.2.2.2.1]⟩, some ⟨d.2.2.1.1, [.seq .str 0 d.2.2.1.2.1]⟩, some ⟨d.2.2.2.1.1, [.seq (.pair (.int .i64) .str) 0 d.2.2.2.1.2.1]⟩])) (mkS sh31_6206 (fun d K => c31_6206 d.1.2.1 (K [.lf (.str ByteArray.empty), .lf (.int .i64 3)] [])) noS))), (32, (mkS sh32_1 (fun d K => c32_1 d.2.1.2.2.2.1 d.2.1.2.2.2.2.1 d.2.1.2.2.2.2.2.1 d.2.2.1.2.1 d.2.2.2.1.2.1 (K [.lf (.int .i64 d.2.1.2.2.2.2.2.1)] [some ⟨d.2.1.1, [.full 1, .full 2, .int .i64 d.2.1.2.2.2.1, .bool d.2.1.2.2.2.2.1, .int .i64 d.2.1.2.2.2.2.2.1]⟩, some ⟨d.2.2.1.1, [.seq .str 0 d.2.2.1.2.1]⟩, some ⟨d.2.2.2.1.1, [.seq (.pair (.int .i64) .str) 0 d.2.2.2.1.2.1]⟩])) (mkS sh32_568 (fun d K => c32_568 (K [.lf (.int .i64 0)] [])) noS)))]) (xw []) 81 1 (ltab [(4, X4), (11, X11)]) (orG sh8_1_l11 (fun d K => l11 d.1.2.2.1 d.2.1.2.1 (K .ret [.tv (.lf (.bool false))] [some ⟨d.2.1.1, [.seq (.pair (.int .i64) (.pair (.int .i64) (.pair (.int .i64) (.pair (.int .u64) (.pair .str (.sl .bool)))))) 0 d.2.1.2.1]⟩]) (K (.exit 2) [.tv (.lf (.nilp)), .tv (.lf (.nilp))] [some ⟨d.2.1.1, [.seq (.pair (.int .i64) (.pair (.int .i64) (.pair (.int .i64) (.pair (.int .u64) (.pair .str (.sl .bool)))))) 0 d.2.1.2.1]⟩]) k) (orG sh8_1_l11_2 (fun d K => l11_2 d.2.1.2.1 d.2.2.1.2.2.2.1 d.2.2.1.2.2.2.2.1 d.2.2.1.2.2.2.2.2.1 d.2.2.2.1.2.1 d.2.2.2.2.1.2.1 (K .ret [.tv (.lf (.bool false))] [some ⟨d.2.1.1, [.seq (.pair (.int .i64) (.pair (.int .i64) (.pair (.int .i64) (.pair (.int .u64) (.pair .str (.sl .bool)))))) 0 d.2.1.2.1]⟩, some ⟨false, [.full 2, .full 3, .int .i64 d.2.2.1.2.2.2.1, .bool d.2.2.1.2.2.2.2.1, .int .i64 d.2.2.1.2.2.2.2.2.1]⟩, some ⟨false, [.seq .str 0 d.2.2.2.1.2.1]⟩, some ⟨false, [.seq (.pair (.int .i64) .str) 0 d.2.2.2.2.1.2.1]⟩]) (K (.exit 2) [.tv (.lf (.nilp)), .tv (.lf (.ptr 1 0))] [some ⟨d.2.1.1, [.seq (.pair (.int .i64) (.pair (.int .i64) (.pair (.int .i64) (.pair (.int .u64) (.pair .str (.sl .bool)))))) 0 d.2.1.2.1]⟩, some ⟨false, [.full 2, .full 3, .int .i64 d.2.2.1.2.2.2.1, .bool d.2.2.1.2.2.2.2.1, .int .i64 d.2.2.1.2.2.2.2.2.1]⟩, some ⟨false, [.seq .str 0 d.2.2.2.1.2.1]⟩, some ⟨false, [.seq (.pair (.int .i64) .str) 0 d.2.2.2.2.1.2.1]⟩]) k d.1.2.2.1) (orG sh8_1_l11_3 (fun d K => l11_3 d.2.1.2.1 d.2.2.1.2.2.2.1 d.2.2.1.2.2.2.2.1 d.2.2.1.2.2.2.2.2.1 d.2.2.2.1.2.1 d.2.2.2.2.1.2.1 (K .ret [.tv (.lf (.bool false))] [some ⟨d.2.1.1, [.seq (.pair (.int .i64) (.pair (.int .i64) (.pair (.int .i64) (.pair (.int .u64) (.pair .str (.sl .bool)))))) 0 d.2.1.2.1]⟩, some ⟨false, [.full 2, .full 3, .int .i64 d.2.2.1.2.2.2.1, .bool d.2.2.1.2.2.2.2.1, .int .i64 d.2.2.1.2.2.2.2.2.1]⟩, some ⟨false, [.seq .str 0 d.2.2.2.1.2.1]⟩, some ⟨false, [.seq (.pair (.int .i64) .str) 0 d.2.2.2.2.1.2.1]⟩]) (K (.exit 2) [.tv (.lf (.ptr 1 0)), .tv (.lf (.nilp))] [some ⟨d.2.1.1, [.seq (.pair (.int .i64) (.pair (.int .i64) (.pair (.int .i64) (.pair (.int .u64) (.pair .str (.sl .bool)))))) 0 d.2.1.2.1]⟩, some ⟨false, [.full 2, .full 3, .int .i64 d.2.2.1.2.2.2.1, .bool d.2.2.1.2.2.2.2.1, .int .i64 d.2.2.1.2.2.2.2.2.1]⟩, some ⟨false, [.seq .str 0 d.2.2.2.1.2.1]⟩, some ⟨false, [.seq (.pair (.int .i64) .str) 0 d.2.2.2.2.1.2.1]⟩]) k d.1.2.2.1) (mkG sh8_1_l11_4 [3, 5, 8] (outT [(.exit 2, [3, 5]), (.ret, [2])]) (fun d K => l11_4 d.2.1.2.1 d.2.2.1.2.2.2.1 d.2.2.1.2.2.2.2.1 d.2.2.1.2.2.2.2.2.1 d.2.2.2.1.2.1 d.2.2.2.2.1.2.1 d.2.2.2.2.2.1.2.2.2.1 d.2.2.2.2.2.1.2.2.2.2.1 d.2.2.2.2.2.1.2.2.2.2.2.1 d.2.2.2.2.2.2.1.2.1 d.2.2.2.2.2.2.2.1.2.1 (K .ret [.tv (.lf (.bool false))] [some ⟨d.2.1.1, [.seq (.pair (.int .i64) (.pair (.int .i64) (.pair (.int .i64) (.pair (.int .u64) (.pair .str (.sl .bool)))))) 0 d.2.1.2.1]⟩, some ⟨false, [.full 2, .full 3, .int .i64 d.2.2.1.2.2.2.1, .bool d.2.2.1.2.2.2.2.1, .int .i64 d.2.2.1.2.2.2.2.2.1]⟩, some ⟨false, [.seq .str 0 d.2.2.2.1.2.1]⟩, some ⟨false, [.seq (.pair (.int .i64) .str) 0 d.2.2.2.2.1.2.1]⟩, some ⟨false, [.full 5, .full 6, .int .i64 d.2.2.2.2.2.1.2.2.2.1, .bool d.2.2.2.2.2.1.2.2.2.2.1, .int .i64 d.2.2.2.2.2.1.2.2.2.2.2.1]⟩, some ⟨false, [.seq .str 0 d.2.2.2.2.2.2.1.2.1]⟩, some ⟨false, [.seq (.pair (.int .i64) .str) 0 d.2.2.2.2.2.2.2.1.2.1]⟩]) (K (.exit 2) [.tv (.lf (.ptr 1 0)), .tv (.lf (.ptr 4 0))] [some ⟨d.2.1.1, [.seq (.pair (.int .i64) (.pair (.int .i64) (.pair (.int .i64) (.pair (.int .u64) (.pair .str (.sl .bool)))))) 0 d.2.1.2.1]⟩, some ⟨false, [.full 2, .full 3, .int .i64 d.2.2.1.2.2.2.1, .bool d.2.2.1.2.2.2.2.1, .int .i64 d.2.2.1.2.2.2.2.2.1]⟩, some ⟨false, [.seq .str 0 d.2.2.2.1.2.1]⟩, some ⟨false, [.seq (.pair (.int .i64) .str) 0 d.2.2.2.2.1.2.1]⟩, some ⟨false, [.full 5, .full 6, .int .i64 d.2.2.2.2.2.1.2.2.2.1, .bool d.2.2.2.2.2.1.2.2.2.2.1, .int .i64 d.2.2.2.2.2.1.2.2.2.2.2.1]⟩, some ⟨false, [.seq .str 0 d.2.2.2.2.2.2.1.2.1]⟩, some ⟨false, [.seq (.pair (.int .i64) .str) 0 d.2.2.2.2.2.2.2.1.2.1]⟩]) k d.1.2.2.1) [])))) b8_1 (encT sh8_1_l11_4.vs d.1) (encH sh8_1_l11_4.h d.2) K := by kernel_rfl
theorem L8_1_11 (F : Nat) : LoopOK Tryd.prog (T8_1 F) (xw []) 81 1 (LT8_1 F) (G8_1_11 F F) b8_1 :=
  loopOK_vers (G8_1_11 F) F (fun k => ⟨rfl, rfl⟩) (verOK_cons (s := sh8_1_l11) (all := (G8_1_11 F)) (fun k d K => f8_1_l11 F d.1.2.2.1 d.2.1.2.1 (K .ret [.tv (.lf (.bool false))] [some ⟨d.2.1.1, [.seq (.pair (.int .i64) (.pair (.int .i64) (.pair (.int .i64) (.pair (.int .u64) (.pair .str (.sl .bool)))))) 0 d.2.1.2.1]⟩]) (K (.exit 2) [.tv (.lf (.nilp)), .tv (.lf (.nilp))] [some ⟨d.2.1.1, [.seq (.pair (.int .i64) (.pair (.int .i64) (.pair (.int .i64) (.pair (.int .u64) (.pair .str (.sl .bool)))))) 0 d.2.1.2.1]⟩]) k) (fun d K => by kernel_rfl) (fun k d K => Eq.mp (by kernel_rfl) (L8_1_l11g F k (f21_1 F) (f22_1 F) (f28_1 F) (f29_1 F) (f29_1787 F) (f29_2194 F) (f29_7288 F) (f30_1 F) (f30_6206 F) (f31_1 F) (f31_6206 F) (f32_1 F) (f32_568 F)  (f8_1_l11 F) (f8_1_l11_2 F) (f8_1_l11_3 F) (f8_1_l11_4 F) (G8_1_4 F F) (G8_1_11 F F) d K)) (verOK_cons (s := sh8_1_l11_2) (all := (G8_1_11 F)) (fun k d K => f8_1_l11_2 F d.2.1.2.1 d.2.2.1.2.2.2.1 d.2.2.1.2.2.2.2.1 d.2.2.1.2.2.2.2.2.1 d.2.2.2.1.2.1 d.2.2.2.2.1.2.1 (K .ret [.tv (.lf (.bool false))] [some ⟨d.2.1.1, [.seq (.pair (.int .i64) (.pair (.int .i64) (.pair (.int .i64) (.pair (.int .u64) (.pair .str (.sl .bool)))))) 0 d.2.1.2.1]⟩, some ⟨false, [.full 2, .full 3, .int .i64 d.2.2.1.2.2.2.1, .bool d.2.2.1.2.2.2.2.1, .int .i64 d.2.2.1.2.2.2.2.2.1]⟩, some ⟨false, [.seq .str 0 d.2.2.2.1.2.1]⟩, some ⟨false, [.seq (.pair (.int .i64) .str) 0 d.2.2.2.2.1.2.1]⟩]) (K (.exit 2) [.tv (.lf (.nilp)), .tv (.lf (.ptr 1 0))] [some ⟨d.2.1.1, [.seq (.pair (.int .i64) (.pair (.int .i64) (.pair (.int .i64) (.pair (.int .u64) (.pair .str (.sl .bool)))))) 0 d.2.1.2.1]⟩, some ⟨false, [.full 2, .full 3, .int .i64 d.2.2.1.2.2.2.1, .bool d.2.2.1.2.2.2.2.1, .int .i64 d.2.2.1.2.2.2.2.2.1]⟩, some ⟨false, [.seq .str 0 d.2.2.2.1.2.1]⟩, some ⟨false, [.seq (.pair (.int .i64) .str) 0 d.2.2.2.2.1.2.1]⟩]) k d.1.2.2.1) (fun d K => by kernel_rfl) (fun k d K => Eq.mp (by kernel_rfl) (L8_1_l11_2g F k (f21_1 F) (f22_1 F) (f28_1 F) (f29_1 F) (f29_1787 F) (f29_2194 F) (f29_7288 F) (f30_1 F) (f30_6206 F) (f31_1 F) (f31_6206 F) (f32_1 F) (f32_568 F)  (f8_1_l11 F) (f8_1_l11_2 F) (f8_1_l11_3 F) (f8_1_l11_4 F) (G8_1_4 F F) (G8_1_11 F F) d K)) (verOK_cons (s := sh8_1_l11_3) (all := (G8_1_11 F)) (fun k d K => f8_1_l11_3 F d.2.1.2.1 d.2.2.1.2.2.2.1 d.2.2.1.2.2.2.2.1 d.2.2.1.2.2.2.2.2.1 d.2.2.2.1.2.1 d.2.2.2.2.1.2.1 (K .ret [.tv (.lf (.bool false))] [some ⟨d.2.1.1, [.seq (.pair (.int .i64) (.pair (.int .i64) (.pair (.int .i64) (.pair (.int .u64) (.pair .str (.sl .bool)))))) 0 d.2.1.2.1]⟩, some ⟨false, [.full 2, .full 3, .int .i64 d.2.2.1.2.2.2.1, .bool d.2.2.1.2.2.2.2.1, .int .i64 d.2.2.1.2.2.2.2.2.1]⟩, some ⟨false, [.seq .str 0 d.2.2.2.1.2.1]⟩, some ⟨false, [.seq (.pair (.int .i64) .str) 0 d.2.2.2.2.1.2.1]⟩]) (K (.exit 2) [.tv (.lf (.ptr 1 0)), .tv (.lf (.nilp))] [some ⟨d.2.1.1, [.seq (.pair (.int .i64) (.pair (.int .i64) (.pair (.int .i64) (.pair (.int .u64) (.pair .str (.sl .bool)))))) 0 d.2.1.2.1]⟩, some ⟨false, [.full 2, .full 3, .int .i64 d.2.2.1.2.2.2.1, .bool d.2.2.1.2.2.2.2.1, .int .i64 d.2.2.1.2.2.2.2.2.1]⟩, some ⟨false, [.seq .str 0 d.2.2.2.1.2.1]⟩, some ⟨false, [.seq (.pair (.int .i64) .str) 0 d.2.2.2.2.1.2.1]⟩]) k d.1.2.2.1) (fun d K => by kernel_rfl) (fun k d K => Eq.mp (by kernel_rfl) (L8_1_l11_3g F k (f21_1 F) (f22_1 F) (f28_1 F) (f29_1 F) (f29_1787 F) (f29_2194 F) (f29_7288 F) (f30_1 F) (f30_6206 F) (f31_1 F) (f31_6206 F) (f32_1 F) (f32_568 F)  (f8_1_l11 F) (f8_1_l11_2 F) (f8_1_l11_3 F) (f8_1_l11_4 F) (G8_1_4 F F) (G8_1_11 F F) d K)) (verOK_last (s := sh8_1_l11_4) (live := [3, 5, 8]) (out := (outT [(.exit 2, [3, 5]), (.ret, [2])])) (mv := []) (all := (G8_1_11 F)) (fun k d K => f8_1_l11_4 F d.2.1.2.1 d.2.2.1.2.2.2.1 d.2.2.1.2.2.2.2.1 d.2.2.1.2.2.2.2.2.1 d.2.2.2.1.2.1 d.2.2.2.2.1.2.1 d.2.2.2.2.2.1.2.2.2.1 d.2.2.2.2.2.1.2.2.2.2.1 d.2.2.2.2.2.1.2.2.2.2.2.1 d.2.2.2.2.2.2.1.2.1 d.2.2.2.2.2.2.2.1.2.1 (K .ret [.tv (.lf (.bool false))] [some ⟨d.2.1.1, [.seq (.pair (.int .i64) (.pair (.int .i64) (.pair (.int .i64) (.pair (.int .u64) (.pair .str (.sl .bool)))))) 0 d.2.1.2.1]⟩, some ⟨false, [.full 2, .full 3, .int .i64 d.2.2.1.2.2.2.1, .bool d.2.2.1.2.2.2.2.1, .int .i64 d.2.2.1.2.2.2.2.2.1]⟩, some ⟨false, [.seq .str 0 d.2.2.2.1.2.1]⟩, some ⟨false, [.seq (.pair (.int .i64) .str) 0 d.2.2.2.2.1.2.1]⟩, some ⟨false, [.full 5, .full 6, .int .i64 d.2.2.2.2.2.1.2.2.2.1, .bool d.2.2.2.2.2.1.2.2.2.2.1, .int .i64 d.2.2.2.2.2.1.2.2.2.2.2.1]⟩, some ⟨false, [.seq .str 0 d.2.2.2.2.2.2.1.2.1]⟩, some ⟨false, [.seq (.pair (.int .i64) .str) 0 d.2.2.2.2.2.2.2.1.2.1]⟩]) (K (.exit 2) [.tv (.lf (.ptr 1 0)), .tv (.lf (.ptr 4 0))] [some ⟨d.2.1.1, [.seq (.pair (.int .i64) (.pair (.int .i64) (.pair (.int .i64) (.pair (.int .u64) (.pair .str (.sl .bool)))))) 0 d.2.1.2.1]⟩, some ⟨false, [.full 2, .full 3, .int .i64 d.2.2.1.2.2.2.1, .bool d.2.2.1.2.2.2.2.1, .int .i64 d.2.2.1.2.2.2.2.2.1]⟩, some ⟨false, [.seq .str 0 d.2.2.2.1.2.1]⟩, some ⟨false, [.seq (.pair (.int .i64) .str) 0 d.2.2.2.2.1.2.1]⟩, some ⟨false, [.full 5, .full 6, .int .i64 d.2.2.2.2.2.1.2.2.2.1, .bool d.2.2.2.2.2.1.2.2.2.2.1, .int .i64 d.2.2.2.2.2.1.2.2.2.2.2.1]⟩, some ⟨false, [.seq .str 0 d.2.2.2.2.2.2.1.2.1]⟩, some ⟨false, [.seq (.pair (.int .i64) .str) 0 d.2.2.2.2.2.2.2.1.2.1]⟩]) k d.1.2.2.1) (fun d K => by kernel_rfl) (fun k d K => Eq.mp (by kernel_rfl) (L8_1_l11_4g F k (f21_1 F) (f22_1 F) (f28_1 F) (f29_1 F) (f29_1787 F) (f29_2194 F) (f29_7288 F) (f30_1 F) (f30_6206 F) (f31_1 F) (f31_6206 F) (f32_1 F) (f32_568 F)  (f8_1_l11 F) (f8_1_l11_2 F) (f8_1_l11_3 F) (f8_1_l11_4 F) (G8_1_4 F F) (G8_1_11 F F) d K))))))
theorem E8_1g (F : Nat) (c21_1 : (Bool → Option Res) → Option Res) (c22_1 : Int → (Option Res) → (List ByteArray → List (Int × ByteArray) → Option Res) → Option Res) (c28_1 : Int → (Option Res) → (List ByteArray → List (Int × ByteArray) → Option Res) → Option Res) (c29_1 : Int → Int → Int → Int → ByteArray → Sl .bool → Int → Bool → Int → List ByteArray → List (Int × ByteArray) → Int → Bool → Int → List ByteArray → List (Int × ByteArray) → (Bool → Int → Bool → Int → Int → Bool → Int → Option Res) → (Bool → Int → Bool → Int → Int → Bool → Int → List ByteArray → List (Int × ByteArray) → Option Res) → (Bool → Int → Bool → Int → Int → Bool → Int → List ByteArray → List (Int × ByteArray) → Option Res) → (Bool → Int → Bool → Int → List ByteArray → Int → Bool → Int → List (Int × ByteArray) → Option Res) → (Bool → Int → Bool → Int → List ByteArray → Int → Bool → Int → List ByteArray → List (Int × ByteArray) → List (Int × ByteArray) → Option Res) → (Bool → Int → Bool → Int → List ByteArray → Int → Bool → Int → List ByteArray → List (Int × ByteArray) → List (Int × ByteArray) → Option Res) → (Bool → Int → Bool → Int → List ByteArray → Int → Bool → Int → List (Int × ByteArray) → Option Res) → (Bool → Int → Bool → Int → List ByteArray → Int → Bool → Int → List ByteArray → List (Int × ByteArray) → List (Int × ByteArray) → Option Res) → (Bool → Int → Bool → Int → List ByteArray → Int → Bool → Int → List ByteArray → List (Int × ByteArray) → List (Int × ByteArray) → Option Res) → Option Res) (c29_1787 : Int → Int → Int → Int → ByteArray → Sl .bool → Int → Bool → Int → List ByteArray → List (Int × ByteArray) → (Bool → Int → Bool → Int → Option Res) → (Bool → Int → Bool → Int → List ByteArray → List (Int × ByteArray) → Option Res) → (Bool → Int → Bool → Int → List ByteArray → List (Int × ByteArray) → Option Res) → Option Res) (c29_2194 : Int → Int → Int → Int → ByteArray → Sl .bool → (Bool → Option Res) → Option Res) (c29_7288 : Int → Int → Int → Int → ByteArray → Sl .bool → Int → Bool → Int → List ByteArray → List (Int × ByteArray) → (Bool → Int → Bool → Int → Option Res) → (Bool → Int → Bool → Int → List ByteArray → List (Int × ByteArray) → Option Res) → (Bool → Int → Bool → Int → List ByteArray → List (Int × ByteArray) → Option Res) → Option Res) (c30_1 : Int → Int → Bool → Int → List ByteArray → List (Int × ByteArray) → (ByteArray → Int → Option Res) → Option Res) (c30_6206 : Int → (Option Res) → Option Res) (c31_1 : Int → Int → Bool → Int → List ByteArray → List (Int × ByteArray) → (ByteArray → Int → Option Res) → Option Res) (c31_6206 : Int → (Option Res) → Option Res) (c32_1 : Int → Bool → Int → List ByteArray → List (Int × ByteArray) → (Option Res) → Option Res) (c32_568 : (Option Res) → Option Res) (l4 : List (Int × (Int × (Int × (Int × (ByteArray × (Sl .bool)))))) → (Bool → Option Res) → (Option Res) → Nat → Int → Option Res) (l4_2 : List (Int × (Int × (Int × (Int × (ByteArray × (Sl .bool)))))) → (Bool → Int → Bool → Int → List ByteArray → List (Int × ByteArray) → Option Res) → (Int → Bool → Int → List ByteArray → List (Int × ByteArray) → List (Int × ByteArray) → Option Res) → (Int → Bool → Int → List ByteArray → List (Int × ByteArray) → Option Res) → (Int → Bool → Int → List ByteArray → List (Int × ByteArray) → Option Res) → Nat → Int → Int → Bool → Int → List ByteArray → List (Int × ByteArray) → Option Res) (l4_3 : List (Int × (Int × (Int × (Int × (ByteArray × (Sl .bool)))))) → (Bool → Int → Bool → Int → List ByteArray → List (Int × ByteArray) → Option Res) → (Int → Bool → Int → List ByteArray → List (Int × ByteArray) → List (Int × ByteArray) → Option Res) → (Int → Bool → Int → List ByteArray → List (Int × ByteArray) → Option Res) → (Int → Bool → Int → List ByteArray → List (Int × ByteArray) → Option Res) → Nat → Int → Int → Bool → Int → List ByteArray → List (Int × ByteArray) → Option Res) (l4_4 : List (Int × (Int × (Int × (Int × (ByteArray × (Sl .bool)))))) → (Bool → Int → Bool → Int → List ByteArray → List (Int × ByteArray) → Int → Bool → Int → List ByteArray → List (Int × ByteArray) → Option Res) → (Int → Bool → Int → List ByteArray → List (Int × ByteArray) → Int → Bool → Int → List ByteArray → List (Int × ByteArray) → List (Int × ByteArray) → Option Res) → (Int → Bool → Int → List ByteArray → List (Int × ByteArray) → Int → Bool → Int → List ByteArray → List (Int × ByteArray) → Option Res) → (Int → Bool → Int → List ByteArray → List (Int × ByteArray) → Int → Bool → Int → List ByteArray → List (Int × ByteArray) → List (Int × ByteArray) → Option Res) → (Int → Bool → Int → List ByteArray → List (Int × ByteArray) → Int → Bool → Int → List ByteArray → List (Int × ByteArray) → List (Int × ByteArray) → List (Int × ByteArray) → Option Res) → (Int → Bool → Int → List ByteArray → List (Int × ByteArray) → Int → Bool → Int → List ByteArray → List (Int × ByteArray) → List (Int × ByteArray) → Option Res) → (Int → Bool → Int → List ByteArray → Int → Bool → Int → List ByteArray → List (Int × ByteArray) → List (Int × ByteArray) → Option Res) → (Int → Bool → Int → List ByteArray → Int → Bool → Int → List ByteArray → List (Int × ByteArray) → List (Int × ByteArray) → List (Int × ByteArray) → Option Res) → (Int → Bool → Int → List ByteArray → Int → Bool → Int → List ByteArray → List (Int × ByteArray) → List (Int × ByteArray) → Option Res) → (Int → Bool → Int → List ByteArray → List (Int × ByteArray) → Int → Bool → Int → List ByteArray → List (Int × ByteArray) → Option Res) → Nat → Int → Int → Bool → Int → List ByteArray → List (Int × ByteArray) → Int → Bool → Int → List ByteArray → List (Int × ByteArray) → Option Res) (l11 : Int → List (Int × (Int × (Int × (Int × (ByteArray × (Sl .bool)))))) → (Option Res) → (Option Res) → Nat → Option Res) (l11_2 : List (Int × (Int × (Int × (Int × (ByteArray × (Sl .bool)))))) → Int → Bool → Int → List ByteArray → List (Int × ByteArray) → (Option Res) → (Option Res) → Nat → Int → Option Res) (l11_3 : List (Int × (Int × (Int × (Int × (ByteArray × (Sl .bool)))))) → Int → Bool → Int → List ByteArray → List (Int × ByteArray) → (Option Res) → (Option Res) → Nat → Int → Option Res) (l11_4 : List (Int × (Int × (Int × (Int × (ByteArray × (Sl .bool)))))) → Int → Bool → Int → List ByteArray → List (Int × ByteArray) → Int → Bool → Int → List ByteArray → List (Int × ByteArray) → (Option Res) → (Option Res) → Nat → Int → Option Res)  (d : sh8_1.den) (K : KF) : evBody Tryd.prog (tab [(21, (mkS sh21_1 (fun d K => c21_1 (fun (y0 : Bool) => K [.lf (.bool y0)] [])) noS)), (22, (mkS sh22_1 (fun d K => c22_1 d.1.1 (K [.lf (.nilp), .lf (.int .i64 2)] []) (fun (y4 : List ByteArray) (y5 : List (Int × ByteArray)) => K [.lf (.ptr 0 0), .lf (.int .i64 0)] [some ⟨false, [.full 1, .full 2, .int .i64 (-1), .bool false, .int .i64 0]⟩, some ⟨false, [.seq .str 0 y4]⟩, some ⟨false, [.seq (.pair (.int .i64) .str) 0 y5]⟩])) noS)), (28, (mkS sh28_1 (fun d K => c28_1 d.1.1 (K [.lf (.nilp), .lf (.int .i64 2)] []) (fun (y4 : List ByteArray) (y5 : List (Int × ByteArray)) => K [.lf (.ptr 0 0), .lf (.int .i64 0)] [some ⟨false, [.full 1, .full 2, .int .i64 (-1), .bool false, .int .i64 0]⟩, some ⟨false, [.seq .str 0 y4]⟩, some ⟨false, [.seq (.pair (.int .i64) .str) 0 y5]⟩])) noS)), (29, (mkS sh29_1 (fun d K => c29_1 d.1.2.2.1.1 d.1.2.2.1.2.1 d.1.2.2.1.2.2.1 d.1.2.2.1.2.2.2.1 d.1.2.2.1.2.2.2.2.1 d.1.2.2.1.2.2.2.2.2.1 d.2.1.2.2.2.1 d.2.1.2.2.2.2.1 d.2.1.2.2.2.2.2.1 d.2.2.1.2.1 d.2.2.2.1.2.1 d.2.2.2.2.1.2.2.2.1 d.2.2.2.2.1.2.2.2.2.1 d.2.2.2.2.1.2.2.2.2.2.1 d.2.2.2.2.2.1.2.1 d.2.2.2.2.2.2.1.2.1 (fun (y0 : Bool) (y1 : Int) (y2 : Bool) (y3 : Int) (y6 : Int) (y7 : Bool) (y8 : Int) => K [.lf (.bool y0)] [some ⟨false, [.full 1, .full 2, .int .i64 y1, .bool y2, .int .i64 y3]⟩, some ⟨false, [.seq .str 0 d.2.2.1.2.1]⟩, some ⟨false, [.seq (.pair (.int .i64) .str) 0 d.2.2.2.1.2.1]⟩, some ⟨false, [.full 4, .full 5, .int .i64 y6, .bool y7, .int .i64 y8]⟩, some ⟨false, [.seq .str 0 d.2.2.2.2.2.1.2.1]⟩, some ⟨false, [.seq (.pair (.int .i64) .str) 0 d.2.2.2.2.2.2.1.2.1]⟩]) (fun (y0 : Bool) (y1 : Int) (y2 : Bool) (y3 : Int) (y6 : Int) (y7 : Bool) (y8 : Int) (y9 : List ByteArray) (y11 : List (Int × ByteArray)) => K [.lf (.bool y0)] [some ⟨false, [.full 1, .full 2, .int .i64 y1, .bool y2, .int .i64 y3]⟩, some ⟨false, [.seq .str 0 d.2.2.1.2.1]⟩, some ⟨false, [.seq (.pair (.int .i64) .str) 0 d.2.2.2.1.2.1]⟩, some ⟨false, [.full 4, .full 6, .int .i64 y6, .bool y7, .int .i64 y8]⟩, some ⟨false, [.seq .str 0 y9]⟩, some ⟨false, [.seq (.pair (.int .i64) .str) 0 d.2.2.2.2.2.2.1.2.1]⟩, some ⟨false, [.seq (.pair (.int .i64) .str) 0 y11]⟩]) (fun (y0 : Bool) (y1 : Int) (y2 : Bool) (y3 : Int) (y6 : Int) (y7 : Bool) (y8 : Int) (y9 : List ByteArray) (y10 : List (Int × ByteArray)) => K [.lf (.bool y0)] [some ⟨false, [.full 1, .full 2, .int .i64 y1, .bool y2, .int .i64 y3]⟩, some ⟨false, [.seq .str 0 d.2.2.1.2.1]⟩, some ⟨false, [.seq (.pair (.int .i64) .str) 0 d.2.2.2.1.2.1]⟩, some ⟨false, [.full 4, .full 6, .int .i64 y6, .bool y7, .int .i64 y8]⟩, some ⟨false, [.seq .str 0 y9]⟩, none, some ⟨false, [.seq (.pair (.int .i64) .str) 0 y10]⟩]) (fun (y0 : Bool) (y1 : Int) (y2 : Bool) (y3 : Int) (y4 : List ByteArray) (y6 : Int) (y7 : Bool) (y8 : Int) (y11 : List (Int × ByteArray)) => K [.lf (.bool y0)] [some ⟨false, [.full 1, .full 6, .int .i64 y1, .bool y2, .int .i64 y3]⟩, some ⟨false, [.seq .str 0 y4]⟩, some ⟨false, [.seq (.pair (.int .i64) .str) 0 d.2.2.2.1.2.1]⟩, some ⟨false, [.full 4, .full 5, .int .i64 y6, .bool y7, .int .i64 y8]⟩, some ⟨false, [.seq .str 0 d.2.2.2.2.2.1.2.1]⟩, some ⟨false, [.seq (.pair (.int .i64) .str) 0 d.2.2.2.2.2.2.1.2.1]⟩, some ⟨false, [.seq (.pair (.int .i64) .str) 0 y11]⟩]) (fun (y0 : Bool) (y1 : Int) (y2 : Bool) (y3 : Int) (y4 : List ByteArray) (y6 : Int) (y7 : Bool) (y8 : Int) (y9 : List ByteArray) (y11 : List (Int × ByteArray)) (y12 : List (Int × ByteArray)) => K [.lf (.bool y0)] [some ⟨false, [.full 1, .full 6, .int .i64 y1, .bool y2, .int .i64 y3]⟩, some ⟨false, [.seq .str 0 y4]⟩, some ⟨false, [.seq (.pair (.int .i64) .str) 0 d.2.2.2.1.2.1]⟩, some ⟨false, [.full 4, .full 7, .int .i64 y6, .bool y7, .int .i64 y8]⟩, some ⟨false, [.seq .str 0 y9]⟩, some ⟨false, [.seq (.pair (.int .i64) .str) 0 d.2.2.2.2.2.2.1.2.1]⟩, some ⟨false, [.seq (.pair (.int .i64) .str) 0 y11]⟩, some ⟨false, [.seq (.pair (.int .i64) .str) 0 y12]⟩]) (fun (y0 : Bool) (y1 : Int) (y2 : Bool) (y3 : Int) (y4 : List ByteArray) (y6 : Int) (y7 : Bool) (y8 : Int) (y9 : List ByteArray) (y10 : List (Int × ByteArray)) (y11 : List (Int × ByteArray)) => K [.lf (.bool y0)] [some ⟨false, [.full 1, .full 6, .int .i64 y1, .bool y2, .int .i64 y3]⟩, some ⟨false, [.seq .str 0 y4]⟩, some ⟨false, [.seq (.pair (.int .i64) .str) 0 d.2.2.2.1.2.1]⟩, some ⟨false, [.full 4, .full 7, .int .i64 y6, .bool y7, .int .i64 y8]⟩, some ⟨false, [.seq .str 0 y9]⟩, none, some ⟨false, [.seq (.pair (.int .i64) .str) 0 y10]⟩, some ⟨false, [.seq (.pair (.int .i64) .str) 0 y11]⟩]) (fun (y0 : Bool) (y1 : Int) (y2 : Bool) (y3 : Int) (y4 : List ByteArray) (y5 : Int) (y6 : Bool) (y7 : Int) (y10 : List (Int × ByteArray)) => K [.lf (.bool y0)] [some ⟨false, [.full 1, .full 6, .int .i64 y1, .bool y2, .int .i64 y3]⟩, some ⟨false, [.seq .str 0 y4]⟩, none, some ⟨false, [.full 4, .full 5, .int .i64 y5, .bool y6, .int .i64 y7]⟩, some ⟨false, [.seq .str 0 d.2.2.2.2.2.1.2.1]⟩, some ⟨false, [.seq (.pair (.int .i64) .str) 0 d.2.2.2.2.2.2.1.2.1]⟩, some ⟨false, [.seq (.pair (.int .i64) .str) 0 y10]⟩]) (fun (y0 : Bool) (y1 : Int) (y2 : Bool) (y3 : Int) (y4 : List ByteArray) (y5 : Int) (y6 : Bool) (y7 : Int) (y8 : List ByteArray) (y10 : List (Int × ByteArray)) (y11 : List (Int × ByteArray)) => K [.lf (.bool y0)] [some ⟨false, [.full 1, .full 6, .int .i64 y1, .bool y2, .int .i64 y3]⟩, some ⟨false, [.seq .str 0 y4]⟩, none, some ⟨false, [.full 4, .full 7, .int .i64 y5, .bool y6, .int .i64 y7]⟩, some ⟨false, [.seq .str 0 y8]⟩, some ⟨false, [.seq (.pair (.int .i64) .str) 0 d.2.2.2.2.2.2.1.2.1]⟩, some ⟨false, [.seq (.pair (.int .i64) .str) 0 y10]⟩, some ⟨false, [.seq (.pair (.int .i64) .str) 0 y11]⟩]) (fun (y0 : Bool) (y1 : Int) (y2 : Bool) (y3 : Int) (y4 : List ByteArray) (y5 : Int) (y6 : Bool) (y7 : Int) (y8 : List ByteArray) (y9 : List (Int × ByteArray)) (y10 : List (Int × ByteArray)) => K [.lf (.bool y0)] [some ⟨false, [.full 1, .full 6, .int .i64 y1, .bool y2, .int .i64 y3]⟩, some ⟨false, [.seq .str 0 y4]⟩, none, some ⟨false, [.full 4, .full 7, .int .i64 y5, .bool y6, .int .i64 y7]⟩, some ⟨false, [.seq .str 0 y8]⟩, none, some ⟨false, [.seq (.pair (.int .i64) .str) 0 y9]⟩, some ⟨false, [.seq (.pair (.int .i64) .str) 0 y10]⟩])) (mkS sh29_1787 (fun d K => c29_1787 d.1.2.2.1.1 d.1.2.2.1.2.1 d.1.2.2.1.2.2.1 d.1.2.2.1.2.2.2.1 d.1.2.2.1.2.2.2.2.1 d.1.2.2.1.2.2.2.2.2.1 d.2.1.2.2.2.1 d.2.1.2.2.2.2.1 d.2.1.2.2.2.2.2.1 d.2.2.1.2.1 d.2.2.2.1.2.1 (fun (y0 : Bool) (y1 : Int) (y2 : Bool) (y3 : Int) => K [.lf (.bool y0)] [some ⟨false, [.full 1, .full 2, .int .i64 y1, .bool y2, .int .i64 y3]⟩, some ⟨false, [.seq .str 0 d.2.2.1.2.1]⟩, some ⟨false, [.seq (.pair (.int .i64) .str) 0 d.2.2.2.1.2.1]⟩]) (fun (y0 : Bool) (y1 : Int) (y2 : Bool) (y3 : Int) (y4 : List ByteArray) (y6 : List (Int × ByteArray)) => K [.lf (.bool y0)] [some ⟨false, [.full 1, .full 3, .int .i64 y1, .bool y2, .int .i64 y3]⟩, some ⟨false, [.seq .str 0 y4]⟩, some ⟨false, [.seq (.pair (.int .i64) .str) 0 d.2.2.2.1.2.1]⟩, some ⟨false, [.seq (.pair (.int .i64) .str) 0 y6]⟩]) (fun (y0 : Bool) (y1 : Int) (y2 : Bool) (y3 : Int) (y4 : List ByteArray) (y5 : List (Int × ByteArray)) => K [.lf (.bool y0)] [some ⟨false, [.full 1, .full 3, .int .i64 y1, .bool y2, .int .i64 y3]⟩, some ⟨false, [.seq .str 0 y4]⟩, none, some ⟨false, [.seq (.pair (.int .i64) .str) 0 y5]⟩])) (mkS sh29_2194 (fun d K => c29_2194 d.1.2.2.1.1 d.1.2.2.1.2.1 d.1.2.2.1.2.2.1 d.1.2.2.1.2.2.2.1 d.1.2.2.1.2.2.2.2.1 d.1.2.2.1.2.2.2.2.2.1 (fun (y0 : Bool) => K [.lf (.bool y0)] [])) (mkS sh29_7288 (fun d K => c29_7288 d.1.2.2.1.1 d.1.2.2.1.2.1 d.1.2.2.1.2.2.1 d.1.2.2.1.2.2.2.1 d.1.2.2.1.2.2.2.2.1 d.1.2.2.1.2.2.2.2.2.1 d.2.1.2.2.2.1 d.2.1.2.2.2.2.1 d.2.1.2.2.2.2.2.1 d.2.2.1.2.1 d.2.2.2.1.2.1 (fun (y0 : Bool) (y1 : Int) (y2 : Bool) (y3 : Int) => K [.lf (.bool y0)] [some ⟨false, [.full 1, .full 2, .int .i64 y1, .bool y2, .int .i64 y3]⟩, some ⟨false, [.seq .str 0 d.2.2.1.2.1]⟩, some ⟨false, [.seq (.pair (.int .i64) .str) 0 d.2.2.2.1.2.1]⟩]) (fun (y0 : Bool) (y1 : Int) (y2 : Bool) (y3 : Int) (y4 : List ByteArray) (y6 : List (Int × ByteArray)) => K [.lf (.bool y0)] [some ⟨false, [.full 1, .full 3, .int .i64 y1, .bool y2, .int .i64 y3]⟩, some ⟨false, [.seq .str 0 y4]⟩, some ⟨false, [.seq (.pair (.int .i64) .str) 0 d.2.2.2.1.2.1]⟩, some ⟨false, [.seq (.pair (.int .i64) .str) 0 y6]⟩]) (fun (y0 : Bool) (y1 : Int) (y2 : Bool) (y3 : Int) (y4 : List ByteArray) (y5 : List (Int × ByteArray)) => K [.lf (.bool y0)] [some ⟨false, [.full 1, .full 3, .int .i64 y1, .bool y2, .int .i64 y3]⟩, some ⟨false, [.seq .str 0 y4]⟩, none, some ⟨false, [.seq (.pair (.int .i64) .str) 0 y5]⟩])) noS))))), (30, (mkS sh30_1 (fun d K => c30_1 d.1.2.1 d.2.1.2.2.2.1 d.2.1.2.2.2.2.1 d.2.1.2.2.2.2.2.1 d.2.2.1.2.1 d.2.2.2.1.2.1 (fun (y0 : ByteArray) (y1 : Int) => K [.lf (.str y0), .lf (.int .i64 y1)] [some ⟨d.2.1.1, [.full 1, .full 2, .int .i64 d.2.1.2.2.2.1, .bool d.2.1.2.2.2.2.1, .int .i64 d.2.1.2.2.2.2.2.1]⟩, some ⟨d.2.2.1.1, [.seq .str 0 d.2.2.1.2.1]⟩, some ⟨d.2.2.2.1.1, [.seq (.pair (.int .i64) .str) 0 d.2.2.2.1.2.1]⟩])) (mkS sh30_6206 (fun d K => c30_6206 d.1.2.1 (K [.lf (.str ByteArray.empty), .lf (.int .i64 1)] [])) noS))), (31, (mkS sh31_1 (fun d K => c31_1 d.1.2.1 d.2.1.2.2.2.1 d.2.1.2.2.2.2.1 d.2.1.2.2.2.2.2.1 d.2.2.1.2.1 d.2.2.2.1.2.1 (fun (y0 : ByteArray) (y1 : Int) => K [.lf (.str y0), .lf (.int .i64 y1)] [some ⟨d.2.1.1, [.full 1, .full 2, .int .i64 d.2.1.2.2.2.1, .bool d.2.1.2.2.2.2.1, .int .i64 d.2.1.2.2.2.2.2.1]⟩, some ⟨d.2.2.1.1, [.seq .str 0 d.2.2.1.2.1]⟩, some ⟨d.2.2.2.1.1, [.seq (.pair (.int .i64) .str) 0 d.2.2.2.1.2.1]⟩])) (mkS sh31_6206 (fun d K => c31_6206 d.1.2.1 (K [.lf (.str ByteArray.empty), .lf (.int .i64 3)] [])) noS))), (32, (mkS sh32_1 (fun d K => c32_1 d.2.1.2.2.2.1 d.2.1.2.2.2.2.1 d.2.1.2.2.2.2.2.1 d.2.2.1.2.1 d.2.2.2.1.2.1 (K [.lf (.int .i64 d.2.1.2.2.2.2.2.1)] [some ⟨d.2.1.1, [.full 1, .full 2, .int .i64 d.2.1.2.2.2.1, .bool d.2.1.2.2.2.2.1, .int .i64 d.2.1.2.2.2.2.2.1]⟩, some ⟨d.2.2.1.1, [.seq .str 0 d.2.2.1.2.1]⟩, some ⟨d.2.2.2.1.1, [.seq (.pair (.int .i64) .str) 0 d.2.2.2.1.2.1]⟩])) (mkS sh32_568 (fun d K => c32_568 (K [.lf (.int .i64 0)] [])) noS)))]) (xw []) 81 1 (ltab [(4, orG sh8_1_l4 (fun d K => l4 d.2.1.2.1 (fun (y0 : Bool) => K .ret [.tv (.lf (.bool y0))] [some ⟨d.2.1.1, [.seq (.pair (.int .i64) (.pair (.int .i64) (.pair (.int .i64) (.pair (.int .u64) (.pair .str (.sl .bool)))))) 0 d.2.1.2.1]⟩]) (K (.exit 0) [.tv (.lf (.nilp)), .tv (.lf (.nilp))] [some ⟨d.2.1.1, [.seq (.pair (.int .i64) (.pair (.int .i64) (.pair (.int .i64) (.pair (.int .u64) (.pair .str (.sl .bool)))))) 0 d.2.1.2.1]⟩]) F d.1.2.2.2.1) (orG sh8_1_l4_2 (fun d K => l4_2 d.2.1.2.1 (fun (y0 : Bool) (y2 : Int) (y3 : Bool) (y4 : Int) (y5 : List ByteArray) (y6 : List (Int × ByteArray)) => K .ret [.tv (.lf (.bool y0))] [some ⟨d.2.1.1, [.seq (.pair (.int .i64) (.pair (.int .i64) (.pair (.int .i64) (.pair (.int .u64) (.pair .str (.sl .bool)))))) 0 d.2.1.2.1]⟩, some ⟨false, [.full 2, .full 3, .int .i64 y2, .bool y3, .int .i64 y4]⟩, some ⟨false, [.seq .str 0 y5]⟩, some ⟨false, [.seq (.pair (.int .i64) .str) 0 y6]⟩]) (fun (y2 : Int) (y3 : Bool) (y4 : Int) (y5 : List ByteArray) (y6 : List (Int × ByteArray)) (y7 : List (Int × ByteArray)) => K .ret [.tv (.lf (.bool false))] [some ⟨d.2.1.1, [.seq (.pair (.int .i64) (.pair (.int .i64) (.pair (.int .i64) (.pair (.int .u64) (.pair .str (.sl .bool)))))) 0 d.2.1.2.1]⟩, some ⟨false, [.full 2, .full 4, .int .i64 y2, .bool y3, .int .i64 y4]⟩, some ⟨false, [.seq .str 0 y5]⟩, some ⟨false, [.seq (.pair (.int .i64) .str) 0 y6]⟩, some ⟨false, [.seq (.pair (.int .i64) .str) 0 y7]⟩]) (fun (y2 : Int) (y3 : Bool) (y4 : Int) (y5 : List ByteArray) (y6 : List (Int × ByteArray)) => K .ret [.tv (.lf (.bool false))] [some ⟨d.2.1.1, [.seq (.pair (.int .i64) (.pair (.int .i64) (.pair (.int .i64) (.pair (.int .u64) (.pair .str (.sl .bool)))))) 0 d.2.1.2.1]⟩, some ⟨false, [.full 2, .full 4, .int .i64 y2, .bool y3, .int .i64 y4]⟩, some ⟨false, [.seq .str 0 y5]⟩, none, some ⟨false, [.seq (.pair (.int .i64) .str) 0 y6]⟩]) (fun (y1 : Int) (y2 : Bool) (y3 : Int) (y4 : List ByteArray) (y5 : List (Int × ByteArray)) => K (.exit 0) [.tv (.lf (.nilp)), .tv (.lf (.ptr 1 0))] [some ⟨d.2.1.1, [.seq (.pair (.int .i64) (.pair (.int .i64) (.pair (.int .i64) (.pair (.int .u64) (.pair .str (.sl .bool)))))) 0 d.2.1.2.1]⟩, some ⟨false, [.full 2, .full 3, .int .i64 y1, .bool y2, .int .i64 y3]⟩, some ⟨false, [.seq .str 0 y4]⟩, some ⟨false, [.seq (.pair (.int .i64) .str) 0 y5]⟩]) F d.1.2.2.2.1 d.2.2.1.2.2.2.1 d.2.2.1.2.2.2.2.1 d.2.2.1.2.2.2.2.2.1 d.2.2.2.1.2.1 d.2.2.2.2.1.2.1) (orG sh8_1_l4_3 (fun d K => l4_3 d.2.1.2.1 (fun (y0 : Bool) (y2 : Int) (y3 : Bool) (y4 : Int) (y5 : List ByteArray) (y6 : List (Int × ByteArray)) => K .ret [.tv (.lf (.bool y0))] [some ⟨d.2.1.1, [.seq (.pair (.int .i64) (.pair (.int .i64) (.pair (.int .i64) (.pair (.int .u64) (.pair .str (.sl .bool)))))) 0 d.2.1.2.1]⟩, some ⟨false, [.full 2, .full 3, .int .i64 y2, .bool y3, .int .i64 y4]⟩, some ⟨false, [.seq .str 0 y5]⟩, some ⟨false, [.seq (.pair (.int .i64) .str) 0 y6]⟩]) (fun (y2 : Int) (y3 : Bool) (y4 : Int) (y5 : List ByteArray) (y6 : List (Int × ByteArray)) (y7 : List (Int × ByteArray)) => K .ret [.tv (.lf (.bool false))] [some ⟨d.2.1.1, [.seq (.pair (.int .i64) (.pair (.int .i64) (.pair (.int .i64) (.pair (.int .u64) (.pair .str (.sl .bool)))))) 0 d.2.1.2.1]⟩, some ⟨false, [.full 2, .full 4, .int .i64 y2, .bool y3, .int .i64 y4]⟩, some ⟨false, [.seq .str 0 y5]⟩, some ⟨false, [.seq (.pair (.int .i64) .str) 0 y6]⟩, some ⟨false, [.seq (.pair (.int .i64) .str) 0 y7]⟩]) (fun (y2 : Int) (y3 : Bool) (y4 : Int) (y5 : List ByteArray) (y6 : List (Int × ByteArray)) => K .ret [.tv (.lf (.bool false))] [some ⟨d.2.1.1, [.seq (.pair (.int .i64) (.pair (.int .i64) (.pair (.int .i64) (.pair (.int .u64) (.pair .str (.sl .bool)))))) 0 d.2.1.2.1]⟩, some ⟨false, [.full 2, .full 4, .int .i64 y2, .bool y3, .int .i64 y4]⟩, some ⟨false, [.seq .str 0 y5]⟩, none, some ⟨false, [.seq (.pair (.int .i64) .str) 0 y6]⟩]) (fun (y1 : Int) (y2 : Bool) (y3 : Int) (y4 : List ByteArray) (y5 : List (Int × ByteArray)) => K (.exit 0) [.tv (.lf (.ptr 1 0)), .tv (.lf (.nilp))] [some ⟨d.2.1.1, [.seq (.pair (.int .i64) (.pair (.int .i64) (.pair (.int .i64) (.pair (.int .u64) (.pair .str (.sl .bool)))))) 0 d.2.1.2.1]⟩, some ⟨false, [.full 2, .full 3, .int .i64 y1, .bool y2, .int .i64 y3]⟩, some ⟨false, [.seq .str 0 y4]⟩, some ⟨false, [.seq (.pair (.int .i64) .str) 0 y5]⟩]) F d.1.2.2.2.1 d.2.2.1.2.2.2.1 d.2.2.1.2.2.2.2.1 d.2.2.1.2.2.2.2.2.1 d.2.2.2.1.2.1 d.2.2.2.2.1.2.1) (mkG sh8_1_l4_4 [0, 3, 5, 7] (outT [(.exit 0, [3, 5]), (.ret, [2])]) (fun d K => l4_4 d.2.1.2.1 (fun (y0 : Bool) (y2 : Int) (y3 : Bool) (y4 : Int) (y5 : List ByteArray) (y6 : List (Int × ByteArray)) (y7 : Int) (y8 : Bool) (y9 : Int) (y10 : List ByteArray) (y11 : List (Int × ByteArray)) => K .ret [.tv (.lf (.bool y0))] [some ⟨d.2.1.1, [.seq (.pair (.int .i64) (.pair (.int .i64) (.pair (.int .i64) (.pair (.int .u64) (.pair .str (.sl .bool)))))) 0 d.2.1.2.1]⟩, some ⟨false, [.full 2, .full 3, .int .i64 y2, .bool y3, .int .i64 y4]⟩, some ⟨false, [.seq .str 0 y5]⟩, some ⟨false, [.seq (.pair (.int .i64) .str) 0 y6]⟩, some ⟨false, [.full 5, .full 6, .int .i64 y7, .bool y8, .int .i64 y9]⟩, some ⟨false, [.seq .str 0 y10]⟩, some ⟨false, [.seq (.pair (.int .i64) .str) 0 y11]⟩]) (fun (y2 : Int) (y3 : Bool) (y4 : Int) (y5 : List ByteArray) (y6 : List (Int × ByteArray)) (y7 : Int) (y8 : Bool) (y9 : Int) (y10 : List ByteArray) (y11 : List (Int × ByteArray)) (y12 : List (Int × ByteArray)) => K .ret [.tv (.lf (.bool false))] [some ⟨d.2.1.1, [.seq (.pair (.int .i64) (.pair (.int .i64) (.pair (.int .i64) (.pair (.int .u64) (.pair .str (.sl .bool)))))) 0 d.2.1.2.1]⟩, some ⟨false, [.full 2, .full 3, .int .i64 y2, .bool y3, .int .i64 y4]⟩, some ⟨false, [.seq .str 0 y5]⟩, some ⟨false, [.seq (.pair (.int .i64) .str) 0 y6]⟩, some ⟨false, [.full 5, .full 7, .int .i64 y7, .bool y8, .int .i64 y9]⟩, some ⟨false, [.seq .str 0 y10]⟩, some ⟨false, [.seq (.pair (.int .i64) .str) 0 y11]⟩, some ⟨false, [.seq (.pair (.int .i64) .str) 0 y12]⟩]) (fun (y2 : Int) (y3 : Bool) (y4 : Int) (y5 : List ByteArray) (y6 : List (Int × ByteArray)) (y7 : Int) (y8 : Bool) (y9 : Int) (y10 : List ByteArray) (y11 : List (Int × ByteArray)) => K .ret [.tv (.lf (.bool false))] [some ⟨d.2.1.1, [.seq (.pair (.int .i64) (.pair (.int .i64) (.pair (.int .i64) (.pair (.int .u64) (.pair .str (.sl .bool)))))) 0 d.2.1.2.1]⟩, some ⟨false, [.full 2, .full 3, .int .i64 y2, .bool y3, .int .i64 y4]⟩, some ⟨false, [.seq .str 0 y5]⟩, some ⟨false, [.seq (.pair (.int .i64) .str) 0 y6]⟩, some ⟨false, [.full 5, .full 7, .int .i64 y7, .bool y8, .int .i64 y9]⟩, some ⟨false, [.seq .str 0 y10]⟩, none, some ⟨false, [.seq (.pair (.int .i64) .str) 0 y11]⟩]) (fun (y2 : Int) (y3 : Bool) (y4 : Int) (y5 : List ByteArray) (y6 : List (Int × ByteArray)) (y7 : Int) (y8 : Bool) (y9 : Int) (y10 : List ByteArray) (y11 : List (Int × ByteArray)) (y12 : List (Int × ByteArray)) => K .ret [.tv (.lf (.bool false))] [some ⟨d.2.1.1, [.seq (.pair (.int .i64) (.pair (.int .i64) (.pair (.int .i64) (.pair (.int .u64) (.pair .str (.sl .bool)))))) 0 d.2.1.2.1]⟩, some ⟨false, [.full 2, .full 7, .int .i64 y2, .bool y3, .int .i64 y4]⟩, some ⟨false, [.seq .str 0 y5]⟩, some ⟨false, [.seq (.pair (.int .i64) .str) 0 y6]⟩, some ⟨false, [.full 5, .full 6, .int .i64 y7, .bool y8, .int .i64 y9]⟩, some ⟨false, [.seq .str 0 y10]⟩, some ⟨false, [.seq (.pair (.int .i64) .str) 0 y11]⟩, some ⟨false, [.seq (.pair (.int .i64) .str) 0 y12]⟩]) (fun (y2 : Int) (y3 : Bool) (y4 : Int) (y5 : List ByteArray) (y6 : List (Int × ByteArray)) (y7 : Int) (y8 : Bool) (y9 : Int) (y10 : List ByteArray) (y11 : List (Int × ByteArray)) (y12 : List (Int × ByteArray)) (y13 : List (Int × ByteArray)) => K .ret [.tv (.lf (.bool false))] [some ⟨d.2.1.1, [.seq (.pair (.int .i64) (.pair (.int .i64) (.pair (.int .i64) (.pair (.int .u64) (.pair .str (.sl .bool)))))) 0 d.2.1.2.1]⟩, some ⟨false, [.full 2, .full 7, .int .i64 y2, .bool y3, .int .i64 y4]⟩, some ⟨false, [.seq .str 0 y5]⟩, some ⟨false, [.seq (.pair (.int .i64) .str) 0 y6]⟩, some ⟨false, [.full 5, .full 8, .int .i64 y7, .bool y8, .int .i64 y9]⟩, some ⟨false, [.seq .str 0 y10]⟩, some ⟨false, [.seq (.pair (.int .i64) .str) 0 y11]⟩, some ⟨false, [.seq (.pair (.int .i64) .str) 0 y12]⟩, some ⟨false, [.seq (.pair (.int .i64) .str) 0 y13]⟩]) (fun (y2 : Int) (y3 : Bool) (y4 : Int) (y5 : List ByteArray) (y6 : List (Int × ByteArray)) (y7 : Int) (y8 : Bool) (y9 : Int) (y10 : List ByteArray) (y11 : List (Int × ByteArray)) (y12 : List (Int × ByteArray)) => K .ret [.tv (.lf (.bool false))] [some ⟨d.2.1.1, [.seq (.pair (.int .i64) (.pair (.int .i64) (.pair (.int .i64) (.pair (.int .u64) (.pair .str (.sl .bool)))))) 0 d.2.1.2.1]⟩, some ⟨false, [.full 2, .full 7, .int .i64 y2, .bool y3, .int .i64 y4]⟩, some ⟨false, [.seq .str 0 y5]⟩, some ⟨false, [.seq (.pair (.int .i64) .str) 0 y6]⟩, some ⟨false, [.full 5, .full 8, .int .i64 y7, .bool y8, .int .i64 y9]⟩, some ⟨false, [.seq .str 0 y10]⟩, none, some ⟨false, [.seq (.pair (.int .i64) .str) 0 y11]⟩, some ⟨false, [.seq (.pair (.int .i64) .str) 0 y12]⟩]) (fun (y2 : Int) (y3 : Bool) (y4 : Int) (y5 : List ByteArray) (y6 : Int) (y7 : Bool) (y8 : Int) (y9 : List ByteArray) (y10 : List (Int × ByteArray)) (y11 : List (Int × ByteArray)) => K .ret [.tv (.lf (.bool false))] [some ⟨d.2.1.1, [.seq (.pair (.int .i64) (.pair (.int .i64) (.pair (.int .i64) (.pair (.int .u64) (.pair .str (.sl .bool)))))) 0 d.2.1.2.1]⟩, some ⟨false, [.full 2, .full 7, .int .i64 y2, .bool y3, .int .i64 y4]⟩, some ⟨false, [.seq .str 0 y5]⟩, none, some ⟨false, [.full 5, .full 6, .int .i64 y6, .bool y7, .int .i64 y8]⟩, some ⟨false, [.seq .str 0 y9]⟩, some ⟨false, [.seq (.pair (.int .i64) .str) 0 y10]⟩, some ⟨false, [.seq (.pair (.int .i64) .str) 0 y11]⟩]) (fun (y2 : Int) (y3 : Bool) (y4 : Int) (y5 : List ByteArray) (y6 : Int) (y7 : Bool) (y8 : Int) (y9 : List ByteArray) (y10 : List (Int × ByteArray)) (y11 : List (Int × ByteArray)) (y12 : List (Int × ByteArray)) => K .ret [.tv (.lf (.bool false))] [some ⟨d.2.1.1, [.seq (.pair (.int .i64) (.pair (.int .i64) (.pair (.int .i64) (.pair (.int .u64) (.pair .str (.sl .bool)))))) 0 d.2.1.2.1]⟩, some ⟨false, [.full 2, .full 7, .int .i64 y2, .bool y3, .int .i64 y4]⟩, some ⟨false, [.seq .str 0 y5]⟩, none, some ⟨false, [.full 5, .full 8, .int .i64 y6, .bool y7, .int .i64 y8]⟩, some ⟨false, [.seq .str 0 y9]⟩, some ⟨false, [.seq (.pair (.int .i64) .str) 0 y10]⟩, some ⟨false, [.seq (.pair (.int .i64) .str) 0 y11]⟩, some ⟨false, [.seq (.pair (.int .i64) .str) 0 y12]⟩]) (fun (y2 : Int) (y3 : Bool) (y4 : Int) (y5 : List ByteArray) (y6 : Int) (y7 : Bool) (y8 : Int) (y9 : List ByteArray) (y10 : List (Int × ByteArray)) (y11 : List (Int × ByteArray)) => K .ret [.tv (.lf (.bool false))] [some ⟨d.2.1.1, [.seq (.pair (.int .i64) (.pair (.int .i64) (.pair (.int .i64) (.pair (.int .u64) (.pair .str (.sl .bool)))))) 0 d.2.1.2.1]⟩, some ⟨false, [.full 2, .full 7, .int .i64 y2, .bool y3, .int .i64 y4]⟩, some ⟨false, [.seq .str 0 y5]⟩, none, some ⟨false, [.full 5, .full 8, .int .i64 y6, .bool y7, .int .i64 y8]⟩, some ⟨false, [.seq .str 0 y9]⟩, none, some ⟨false, [.seq (.pair (.int .i64) .str) 0 y10]⟩, some ⟨false, [.seq (.pair (.int .i64) .str) 0 y11]⟩]) (fun (y1 : Int) (y2 : Bool) (y3 : Int) (y4 : List ByteArray) (y5 : List (Int × ByteArray)) (y6 : Int) (y7 : Bool) (y8 : Int) (y9 : List ByteArray) (y10 : List (Int × ByteArray)) => K (.exit 0) [.tv (.lf (.ptr 1 0)), .tv (.lf (.ptr 4 0))] [some ⟨d.2.1.1, [.seq (.pair (.int .i64) (.pair (.int .i64) (.pair (.int .i64) (.pair (.int .u64) (.pair .str (.sl .bool)))))) 0 d.2.1.2.1]⟩, some ⟨false, [.full 2, .full 3, .int .i64 y1, .bool y2, .int .i64 y3]⟩, some ⟨false, [.seq .str 0 y4]⟩, some ⟨false, [.seq (.pair (.int .i64) .str) 0 y5]⟩, some ⟨false, [.full 5, .full 6, .int .i64 y6, .bool y7, .int .i64 y8]⟩, some ⟨false, [.seq .str 0 y9]⟩, some ⟨false, [.seq (.pair (.int .i64) .str) 0 y10]⟩]) F d.1.2.2.2.1 d.2.2.1.2.2.2.1 d.2.2.1.2.2.2.2.1 d.2.2.1.2.2.2.2.2.1 d.2.2.2.1.2.1 d.2.2.2.2.1.2.1 d.2.2.2.2.2.1.2.2.2.1 d.2.2.2.2.2.1.2.2.2.2.1 d.2.2.2.2.2.1.2.2.2.2.2.1 d.2.2.2.2.2.2.1.2.1 d.2.2.2.2.2.2.2.1.2.1) [])))), (11, orG sh8_1_l11 (fun d K => l11 d.1.2.2.1 d.2.1.2.1 (K .ret [.tv (.lf (.bool false))] [some ⟨d.2.1.1, [.seq (.pair (.int .i64) (.pair (.int .i64) (.pair (.int .i64) (.pair (.int .u64) (.pair .str (.sl .bool)))))) 0 d.2.1.2.1]⟩]) (K (.exit 2) [.tv (.lf (.nilp)), .tv (.lf (.nilp))] [some ⟨d.2.1.1, [.seq (.pair (.int .i64) (.pair (.int .i64) (.pair (.int .i64) (.pair (.int .u64) (.pair .str (.sl .bool)))))) 0 d.2.1.2.1]⟩]) F) (orG sh8_1_l11_2 (fun d K => l11_2 d.2.1.2.1 d.2.2.1.2.2.2.1 d.2.2.1.2.2.2.2.1 d.2.2.1.2.2.2.2.2.1 d.2.2.2.1.2.1 d.2.2.2.2.1.2.1 (K .ret [.tv (.lf (.bool false))] [some ⟨d.2.1.1, [.seq (.pair (.int .i64) (.pair (.int .i64) (.pair (.int .i64) (.pair (.int .u64) (.pair .str (.sl .bool)))))) 0 d.2.1.2.1]⟩, some ⟨false, [.full 2, .full 3, .int .i64 d.2.2.1.2.2.2.1, .bool d.2.2.1.2.2.2.2.1, .int .i64 d.2.2.1.2.2.2.2.2.1]⟩, some ⟨false, [.seq .str 0 d.2.2.2.1.2.1]⟩, some ⟨false, [.seq (.pair (.int .i64) .str) 0 d.2.2.2.2.1.2.1]⟩]) (K (.exit 2) [.tv (.lf (.nilp)), .tv (.lf (.ptr 1 0))] [some ⟨d.2.1.1, [.seq (.pair (.int .i64) (.pair (.int .i64) (.pair (.int .i64) (.pair (.int .u64) (.pair .str (.sl .bool)))))) 0 d.2.1.2.1]⟩, some ⟨false, [.full 2, .full 3, .int .i64 d.2.2.1.2.2.2.1, .bool d.2.2.1.2.2.2.2.1, .int .i64 d.2.2.1.2.2.2.2.2.1]⟩, some ⟨false, [.seq .str 0 d.2.2.2.1.2.1]⟩, some ⟨false, [.seq (.pair (.int .i64) .str) 0 d.2.2.2.2.1.2.1]⟩]) F d.1.2.2.1) (orG sh8_1_l11_3 (fun d K => l11_3 d.2.1.2.1 d.2.2.1.2.2.2.1 d.2.2.1.2.2.2.2.1 d.2.2.1.2.2.2.2.2.1 d.2.2.2.1.2.1 d.2.2.2.2.1.2.1 (K .ret [.tv (.lf (.bool false))] [some ⟨d.2.1.1, [.seq (.pair (.int .i64) (.pair (.int .i64) (.pair (.int .i64) (.pair (.int .u64) (.pair .str (.sl .bool)))))) 0 d.2.1.2.1]⟩, some ⟨false, [.full 2, .full 3, .int .i64 d.2.2.1.2.2.2.1, .bool d.2.2.1.2.2.2.2.1, .int .i64 d.2.2.1.2.2.2.2.2.1]⟩, some ⟨false, [.seq .str 0 d.2.2.2.1.2.1]⟩, some ⟨false, [.seq (.pair (.int .i64) .str) 0 d.2.2.2.2.1.2.1]⟩]) (K (.exit 2) [.tv (.lf (.ptr 1 0)), .tv (.lf (.nilp))] [some ⟨d.2.1.1, [.seq (.pair (.int .i64) (.pair (.int .i64) (.pair (.int .i64) (.pair (.int .u64) (.pair .str (.sl .bool)))))) 0 d.2.1.2.1]⟩, some ⟨false, [.full 2, .full 3, .int .i64 d.2.2.1.2.2.2.1, .bool d.2.2.1.2.2.2.2.1, .int .i64 d.2.2.1.2.2.2.2.2.1]⟩, some ⟨false, [.seq .str 0 d.2.2.2.1.2.1]⟩, some ⟨false, [.seq (.pair (.int .i64) .str) 0 d.2.2.2.2.1.2.1]⟩]) F d.1.2.2.1) (mkG sh8_1_l11_4 [3, 5, 8] (outT [(.exit 2, [3, 5]), (.ret, [2])]) (fun d K => l11_4 d.2.1.2.1 d.2.2.1.2.2.2.1 d.2.2.1.2.2.2.2.1 d.2.2.1.2.2.2.2.2.1 d.2.2.2.1.2.1 d.2.2.2.2.1.2.1 d.2.2.2.2.2.1.2.2.2.1 d.2.2.2.2.2.1.2.2.2.2.1 d.2.2.2.2.2.1.2.2.2.2.2.1 d.2.2.2.2.2.2.1.2.1 d.2.2.2.2.2.2.2.1.2.1 (K .ret [.tv (.lf (.bool false))] [some ⟨d.2.1.1, [.seq (.pair (.int .i64) (.pair (.int .i64) (.pair (.int .i64) (.pair (.int .u64) (.pair .str (.sl .bool)))))) 0 d.2.1.2.1]⟩, some ⟨false, [.full 2, .full 3, .int .i64 d.2.2.1.2.2.2.1, .bool d.2.2.1.2.2.2.2.1, .int .i64 d.2.2.1.2.2.2.2.2.1]⟩, some ⟨false, [.seq .str 0 d.2.2.2.1.2.1]⟩, some ⟨false, [.seq (.pair (.int .i64) .str) 0 d.2.2.2.2.1.2.1]⟩, some ⟨false, [.full 5, .full 6, .int .i64 d.2.2.2.2.2.1.2.2.2.1, .bool d.2.2.2.2.2.1.2.2.2.2.1, .int .i64 d.2.2.2.2.2.1.2.2.2.2.2.1]⟩, some ⟨false, [.seq .str 0 d.2.2.2.2.2.2.1.2.1]⟩, some ⟨false, [.seq (.pair (.int .i64) .str) 0 d.2.2.2.2.2.2.2.1.2.1]⟩]) (K (.exit 2) [.tv (.lf (.ptr 1 0)), .tv (.lf (.ptr 4 0))] [some ⟨d.2.1.1, [.seq (.pair (.int .i64) (.pair (.int .i64) (.pair (.int .i64) (.pair (.int .u64) (.pair .str (.sl .bool)))))) 0 d.2.1.2.1]⟩, some ⟨false, [.full 2, .full 3, .int .i64 d.2.2.1.2.2.2.1, .bool d.2.2.1.2.2.2.2.1, .int .i64 d.2.2.1.2.2.2.2.2.1]⟩, some ⟨false, [.seq .str 0 d.2.2.2.1.2.1]⟩, some ⟨false, [.seq (.pair (.int .i64) .str) 0 d.2.2.2.2.1.2.1]⟩, some ⟨false, [.full 5, .full 6, .int .i64 d.2.2.2.2.2.1.2.2.2.1, .bool d.2.2.2.2.2.1.2.2.2.2.1, .int .i64 d.2.2.2.2.2.1.2.2.2.2.2.1]⟩, some ⟨false, [.seq .str 0 d.2.2.2.2.2.2.1.2.1]⟩, some ⟨false, [.seq (.pair (.int .i64) .str) 0 d.2.2.2.2.2.2.2.1.2.1]⟩]) F d.1.2.2.1) []))))]) code8 Tryd.f8.results.toList (encT sh8_1.vs d.1) (encH sh8_1.h d.2) K = (fun (a1 : List (Int × (Int × (Int × (Int × (ByteArray × (Sl .bool))))))) (K0 : (Bool → Option Res)) => c22_1 6 (c28_1 6 (l4 a1 (fun x5 => K0 x5) (l11 0 a1 (K0 false) (none) F) F 0) (fun x8 x9 => l4_2 a1 (fun x34 x35 x36 x37 x38 x39 => K0 x34) (fun x40 x41 x42 x43 x44 x45 => K0 false) (fun x46 x47 x48 x49 x50 => K0 false) (fun x51 x52 x53 x54 x55 => l11_2 a1 x51 x52 x53 x54 x55 (K0 false) (c32_568  (cond ((0 : Int) == x53) (c21_1  (fun x65 => K0 x65) ) (K0 false)) ) F 0) F 0 (-1) false 0 x8 x9) ) (fun x66 x67 => c28_1 6 (l4_3 a1 (fun x92 x93 x94 x95 x96 x97 => K0 x92) (fun x98 x99 x100 x101 x102 x103 => K0 false) (fun x104 x105 x106 x107 x108 => K0 false) (fun x109 x110 x111 x112 x113 => l11_3 a1 x109 x110 x111 x112 x113 (K0 false) (none) F 0) F 0 (-1) false 0 x66 x67) (fun x123 x124 => l4_4 a1 (fun x225 x226 x227 x228 x229 x230 x231 x232 x233 x234 x235 => K0 x225) (fun x236 x237 x238 x239 x240 x241 x242 x243 x244 x245 x246 => K0 false) (fun x247 x248 x249 x250 x251 x252 x253 x254 x255 x256 => K0 false) (fun x257 x258 x259 x260 x261 x262 x263 x264 x265 x266 x267 => K0 false) (fun x268 x269 x270 x271 x272 x273 x274 x275 x276 x277 x278 x279 => K0 false) (fun x280 x281 x282 x283 x284 x285 x286 x287 x288 x289 x290 => K0 false) (fun x291 x292 x293 x294 x295 x296 x297 x298 x299 x300 => K0 false) (fun x301 x302 x303 x304 x305 x306 x307 x308 x309 x310 x311 => K0 false) (fun x312 x313 x314 x315 x316 x317 x318 x319 x320 x321 => K0 false) (fun x322 x323 x324 x325 x326 x327 x328 x329 x330 x331 => l11_4 a1 x322 x323 x324 x325 x326 x327 x328 x329 x330 x331 (K0 false) (c32_1 x322 x323 x324 x325 x326 (cond (x324 == x329) (c21_1  (fun x348 => K0 x348) ) (K0 false)) ) F 0) F 0 (-1) false 0 x66 x67 (-1) false 0 x123 x124) ) ) d.2.1.2.1 (fun (y0 : Bool) => K [.lf (.bool y0)] [some ⟨d.2.1.1, [.seq (.pair (.int .i64) (.pair (.int .i64) (.pair (.int .i64) (.pair (.int .u64) (.pair .str (.sl .bool)))))) 0 d.2.1.2.1]⟩]) := by kernel_rfl
theorem E8_1 (F : Nat) (d : sh8_1.den) (K : KF) : evBody Tryd.prog (T8_1 F) (xw []) 81 1 (LT8_1 F) code8 Tryd.f8.results.toList (encT sh8_1.vs d.1) (encH sh8_1.h d.2) K = f8_1 F d.2.1.2.1 (fun (y0 : Bool) => K [.lf (.bool y0)] [some ⟨d.2.1.1, [.seq (.pair (.int .i64) (.pair (.int .i64) (.pair (.int .i64) (.pair (.int .u64) (.pair .str (.sl .bool)))))) 0 d.2.1.2.1]⟩]) := Eq.mp (by kernel_rfl) (E8_1g F (f21_1 F) (f22_1 F) (f28_1 F) (f29_1 F) (f29_1787 F) (f29_2194 F) (f29_7288 F) (f30_1 F) (f30_6206 F) (f31_1 F) (f31_6206 F) (f32_1 F) (f32_568 F) (f8_1_l4 F) (f8_1_l4_2 F) (f8_1_l4_3 F) (f8_1_l4_4 F) (f8_1_l11 F) (f8_1_l11_2 F) (f8_1_l11_3 F) (f8_1_l11_4 F)  d K)
theorem S8_1_ok (F : Nat) (o : Summ) (ho : SoundFn Tryd.prog 8 o) : SoundFn Tryd.prog 8 (S8_1 F o) :=
  soundFn_of (fn := Tryd.f8) (c := code8) rfl rfl (by kernel_rfl) (tab_cons (S21_1_ok F _ (noS_sound enter21)) (tab_cons (S22_1_ok F _ (noS_sound enter22)) (tab_cons (S28_1_ok F _ (noS_sound enter28)) (tab_cons (S29_1_ok F _ (S29_1787_ok F _ (S29_2194_ok F _ (S29_7288_ok F _ (noS_sound enter29))))) (tab_cons (S30_1_ok F _ (S30_6206_ok F _ (noS_sound enter30))) (tab_cons (S31_1_ok F _ (S31_6206_ok F _ (noS_sound enter31))) (tab_cons (S32_1_ok F _ (S32_568_ok F _ (noS_sound enter32))) tab_nil))))))) (by kernel_rfl) (by kernel_rfl) ho (by rw [loops8]; exact (loopsOK_cons (by kernel_rfl) (L8_1_4 F) (loopsOK_cons (by kernel_rfl) (L8_1_11 F) loopsOK_nil))) (by rw [scopes8]; exact scopesOK_nil) (by rw [ranges8]; exact rangesOK_nil) (E8_1 F)
end Go.Proofs.YtillbabmlfjegaaDoor.X
end

section
/- Numbers of a fixed width: what wrapping and the bits' operations come to where nothing is lost. -/
namespace Go.Proofs.YtillbabmlfjegaaDoor.X
open Go Go.Proofs.YtillbabmlfjegaaDoor.Ev
set_option linter.unusedSectionVars false
variable [FZ]
set_option linter.unusedVariables false
set_option linter.unusedSimpArgs false

theorem w64 {x : Int} (h : -9223372036854775808 ≤ x) (h' : x ≤ 9223372036854775807) : IntKind.i64.wrap x = x := by
  simp only [IntKind.wrap, IntKind.bits, IntKind.signed, Bool.true_and]
  split <;> (rename_i hq; simp at hq; omega)

theorem wu64 {x : Int} (h : 0 ≤ x) (h' : x < 18446744073709551616) : IntKind.u64.wrap x = x := by
  simp only [IntKind.wrap, IntKind.bits, IntKind.signed, Bool.false_and]
  simp; omega

theorem wu32 {x : Int} (h : 0 ≤ x) (h' : x < 4294967296) : IntKind.u32.wrap x = x := by
  simp only [IntKind.wrap, IntKind.bits, IntKind.signed, Bool.false_and]
  simp; omega

theorem wu8 {x : Int} (h : 0 ≤ x) (h' : x < 256) : IntKind.u8.wrap x = x := by
  simp only [IntKind.wrap, IntKind.bits, IntKind.signed, Bool.false_and]
  simp; omega

theorem wu64m (x : Int) : IntKind.u64.wrap x = x % 18446744073709551616 := by
  simp only [IntKind.wrap, IntKind.bits, IntKind.signed, Bool.false_and]
  simp
theorem wu32m (x : Int) : IntKind.u32.wrap x = x % 4294967296 := by
  simp only [IntKind.wrap, IntKind.bits, IntKind.signed, Bool.false_and]
  simp
theorem wu8m (x : Int) : IntKind.u8.wrap x = x % 256 := by
  simp only [IntKind.wrap, IntKind.bits, IntKind.signed, Bool.false_and]
  simp

theorem i64_of_wf {n : Int} (h : (Lit.int .i64 n).wf = true) : -9223372036854775808 ≤ n ∧ n ≤ 9223372036854775807 := by
  simp [Lit.wf, IntKind.min, IntKind.max, IntKind.bits, IntKind.signed] at h; omega
theorem u64_of_wf {n : Int} (h : (Lit.int .u64 n).wf = true) : 0 ≤ n ∧ n < 18446744073709551616 := by
  simp [Lit.wf, IntKind.min, IntKind.max, IntKind.bits, IntKind.signed] at h; omega
theorem u8_of_wf {n : Int} (h : (Lit.int .u8 n).wf = true) : 0 ≤ n ∧ n < 256 := by
  simp [Lit.wf, IntKind.min, IntKind.max, IntKind.bits, IntKind.signed] at h; omega
theorem u32_of_wf {n : Int} (h : (Lit.int .u32 n).wf = true) : 0 ≤ n ∧ n < 4294967296 := by
  simp [Lit.wf, IntKind.min, IntKind.max, IntKind.bits, IntKind.signed] at h; omega

theorem or64 {A B : Nat} (hA : A < 2 ^ 64) (hB : B < 2 ^ 64) : ior .u64 (A : Int) (B : Int) = ((A ||| B : Nat) : Int) := by
  have h : (BitVec.ofInt 64 (A : Int) ||| BitVec.ofInt 64 (B : Int)).toNat = A ||| B := by
    simp [BitVec.toNat_or, BitVec.ofInt_natCast, BitVec.toNat_ofNat, Nat.mod_eq_of_lt hA, Nat.mod_eq_of_lt hB]
  have hl := Nat.or_lt_two_pow hA hB
  show IntKind.u64.wrap ((BitVec.ofInt 64 (A : Int) ||| BitVec.ofInt 64 (B : Int)).toNat : Int) = _
  rw [h, wu64 (by omega) (by omega)]
theorem and64 {A B : Nat} (hA : A < 2 ^ 64) (hB : B < 2 ^ 64) : iand .u64 (A : Int) (B : Int) = ((A &&& B : Nat) : Int) := by
  have h : (BitVec.ofInt 64 (A : Int) &&& BitVec.ofInt 64 (B : Int)).toNat = A &&& B := by
    simp [BitVec.toNat_and, BitVec.ofInt_natCast, BitVec.toNat_ofNat, Nat.mod_eq_of_lt hA, Nat.mod_eq_of_lt hB]
  have hl : A &&& B < 2 ^ 64 := Nat.and_lt_two_pow A hB
  show IntKind.u64.wrap ((BitVec.ofInt 64 (A : Int) &&& BitVec.ofInt 64 (B : Int)).toNat : Int) = _
  rw [h, wu64 (by omega) (by omega)]
theorem shl64 {i : Nat} (hi : i < 64) : ishl .u64 1 (i : Int) = ((2 ^ i : Nat) : Int) := by
  have h2 : (2 : Nat) ^ i < 2 ^ 64 := Nat.pow_lt_pow_right (by omega) hi
  have : (1 : Int) * 2 ^ (min i 64) = ((2 ^ i : Nat) : Int) := by
    rw [Nat.min_eq_left (by omega), Int.one_mul]; push_cast; rfl
  simp only [ishl, IntKind.bits, Int.toNat_natCast]
  rw [this, wu64 (Int.natCast_nonneg _) (Int.ofNat_lt.2 h2)]
theorem shr64 {A i : Nat} (hi : i < 64) : ishr .u64 (A : Int) (i : Int) = ((A >>> i : Nat) : Int) := by
  have : ((2 : Int) ^ i) = ((2 ^ i : Nat) : Int) := by push_cast; rfl
  simp only [ishr, IntKind.bits, Int.toNat_natCast]
  rw [Nat.min_eq_left (by omega), Int.fdiv_eq_ediv_of_nonneg _ (by rw [this]; exact Int.natCast_nonneg _), this, Nat.shiftRight_eq_div_pow]
  push_cast; rfl

/-- The number with given bits, below n. -/
def mk (f : Nat → Bool) : Nat → Nat
  | 0 => 0
  | n + 1 => if f n then mk f n ||| 2 ^ n else mk f n

theorem mk_lt (f : Nat → Bool) : ∀ n, mk f n < 2 ^ n
  | 0 => by simp [mk]
  | n + 1 => by
    have := mk_lt f n
    have h2 : (2 : Nat) ^ n < 2 ^ (n + 1) := Nat.pow_lt_pow_right (by omega) (by omega)
    simp only [mk]
    split
    · exact Nat.or_lt_two_pow (by omega) h2
    · omega

theorem mk_bit (f : Nat → Bool) : ∀ n j, (mk f n).testBit j = (decide (j < n) && f j)
  | 0, j => by simp [mk]
  | n + 1, j => by
    simp only [mk]
    split
    · rename_i h
      rw [Nat.testBit_or, mk_bit f n, Nat.testBit_two_pow]
      by_cases hj : j = n
      · subst hj; simp [h]
      · have h1 : decide (j < n) = decide (j < n + 1) := decide_eq_decide.2 (by omega)
        simp [Ne.symm hj, h1]
    · rename_i h
      rw [mk_bit f n]
      by_cases hj : j = n
      · subst hj; simp at h; simp [h]
      · have h1 : decide (j < n) = decide (j < n + 1) := decide_eq_decide.2 (by omega)
        rw [h1]

theorem mk_eq {A n : Nat} {f : Nat → Bool} (hA : A < 2 ^ n) (h : ∀ j, j < n → f j = A.testBit j) : mk f n = A := by
  apply Nat.eq_of_testBit_eq
  intro j
  rw [mk_bit]
  by_cases hj : j < n
  · simp [hj, h j hj]
  · simp [hj]
    exact Nat.testBit_lt_two_pow (Nat.lt_of_lt_of_le hA (Nat.pow_le_pow_right (by omega) (by omega)))

theorem bit_test {A i : Nat} : ((A >>> i &&& 1 : Nat) == 1) = A.testBit i := by
  simp [Nat.testBit, Nat.and_comm]

theorem natbeq {a b : Nat} : (((a : Int) == ((b : Nat) : Int)) : Bool) = (a == b) := by
  rw [Bool.eq_iff_iff]; simp; omega

theorem tdiv_nn {a b : Nat} : ((a : Int).tdiv (b : Int)) = ((a / b : Nat) : Int) := by
  rw [Int.tdiv_eq_ediv_of_nonneg (by omega)]; rfl
theorem tmod_nn {a b : Nat} : ((a : Int).tmod (b : Int)) = ((a % b : Nat) : Int) := by
  rw [Int.tmod_eq_emod_of_nonneg (by omega)]; rfl

theorem lbeq_refl (k : EK) (hr : ∀ x : k.den, k.beq x x = true) : ∀ l : List k.den, lbeq k l l = true
  | [] => rfl
  | x :: r => by simp [lbeq, hr x, lbeq_refl k hr r]
theorem lbeq_int (k : IntKind) (l : List Int) : lbeq (.int k) l l = true := lbeq_refl (.int k) (fun x => by simp [EK.beq]) l
theorem lbeq_int_iff (k : IntKind) : ∀ (l r : List Int), lbeq (.int k) l r = true ↔ l = r
  | [], [] => by simp [lbeq]
  | [], _ :: _ => by simp [lbeq]
  | _ :: _, [] => by simp [lbeq]
  | x :: l, y :: r => by simp [lbeq, EK.beq, lbeq_int_iff k l r]

theorem ct {α : Sort _} {p : Prop} [Decidable p] {a b : α} (h : p) : cond (decide p) a b = a := by simp [h]
theorem cf {α : Sort _} {p : Prop} [Decidable p] {a b : α} (h : ¬ p) : cond (decide p) a b = b := by simp [h]

end Go.Proofs.YtillbabmlfjegaaDoor.X
end

section
/- A disk: what each act of the program's and of the document's comes to, in one form. -/
namespace Go.Proofs.YtillbabmlfjegaaDoor.X
open Go Go.Proofs.YtillbabmlfjegaaDoor.Ev
set_option linter.unusedSectionVars false
variable [FZ]
set_option linter.unusedVariables false
set_option linter.unusedSimpArgs false

abbrev WL := List (Int × ByteArray)

/-- What is so of a disk of n sectors, behind at most k acts. -/
structure DS (n k : Nat) (a c : Int) (l : List ByteArray) (w : WL) : Prop where
  n40 : n ≤ 2000
  k300 : k ≤ 300
  len : l.length = n
  wl : w.length ≤ k
  wb : ∀ p ∈ w, 0 ≤ p.1 ∧ p.1 < n
  ar : -1 ≤ a ∧ a ≤ 9223372036854775807
  cr : 0 ≤ c ∧ c ≤ k

theorem getD_of_drop {α : Type} {l r : List α} {i : Nat} {x d : α} (h : l.drop i = x :: r) : i < l.length ∧ l.getD (0 + (i : Int).toNat) d = x ∧ l.drop (i + 1) = r := by
  have h1 : i < l.length := by
    rcases Nat.lt_or_ge i l.length with h1 | h1
    · exact h1
    · rw [List.drop_eq_nil_of_le h1] at h; cases h
  rw [List.drop_eq_getElem_cons h1] at h
  injection h with h2 h3
  refine ⟨h1, ?_, h3⟩
  simp [h1, h2]

theorem getD_out {α : Type} {l : List α} {i : Nat} {d : α} (h : l.length ≤ i) : l.getD i d = d := by simp [List.getD_eq_getElem?_getD, List.getElem?_eq_none h]

theorem len_of_drop_nil {α : Type} {l : List α} {i : Nat} (h : l.drop i = []) (hi : i ≤ l.length) : i = l.length := by
  have := congrArg List.length h
  simp at this; omega

/-! ### A sector as it is flushed; as it was written last -/

def kp (x : Int) (l : List ByteArray) : ByteArray × Int := if 0 ≤ x ∧ x < (l.length : Int) then (l.getD x.toNat ByteArray.empty, 0) else (ByteArray.empty, 3)

theorem keptP {β : Type} {F : Nat} {x a c : Int} {b : Bool} {l : List ByteArray} {w : WL} {K : ByteArray → Int → Option β} : f30_1 F x a b c l w K = K (kp x l).1 (kp x l).2 := by
  rw [f30_1, f65_1, kp]
  by_cases h1 : 0 ≤ x
  · rw [ct (by omega)]
    by_cases h2 : x < (l.length : Int)
    · rw [if_pos ⟨h1, h2⟩, decide_eq_true h2, Bool.not_true, cond_false, ct ⟨h1, h2⟩, ct (by omega), Nat.zero_add]
    · rw [if_neg (by omega), decide_eq_false h2, Bool.not_false, cond_true]
  · rw [cf (by omega), if_neg (by omega), Bool.not_false, cond_true]

theorem keptR {β : Type} {F : Nat} {x a c : Int} {b : Bool} {l : List ByteArray} {w : WL} {K : ByteArray → Int → Option β} : f31_1 F x a b c l w K = K (kp x l).1 (kp x l).2 := by
  rw [f31_1, kp]
  by_cases h1 : 0 ≤ x
  · rw [cf (by omega)]
    by_cases h2 : x < (l.length : Int)
    · rw [if_pos ⟨h1, h2⟩, cf (by omega), ct ⟨h1, h2⟩, ct (by omega), Nat.zero_add]
    · rw [if_neg (by omega), ct (by omega)]
  · rw [ct (by omega), if_neg (by omega)]

/-- What was written last to a sector, in place of s. -/
def last (x : Int) (s : ByteArray) (w : WL) : ByteArray := w.foldl (fun s p => if p.1 = x then p.2 else s) s

def rd (x : Int) (b : Bool) (l : List ByteArray) (w : WL) : ByteArray × Int :=
  if b then (ByteArray.empty, 5) else (if 0 ≤ x ∧ x < (l.length : Int) then last x (l.getD x.toNat ByteArray.empty) w else ByteArray.empty, (kp x l).2)

theorem readRl {β : Type} {F : Nat} {x a c : Int} {b : Bool} {l : List ByteArray} {w : WL} {K : ByteArray → Option β} (hw : w.length ≤ 300) : ∀ (r : WL) (i k : Nat) (s : ByteArray), w.drop i = r → i ≤ w.length → r.length < k →
    f119_1_l5 F x 0 a b c l w K k s (i : Int) = K (last x s r)
  | [], i, 0, s, _, _, hk => by simp at hk
  | _ :: _, i, 0, s, _, _, hk => by simp at hk
  | [], i, k + 1, s, hd, hi, _ => by
    have := len_of_drop_nil hd hi
    rw [f119_1_l5, cf (by omega)]; rfl
  | p :: r, i, k + 1, s, hd, hi, hk => by
    obtain ⟨h1, h2, h3⟩ := getD_of_drop (d := ((0, ByteArray.empty) : Int × ByteArray)) hd
    rw [f119_1_l5, ct (by omega), show ((0 : Int) == 0) = true from rfl, cond_true, ct (by omega), ct (by omega), h2, w64 (by omega) (by omega), ct (by omega), ct (by omega)]
    have ih := fun s => readRl (F := F) (x := x) (a := a) (b := b) (c := c) (l := l) (K := K) hw r (i + 1) k s h3 (by omega) (by simp at hk; omega)
    push_cast at ih
    by_cases hx : p.1 = x
    · rw [show (p.1 == x) = true from by simp [hx], cond_true, ih, last, last, List.foldl_cons, if_pos hx]
    · rw [show (p.1 == x) = false from by simp [hx], cond_false, ih, last, last, List.foldl_cons, if_neg hx]

theorem readRl3 {β : Type} {F : Nat} {x a c : Int} {b : Bool} {l : List ByteArray} {w : WL} {s : ByteArray} {K : ByteArray → Option β} {k : Nat} : f119_1_l5 F x 3 a b c l w K (k + 1) s 0 = K s := by
  rw [f119_1_l5]
  by_cases h : (0 : Int) < ((w.length : Nat) : Int)
  · rw [ct h]; rfl
  · rw [cf h]

theorem readR {β : Type} {F n k : Nat} (hF : 400 ≤ F) {x a c : Int} {b : Bool} {l : List ByteArray} {w : WL} (h : DS n k a c l w) {K : ByteArray → Int → Option β} : f119_1 F x a b c l w K = K (rd x b l w).1 (rd x b l w).2 := by
  have hk := h.k300; have hwl := h.wl
  rw [f119_1]
  cases b with
  | true => rfl
  | false =>
    rw [cond_false, keptR, rd, if_neg (by simp), kp]
    by_cases hx : 0 ≤ x ∧ x < (l.length : Int)
    · rw [if_pos hx, if_pos hx]
      exact readRl (by omega) w 0 F _ rfl (by omega) (by omega)
    · rw [if_neg hx, if_neg hx]
      obtain ⟨F', rfl⟩ : ∃ F', F = F' + 1 := ⟨F - 1, by omega⟩
      exact readRl3

/-- The last write to a sector. -/
def lastW (x : Int) : WL → Option ByteArray
  | [] => none
  | p :: r => match lastW x r with
    | some s => some s
    | none => if p.1 = x then some p.2 else none

theorem last_eq (x : Int) : ∀ (w : WL) (s : ByteArray), last x s w = (match lastW x w with | some t => t | none => s)
  | [], s => rfl
  | p :: r, s => by
    rw [last, List.foldl_cons, ← last, last_eq x r, lastW]
    cases lastW x r with
    | some t => rfl
    | none =>
      by_cases hp : p.1 = x
      · simp [hp]
      · simp [hp]

theorem lastW_app (x : Int) (p : Int × ByteArray) : ∀ w : WL, lastW x (w ++ [p]) = if p.1 = x then some p.2 else lastW x w
  | [] => by simp [lastW]
  | q :: r => by
    rw [List.cons_append, lastW, lastW_app x p r, lastW]
    by_cases hp : p.1 = x
    · simp [hp]
    · simp [hp]

theorem readPl {β : Type} {F : Nat} {x a c z : Int} {b : Bool} {l : List ByteArray} {w : WL} {s : ByteArray} {K0 : ByteArray → Int → ByteArray → Option β} {K1 : Option β} (hw : w.length ≤ 300) : ∀ (i k : Nat), i ≤ w.length → i < k →
    f72_1_r2000006_l1 F a b c l w x s z K0 K1 k ((i : Int) - 1) = (match lastW x (w.take i) with | some t => K0 t x t | none => K1)
  | _, 0, _, h => by omega
  | 0, k + 1, _, _ => by
    rw [f72_1_r2000006_l1, cf (by omega)]; rfl
  | i + 1, k + 1, hi, hk => by
    have h1 : i < w.length := by omega
    have e1 : (((i + 1 : Nat) : Int) - 1) = (i : Int) := by omega
    rw [e1, f72_1_r2000006_l1, ct (by omega), ct (by omega), ct (by omega), w64 (by omega) (by omega), readPl hw i k (by omega) (by omega)]
    have hg : w.getD (0 + (i : Int).toNat) ((0, ByteArray.empty) : Int × ByteArray) = w[i] := by simp [h1]
    rw [hg, List.take_succ_eq_append_getElem h1, lastW_app]
    by_cases hp : w[i].1 = x
    · rw [if_pos hp, show (w[i].1 == x) = true from by simp [hp], cond_true, hp]
    · rw [if_neg hp, show (w[i].1 == x) = false from by simp [hp], cond_false]

theorem lastW_none {x : Int} : ∀ {w : WL}, (∀ p ∈ w, p.1 ≠ x) → lastW x w = none
  | [], _ => rfl
  | p :: r, h => by rw [lastW, lastW_none (fun q hq => h q (by simp [hq]))]; simp [h p (by simp)]

theorem readP {β : Type} {F n k : Nat} (hF : 400 ≤ F) {x a c : Int} {b : Bool} {l : List ByteArray} {w : WL} (h : DS n k a c l w) {K : ByteArray → Int → Option β} : f72_1 F x a b c l w K = K (rd x b l w).1 (rd x b l w).2 := by
  have hk := h.k300; have hwl := h.wl
  rw [f72_1]
  cases b with
  | true => rfl
  | false =>
    rw [cond_false, f104_1, f72_1_r2000006, w64 (by omega) (by omega), readPl (by omega) w.length F (Nat.le_refl _) (by omega), List.take_length, rd, if_neg (by simp)]
    by_cases hx : 0 ≤ x ∧ x < (l.length : Int)
    · rw [if_pos hx, last_eq]
      cases hq : lastW x w with
      | none => simp only [keptP]; rw [kp, if_pos hx]
      | some t => simp only [kp, if_pos hx]
    · rw [if_neg hx, lastW_none (fun p hp he => hx (by have := h.wb p hp; have := h.len; omega))]
      simp only [keptP]; rw [kp, if_neg hx]

/-! ### A write -/

def dec (a : Int) : Int := if a = -1 then a else a - 1

/-- What a write is handed on as. -/
def wrB {β : Type} (x : Int) (t : ByteArray) (a : Int) (b : Bool) (c : Int) (l : List ByteArray) (w : WL) (K0 : Int → Int → Bool → Int → Option β) (K1 : Int → Bool → Int → WL → Option β) : Option β :=
  if b then K0 5 a b c else if ¬ (0 ≤ x ∧ x < (l.length : Int)) then K0 3 a b c else if t.size ≠ 64 then K0 4 a b c else if a = 0 then K0 5 (-1) true c else K1 (dec a) b (c + 1) (w ++ [(x, t)])

theorem writeP {β : Type} {F n k : Nat} {x a c : Int} {t : ByteArray} {b : Bool} {l : List ByteArray} {w : WL} (h : DS n k a c l w) {K0 : Int → Int → Bool → Int → Option β} {K1 : Int → Bool → Int → WL → Option β} :
    f55_1 F x t a b c l w K0 K1 = wrB x t a b c l w K0 K1 := by
  have hk := h.k300; have hwl := h.wl; have ha := h.ar; have hc := h.cr
  rw [f55_1, wrB]
  cases b with
  | true => rfl
  | false =>
    rw [cond_false, if_neg (by simp), f65_1, f43_1, f96_1]
    by_cases h1 : 0 ≤ x
    · rw [ct (by omega)]
      by_cases h2 : x < (l.length : Int)
      · rw [if_neg (by simp [h1, h2]), decide_eq_true h2, Bool.not_true, cond_false]
        by_cases h3 : t.size = 64
        · rw [if_neg (by simp [h3]), show ((t.size : Int) == 64) = true from by simp [h3], Bool.not_true, cond_false]
          by_cases h4 : a = 0
          · subst h4; rfl
          · rw [if_neg h4, show (a == 0) = false from by simp [h4], cond_false, dec]
            by_cases h5 : a = -1
            · rw [if_pos h5, show (a == -1) = true from by simp [h5], cond_true, cond_false, ct (by omega), w64 (by omega) (by omega)]
            · rw [if_neg h5, show (a == -1) = false from by simp [h5], cond_false, cond_false, ct (by omega), w64 (x := a - 1) (by omega) (by omega), w64 (by omega) (by omega)]
        · rw [if_pos (by simpa using h3), show ((t.size : Int) == 64) = false from by simp; omega]; rfl
      · rw [if_pos (by omega), decide_eq_false h2]; rfl
    · rw [cf (by omega), if_pos (by omega)]; rfl

theorem writeR {β : Type} {F n k : Nat} {x a c : Int} {t : ByteArray} {b : Bool} {l : List ByteArray} {w : WL} (h : DS n k a c l w) {K0 : Int → Int → Bool → Int → Option β} {K1 : Int → Bool → Int → WL → Option β} :
    f61_1 F x t a b c l w K0 K1 = wrB x t a b c l w K0 K1 := by
  have hk := h.k300; have hwl := h.wl; have ha := h.ar; have hc := h.cr
  rw [f61_1, wrB]
  cases b with
  | true => rfl
  | false =>
    rw [cond_false, if_neg (by simp), f45_1, f100_1]
    by_cases h1 : 0 ≤ x
    · rw [cf (by omega)]
      by_cases h2 : x < (l.length : Int)
      · rw [if_neg (by simp [h1, h2]), cf (by omega)]
        by_cases h3 : t.size = 64
        · rw [if_neg (by simp [h3]), show ((t.size : Int) == 64) = true from by simp [h3], Bool.not_true, cond_false]
          by_cases h4 : a = 0
          · subst h4; rfl
          · rw [if_neg h4, show (a == 0) = false from by simp [h4], cond_false, dec]
            by_cases h5 : a = -1
            · rw [if_pos h5, cf (by omega), cond_false, ct (by omega), w64 (by omega) (by omega)]
            · rw [if_neg h5, ct (by omega), cond_false, ct (by omega), w64 (x := a - 1) (by omega) (by omega), w64 (by omega) (by omega)]
        · rw [if_pos (by simpa using h3), show ((t.size : Int) == 64) = false from by simp; omega]; rfl
      · rw [if_pos (by omega), ct (by omega)]
    · rw [ct (by omega), if_pos (by omega)]

/-! ### A flush, a crash -/

def put1 (l : List ByteArray) (p : Int × ByteArray) : List ByteArray := l.set p.1.toNat p.2
theorem put1_len (l : List ByteArray) (p : Int × ByteArray) : (put1 l p).length = l.length := by simp [put1]
theorem puts_len : ∀ (w : WL) (l : List ByteArray), (w.foldl put1 l).length = l.length
  | [], l => rfl
  | p :: r, l => by rw [List.foldl_cons, puts_len r, put1_len]

theorem flushPl {β : Type} {F n : Nat} {a c : Int} {b : Bool} {w : WL} {K : List ByteArray → Option β} (hw : w.length ≤ 300) (hb : ∀ p ∈ w, 0 ≤ p.1 ∧ p.1 < (n : Int)) : ∀ (r : WL) (i k : Nat) (l : List ByteArray), w.drop i = r → i ≤ w.length → r.length < k → l.length = n →
    f56_1_l6 F ((w.length : Nat) : Int) a b c w K k (i : Int) l = K (r.foldl put1 l)
  | [], i, 0, s, _, _, hk, _ => by simp at hk
  | _ :: _, i, 0, s, _, _, hk, _ => by simp at hk
  | [], i, k + 1, s, hd, hi, _, _ => by
    have := len_of_drop_nil hd hi
    rw [f56_1_l6, cf (by omega)]; rfl
  | p :: r, i, k + 1, l, hd, hi, hk, hl => by
    obtain ⟨h1, h2, h3⟩ := getD_of_drop (d := ((0, ByteArray.empty) : Int × ByteArray)) hd
    have hp := hb p (List.mem_of_mem_drop (by rw [hd]; simp))
    rw [f56_1_l6, ct (by omega), ct (by omega), ct (by omega), h2, ct (by omega), ct (by omega), w64 (by omega) (by omega), Nat.zero_add, List.foldl_cons]
    exact flushPl hw hb r (i + 1) k (put1 l p) h3 (by omega) (by simp at hk; omega) (by rw [put1_len]; exact hl)

theorem flushRl {β : Type} {F n : Nat} {a c : Int} {b : Bool} {w : WL} {K : List ByteArray → Option β} (hw : w.length ≤ 300) (hb : ∀ p ∈ w, 0 ≤ p.1 ∧ p.1 < (n : Int)) : ∀ (r : WL) (i k : Nat) (l : List ByteArray), w.drop i = r → i ≤ w.length → r.length < k → l.length = n →
    f99_1_l4 F a b c w K k (i : Int) l = K (r.foldl put1 l)
  | [], i, 0, s, _, _, hk, _ => by simp at hk
  | _ :: _, i, 0, s, _, _, hk, _ => by simp at hk
  | [], i, k + 1, s, hd, hi, _, _ => by
    have := len_of_drop_nil hd hi
    rw [f99_1_l4, cf (by omega)]; rfl
  | p :: r, i, k + 1, l, hd, hi, hk, hl => by
    obtain ⟨h1, h2, h3⟩ := getD_of_drop (d := ((0, ByteArray.empty) : Int × ByteArray)) hd
    have hp := hb p (List.mem_of_mem_drop (by rw [hd]; simp))
    rw [f99_1_l4, ct (by omega), ct (by omega), ct (by omega), h2, ct (by omega), ct (by omega), w64 (by omega) (by omega), Nat.zero_add, List.foldl_cons]
    exact flushRl hw hb r (i + 1) k (put1 l p) h3 (by omega) (by simp at hk; omega) (by rw [put1_len]; exact hl)

def flB {β : Type} (a : Int) (b : Bool) (c : Int) (l : List ByteArray) (w : WL) (K0 : Int → Bool → Int → Option β) (K1 : Int → Bool → Int → List ByteArray → WL → Option β) : Option β :=
  if b then K0 a b c else if a = 0 then K0 (-1) true c else K1 (dec a) b (c + 1) (w.foldl put1 l) []

theorem flushP {β : Type} {F n k : Nat} (hF : 400 ≤ F) {a c : Int} {b : Bool} {l : List ByteArray} {w : WL} (h : DS n k a c l w) {K0 : Int → Bool → Int → Option β} {K1 : Int → Bool → Int → List ByteArray → WL → Option β} :
    f56_1 F a b c l w K0 K1 = flB a b c l w K0 K1 := by
  have hk := h.k300; have hwl := h.wl; have ha := h.ar; have hc := h.cr
  rw [f56_1, flB, f96_1]
  cases b with
  | true => rfl
  | false =>
    rw [cond_false, if_neg (by simp)]
    by_cases h4 : a = 0
    · subst h4; rfl
    · rw [if_neg h4, show (a == 0) = false from by simp [h4], cond_false, dec]
      by_cases h5 : a = -1
      · rw [if_pos h5, show (a == -1) = true from by simp [h5], cond_true, Bool.not_true, cond_false, w64 (by omega) (by omega)]
        exact flushPl (by omega) h.wb w 0 F l rfl (by omega) (by omega) h.len
      · rw [if_neg h5, show (a == -1) = false from by simp [h5], cond_false, Bool.not_true, cond_false, w64 (x := a - 1) (by omega) (by omega), w64 (by omega) (by omega)]
        exact flushPl (by omega) h.wb w 0 F l rfl (by omega) (by omega) h.len

theorem flushR {β : Type} {F n k : Nat} (hF : 400 ≤ F) {a c : Int} {b : Bool} {l : List ByteArray} {w : WL} (h : DS n k a c l w) {K0 : Int → Bool → Int → Option β} {K1 : Int → Bool → Int → List ByteArray → WL → Option β} :
    f99_1 F a b c l w K0 K1 = flB a b c l w K0 K1 := by
  have hk := h.k300; have hwl := h.wl; have ha := h.ar; have hc := h.cr
  rw [f99_1, flB, f100_1]
  cases b with
  | true => rfl
  | false =>
    rw [cond_false, if_neg (by simp)]
    by_cases h4 : a = 0
    · subst h4; rfl
    · rw [if_neg h4, show (a == 0) = false from by simp [h4], cond_false, dec]
      by_cases h5 : a = -1
      · rw [if_pos h5, cf (by omega), Bool.not_true, cond_false, w64 (by omega) (by omega)]
        exact flushRl (by omega) h.wb w 0 F l rfl (by omega) (by omega) h.len
      · rw [if_neg h5, ct (by omega), Bool.not_true, cond_false, w64 (x := a - 1) (by omega) (by omega), w64 (by omega) (by omega)]
        exact flushRl (by omega) h.wb w 0 F l rfl (by omega) (by omega) h.len

section
variable {n k : Nat} {a c : Int} {l : List ByteArray} {w : WL}
theorem DS.more (h : DS n k a c l w) (hk : k < 300) : DS n (k + 1) a c l w := ⟨h.n40, by omega, h.len, by have := h.wl; omega, h.wb, h.ar, by have := h.cr; omega⟩
theorem DS.off (h : DS n k a c l w) (hk : k < 300) : DS n (k + 1) (-1) c l w := ⟨h.n40, by omega, h.len, by have := h.wl; omega, h.wb, by omega, by have := h.cr; omega⟩
theorem DS.fuse (h : DS n k a c l w) (hk : k < 300) {x : Int} (hx : x ≤ 9223372036854775807) : DS n (k + 1) (if (-1) > x then (-1) else x) c l w := ⟨h.n40, by omega, h.len, by have := h.wl; omega, h.wb, by split <;> omega, by have := h.cr; omega⟩
theorem DS.wrote (h : DS n k a c l w) (hk : k < 300) (h0 : a ≠ 0) {x : Int} {t : ByteArray} (hx : 0 ≤ x ∧ x < (l.length : Int)) : DS n (k + 1) (dec a) (c + 1) l (w ++ [(x, t)]) :=
  ⟨h.n40, by omega, h.len, by have := h.wl; simp; omega, fun p hp => by
    rcases List.mem_append.1 hp with hp | hp
    · exact h.wb p hp
    · simp at hp; subst hp; rw [← h.len]; exact hx, by have := h.ar; unfold dec; split <;> omega, by have := h.cr; omega⟩
theorem DS.flushed (h : DS n k a c l w) (hk : k < 300) (h0 : a ≠ 0) : DS n (k + 1) (dec a) (c + 1) (w.foldl put1 l) [] :=
  ⟨h.n40, by omega, by rw [puts_len]; exact h.len, by simp, fun p hp => (by cases hp), by have := h.ar; unfold dec; split <;> omega, by have := h.cr; omega⟩
end

/-! ### States -/

/-- What comes of a write, of a flush: an answer, and the state. -/
def wS (x : Int) (t : ByteArray) (a : Int) (b : Bool) (c : Int) (l : List ByteArray) (w : WL) : Int × Int × Bool × Int × WL :=
  if b then (5, a, b, c, w) else if ¬ (0 ≤ x ∧ x < (l.length : Int)) then (3, a, b, c, w) else if t.size ≠ 64 then (4, a, b, c, w) else if a = 0 then (5, -1, true, c, w) else (0, dec a, b, c + 1, w ++ [(x, t)])

theorem wrB_eq {β : Type} {x a c : Int} {t : ByteArray} {b : Bool} {l : List ByteArray} {w : WL} {K0 : Int → Int → Bool → Int → Option β} {K1 : Int → Bool → Int → WL → Option β} :
    wrB x t a b c l w K0 K1 = if (wS x t a b c l w).1 = 0 then K1 (wS x t a b c l w).2.1 (wS x t a b c l w).2.2.1 (wS x t a b c l w).2.2.2.1 (wS x t a b c l w).2.2.2.2 else K0 (wS x t a b c l w).1 (wS x t a b c l w).2.1 (wS x t a b c l w).2.2.1 (wS x t a b c l w).2.2.2.1 := by
  unfold wrB wS
  split
  · simp
  · split
    · simp
    · split
      · simp
      · split <;> simp

theorem wS_same {x a c : Int} {t : ByteArray} {b : Bool} {l : List ByteArray} {w : WL} (h : (wS x t a b c l w).1 ≠ 0) : (wS x t a b c l w).2.2.2.2 = w := by
  unfold wS at h ⊢
  split
  · rfl
  · split
    · rfl
    · split
      · rfl
      · split
        · rfl
        · rename_i h1 h2 h3 h4
          rw [if_neg h1, if_neg h2, if_neg h3, if_neg h4] at h
          exact (h rfl).elim

theorem wS_ok {n k : Nat} {x a c : Int} {t : ByteArray} {b : Bool} {l : List ByteArray} {w : WL} (h : DS n k a c l w) (hk : k < 300) : DS n (k + 1) (wS x t a b c l w).2.1 (wS x t a b c l w).2.2.2.1 l (wS x t a b c l w).2.2.2.2 := by
  unfold wS
  split
  · exact h.more hk
  · split
    · exact h.more hk
    · rename_i h2
      split
      · exact h.more hk
      · split
        · exact h.off hk
        · rename_i h4
          exact h.wrote hk h4 (Classical.not_not.1 h2)

def fS (a : Int) (b : Bool) (c : Int) (l : List ByteArray) (w : WL) : Int × Int × Bool × Int × List ByteArray × WL :=
  if b then (5, a, b, c, l, w) else if a = 0 then (5, -1, true, c, l, w) else (0, dec a, b, c + 1, w.foldl put1 l, [])

theorem flB_eq {β : Type} {a c : Int} {b : Bool} {l : List ByteArray} {w : WL} {K0 : Int → Bool → Int → Option β} {K1 : Int → Bool → Int → List ByteArray → WL → Option β} :
    flB a b c l w K0 K1 = if (fS a b c l w).1 = 0 then K1 (fS a b c l w).2.1 (fS a b c l w).2.2.1 (fS a b c l w).2.2.2.1 (fS a b c l w).2.2.2.2.1 (fS a b c l w).2.2.2.2.2 else K0 (fS a b c l w).2.1 (fS a b c l w).2.2.1 (fS a b c l w).2.2.2.1 := by
  unfold flB fS
  split
  · simp
  · split <;> simp

theorem fS_same {a c : Int} {b : Bool} {l : List ByteArray} {w : WL} (h : (fS a b c l w).1 ≠ 0) : (fS a b c l w).1 = 5 ∧ (fS a b c l w).2.2.2.2.1 = l ∧ (fS a b c l w).2.2.2.2.2 = w := by
  unfold fS at h ⊢
  split
  · exact ⟨rfl, rfl, rfl⟩
  · split
    · exact ⟨rfl, rfl, rfl⟩
    · rename_i h1 h2
      rw [if_neg h1, if_neg h2] at h
      exact (h rfl).elim

theorem fS_ok {n k : Nat} {a c : Int} {b : Bool} {l : List ByteArray} {w : WL} (h : DS n k a c l w) (hk : k < 300) : DS n (k + 1) (fS a b c l w).2.1 (fS a b c l w).2.2.2.1 (fS a b c l w).2.2.2.2.1 (fS a b c l w).2.2.2.2.2 := by
  unfold fS
  split
  · exact h.more hk
  · split
    · exact h.off hk
    · rename_i h4
      exact h.flushed hk h4

end Go.Proofs.YtillbabmlfjegaaDoor.X
end

section
/- A disk: crashes, coming up, a write and a flush; in one form. -/
namespace Go.Proofs.YtillbabmlfjegaaDoor.X
open Go Go.Proofs.YtillbabmlfjegaaDoor.Ev
set_option linter.unusedSectionVars false
variable [FZ]
set_option linter.unusedVariables false
set_option linter.unusedSimpArgs false

abbrev St := Int × Int × Bool × Int × List ByteArray × WL

/-- A write, then a flush. -/
def layS (x : Int) (t : ByteArray) (a : Int) (b : Bool) (c : Int) (l : List ByteArray) (w : WL) : St :=
  if (wS x t a b c l w).1 ≠ 0 then ((wS x t a b c l w).1, (wS x t a b c l w).2.1, (wS x t a b c l w).2.2.1, (wS x t a b c l w).2.2.2.1, l, w)
  else fS (wS x t a b c l w).2.1 (wS x t a b c l w).2.2.1 (wS x t a b c l w).2.2.2.1 l (wS x t a b c l w).2.2.2.2

def app {β : Type} (K : Int → Int → Bool → Int → List ByteArray → WL → Option β) (s : St) : Option β := K s.1 s.2.1 s.2.2.1 s.2.2.2.1 s.2.2.2.2.1 s.2.2.2.2.2

theorem fl_app {β : Type} {a c : Int} {b : Bool} {l : List ByteArray} {w : WL} {K : Int → Int → Bool → Int → List ByteArray → WL → Option β} :
    (if (fS a b c l w).1 = 0 then K 0 (fS a b c l w).2.1 (fS a b c l w).2.2.1 (fS a b c l w).2.2.2.1 (fS a b c l w).2.2.2.2.1 (fS a b c l w).2.2.2.2.2 else K 5 (fS a b c l w).2.1 (fS a b c l w).2.2.1 (fS a b c l w).2.2.2.1 l w) = app K (fS a b c l w) := by
  by_cases q : (fS a b c l w).1 = 0
  · rw [if_pos q, app, q]
  · obtain ⟨h1, h2, h3⟩ := fS_same q
    rw [if_neg q, app, h1, h2, h3]

theorem layS_ok {m k : Nat} {a d : Int} {b : Bool} {l : List ByteArray} {w : WL} {x : Int} {t : ByteArray} (h : DS m k a d l w) (hk : k < 299) : DS m (k + 2) (layS x t a b d l w).2.1 (layS x t a b d l w).2.2.2.1 (layS x t a b d l w).2.2.2.2.1 (layS x t a b d l w).2.2.2.2.2 := by
  have h1 := wS_ok (x := x) (t := t) (b := b) h (by omega)
  unfold layS
  by_cases q : (wS x t a b d l w).1 = 0
  · rw [if_neg (show ¬ (wS x t a b d l w).1 ≠ 0 from fun hh => hh q)]
    exact fS_ok h1 (by omega)
  · rw [if_pos (show (wS x t a b d l w).1 ≠ 0 from q)]
    rw [wS_same q] at h1
    exact h1.more (by omega)

end Go.Proofs.YtillbabmlfjegaaDoor.X
end

section
/- A disk: a crash, coming up. -/
namespace Go.Proofs.YtillbabmlfjegaaDoor.X
open Go Go.Proofs.YtillbabmlfjegaaDoor.Ev
set_option linter.unusedSectionVars false
variable [FZ]
set_option linter.unusedVariables false
set_option linter.unusedSimpArgs false

/-- A crash: the i-th write is kept where the i-th word says so. -/
def crB (ks : List Bool) : Nat → WL → List ByteArray → List ByteArray
  | _, [], l => l
  | i, p :: r, l => crB ks (i + 1) r (if ks.getD i false then put1 l p else l)

theorem crB_len (ks : List Bool) : ∀ (w : WL) (i : Nat) (l : List ByteArray), (crB ks i w l).length = l.length
  | [], _, l => rfl
  | p :: r, i, l => by
    rw [crB, crB_len ks r]
    split
    · exact put1_len l p
    · rfl

theorem crB_stop (ks : List Bool) : ∀ (w : WL) (i : Nat) (l : List ByteArray), ks.length ≤ i → crB ks i w l = l
  | [], _, l, _ => rfl
  | p :: r, i, l, h => by
    rw [crB, crB_stop ks r (i + 1) _ (by omega), getD_out h]; rfl

theorem crashPl {β : Type} {F n : Nat} {a c : Int} {b : Bool} {w : WL} {ks : List Bool} {K : List ByteArray → Option β} (hw : w.length ≤ 300) (hb : ∀ p ∈ w, 0 ≤ p.1 ∧ p.1 < (n : Int)) : ∀ (r : WL) (i k : Nat) (l : List ByteArray), w.drop i = r → i ≤ w.length → r.length < k → l.length = n →
    f25_1_l2 F ((w.length : Nat) : Int) a b c w ks K k (i : Int) l = K (crB ks i r l)
  | [], i, 0, s, _, _, hk, _ => by simp at hk
  | _ :: _, i, 0, s, _, _, hk, _ => by simp at hk
  | [], i, k + 1, s, hd, hi, _, _ => by
    have := len_of_drop_nil hd hi
    rw [f25_1_l2, cf (by omega)]; rfl
  | p :: r, i, k + 1, l, hd, hi, hk, hl => by
    obtain ⟨h1, h2, h3⟩ := getD_of_drop (d := ((0, ByteArray.empty) : Int × ByteArray)) hd
    have hp := hb p (List.mem_of_mem_drop (by rw [hd]; simp))
    have ih := fun l hl => crashPl (F := F) (a := a) (b := b) (c := c) (ks := ks) (K := K) hw hb r (i + 1) k l h3 (by omega) (by simp at hk; omega) hl
    push_cast at ih
    rw [f25_1_l2, ct (by omega), ct (by omega), ct (by omega), h2, w64 (by omega) (by omega), crB]
    by_cases hq : (i : Int) < ((ks.length : Nat) : Int)
    · have hg : ks.getD (0 + (i : Int).toNat) false = ks.getD i false := by rw [Nat.zero_add]; rfl
      rw [ct hq, ct (by omega), ct (by omega), hg]
      cases ks.getD i false with
      | false => rw [cond_false, ih l hl]; rfl
      | true => rw [cond_true, ct (by omega), ct (by omega), Nat.zero_add]; exact ih (put1 l p) (by rw [put1_len]; exact hl)
    · rw [cf hq, ih l hl, getD_out (by omega)]; rfl

theorem crashRl {β : Type} {F n : Nat} {a c : Int} {b : Bool} {w : WL} {ks : List Bool} {K : List ByteArray → Option β} (hw : w.length ≤ 300) (hb : ∀ p ∈ w, 0 ≤ p.1 ∧ p.1 < (n : Int)) : ∀ (r : WL) (i k : Nat) (l : List ByteArray), w.drop i = r → i ≤ w.length → r.length < k → l.length = n →
    f62_1_l1 F a b c w ks K k (i : Int) l = K (crB ks i r l)
  | [], i, 0, s, _, _, hk, _ => by simp at hk
  | _ :: _, i, 0, s, _, _, hk, _ => by simp at hk
  | [], i, k + 1, s, hd, hi, _, _ => by
    have := len_of_drop_nil hd hi
    rw [f62_1_l1, cf (by omega)]; rfl
  | p :: r, i, k + 1, l, hd, hi, hk, hl => by
    obtain ⟨h1, h2, h3⟩ := getD_of_drop (d := ((0, ByteArray.empty) : Int × ByteArray)) hd
    have hp := hb p (List.mem_of_mem_drop (by rw [hd]; simp))
    rw [f62_1_l1, ct (by omega)]
    by_cases hq : (i : Int) < ((ks.length : Nat) : Int)
    · have ih := fun l hl => crashRl (F := F) (a := a) (b := b) (c := c) (ks := ks) (K := K) hw hb r (i + 1) k l h3 (by omega) (by simp at hk; omega) hl
      push_cast at ih
      have hg : ks.getD (0 + (i : Int).toNat) false = ks.getD i false := by rw [Nat.zero_add]; rfl
      rw [ct hq, ct (by omega), ct (by omega), h2, w64 (by omega) (by omega), crB, ct (by omega), ct (by omega), hg]
      cases ks.getD i false with
      | false => rw [cond_false, ih l hl]; rfl
      | true => rw [cond_true, ct (by omega), ct (by omega), Nat.zero_add]; exact ih (put1 l p) (by rw [put1_len]; exact hl)
    · rw [cf hq, crB_stop ks _ i l (by omega)]

theorem crashP {β : Type} {F n k : Nat} (hF : 400 ≤ F) {a c : Int} {b : Bool} {l : List ByteArray} {w : WL} (h : DS n k a c l w) {ks : List Bool} {K : List ByteArray → WL → Option β} :
    f25_1 F a b c l w ks K = K (crB ks 0 w l) [] := by
  have hk := h.k300; have hwl := h.wl
  rw [f25_1]
  exact crashPl (by omega) h.wb w 0 F l rfl (by omega) (by omega) h.len

theorem crashR {β : Type} {F n k : Nat} (hF : 400 ≤ F) {a c : Int} {b : Bool} {l : List ByteArray} {w : WL} (h : DS n k a c l w) {ks : List Bool} {K : List ByteArray → WL → Option β} :
    f62_1 F a b c l w ks K = K (crB ks 0 w l) [] := by
  have hk := h.k300; have hwl := h.wl
  rw [f62_1]
  exact crashRl (by omega) h.wb w 0 F l rfl (by omega) (by omega) h.len

section
variable {n k : Nat} {a c : Int} {l : List ByteArray} {w : WL}
theorem DS.crashed (h : DS n k a c l w) (hk : k < 300) (ks : List Bool) : DS n (k + 1) (-1) c (crB ks 0 w l) [] :=
  ⟨h.n40, by omega, by rw [crB_len]; exact h.len, by simp, fun p hp => (by cases hp), by omega, by have := h.cr; omega⟩
theorem DS.came (h : DS n k a c l w) (hk : k < 300) : DS n (k + 1) (-1) c l [] :=
  ⟨h.n40, by omega, h.len, by simp, fun p hp => (by cases hp), by omega, by have := h.cr; omega⟩

end

end Go.Proofs.YtillbabmlfjegaaDoor.X
end

section
/- Records: sums, numbers as bytes; the code's and the document's, in one form. -/
namespace Go.Proofs.YtillbabmlfjegaaDoor.X
open Go Go.Proofs.YtillbabmlfjegaaDoor.Ev
set_option linter.unusedSectionVars false
variable [FZ]
set_option linter.unusedVariables false
set_option linter.unusedSimpArgs false

theorem x32 (x y : Int) : 0 ≤ ixor .u32 x y ∧ ixor .u32 x y < 4294967296 := by
  unfold ixor; rw [wu32m]; omega
theorem x8 (x y : Int) : 0 ≤ ixor .u8 x y ∧ ixor .u8 x y < 256 := by
  unfold ixor; rw [wu8m]; omega

theorem sh8 {n : Int} (h : 0 ≤ n ∧ n < 4294967296) : IntKind.u32.wrap (n.tdiv 256) = ishr .u32 n 8 := by
  have e : (2 : Int) ^ (min (8 : Int).toNat IntKind.u32.bits) = 256 := by decide
  rw [ishr, e, Int.fdiv_eq_ediv_of_nonneg _ (by omega), Int.tdiv_eq_ediv_of_nonneg h.1, wu32 (by omega) (by omega)]

/-- The table: each byte's step. -/
def eStep (x : Int) : Int := if (iand .u32 x 1) == 1 then ixor .u32 (ishr .u32 x 1) 2197175160 else ishr .u32 x 1
def ent (x : Int) : Int := eStep (eStep (eStep (eStep (eStep (eStep (eStep (eStep x)))))))
def tb : List Int := (List.range 256).map fun (i : Nat) => ent (i : Int)
theorem tb_len : tb.length = 256 := by simp [tb]

set_option maxRecDepth 100000 in
theorem tableP {β : Type} {K : List Int → Option β} : f124_1 20000 K = K tb := by kernel_rfl

theorem entNat {β : Type} {F : Nat} {K : Int → Option β} : ∀ (k : Nat) (v i : Int), f113_1_l3 F K k v i = (f113_1_l3 F some k v i).bind K
  | 0, v, i => rfl
  | k + 1, v, i => by
    rw [f113_1_l3, f113_1_l3]
    cases decide (i < 8) with
    | false => rfl
    | true =>
      cases (v.tmod 2 == 1) with
      | true => exact entNat k _ _
      | false => exact entNat k _ _

set_option maxRecDepth 100000 in
theorem entAll : ((List.range 256).all fun (i : Nat) => f113_1 20000 (i : Int) some == some (tb.getD i 0)) = true := by kernel_rfl

theorem entR {β : Type} {x : Int} (h : 0 ≤ x ∧ x < 256) {K : Int → Option β} : f113_1 20000 x K = K (tb.getD x.toNat 0) := by
  have h1 := List.all_eq_true.1 entAll x.toNat (List.mem_range.2 (by omega))
  rw [beq_iff_eq, show ((x.toNat : Nat) : Int) = x by omega, f113_1] at h1
  rw [f113_1, entNat, h1]; rfl

def crcS : Int → List Int → Int
  | n, [] => n
  | n, c :: r => crcS (ixor .u32 (ishr .u32 n 8) (tb.getD (ixor .u8 (IntKind.u8.wrap n) c).toNat 0)) r
def crc (b : List Int) : Int := ixor .u32 4294967295 (crcS (ixor .u32 4294967295 0) b)

theorem atL {α : Type} {l r : List α} {x d : α} {i : Nat} (hd : l.drop i = x :: r) : i < l.length ∧ l.getD (0 + (i : Int).toNat) d = x ∧ l.drop (i + 1) = r := by
  have h1 : i < l.length := by
    rcases Nat.lt_or_ge i l.length with h1 | h1
    · exact h1
    · rw [List.drop_eq_nil_of_le h1] at hd; cases hd
  rw [List.drop_eq_getElem_cons h1] at hd
  injection hd with h2 h3
  refine ⟨h1, ?_, h3⟩
  simp [h1, h2]

theorem nilL {α : Type} {l : List α} {i : Nat} (h : l.drop i = []) (hi : i ≤ l.length) : i = l.length := by
  have := congrArg List.length h
  simp at this; omega

theorem crcPl {β : Type} {F : Nat} {b : List Int} {K : Int → Option β} (hb : b.length ≤ 100000) : ∀ (r : List Int) (i k : Nat) (n : Int), b.drop i = r → i ≤ b.length → r.length < k →
    f112_1_l4 F ((b.length : Nat) : Int) b tb K k n (i : Int) = K (crcS n r)
  | [], i, 0, _, _, _, hk => by simp at hk
  | _ :: _, i, 0, _, _, _, hk => by simp at hk
  | [], i, k + 1, n, hd, hi, _ => by
    have := nilL hd hi
    rw [f112_1_l4, cf (by omega)]; rfl
  | c :: r, i, k + 1, n, hd, hi, hk => by
    obtain ⟨h1, h2, h3⟩ := atL (d := (0 : Int)) hd
    have hx := x8 (IntKind.u8.wrap n) c
    rw [f112_1_l4, ct (by omega), ct (by omega), ct (by omega), h2, ct hx, ct (by rw [tb_len]; omega), w64 (by omega) (by omega), crcS]
    exact crcPl hb r (i + 1) k _ h3 (by omega) (by simp at hk; omega)

theorem crcP {β : Type} {b : List Int} {K : Int → Option β} (hb : b.length ≤ 10000) : f80_1 20000 b K = K (crc b) := by
  rw [f80_1, f112_1, tableP]
  exact crcPl (K := fun x7 => K (ixor .u32 4294967295 x7)) (by omega) b 0 20000 _ rfl (by omega) (by omega)

theorem crcRl {β : Type} {b : List Int} {K : Int → Option β} (hb : b.length ≤ 100000) : ∀ (r : List Int) (i k : Nat) (n : Int), b.drop i = r → i ≤ b.length → r.length < k → 0 ≤ n ∧ n < 4294967296 →
    f83_1_l3 20000 b K k n (i : Int) = K (crcS n r)
  | [], i, 0, _, _, _, hk, _ => by simp at hk
  | _ :: _, i, 0, _, _, _, hk, _ => by simp at hk
  | [], i, k + 1, n, hd, hi, _, _ => by
    have := nilL hd hi
    rw [f83_1_l3, cf (by omega)]; rfl
  | c :: r, i, k + 1, n, hd, hi, hk, hn => by
    obtain ⟨h1, h2, h3⟩ := atL (d := (0 : Int)) hd
    have hx := x8 (IntKind.u8.wrap n) c
    rw [f83_1_l3, ct (by omega), ct (by omega), ct (by omega), h2, entR hx, w64 (by omega) (by omega), sh8 hn, crcS]
    exact crcRl hb r (i + 1) k _ h3 (by omega) (by simp at hk; omega) (x32 _ _)

theorem crcR {β : Type} {b : List Int} {K : Int → Option β} (hb : b.length ≤ 10000) : f42_1 20000 b K = K (crc b) := by
  rw [f42_1, f83_1]
  exact crcRl (K := fun x7 => K (ixor .u32 4294967295 x7)) (by omega) b 0 20000 _ rfl (by omega) (by omega) (x32 _ _)

/-! ### Numbers as bytes -/

def b4 (n : Int) : List Int := [IntKind.u8.wrap (ishr .u64 n 24), IntKind.u8.wrap (ishr .u64 n 16), IntKind.u8.wrap (ishr .u64 n 8), IntKind.u8.wrap (ishr .u64 n 0)]
theorem put4 {β : Type} {n : Int} {K : List Int → Option β} : f47_1 20000 4 n [] K = K (b4 n) := by kernel_rfl
theorem text4 {β : Type} {n : Int} {K : ByteArray → Option β} : f40_1 20000 4 n K = K (ofInts (b4 n)) := by kernel_rfl
theorem text1 {β : Type} {n : Int} {K : ByteArray → Option β} : f40_1 20000 1 n K = K (ofInts [IntKind.u8.wrap (ishr .u64 n 0)]) := by kernel_rfl

end Go.Proofs.YtillbabmlfjegaaDoor.X
end

section
/- Records: made, opened; the code's and the document's, in one form. -/
namespace Go.Proofs.YtillbabmlfjegaaDoor.X
open Go Go.Proofs.YtillbabmlfjegaaDoor.Ev
set_option linter.unusedSectionVars false
variable [FZ]
set_option linter.unusedVariables false
set_option linter.unusedSimpArgs false

/-! ### Bytes -/

abbrev D (s : ByteArray) : List UInt8 := s.data.toList

theorem extB {s t : ByteArray} (h : D s = D t) : s = t := by
  cases s; cases t
  congr
  exact Array.toList_inj.1 h

theorem D_app (s t : ByteArray) : D (s ++ t) = D s ++ D t := by simp [D]
theorem D_ext (s : ByteArray) (a b : Nat) : D (s.extract a b) = ((D s).drop a).take (b - a) := by
  simp only [D, ByteArray.data_extract, Array.toList_extract, List.extract_eq_take_drop]
theorem D_size (s : ByteArray) : s.size = (D s).length := Array.length_toList.symm
theorem D_ofInts (l : List Int) : D (ofInts l) = l.map fun n => UInt8.ofNat n.toNat := by simp [D, ofInts]
theorem toInts_D (s : ByteArray) : toInts s = (D s).map fun c => (c.toNat : Int) := rfl

theorem loopB (s : ByteArray) : ∀ (m i : Nat) (r : List UInt8), i + m = s.size → ByteArray.toList.loop s i r = r.reverse ++ (D s).drop i
  | 0, i, r, h => by
    rw [ByteArray.toList.loop, if_neg (by omega), List.drop_eq_nil_of_le (by rw [← D_size]; omega), List.append_nil]
  | m + 1, i, r, h => by
    have h1 : i < (D s).length := by rw [← D_size]; omega
    rw [ByteArray.toList.loop, if_pos (by omega), loopB s m (i + 1) _ (by omega), List.drop_eq_getElem_cons h1]
    have : s.get! i = (D s)[i] := by
      have h2 : i < s.data.size := by have := h1; simpa [D] using this
      simp only [ByteArray.get!, D, Array.getElem_toList]
      exact getElem!_pos s.data i h2
    rw [this]; simp

theorem toList_D (s : ByteArray) : s.toList = D s := by
  rw [ByteArray.toList, loopB s s.size 0 [] (by omega)]; rfl

theorem beqB {s t : ByteArray} : (s.toList == t.toList) = decide (s = t) := by
  rw [toList_D, toList_D, Bool.eq_iff_iff]
  simp only [beq_iff_eq, decide_eq_true_eq]
  exact ⟨extB, fun h => by rw [h]⟩

/-! ### A record -/

def front (k : Int) (b : ByteArray) : ByteArray := ⟨(UInt8.ofNat k.toNat :: UInt8.ofNat b.size :: (D b ++ List.replicate (58 - b.size) 0)).toArray⟩
def mkB (k : Int) (b : ByteArray) : ByteArray := front k b ++ ofInts (b4 (crc (toInts (front k b))))
def mkR (k : Int) (b : ByteArray) : ByteArray × Int := if k < 1 ∨ k > 8 then (ByteArray.empty, 22) else if b.size > 58 then (ByteArray.empty, 8) else (mkB k b, 0)

theorem front_D (k : Int) (b : ByteArray) : D (front k b) = UInt8.ofNat k.toNat :: UInt8.ofNat b.size :: (D b ++ List.replicate (58 - b.size) 0) := by simp [D, front]
theorem front_size {k : Int} {b : ByteArray} (h : b.size ≤ 58) : (front k b).size = 60 := by
  rw [D_size, front_D]; simp [← D_size]
  have := D_size b
  simp [D] at this
  omega

theorem crc_r (b : List Int) : 0 ≤ crc b ∧ crc b < 4294967296 := x32 _ _

theorem sumP {β : Type} {s : ByteArray} (h : 60 ≤ s.size) {K : ByteArray → Option β} : f39_1 20000 s K = K (ofInts (b4 (crc (toInts (s.extract 0 60))))) := by
  have hc := crc_r (toInts (s.extract 0 60))
  have hl : (toInts (s.extract 0 60)).length ≤ 60 := by
    rw [toInts_D, D_ext]; simp; omega
  rw [f39_1, ct (by omega), crcP (by omega), wu64 (by omega) (by omega), put4]

theorem ext_all {s : ByteArray} {n : Nat} (h : s.size = n) : s.extract 0 n = s := by
  apply extB
  rw [D_ext, List.drop_zero, List.take_of_length_le (by rw [← D_size]; omega)]

theorem rep0 (n : Nat) : D (rep ⟨#[0]⟩ n) = List.replicate n 0 := by
  show D ⟨(Lib.repeatL [0] n).toArray⟩ = _
  have : ∀ n, Lib.repeatL [(0 : UInt8)] n = List.replicate n 0 := fun n => by
    induction n with
    | zero => rfl
    | succ n ih => simp [Lib.repeatL, ih, List.replicate_succ]
  simp [D, this]

theorem u8n {n : Int} (h : 0 ≤ n ∧ n < 256) : IntKind.u8.wrap n = n := wu8 h.1 h.2

theorem shr0 {n : Int} (h : 0 ≤ n) : ishr .u64 n 0 = n := by
  have e : (2 : Int) ^ (min (0 : Int).toNat IntKind.u64.bits) = 1 := by decide
  rw [ishr, e, Int.fdiv_eq_ediv_of_nonneg _ (by omega), Int.ediv_one]

theorem makeP {β : Type} {k : Int} {b : ByteArray} (hb : b.size ≤ maxLen) {K : ByteArray → Int → Option β} : f10_1 20000 k b K = K (mkR k b).1 (mkR k b).2 := by
  rw [f10_1, mkR]
  by_cases h1 : k < 1
  · rw [ct h1, if_pos (.inl h1)]
  · by_cases h2 : k > 8
    · rw [cf h1, ct h2, if_pos (.inr h2)]
    · rw [cf h1, cf h2, if_neg (by omega)]
      by_cases h3 : b.size > 58
      · rw [ct (by omega), if_pos h3]
      · have hs2 : (ofInts [IntKind.u8.wrap k, IntKind.u8.wrap (b.size : Int)]).size = 2 := by rw [D_size, D_ofInts]; rfl
        have hs : (ofInts [IntKind.u8.wrap k, IntKind.u8.wrap (b.size : Int)] ++ b).size = 2 + b.size := by rw [D_size, D_app, List.length_append, ← D_size, ← D_size, hs2]
        rw [cf (by omega), if_neg h3, ct (by omega), f38_1, hs, w64 (by omega) (by omega), ct ⟨by omega, by omega, by
          have : (⟨#[0]⟩ : ByteArray).size = 1 := rfl
          rw [this]; omega⟩]
        have hf : ofInts [IntKind.u8.wrap k, IntKind.u8.wrap (b.size : Int)] ++ b ++ rep ⟨#[0]⟩ (60 - ((2 + b.size : Nat) : Int)).toNat = front k b := by
          apply extB
          rw [D_app, D_app, rep0, D_ofInts, front_D, u8n (by omega), u8n (by omega), show (60 - ((2 + b.size : Nat) : Int)).toNat = 58 - b.size by omega]
          simp
        have hfs := front_size (k := k) (b := b) (by omega)
        have hr : (rep ⟨#[0]⟩ (60 - ((2 + b.size : Nat) : Int)).toNat).size ≤ 60 := by rw [D_size, rep0]; simp; omega
        rw [ct (by omega), hf, sumP (by omega), ext_all hfs, ct (by
          rw [hfs, D_size, D_ofInts]; simp [b4])]
        rfl

noncomputable def Z64 : ByteArray := ofInts (List.replicate 64 0)
theorem zero64 {β : Type} {K : ByteArray → Option β} : f41_1 20000 K = K Z64 := by kernel_rfl
theorem Z64_D : D Z64 = List.replicate 64 0 := by rw [Z64, D_ofInts]; rfl

theorem makeR {β : Type} {k : Int} {b : ByteArray} (hb : b.size ≤ maxLen) {K : ByteArray → Int → Option β} : f11_1 20000 k b K = K (mkR k b).1 (mkR k b).2 := by
  rw [f11_1, mkR]
  by_cases h1 : k < 1
  · rw [ct h1, if_pos (.inl h1)]
  · by_cases h2 : k > 8
    · rw [cf h1, ct h2, if_pos (.inr h2)]
    · rw [cf h1, cf h2, if_neg (by omega)]
      by_cases h3 : b.size > 58
      · rw [ct (by omega), if_pos h3]
      · have hz : Z64.size = 64 := by rw [D_size, Z64_D]; simp
        have hs2 : (ofInts [k] ++ ofInts [(b.size : Int)]).size = 2 := by rw [D_size, D_app, D_ofInts, D_ofInts]; rfl
        have hs : (ofInts [k] ++ ofInts [(b.size : Int)] ++ b).size = 2 + b.size := by rw [D_size, D_app, List.length_append, ← D_size, ← D_size, hs2]
        rw [cf (by omega), if_neg h3, text1, text1, wu64 (by omega) (by omega), wu64 (by omega) (by omega), shr0 (by omega), shr0 (by omega), u8n (by omega), u8n (by omega)]
        have h11 : ∀ n : Int, (ofInts [n]).size = 1 := fun n => by rw [D_size, D_ofInts]; rfl
        rw [ct (by rw [h11, h11]; omega), ct (by rw [hs2]; omega), zero64, hs, ct (by omega)]
        have hf : ofInts [k] ++ ofInts [(b.size : Int)] ++ b ++ Z64.extract ((2 + b.size : Nat) : Int).toNat 60 = front k b := by
          apply extB
          rw [D_app, D_app, D_app, D_ext, D_ofInts, D_ofInts, front_D, Z64_D, show ((2 + b.size : Nat) : Int).toNat = 2 + b.size by omega, List.drop_replicate, List.take_replicate, show min (60 - (2 + b.size)) (64 - (2 + b.size)) = 58 - b.size by omega]
          simp
        have hfs := front_size (k := k) (b := b) (by omega)
        have hext : (Z64.extract ((2 + b.size : Nat) : Int).toNat 60).size ≤ 60 := by rw [D_size, D_ext]; simp; omega
        have hc := crc_r (toInts (front k b))
        have hl : (toInts (front k b)).length = 60 := by rw [toInts_D, List.length_map, ← D_size]; exact hfs
        rw [ct (by omega), hf, crcR (by omega), wu64 (by omega) (by omega), text4, ct (by
          rw [hfs, D_size, D_ofInts]; simp [b4])]
        rfl

/-! ### What a sector is -/

def byt (s : ByteArray) (i : Nat) : Int := ((s.data.getD i 0).toNat : Int)
theorem byt_r (s : ByteArray) (i : Nat) : 0 ≤ byt s i ∧ byt s i < 256 := by
  have := (s.data.getD i 0).toNat_lt
  unfold byt; omega
def sm (s : ByteArray) : ByteArray := ofInts (b4 (crc (toInts (s.extract 0 60))))
def zer (s : ByteArray) (n : Nat) : Bool := (((D s).drop n).take (60 - n)).all (· == 0)
def kd (s : ByteArray) : Int × Int := if s.size ≠ 64 then (0, 4) else if ((sm s).toList == (s.extract 60 64).toList) = false then (0, 9) else
  if byt s 0 < 1 ∨ byt s 0 > 8 ∨ byt s 1 > 58 ∨ zer s (2 + (byt s 1).toNat) = false then (0, 6) else (byt s 0, 0)

theorem dropW_nil {p : UInt8 → Bool} : ∀ l : List UInt8, l.dropWhile p = [] ↔ l.all p = true
  | [] => by simp
  | x :: r => by
    rw [List.dropWhile_cons, List.all_cons]
    cases h : p x with
    | true => simpa using dropW_nil r
    | false => simp

theorem dropW_head {p : UInt8 → Bool} : ∀ (l : List UInt8) {y : UInt8} {r : List UInt8}, l.dropWhile p = y :: r → p y = false
  | [], y, r, h => by cases h
  | x :: l, y, r, h => by
    rw [List.dropWhile_cons] at h
    cases hx : p x with
    | true => rw [hx, if_pos rfl] at h; exact dropW_head l h
    | false => rw [hx, if_neg (by simp)] at h; injection h with h1 h2; rw [← h1]; exact hx

theorem trim_nil (l : List UInt8) : Lib.trimS l [0] = [] ↔ l.all (· == 0) = true := by
  have hp : ∀ x : UInt8, [(0 : UInt8)].contains x = (x == 0) := fun x => by rw [Bool.eq_iff_iff]; simp
  rw [Lib.trimS, Lib.trimLeftS, Lib.trimRightS, dropW_nil]
  constructor
  · intro h
    cases hq : l.reverse.dropWhile ([(0 : UInt8)].contains ·) with
    | nil =>
      have := (dropW_nil _).1 hq
      rw [List.all_reverse] at this
      simpa [hp] using this
    | cons y r =>
      have h1 := dropW_head _ hq
      rw [hq, List.all_reverse, List.all_cons, h1] at h
      cases h
  · intro h
    have : l.reverse.dropWhile ([(0 : UInt8)].contains ·) = [] := (dropW_nil _).2 (by rw [List.all_reverse]; simpa [hp] using h)
    rw [this]; rfl

theorem trm0 (x : ByteArray) : ((trm x ⟨#[0]⟩).toList == ByteArray.empty.toList) = (D x).all (· == 0) := by
  rw [beqB, Bool.eq_iff_iff, decide_eq_true_eq, ← trim_nil]
  constructor
  · intro h
    have : D (trm x ⟨#[0]⟩) = [] := by rw [h]; rfl
    simpa [D, trm] using this
  · intro h
    apply extB
    show D (trm x ⟨#[0]⟩) = []
    simpa [D, trm] using h

theorem kindP {β : Type} {s : ByteArray} {K : Int → Int → Option β} : f15_1 20000 s K = K (kd s).1 (kd s).2 := by
  rw [f15_1, f43_1, kd]
  by_cases h1 : s.size = 64
  · have b0 := byt_r s 0
    have b1 := byt_r s 1
    have e0 : ((s.data.getD 0 0).toNat : Int) = byt s 0 := rfl
    have e1 : ((s.data.getD 1 0).toNat : Int) = byt s 1 := rfl
    rw [show ((s.size : Int) == 64) = true by simp; omega, Bool.not_true, cond_false, if_neg (by omega), ct (by omega), sumP (by omega), show ((s.size : Int).toNat) = 64 by omega, e0, e1, w64 (x := byt s 0) (by omega) (by omega), w64 (x := byt s 1) (by omega) (by omega), ← sm]
    cases h2 : ((sm s).toList == (s.extract 60 64).toList) with
    | false => rfl
    | true =>
      rw [Bool.not_true, cond_false, if_neg (by simp), ct (by omega), ct (by omega)]
      by_cases h3 : byt s 0 < 1
      · rw [ct h3, if_pos (.inl h3)]
      · by_cases h4 : byt s 0 > 8
        · rw [cf h3, ct h4, if_pos (.inr (.inl h4))]
        · by_cases h5 : byt s 1 > 58
          · rw [cf h3, cf h4, ct h5, if_pos (.inr (.inr (.inl h5)))]
          · have hn : (2 + byt s 1).toNat = 2 + (byt s 1).toNat := by omega
            have hx : D (s.extract (2 + byt s 1).toNat 60) = ((D s).drop (2 + (byt s 1).toNat)).take (60 - (2 + (byt s 1).toNat)) := by rw [D_ext, hn]
            have hxs : (s.extract (2 + byt s 1).toNat 60).size ≤ 64 := by rw [D_size, hx]; simp; omega
            rw [cf h3, cf h4, cf h5, w64 (x := 2 + byt s 1) (by omega) (by omega), ct (by omega), f44_1, ct ⟨by omega, by decide, by decide⟩, trm0, hx, ← zer]
            cases h6 : zer s (2 + (byt s 1).toNat) with
            | true => rw [Bool.not_true, cond_false, if_neg (by simp; omega)]
            | false => rw [Bool.not_false, cond_true, if_pos (.inr (.inr (.inr rfl)))]
  · rw [show ((s.size : Int) == 64) = false by simp; omega, Bool.not_false, cond_true, if_pos h1]

theorem zerL {β : Type} {s : ByteArray} {K0 K1 : Option β} (hs : s.size = 64) : ∀ (m i k : Nat), i + m = 60 → m < k → f16_1_l8 20000 s K0 K1 k (i : Int) = if zer s i then K1 else K0
  | _, _, 0, _, h => by omega
  | 0, i, k + 1, hi, _ => by rw [f16_1_l8, cf (by omega), zer, show 60 - i = 0 by omega]; simp
  | m + 1, i, k + 1, hi, hk => by
    have hl : i < (D s).length := by rw [← D_size]; omega
    have hg : s.data.getD i 0 = (D s)[i] := by
      have h2 : i < s.data.size := by have := hl; simpa [D] using this
      simp only [Array.getD_eq_getD_getElem?, Array.getElem?_eq_getElem h2, Option.getD_some, D, Array.getElem_toList]
    rw [f16_1_l8, ct (by omega), ct (by omega), show ((i : Int)).toNat = i from rfl, hg, w64 (by omega) (by omega), zer, List.drop_eq_getElem_cons hl, show 60 - i = (60 - (i + 1)) + 1 by omega, List.take_succ_cons, List.all_cons, ← zer]
    have ih := zerL (K0 := K0) (K1 := K1) hs m (i + 1) k (by omega) (by omega)
    push_cast at ih
    by_cases h0 : (D s)[i] = 0
    · rw [h0, show (((0 : UInt8).toNat : Int) != 0) = false from rfl, cond_false, ih]; simp
    · have : (((D s)[i].toNat : Int) != 0) = true := by
        simp only [bne_iff_ne, ne_eq]
        intro h
        exact h0 (UInt8.toNat_inj.1 (by simpa using h))
      rw [this, cond_true, beq_eq_false_iff_ne.2 h0]; simp

theorem kindR {β : Type} {s : ByteArray} {K : Int → Int → Option β} : f16_1 20000 s K = K (kd s).1 (kd s).2 := by
  rw [f16_1, f45_1, kd]
  by_cases h1 : s.size = 64
  · have b0 := byt_r s 0
    have b1 := byt_r s 1
    have e0 : ((s.data.getD 0 0).toNat : Int) = byt s 0 := rfl
    have e1 : ((s.data.getD 1 0).toNat : Int) = byt s 1 := rfl
    have hc := crc_r (toInts (s.extract 0 60))
    have hl : (toInts (s.extract 0 60)).length ≤ 60 := by
      rw [toInts_D, D_ext]; simp; omega
    rw [show ((s.size : Int) == 64) = true by simp; omega, Bool.not_true, cond_false, if_neg (by omega), ct (by omega), ct (by omega), crcR (by omega), wu64 (by omega) (by omega), text4, show ((s.size : Int).toNat) = 64 by omega, e0, e1, w64 (x := byt s 0) (by omega) (by omega), w64 (x := byt s 1) (by omega) (by omega), ← sm]
    cases h2 : ((sm s).toList == (s.extract 60 64).toList) with
    | false => rfl
    | true =>
      rw [Bool.not_true, cond_false, if_neg (by simp), ct (by omega)]
      by_cases h3 : byt s 0 < 1
      · rw [ct h3, if_pos (.inl h3)]
      · by_cases h4 : byt s 0 > 8
        · rw [cf h3, ct (by omega), ct h4, if_pos (.inr (.inl h4))]
        · by_cases h5 : byt s 1 > 58
          · rw [cf h3, ct (by omega), cf h4, ct (by omega), ct h5, if_pos (.inr (.inr (.inl h5)))]
          · rw [cf h3, ct (by omega), cf h4, ct (by omega), cf h5, ct (by omega), w64 (x := 2 + byt s 1) (by omega) (by omega), ct (by omega), show (2 + byt s 1) = ((2 + (byt s 1).toNat : Nat) : Int) by omega, zerL h1 (60 - (2 + (byt s 1).toNat)) (2 + (byt s 1).toNat) 20000 (by omega) (by omega)]
            cases h6 : zer s (2 + (byt s 1).toNat) with
            | true => rw [if_pos rfl, if_neg (by simp; omega)]
            | false => rw [if_neg (by simp), if_pos (.inr (.inr (.inr rfl)))]
  · rw [show ((s.size : Int) == 64) = false by simp; omega, Bool.not_false, cond_true, if_pos h1]

theorem kd_size {s : ByteArray} (h : (kd s).2 = 0) : s.size = 64 ∧ byt s 1 ≤ 58 ∧ zer s (2 + (byt s 1).toNat) = true ∧ (kd s).1 = byt s 0 ∧ 1 ≤ byt s 0 ∧ byt s 0 ≤ 8 ∧ ((sm s).toList == (s.extract 60 64).toList) = true := by
  unfold kd at h ⊢
  split at h
  · cases h
  · rename_i h1
    split at h
    · cases h
    · rename_i h2
      split at h
      · cases h
      · rename_i h3
        rw [if_neg h1, if_neg h2, if_neg h3]
        refine ⟨by omega, by omega, ?_, rfl, by omega, by omega, by simpa using h2⟩
        cases hz : zer s (2 + (byt s 1).toNat) with
        | true => rfl
        | false => exact (h3 (.inr (.inr (.inr hz)))).elim

def opn (k : Int) (s : ByteArray) : ByteArray × Int := if (kd s).2 ≠ 0 then (ByteArray.empty, (kd s).2) else if (kd s).1 ≠ k then (ByteArray.empty, 22) else (s.extract 2 (2 + (byt s 1).toNat), 0)

theorem openP {β : Type} {k : Int} {s : ByteArray} {K : ByteArray → Int → Option β} : f13_1 20000 k s K = K (opn k s).1 (opn k s).2 := by
  rw [f13_1, kindP, opn]
  have e1 : ((s.data.getD 1 0).toNat : Int) = byt s 1 := rfl
  have b1 := byt_r s 1
  by_cases h1 : (kd s).2 = 0
  · obtain ⟨q1, q2, _⟩ := kd_size h1
    rw [h1, show ((0 : Int) != 0) = false from rfl, cond_false, if_neg (by simp), e1, w64 (x := byt s 1) (by omega) (by omega), w64 (x := 2 + byt s 1) (by omega) (by omega)]
    by_cases h2 : (kd s).1 = k
    · rw [h2, show (k != k) = false by simp, cond_false, if_neg (by simp), ct (by omega), ct (by omega), show (2 + byt s 1).toNat = 2 + (byt s 1).toNat by omega]
    · rw [show ((kd s).1 != k) = true by simp [h2], cond_true, if_pos h2]
  · rw [show ((kd s).2 != 0) = true by simp [h1], cond_true, if_pos h1]

theorem openR {β : Type} {k : Int} {s : ByteArray} {K : ByteArray → Int → Option β} : f14_1 20000 k s K = K (opn k s).1 (opn k s).2 := by
  rw [f14_1, kindR, opn]
  have e1 : ((s.data.getD 1 0).toNat : Int) = byt s 1 := rfl
  have b1 := byt_r s 1
  by_cases h1 : (kd s).2 = 0
  · obtain ⟨q1, q2, _⟩ := kd_size h1
    rw [h1, show ((0 : Int) != 0) = false from rfl, cond_false, if_neg (by simp), e1, w64 (x := byt s 1) (by omega) (by omega), w64 (x := 2 + byt s 1) (by omega) (by omega)]
    by_cases h2 : (kd s).1 = k
    · rw [h2, show (k != k) = false by simp, cond_false, if_neg (by simp), ct (by omega), ct (by omega), show (2 + byt s 1).toNat = 2 + (byt s 1).toNat by omega]
    · rw [show ((kd s).1 != k) = true by simp [h2], cond_true, if_pos h2]
  · rw [show ((kd s).2 != 0) = true by simp [h1], cond_true, if_pos h1]

end Go.Proofs.YtillbabmlfjegaaDoor.X
end

section
/- Records: what is made is opened again, and the other way round. -/
namespace Go.Proofs.YtillbabmlfjegaaDoor.X
open Go Go.Proofs.YtillbabmlfjegaaDoor.Ev
set_option linter.unusedSectionVars false
variable [FZ]
set_option linter.unusedVariables false
set_option linter.unusedSimpArgs false

theorem mkB_D (k : Int) (b : ByteArray) : D (mkB k b) = UInt8.ofNat k.toNat :: UInt8.ofNat b.size :: (D b ++ (List.replicate (58 - b.size) 0 ++ D (ofInts (b4 (crc (toInts (front k b))))))) := by
  rw [mkB, D_app, front_D]; simp

theorem b4_size (n : Int) : (ofInts (b4 n)).size = 4 := by rw [D_size, D_ofInts]; rfl

theorem mkB_size {k : Int} {b : ByteArray} (h : b.size ≤ 58) : (mkB k b).size = 64 := by
  have hf := front_size (k := k) h
  have hc := b4_size (crc (toInts (front k b)))
  rw [D_size] at hf hc
  rw [D_size, mkB, D_app, List.length_append, hf, hc]

theorem mkB_front {k : Int} {b : ByteArray} (h : b.size ≤ 58) : (mkB k b).extract 0 60 = front k b := by
  have hf := front_size (k := k) h
  rw [D_size] at hf
  apply extB
  rw [D_ext, mkB, D_app, List.drop_zero, List.take_append_of_le_length (by omega), List.take_of_length_le (by omega)]

theorem mkB_sum {k : Int} {b : ByteArray} (h : b.size ≤ 58) : (mkB k b).extract 60 64 = sm (mkB k b) := by
  have hf := front_size (k := k) h
  have hc := b4_size (crc (toInts (front k b)))
  rw [D_size] at hf hc
  rw [sm, mkB_front h]
  apply extB
  rw [D_ext, mkB, D_app, List.drop_append_of_le_length (by omega), List.drop_eq_nil_of_le (by omega), List.nil_append, List.take_of_length_le (by omega)]

theorem getD_D (s : ByteArray) (i : Nat) : s.data.getD i 0 = (D s).getD i 0 := by simp [D]

theorem mkB_b0 {k : Int} {b : ByteArray} (h1 : 1 ≤ k) (h2 : k ≤ 8) : byt (mkB k b) 0 = k := by
  rw [byt, getD_D, mkB_D]
  show ((UInt8.ofNat k.toNat).toNat : Int) = k
  rw [UInt8.toNat_ofNat']; omega

theorem mkB_b1 {k : Int} {b : ByteArray} (h : b.size ≤ 58) : byt (mkB k b) 1 = (b.size : Int) := by
  rw [byt, getD_D, mkB_D]
  show ((UInt8.ofNat b.size).toNat : Int) = b.size
  rw [UInt8.toNat_ofNat']; omega

theorem mkB_drop {k : Int} {b : ByteArray} : (D (mkB k b)).drop (2 + b.size) = List.replicate (58 - b.size) 0 ++ D (ofInts (b4 (crc (toInts (front k b))))) := by
  have h := D_size b
  rw [mkB_D, show 2 + b.size = b.size + 1 + 1 by omega, List.drop_succ_cons, List.drop_succ_cons, List.drop_append_of_le_length (by omega), List.drop_eq_nil_of_le (by omega), List.nil_append]

theorem mkB_kd {k : Int} {b : ByteArray} (h1 : 1 ≤ k) (h2 : k ≤ 8) (h : b.size ≤ 58) : kd (mkB k b) = (k, 0) := by
  rw [kd, mkB_size h, if_neg (by omega), mkB_sum h, if_neg (by simp), mkB_b0 h1 h2, mkB_b1 h, if_neg]
  rw [show (2 + ((b.size : Nat) : Int).toNat) = 2 + b.size by omega, zer, mkB_drop, List.take_append_of_le_length (by simp; omega), List.take_of_length_le (by simp; omega)]
  simp; omega

theorem mkB_open {k : Int} {b : ByteArray} (h1 : 1 ≤ k) (h2 : k ≤ 8) (h : b.size ≤ 58) : opn k (mkB k b) = (b, 0) := by
  have hs := D_size b
  rw [opn, mkB_kd h1 h2 h, if_neg (by simp), if_neg (by simp), mkB_b1 h, show (2 + ((b.size : Nat) : Int).toNat) = 2 + b.size by omega]
  congr 1
  apply extB
  rw [D_ext, mkB_D, show (2 : Nat) = 1 + 1 from rfl, List.drop_succ_cons, List.drop_succ_cons, List.drop_zero, show 1 + 1 + b.size - (1 + 1) = b.size by omega, List.take_append_of_le_length (by omega), List.take_of_length_le (by omega)]

theorem all0 : ∀ (l : List UInt8), l.all (· == 0) = true → l = List.replicate l.length 0
  | [], _ => rfl
  | x :: r, h => by
    rw [List.all_cons, Bool.and_eq_true, beq_iff_eq] at h
    rw [List.length_cons, List.replicate_succ, ← all0 r h.2, h.1]

theorem opn_mk {k : Int} {s b : ByteArray} (h : opn k s = (b, 0)) : mkR k b = (s, 0) := by
  unfold opn at h
  split at h
  · rename_i h1
    injection h with _ h2
    exact (h1 h2).elim
  · rename_i h1
    split at h
    · injection h with _ h2; cases h2
    · rename_i h2
      injection h with h3 _
      have h1' : (kd s).2 = 0 := Classical.not_not.1 h1
      obtain ⟨q1, q2, q3, q4, q5, q6, q7⟩ := kd_size h1'
      have hk : byt s 0 = k := q4.symm.trans (Classical.not_not.1 h2)
      have hsz : (D s).length = 64 := by rw [← D_size]; exact q1
      have hb1 := byt_r s 1
      have hDb : D b = ((D s).drop 2).take (byt s 1).toNat := by rw [← h3, D_ext]; congr 1; omega
      have hbs : b.size = (byt s 1).toNat := by rw [D_size, hDb]; simp; omega
      have hmem : ∀ i, i < 64 → ∃ x, (D s)[i]? = some x := fun i hi => ⟨_, List.getElem?_eq_getElem (by omega)⟩
      have hf : front k b = s.extract 0 60 := by
        apply extB
        rw [front_D, D_ext, List.drop_zero, hbs, hDb, ← hk, byt, getD_D, byt, getD_D]
        rw [byt, getD_D] at q3 q2 hb1
        generalize hn : (((D s).getD 1 0).toNat : Int) = n at q3 q2 hb1
        match hq : D s, hsz with
        | x :: y :: r, hsz =>
          rw [hq] at hn
          have hx : UInt8.ofNat ((((x :: y :: r).getD 0 0).toNat : Int).toNat) = x := by simp
          have hy : UInt8.ofNat n.toNat = y := by rw [← hn]; simp
          rw [hx, hy]
          rw [zer, hq] at q3
          have hz := all0 _ q3
          rw [show 2 + n.toNat = n.toNat + 1 + 1 by omega, List.drop_succ_cons, List.drop_succ_cons] at hz
          simp only [List.length_cons] at hsz
          have hlen : (List.take (60 - (n.toNat + 1 + 1)) (List.drop n.toNat r)).length = 58 - n.toNat := by simp; omega
          rw [hlen] at hz
          rw [← hz, show (2 : Nat) = 1 + 1 from rfl, List.drop_succ_cons, List.drop_succ_cons, List.drop_zero, show 60 - 0 = 58 + 1 + 1 from rfl, List.take_succ_cons, List.take_succ_cons, show 60 - (n.toNat + 1 + 1) = 58 - n.toNat by omega]
          congr 2
          have := List.take_append_drop n.toNat (r.take 58)
          rw [List.take_take, List.drop_take, Nat.min_eq_left (by omega)] at this
          exact this
      rw [mkR, if_neg (by omega), if_neg (by omega)]
      congr 1
      have q8 : sm s = s.extract 60 64 := by
        rw [beqB] at q7; exact of_decide_eq_true q7
      rw [mkB, hf, ← sm, q8]
      apply extB
      rw [D_app, D_ext, D_ext, List.drop_zero, show 64 - 60 = 4 from rfl, List.take_of_length_le (l := (D s).drop 60) (by simp; omega)]
      exact List.take_append_drop 60 (D s)

end Go.Proofs.YtillbabmlfjegaaDoor.X
end

section
/- Numbers read from bytes; the code's and the document's, in one form. -/
namespace Go.Proofs.YtillbabmlfjegaaDoor.X
open Go Go.Proofs.YtillbabmlfjegaaDoor.Ev
set_option linter.unusedSectionVars false
variable [FZ]
set_option linter.unusedVariables false
set_option linter.unusedSimpArgs false

def num (v : Int) (l : List Int) : Int := l.foldl (fun v b => v * 256 + b) v

theorem shlor {v b : Int} (hv : 0 ≤ v ∧ v < 72057594037927936) (hb : 0 ≤ b ∧ b < 256) : ior .u64 (ishl .u64 v 8) b = v * 256 + b := by
  obtain ⟨V, rfl⟩ : ∃ V : Nat, v = (V : Int) := ⟨v.toNat, by omega⟩
  obtain ⟨B, rfl⟩ : ∃ B : Nat, b = (B : Int) := ⟨b.toNat, by omega⟩
  have e : (2 : Int) ^ (min (8 : Int).toNat IntKind.u64.bits) = 256 := by decide
  have e1 : ishl .u64 (V : Int) 8 = ((V * 256 : Nat) : Int) := by
    rw [ishl, e, wu64 (by omega) (by omega)]; omega
  rw [e1, or64 (by omega) (by omega)]
  have := Nat.two_pow_add_eq_or_of_lt (i := 8) (b := B) (by omega) V
  have h2 : 2 ^ 8 * V = V * 256 := by omega
  rw [h2] at this
  rw [← this]; omega

theorem getPl {β : Type} {F at_ w : Nat} {l : List Int} {K : Int → Option β} (hw : w ≤ 8) (hl : at_ + w ≤ l.length) (hb : ∀ x ∈ l, 0 ≤ x ∧ x < 256) : ∀ (m i k : Nat) (v : Int), m + i = w → m < k → 0 ≤ v ∧ v < 256 ^ i →
    f93_1_l7 F at_ w (w : Int) l K k v (i : Int) = K (num v ((l.drop (at_ + i)).take m))
  | _, _, 0, _, _, h, _ => by omega
  | 0, i, k + 1, v, hi, _, _ => by rw [f93_1_l7, cf (by omega)]; rfl
  | m + 1, i, k + 1, v, hi, hk, hv => by
    have h1 : at_ + i < l.length := by omega
    have hx := hb _ (List.getElem_mem h1)
    have hg : l.getD (at_ + (i : Int).toNat) 0 = l[at_ + i] := by simp [h1]
    have hp : (256 : Int) ^ i ≤ 256 ^ 7 := by
      have : (256 : Nat) ^ i ≤ 256 ^ 7 := Nat.pow_le_pow_right (by decide) (by omega)
      have h := Int.ofNat_le.2 this
      rw [Int.natCast_pow, Int.natCast_pow] at h
      exact h
    have hv2 : v * 256 + l[at_ + i] < 256 ^ (i + 1) := by rw [Int.pow_succ]; omega
    rw [f93_1_l7, ct (by omega), ct (by omega), ct (by omega), hg, wu64 (by omega) (by omega), shlor ⟨hv.1, by omega⟩ hx, w64 (by omega) (by omega), List.drop_eq_getElem_cons h1, List.take_succ_cons, num, List.foldl_cons, ← num]
    exact getPl hw hl hb m (i + 1) k _ (by omega) (by omega) ⟨by omega, hv2⟩

theorem getRl {β : Type} {F at_ w : Nat} {l : List Int} {K : Int → Option β} (hw : w ≤ 8) (hl : at_ + w ≤ l.length) (hll : l.length ≤ 100000) (hb : ∀ x ∈ l, 0 ≤ x ∧ x < 256) : ∀ (m i k : Nat) (v : Int), m + i = w → m < k → 0 ≤ v ∧ v < 256 ^ i →
    f94_1_l7 F (at_ : Int) (w : Int) l K k v (i : Int) = K (num v ((l.drop (at_ + i)).take m))
  | _, _, 0, _, _, h, _ => by omega
  | 0, i, k + 1, v, hi, _, _ => by rw [f94_1_l7, cf (by omega)]; rfl
  | m + 1, i, k + 1, v, hi, hk, hv => by
    have h1 : at_ + i < l.length := by omega
    have hx := hb _ (List.getElem_mem h1)
    have hg : l.getD (0 + ((at_ : Int) + (i : Int)).toNat) 0 = l[at_ + i] := by
      rw [show 0 + ((at_ : Int) + (i : Int)).toNat = at_ + i by omega]; simp [h1]
    have hp : (256 : Int) ^ i ≤ 256 ^ 7 := by
      have : (256 : Nat) ^ i ≤ 256 ^ 7 := Nat.pow_le_pow_right (by decide) (by omega)
      have h := Int.ofNat_le.2 this
      rw [Int.natCast_pow, Int.natCast_pow] at h
      exact h
    have hv2 : v * 256 + l[at_ + i] < 256 ^ (i + 1) := by rw [Int.pow_succ]; omega
    rw [f94_1_l7, ct (by omega), w64 (x := (at_ : Int) + (i : Int)) (by omega) (by omega), ct (by omega), ct (by omega), hg, wu64 (x := l[at_ + i]) (by omega) (by omega), wu64 (x := v * 256) (by omega) (by omega), wu64 (by omega) (by omega), w64 (by omega) (by omega), List.drop_eq_getElem_cons h1, List.take_succ_cons, num, List.foldl_cons, ← num]
    exact getRl hw hl hll hb m (i + 1) k _ (by omega) (by omega) ⟨by omega, hv2⟩

/-- A number of w bytes from a place on, or that there are not so many. -/
def gt (at_ w : Nat) (l : List Int) : Int × Int := if at_ + w ≤ l.length then (num 0 ((l.drop at_).take w), 0) else (0, 7)

theorem getP {β : Type} {at_ w : Nat} {l : List Int} {K : Int → Int → Option β} (h1 : 1 ≤ w) (hw : w ≤ 8) (hat : at_ ≤ 100000) (hll : l.length ≤ 100000) (hb : ∀ x ∈ l, 0 ≤ x ∧ x < 256) : f93_1 20000 (at_ : Int) (w : Int) l K = K (gt at_ w l).1 (gt at_ w l).2 := by
  rw [f93_1, f92_1, ct (by omega), decide_eq_true (show (w : Int) ≤ 8 by omega), Bool.not_true, cond_false, cf (by omega), gt]
  by_cases h2 : (at_ : Int) > ((l.length : Nat) : Int)
  · rw [ct h2, if_neg (by omega)]
  · rw [cf h2, w64 (by omega) (by omega)]
    by_cases h3 : ((l.length : Nat) : Int) - (at_ : Int) < (w : Int)
    · rw [ct h3, if_neg (by omega)]
    · rw [cf h3, w64 (by omega) (by omega), ct (by omega), if_pos (by omega), show ((at_ : Int) + (w : Int) - (at_ : Int)).toNat = w by omega, show 0 + ((at_ : Int)).toNat = at_ by omega]
      exact getPl (K := fun x8 => K x8 0) hw (by omega) hb w 0 20000 0 (by omega) (by omega) (by simp)

theorem getR {β : Type} {at_ w : Nat} {l : List Int} {K : Int → Int → Option β} (h1 : 1 ≤ w) (hw : w ≤ 8) (hat : at_ ≤ 100000) (hll : l.length ≤ 100000) (hb : ∀ x ∈ l, 0 ≤ x ∧ x < 256) : f94_1 20000 (at_ : Int) (w : Int) l K = K (gt at_ w l).1 (gt at_ w l).2 := by
  rw [f94_1, cf (by omega), cf (by omega), cf (by omega), gt]
  by_cases h2 : (at_ : Int) > ((l.length : Nat) : Int)
  · rw [ct h2, if_neg (by omega)]
  · rw [cf h2, w64 (by omega) (by omega)]
    by_cases h3 : ((l.length : Nat) : Int) - (at_ : Int) < (w : Int)
    · rw [ct h3, if_neg (by omega)]
    · rw [cf h3, if_pos (by omega)]
      exact getRl (K := fun x6 => K x6 0) hw (by omega) hll hb w 0 20000 0 (by omega) (by omega) (by simp)

end Go.Proofs.YtillbabmlfjegaaDoor.X
end
