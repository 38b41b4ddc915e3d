/- Merged: EvF43v5478, EvF64v7155, EvF75v6206, EvF47v2800, EvF33v568, EvF47v6032, EvF47v6182, EvF119, EvF120, EvF17, EvF78, EvF18, EvF48, EvF119v568, EvF120v568, EvF15v6206, EvF18v568, EvF48v2116, EvF48v3920, EvF48v8375, EvF7, DiskN, RecA, RecB, RecC, EvF211, EvF142, NumA, EvF181, NumC, NumD, GeoA, GeoB, GeoC, NodeA, GeoD. -/
import Derived.Test.YtlgopekjjkdkiaaGreatDoorMNodesPlaysCard3
import Derived.Test.YtlgopekjjkdkiaaGreatDoorProg
import Derived.KernelRfl
import Derived.Test.YtlgopekjjkdkiaaGreatDoorMNodesPlaysCard4
import Derived.Test.YtlgopekjjkdkiaaGreatDoorMNodesPlaysCard6
import Derived.Test.YtlgopekjjkdkiaaGreatDoorMNodesPlaysCard5
section
namespace Go.Proofs.YtlgopekjjkdkiaaGreatDoor.X
open Go Go.Proofs.YtlgopekjjkdkiaaGreatDoor.Ev Go.Proofs
set_option linter.unusedVariables false
set_option linter.unusedSectionVars false
section
noncomputable def f43_5478_l5 {β : Type} (F : Nat) (v3 v5 v6 v7 v8 : Int) (K0 : Int → List ByteArray → Option β) (K1 : List ByteArray → Option β) : Nat → Int → List ByteArray → Option β
  | 0, _, _ => none
  | k + 1, v4, v9 => cond (decide (v4 < v3)) (f103_6615 F v5 v6 v7 v8 v4 (fun x10 => cond (x10 != 0) (K0 x10 v9) (cond (decide ((v9.length + 1) * 16 ≤ 70368744177664)) (f43_5478_l5 F v3 v5 v6 v7 v8 K0 K1 k (IntKind.i64.wrap (v4 + 1)) (v9 ++ [ByteArray.empty])) none)) ) (K1 v9)
noncomputable def f43_5478 {β : Type} (F : Nat) (a1 a2 a3 a4 : Int) (K0 : Int → List ByteArray → Option β) : Option β := f90_1 F a1 a2 a3 a4 (fun x1 => cond (!x1) (K0 12 []) (f111_1 F a1 a2 a3 a4 (fun x2 => f43_5478_l5 F x2 a1 a2 a3 a4 (fun x11 x12 => K0 x11 []) (fun x13 => K0 0 x13) F 0 []) )) 
variable [FZ]
def sh43_5478 : Sh := ⟨[.lf (.nilp), .agg [.int .i64, .int .i64, .int .i64, .int .i64]], []⟩
abbrev Y43_5478 := Int → Int → Int → Int → (Int → List ByteArray → Option Res) → Option Res
noncomputable def A43_5478 (g : Y43_5478) (d : sh43_5478.den) (K : KF) : Option Res := g d.1.2.1.1 d.1.2.1.2.1 d.1.2.1.2.2.1 d.1.2.1.2.2.2.1 (fun y0 y1 => K [.lf (.full 0), .lf (.int .i64 y0)] [some ⟨false, [.seq .str 0 y1]⟩])
noncomputable def S43_5478 (F : Nat) (o : Summ) : Summ := mkS sh43_5478 (fun d K => A43_5478 (f43_5478 F) d K) o
noncomputable def T43_5478 (F : Nat) : FuncId → Option Summ := tab [(90, (S90_1 F noS)), (103, (S103_6615 F noS)), (111, (S111_1 F noS))]
def sh43_5478_l5 : Sh := ⟨[.lf (.nilp), .lf (.ptr 0 0), .lf (.full 1), .lf (.int .i64), .lf (.int .i64)], [some ⟨some false, [.int .i64, .int .i64, .int .i64, .int .i64]⟩, some ⟨some false, [.seq .str 0]⟩]⟩
abbrev Y43_5478_l5 := Int → Int → Int → Int → Int → (Int → List ByteArray → Option Res) → (List ByteArray → Option Res) → Nat → Int → List ByteArray → Option Res
noncomputable def A43_5478_l5 (g : Y43_5478_l5) (k : Nat) (d : sh43_5478_l5.den) (K : KL) : Option Res := g d.1.2.2.2.1 d.2.1.2.1 d.2.1.2.2.1 d.2.1.2.2.2.1 d.2.1.2.2.2.2.1 (fun y0 y5 => K .ret [.tv (.lf (.nils (some .str))), .tv (.lf (.int .i64 y0))] [some ⟨false, [.int .i64 d.2.1.2.1, .int .i64 d.2.1.2.2.1, .int .i64 d.2.1.2.2.2.1, .int .i64 d.2.1.2.2.2.2.1]⟩, some ⟨false, [.seq .str 0 y5]⟩]) (fun y4 => K (.exit 0) [.tv (.lf (.full 1))] [some ⟨false, [.int .i64 d.2.1.2.1, .int .i64 d.2.1.2.2.1, .int .i64 d.2.1.2.2.2.1, .int .i64 d.2.1.2.2.2.2.1]⟩, some ⟨false, [.seq .str 0 y4]⟩]) k d.1.2.2.2.2.1 d.2.2.1.2.1
noncomputable def G43_5478_5 (F k : Nat) : LoopS := mkG sh43_5478_l5 [0, 3, 6, 14, 15] (outT [(.exit 0, [6]), (.ret, [4, 5])]) (fun d K => A43_5478_l5 (f43_5478_l5 F) k d K) []
noncomputable def LT43_5478 (F : Nat) : Nat → Option LoopS := ltab [(5, G43_5478_5 F F)]
theorem L43_5478_5 (F : Nat) : LoopOK Tryz.prog (T43_5478 F) (xw []) 34 0 (LT43_5478 F) (G43_5478_5 F F) b43_0 :=
  loopOK_of (s := sh43_5478_l5) (live := [0, 3, 6, 14, 15]) (out := (outT [(.exit 0, [6]), (.ret, [4, 5])])) (mv := []) (fun k d K => A43_5478_l5 (f43_5478_l5 F) k d K) F (fun d K => by kernel_rfl)  (fun k d K => by delta A43_5478_l5; refine (f43_5478_l5.eq_2 ..).trans ?_; delta T43_5478 S90_1 S103_6615 S111_1 LT43_5478; generalize (G43_5478_5 F F) = c;  (try delta G43_5478_5); generalize (f90_1 F : Y90_1) = c, (f103_6615 F : Y103_6615) = c, (f111_1 F : Y111_1) = c, (f43_5478_l5 F : Y43_5478_l5) = c; as_aux_lemma => kernel_rfl)
theorem E43_5478 (F : Nat) (d : sh43_5478.den) (K : KF) : EB Tryz.prog (T43_5478 F) (xw []) 34 0 (LT43_5478 F) [] false Tryz.f43 sh43_5478 d K = A43_5478 (f43_5478 F) d K := by delta A43_5478 f43_5478 T43_5478 S90_1 S103_6615 S111_1 LT43_5478;  delta G43_5478_5; generalize (f90_1 F : Y90_1) = c, (f103_6615 F : Y103_6615) = c, (f111_1 F : Y111_1) = c, (f43_5478_l5 F : Y43_5478_l5) = c; as_aux_lemma => kernel_rfl
theorem S43_5478_ok : So Tryz.prog 43 S43_5478 :=
  fun F o ho => sOf (fn := Tryz.f43) (c := code43) (tab_cons (S90_1_ok F _ (noS_sound enter90)) (tab_cons (S103_6615_ok F _ (noS_sound enter103)) (tab_cons (S111_1_ok F _ (noS_sound enter111)) tab_nil))) ho (by rw [loops43]; exact (loopsOK_cons (by kernel_rfl) (L43_5478_5 F) loopsOK_nil)) snil rnil (E43_5478 F)
end
section
noncomputable def f64_7155_l1 {β : Type} (F : Nat) (v1 : Int) (v2 : List Bool)  : Nat → Option β
  | 0 => none
  | k + 1 => none
noncomputable def f64_7155 {β : Type} (F : Nat) (a1 : List Bool)  : Option β := f64_7155_l1 F 0 a1 F
variable [FZ]
def sh64_7155 : Sh := ⟨[.lf (.nilp), .lf (.full 0)], [some ⟨none, [.seq .bool 0]⟩]⟩
abbrev Y64_7155 := List Bool → Option Res
noncomputable def A64_7155 (g : Y64_7155) (d : sh64_7155.den) (K : KF) : Option Res := g d.2.1.2.1
noncomputable def S64_7155 (F : Nat) (o : Summ) : Summ := mkS sh64_7155 (fun d K => A64_7155 (f64_7155 F) d K) o
noncomputable def T64_7155 (F : Nat) : FuncId → Option Summ := tab []
def sh64_7155_l1 : Sh := ⟨[.lf (.nilp), .lf (.full 0), .lf (.int .i64)], [some ⟨none, [.seq .bool 0]⟩]⟩
abbrev Y64_7155_l1 := Int → List Bool → Nat → Option Res
noncomputable def A64_7155_l1 (g : Y64_7155_l1) (k : Nat) (d : sh64_7155_l1.den) (K : KL) : Option Res := g d.1.2.2.1 d.2.1.2.1 k
noncomputable def G64_7155_1 (F k : Nat) : LoopS := mkG sh64_7155_l1 [0, 1, 4] (outT []) (fun d K => A64_7155_l1 (f64_7155_l1 F) k d K) []
noncomputable def LT64_7155 (F : Nat) : Nat → Option LoopS := ltab [(1, G64_7155_1 F F)]
theorem L64_7155_1 (F : Nat) : LoopOK Tryz.prog (T64_7155 F) (xw []) 50 1 (LT64_7155 F) (G64_7155_1 F F) b64_0 :=
  loopOK_of (s := sh64_7155_l1) (live := [0, 1, 4]) (out := (outT [])) (mv := []) (fun k d K => A64_7155_l1 (f64_7155_l1 F) k d K) F (fun d K => by kernel_rfl)  (fun k d K => by delta A64_7155_l1; refine (f64_7155_l1.eq_2 ..).trans ?_; delta T64_7155 LT64_7155; generalize (G64_7155_1 F F) = c;  (try delta G64_7155_1); generalize (f64_7155_l1 F : Y64_7155_l1) = c; as_aux_lemma => kernel_rfl)
theorem E64_7155 (F : Nat) (d : sh64_7155.den) (K : KF) : EB Tryz.prog (T64_7155 F) (xw []) 50 1 (LT64_7155 F) [] false Tryz.f64 sh64_7155 d K = A64_7155 (f64_7155 F) d K := by delta A64_7155 f64_7155 T64_7155 LT64_7155;  delta G64_7155_1; generalize (f64_7155_l1 F : Y64_7155_l1) = c; as_aux_lemma => kernel_rfl
theorem S64_7155_ok : So Tryz.prog 64 S64_7155 :=
  fun F o ho => sOf (fn := Tryz.f64) (c := code64) tab_nil ho (by rw [loops64]; exact (loopsOK_cons (by kernel_rfl) (L64_7155_1 F) loopsOK_nil)) snil rnil (E64_7155 F)
end
section
noncomputable def f75_6206 {β : Type} (F : Nat) (a1 : Int)  : Option β := none
variable [FZ]
def sh75_6206 : Sh := ⟨[.lf (.nilp), .lf (.int .i64)], []⟩
abbrev Y75_6206 := Int → Option Res
noncomputable def A75_6206 (g : Y75_6206) (d : sh75_6206.den) (K : KF) : Option Res := g d.1.2.1
noncomputable def S75_6206 (F : Nat) (o : Summ) : Summ := mkS sh75_6206 (fun d K => A75_6206 (f75_6206 F) d K) o
noncomputable def T75_6206 (F : Nat) : FuncId → Option Summ := tab []
noncomputable def LT75_6206 (F : Nat) : Nat → Option LoopS := ltab []
theorem E75_6206 (F : Nat) (d : sh75_6206.den) (K : KF) : EB Tryz.prog (T75_6206 F) (xw []) 9 0 (LT75_6206 F) [] false Tryz.f75 sh75_6206 d K = A75_6206 (f75_6206 F) d K := by delta A75_6206 f75_6206 T75_6206 LT75_6206;   as_aux_lemma => kernel_rfl
theorem S75_6206_ok : So Tryz.prog 75 S75_6206 :=
  fun F o ho => sOf (fn := Tryz.f75) (c := code75) tab_nil ho lnil snil rnil (E75_6206 F)
end
section
noncomputable def f47_2800 [FZ] {β : Type} (F : Nat) (a1 a2 a3 a4 a5 a6 : Int) (a7 : ByteArray) (a8 : Sl (.int .i64)) (a9 : Sl .bool) (K0 : Bool → Option β) : Option β := cond ((a5.tmod 8) == 0) (f103_6615 F a1 a2 a3 a4 a6 (fun x1 => f114_6615 F a1 a2 a3 a4 a6 (K0 (x1 == 3)) ) ) (cond ((a5.tmod 8) == 1) (f109_5089 F a1 a2 a3 a4 a6 a7 (fun x2 => f115_5089 F a1 a2 a3 a4 a6 a7 (fun x3 => K0 (x2 == x3)) ) ) (cond ((a5.tmod 8) == 2) (f43_5478 F a1 a2 a3 a4 (fun x4 x5 => f116_5478 F a1 a2 a3 a4 (fun x6 x7 => f45_1 F x5 x7 (fun x8 => cond x8 (K0 (x4 == x6)) (K0 false)) ) ) ) (cond ((a5.tmod 8) == 3) (f42_2949 F a1 a2 a3 a4 a8.dat (fun x9 => f117_2949 F a1 a2 a3 a4 a8.dat (fun x10 => K0 (x9 == x10)) ) ) (cond ((a5.tmod 8) == 4) (f41_5478 F a1 a2 a3 a4 (fun x11 => f118_5478 F a1 a2 a3 a4 (fun x12 => K0 (x11 == x12)) ) ) (cond ((a5.tmod 8) == 5) (f24_1385 F a6 a7 (f74_1385 F a6 a7 ) ) (cond ((a5.tmod 8) == 6) (f29_6206 F a6 (f75_6206 F a6 ) ) (f32_7155 F a9.dat (f64_7155 F a9.dat ) )))))))
variable [FZ]
def sh47_2800 : Sh := ⟨[.lf (.nilp), .lf (.nilp), .agg [.int .i64, .int .i64, .int .i64, .int .i64], .agg [.int .i64, .int .i64, .str, .sl (.int .i64), .sl .bool]], []⟩
abbrev Y47_2800 := Int → Int → Int → Int → Int → Int → ByteArray → Sl (.int .i64) → Sl .bool → (Bool → Option Res) → Option Res
noncomputable def A47_2800 (g : Y47_2800) (d : sh47_2800.den) (K : KF) : Option Res := g d.1.2.2.1.1 d.1.2.2.1.2.1 d.1.2.2.1.2.2.1 d.1.2.2.1.2.2.2.1 d.1.2.2.2.1.1 d.1.2.2.2.1.2.1 d.1.2.2.2.1.2.2.1 d.1.2.2.2.1.2.2.2.1 d.1.2.2.2.1.2.2.2.2.1 (fun y0 => K [.lf (.bool y0)] [])
noncomputable def S47_2800 (F : Nat) (o : Summ) : Summ := mkS sh47_2800 (fun d K => A47_2800 (f47_2800 F) d K) o
noncomputable def T47_2800 (F : Nat) : FuncId → Option Summ := tab [(24, (S24_1385 F noS)), (29, (S29_6206 F noS)), (32, (S32_7155 F noS)), (41, (S41_5478 F noS)), (42, (S42_2949 F noS)), (43, (S43_5478 F noS)), (45, (S45_1 F noS)), (64, (S64_7155 F noS)), (74, (S74_1385 F noS)), (75, (S75_6206 F noS)), (103, (S103_6615 F noS)), (109, (S109_5089 F noS)), (114, (S114_6615 F noS)), (115, (S115_5089 F noS)), (116, (S116_5478 F noS)), (117, (S117_2949 F noS)), (118, (S118_5478 F noS))]
noncomputable def LT47_2800 (F : Nat) : Nat → Option LoopS := ltab []
theorem E47_2800 (F : Nat) (d : sh47_2800.den) (K : KF) : EB Tryz.prog (T47_2800 F) (xw []) 179 0 (LT47_2800 F) [] false Tryz.f47 sh47_2800 d K = A47_2800 (f47_2800 F) d K := by delta A47_2800 f47_2800 T47_2800 S24_1385 S29_6206 S32_7155 S41_5478 S42_2949 S43_5478 S45_1 S64_7155 S74_1385 S75_6206 S103_6615 S109_5089 S114_6615 S115_5089 S116_5478 S117_2949 S118_5478 LT47_2800;  generalize (f24_1385 F : Y24_1385) = c, (f29_6206 F : Y29_6206) = c, (f32_7155 F : Y32_7155) = c, (f41_5478 F : Y41_5478) = c, (f42_2949 F : Y42_2949) = c, (f43_5478 F : Y43_5478) = c, (f45_1 F : Y45_1) = c, (f64_7155 F : Y64_7155) = c, (f74_1385 F : Y74_1385) = c, (f75_6206 F : Y75_6206) = c, (f103_6615 F : Y103_6615) = c, (f109_5089 F : Y109_5089) = c, (f114_6615 F : Y114_6615) = c, (f115_5089 F : Y115_5089) = c, (f116_5478 F : Y116_5478) = c, (f117_2949 F : Y117_2949) = c, (f118_5478 F : Y118_5478) = c; as_aux_lemma => kernel_rfl
theorem S47_2800_ok : So Tryz.prog 47 S47_2800 :=
  fun F o ho => sOf (fn := Tryz.f47) (c := code47) (tab_cons (S24_1385_ok F _ (noS_sound enter24)) (tab_cons (S29_6206_ok F _ (noS_sound enter29)) (tab_cons (S32_7155_ok F _ (noS_sound enter32)) (tab_cons (S41_5478_ok F _ (noS_sound enter41)) (tab_cons (S42_2949_ok F _ (noS_sound enter42)) (tab_cons (S43_5478_ok F _ (noS_sound enter43)) (tab_cons (S45_1_ok F _ (noS_sound enter45)) (tab_cons (S64_7155_ok F _ (noS_sound enter64)) (tab_cons (S74_1385_ok F _ (noS_sound enter74)) (tab_cons (S75_6206_ok F _ (noS_sound enter75)) (tab_cons (S103_6615_ok F _ (noS_sound enter103)) (tab_cons (S109_5089_ok F _ (noS_sound enter109)) (tab_cons (S114_6615_ok F _ (noS_sound enter114)) (tab_cons (S115_5089_ok F _ (noS_sound enter115)) (tab_cons (S116_5478_ok F _ (noS_sound enter116)) (tab_cons (S117_2949_ok F _ (noS_sound enter117)) (tab_cons (S118_5478_ok F _ (noS_sound enter118)) tab_nil))))))))))))))))) ho lnil snil rnil (E47_2800 F)
end
section
noncomputable def f33_568 {β : Type} (F : Nat)  (K0 : Option β) : Option β := K0
variable [FZ]
def sh33_568 : Sh := ⟨[.lf (.nilp)], []⟩
abbrev Y33_568 := (Option Res) → Option Res
noncomputable def A33_568 (g : Y33_568) (d : sh33_568.den) (K : KF) : Option Res := g (K [.lf (.int .i64 1)] [])
noncomputable def S33_568 (F : Nat) (o : Summ) : Summ := mkS sh33_568 (fun d K => A33_568 (f33_568 F) d K) o
noncomputable def T33_568 (F : Nat) : FuncId → Option Summ := tab []
noncomputable def LT33_568 (F : Nat) : Nat → Option LoopS := ltab []
theorem E33_568 (F : Nat) (d : sh33_568.den) (K : KF) : EB Tryz.prog (T33_568 F) (xw []) 21 0 (LT33_568 F) [] false Tryz.f33 sh33_568 d K = A33_568 (f33_568 F) d K := by delta A33_568 f33_568 T33_568 LT33_568;   as_aux_lemma => kernel_rfl
theorem S33_568_ok : So Tryz.prog 33 S33_568 :=
  fun F o ho => sOf (fn := Tryz.f33) (c := code33) tab_nil ho lnil snil rnil (E33_568 F)
end
section
noncomputable def f47_6032 [FZ] {β : Type} (F : Nat) (a1 a2 a3 a4 a5 a6 : Int) (a7 : ByteArray) (a8 : Sl (.int .i64)) (a9 : Sl .bool) (a10 : Int) (a11 : Bool) (a12 : Int) (a13 : List ByteArray) (a14 : List (Int × ByteArray)) (K0 : Bool → Int → Bool → Int → List ByteArray → List (Int × ByteArray) → Option β) : Option β := cond ((a5.tmod 8) == 0) (f103_6615 F a1 a2 a3 a4 a6 (fun x1 => f114_1 F a1 a2 a3 a4 a6 a10 a11 a12 a13 a14 (fun x2 x3 => cond (ByteArray.empty.toList == x2.toList) (K0 (x1 == x3) a10 a11 a12 a13 a14) (K0 false a10 a11 a12 a13 a14)) ) ) (cond ((a5.tmod 8) == 1) ((fun z1 => amb z1 (amb (amb z1 (amb (amb z1 z1) (amb z1 z1))) (amb (amb z1 (amb (amb z1 z1) (amb z1 z1))) (amb z1 (amb (amb z1 z1) (amb z1 z1)))))) (f109_5089 F a1 a2 a3 a4 a6 a7 (fun x4 => f115_1 F a1 a2 a3 a4 a6 a7 a10 a11 a12 a13 a14 (fun x5 x6 x7 x8 x9 => K0 (x4 == x5) x6 x7 x8 a13 x9) ) )) (cond ((a5.tmod 8) == 2) (f43_5478 F a1 a2 a3 a4 (fun x100 x101 => f116_1 F a1 a2 a3 a4 a10 a11 a12 a13 a14 (fun x102 x103 => f45_1 F x101 x103 (fun x104 => cond x104 (K0 (x100 == x102) a10 a11 a12 a13 a14) (K0 false a10 a11 a12 a13 a14)) ) ) ) (cond ((a5.tmod 8) == 3) (f42_2949 F a1 a2 a3 a4 a8.dat (fun x105 => f117_1 F a1 a2 a3 a4 a10 a11 a12 a13 a14 a8.dat (fun x106 x107 x108 x109 x110 x111 x112 => cond (ByteArray.empty.toList == x106.toList) (K0 (x105 == x107) x108 x109 x110 x111 x112) (K0 false x108 x109 x110 x111 x112)) ) ) (cond ((a5.tmod 8) == 4) (f41_5478 F a1 a2 a3 a4 (fun x113 => f118_1 F a1 a2 a3 a4 a10 a11 a12 a13 a14 (fun x114 x115 x116 x117 x118 x119 x120 => cond (ByteArray.empty.toList == x114.toList) (K0 (x113 == x115) x116 x117 x118 x119 x120) (K0 false x116 x117 x118 x119 x120)) ) ) (cond ((a5.tmod 8) == 5) ((fun z1 => amb z1 (amb (amb z1 z1) (amb z1 z1))) (f24_1385 F a6 a7 (f74_1 F a6 a7 a10 a11 a12 a13 a14 (fun x121 x122 x123 x124 x125 => K0 ((1 : Int) == x121) x122 x123 x124 a13 x125) ) )) (cond ((a5.tmod 8) == 6) (f29_6206 F a6 (f75_1 F a6 a10 a11 a12 a13 a14 (fun x146 => K0 true x146 a11 a12 a13 a14) ) ) (f32_7155 F a9.dat (f64_1 F a10 a11 a12 a13 a14 a9.dat (fun x147 x148 => f33_568 F  (f76_1 F (-1) true a12 x147 x148 (fun x149 x150 x151 x152 => K0 ((1 : Int) == x149) x150 x151 a12 x147 x152) ) ) ) )))))))
variable [FZ]
def sh47_6032 : Sh := ⟨[.lf (.nilp), .lf (.ptr 0 0), .agg [.int .i64, .int .i64, .int .i64, .int .i64], .agg [.int .i64, .int .i64, .str, .sl (.int .i64), .sl .bool]], [some ⟨some false, [.full 1, .full 2, .int .i64, .bool, .int .i64]⟩, some ⟨some false, [.seq .str 0]⟩, some ⟨some false, [.seq (.pair (.int .i64) .str) 0]⟩]⟩
abbrev Y47_6032 := Int → Int → Int → Int → Int → Int → ByteArray → Sl (.int .i64) → Sl .bool → Int → Bool → Int → List ByteArray → List (Int × ByteArray) → (Bool → Int → Bool → Int → List ByteArray → List (Int × ByteArray) → Option Res) → Option Res
noncomputable def A47_6032 (g : Y47_6032) (d : sh47_6032.den) (K : KF) : Option Res := g d.1.2.2.1.1 d.1.2.2.1.2.1 d.1.2.2.1.2.2.1 d.1.2.2.1.2.2.2.1 d.1.2.2.2.1.1 d.1.2.2.2.1.2.1 d.1.2.2.2.1.2.2.1 d.1.2.2.2.1.2.2.2.1 d.1.2.2.2.1.2.2.2.2.1 d.2.1.2.2.2.1 d.2.1.2.2.2.2.1 d.2.1.2.2.2.2.2.1 d.2.2.1.2.1 d.2.2.2.1.2.1 (fun y0 y1 y2 y3 y4 y5 => K [.lf (.bool y0)] [some ⟨false, [.full 1, .full 3, .int .i64 y1, .bool y2, .int .i64 y3]⟩, some ⟨false, [.seq .str 0 y4]⟩, none, some ⟨false, [.seq (.pair (.int .i64) .str) 0 y5]⟩])
noncomputable def S47_6032 (F : Nat) (o : Summ) : Summ := mkS sh47_6032 (fun d K => A47_6032 (f47_6032 F) d K) o
noncomputable def T47_6032 (F : Nat) : FuncId → Option Summ := tab [(24, (S24_1385 F noS)), (29, (S29_6206 F noS)), (32, (S32_7155 F noS)), (33, (S33_568 F noS)), (41, (S41_5478 F noS)), (42, (S42_2949 F noS)), (43, (S43_5478 F noS)), (45, (S45_1 F noS)), (64, (S64_1 F noS)), (74, (S74_1 F noS)), (75, (S75_1 F noS)), (76, (S76_1 F noS)), (103, (S103_6615 F noS)), (109, (S109_5089 F noS)), (114, (S114_1 F noS)), (115, (S115_1 F noS)), (116, (S116_1 F noS)), (117, (S117_1 F noS)), (118, (S118_1 F noS))]
noncomputable def LT47_6032 (F : Nat) : Nat → Option LoopS := ltab []
theorem E47_6032 (F : Nat) (d : sh47_6032.den) (K : KF) : EB Tryz.prog (T47_6032 F) (xw [10, 24]) 179 3 (LT47_6032 F) [2] false Tryz.f47 sh47_6032 d K = A47_6032 (f47_6032 F) d K := by delta A47_6032 f47_6032 T47_6032 S24_1385 S29_6206 S32_7155 S33_568 S41_5478 S42_2949 S43_5478 S45_1 S64_1 S74_1 S75_1 S76_1 S103_6615 S109_5089 S114_1 S115_1 S116_1 S117_1 S118_1 LT47_6032;  generalize (f24_1385 F : Y24_1385) = c, (f29_6206 F : Y29_6206) = c, (f32_7155 F : Y32_7155) = c, (f33_568 F : Y33_568) = c, (f41_5478 F : Y41_5478) = c, (f42_2949 F : Y42_2949) = c, (f43_5478 F : Y43_5478) = c, (f45_1 F : Y45_1) = c, (f64_1 F : Y64_1) = c, (f74_1 F : Y74_1) = c, (f75_1 F : Y75_1) = c, (f76_1 F : Y76_1) = c, (f103_6615 F : Y103_6615) = c, (f109_5089 F : Y109_5089) = c, (f114_1 F : Y114_1) = c, (f115_1 F : Y115_1) = c, (f116_1 F : Y116_1) = c, (f117_1 F : Y117_1) = c, (f118_1 F : Y118_1) = c; as_aux_lemma => kernel_rfl
theorem S47_6032_ok : So Tryz.prog 47 S47_6032 :=
  fun F o ho => sOf (fn := Tryz.f47) (c := code47) (tab_cons (S24_1385_ok F _ (noS_sound enter24)) (tab_cons (S29_6206_ok F _ (noS_sound enter29)) (tab_cons (S32_7155_ok F _ (noS_sound enter32)) (tab_cons (S33_568_ok F _ (noS_sound enter33)) (tab_cons (S41_5478_ok F _ (noS_sound enter41)) (tab_cons (S42_2949_ok F _ (noS_sound enter42)) (tab_cons (S43_5478_ok F _ (noS_sound enter43)) (tab_cons (S45_1_ok F _ (noS_sound enter45)) (tab_cons (S64_1_ok F _ (noS_sound enter64)) (tab_cons (S74_1_ok F _ (noS_sound enter74)) (tab_cons (S75_1_ok F _ (noS_sound enter75)) (tab_cons (S76_1_ok F _ (noS_sound enter76)) (tab_cons (S103_6615_ok F _ (noS_sound enter103)) (tab_cons (S109_5089_ok F _ (noS_sound enter109)) (tab_cons (S114_1_ok F _ (noS_sound enter114)) (tab_cons (S115_1_ok F _ (noS_sound enter115)) (tab_cons (S116_1_ok F _ (noS_sound enter116)) (tab_cons (S117_1_ok F _ (noS_sound enter117)) (tab_cons (S118_1_ok F _ (noS_sound enter118)) tab_nil))))))))))))))))))) ho lnil snil rnil (E47_6032 F)
end
section
noncomputable def f47_6182 [FZ] {β : Type} (F : Nat) (a1 a2 a3 a4 a5 a6 : Int) (a7 : ByteArray) (a8 : Sl (.int .i64)) (a9 : Sl .bool) (a10 : Int) (a11 : Bool) (a12 : Int) (a13 : List ByteArray) (a14 : List (Int × ByteArray)) (K0 : Bool → Int → Bool → Int → List ByteArray → List (Int × ByteArray) → Option β) : Option β := cond ((a5.tmod 8) == 0) (f103_1 F a1 a2 a3 a4 a6 a10 a11 a12 a13 a14 (fun x1 x2 => f114_6615 F a1 a2 a3 a4 a6 (cond (x1.toList == ByteArray.empty.toList) (K0 (x2 == 3) a10 a11 a12 a13 a14) (K0 false a10 a11 a12 a13 a14)) ) ) (cond ((a5.tmod 8) == 1) ((fun z1 => amb z1 (amb (amb z1 (amb (amb z1 z1) (amb z1 z1))) (amb (amb z1 (amb (amb z1 z1) (amb z1 z1))) (amb z1 (amb (amb z1 z1) (amb z1 z1)))))) (f109_1 F a1 a2 a3 a4 a6 a7 a10 a11 a12 a13 a14 (fun x3 x4 x5 x6 x7 => f115_5089 F a1 a2 a3 a4 a6 a7 (fun x8 => K0 (x3 == x8) x4 x5 x6 a13 x7) ) )) (cond ((a5.tmod 8) == 2) (f43_1 F a1 a2 a3 a4 a10 a11 a12 a13 a14 (fun x99 x100 => f116_5478 F a1 a2 a3 a4 (fun x101 x102 => f45_1 F x100 x102 (fun x103 => cond x103 (K0 (x99 == x101) a10 a11 a12 a13 a14) (K0 false a10 a11 a12 a13 a14)) ) ) ) (cond ((a5.tmod 8) == 3) (f42_1 F a1 a2 a3 a4 a10 a11 a12 a13 a14 a8.dat (fun x104 x105 x106 x107 x108 x109 x110 => f117_2949 F a1 a2 a3 a4 a8.dat (fun x111 => cond (x104.toList == ByteArray.empty.toList) (K0 (x105 == x111) x106 x107 x108 x109 x110) (K0 false x106 x107 x108 x109 x110)) ) ) (cond ((a5.tmod 8) == 4) (f41_1 F a1 a2 a3 a4 a10 a11 a12 a13 a14 (fun x112 x113 x114 x115 x116 x117 x118 => f118_5478 F a1 a2 a3 a4 (fun x119 => cond (x112.toList == ByteArray.empty.toList) (K0 (x113 == x119) x114 x115 x116 x117 x118) (K0 false x114 x115 x116 x117 x118)) ) ) (cond ((a5.tmod 8) == 5) ((fun z1 => amb z1 (amb (amb z1 z1) (amb z1 z1))) (f24_1 F a6 a7 a10 a11 a12 a13 a14 (fun x120 x121 x122 x123 x124 => f74_1385 F a6 a7 ) )) (cond ((a5.tmod 8) == 6) (f29_1 F a6 a10 a11 a12 a13 a14 (fun x145 => f75_6206 F a6 ) ) (f32_1 F a10 a11 a12 a13 a14 a9.dat (fun x146 x147 => f64_7155 F a9.dat ) )))))))
variable [FZ]
def sh47_6182 : Sh := ⟨[.lf (.ptr 0 0), .lf (.nilp), .agg [.int .i64, .int .i64, .int .i64, .int .i64], .agg [.int .i64, .int .i64, .str, .sl (.int .i64), .sl .bool]], [some ⟨some false, [.full 1, .full 2, .int .i64, .bool, .int .i64]⟩, some ⟨some false, [.seq .str 0]⟩, some ⟨some false, [.seq (.pair (.int .i64) .str) 0]⟩]⟩
abbrev Y47_6182 := Int → Int → Int → Int → Int → Int → ByteArray → Sl (.int .i64) → Sl .bool → Int → Bool → Int → List ByteArray → List (Int × ByteArray) → (Bool → Int → Bool → Int → List ByteArray → List (Int × ByteArray) → Option Res) → Option Res
noncomputable def A47_6182 (g : Y47_6182) (d : sh47_6182.den) (K : KF) : Option Res := g d.1.2.2.1.1 d.1.2.2.1.2.1 d.1.2.2.1.2.2.1 d.1.2.2.1.2.2.2.1 d.1.2.2.2.1.1 d.1.2.2.2.1.2.1 d.1.2.2.2.1.2.2.1 d.1.2.2.2.1.2.2.2.1 d.1.2.2.2.1.2.2.2.2.1 d.2.1.2.2.2.1 d.2.1.2.2.2.2.1 d.2.1.2.2.2.2.2.1 d.2.2.1.2.1 d.2.2.2.1.2.1 (fun y0 y1 y2 y3 y4 y5 => K [.lf (.bool y0)] [some ⟨false, [.full 1, .full 3, .int .i64 y1, .bool y2, .int .i64 y3]⟩, some ⟨false, [.seq .str 0 y4]⟩, none, some ⟨false, [.seq (.pair (.int .i64) .str) 0 y5]⟩])
noncomputable def S47_6182 (F : Nat) (o : Summ) : Summ := mkS sh47_6182 (fun d K => A47_6182 (f47_6182 F) d K) o
noncomputable def T47_6182 (F : Nat) : FuncId → Option Summ := tab [(24, (S24_1 F noS)), (29, (S29_1 F noS)), (32, (S32_1 F noS)), (41, (S41_1 F noS)), (42, (S42_1 F noS)), (43, (S43_1 F noS)), (45, (S45_1 F noS)), (64, (S64_7155 F noS)), (74, (S74_1385 F noS)), (75, (S75_6206 F noS)), (103, (S103_1 F noS)), (109, (S109_1 F noS)), (114, (S114_6615 F noS)), (115, (S115_5089 F noS)), (116, (S116_5478 F noS)), (117, (S117_2949 F noS)), (118, (S118_5478 F noS))]
noncomputable def LT47_6182 (F : Nat) : Nat → Option LoopS := ltab []
theorem E47_6182 (F : Nat) (d : sh47_6182.den) (K : KF) : EB Tryz.prog (T47_6182 F) (xw [10, 24]) 179 3 (LT47_6182 F) [2] false Tryz.f47 sh47_6182 d K = A47_6182 (f47_6182 F) d K := by delta A47_6182 f47_6182 T47_6182 S24_1 S29_1 S32_1 S41_1 S42_1 S43_1 S45_1 S64_7155 S74_1385 S75_6206 S103_1 S109_1 S114_6615 S115_5089 S116_5478 S117_2949 S118_5478 LT47_6182;  generalize (f24_1 F : Y24_1) = c, (f29_1 F : Y29_1) = c, (f32_1 F : Y32_1) = c, (f41_1 F : Y41_1) = c, (f42_1 F : Y42_1) = c, (f43_1 F : Y43_1) = c, (f45_1 F : Y45_1) = c, (f64_7155 F : Y64_7155) = c, (f74_1385 F : Y74_1385) = c, (f75_6206 F : Y75_6206) = c, (f103_1 F : Y103_1) = c, (f109_1 F : Y109_1) = c, (f114_6615 F : Y114_6615) = c, (f115_5089 F : Y115_5089) = c, (f116_5478 F : Y116_5478) = c, (f117_2949 F : Y117_2949) = c, (f118_5478 F : Y118_5478) = c; as_aux_lemma => kernel_rfl
theorem S47_6182_ok : So Tryz.prog 47 S47_6182 :=
  fun F o ho => sOf (fn := Tryz.f47) (c := code47) (tab_cons (S24_1_ok F _ (noS_sound enter24)) (tab_cons (S29_1_ok F _ (noS_sound enter29)) (tab_cons (S32_1_ok F _ (noS_sound enter32)) (tab_cons (S41_1_ok F _ (noS_sound enter41)) (tab_cons (S42_1_ok F _ (noS_sound enter42)) (tab_cons (S43_1_ok F _ (noS_sound enter43)) (tab_cons (S45_1_ok F _ (noS_sound enter45)) (tab_cons (S64_7155_ok F _ (noS_sound enter64)) (tab_cons (S74_1385_ok F _ (noS_sound enter74)) (tab_cons (S75_6206_ok F _ (noS_sound enter75)) (tab_cons (S103_1_ok F _ (noS_sound enter103)) (tab_cons (S109_1_ok F _ (noS_sound enter109)) (tab_cons (S114_6615_ok F _ (noS_sound enter114)) (tab_cons (S115_5089_ok F _ (noS_sound enter115)) (tab_cons (S116_5478_ok F _ (noS_sound enter116)) (tab_cons (S117_2949_ok F _ (noS_sound enter117)) (tab_cons (S118_5478_ok F _ (noS_sound enter118)) tab_nil))))))))))))))))) ho lnil snil rnil (E47_6182 F)
end
section
noncomputable def f119_1 {β : Type} (F : Nat) (a1 : Int) (a2 : Bool) (a3 : Int) (a4 : List ByteArray) (a5 : List (Int × ByteArray)) (K0 : Int → Option β) : Option β := K0 ((a4.length : Nat) : Int)
variable [FZ]
def sh119_1 : Sh := ⟨[.lf (.ptr 0 0)], [some ⟨none, [.full 1, .full 2, .int .i64, .bool, .int .i64]⟩, some ⟨none, [.seq .str 0]⟩, some ⟨none, [.seq (.pair (.int .i64) .str) 0]⟩]⟩
abbrev Y119_1 := Int → Bool → Int → List ByteArray → List (Int × ByteArray) → (Int → Option Res) → Option Res
noncomputable def A119_1 (g : Y119_1) (d : sh119_1.den) (K : KF) : Option Res := g d.2.1.2.2.2.1 d.2.1.2.2.2.2.1 d.2.1.2.2.2.2.2.1 d.2.2.1.2.1 d.2.2.2.1.2.1 (fun y0 => K [.lf (.int .i64 y0)] [some ⟨d.2.1.1, [.full 1, .full 2, .int .i64 d.2.1.2.2.2.1, .bool d.2.1.2.2.2.2.1, .int .i64 d.2.1.2.2.2.2.2.1]⟩, some ⟨d.2.2.1.1, [.seq .str 0 d.2.2.1.2.1]⟩, some ⟨d.2.2.2.1.1, [.seq (.pair (.int .i64) .str) 0 d.2.2.2.1.2.1]⟩])
noncomputable def S119_1 (F : Nat) (o : Summ) : Summ := mkS sh119_1 (fun d K => A119_1 (f119_1 F) d K) o
noncomputable def code119 : Code := bodyOf Tryz.f119
theorem enter119 : En Tryz.prog 119 := enO (fn := Tryz.f119)
noncomputable def T119_1 (F : Nat) : FuncId → Option Summ := tab []
noncomputable def LT119_1 (F : Nat) : Nat → Option LoopS := ltab []
theorem E119_1 (F : Nat) (d : sh119_1.den) (K : KF) : EB Tryz.prog (T119_1 F) (xw []) 10 3 (LT119_1 F) [] false Tryz.f119 sh119_1 d K = A119_1 (f119_1 F) d K := by delta A119_1 f119_1 T119_1 LT119_1;   as_aux_lemma => kernel_rfl
theorem S119_1_ok : So Tryz.prog 119 S119_1 :=
  fun F o ho => sOf (fn := Tryz.f119) (c := code119) tab_nil ho lnil snil rnil (E119_1 F)
end
section
noncomputable def f120_1 {β : Type} (F : Nat) (a1 : Int) (a2 : Bool) (a3 : Int) (a4 : List ByteArray) (a5 : List (Int × ByteArray)) (K0 : Option β) : Option β := K0
variable [FZ]
def sh120_1 : Sh := ⟨[.lf (.ptr 0 0)], [some ⟨none, [.full 1, .full 2, .int .i64, .bool, .int .i64]⟩, some ⟨none, [.seq .str 0]⟩, some ⟨none, [.seq (.pair (.int .i64) .str) 0]⟩]⟩
abbrev Y120_1 := Int → Bool → Int → List ByteArray → List (Int × ByteArray) → (Option Res) → Option Res
noncomputable def A120_1 (g : Y120_1) (d : sh120_1.den) (K : KF) : Option Res := g d.2.1.2.2.2.1 d.2.1.2.2.2.2.1 d.2.1.2.2.2.2.2.1 d.2.2.1.2.1 d.2.2.2.1.2.1 (K [.lf (.bool d.2.1.2.2.2.2.1)] [some ⟨d.2.1.1, [.full 1, .full 2, .int .i64 d.2.1.2.2.2.1, .bool d.2.1.2.2.2.2.1, .int .i64 d.2.1.2.2.2.2.2.1]⟩, some ⟨d.2.2.1.1, [.seq .str 0 d.2.2.1.2.1]⟩, some ⟨d.2.2.2.1.1, [.seq (.pair (.int .i64) .str) 0 d.2.2.2.1.2.1]⟩])
noncomputable def S120_1 (F : Nat) (o : Summ) : Summ := mkS sh120_1 (fun d K => A120_1 (f120_1 F) d K) o
noncomputable def code120 : Code := bodyOf Tryz.f120
theorem enter120 : En Tryz.prog 120 := enO (fn := Tryz.f120)
noncomputable def T120_1 (F : Nat) : FuncId → Option Summ := tab []
noncomputable def LT120_1 (F : Nat) : Nat → Option LoopS := ltab []
theorem E120_1 (F : Nat) (d : sh120_1.den) (K : KF) : EB Tryz.prog (T120_1 F) (xw []) 11 3 (LT120_1 F) [] false Tryz.f120 sh120_1 d K = A120_1 (f120_1 F) d K := by delta A120_1 f120_1 T120_1 LT120_1;   as_aux_lemma => kernel_rfl
theorem S120_1_ok : So Tryz.prog 120 S120_1 :=
  fun F o ho => sOf (fn := Tryz.f120) (c := code120) tab_nil ho lnil snil rnil (E120_1 F)
end
section
noncomputable def f17_1_l4 {β : Type} (F : Nat) (v2 v3 : List (Int × ByteArray)) (K0 K1 : Option β) : Nat → Int → Option β
  | 0, _ => none
  | k + 1, v1 => cond (decide (v1 < ((v2.length : Nat) : Int))) (cond (decide ((0 : Int) ≤ v1 ∧ v1 < ((v2.length : Nat) : Int))) (cond (decide (0 + v1.toNat < v2.length)) (cond (decide ((0 : Int) ≤ v1 ∧ v1 < ((v3.length : Nat) : Int))) (cond (decide (0 + v1.toNat < v3.length)) (cond (!((((v2.getD (0 + v1.toNat) (0, ByteArray.empty)).1) == ((v3.getD (0 + v1.toNat) (0, ByteArray.empty)).1)) && (((v2.getD (0 + v1.toNat) (0, ByteArray.empty)).2).toList == ((v3.getD (0 + v1.toNat) (0, ByteArray.empty)).2).toList))) (K0) (f17_1_l4 F v2 v3 K0 K1 k (IntKind.i64.wrap (v1 + 1)))) none) none) none) none) (K1)
noncomputable def f17_1 {β : Type} (F : Nat) (a1 a2 : List (Int × ByteArray)) (K0 : Bool → Option β) : Option β := cond (((a1.length : Nat) : Int) != ((a2.length : Nat) : Int)) (K0 false) (f17_1_l4 F a1 a2 (K0 false) (K0 true) F 0)
variable [FZ]
def sh17_1 : Sh := ⟨[.lf (.full 0), .lf (.full 1)], [some ⟨none, [.seq (.pair (.int .i64) .str) 0]⟩, some ⟨none, [.seq (.pair (.int .i64) .str) 0]⟩]⟩
abbrev Y17_1 := List (Int × ByteArray) → List (Int × ByteArray) → (Bool → Option Res) → Option Res
noncomputable def A17_1 (g : Y17_1) (d : sh17_1.den) (K : KF) : Option Res := g d.2.1.2.1 d.2.2.1.2.1 (fun y0 => K [.lf (.bool y0)] [some ⟨d.2.1.1, [.seq (.pair (.int .i64) .str) 0 d.2.1.2.1]⟩, some ⟨d.2.2.1.1, [.seq (.pair (.int .i64) .str) 0 d.2.2.1.2.1]⟩])
noncomputable def S17_1 (F : Nat) (o : Summ) : Summ := mkS sh17_1 (fun d K => A17_1 (f17_1 F) d K) o
noncomputable def code17 : Code := bodyOf Tryz.f17
noncomputable def b17_0 : Code := cB (cB (cR (cL (cR (cR (code17))))))
theorem loops17 : loopsOf code17 = [b17_0] := by kernel_rfl
theorem enter17 : En Tryz.prog 17 := enO (fn := Tryz.f17)
noncomputable def T17_1 (F : Nat) : FuncId → Option Summ := tab []
def sh17_1_l4 : Sh := ⟨[.lf (.full 0), .lf (.full 1), .lf (.int .i64)], [some ⟨none, [.seq (.pair (.int .i64) .str) 0]⟩, some ⟨none, [.seq (.pair (.int .i64) .str) 0]⟩]⟩
abbrev Y17_1_l4 := List (Int × ByteArray) → List (Int × ByteArray) → (Option Res) → (Option Res) → Nat → Int → Option Res
noncomputable def A17_1_l4 (g : Y17_1_l4) (k : Nat) (d : sh17_1_l4.den) (K : KL) : Option Res := g d.2.1.2.1 d.2.2.1.2.1 (K .ret [.tv (.lf (.bool false))] [some ⟨d.2.1.1, [.seq (.pair (.int .i64) .str) 0 d.2.1.2.1]⟩, some ⟨d.2.2.1.1, [.seq (.pair (.int .i64) .str) 0 d.2.2.1.2.1]⟩]) (K (.exit 0) [] [some ⟨d.2.1.1, [.seq (.pair (.int .i64) .str) 0 d.2.1.2.1]⟩, some ⟨d.2.2.1.1, [.seq (.pair (.int .i64) .str) 0 d.2.2.1.2.1]⟩]) k d.1.2.2.1
noncomputable def G17_1_4 (F k : Nat) : LoopS := mkG sh17_1_l4 [0, 1, 5] (outT [(.exit 0, []), (.ret, [4])]) (fun d K => A17_1_l4 (f17_1_l4 F) k d K) []
noncomputable def LT17_1 (F : Nat) : Nat → Option LoopS := ltab [(4, G17_1_4 F F)]
theorem L17_1_4 (F : Nat) : LoopOK Tryz.prog (T17_1 F) (xw []) 26 2 (LT17_1 F) (G17_1_4 F F) b17_0 :=
  loopOK_of (s := sh17_1_l4) (live := [0, 1, 5]) (out := (outT [(.exit 0, []), (.ret, [4])])) (mv := []) (fun k d K => A17_1_l4 (f17_1_l4 F) k d K) F (fun d K => by kernel_rfl)  (fun k d K => by delta A17_1_l4; refine (f17_1_l4.eq_2 ..).trans ?_; delta T17_1 LT17_1; generalize (G17_1_4 F F) = c;  (try delta G17_1_4); generalize (f17_1_l4 F : Y17_1_l4) = c; as_aux_lemma => kernel_rfl)
theorem E17_1 (F : Nat) (d : sh17_1.den) (K : KF) : EB Tryz.prog (T17_1 F) (xw []) 26 2 (LT17_1 F) [] false Tryz.f17 sh17_1 d K = A17_1 (f17_1 F) d K := by delta A17_1 f17_1 T17_1 LT17_1;  delta G17_1_4; generalize (f17_1_l4 F : Y17_1_l4) = c; as_aux_lemma => kernel_rfl
theorem S17_1_ok : So Tryz.prog 17 S17_1 :=
  fun F o ho => sOf (fn := Tryz.f17) (c := code17) tab_nil ho (by rw [loops17]; exact (loopsOK_cons (by kernel_rfl) (L17_1_4 F) loopsOK_nil)) snil rnil (E17_1 F)
end
section
noncomputable def f78_1 {β : Type} (F : Nat) (a1 : List (Int × ByteArray)) (K0 : List (Int × ByteArray) → Option β) : Option β := cond (decide (0 < a1.length)) (cond (decide ((0 + a1.length) * 24 ≤ 70368744177664)) (K0 ([] ++ a1)) none) (amb (K0 []) (cond (decide ((0 + a1.length) * 24 ≤ 70368744177664)) (K0 ([] ++ a1)) none))
variable [FZ]
def sh78_1 : Sh := ⟨[.lf (.full 0)], [some ⟨none, [.seq (.pair (.int .i64) .str) 0]⟩]⟩
abbrev Y78_1 := List (Int × ByteArray) → (List (Int × ByteArray) → Option Res) → Option Res
noncomputable def A78_1 (g : Y78_1) (d : sh78_1.den) (K : KF) : Option Res := g d.2.1.2.1 (fun y1 => K [.lf (.full 1)] [some ⟨d.2.1.1, [.seq (.pair (.int .i64) .str) 0 d.2.1.2.1]⟩, some ⟨false, [.seq (.pair (.int .i64) .str) 0 y1]⟩])
noncomputable def S78_1 (F : Nat) (o : Summ) : Summ := mkS sh78_1 (fun d K => A78_1 (f78_1 F) d K) o
noncomputable def code78 : Code := bodyOf Tryz.f78
theorem enter78 : En Tryz.prog 78 := enO (fn := Tryz.f78)
noncomputable def T78_1 (F : Nat) : FuncId → Option Summ := tab []
noncomputable def LT78_1 (F : Nat) : Nat → Option LoopS := ltab []
theorem E78_1 (F : Nat) (d : sh78_1.den) (K : KF) : EB Tryz.prog (T78_1 F) (xw []) 8 1 (LT78_1 F) [] false Tryz.f78 sh78_1 d K = A78_1 (f78_1 F) d K := by delta A78_1 f78_1 T78_1 LT78_1;   as_aux_lemma => kernel_rfl
theorem S78_1_ok : So Tryz.prog 78 S78_1 :=
  fun F o ho => sOf (fn := Tryz.f78) (c := code78) tab_nil ho lnil snil rnil (E78_1 F)
end
section
noncomputable def f18_1 {β : Type} (F : Nat) (a1 : Int) (a2 : Bool) (a3 : Int) (a4 : List ByteArray) (a5 : List (Int × ByteArray)) (K0 : List (Int × ByteArray) → Option β) : Option β := f78_1 F a5 (fun x1 => K0 x1) 
variable [FZ]
def sh18_1 : Sh := ⟨[.lf (.ptr 0 0)], [some ⟨none, [.full 1, .full 2, .int .i64, .bool, .int .i64]⟩, some ⟨none, [.seq .str 0]⟩, some ⟨none, [.seq (.pair (.int .i64) .str) 0]⟩]⟩
abbrev Y18_1 := Int → Bool → Int → List ByteArray → List (Int × ByteArray) → (List (Int × ByteArray) → Option Res) → Option Res
noncomputable def A18_1 (g : Y18_1) (d : sh18_1.den) (K : KF) : Option Res := g d.2.1.2.2.2.1 d.2.1.2.2.2.2.1 d.2.1.2.2.2.2.2.1 d.2.2.1.2.1 d.2.2.2.1.2.1 (fun y5 => K [.lf (.full 3)] [some ⟨d.2.1.1, [.full 1, .full 2, .int .i64 d.2.1.2.2.2.1, .bool d.2.1.2.2.2.2.1, .int .i64 d.2.1.2.2.2.2.2.1]⟩, some ⟨d.2.2.1.1, [.seq .str 0 d.2.2.1.2.1]⟩, some ⟨d.2.2.2.1.1, [.seq (.pair (.int .i64) .str) 0 d.2.2.2.1.2.1]⟩, some ⟨false, [.seq (.pair (.int .i64) .str) 0 y5]⟩])
noncomputable def S18_1 (F : Nat) (o : Summ) : Summ := mkS sh18_1 (fun d K => A18_1 (f18_1 F) d K) o
noncomputable def code18 : Code := bodyOf Tryz.f18
theorem enter18 : En Tryz.prog 18 := enO (fn := Tryz.f18)
noncomputable def T18_1 (F : Nat) : FuncId → Option Summ := tab [(78, (S78_1 F noS))]
noncomputable def LT18_1 (F : Nat) : Nat → Option LoopS := ltab []
theorem E18_1 (F : Nat) (d : sh18_1.den) (K : KF) : EB Tryz.prog (T18_1 F) (xw []) 10 3 (LT18_1 F) [] false Tryz.f18 sh18_1 d K = A18_1 (f18_1 F) d K := by delta A18_1 f18_1 T18_1 S78_1 LT18_1;  generalize (f78_1 F : Y78_1) = c; as_aux_lemma => kernel_rfl
theorem S18_1_ok : So Tryz.prog 18 S18_1 :=
  fun F o ho => sOf (fn := Tryz.f18) (c := code18) (tab_cons (S78_1_ok F _ (noS_sound enter78)) tab_nil) ho lnil snil rnil (E18_1 F)
end
section
noncomputable def f48_1_l4 {β : Type} (F : Nat) (v5 : Int) (v6 : Bool) (v7 : Int) (v8 : List ByteArray) (v9 : List (Int × ByteArray)) (v10 : Int) (v11 : Bool) (v12 : Int) (v13 : List ByteArray) (v14 : List (Int × ByteArray)) (K0 K1 : Option β) : Nat → Int → Option β
  | 0, _ => none
  | k + 1, v4 => cond (decide (v4 < ((v13.length : Nat) : Int))) (f15_1 F v4 v5 v6 v7 v8 v9 (fun x15 x16 => cond (decide ((0 : Int) ≤ v4 ∧ v4 < ((v13.length : Nat) : Int))) (cond (decide (0 + v4.toNat < v13.length)) (cond (!(x15.toList == (v13.getD (0 + v4.toNat) ByteArray.empty).toList)) (K0) (f48_1_l4 F v5 v6 v7 v8 v9 v10 v11 v12 v13 v14 K0 K1 k (IntKind.i64.wrap (v4 + 1)))) none) none) ) (K1)
noncomputable def f48_1 {β : Type} (F : Nat) (a1 : Int) (a2 : Bool) (a3 : Int) (a4 : List ByteArray) (a5 : List (Int × ByteArray)) (a6 : Int) (a7 : Bool) (a8 : Int) (a9 : List ByteArray) (a10 : List (Int × ByteArray)) (K0 : Bool → Option β) : Option β := f119_1 F a1 a2 a3 a4 a5 (fun x1 => cond (x1 != ((a9.length : Nat) : Int)) (K0 false) (f120_1 F a1 a2 a3 a4 a5 (cond (!(a2 == a7)) (K0 false) (f16_1 F a1 a2 a3 a4 a5 (cond (a3 != a8) (K0 false) (f18_1 F a1 a2 a3 a4 a5 (fun x2 => f17_1 F x2 a10 (fun x3 => cond (!x3) (K0 false) (f48_1_l4 F a1 a2 a3 a4 a5 a6 a7 a8 a9 a10 (K0 false) (K0 true) F 0)) ) )) )) )) 
variable [FZ]
def sh48_1 : Sh := ⟨[.lf (.ptr 0 0), .lf (.ptr 3 0)], [some ⟨none, [.full 1, .full 2, .int .i64, .bool, .int .i64]⟩, some ⟨none, [.seq .str 0]⟩, some ⟨none, [.seq (.pair (.int .i64) .str) 0]⟩, some ⟨none, [.full 4, .full 5, .int .i64, .bool, .int .i64]⟩, some ⟨none, [.seq .str 0]⟩, some ⟨none, [.seq (.pair (.int .i64) .str) 0]⟩]⟩
abbrev Y48_1 := Int → Bool → Int → List ByteArray → List (Int × ByteArray) → Int → Bool → Int → List ByteArray → List (Int × ByteArray) → (Bool → Option Res) → Option Res
noncomputable def A48_1 (g : Y48_1) (d : sh48_1.den) (K : KF) : Option Res := g d.2.1.2.2.2.1 d.2.1.2.2.2.2.1 d.2.1.2.2.2.2.2.1 d.2.2.1.2.1 d.2.2.2.1.2.1 d.2.2.2.2.1.2.2.2.1 d.2.2.2.2.1.2.2.2.2.1 d.2.2.2.2.1.2.2.2.2.2.1 d.2.2.2.2.2.1.2.1 d.2.2.2.2.2.2.1.2.1 (fun y0 => K [.lf (.bool y0)] [some ⟨d.2.1.1, [.full 1, .full 2, .int .i64 d.2.1.2.2.2.1, .bool d.2.1.2.2.2.2.1, .int .i64 d.2.1.2.2.2.2.2.1]⟩, some ⟨d.2.2.1.1, [.seq .str 0 d.2.2.1.2.1]⟩, some ⟨d.2.2.2.1.1, [.seq (.pair (.int .i64) .str) 0 d.2.2.2.1.2.1]⟩, some ⟨d.2.2.2.2.1.1, [.full 4, .full 5, .int .i64 d.2.2.2.2.1.2.2.2.1, .bool d.2.2.2.2.1.2.2.2.2.1, .int .i64 d.2.2.2.2.1.2.2.2.2.2.1]⟩, some ⟨d.2.2.2.2.2.1.1, [.seq .str 0 d.2.2.2.2.2.1.2.1]⟩, some ⟨d.2.2.2.2.2.2.1.1, [.seq (.pair (.int .i64) .str) 0 d.2.2.2.2.2.2.1.2.1]⟩])
noncomputable def S48_1 (F : Nat) (o : Summ) : Summ := mkS sh48_1 (fun d K => A48_1 (f48_1 F) d K) o
noncomputable def code48 : Code := bodyOf Tryz.f48
noncomputable def b48_0 : Code := cB (cB (cR (cL (cR (cR (code48))))))
theorem loops48 : loopsOf code48 = [b48_0] := by kernel_rfl
theorem enter48 : En Tryz.prog 48 := enO (fn := Tryz.f48)
noncomputable def T48_1 (F : Nat) : FuncId → Option Summ := tab [(15, (S15_1 F noS)), (16, (S16_1 F noS)), (17, (S17_1 F noS)), (18, (S18_1 F noS)), (119, (S119_1 F noS)), (120, (S120_1 F noS))]
def sh48_1_l4 : Sh := ⟨[.lf (.ptr 0 0), .lf (.ptr 3 0), .lf (.int .i64)], [some ⟨none, [.full 1, .full 2, .int .i64, .bool, .int .i64]⟩, some ⟨none, [.seq .str 0]⟩, some ⟨none, [.seq (.pair (.int .i64) .str) 0]⟩, some ⟨none, [.full 4, .full 5, .int .i64, .bool, .int .i64]⟩, some ⟨none, [.seq .str 0]⟩, some ⟨none, [.seq (.pair (.int .i64) .str) 0]⟩]⟩
abbrev Y48_1_l4 := Int → Bool → Int → List ByteArray → List (Int × ByteArray) → Int → Bool → Int → List ByteArray → List (Int × ByteArray) → (Option Res) → (Option Res) → Nat → Int → Option Res
noncomputable def A48_1_l4 (g : Y48_1_l4) (k : Nat) (d : sh48_1_l4.den) (K : KL) : Option Res := g d.2.1.2.2.2.1 d.2.1.2.2.2.2.1 d.2.1.2.2.2.2.2.1 d.2.2.1.2.1 d.2.2.2.1.2.1 d.2.2.2.2.1.2.2.2.1 d.2.2.2.2.1.2.2.2.2.1 d.2.2.2.2.1.2.2.2.2.2.1 d.2.2.2.2.2.1.2.1 d.2.2.2.2.2.2.1.2.1 (K .ret [.tv (.lf (.bool false))] [some ⟨d.2.1.1, [.full 1, .full 2, .int .i64 d.2.1.2.2.2.1, .bool d.2.1.2.2.2.2.1, .int .i64 d.2.1.2.2.2.2.2.1]⟩, some ⟨d.2.2.1.1, [.seq .str 0 d.2.2.1.2.1]⟩, some ⟨d.2.2.2.1.1, [.seq (.pair (.int .i64) .str) 0 d.2.2.2.1.2.1]⟩, some ⟨d.2.2.2.2.1.1, [.full 4, .full 5, .int .i64 d.2.2.2.2.1.2.2.2.1, .bool d.2.2.2.2.1.2.2.2.2.1, .int .i64 d.2.2.2.2.1.2.2.2.2.2.1]⟩, some ⟨d.2.2.2.2.2.1.1, [.seq .str 0 d.2.2.2.2.2.1.2.1]⟩, some ⟨d.2.2.2.2.2.2.1.1, [.seq (.pair (.int .i64) .str) 0 d.2.2.2.2.2.2.1.2.1]⟩]) (K (.exit 0) [] [some ⟨d.2.1.1, [.full 1, .full 2, .int .i64 d.2.1.2.2.2.1, .bool d.2.1.2.2.2.2.1, .int .i64 d.2.1.2.2.2.2.2.1]⟩, some ⟨d.2.2.1.1, [.seq .str 0 d.2.2.1.2.1]⟩, some ⟨d.2.2.2.1.1, [.seq (.pair (.int .i64) .str) 0 d.2.2.2.1.2.1]⟩, some ⟨d.2.2.2.2.1.1, [.full 4, .full 5, .int .i64 d.2.2.2.2.1.2.2.2.1, .bool d.2.2.2.2.1.2.2.2.2.1, .int .i64 d.2.2.2.2.1.2.2.2.2.2.1]⟩, some ⟨d.2.2.2.2.2.1.1, [.seq .str 0 d.2.2.2.2.2.1.2.1]⟩, some ⟨d.2.2.2.2.2.2.1.1, [.seq (.pair (.int .i64) .str) 0 d.2.2.2.2.2.2.1.2.1]⟩]) k d.1.2.2.1
noncomputable def G48_1_4 (F k : Nat) : LoopS := mkG sh48_1_l4 [0, 1, 5] (outT [(.exit 0, []), (.ret, [4])]) (fun d K => A48_1_l4 (f48_1_l4 F) k d K) []
noncomputable def LT48_1 (F : Nat) : Nat → Option LoopS := ltab [(4, G48_1_4 F F)]
theorem L48_1_4 (F : Nat) : LoopOK Tryz.prog (T48_1 F) (xw []) 68 6 (LT48_1 F) (G48_1_4 F F) b48_0 :=
  loopOK_of (s := sh48_1_l4) (live := [0, 1, 5]) (out := (outT [(.exit 0, []), (.ret, [4])])) (mv := []) (fun k d K => A48_1_l4 (f48_1_l4 F) k d K) F (fun d K => by kernel_rfl)  (fun k d K => by delta A48_1_l4; refine (f48_1_l4.eq_2 ..).trans ?_; delta T48_1 S15_1 S16_1 S17_1 S18_1 S119_1 S120_1 LT48_1; generalize (G48_1_4 F F) = c;  (try delta G48_1_4); generalize (f15_1 F : Y15_1) = c, (f16_1 F : Y16_1) = c, (f17_1 F : Y17_1) = c, (f18_1 F : Y18_1) = c, (f119_1 F : Y119_1) = c, (f120_1 F : Y120_1) = c, (f48_1_l4 F : Y48_1_l4) = c; as_aux_lemma => kernel_rfl)
theorem E48_1 (F : Nat) (d : sh48_1.den) (K : KF) : EB Tryz.prog (T48_1 F) (xw []) 68 6 (LT48_1 F) [] false Tryz.f48 sh48_1 d K = A48_1 (f48_1 F) d K := by delta A48_1 f48_1 T48_1 S15_1 S16_1 S17_1 S18_1 S119_1 S120_1 LT48_1;  delta G48_1_4; generalize (f15_1 F : Y15_1) = c, (f16_1 F : Y16_1) = c, (f17_1 F : Y17_1) = c, (f18_1 F : Y18_1) = c, (f119_1 F : Y119_1) = c, (f120_1 F : Y120_1) = c, (f48_1_l4 F : Y48_1_l4) = c; as_aux_lemma => kernel_rfl
theorem S48_1_ok : So Tryz.prog 48 S48_1 :=
  fun F o ho => sOf (fn := Tryz.f48) (c := code48) (tab_cons (S15_1_ok F _ (noS_sound enter15)) (tab_cons (S16_1_ok F _ (noS_sound enter16)) (tab_cons (S17_1_ok F _ (noS_sound enter17)) (tab_cons (S18_1_ok F _ (noS_sound enter18)) (tab_cons (S119_1_ok F _ (noS_sound enter119)) (tab_cons (S120_1_ok F _ (noS_sound enter120)) tab_nil)))))) ho (by rw [loops48]; exact (loopsOK_cons (by kernel_rfl) (L48_1_4 F) loopsOK_nil)) snil rnil (E48_1 F)
end
section
noncomputable def f119_568 {β : Type} (F : Nat)  (K0 : Option β) : Option β := K0
variable [FZ]
def sh119_568 : Sh := ⟨[.lf (.nilp)], []⟩
abbrev Y119_568 := (Option Res) → Option Res
noncomputable def A119_568 (g : Y119_568) (d : sh119_568.den) (K : KF) : Option Res := g (K [.lf (.int .i64 0)] [])
noncomputable def S119_568 (F : Nat) (o : Summ) : Summ := mkS sh119_568 (fun d K => A119_568 (f119_568 F) d K) o
noncomputable def T119_568 (F : Nat) : FuncId → Option Summ := tab []
noncomputable def LT119_568 (F : Nat) : Nat → Option LoopS := ltab []
theorem E119_568 (F : Nat) (d : sh119_568.den) (K : KF) : EB Tryz.prog (T119_568 F) (xw []) 10 0 (LT119_568 F) [] false Tryz.f119 sh119_568 d K = A119_568 (f119_568 F) d K := by delta A119_568 f119_568 T119_568 LT119_568;   as_aux_lemma => kernel_rfl
theorem S119_568_ok : So Tryz.prog 119 S119_568 :=
  fun F o ho => sOf (fn := Tryz.f119) (c := code119) tab_nil ho lnil snil rnil (E119_568 F)
end
section
noncomputable def f120_568 {β : Type} (F : Nat)  (K0 : Option β) : Option β := K0
variable [FZ]
def sh120_568 : Sh := ⟨[.lf (.nilp)], []⟩
abbrev Y120_568 := (Option Res) → Option Res
noncomputable def A120_568 (g : Y120_568) (d : sh120_568.den) (K : KF) : Option Res := g (K [.lf (.bool true)] [])
noncomputable def S120_568 (F : Nat) (o : Summ) : Summ := mkS sh120_568 (fun d K => A120_568 (f120_568 F) d K) o
noncomputable def T120_568 (F : Nat) : FuncId → Option Summ := tab []
noncomputable def LT120_568 (F : Nat) : Nat → Option LoopS := ltab []
theorem E120_568 (F : Nat) (d : sh120_568.den) (K : KF) : EB Tryz.prog (T120_568 F) (xw []) 11 0 (LT120_568 F) [] false Tryz.f120 sh120_568 d K = A120_568 (f120_568 F) d K := by delta A120_568 f120_568 T120_568 LT120_568;   as_aux_lemma => kernel_rfl
theorem S120_568_ok : So Tryz.prog 120 S120_568 :=
  fun F o ho => sOf (fn := Tryz.f120) (c := code120) tab_nil ho lnil snil rnil (E120_568 F)
end
section
noncomputable def f15_6206 {β : Type} (F : Nat) (a1 : Int) (K0 : Option β) : Option β := K0
variable [FZ]
def sh15_6206 : Sh := ⟨[.lf (.nilp), .lf (.int .i64)], []⟩
abbrev Y15_6206 := Int → (Option Res) → Option Res
noncomputable def A15_6206 (g : Y15_6206) (d : sh15_6206.den) (K : KF) : Option Res := g d.1.2.1 (K [.lf (.str ByteArray.empty), .lf (.int .i64 1)] [])
noncomputable def S15_6206 (F : Nat) (o : Summ) : Summ := mkS sh15_6206 (fun d K => A15_6206 (f15_6206 F) d K) o
noncomputable def T15_6206 (F : Nat) : FuncId → Option Summ := tab []
noncomputable def LT15_6206 (F : Nat) : Nat → Option LoopS := ltab []
theorem E15_6206 (F : Nat) (d : sh15_6206.den) (K : KF) : EB Tryz.prog (T15_6206 F) (xw []) 21 0 (LT15_6206 F) [] false Tryz.f15 sh15_6206 d K = A15_6206 (f15_6206 F) d K := by delta A15_6206 f15_6206 T15_6206 LT15_6206;   as_aux_lemma => kernel_rfl
theorem S15_6206_ok : So Tryz.prog 15 S15_6206 :=
  fun F o ho => sOf (fn := Tryz.f15) (c := code15) tab_nil ho lnil snil rnil (E15_6206 F)
end
section
noncomputable def f18_568 {β : Type} (F : Nat)  (K0 : List (Int × ByteArray) → Option β) : Option β := K0 []
variable [FZ]
def sh18_568 : Sh := ⟨[.lf (.nilp)], []⟩
abbrev Y18_568 := (List (Int × ByteArray) → Option Res) → Option Res
noncomputable def A18_568 (g : Y18_568) (d : sh18_568.den) (K : KF) : Option Res := g (fun y0 => K [.lf (.full 0)] [some ⟨false, [.seq (.pair (.int .i64) .str) 0 y0]⟩])
noncomputable def S18_568 (F : Nat) (o : Summ) : Summ := mkS sh18_568 (fun d K => A18_568 (f18_568 F) d K) o
noncomputable def T18_568 (F : Nat) : FuncId → Option Summ := tab []
noncomputable def LT18_568 (F : Nat) : Nat → Option LoopS := ltab []
theorem E18_568 (F : Nat) (d : sh18_568.den) (K : KF) : EB Tryz.prog (T18_568 F) (xw []) 10 0 (LT18_568 F) [] false Tryz.f18 sh18_568 d K = A18_568 (f18_568 F) d K := by delta A18_568 f18_568 T18_568 LT18_568;   as_aux_lemma => kernel_rfl
theorem S18_568_ok : So Tryz.prog 18 S18_568 :=
  fun F o ho => sOf (fn := Tryz.f18) (c := code18) tab_nil ho lnil snil rnil (E18_568 F)
end
section
noncomputable def f48_2116_l4 {β : Type} (F : Nat) (v4 : Int) (v5 : Bool) (v6 : Int) (v7 : List ByteArray) (v8 : List (Int × ByteArray)) (K0 K1 : Option β) : Nat → Int → Option β
  | 0, _ => none
  | k + 1, v3 => cond (decide (v3 < ((v7.length : Nat) : Int))) (f15_6206 F v3 (cond (decide ((0 : Int) ≤ v3 ∧ v3 < ((v7.length : Nat) : Int))) (cond (decide (0 + v3.toNat < v7.length)) (cond (!(ByteArray.empty.toList == (v7.getD (0 + v3.toNat) ByteArray.empty).toList)) (K0) (f48_2116_l4 F v4 v5 v6 v7 v8 K0 K1 k (IntKind.i64.wrap (v3 + 1)))) none) none) ) (K1)
noncomputable def f48_2116 {β : Type} (F : Nat) (a1 : Int) (a2 : Bool) (a3 : Int) (a4 : List ByteArray) (a5 : List (Int × ByteArray)) (K0 : Bool → Option β) : Option β := f119_568 F  (cond ((0 : Int) != ((a4.length : Nat) : Int)) (K0 false) (f120_568 F  (cond (!((true : Bool) == a2)) (K0 false) (f16_568 F  (cond ((0 : Int) != a3) (K0 false) (f18_568 F  (fun x1 => f17_1 F x1 a5 (fun x2 => cond (!x2) (K0 false) (f48_2116_l4 F a1 a2 a3 a4 a5 (K0 false) (K0 true) F 0)) ) )) )) )) 
variable [FZ]
def sh48_2116 : Sh := ⟨[.lf (.nilp), .lf (.ptr 0 0)], [some ⟨none, [.full 1, .full 2, .int .i64, .bool, .int .i64]⟩, some ⟨none, [.seq .str 0]⟩, some ⟨none, [.seq (.pair (.int .i64) .str) 0]⟩]⟩
abbrev Y48_2116 := Int → Bool → Int → List ByteArray → List (Int × ByteArray) → (Bool → Option Res) → Option Res
noncomputable def A48_2116 (g : Y48_2116) (d : sh48_2116.den) (K : KF) : Option Res := g d.2.1.2.2.2.1 d.2.1.2.2.2.2.1 d.2.1.2.2.2.2.2.1 d.2.2.1.2.1 d.2.2.2.1.2.1 (fun y0 => K [.lf (.bool y0)] [some ⟨d.2.1.1, [.full 1, .full 2, .int .i64 d.2.1.2.2.2.1, .bool d.2.1.2.2.2.2.1, .int .i64 d.2.1.2.2.2.2.2.1]⟩, some ⟨d.2.2.1.1, [.seq .str 0 d.2.2.1.2.1]⟩, some ⟨d.2.2.2.1.1, [.seq (.pair (.int .i64) .str) 0 d.2.2.2.1.2.1]⟩])
noncomputable def S48_2116 (F : Nat) (o : Summ) : Summ := mkS sh48_2116 (fun d K => A48_2116 (f48_2116 F) d K) o
noncomputable def T48_2116 (F : Nat) : FuncId → Option Summ := tab [(15, (S15_6206 F noS)), (16, (S16_568 F noS)), (17, (S17_1 F noS)), (18, (S18_568 F noS)), (119, (S119_568 F noS)), (120, (S120_568 F noS))]
def sh48_2116_l4 : Sh := ⟨[.lf (.nilp), .lf (.ptr 0 0), .lf (.int .i64)], [some ⟨none, [.full 1, .full 2, .int .i64, .bool, .int .i64]⟩, some ⟨none, [.seq .str 0]⟩, some ⟨none, [.seq (.pair (.int .i64) .str) 0]⟩]⟩
abbrev Y48_2116_l4 := Int → Bool → Int → List ByteArray → List (Int × ByteArray) → (Option Res) → (Option Res) → Nat → Int → Option Res
noncomputable def A48_2116_l4 (g : Y48_2116_l4) (k : Nat) (d : sh48_2116_l4.den) (K : KL) : Option Res := g d.2.1.2.2.2.1 d.2.1.2.2.2.2.1 d.2.1.2.2.2.2.2.1 d.2.2.1.2.1 d.2.2.2.1.2.1 (K .ret [.tv (.lf (.bool false))] [some ⟨d.2.1.1, [.full 1, .full 2, .int .i64 d.2.1.2.2.2.1, .bool d.2.1.2.2.2.2.1, .int .i64 d.2.1.2.2.2.2.2.1]⟩, some ⟨d.2.2.1.1, [.seq .str 0 d.2.2.1.2.1]⟩, some ⟨d.2.2.2.1.1, [.seq (.pair (.int .i64) .str) 0 d.2.2.2.1.2.1]⟩]) (K (.exit 0) [] [some ⟨d.2.1.1, [.full 1, .full 2, .int .i64 d.2.1.2.2.2.1, .bool d.2.1.2.2.2.2.1, .int .i64 d.2.1.2.2.2.2.2.1]⟩, some ⟨d.2.2.1.1, [.seq .str 0 d.2.2.1.2.1]⟩, some ⟨d.2.2.2.1.1, [.seq (.pair (.int .i64) .str) 0 d.2.2.2.1.2.1]⟩]) k d.1.2.2.1
noncomputable def G48_2116_4 (F k : Nat) : LoopS := mkG sh48_2116_l4 [0, 1, 5] (outT [(.exit 0, []), (.ret, [4])]) (fun d K => A48_2116_l4 (f48_2116_l4 F) k d K) []
noncomputable def LT48_2116 (F : Nat) : Nat → Option LoopS := ltab [(4, G48_2116_4 F F)]
theorem L48_2116_4 (F : Nat) : LoopOK Tryz.prog (T48_2116 F) (xw []) 68 3 (LT48_2116 F) (G48_2116_4 F F) b48_0 :=
  loopOK_of (s := sh48_2116_l4) (live := [0, 1, 5]) (out := (outT [(.exit 0, []), (.ret, [4])])) (mv := []) (fun k d K => A48_2116_l4 (f48_2116_l4 F) k d K) F (fun d K => by kernel_rfl)  (fun k d K => by delta A48_2116_l4; refine (f48_2116_l4.eq_2 ..).trans ?_; delta T48_2116 S15_6206 S16_568 S17_1 S18_568 S119_568 S120_568 LT48_2116; generalize (G48_2116_4 F F) = c;  (try delta G48_2116_4); generalize (f15_6206 F : Y15_6206) = c, (f16_568 F : Y16_568) = c, (f17_1 F : Y17_1) = c, (f18_568 F : Y18_568) = c, (f119_568 F : Y119_568) = c, (f120_568 F : Y120_568) = c, (f48_2116_l4 F : Y48_2116_l4) = c; as_aux_lemma => kernel_rfl)
theorem E48_2116 (F : Nat) (d : sh48_2116.den) (K : KF) : EB Tryz.prog (T48_2116 F) (xw []) 68 3 (LT48_2116 F) [] false Tryz.f48 sh48_2116 d K = A48_2116 (f48_2116 F) d K := by delta A48_2116 f48_2116 T48_2116 S15_6206 S16_568 S17_1 S18_568 S119_568 S120_568 LT48_2116;  delta G48_2116_4; generalize (f15_6206 F : Y15_6206) = c, (f16_568 F : Y16_568) = c, (f17_1 F : Y17_1) = c, (f18_568 F : Y18_568) = c, (f119_568 F : Y119_568) = c, (f120_568 F : Y120_568) = c, (f48_2116_l4 F : Y48_2116_l4) = c; as_aux_lemma => kernel_rfl
theorem S48_2116_ok : So Tryz.prog 48 S48_2116 :=
  fun F o ho => sOf (fn := Tryz.f48) (c := code48) (tab_cons (S15_6206_ok F _ (noS_sound enter15)) (tab_cons (S16_568_ok F _ (noS_sound enter16)) (tab_cons (S17_1_ok F _ (noS_sound enter17)) (tab_cons (S18_568_ok F _ (noS_sound enter18)) (tab_cons (S119_568_ok F _ (noS_sound enter119)) (tab_cons (S120_568_ok F _ (noS_sound enter120)) tab_nil)))))) ho (by rw [loops48]; exact (loopsOK_cons (by kernel_rfl) (L48_2116_4 F) loopsOK_nil)) snil rnil (E48_2116 F)
end
section
noncomputable def f48_3920 {β : Type} (F : Nat) (a1 : Int) (a2 : Bool) (a3 : Int) (a4 : List ByteArray) (a5 : List (Int × ByteArray))  : Option β := none
variable [FZ]
def sh48_3920 : Sh := ⟨[.lf (.ptr 0 0), .lf (.nilp)], [some ⟨none, [.full 1, .full 2, .int .i64, .bool, .int .i64]⟩, some ⟨none, [.seq .str 0]⟩, some ⟨none, [.seq (.pair (.int .i64) .str) 0]⟩]⟩
abbrev Y48_3920 := Int → Bool → Int → List ByteArray → List (Int × ByteArray) → Option Res
noncomputable def A48_3920 (g : Y48_3920) (d : sh48_3920.den) (K : KF) : Option Res := g d.2.1.2.2.2.1 d.2.1.2.2.2.2.1 d.2.1.2.2.2.2.2.1 d.2.2.1.2.1 d.2.2.2.1.2.1
noncomputable def S48_3920 (F : Nat) (o : Summ) : Summ := mkS sh48_3920 (fun d K => A48_3920 (f48_3920 F) d K) o
noncomputable def T48_3920 (F : Nat) : FuncId → Option Summ := tab []
noncomputable def LT48_3920 (F : Nat) : Nat → Option LoopS := ltab []
theorem E48_3920 (F : Nat) (d : sh48_3920.den) (K : KF) : EB Tryz.prog (T48_3920 F) (xw []) 68 3 (LT48_3920 F) [] false Tryz.f48 sh48_3920 d K = A48_3920 (f48_3920 F) d K := by delta A48_3920 f48_3920 T48_3920 LT48_3920;   as_aux_lemma => kernel_rfl
theorem S48_3920_ok : So Tryz.prog 48 S48_3920 :=
  fun F o ho => sOf (fn := Tryz.f48) (c := code48) tab_nil ho (by rw [loops48]; exact (loopsOK_skip (by kernel_rfl) loopsOK_nil)) snil rnil (E48_3920 F)
end
section
noncomputable def f48_8375 {β : Type} (F : Nat)   : Option β := none
variable [FZ]
def sh48_8375 : Sh := ⟨[.lf (.nilp), .lf (.nilp)], []⟩
abbrev Y48_8375 := Option Res
noncomputable def A48_8375 (g : Y48_8375) (d : sh48_8375.den) (K : KF) : Option Res := g
noncomputable def S48_8375 (F : Nat) (o : Summ) : Summ := mkS sh48_8375 (fun d K => A48_8375 (f48_8375 F) d K) o
noncomputable def T48_8375 (F : Nat) : FuncId → Option Summ := tab []
noncomputable def LT48_8375 (F : Nat) : Nat → Option LoopS := ltab []
theorem E48_8375 (F : Nat) (d : sh48_8375.den) (K : KF) : EB Tryz.prog (T48_8375 F) (xw []) 68 0 (LT48_8375 F) [] false Tryz.f48 sh48_8375 d K = A48_8375 (f48_8375 F) d K := by delta A48_8375 f48_8375 T48_8375 LT48_8375;   as_aux_lemma => kernel_rfl
theorem S48_8375_ok : So Tryz.prog 48 S48_8375 :=
  fun F o ho => sOf (fn := Tryz.f48) (c := code48) tab_nil ho (by rw [loops48]; exact (loopsOK_skip (by kernel_rfl) loopsOK_nil)) snil rnil (E48_8375 F)
end
section
noncomputable def f7_1_l6 [FZ] {β : Type} (F : Nat) (v5 : List (Int × (Int × (ByteArray × ((Sl (.int .i64)) × (Sl .bool)))))) (v6 v7 v8 v9 : Int) (K0 : Bool → Option β) (K1 : Option β) : Nat → Int → Option β
  | 0, _ => none
  | k + 1, v4 => cond (decide (v4 < ((v5.length : Nat) : Int))) (cond (decide ((0 : Int) ≤ v4 ∧ v4 < ((v5.length : Nat) : Int))) (cond (decide (0 + v4.toNat < v5.length)) (cond (decide ((((((v5.getD (0 + v4.toNat) (0, (0, (ByteArray.empty, ((Sl.nil (.int .i64)), (Sl.nil .bool)))))).2).2).1).size : Int) > 200)) (f40_1 F  (fun x10 => K0 x10) ) (cond (decide ((0 : Int) ≤ v4 ∧ v4 < ((v5.length : Nat) : Int))) (cond (decide (0 + v4.toNat < v5.length)) (cond (decide ((((((((v5.getD (0 + v4.toNat) (0, (0, (ByteArray.empty, ((Sl.nil (.int .i64)), (Sl.nil .bool)))))).2).2).2).1).dat.length : Nat) : Int) > 60)) (f40_1 F  (fun x11 => K0 x11) ) (cond (decide ((0 : Int) ≤ v4 ∧ v4 < ((v5.length : Nat) : Int))) (cond (decide (0 + v4.toNat < v5.length)) (f47_2800 F v6 v7 v8 v9 ((v5.getD (0 + v4.toNat) (0, (0, (ByteArray.empty, ((Sl.nil (.int .i64)), (Sl.nil .bool)))))).1) (((v5.getD (0 + v4.toNat) (0, (0, (ByteArray.empty, ((Sl.nil (.int .i64)), (Sl.nil .bool)))))).2).1) ((((v5.getD (0 + v4.toNat) (0, (0, (ByteArray.empty, ((Sl.nil (.int .i64)), (Sl.nil .bool)))))).2).2).1) (((((v5.getD (0 + v4.toNat) (0, (0, (ByteArray.empty, ((Sl.nil (.int .i64)), (Sl.nil .bool)))))).2).2).2).1) (((((v5.getD (0 + v4.toNat) (0, (0, (ByteArray.empty, ((Sl.nil (.int .i64)), (Sl.nil .bool)))))).2).2).2).2) (fun x12 => cond (!x12) (K0 false) (f7_1_l6 F v5 v6 v7 v8 v9 K0 K1 k (IntKind.i64.wrap (v4 + 1)))) ) none) none)) none) none)) none) none) (K1)
noncomputable def f7_1_l6_2 [FZ] {β : Type} (F : Nat) (v17 : List (Int × (Int × (ByteArray × ((Sl (.int .i64)) × (Sl .bool)))))) (v18 v19 v20 v21 : Int) (K0 : Bool → Int → Bool → Int → List ByteArray → List (Int × ByteArray) → Option β) (K1 K2 : Int → Bool → Int → List ByteArray → List (Int × ByteArray) → Option β) : Nat → Int → Int → Bool → Int → List ByteArray → List (Int × ByteArray) → Option β
  | 0, _, _, _, _, _, _ => none
  | k + 1, v16, v22, v23, v24, v25, v26 => cond (decide (v16 < ((v17.length : Nat) : Int))) (cond (decide ((0 : Int) ≤ v16 ∧ v16 < ((v17.length : Nat) : Int))) (cond (decide (0 + v16.toNat < v17.length)) (cond (decide ((((((v17.getD (0 + v16.toNat) (0, (0, (ByteArray.empty, ((Sl.nil (.int .i64)), (Sl.nil .bool)))))).2).2).1).size : Int) > 200)) (f40_1 F  (fun x27 => K0 x27 v22 v23 v24 v25 v26) ) (cond (decide ((0 : Int) ≤ v16 ∧ v16 < ((v17.length : Nat) : Int))) (cond (decide (0 + v16.toNat < v17.length)) (cond (decide ((((((((v17.getD (0 + v16.toNat) (0, (0, (ByteArray.empty, ((Sl.nil (.int .i64)), (Sl.nil .bool)))))).2).2).2).1).dat.length : Nat) : Int) > 60)) (f40_1 F  (fun x28 => K0 x28 v22 v23 v24 v25 v26) ) (cond (decide ((0 : Int) ≤ v16 ∧ v16 < ((v17.length : Nat) : Int))) (cond (decide (0 + v16.toNat < v17.length)) (f47_6032 F v18 v19 v20 v21 ((v17.getD (0 + v16.toNat) (0, (0, (ByteArray.empty, ((Sl.nil (.int .i64)), (Sl.nil .bool)))))).1) (((v17.getD (0 + v16.toNat) (0, (0, (ByteArray.empty, ((Sl.nil (.int .i64)), (Sl.nil .bool)))))).2).1) ((((v17.getD (0 + v16.toNat) (0, (0, (ByteArray.empty, ((Sl.nil (.int .i64)), (Sl.nil .bool)))))).2).2).1) (((((v17.getD (0 + v16.toNat) (0, (0, (ByteArray.empty, ((Sl.nil (.int .i64)), (Sl.nil .bool)))))).2).2).2).1) (((((v17.getD (0 + v16.toNat) (0, (0, (ByteArray.empty, ((Sl.nil (.int .i64)), (Sl.nil .bool)))))).2).2).2).2) v22 v23 v24 v25 v26 (fun x29 x30 x31 x32 x33 x34 => cond (!x29) (K1 x30 x31 x32 x33 x34) (f7_1_l6_2 F v17 v18 v19 v20 v21 K0 K1 K2 k (IntKind.i64.wrap (v16 + 1)) x30 x31 x32 x33 x34)) ) none) none)) none) none)) none) none) (K2 v22 v23 v24 v25 v26)
noncomputable def f7_1_l6_3 [FZ] {β : Type} (F : Nat) (v56 : List (Int × (Int × (ByteArray × ((Sl (.int .i64)) × (Sl .bool)))))) (v57 v58 v59 v60 : Int) (K0 : Bool → Int → Bool → Int → List ByteArray → List (Int × ByteArray) → Option β) (K1 K2 : Int → Bool → Int → List ByteArray → List (Int × ByteArray) → Option β) : Nat → Int → Int → Bool → Int → List ByteArray → List (Int × ByteArray) → Option β
  | 0, _, _, _, _, _, _ => none
  | k + 1, v55, v61, v62, v63, v64, v65 => cond (decide (v55 < ((v56.length : Nat) : Int))) (cond (decide ((0 : Int) ≤ v55 ∧ v55 < ((v56.length : Nat) : Int))) (cond (decide (0 + v55.toNat < v56.length)) (cond (decide ((((((v56.getD (0 + v55.toNat) (0, (0, (ByteArray.empty, ((Sl.nil (.int .i64)), (Sl.nil .bool)))))).2).2).1).size : Int) > 200)) (f40_1 F  (fun x66 => K0 x66 v61 v62 v63 v64 v65) ) (cond (decide ((0 : Int) ≤ v55 ∧ v55 < ((v56.length : Nat) : Int))) (cond (decide (0 + v55.toNat < v56.length)) (cond (decide ((((((((v56.getD (0 + v55.toNat) (0, (0, (ByteArray.empty, ((Sl.nil (.int .i64)), (Sl.nil .bool)))))).2).2).2).1).dat.length : Nat) : Int) > 60)) (f40_1 F  (fun x67 => K0 x67 v61 v62 v63 v64 v65) ) (cond (decide ((0 : Int) ≤ v55 ∧ v55 < ((v56.length : Nat) : Int))) (cond (decide (0 + v55.toNat < v56.length)) (f47_6182 F v57 v58 v59 v60 ((v56.getD (0 + v55.toNat) (0, (0, (ByteArray.empty, ((Sl.nil (.int .i64)), (Sl.nil .bool)))))).1) (((v56.getD (0 + v55.toNat) (0, (0, (ByteArray.empty, ((Sl.nil (.int .i64)), (Sl.nil .bool)))))).2).1) ((((v56.getD (0 + v55.toNat) (0, (0, (ByteArray.empty, ((Sl.nil (.int .i64)), (Sl.nil .bool)))))).2).2).1) (((((v56.getD (0 + v55.toNat) (0, (0, (ByteArray.empty, ((Sl.nil (.int .i64)), (Sl.nil .bool)))))).2).2).2).1) (((((v56.getD (0 + v55.toNat) (0, (0, (ByteArray.empty, ((Sl.nil (.int .i64)), (Sl.nil .bool)))))).2).2).2).2) v61 v62 v63 v64 v65 (fun x68 x69 x70 x71 x72 x73 => cond (!x68) (K1 x69 x70 x71 x72 x73) (f7_1_l6_3 F v56 v57 v58 v59 v60 K0 K1 K2 k (IntKind.i64.wrap (v55 + 1)) x69 x70 x71 x72 x73)) ) none) none)) none) none)) none) none) (K2 v61 v62 v63 v64 v65)
noncomputable def f7_1_l6_4 [FZ] {β : Type} (F : Nat) (v93 : List (Int × (Int × (ByteArray × ((Sl (.int .i64)) × (Sl .bool)))))) (v94 v95 v96 v97 : Int) (K0 : Bool → Int → Bool → Int → List ByteArray → List (Int × ByteArray) → Int → Bool → Int → List ByteArray → List (Int × ByteArray) → Option β) (K1 : Int → Bool → Int → List ByteArray → Int → Bool → Int → List ByteArray → List (Int × ByteArray) → List (Int × ByteArray) → Option β) (K2 : Int → Bool → Int → List ByteArray → List (Int × ByteArray) → Int → Bool → Int → List ByteArray → List (Int × ByteArray) → Option β) : Nat → Int → Int → Bool → Int → List ByteArray → List (Int × ByteArray) → Int → Bool → Int → List ByteArray → List (Int × ByteArray) → Option β
  | 0, _, _, _, _, _, _, _, _, _, _, _ => none
  | k + 1, v92, v98, v99, v100, v101, v102, v103, v104, v105, v106, v107 => cond (decide (v92 < ((v93.length : Nat) : Int))) (cond (decide ((0 : Int) ≤ v92 ∧ v92 < ((v93.length : Nat) : Int))) (cond (decide (0 + v92.toNat < v93.length)) (cond (decide ((((((v93.getD (0 + v92.toNat) (0, (0, (ByteArray.empty, ((Sl.nil (.int .i64)), (Sl.nil .bool)))))).2).2).1).size : Int) > 200)) (f40_1 F  (fun x108 => K0 x108 v98 v99 v100 v101 v102 v103 v104 v105 v106 v107) ) (cond (decide ((0 : Int) ≤ v92 ∧ v92 < ((v93.length : Nat) : Int))) (cond (decide (0 + v92.toNat < v93.length)) (cond (decide ((((((((v93.getD (0 + v92.toNat) (0, (0, (ByteArray.empty, ((Sl.nil (.int .i64)), (Sl.nil .bool)))))).2).2).2).1).dat.length : Nat) : Int) > 60)) (f40_1 F  (fun x109 => K0 x109 v98 v99 v100 v101 v102 v103 v104 v105 v106 v107) ) (cond (decide ((0 : Int) ≤ v92 ∧ v92 < ((v93.length : Nat) : Int))) (cond (decide (0 + v92.toNat < v93.length)) (f47_1 F v94 v95 v96 v97 ((v93.getD (0 + v92.toNat) (0, (0, (ByteArray.empty, ((Sl.nil (.int .i64)), (Sl.nil .bool)))))).1) (((v93.getD (0 + v92.toNat) (0, (0, (ByteArray.empty, ((Sl.nil (.int .i64)), (Sl.nil .bool)))))).2).1) ((((v93.getD (0 + v92.toNat) (0, (0, (ByteArray.empty, ((Sl.nil (.int .i64)), (Sl.nil .bool)))))).2).2).1) (((((v93.getD (0 + v92.toNat) (0, (0, (ByteArray.empty, ((Sl.nil (.int .i64)), (Sl.nil .bool)))))).2).2).2).1) (((((v93.getD (0 + v92.toNat) (0, (0, (ByteArray.empty, ((Sl.nil (.int .i64)), (Sl.nil .bool)))))).2).2).2).2) v98 v99 v100 v101 v102 v103 v104 v105 v106 v107 (fun x110 x111 x112 x113 x114 x115 x116 x117 x118 x119 x120 => cond (!x110) (K1 x111 x112 x113 x114 x115 x116 x117 x118 x119 x120) (f7_1_l6_4 F v93 v94 v95 v96 v97 K0 K1 K2 k (IntKind.i64.wrap (v92 + 1)) x111 x112 x113 x114 x119 x115 x116 x117 x118 x120)) ) none) none)) none) none)) none) none) (K2 v98 v99 v100 v101 v102 v103 v104 v105 v106 v107)
noncomputable def f7_1 [FZ] {β : Type} (F : Nat) (a1 a2 a3 a4 : Int) (a5 : List (Int × (Int × (ByteArray × ((Sl (.int .i64)) × (Sl .bool)))))) (K0 : Bool → Option β) : Option β := f39_1 F a1 a2 a3 a4 (fun x1 => cond (!x1) (f40_1 F  (fun x2 => K0 x2) ) (cond (decide (((a5.length : Nat) : Int) > 30)) (f40_1 F  (fun x3 => K0 x3) ) (f12_1 F 80 (f13_1 F 80 (f7_1_l6 F a5 a1 a2 a3 a4 (fun x13 => K0 x13) (f48_8375 F  ) F 0) (fun x14 x15 => f7_1_l6_2 F a5 a1 a2 a3 a4 (fun x35 x36 x37 x38 x39 x40 => K0 x35) (fun x41 x42 x43 x44 x45 => K0 false) (fun x46 x47 x48 x49 x50 => f48_2116 F x46 x47 x48 x49 x50 (fun x51 => cond x51 (f40_1 F  (fun x52 => K0 x52) ) (K0 false)) ) F 0 (-1) false 0 x14 x15) ) (fun x53 x54 => f13_1 F 80 (f7_1_l6_3 F a5 a1 a2 a3 a4 (fun x74 x75 x76 x77 x78 x79 => K0 x74) (fun x80 x81 x82 x83 x84 => K0 false) (fun x85 x86 x87 x88 x89 => f48_3920 F x85 x86 x87 x88 x89 ) F 0 (-1) false 0 x53 x54) (fun x90 x91 => f7_1_l6_4 F a5 a1 a2 a3 a4 (fun x121 x122 x123 x124 x125 x126 x127 x128 x129 x130 x131 => K0 x121) (fun x132 x133 x134 x135 x136 x137 x138 x139 x140 x141 => K0 false) (fun x142 x143 x144 x145 x146 x147 x148 x149 x150 x151 => f48_1 F x142 x143 x144 x145 x146 x147 x148 x149 x150 x151 (fun x152 => cond x152 (f40_1 F  (fun x153 => K0 x153) ) (K0 false)) ) F 0 (-1) false 0 x53 x54 (-1) false 0 x90 x91) ) ))) 
variable [FZ]
def sh7_1 : Sh := ⟨[.agg [.int .i64, .int .i64, .int .i64, .int .i64], .lf (.full 0)], [some ⟨none, [.seq (.pair (.int .i64) (.pair (.int .i64) (.pair .str (.pair (.sl (.int .i64)) (.sl .bool))))) 0]⟩]⟩
abbrev Y7_1 := Int → Int → Int → Int → List (Int × (Int × (ByteArray × ((Sl (.int .i64)) × (Sl .bool))))) → (Bool → Option Res) → Option Res
noncomputable def A7_1 (g : Y7_1) (d : sh7_1.den) (K : KF) : Option Res := g d.1.1.1 d.1.1.2.1 d.1.1.2.2.1 d.1.1.2.2.2.1 d.2.1.2.1 (fun y0 => K [.lf (.bool y0)] [some ⟨d.2.1.1, [.seq (.pair (.int .i64) (.pair (.int .i64) (.pair .str (.pair (.sl (.int .i64)) (.sl .bool))))) 0 d.2.1.2.1]⟩])
noncomputable def S7_1 (F : Nat) (o : Summ) : Summ := mkS sh7_1 (fun d K => A7_1 (f7_1 F) d K) o
noncomputable def code7 : Code := bodyOf Tryz.f7
noncomputable def b7_0 : Code := cB (cB (cR (cL (cR (cR (cR (cR (code7))))))))
theorem loops7 : loopsOf code7 = [b7_0] := by kernel_rfl
theorem enter7 : En Tryz.prog 7 := enO (fn := Tryz.f7)
noncomputable def T7_1 (F : Nat) : FuncId → Option Summ := tab [(12, (S12_1 F noS)), (13, (S13_1 F noS)), (39, (S39_1 F noS)), (40, (S40_1 F noS)), (47, (S47_1 F (S47_2800 F (S47_6032 F (S47_6182 F noS))))), (48, (S48_1 F (S48_2116 F (S48_3920 F (S48_8375 F noS)))))]
def sh7_1_l6 : Sh := ⟨[.lf (.full 0), .lf (.ptr 1 0), .lf (.nilp), .lf (.nilp), .lf (.int .i64)], [some ⟨none, [.seq (.pair (.int .i64) (.pair (.int .i64) (.pair .str (.pair (.sl (.int .i64)) (.sl .bool))))) 0]⟩, some ⟨some false, [.int .i64, .int .i64, .int .i64, .int .i64]⟩]⟩
abbrev Y7_1_l6 := List (Int × (Int × (ByteArray × ((Sl (.int .i64)) × (Sl .bool))))) → Int → Int → Int → Int → (Bool → Option Res) → (Option Res) → Nat → Int → Option Res
noncomputable def A7_1_l6 (g : Y7_1_l6) (k : Nat) (d : sh7_1_l6.den) (K : KL) : Option Res := g d.2.1.2.1 d.2.2.1.2.1 d.2.2.1.2.2.1 d.2.2.1.2.2.2.1 d.2.2.1.2.2.2.2.1 (fun y0 => K .ret [.tv (.lf (.bool y0))] [some ⟨d.2.1.1, [.seq (.pair (.int .i64) (.pair (.int .i64) (.pair .str (.pair (.sl (.int .i64)) (.sl .bool))))) 0 d.2.1.2.1]⟩, some ⟨false, [.int .i64 d.2.2.1.2.1, .int .i64 d.2.2.1.2.2.1, .int .i64 d.2.2.1.2.2.2.1, .int .i64 d.2.2.1.2.2.2.2.1]⟩]) (K (.exit 0) [.tv (.lf (.nilp)), .tv (.lf (.nilp))] [some ⟨d.2.1.1, [.seq (.pair (.int .i64) (.pair (.int .i64) (.pair .str (.pair (.sl (.int .i64)) (.sl .bool))))) 0 d.2.1.2.1]⟩, some ⟨false, [.int .i64 d.2.2.1.2.1, .int .i64 d.2.2.1.2.2.1, .int .i64 d.2.2.1.2.2.2.1, .int .i64 d.2.2.1.2.2.2.2.1]⟩]) k d.1.2.2.2.2.1
def sh7_1_l6_2 : Sh := ⟨[.lf (.full 0), .lf (.ptr 1 0), .lf (.nilp), .lf (.ptr 2 0), .lf (.int .i64)], [some ⟨none, [.seq (.pair (.int .i64) (.pair (.int .i64) (.pair .str (.pair (.sl (.int .i64)) (.sl .bool))))) 0]⟩, some ⟨some false, [.int .i64, .int .i64, .int .i64, .int .i64]⟩, some ⟨some false, [.full 3, .full 4, .int .i64, .bool, .int .i64]⟩, some ⟨some false, [.seq .str 0]⟩, some ⟨some false, [.seq (.pair (.int .i64) .str) 0]⟩]⟩
abbrev Y7_1_l6_2 := List (Int × (Int × (ByteArray × ((Sl (.int .i64)) × (Sl .bool))))) → Int → Int → Int → Int → (Bool → Int → Bool → Int → List ByteArray → List (Int × ByteArray) → Option Res) → (Int → Bool → Int → List ByteArray → List (Int × ByteArray) → Option Res) → (Int → Bool → Int → List ByteArray → List (Int × ByteArray) → Option Res) → Nat → Int → Int → Bool → Int → List ByteArray → List (Int × ByteArray) → Option Res
noncomputable def A7_1_l6_2 (g : Y7_1_l6_2) (k : Nat) (d : sh7_1_l6_2.den) (K : KL) : Option Res := g d.2.1.2.1 d.2.2.1.2.1 d.2.2.1.2.2.1 d.2.2.1.2.2.2.1 d.2.2.1.2.2.2.2.1 (fun y0 y6 y7 y8 y9 y10 => K .ret [.tv (.lf (.bool y0))] [some ⟨d.2.1.1, [.seq (.pair (.int .i64) (.pair (.int .i64) (.pair .str (.pair (.sl (.int .i64)) (.sl .bool))))) 0 d.2.1.2.1]⟩, some ⟨false, [.int .i64 d.2.2.1.2.1, .int .i64 d.2.2.1.2.2.1, .int .i64 d.2.2.1.2.2.2.1, .int .i64 d.2.2.1.2.2.2.2.1]⟩, some ⟨false, [.full 3, .full 4, .int .i64 y6, .bool y7, .int .i64 y8]⟩, some ⟨false, [.seq .str 0 y9]⟩, some ⟨false, [.seq (.pair (.int .i64) .str) 0 y10]⟩]) (fun y6 y7 y8 y9 y10 => K .ret [.tv (.lf (.bool false))] [some ⟨d.2.1.1, [.seq (.pair (.int .i64) (.pair (.int .i64) (.pair .str (.pair (.sl (.int .i64)) (.sl .bool))))) 0 d.2.1.2.1]⟩, some ⟨false, [.int .i64 d.2.2.1.2.1, .int .i64 d.2.2.1.2.2.1, .int .i64 d.2.2.1.2.2.2.1, .int .i64 d.2.2.1.2.2.2.2.1]⟩, some ⟨false, [.full 3, .full 5, .int .i64 y6, .bool y7, .int .i64 y8]⟩, some ⟨false, [.seq .str 0 y9]⟩, none, some ⟨false, [.seq (.pair (.int .i64) .str) 0 y10]⟩]) (fun y5 y6 y7 y8 y9 => K (.exit 0) [.tv (.lf (.nilp)), .tv (.lf (.ptr 2 0))] [some ⟨d.2.1.1, [.seq (.pair (.int .i64) (.pair (.int .i64) (.pair .str (.pair (.sl (.int .i64)) (.sl .bool))))) 0 d.2.1.2.1]⟩, some ⟨false, [.int .i64 d.2.2.1.2.1, .int .i64 d.2.2.1.2.2.1, .int .i64 d.2.2.1.2.2.2.1, .int .i64 d.2.2.1.2.2.2.2.1]⟩, some ⟨false, [.full 3, .full 4, .int .i64 y5, .bool y6, .int .i64 y7]⟩, some ⟨false, [.seq .str 0 y8]⟩, some ⟨false, [.seq (.pair (.int .i64) .str) 0 y9]⟩]) k d.1.2.2.2.2.1 d.2.2.2.1.2.2.2.1 d.2.2.2.1.2.2.2.2.1 d.2.2.2.1.2.2.2.2.2.1 d.2.2.2.2.1.2.1 d.2.2.2.2.2.1.2.1
def sh7_1_l6_3 : Sh := ⟨[.lf (.full 0), .lf (.ptr 1 0), .lf (.ptr 2 0), .lf (.nilp), .lf (.int .i64)], [some ⟨none, [.seq (.pair (.int .i64) (.pair (.int .i64) (.pair .str (.pair (.sl (.int .i64)) (.sl .bool))))) 0]⟩, some ⟨some false, [.int .i64, .int .i64, .int .i64, .int .i64]⟩, some ⟨some false, [.full 3, .full 4, .int .i64, .bool, .int .i64]⟩, some ⟨some false, [.seq .str 0]⟩, some ⟨some false, [.seq (.pair (.int .i64) .str) 0]⟩]⟩
abbrev Y7_1_l6_3 := List (Int × (Int × (ByteArray × ((Sl (.int .i64)) × (Sl .bool))))) → Int → Int → Int → Int → (Bool → Int → Bool → Int → List ByteArray → List (Int × ByteArray) → Option Res) → (Int → Bool → Int → List ByteArray → List (Int × ByteArray) → Option Res) → (Int → Bool → Int → List ByteArray → List (Int × ByteArray) → Option Res) → Nat → Int → Int → Bool → Int → List ByteArray → List (Int × ByteArray) → Option Res
noncomputable def A7_1_l6_3 (g : Y7_1_l6_3) (k : Nat) (d : sh7_1_l6_3.den) (K : KL) : Option Res := g d.2.1.2.1 d.2.2.1.2.1 d.2.2.1.2.2.1 d.2.2.1.2.2.2.1 d.2.2.1.2.2.2.2.1 (fun y0 y6 y7 y8 y9 y10 => K .ret [.tv (.lf (.bool y0))] [some ⟨d.2.1.1, [.seq (.pair (.int .i64) (.pair (.int .i64) (.pair .str (.pair (.sl (.int .i64)) (.sl .bool))))) 0 d.2.1.2.1]⟩, some ⟨false, [.int .i64 d.2.2.1.2.1, .int .i64 d.2.2.1.2.2.1, .int .i64 d.2.2.1.2.2.2.1, .int .i64 d.2.2.1.2.2.2.2.1]⟩, some ⟨false, [.full 3, .full 4, .int .i64 y6, .bool y7, .int .i64 y8]⟩, some ⟨false, [.seq .str 0 y9]⟩, some ⟨false, [.seq (.pair (.int .i64) .str) 0 y10]⟩]) (fun y6 y7 y8 y9 y10 => K .ret [.tv (.lf (.bool false))] [some ⟨d.2.1.1, [.seq (.pair (.int .i64) (.pair (.int .i64) (.pair .str (.pair (.sl (.int .i64)) (.sl .bool))))) 0 d.2.1.2.1]⟩, some ⟨false, [.int .i64 d.2.2.1.2.1, .int .i64 d.2.2.1.2.2.1, .int .i64 d.2.2.1.2.2.2.1, .int .i64 d.2.2.1.2.2.2.2.1]⟩, some ⟨false, [.full 3, .full 5, .int .i64 y6, .bool y7, .int .i64 y8]⟩, some ⟨false, [.seq .str 0 y9]⟩, none, some ⟨false, [.seq (.pair (.int .i64) .str) 0 y10]⟩]) (fun y5 y6 y7 y8 y9 => K (.exit 0) [.tv (.lf (.ptr 2 0)), .tv (.lf (.nilp))] [some ⟨d.2.1.1, [.seq (.pair (.int .i64) (.pair (.int .i64) (.pair .str (.pair (.sl (.int .i64)) (.sl .bool))))) 0 d.2.1.2.1]⟩, some ⟨false, [.int .i64 d.2.2.1.2.1, .int .i64 d.2.2.1.2.2.1, .int .i64 d.2.2.1.2.2.2.1, .int .i64 d.2.2.1.2.2.2.2.1]⟩, some ⟨false, [.full 3, .full 4, .int .i64 y5, .bool y6, .int .i64 y7]⟩, some ⟨false, [.seq .str 0 y8]⟩, some ⟨false, [.seq (.pair (.int .i64) .str) 0 y9]⟩]) k d.1.2.2.2.2.1 d.2.2.2.1.2.2.2.1 d.2.2.2.1.2.2.2.2.1 d.2.2.2.1.2.2.2.2.2.1 d.2.2.2.2.1.2.1 d.2.2.2.2.2.1.2.1
def sh7_1_l6_4 : Sh := ⟨[.lf (.full 0), .lf (.ptr 1 0), .lf (.ptr 2 0), .lf (.ptr 5 0), .lf (.int .i64)], [some ⟨none, [.seq (.pair (.int .i64) (.pair (.int .i64) (.pair .str (.pair (.sl (.int .i64)) (.sl .bool))))) 0]⟩, some ⟨some false, [.int .i64, .int .i64, .int .i64, .int .i64]⟩, some ⟨some false, [.full 3, .full 4, .int .i64, .bool, .int .i64]⟩, some ⟨some false, [.seq .str 0]⟩, some ⟨some false, [.seq (.pair (.int .i64) .str) 0]⟩, some ⟨some false, [.full 6, .full 7, .int .i64, .bool, .int .i64]⟩, some ⟨some false, [.seq .str 0]⟩, some ⟨some false, [.seq (.pair (.int .i64) .str) 0]⟩]⟩
abbrev Y7_1_l6_4 := List (Int × (Int × (ByteArray × ((Sl (.int .i64)) × (Sl .bool))))) → Int → Int → Int → Int → (Bool → Int → Bool → Int → List ByteArray → List (Int × ByteArray) → Int → Bool → Int → List ByteArray → List (Int × ByteArray) → Option Res) → (Int → Bool → Int → List ByteArray → Int → Bool → Int → List ByteArray → List (Int × ByteArray) → List (Int × ByteArray) → Option Res) → (Int → Bool → Int → List ByteArray → List (Int × ByteArray) → Int → Bool → Int → List ByteArray → List (Int × ByteArray) → Option Res) → Nat → Int → Int → Bool → Int → List ByteArray → List (Int × ByteArray) → Int → Bool → Int → List ByteArray → List (Int × ByteArray) → Option Res
noncomputable def A7_1_l6_4 (g : Y7_1_l6_4) (k : Nat) (d : sh7_1_l6_4.den) (K : KL) : Option Res := g d.2.1.2.1 d.2.2.1.2.1 d.2.2.1.2.2.1 d.2.2.1.2.2.2.1 d.2.2.1.2.2.2.2.1 (fun y0 y6 y7 y8 y9 y10 y11 y12 y13 y14 y15 => K .ret [.tv (.lf (.bool y0))] [some ⟨d.2.1.1, [.seq (.pair (.int .i64) (.pair (.int .i64) (.pair .str (.pair (.sl (.int .i64)) (.sl .bool))))) 0 d.2.1.2.1]⟩, some ⟨false, [.int .i64 d.2.2.1.2.1, .int .i64 d.2.2.1.2.2.1, .int .i64 d.2.2.1.2.2.2.1, .int .i64 d.2.2.1.2.2.2.2.1]⟩, some ⟨false, [.full 3, .full 4, .int .i64 y6, .bool y7, .int .i64 y8]⟩, some ⟨false, [.seq .str 0 y9]⟩, some ⟨false, [.seq (.pair (.int .i64) .str) 0 y10]⟩, some ⟨false, [.full 6, .full 7, .int .i64 y11, .bool y12, .int .i64 y13]⟩, some ⟨false, [.seq .str 0 y14]⟩, some ⟨false, [.seq (.pair (.int .i64) .str) 0 y15]⟩]) (fun y6 y7 y8 y9 y10 y11 y12 y13 y14 y15 => K .ret [.tv (.lf (.bool false))] [some ⟨d.2.1.1, [.seq (.pair (.int .i64) (.pair (.int .i64) (.pair .str (.pair (.sl (.int .i64)) (.sl .bool))))) 0 d.2.1.2.1]⟩, some ⟨false, [.int .i64 d.2.2.1.2.1, .int .i64 d.2.2.1.2.2.1, .int .i64 d.2.2.1.2.2.2.1, .int .i64 d.2.2.1.2.2.2.2.1]⟩, some ⟨false, [.full 3, .full 8, .int .i64 y6, .bool y7, .int .i64 y8]⟩, some ⟨false, [.seq .str 0 y9]⟩, none, some ⟨false, [.full 6, .full 9, .int .i64 y10, .bool y11, .int .i64 y12]⟩, some ⟨false, [.seq .str 0 y13]⟩, none, some ⟨false, [.seq (.pair (.int .i64) .str) 0 y14]⟩, some ⟨false, [.seq (.pair (.int .i64) .str) 0 y15]⟩]) (fun y5 y6 y7 y8 y9 y10 y11 y12 y13 y14 => K (.exit 0) [.tv (.lf (.ptr 2 0)), .tv (.lf (.ptr 5 0))] [some ⟨d.2.1.1, [.seq (.pair (.int .i64) (.pair (.int .i64) (.pair .str (.pair (.sl (.int .i64)) (.sl .bool))))) 0 d.2.1.2.1]⟩, some ⟨false, [.int .i64 d.2.2.1.2.1, .int .i64 d.2.2.1.2.2.1, .int .i64 d.2.2.1.2.2.2.1, .int .i64 d.2.2.1.2.2.2.2.1]⟩, some ⟨false, [.full 3, .full 4, .int .i64 y5, .bool y6, .int .i64 y7]⟩, some ⟨false, [.seq .str 0 y8]⟩, some ⟨false, [.seq (.pair (.int .i64) .str) 0 y9]⟩, some ⟨false, [.full 6, .full 7, .int .i64 y10, .bool y11, .int .i64 y12]⟩, some ⟨false, [.seq .str 0 y13]⟩, some ⟨false, [.seq (.pair (.int .i64) .str) 0 y14]⟩]) k d.1.2.2.2.2.1 d.2.2.2.1.2.2.2.1 d.2.2.2.1.2.2.2.2.1 d.2.2.2.1.2.2.2.2.2.1 d.2.2.2.2.1.2.1 d.2.2.2.2.2.1.2.1 d.2.2.2.2.2.2.1.2.2.2.1 d.2.2.2.2.2.2.1.2.2.2.2.1 d.2.2.2.2.2.2.1.2.2.2.2.2.1 d.2.2.2.2.2.2.2.1.2.1 d.2.2.2.2.2.2.2.2.1.2.1
noncomputable def G7_1_6 (F k : Nat) : LoopS := orG sh7_1_l6 (fun d K => A7_1_l6 (f7_1_l6 F) k d K) (orG sh7_1_l6_2 (fun d K => A7_1_l6_2 (f7_1_l6_2 F) k d K) (orG sh7_1_l6_3 (fun d K => A7_1_l6_3 (f7_1_l6_3 F) k d K) (mkG sh7_1_l6_4 [1, 2, 5, 7, 9] (outT [(.exit 0, [5, 7]), (.ret, [4])]) (fun d K => A7_1_l6_4 (f7_1_l6_4 F) k d K) [])))
noncomputable def LT7_1 (F : Nat) : Nat → Option LoopS := ltab [(6, G7_1_6 F F)]
theorem L7_1_6 (F : Nat) : LoopOK Tryz.prog (T7_1 F) (xw [10]) 65 1 (LT7_1 F) (G7_1_6 F F) b7_0 :=
  loopOK_vers (G7_1_6 F) F (fun k => ⟨rfl, rfl⟩) (verOK_cons (s := sh7_1_l6) (all := (G7_1_6 F)) (fun k d K => A7_1_l6 (f7_1_l6 F) k d K) (fun d K => by kernel_rfl) (fun k d K => by delta A7_1_l6; refine (f7_1_l6.eq_2 ..).trans ?_; delta T7_1 S12_1 S13_1 S39_1 S40_1 S47_1 S47_2800 S47_6032 S47_6182 S48_1 S48_2116 S48_3920 S48_8375 LT7_1; generalize (G7_1_6 F F) = c;  (try delta G7_1_6); generalize (f12_1 F : Y12_1) = c, (f13_1 F : Y13_1) = c, (f39_1 F : Y39_1) = c, (f40_1 F : Y40_1) = c, (f47_1 F : Y47_1) = c, (f47_2800 F : Y47_2800) = c, (f47_6032 F : Y47_6032) = c, (f47_6182 F : Y47_6182) = c, (f48_1 F : Y48_1) = c, (f48_2116 F : Y48_2116) = c, (f48_3920 F : Y48_3920) = c, (f48_8375 F : Y48_8375) = c, (f7_1_l6 F : Y7_1_l6) = c, (f7_1_l6_2 F : Y7_1_l6_2) = c, (f7_1_l6_3 F : Y7_1_l6_3) = c, (f7_1_l6_4 F : Y7_1_l6_4) = c; as_aux_lemma => kernel_rfl) (verOK_cons (s := sh7_1_l6_2) (all := (G7_1_6 F)) (fun k d K => A7_1_l6_2 (f7_1_l6_2 F) k d K) (fun d K => by kernel_rfl) (fun k d K => by delta A7_1_l6_2; refine (f7_1_l6_2.eq_2 ..).trans ?_; delta T7_1 S12_1 S13_1 S39_1 S40_1 S47_1 S47_2800 S47_6032 S47_6182 S48_1 S48_2116 S48_3920 S48_8375 LT7_1; generalize (G7_1_6 F F) = c;  (try delta G7_1_6); generalize (f12_1 F : Y12_1) = c, (f13_1 F : Y13_1) = c, (f39_1 F : Y39_1) = c, (f40_1 F : Y40_1) = c, (f47_1 F : Y47_1) = c, (f47_2800 F : Y47_2800) = c, (f47_6032 F : Y47_6032) = c, (f47_6182 F : Y47_6182) = c, (f48_1 F : Y48_1) = c, (f48_2116 F : Y48_2116) = c, (f48_3920 F : Y48_3920) = c, (f48_8375 F : Y48_8375) = c, (f7_1_l6 F : Y7_1_l6) = c, (f7_1_l6_2 F : Y7_1_l6_2) = c, (f7_1_l6_3 F : Y7_1_l6_3) = c, (f7_1_l6_4 F : Y7_1_l6_4) = c; as_aux_lemma => kernel_rfl) (verOK_cons (s := sh7_1_l6_3) (all := (G7_1_6 F)) (fun k d K => A7_1_l6_3 (f7_1_l6_3 F) k d K) (fun d K => by kernel_rfl) (fun k d K => by delta A7_1_l6_3; refine (f7_1_l6_3.eq_2 ..).trans ?_; delta T7_1 S12_1 S13_1 S39_1 S40_1 S47_1 S47_2800 S47_6032 S47_6182 S48_1 S48_2116 S48_3920 S48_8375 LT7_1; generalize (G7_1_6 F F) = c;  (try delta G7_1_6); generalize (f12_1 F : Y12_1) = c, (f13_1 F : Y13_1) = c, (f39_1 F : Y39_1) = c, (f40_1 F : Y40_1) = c, (f47_1 F : Y47_1) = c, (f47_2800 F : Y47_2800) = c, (f47_6032 F : Y47_6032) = c, (f47_6182 F : Y47_6182) = c, (f48_1 F : Y48_1) = c, (f48_2116 F : Y48_2116) = c, (f48_3920 F : Y48_3920) = c, (f48_8375 F : Y48_8375) = c, (f7_1_l6 F : Y7_1_l6) = c, (f7_1_l6_2 F : Y7_1_l6_2) = c, (f7_1_l6_3 F : Y7_1_l6_3) = c, (f7_1_l6_4 F : Y7_1_l6_4) = c; as_aux_lemma => kernel_rfl) (verOK_last (s := sh7_1_l6_4) (live := [1, 2, 5, 7, 9]) (out := (outT [(.exit 0, [5, 7]), (.ret, [4])])) (mv := []) (all := (G7_1_6 F)) (fun k d K => A7_1_l6_4 (f7_1_l6_4 F) k d K) (fun d K => by kernel_rfl) (fun k d K => by delta A7_1_l6_4; refine (f7_1_l6_4.eq_2 ..).trans ?_; delta T7_1 S12_1 S13_1 S39_1 S40_1 S47_1 S47_2800 S47_6032 S47_6182 S48_1 S48_2116 S48_3920 S48_8375 LT7_1; generalize (G7_1_6 F F) = c;  (try delta G7_1_6); generalize (f12_1 F : Y12_1) = c, (f13_1 F : Y13_1) = c, (f39_1 F : Y39_1) = c, (f40_1 F : Y40_1) = c, (f47_1 F : Y47_1) = c, (f47_2800 F : Y47_2800) = c, (f47_6032 F : Y47_6032) = c, (f47_6182 F : Y47_6182) = c, (f48_1 F : Y48_1) = c, (f48_2116 F : Y48_2116) = c, (f48_3920 F : Y48_3920) = c, (f48_8375 F : Y48_8375) = c, (f7_1_l6 F : Y7_1_l6) = c, (f7_1_l6_2 F : Y7_1_l6_2) = c, (f7_1_l6_3 F : Y7_1_l6_3) = c, (f7_1_l6_4 F : Y7_1_l6_4) = c; as_aux_lemma => kernel_rfl)))))
theorem E7_1 (F : Nat) (d : sh7_1.den) (K : KF) : EB Tryz.prog (T7_1 F) (xw [10]) 65 1 (LT7_1 F) [] false Tryz.f7 sh7_1 d K = A7_1 (f7_1 F) d K := by delta A7_1 f7_1 T7_1 S12_1 S13_1 S39_1 S40_1 S47_1 S47_2800 S47_6032 S47_6182 S48_1 S48_2116 S48_3920 S48_8375 LT7_1;  delta G7_1_6; generalize (f12_1 F : Y12_1) = c, (f13_1 F : Y13_1) = c, (f39_1 F : Y39_1) = c, (f40_1 F : Y40_1) = c, (f47_1 F : Y47_1) = c, (f47_2800 F : Y47_2800) = c, (f47_6032 F : Y47_6032) = c, (f47_6182 F : Y47_6182) = c, (f48_1 F : Y48_1) = c, (f48_2116 F : Y48_2116) = c, (f48_3920 F : Y48_3920) = c, (f48_8375 F : Y48_8375) = c, (f7_1_l6 F : Y7_1_l6) = c, (f7_1_l6_2 F : Y7_1_l6_2) = c, (f7_1_l6_3 F : Y7_1_l6_3) = c, (f7_1_l6_4 F : Y7_1_l6_4) = c; as_aux_lemma => kernel_rfl
theorem S7_1_ok : So Tryz.prog 7 S7_1 :=
  fun F o ho => sOf (fn := Tryz.f7) (c := code7) (tab_cons (S12_1_ok F _ (noS_sound enter12)) (tab_cons (S13_1_ok F _ (noS_sound enter13)) (tab_cons (S39_1_ok F _ (noS_sound enter39)) (tab_cons (S40_1_ok F _ (noS_sound enter40)) (tab_cons (S47_1_ok F _ (S47_2800_ok F _ (S47_6032_ok F _ (S47_6182_ok F _ (noS_sound enter47))))) (tab_cons (S48_1_ok F _ (S48_2116_ok F _ (S48_3920_ok F _ (S48_8375_ok F _ (noS_sound enter48))))) tab_nil)))))) ho (by rw [loops7]; exact (loopsOK_cons (by kernel_rfl) (L7_1_6 F) loopsOK_nil)) snil rnil (E7_1 F)
end
end Go.Proofs.YtlgopekjjkdkiaaGreatDoor.X
end
section
namespace Go.Proofs.YtlgopekjjkdkiaaGreatDoor.X
open Go Go.Proofs.YtlgopekjjkdkiaaGreatDoor.Ev
set_option linter.unusedSectionVars false
set_option linter.unusedVariables false
set_option linter.unusedSimpArgs false
section
variable [FZ]
abbrev WL := List (Int × ByteArray)
structure DS (n k : Nat) (a c : Int) (l : List ByteArray) (w : WL) : Prop where
  n40 : n ≤ 2000
  k300 : k ≤ 6000
  len : l.length = n
  wl : w.length ≤ k
  wb : ∀ p ∈ w, 0 ≤ p.1 ∧ p.1 < n
  ar : -1 ≤ a ∧ a ≤ 9223372036854775807
  cr : 0 ≤ c ∧ c ≤ k
theorem getD_of_drop {α : Type} {l r : List α} {i : Nat} {x d : α} (h : l.drop i = x :: r) : i < l.length ∧ l.getD (0 + (i : Int).toNat) d = x ∧ l.drop (i + 1) = r := by
  have h1 : i < l.length := by
    rcases Nat.lt_or_ge i l.length with h1 | h1
    · exact h1
    · rw [List.drop_eq_nil_of_le h1] at h; cases h
  rw [List.drop_eq_getElem_cons h1] at h
  injection h with h2 h3
  refine ⟨h1, ?_, h3⟩
  simp [h1, h2]
theorem getD_out {α : Type} {l : List α} {i : Nat} {d : α} (h : l.length ≤ i) : l.getD i d = d := by simp [List.getD_eq_getElem?_getD, List.getElem?_eq_none h]
theorem len_of_drop_nil {α : Type} {l : List α} {i : Nat} (h : l.drop i = []) (hi : i ≤ l.length) : i = l.length := by
  have := congrArg List.length h
  simp at this; omega
def kp (x : Int) (l : List ByteArray) : ByteArray × Int := if 0 ≤ x ∧ x < (l.length : Int) then (l.getD x.toNat ByteArray.empty, 0) else (ByteArray.empty, 3)
theorem keptP {β : Type} {F : Nat} {x a c : Int} {b : Bool} {l : List ByteArray} {w : WL} {K : ByteArray → Int → Option β} : f15_1 F x a b c l w K = K (kp x l).1 (kp x l).2 := by
  rw [f15_1, f77_1, kp]
  by_cases h1 : 0 ≤ x
  · rw [ct (by omega)]
    by_cases h2 : x < (l.length : Int)
    · rw [if_pos ⟨h1, h2⟩, decide_eq_true h2, Bool.not_true, cond_false, ct ⟨h1, h2⟩, ct (by omega), Nat.zero_add]
    · rw [if_neg (by omega), decide_eq_false h2, Bool.not_false, cond_true]
  · rw [cf (by omega), if_neg (by omega), Bool.not_false, cond_true]
theorem keptR {β : Type} {F : Nat} {x a c : Int} {b : Bool} {l : List ByteArray} {w : WL} {K : ByteArray → Int → Option β} : f175_1 F x a b c l w K = K (kp x l).1 (kp x l).2 := by
  rw [f175_1, kp]
  by_cases h1 : 0 ≤ x
  · rw [cf (by omega)]
    by_cases h2 : x < (l.length : Int)
    · rw [if_pos ⟨h1, h2⟩, cf (by omega), ct ⟨h1, h2⟩, ct (by omega), Nat.zero_add]
    · rw [if_neg (by omega), ct (by omega)]
  · rw [ct (by omega), if_neg (by omega)]
def last (x : Int) (s : ByteArray) (w : WL) : ByteArray := w.foldl (fun s p => if p.1 = x then p.2 else s) s
def rd (x : Int) (b : Bool) (l : List ByteArray) (w : WL) : ByteArray × Int :=
  if b then (ByteArray.empty, 5) else (if 0 ≤ x ∧ x < (l.length : Int) then last x (l.getD x.toNat ByteArray.empty) w else ByteArray.empty, (kp x l).2)
theorem readRl {β : Type} {F : Nat} {x a c : Int} {b : Bool} {l : List ByteArray} {w : WL} {K : ByteArray → Option β} (hw : w.length ≤ 6000) : ∀ (r : WL) (i k : Nat) (s : ByteArray), w.drop i = r → i ≤ w.length → r.length < k →
    f124_1_l5 F x 0 a b c l w K k s (i : Int) = K (last x s r)
  | [], i, 0, s, _, _, hk => by simp at hk
  | _ :: _, i, 0, s, _, _, hk => by simp at hk
  | [], i, k + 1, s, hd, hi, _ => by
    have := len_of_drop_nil hd hi
    rw [f124_1_l5, cf (by omega)]; rfl
  | p :: r, i, k + 1, s, hd, hi, hk => by
    obtain ⟨h1, h2, h3⟩ := getD_of_drop (d := ((0, ByteArray.empty) : Int × ByteArray)) hd
    rw [f124_1_l5, ct (by omega), show ((0 : Int) == 0) = true from rfl, cond_true, ct (by omega), ct (by omega), h2, w64 (by omega) (by omega), ct (by omega), ct (by omega)]
    have ih := fun s => readRl (F := F) (x := x) (a := a) (b := b) (c := c) (l := l) (K := K) hw r (i + 1) k s h3 (by omega) (by simp at hk; omega)
    push_cast at ih
    by_cases hx : p.1 = x
    · rw [show (p.1 == x) = true from by simp [hx], cond_true, ih, last, last, List.foldl_cons, if_pos hx]
    · rw [show (p.1 == x) = false from by simp [hx], cond_false, ih, last, last, List.foldl_cons, if_neg hx]
theorem readRl3 {β : Type} {F : Nat} {x a c : Int} {b : Bool} {l : List ByteArray} {w : WL} {s : ByteArray} {K : ByteArray → Option β} {k : Nat} : f124_1_l5 F x 3 a b c l w K (k + 1) s 0 = K s := by
  rw [f124_1_l5]
  by_cases h : (0 : Int) < ((w.length : Nat) : Int)
  · rw [ct h]; rfl
  · rw [cf h]
theorem readR {β : Type} {F n k : Nat} (hF : 7000 ≤ F) {x a c : Int} {b : Bool} {l : List ByteArray} {w : WL} (h : DS n k a c l w) {K : ByteArray → Int → Option β} : f124_1 F x a b c l w K = K (rd x b l w).1 (rd x b l w).2 := by
  have hk := h.k300; have hwl := h.wl
  rw [f124_1]
  cases b with
  | true => rfl
  | false =>
    rw [cond_false, keptR, rd, if_neg (by simp), kp]
    by_cases hx : 0 ≤ x ∧ x < (l.length : Int)
    · rw [if_pos hx, if_pos hx]
      exact readRl (by omega) w 0 F _ rfl (by omega) (by omega)
    · rw [if_neg hx, if_neg hx]
      obtain ⟨F', rfl⟩ : ∃ F', F = F' + 1 := ⟨F - 1, by omega⟩
      exact readRl3
def lastW (x : Int) : WL → Option ByteArray
  | [] => none
  | p :: r => match lastW x r with
    | some s => some s
    | none => if p.1 = x then some p.2 else none
theorem last_eq (x : Int) : ∀ (w : WL) (s : ByteArray), last x s w = (match lastW x w with | some t => t | none => s)
  | [], s => rfl
  | p :: r, s => by
    rw [last, List.foldl_cons, ← last, last_eq x r, lastW]
    cases lastW x r with
    | some t => rfl
    | none =>
      by_cases hp : p.1 = x
      · simp [hp]
      · simp [hp]
theorem lastW_app (x : Int) (p : Int × ByteArray) : ∀ w : WL, lastW x (w ++ [p]) = if p.1 = x then some p.2 else lastW x w
  | [] => by simp [lastW]
  | q :: r => by
    rw [List.cons_append, lastW, lastW_app x p r, lastW]
    by_cases hp : p.1 = x
    · simp [hp]
    · simp [hp]
theorem readPl {β : Type} {F : Nat} {x a c z : Int} {b : Bool} {l : List ByteArray} {w : WL} {s : ByteArray} {K0 : ByteArray → Int → ByteArray → Option β} {K1 : Option β} (hw : w.length ≤ 6000) : ∀ (i k : Nat), i ≤ w.length → i < k →
    f37_1_r2000006_l1 F a b c l w x s z K0 K1 k ((i : Int) - 1) = (match lastW x (w.take i) with | some t => K0 t x t | none => K1)
  | _, 0, _, h => by omega
  | 0, k + 1, _, _ => by
    rw [f37_1_r2000006_l1, cf (by omega)]; rfl
  | i + 1, k + 1, hi, hk => by
    have h1 : i < w.length := by omega
    have e1 : (((i + 1 : Nat) : Int) - 1) = (i : Int) := by omega
    rw [e1, f37_1_r2000006_l1, ct (by omega), ct (by omega), ct (by omega), w64 (by omega) (by omega), readPl hw i k (by omega) (by omega)]
    have hg : w.getD (0 + (i : Int).toNat) ((0, ByteArray.empty) : Int × ByteArray) = w[i] := by simp [h1]
    rw [hg, List.take_succ_eq_append_getElem h1, lastW_app]
    by_cases hp : w[i].1 = x
    · rw [if_pos hp, show (w[i].1 == x) = true from by simp [hp], cond_true, hp]
    · rw [if_neg hp, show (w[i].1 == x) = false from by simp [hp], cond_false]
theorem lastW_none {x : Int} : ∀ {w : WL}, (∀ p ∈ w, p.1 ≠ x) → lastW x w = none
  | [], _ => rfl
  | p :: r, h => by rw [lastW, lastW_none (fun q hq => h q (by simp [hq]))]; simp [h p (by simp)]
theorem readP {β : Type} {F n k : Nat} (hF : 7000 ≤ F) {x a c : Int} {b : Bool} {l : List ByteArray} {w : WL} (h : DS n k a c l w) {K : ByteArray → Int → Option β} : f37_1 F x a b c l w K = K (rd x b l w).1 (rd x b l w).2 := by
  have hk := h.k300; have hwl := h.wl
  rw [f37_1]
  cases b with
  | true => rfl
  | false =>
    rw [cond_false, f99_1, f37_1_r2000006, w64 (by omega) (by omega), readPl (by omega) w.length F (Nat.le_refl _) (by omega), List.take_length, rd, if_neg (by simp)]
    by_cases hx : 0 ≤ x ∧ x < (l.length : Int)
    · rw [if_pos hx, last_eq]
      cases hq : lastW x w with
      | none => simp only [keptP]; rw [kp, if_pos hx]
      | some t => simp only [kp, if_pos hx]
    · rw [if_neg hx, lastW_none (fun p hp he => hx (by have := h.wb p hp; have := h.len; omega))]
      simp only [keptP]; rw [kp, if_neg hx]
def dec (a : Int) : Int := if a = -1 then a else a - 1
def wS (x : Int) (t : ByteArray) (a : Int) (b : Bool) (c : Int) (l : List ByteArray) (w : WL) : Int × Int × Bool × Int × WL :=
  if b then (5, a, b, c, w) else if ¬ (0 ≤ x ∧ x < (l.length : Int)) then (3, a, b, c, w) else if t.size ≠ 64 then (4, a, b, c, w) else if a = 0 then (5, -1, true, c, w) else (0, dec a, b, c + 1, w ++ [(x, t)])
theorem writeP {β : Type} {F n k : Nat} {x a c : Int} {t : ByteArray} {b : Bool} {l : List ByteArray} {w : WL} (h : DS n k a c l w) {K : Int → Int → Bool → Int → WL → Option β} :
    f24_1 F x t a b c l w K = K (wS x t a b c l w).1 (wS x t a b c l w).2.1 (wS x t a b c l w).2.2.1 (wS x t a b c l w).2.2.2.1 (wS x t a b c l w).2.2.2.2 := by
  have hk := h.k300; have hwl := h.wl; have ha := h.ar; have hc := h.cr
  rw [f24_1, wS]
  cases b with
  | true => rfl
  | false =>
    rw [cond_false, if_neg (by simp), f77_1, f85_1, f86_1]
    by_cases h1 : 0 ≤ x
    · rw [ct (by omega)]
      by_cases h2 : x < (l.length : Int)
      · rw [if_neg (by simp [h1, h2]), decide_eq_true h2, Bool.not_true, cond_false]
        by_cases h3 : t.size = 64
        · rw [if_neg (by simp [h3]), show ((t.size : Int) == 64) = true from by simp [h3], Bool.not_true, cond_false]
          by_cases h4 : a = 0
          · subst h4; rfl
          · rw [if_neg h4, show (a == 0) = false from by simp [h4], cond_false, dec]
            by_cases h5 : a = -1
            · rw [if_pos h5, show (a == -1) = true from by simp [h5], cond_true, cond_false, ct (by omega), w64 (by omega) (by omega)]
            · rw [if_neg h5, show (a == -1) = false from by simp [h5], cond_false, cond_false, ct (by omega), w64 (x := a - 1) (by omega) (by omega), w64 (by omega) (by omega)]
        · rw [if_pos (by simpa using h3), show ((t.size : Int) == 64) = false from by simp; omega]; rfl
      · rw [if_pos (by omega), decide_eq_false h2]; rfl
    · rw [cf (by omega), if_pos (by omega)]; rfl
theorem writeR {β : Type} {F n k : Nat} {x a c : Int} {t : ByteArray} {b : Bool} {l : List ByteArray} {w : WL} (h : DS n k a c l w) {K : Int → Int → Bool → Int → WL → Option β} :
    f74_1 F x t a b c l w K = K (wS x t a b c l w).1 (wS x t a b c l w).2.1 (wS x t a b c l w).2.2.1 (wS x t a b c l w).2.2.2.1 (wS x t a b c l w).2.2.2.2 := by
  have hk := h.k300; have hwl := h.wl; have ha := h.ar; have hc := h.cr
  rw [f74_1, wS]
  cases b with
  | true => rfl
  | false =>
    rw [cond_false, if_neg (by simp), f112_1, f140_1]
    by_cases h1 : 0 ≤ x
    · rw [cf (by omega)]
      by_cases h2 : x < (l.length : Int)
      · rw [if_neg (by simp [h1, h2]), cf (by omega)]
        by_cases h3 : t.size = 64
        · rw [if_neg (by simp [h3]), show ((t.size : Int) == 64) = true from by simp [h3], Bool.not_true, cond_false]
          by_cases h4 : a = 0
          · subst h4; rfl
          · rw [if_neg h4, show (a == 0) = false from by simp [h4], cond_false, dec]
            by_cases h5 : a = -1
            · rw [if_pos h5, cf (by omega), cond_false, ct (by omega), w64 (by omega) (by omega)]
            · rw [if_neg h5, ct (by omega), cond_false, ct (by omega), w64 (x := a - 1) (by omega) (by omega), w64 (by omega) (by omega)]
        · rw [if_pos (by simpa using h3), show ((t.size : Int) == 64) = false from by simp; omega]; rfl
      · rw [if_pos (by omega), ct (by omega)]
    · rw [ct (by omega), if_pos (by omega)]
def put1 (l : List ByteArray) (p : Int × ByteArray) : List ByteArray := l.set p.1.toNat p.2
theorem put1_len (l : List ByteArray) (p : Int × ByteArray) : (put1 l p).length = l.length := by simp [put1]
theorem puts_len : ∀ (w : WL) (l : List ByteArray), (w.foldl put1 l).length = l.length
  | [], l => rfl
  | p :: r, l => by rw [List.foldl_cons, puts_len r, put1_len]
theorem flushPl {β : Type} {F n : Nat} {a c : Int} {b : Bool} {w : WL} {K : List ByteArray → Option β} (hw : w.length ≤ 6000) (hb : ∀ p ∈ w, 0 ≤ p.1 ∧ p.1 < (n : Int)) : ∀ (r : WL) (i k : Nat) (l : List ByteArray), w.drop i = r → i ≤ w.length → r.length < k → l.length = n →
    f27_1_l6 F ((w.length : Nat) : Int) a b c w K k (i : Int) l = K (r.foldl put1 l)
  | [], i, 0, s, _, _, hk, _ => by simp at hk
  | _ :: _, i, 0, s, _, _, hk, _ => by simp at hk
  | [], i, k + 1, s, hd, hi, _, _ => by
    have := len_of_drop_nil hd hi
    rw [f27_1_l6, cf (by omega)]; rfl
  | p :: r, i, k + 1, l, hd, hi, hk, hl => by
    obtain ⟨h1, h2, h3⟩ := getD_of_drop (d := ((0, ByteArray.empty) : Int × ByteArray)) hd
    have hp := hb p (List.mem_of_mem_drop (by rw [hd]; simp))
    rw [f27_1_l6, ct (by omega), ct (by omega), ct (by omega), h2, ct (by omega), ct (by omega), w64 (by omega) (by omega), Nat.zero_add, List.foldl_cons]
    exact flushPl hw hb r (i + 1) k (put1 l p) h3 (by omega) (by simp at hk; omega) (by rw [put1_len]; exact hl)
theorem flushRl {β : Type} {F n : Nat} {a c : Int} {b : Bool} {w : WL} {K : List ByteArray → Option β} (hw : w.length ≤ 6000) (hb : ∀ p ∈ w, 0 ≤ p.1 ∧ p.1 < (n : Int)) : ∀ (r : WL) (i k : Nat) (l : List ByteArray), w.drop i = r → i ≤ w.length → r.length < k → l.length = n →
    f143_1_l4 F a b c w K k (i : Int) l = K (r.foldl put1 l)
  | [], i, 0, s, _, _, hk, _ => by simp at hk
  | _ :: _, i, 0, s, _, _, hk, _ => by simp at hk
  | [], i, k + 1, s, hd, hi, _, _ => by
    have := len_of_drop_nil hd hi
    rw [f143_1_l4, cf (by omega)]; rfl
  | p :: r, i, k + 1, l, hd, hi, hk, hl => by
    obtain ⟨h1, h2, h3⟩ := getD_of_drop (d := ((0, ByteArray.empty) : Int × ByteArray)) hd
    have hp := hb p (List.mem_of_mem_drop (by rw [hd]; simp))
    rw [f143_1_l4, ct (by omega), ct (by omega), ct (by omega), h2, ct (by omega), ct (by omega), w64 (by omega) (by omega), Nat.zero_add, List.foldl_cons]
    exact flushRl hw hb r (i + 1) k (put1 l p) h3 (by omega) (by simp at hk; omega) (by rw [put1_len]; exact hl)
def fS (a : Int) (b : Bool) (c : Int) (l : List ByteArray) (w : WL) : Int × Int × Bool × Int × List ByteArray × WL :=
  if b then (5, a, b, c, l, w) else if a = 0 then (5, -1, true, c, l, w) else (0, dec a, b, c + 1, w.foldl put1 l, [])
theorem flushP {β : Type} {F n k : Nat} (hF : 7000 ≤ F) {a c : Int} {b : Bool} {l : List ByteArray} {w : WL} (h : DS n k a c l w) {K : Int → Int → Bool → Int → List ByteArray → WL → Option β} :
    f27_1 F a b c l w K = K (fS a b c l w).1 (fS a b c l w).2.1 (fS a b c l w).2.2.1 (fS a b c l w).2.2.2.1 (fS a b c l w).2.2.2.2.1 (fS a b c l w).2.2.2.2.2 := by
  have hk := h.k300; have hwl := h.wl; have ha := h.ar; have hc := h.cr
  rw [f27_1, fS, f86_1]
  cases b with
  | true => rfl
  | false =>
    rw [cond_false, if_neg (by simp)]
    by_cases h4 : a = 0
    · subst h4; rfl
    · rw [if_neg h4, show (a == 0) = false from by simp [h4], cond_false, dec]
      by_cases h5 : a = -1
      · rw [if_pos h5, show (a == -1) = true from by simp [h5], cond_true, Bool.not_true, cond_false, w64 (by omega) (by omega)]
        exact flushPl (by omega) h.wb w 0 F l rfl (by omega) (by omega) h.len
      · rw [if_neg h5, show (a == -1) = false from by simp [h5], cond_false, Bool.not_true, cond_false, w64 (x := a - 1) (by omega) (by omega), w64 (by omega) (by omega)]
        exact flushPl (by omega) h.wb w 0 F l rfl (by omega) (by omega) h.len
theorem flushR {β : Type} {F n k : Nat} (hF : 7000 ≤ F) {a c : Int} {b : Bool} {l : List ByteArray} {w : WL} (h : DS n k a c l w) {K : Int → Int → Bool → Int → List ByteArray → WL → Option β} :
    f143_1 F a b c l w K = K (fS a b c l w).1 (fS a b c l w).2.1 (fS a b c l w).2.2.1 (fS a b c l w).2.2.2.1 (fS a b c l w).2.2.2.2.1 (fS a b c l w).2.2.2.2.2 := by
  have hk := h.k300; have hwl := h.wl; have ha := h.ar; have hc := h.cr
  rw [f143_1, fS, f140_1]
  cases b with
  | true => rfl
  | false =>
    rw [cond_false, if_neg (by simp)]
    by_cases h4 : a = 0
    · subst h4; rfl
    · rw [if_neg h4, show (a == 0) = false from by simp [h4], cond_false, dec]
      by_cases h5 : a = -1
      · rw [if_pos h5, cf (by omega), Bool.not_true, cond_false, w64 (by omega) (by omega)]
        exact flushRl (by omega) h.wb w 0 F l rfl (by omega) (by omega) h.len
      · rw [if_neg h5, ct (by omega), Bool.not_true, cond_false, w64 (x := a - 1) (by omega) (by omega), w64 (by omega) (by omega)]
        exact flushRl (by omega) h.wb w 0 F l rfl (by omega) (by omega) h.len
section
variable {n k : Nat} {a c : Int} {l : List ByteArray} {w : WL}
theorem DS.more (h : DS n k a c l w) (hk : k < 6000) : DS n (k + 1) a c l w := ⟨h.n40, by omega, h.len, by have := h.wl; omega, h.wb, h.ar, by have := h.cr; omega⟩
theorem DS.off (h : DS n k a c l w) (hk : k < 6000) : DS n (k + 1) (-1) c l w := ⟨h.n40, by omega, h.len, by have := h.wl; omega, h.wb, by omega, by have := h.cr; omega⟩
theorem DS.fuse (h : DS n k a c l w) (hk : k < 6000) {x : Int} (hx : x ≤ 9223372036854775807) : DS n (k + 1) (if (-1) > x then (-1) else x) c l w := ⟨h.n40, by omega, h.len, by have := h.wl; omega, h.wb, by split <;> omega, by have := h.cr; omega⟩
theorem DS.wrote (h : DS n k a c l w) (hk : k < 6000) (h0 : a ≠ 0) {x : Int} {t : ByteArray} (hx : 0 ≤ x ∧ x < (l.length : Int)) : DS n (k + 1) (dec a) (c + 1) l (w ++ [(x, t)]) :=
  ⟨h.n40, by omega, h.len, by have := h.wl; simp; omega, fun p hp => by
    rcases List.mem_append.1 hp with hp | hp
    · exact h.wb p hp
    · simp at hp; subst hp; rw [← h.len]; exact hx, by have := h.ar; unfold dec; split <;> omega, by have := h.cr; omega⟩
theorem DS.flushed (h : DS n k a c l w) (hk : k < 6000) (h0 : a ≠ 0) : DS n (k + 1) (dec a) (c + 1) (w.foldl put1 l) [] :=
  ⟨h.n40, by omega, by rw [puts_len]; exact h.len, by simp, fun p hp => (by cases hp), by have := h.ar; unfold dec; split <;> omega, by have := h.cr; omega⟩
end
theorem wS_ok {n k : Nat} {x a c : Int} {t : ByteArray} {b : Bool} {l : List ByteArray} {w : WL} (h : DS n k a c l w) (hk : k < 6000) : DS n (k + 1) (wS x t a b c l w).2.1 (wS x t a b c l w).2.2.2.1 l (wS x t a b c l w).2.2.2.2 := by
  unfold wS
  split
  · exact h.more hk
  · split
    · exact h.more hk
    · rename_i h2
      split
      · exact h.more hk
      · split
        · exact h.off hk
        · rename_i h4
          exact h.wrote hk h4 (Classical.not_not.1 h2)
theorem fS_ok {n k : Nat} {a c : Int} {b : Bool} {l : List ByteArray} {w : WL} (h : DS n k a c l w) (hk : k < 6000) : DS n (k + 1) (fS a b c l w).2.1 (fS a b c l w).2.2.2.1 (fS a b c l w).2.2.2.2.1 (fS a b c l w).2.2.2.2.2 := by
  unfold fS
  split
  · exact h.more hk
  · split
    · exact h.off hk
    · rename_i h4
      exact h.flushed hk h4
end
section
variable [FZ]
theorem x32 (x y : Int) : 0 ≤ ixor .u32 x y ∧ ixor .u32 x y < 4294967296 := by
  unfold ixor; rw [wu32m]; omega
theorem x8 (x y : Int) : 0 ≤ ixor .u8 x y ∧ ixor .u8 x y < 256 := by
  unfold ixor; rw [wu8m]; omega
theorem sh8 {n : Int} (h : 0 ≤ n ∧ n < 4294967296) : IntKind.u32.wrap (n.tdiv 256) = ishr .u32 n 8 := by
  have e : (2 : Int) ^ (min (8 : Int).toNat IntKind.u32.bits) = 256 := by decide
  rw [ishr, e, Int.fdiv_eq_ediv_of_nonneg _ (by omega), Int.tdiv_eq_ediv_of_nonneg h.1, wu32 (by omega) (by omega)]
def eStep (x : Int) : Int := if (iand .u32 x 1) == 1 then ixor .u32 (ishr .u32 x 1) 2197175160 else ishr .u32 x 1
def ent (x : Int) : Int := eStep (eStep (eStep (eStep (eStep (eStep (eStep (eStep x)))))))
def tb : List Int := (List.range 256).map fun (i : Nat) => ent (i : Int)
theorem tb_len : tb.length = 256 := by simp [tb]
set_option maxRecDepth 100000 in
theorem tableP {β : Type} {K : List Int → Option β} : f215_1 20000 K = K tb := by kernel_rfl
theorem entNat {β : Type} {F : Nat} {K : Int → Option β} : ∀ (k : Nat) (v i : Int), f192_1_l3 F K k v i = (f192_1_l3 F some k v i).bind K
  | 0, v, i => rfl
  | k + 1, v, i => by
    rw [f192_1_l3, f192_1_l3]
    cases decide (i < 8) with
    | false => rfl
    | true =>
      cases (v.tmod 2 == 1) with
      | true => exact entNat k _ _
      | false => exact entNat k _ _
set_option maxRecDepth 100000 in
theorem entAll : ((List.range 256).all fun (i : Nat) => f192_1 20000 (i : Int) some == some (tb.getD i 0)) = true := by kernel_rfl
theorem entR {β : Type} {x : Int} (h : 0 ≤ x ∧ x < 256) {K : Int → Option β} : f192_1 20000 x K = K (tb.getD x.toNat 0) := by
  have h1 := List.all_eq_true.1 entAll x.toNat (List.mem_range.2 (by omega))
  rw [beq_iff_eq, show ((x.toNat : Nat) : Int) = x by omega, f192_1] at h1
  rw [f192_1, entNat, h1]; rfl
def crcS : Int → List Int → Int
  | n, [] => n
  | n, c :: r => crcS (ixor .u32 (ishr .u32 n 8) (tb.getD (ixor .u8 (IntKind.u8.wrap n) c).toNat 0)) r
def crc (b : List Int) : Int := ixor .u32 4294967295 (crcS (ixor .u32 4294967295 0) b)
theorem atL {α : Type} {l r : List α} {x d : α} {i : Nat} (hd : l.drop i = x :: r) : i < l.length ∧ l.getD (0 + (i : Int).toNat) d = x ∧ l.drop (i + 1) = r := by
  have h1 : i < l.length := by
    rcases Nat.lt_or_ge i l.length with h1 | h1
    · exact h1
    · rw [List.drop_eq_nil_of_le h1] at hd; cases hd
  rw [List.drop_eq_getElem_cons h1] at hd
  injection hd with h2 h3
  refine ⟨h1, ?_, h3⟩
  simp [h1, h2]
theorem nilL {α : Type} {l : List α} {i : Nat} (h : l.drop i = []) (hi : i ≤ l.length) : i = l.length := by
  have := congrArg List.length h
  simp at this; omega
theorem crcPl {β : Type} {F : Nat} {b : List Int} {K : Int → Option β} (hb : b.length ≤ 100000) : ∀ (r : List Int) (i k : Nat) (n : Int), b.drop i = r → i ≤ b.length → r.length < k →
    f191_1_l4 F ((b.length : Nat) : Int) b tb K k n (i : Int) = K (crcS n r)
  | [], i, 0, _, _, _, hk => by simp at hk
  | _ :: _, i, 0, _, _, _, hk => by simp at hk
  | [], i, k + 1, n, hd, hi, _ => by
    have := nilL hd hi
    rw [f191_1_l4, cf (by omega)]; rfl
  | c :: r, i, k + 1, n, hd, hi, hk => by
    obtain ⟨h1, h2, h3⟩ := atL (d := (0 : Int)) hd
    have hx := x8 (IntKind.u8.wrap n) c
    rw [f191_1_l4, ct (by omega), ct (by omega), ct (by omega), h2, ct hx, ct (by rw [tb_len]; omega), w64 (by omega) (by omega), crcS]
    exact crcPl hb r (i + 1) k _ h3 (by omega) (by simp at hk; omega)
theorem crcP {β : Type} {b : List Int} {K : Int → Option β} (hb : b.length ≤ 10000) : f148_1 20000 b K = K (crc b) := by
  rw [f148_1, f191_1, tableP]
  exact crcPl (K := fun x7 => K (ixor .u32 4294967295 x7)) (by omega) b 0 20000 _ rfl (by omega) (by omega)
theorem crcRl {β : Type} {b : List Int} {K : Int → Option β} (hb : b.length ≤ 100000) : ∀ (r : List Int) (i k : Nat) (n : Int), b.drop i = r → i ≤ b.length → r.length < k → 0 ≤ n ∧ n < 4294967296 →
    f154_1_l3 20000 b K k n (i : Int) = K (crcS n r)
  | [], i, 0, _, _, _, hk, _ => by simp at hk
  | _ :: _, i, 0, _, _, _, hk, _ => by simp at hk
  | [], i, k + 1, n, hd, hi, _, _ => by
    have := nilL hd hi
    rw [f154_1_l3, cf (by omega)]; rfl
  | c :: r, i, k + 1, n, hd, hi, hk, hn => by
    obtain ⟨h1, h2, h3⟩ := atL (d := (0 : Int)) hd
    have hx := x8 (IntKind.u8.wrap n) c
    rw [f154_1_l3, ct (by omega), ct (by omega), ct (by omega), h2, entR hx, w64 (by omega) (by omega), sh8 hn, crcS]
    exact crcRl hb r (i + 1) k _ h3 (by omega) (by simp at hk; omega) (x32 _ _)
theorem crcR {β : Type} {b : List Int} {K : Int → Option β} (hb : b.length ≤ 10000) : f102_1 20000 b K = K (crc b) := by
  rw [f102_1, f154_1]
  exact crcRl (K := fun x7 => K (ixor .u32 4294967295 x7)) (by omega) b 0 20000 _ rfl (by omega) (by omega) (x32 _ _)
def b4 (n : Int) : List Int := [IntKind.u8.wrap (ishr .u64 n 24), IntKind.u8.wrap (ishr .u64 n 16), IntKind.u8.wrap (ishr .u64 n 8), IntKind.u8.wrap (ishr .u64 n 0)]
theorem put4 {β : Type} {n : Int} {K : List Int → Option β} : f147_1 20000 4 n [] K = K (b4 n) := by kernel_rfl
theorem text4 {β : Type} {n : Int} {K : ByteArray → Option β} : f101_1 20000 4 n K = K (ofInts (b4 n)) := by kernel_rfl
theorem text1 {β : Type} {n : Int} {K : ByteArray → Option β} : f101_1 20000 1 n K = K (ofInts [IntKind.u8.wrap (ishr .u64 n 0)]) := by kernel_rfl
end
section
variable [FZ]
abbrev D (s : ByteArray) : List UInt8 := s.data.toList
theorem extB {s t : ByteArray} (h : D s = D t) : s = t := by
  cases s; cases t
  congr
  exact Array.toList_inj.1 h
theorem D_app (s t : ByteArray) : D (s ++ t) = D s ++ D t := by simp [D]
theorem D_ext (s : ByteArray) (a b : Nat) : D (s.extract a b) = ((D s).drop a).take (b - a) := by
  simp only [D, ByteArray.data_extract, Array.toList_extract, List.extract_eq_take_drop]
theorem D_size (s : ByteArray) : s.size = (D s).length := Array.length_toList.symm
theorem D_ofInts (l : List Int) : D (ofInts l) = l.map fun n => UInt8.ofNat n.toNat := by simp [D, ofInts]
theorem toInts_D (s : ByteArray) : toInts s = (D s).map fun c => (c.toNat : Int) := rfl
theorem loopB (s : ByteArray) : ∀ (m i : Nat) (r : List UInt8), i + m = s.size → ByteArray.toList.loop s i r = r.reverse ++ (D s).drop i
  | 0, i, r, h => by
    rw [ByteArray.toList.loop, if_neg (by omega), List.drop_eq_nil_of_le (by rw [← D_size]; omega), List.append_nil]
  | m + 1, i, r, h => by
    have h1 : i < (D s).length := by rw [← D_size]; omega
    rw [ByteArray.toList.loop, if_pos (by omega), loopB s m (i + 1) _ (by omega), List.drop_eq_getElem_cons h1]
    have : s.get! i = (D s)[i] := by
      have h2 : i < s.data.size := by have := h1; simpa [D] using this
      simp only [ByteArray.get!, D, Array.getElem_toList]
      exact getElem!_pos s.data i h2
    rw [this]; simp
theorem toList_D (s : ByteArray) : s.toList = D s := by
  rw [ByteArray.toList, loopB s s.size 0 [] (by omega)]; rfl
theorem beqB {s t : ByteArray} : (s.toList == t.toList) = decide (s = t) := by
  rw [toList_D, toList_D, Bool.eq_iff_iff]
  simp only [beq_iff_eq, decide_eq_true_eq]
  exact ⟨extB, fun h => by rw [h]⟩
def front (k : Int) (b : ByteArray) : ByteArray := ⟨(UInt8.ofNat k.toNat :: UInt8.ofNat b.size :: (D b ++ List.replicate (58 - b.size) 0)).toArray⟩
def mkB (k : Int) (b : ByteArray) : ByteArray := front k b ++ ofInts (b4 (crc (toInts (front k b))))
def mkR (k : Int) (b : ByteArray) : ByteArray × Int := if k < 1 ∨ k > 8 then (ByteArray.empty, 22) else if b.size > 58 then (ByteArray.empty, 8) else (mkB k b, 0)
theorem front_D (k : Int) (b : ByteArray) : D (front k b) = UInt8.ofNat k.toNat :: UInt8.ofNat b.size :: (D b ++ List.replicate (58 - b.size) 0) := by simp [D, front]
theorem front_size {k : Int} {b : ByteArray} (h : b.size ≤ 58) : (front k b).size = 60 := by
  rw [D_size, front_D]; simp [← D_size]
  have := D_size b
  simp [D] at this
  omega
theorem crc_r (b : List Int) : 0 ≤ crc b ∧ crc b < 4294967296 := x32 _ _
theorem sumP {β : Type} {s : ByteArray} (h : 60 ≤ s.size) {K : ByteArray → Option β} : f146_1 20000 s K = K (ofInts (b4 (crc (toInts (s.extract 0 60))))) := by
  have hc := crc_r (toInts (s.extract 0 60))
  have hl : (toInts (s.extract 0 60)).length ≤ 60 := by
    rw [toInts_D, D_ext]; simp; omega
  rw [f146_1, ct (by omega), crcP (by omega), wu64 (by omega) (by omega), put4]
theorem ext_all {s : ByteArray} {n : Nat} (h : s.size = n) : s.extract 0 n = s := by
  apply extB
  rw [D_ext, List.drop_zero, List.take_of_length_le (by rw [← D_size]; omega)]
theorem rep0 (n : Nat) : D (rep ⟨#[0]⟩ n) = List.replicate n 0 := by
  show D ⟨(Lib.repeatL [0] n).toArray⟩ = _
  have : ∀ n, Lib.repeatL [(0 : UInt8)] n = List.replicate n 0 := fun n => by
    induction n with
    | zero => rfl
    | succ n ih => simp [Lib.repeatL, ih, List.replicate_succ]
  simp [D, this]
theorem u8n {n : Int} (h : 0 ≤ n ∧ n < 256) : IntKind.u8.wrap n = n := wu8 h.1 h.2
theorem shr0 {n : Int} (h : 0 ≤ n) : ishr .u64 n 0 = n := by
  have e : (2 : Int) ^ (min (0 : Int).toNat IntKind.u64.bits) = 1 := by decide
  rw [ishr, e, Int.fdiv_eq_ediv_of_nonneg _ (by omega), Int.ediv_one]
theorem makeP {β : Type} {k : Int} {b : ByteArray} (hb : b.size ≤ maxLen) {K : ByteArray → Int → Option β} : f94_1 20000 k b K = K (mkR k b).1 (mkR k b).2 := by
  rw [f94_1, mkR]
  by_cases h1 : k < 1
  · rw [ct h1, if_pos (.inl h1)]
  · by_cases h2 : k > 8
    · rw [cf h1, ct h2, if_pos (.inr h2)]
    · rw [cf h1, cf h2, if_neg (by omega)]
      by_cases h3 : b.size > 58
      · rw [ct (by omega), if_pos h3]
      · have hs2 : (ofInts [IntKind.u8.wrap k, IntKind.u8.wrap (b.size : Int)]).size = 2 := by rw [D_size, D_ofInts]; rfl
        have hs : (ofInts [IntKind.u8.wrap k, IntKind.u8.wrap (b.size : Int)] ++ b).size = 2 + b.size := by rw [D_size, D_app, List.length_append, ← D_size, ← D_size, hs2]
        rw [cf (by omega), if_neg h3, ct (by omega), f145_1, hs, w64 (by omega) (by omega), ct ⟨by omega, by omega, by
          have : (⟨#[0]⟩ : ByteArray).size = 1 := rfl
          rw [this]; omega⟩]
        have hf : ofInts [IntKind.u8.wrap k, IntKind.u8.wrap (b.size : Int)] ++ b ++ rep ⟨#[0]⟩ (60 - ((2 + b.size : Nat) : Int)).toNat = front k b := by
          apply extB
          rw [D_app, D_app, rep0, D_ofInts, front_D, u8n (by omega), u8n (by omega), show (60 - ((2 + b.size : Nat) : Int)).toNat = 58 - b.size by omega]
          simp
        have hfs := front_size (k := k) (b := b) (by omega)
        have hr : (rep ⟨#[0]⟩ (60 - ((2 + b.size : Nat) : Int)).toNat).size ≤ 60 := by rw [D_size, rep0]; simp; omega
        rw [ct (by omega), hf, sumP (by omega), ext_all hfs, ct (by
          rw [hfs, D_size, D_ofInts]; simp [b4])]
        rfl
noncomputable def Z64 : ByteArray := ofInts (List.replicate 64 0)
theorem zero64 {β : Type} {K : ByteArray → Option β} : f54_1 20000 K = K Z64 := by kernel_rfl
theorem Z64_D : D Z64 = List.replicate 64 0 := by rw [Z64, D_ofInts]; rfl
theorem makeR {β : Type} {k : Int} {b : ByteArray} (hb : b.size ≤ maxLen) {K : ByteArray → Int → Option β} : f100_1 20000 k b K = K (mkR k b).1 (mkR k b).2 := by
  rw [f100_1, mkR]
  by_cases h1 : k < 1
  · rw [ct h1, if_pos (.inl h1)]
  · by_cases h2 : k > 8
    · rw [cf h1, ct h2, if_pos (.inr h2)]
    · rw [cf h1, cf h2, if_neg (by omega)]
      by_cases h3 : b.size > 58
      · rw [ct (by omega), if_pos h3]
      · have hz : Z64.size = 64 := by rw [D_size, Z64_D]; simp
        have hs2 : (ofInts [k] ++ ofInts [(b.size : Int)]).size = 2 := by rw [D_size, D_app, D_ofInts, D_ofInts]; rfl
        have hs : (ofInts [k] ++ ofInts [(b.size : Int)] ++ b).size = 2 + b.size := by rw [D_size, D_app, List.length_append, ← D_size, ← D_size, hs2]
        rw [cf (by omega), if_neg h3, text1, text1, wu64 (by omega) (by omega), wu64 (by omega) (by omega), shr0 (by omega), shr0 (by omega), u8n (by omega), u8n (by omega)]
        have h11 : ∀ n : Int, (ofInts [n]).size = 1 := fun n => by rw [D_size, D_ofInts]; rfl
        rw [ct (by rw [h11, h11]; omega), ct (by rw [hs2]; omega), zero64, hs, ct (by omega)]
        have hf : ofInts [k] ++ ofInts [(b.size : Int)] ++ b ++ Z64.extract ((2 + b.size : Nat) : Int).toNat 60 = front k b := by
          apply extB
          rw [D_app, D_app, D_app, D_ext, D_ofInts, D_ofInts, front_D, Z64_D, show ((2 + b.size : Nat) : Int).toNat = 2 + b.size by omega, List.drop_replicate, List.take_replicate, show min (60 - (2 + b.size)) (64 - (2 + b.size)) = 58 - b.size by omega]
          simp
        have hfs := front_size (k := k) (b := b) (by omega)
        have hext : (Z64.extract ((2 + b.size : Nat) : Int).toNat 60).size ≤ 60 := by rw [D_size, D_ext]; simp; omega
        have hc := crc_r (toInts (front k b))
        have hl : (toInts (front k b)).length = 60 := by rw [toInts_D, List.length_map, ← D_size]; exact hfs
        rw [ct (by omega), hf, crcR (by omega), wu64 (by omega) (by omega), text4, ct (by
          rw [hfs, D_size, D_ofInts]; simp [b4])]
        rfl
def byt (s : ByteArray) (i : Nat) : Int := ((s.data.getD i 0).toNat : Int)
theorem byt_r (s : ByteArray) (i : Nat) : 0 ≤ byt s i ∧ byt s i < 256 := by
  have := (s.data.getD i 0).toNat_lt
  unfold byt; omega
def sm (s : ByteArray) : ByteArray := ofInts (b4 (crc (toInts (s.extract 0 60))))
def zer (s : ByteArray) (n : Nat) : Bool := (((D s).drop n).take (60 - n)).all (· == 0)
def kd (s : ByteArray) : Int × Int := if s.size ≠ 64 then (0, 4) else if ((sm s).toList == (s.extract 60 64).toList) = false then (0, 9) else
  if byt s 0 < 1 ∨ byt s 0 > 8 ∨ byt s 1 > 58 ∨ zer s (2 + (byt s 1).toNat) = false then (0, 6) else (byt s 0, 0)
theorem dropW_nil {p : UInt8 → Bool} : ∀ l : List UInt8, l.dropWhile p = [] ↔ l.all p = true
  | [] => by simp
  | x :: r => by
    rw [List.dropWhile_cons, List.all_cons]
    cases h : p x with
    | true => simpa using dropW_nil r
    | false => simp
theorem dropW_head {p : UInt8 → Bool} : ∀ (l : List UInt8) {y : UInt8} {r : List UInt8}, l.dropWhile p = y :: r → p y = false
  | [], y, r, h => by cases h
  | x :: l, y, r, h => by
    rw [List.dropWhile_cons] at h
    cases hx : p x with
    | true => rw [hx, if_pos rfl] at h; exact dropW_head l h
    | false => rw [hx, if_neg (by simp)] at h; injection h with h1 h2; rw [← h1]; exact hx
theorem trim_nil (l : List UInt8) : Lib.trimS l [0] = [] ↔ l.all (· == 0) = true := by
  have hp : ∀ x : UInt8, [(0 : UInt8)].contains x = (x == 0) := fun x => by rw [Bool.eq_iff_iff]; simp
  rw [Lib.trimS, Lib.trimLeftS, Lib.trimRightS, dropW_nil]
  constructor
  · intro h
    cases hq : l.reverse.dropWhile ([(0 : UInt8)].contains ·) with
    | nil =>
      have := (dropW_nil _).1 hq
      rw [List.all_reverse] at this
      simpa [hp] using this
    | cons y r =>
      have h1 := dropW_head _ hq
      rw [hq, List.all_reverse, List.all_cons, h1] at h
      cases h
  · intro h
    have : l.reverse.dropWhile ([(0 : UInt8)].contains ·) = [] := (dropW_nil _).2 (by rw [List.all_reverse]; simpa [hp] using h)
    rw [this]; rfl
theorem trm0 (x : ByteArray) : ((trm x ⟨#[0]⟩).toList == ByteArray.empty.toList) = (D x).all (· == 0) := by
  rw [beqB, Bool.eq_iff_iff, decide_eq_true_eq, ← trim_nil]
  constructor
  · intro h
    have : D (trm x ⟨#[0]⟩) = [] := by rw [h]; rfl
    simpa [D, trm] using this
  · intro h
    apply extB
    show D (trm x ⟨#[0]⟩) = []
    simpa [D, trm] using h
theorem kindP {β : Type} {s : ByteArray} {K : Int → Int → Option β} : f127_1 20000 s K = K (kd s).1 (kd s).2 := by
  rw [f127_1, f85_1, kd]
  by_cases h1 : s.size = 64
  · have b0 := byt_r s 0
    have b1 := byt_r s 1
    have e0 : ((s.data.getD 0 0).toNat : Int) = byt s 0 := rfl
    have e1 : ((s.data.getD 1 0).toNat : Int) = byt s 1 := rfl
    rw [show ((s.size : Int) == 64) = true by simp; omega, Bool.not_true, cond_false, if_neg (by omega), ct (by omega), sumP (by omega), show ((s.size : Int).toNat) = 64 by omega, e0, e1, w64 (x := byt s 0) (by omega) (by omega), w64 (x := byt s 1) (by omega) (by omega), ← sm]
    cases h2 : ((sm s).toList == (s.extract 60 64).toList) with
    | false => rfl
    | true =>
      rw [Bool.not_true, cond_false, if_neg (by simp), ct (by omega), ct (by omega)]
      by_cases h3 : byt s 0 < 1
      · rw [ct h3, if_pos (.inl h3)]
      · by_cases h4 : byt s 0 > 8
        · rw [cf h3, ct h4, if_pos (.inr (.inl h4))]
        · by_cases h5 : byt s 1 > 58
          · rw [cf h3, cf h4, ct h5, if_pos (.inr (.inr (.inl h5)))]
          · have hn : (2 + byt s 1).toNat = 2 + (byt s 1).toNat := by omega
            have hx : D (s.extract (2 + byt s 1).toNat 60) = ((D s).drop (2 + (byt s 1).toNat)).take (60 - (2 + (byt s 1).toNat)) := by rw [D_ext, hn]
            have hxs : (s.extract (2 + byt s 1).toNat 60).size ≤ 64 := by rw [D_size, hx]; simp; omega
            rw [cf h3, cf h4, cf h5, w64 (x := 2 + byt s 1) (by omega) (by omega), ct (by omega), f178_1, ct ⟨by omega, by decide, by decide⟩, trm0, hx, ← zer]
            cases h6 : zer s (2 + (byt s 1).toNat) with
            | true => rw [Bool.not_true, cond_false, if_neg (by simp; omega)]
            | false => rw [Bool.not_false, cond_true, if_pos (.inr (.inr (.inr rfl)))]
  · rw [show ((s.size : Int) == 64) = false by simp; omega, Bool.not_false, cond_true, if_pos h1]
theorem zerL {β : Type} {s : ByteArray} {K0 K1 : Option β} (hs : s.size = 64) : ∀ (m i k : Nat), i + m = 60 → m < k → f128_1_l8 20000 s K0 K1 k (i : Int) = if zer s i then K1 else K0
  | _, _, 0, _, h => by omega
  | 0, i, k + 1, hi, _ => by rw [f128_1_l8, cf (by omega), zer, show 60 - i = 0 by omega]; simp
  | m + 1, i, k + 1, hi, hk => by
    have hl : i < (D s).length := by rw [← D_size]; omega
    have hg : s.data.getD i 0 = (D s)[i] := by
      have h2 : i < s.data.size := by have := hl; simpa [D] using this
      simp only [Array.getD_eq_getD_getElem?, Array.getElem?_eq_getElem h2, Option.getD_some, D, Array.getElem_toList]
    rw [f128_1_l8, ct (by omega), ct (by omega), show ((i : Int)).toNat = i from rfl, hg, w64 (by omega) (by omega), zer, List.drop_eq_getElem_cons hl, show 60 - i = (60 - (i + 1)) + 1 by omega, List.take_succ_cons, List.all_cons, ← zer]
    have ih := zerL (K0 := K0) (K1 := K1) hs m (i + 1) k (by omega) (by omega)
    push_cast at ih
    by_cases h0 : (D s)[i] = 0
    · rw [h0, show (((0 : UInt8).toNat : Int) != 0) = false from rfl, cond_false, ih]; simp
    · have : (((D s)[i].toNat : Int) != 0) = true := by
        simp only [bne_iff_ne, ne_eq]
        intro h
        exact h0 (UInt8.toNat_inj.1 (by simpa using h))
      rw [this, cond_true, beq_eq_false_iff_ne.2 h0]; simp
theorem kindR {β : Type} {s : ByteArray} {K : Int → Int → Option β} : f128_1 20000 s K = K (kd s).1 (kd s).2 := by
  rw [f128_1, f112_1, kd]
  by_cases h1 : s.size = 64
  · have b0 := byt_r s 0
    have b1 := byt_r s 1
    have e0 : ((s.data.getD 0 0).toNat : Int) = byt s 0 := rfl
    have e1 : ((s.data.getD 1 0).toNat : Int) = byt s 1 := rfl
    have hc := crc_r (toInts (s.extract 0 60))
    have hl : (toInts (s.extract 0 60)).length ≤ 60 := by
      rw [toInts_D, D_ext]; simp; omega
    rw [show ((s.size : Int) == 64) = true by simp; omega, Bool.not_true, cond_false, if_neg (by omega), ct (by omega), ct (by omega), crcR (by omega), wu64 (by omega) (by omega), text4, show ((s.size : Int).toNat) = 64 by omega, e0, e1, w64 (x := byt s 0) (by omega) (by omega), w64 (x := byt s 1) (by omega) (by omega), ← sm]
    cases h2 : ((sm s).toList == (s.extract 60 64).toList) with
    | false => rfl
    | true =>
      rw [Bool.not_true, cond_false, if_neg (by simp), ct (by omega)]
      by_cases h3 : byt s 0 < 1
      · rw [ct h3, if_pos (.inl h3)]
      · by_cases h4 : byt s 0 > 8
        · rw [cf h3, ct (by omega), ct h4, if_pos (.inr (.inl h4))]
        · by_cases h5 : byt s 1 > 58
          · rw [cf h3, ct (by omega), cf h4, ct (by omega), ct h5, if_pos (.inr (.inr (.inl h5)))]
          · rw [cf h3, ct (by omega), cf h4, ct (by omega), cf h5, ct (by omega), w64 (x := 2 + byt s 1) (by omega) (by omega), ct (by omega), show (2 + byt s 1) = ((2 + (byt s 1).toNat : Nat) : Int) by omega, zerL h1 (60 - (2 + (byt s 1).toNat)) (2 + (byt s 1).toNat) 20000 (by omega) (by omega)]
            cases h6 : zer s (2 + (byt s 1).toNat) with
            | true => rw [if_pos rfl, if_neg (by simp; omega)]
            | false => rw [if_neg (by simp), if_pos (.inr (.inr (.inr rfl)))]
  · rw [show ((s.size : Int) == 64) = false by simp; omega, Bool.not_false, cond_true, if_pos h1]
theorem kd_size {s : ByteArray} (h : (kd s).2 = 0) : s.size = 64 ∧ byt s 1 ≤ 58 ∧ zer s (2 + (byt s 1).toNat) = true ∧ (kd s).1 = byt s 0 ∧ 1 ≤ byt s 0 ∧ byt s 0 ≤ 8 ∧ ((sm s).toList == (s.extract 60 64).toList) = true := by
  unfold kd at h ⊢
  split at h
  · cases h
  · rename_i h1
    split at h
    · cases h
    · rename_i h2
      split at h
      · cases h
      · rename_i h3
        rw [if_neg h1, if_neg h2, if_neg h3]
        refine ⟨by omega, by omega, ?_, rfl, by omega, by omega, by simpa using h2⟩
        cases hz : zer s (2 + (byt s 1).toNat) with
        | true => rfl
        | false => exact (h3 (.inr (.inr (.inr hz)))).elim
def opn (k : Int) (s : ByteArray) : ByteArray × Int := if (kd s).2 ≠ 0 then (ByteArray.empty, (kd s).2) else if (kd s).1 ≠ k then (ByteArray.empty, 22) else (s.extract 2 (2 + (byt s 1).toNat), 0)
theorem openP {β : Type} {k : Int} {s : ByteArray} {K : ByteArray → Int → Option β} : f156_1 20000 k s K = K (opn k s).1 (opn k s).2 := by
  rw [f156_1, kindP, opn]
  have e1 : ((s.data.getD 1 0).toNat : Int) = byt s 1 := rfl
  have b1 := byt_r s 1
  by_cases h1 : (kd s).2 = 0
  · obtain ⟨q1, q2, _⟩ := kd_size h1
    rw [h1, show ((0 : Int) != 0) = false from rfl, cond_false, if_neg (by simp), e1, w64 (x := byt s 1) (by omega) (by omega), w64 (x := 2 + byt s 1) (by omega) (by omega)]
    by_cases h2 : (kd s).1 = k
    · rw [h2, show (k != k) = false by simp, cond_false, if_neg (by simp), ct (by omega), ct (by omega), show (2 + byt s 1).toNat = 2 + (byt s 1).toNat by omega]
    · rw [show ((kd s).1 != k) = true by simp [h2], cond_true, if_pos h2]
  · rw [show ((kd s).2 != 0) = true by simp [h1], cond_true, if_pos h1]
theorem openR {β : Type} {k : Int} {s : ByteArray} {K : ByteArray → Int → Option β} : f168_1 20000 k s K = K (opn k s).1 (opn k s).2 := by
  rw [f168_1, kindR, opn]
  have e1 : ((s.data.getD 1 0).toNat : Int) = byt s 1 := rfl
  have b1 := byt_r s 1
  by_cases h1 : (kd s).2 = 0
  · obtain ⟨q1, q2, _⟩ := kd_size h1
    rw [h1, show ((0 : Int) != 0) = false from rfl, cond_false, if_neg (by simp), e1, w64 (x := byt s 1) (by omega) (by omega), w64 (x := 2 + byt s 1) (by omega) (by omega)]
    by_cases h2 : (kd s).1 = k
    · rw [h2, show (k != k) = false by simp, cond_false, if_neg (by simp), ct (by omega), ct (by omega), show (2 + byt s 1).toNat = 2 + (byt s 1).toNat by omega]
    · rw [show ((kd s).1 != k) = true by simp [h2], cond_true, if_pos h2]
  · rw [show ((kd s).2 != 0) = true by simp [h1], cond_true, if_pos h1]
end
section
variable [FZ]
theorem b4_size (n : Int) : (ofInts (b4 n)).size = 4 := by rw [D_size, D_ofInts]; rfl
theorem mkB_size {k : Int} {b : ByteArray} (h : b.size ≤ 58) : (mkB k b).size = 64 := by
  have hf := front_size (k := k) h
  have hc := b4_size (crc (toInts (front k b)))
  rw [D_size] at hf hc
  rw [D_size, mkB, D_app, List.length_append, hf, hc]
end
end Go.Proofs.YtlgopekjjkdkiaaGreatDoor.X
end
section
namespace Go.Proofs.YtlgopekjjkdkiaaGreatDoor.X
open Go Go.Proofs.YtlgopekjjkdkiaaGreatDoor.Ev Go.Proofs
set_option linter.unusedVariables false
set_option linter.unusedSectionVars false
section
variable [FZ]
end
section
variable [FZ]
end
end Go.Proofs.YtlgopekjjkdkiaaGreatDoor.X
end
section
namespace Go.Proofs.YtlgopekjjkdkiaaGreatDoor.X
open Go Go.Proofs.YtlgopekjjkdkiaaGreatDoor.Ev
set_option linter.unusedSectionVars false
set_option linter.unusedVariables false
set_option linter.unusedSimpArgs false
section
variable [FZ]
def num (v : Int) (l : List Int) : Int := l.foldl (fun v b => v * 256 + b) v
end
end Go.Proofs.YtlgopekjjkdkiaaGreatDoor.X
end
section
namespace Go.Proofs.YtlgopekjjkdkiaaGreatDoor.X
open Go Go.Proofs.YtlgopekjjkdkiaaGreatDoor.Ev Go.Proofs
set_option linter.unusedVariables false
set_option linter.unusedSectionVars false
section
variable [FZ]
end
end Go.Proofs.YtlgopekjjkdkiaaGreatDoor.X
end
section
namespace Go.Proofs.YtlgopekjjkdkiaaGreatDoor.X
open Go Go.Proofs.YtlgopekjjkdkiaaGreatDoor.Ev
set_option linter.unusedSectionVars false
set_option linter.unusedVariables false
set_option linter.unusedSimpArgs false
section
variable [FZ]
theorem bnf {a b : Int} (h : a = b) : (a != b) = false := by simp [h]
theorem bnt {a b : Int} (h : a ≠ b) : (a != b) = true := by simp [h]
def b8 (n : Int) : List Int := [IntKind.u8.wrap (ishr .u64 n 56), IntKind.u8.wrap (ishr .u64 n 48), IntKind.u8.wrap (ishr .u64 n 40), IntKind.u8.wrap (ishr .u64 n 32), IntKind.u8.wrap (ishr .u64 n 24), IntKind.u8.wrap (ishr .u64 n 16), IntKind.u8.wrap (ishr .u64 n 8), IntKind.u8.wrap (ishr .u64 n 0)]
theorem app_size (s t : ByteArray) : (s ++ t).size = s.size + t.size := by rw [D_size, D_app, List.length_append, ← D_size, ← D_size]
theorem big60 : 60 ≤ maxLen := by decide
end
section
variable [FZ]
theorem oi_size (l : List Int) : (ofInts l).size = l.length := by rw [D_size, D_ofInts, List.length_map]
end
section
variable [FZ]
def lv : Nat → Int → Int → List Int
  | 0, _, _ => []
  | k + 1, n, f => if n > 1 then ((n + f - 1) / f) :: lv k ((n + f - 1) / f) f else []
theorem step_eq {n f : Int} (hf : 2 ≤ f ∧ f ≤ 4) (h1 : 1 < n) (h2 : n ≤ 128) :
    IntKind.i64.wrap ((IntKind.i64.wrap ((IntKind.i64.wrap (n + f)) - 1)).tdiv f) = (n + f - 1) / f ∧ 1 ≤ (n + f - 1) / f ∧ (n + f - 1) / f < n := by
  rw [w64 (x := n + f) (by omega) (by omega), w64 (x := n + f - 1) (by omega) (by omega), Int.tdiv_eq_ediv_of_nonneg (by omega)]
  have : f = 2 ∨ f = 3 ∨ f = 4 := by omega
  rcases this with rfl | rfl | rfl
  · rw [w64 (by omega) (by omega)]; omega
  · rw [w64 (by omega) (by omega)]; omega
  · rw [w64 (by omega) (by omega)]; omega
theorem lev48 {β : Type} {F : Nat} {x f c u : Int} (hf : 2 ≤ f ∧ f ≤ 4) {K : List Int → Option β} : ∀ (k : Nat) (n : Int) (acc : List Int), 1 ≤ n → n ≤ 128 → n < k → (acc.length : Int) + n ≤ 2000 →
    f164_1_l5 F x f c u K k n acc = K (acc ++ lv k n f)
  | 0, n, acc, h1, h2, h3, h4 => by omega
  | k + 1, n, acc, h1, h2, h3, h4 => by
    simp only [f164_1_l5, lv]
    by_cases hn : n > 1
    · obtain ⟨e, g1, g2⟩ := step_eq hf hn h2
      rw [e]
      have h0 : ¬ f = 0 := by omega
      have hl : (acc.length + 1) * 8 ≤ 70368744177664 := by omega
      simp only [hn, h0, hl, decide_true, decide_false, cond_true, cond_false, if_true]
      rw [lev48 hf k _ _ g1 (by omega) (by omega) (by simp; omega)]
      simp
    · simp [hn]
theorem lev49 {β : Type} {F : Nat} {x f c u : Int} (hf : 2 ≤ f ∧ f ≤ 4) {K : List Int → Option β} : ∀ (k : Nat) (n : Int) (acc : List Int), 1 ≤ n → n ≤ 128 → n < k → (acc.length : Int) + n ≤ 2000 →
    f98_1_l5 F x f c u K k n acc = K (acc ++ lv k n f)
  | 0, n, acc, h1, h2, h3, h4 => by omega
  | k + 1, n, acc, h1, h2, h3, h4 => by
    simp only [f98_1_l5, lv]
    by_cases hn : n > 1
    · obtain ⟨e, g1, g2⟩ := step_eq hf hn h2
      rw [e]
      have h0 : ¬ f = 0 := by omega
      have hl : (acc.length + 1) * 8 ≤ 70368744177664 := by omega
      simp only [hn, h0, hl, decide_true, decide_false, cond_true, cond_false, if_true]
      rw [lev49 hf k _ _ g1 (by omega) (by omega) (by simp; omega)]
      simp
    · simp [hn]
theorem lv_ok {f : Int} (hf : 2 ≤ f ∧ f ≤ 4) : ∀ (k : Nat) (n : Int), 1 ≤ n → n ≤ 128 → ((lv k n f).length : Int) < n ∧ ∀ y ∈ lv k n f, 1 ≤ y ∧ y ≤ 128
  | 0, n, h1, h2 => by simp [lv]; omega
  | k + 1, n, h1, h2 => by
    simp only [lv]
    by_cases hn : n > 1
    · obtain ⟨e, g1, g2⟩ := step_eq hf hn h2
      obtain ⟨q1, q2⟩ := lv_ok hf k _ g1 (by omega)
      rw [if_pos hn]
      refine ⟨by simp; omega, fun y hy => ?_⟩
      rcases List.mem_cons.1 hy with rfl | hy
      · omega
      · exact q2 y hy
    · rw [if_neg hn]; simp; omega
def rt (n f c u : Int) : Prop := (1 ≤ n ∧ n ≤ 128) ∧ (2 ≤ f ∧ f ≤ 4) ∧ (0 ≤ c ∧ c ≤ 64) ∧ (1 ≤ u ∧ u ≤ 320)
instance (n f c u : Int) : Decidable (rt n f c u) := by unfold rt; infer_instance
theorem cnd {β : Type} {p q : Prop} [Decidable p] [Decidable q] {K : Bool → Option β} : cond (decide p) (K (decide q)) (K false) = K (decide (p ∧ q)) := by
  by_cases h : p <;> simp [h]
theorem within87 {β : Type} {F : Nat} {a b c : Int} {K : Bool → Option β} : f144_1 F a b c K = K (decide (a ≥ b ∧ a ≤ c)) := by
  simp only [f144_1, cnd]
theorem right46 {β : Type} {F : Nat} {n f c u : Int} {K : Bool → Option β} : f90_1 F n f c u K = K (decide (rt n f c u)) := by
  simp only [f90_1, within87, cnd]
  congr 1
theorem right47 {β : Type} {F : Nat} {n f c u : Int} {K : Bool → Option β} : f21_1 F n f c u K = K (decide (rt n f c u)) := by
  simp only [f21_1, cnd]
  congr 1
  exact decide_eq_decide.2 (by unfold rt; omega)
def levels (n f c u : Int) : List Int := if rt n f c u then n :: lv 20000 n f else []
theorem levels48 {β : Type} {n f c u : Int} {K : List Int → Option β} : f164_1 20000 n f c u K = K (levels n f c u) := by
  simp only [f164_1, right46, levels]
  by_cases h : rt n f c u
  · simp only [h, decide_true, Bool.not_true, cond_false, if_true]
    rw [lev48 h.2.1 20000 n [n] h.1.1 h.1.2 (by have := h.1.2; omega) (by have := h.1.2; simp; omega)]
    rfl
  · simp [h]
theorem levels49 {β : Type} {n f c u : Int} {K : List Int → Option β} : f98_1 20000 n f c u K = K (levels n f c u) := by
  simp only [f98_1, right47, levels]
  by_cases h : rt n f c u
  · simp only [h, decide_true, Bool.not_true, cond_false, if_true]
    rw [lev49 h.2.1 20000 n [n] h.1.1 h.1.2 (by have := h.1.2; omega) (by have := h.1.2; simp; omega)]
    rfl
  · simp [h]
theorem levels_ok (n f c u : Int) : (levels n f c u).length ≤ 128 ∧ ∀ y ∈ levels n f c u, 1 ≤ y ∧ y ≤ 128 := by
  unfold levels
  split
  · rename_i h
    obtain ⟨q1, q2⟩ := lv_ok h.2.1 20000 n h.1.1 h.1.2
    have := h.1
    refine ⟨by simp; omega, fun y hy => ?_⟩
    rcases List.mem_cons.1 hy with rfl | hy
    · omega
    · exact q2 y hy
  · simp
def sumI : List Int → Int
  | [] => 0
  | x :: r => x + sumI r
theorem sumI_ok : ∀ (l : List Int), (∀ y ∈ l, 1 ≤ y ∧ y ≤ 128) → (l.length : Int) ≤ sumI l ∧ sumI l ≤ 128 * l.length
  | [], _ => by simp [sumI]
  | x :: r, h => by
    obtain ⟨q1, q2⟩ := sumI_ok r fun y hy => h y (by simp [hy])
    have := h x (by simp)
    simp only [sumI, List.length_cons]
    omega
theorem sum50 {β : Type} {F : Nat} {K : Int → Option β} (l : List Int) (hl : l.length ≤ 128) (hy : ∀ y ∈ l, 1 ≤ y ∧ y ≤ 128) : ∀ (r : List Int) (i : Nat) (k : Nat) (s : Int), l.drop i = r → i ≤ l.length → r.length < k → 0 ≤ s → s ≤ 128 * i →
    f111_1_l3 F ((l.length : Nat) : Int) l K k s (i : Int) = K (s + sumI r)
  | [], i, k, s, hd, hi, hk, h0, h1 => by
    cases k with
    | zero => omega
    | succ k =>
      have : i = l.length := by
        have := congrArg List.length hd
        simp at this; omega
      subst this
      simp [f111_1_l3, sumI]
  | x :: r, i, k, s, hd, hi, hk, h0, h1 => by
    cases k with
    | zero => omega
    | succ k =>
      have hlen : l.length - i = r.length + 1 := by
        have := congrArg List.length hd
        simpa using this
      have hlt : i < l.length := by omega
      have hx : l[i]? = some x := by
        have := congrArg (·[0]?) hd
        simpa using this
      have hm := hy x (List.mem_of_getElem? hx)
      have hdr : l.drop (i + 1) = r := by
        rw [← List.drop_drop, hd]; rfl
      simp only [f111_1_l3]
      have e1 : decide ((i : Int) < ((l.length : Nat) : Int)) = true := by simp; omega
      have e2 : decide ((0 : Int) ≤ (i : Int) ∧ (i : Int) < ((l.length : Nat) : Int)) = true := by simp; omega
      have e3 : decide (0 + (i : Int).toNat < l.length) = true := by simp; omega
      have e4 : l.getD (0 + (i : Int).toNat) 0 = x := by
        rw [List.getD_eq_getElem?_getD]; simp [hx]
      rw [e1, e2, e3, e4, cond_true, cond_true, cond_true, w64 (by omega) (by omega), w64 (by omega) (by omega)]
      have := sum50 (F := F) (K := K) l hl hy r (i + 1) k (s + x) hdr (by omega) (by simpa using hk) (by omega) (by omega)
      rw [show ((i : Int) + 1) = ((i + 1 : Nat) : Int) by omega, this]
      congr 1
      simp only [sumI]; omega
theorem sum51 {β : Type} {F : Nat} {K : Int → Option β} (l : List Int) (hl : l.length ≤ 128) (hy : ∀ y ∈ l, 1 ≤ y ∧ y ≤ 128) : ∀ (r : List Int) (i : Nat) (k : Nat) (s : Int), l.drop i = r → i ≤ l.length → r.length < k → 0 ≤ s → s ≤ 128 * i →
    f36_1_l4 F l K k s (i : Int) = K (s + sumI r)
  | [], i, k, s, hd, hi, hk, h0, h1 => by
    cases k with
    | zero => omega
    | succ k =>
      have : i = l.length := by
        have := congrArg List.length hd
        simp at this; omega
      subst this
      simp [f36_1_l4, sumI]
  | x :: r, i, k, s, hd, hi, hk, h0, h1 => by
    cases k with
    | zero => omega
    | succ k =>
      have hlen : l.length - i = r.length + 1 := by
        have := congrArg List.length hd
        simpa using this
      have hlt : i < l.length := by omega
      have hx : l[i]? = some x := by
        have := congrArg (·[0]?) hd
        simpa using this
      have hm := hy x (List.mem_of_getElem? hx)
      have hdr : l.drop (i + 1) = r := by
        rw [← List.drop_drop, hd]; rfl
      simp only [f36_1_l4]
      have e1 : decide ((i : Int) < ((l.length : Nat) : Int)) = true := by simp; omega
      have e2 : decide ((0 : Int) ≤ (i : Int) ∧ (i : Int) < ((l.length : Nat) : Int)) = true := by simp; omega
      have e3 : decide (0 + (i : Int).toNat < l.length) = true := by simp; omega
      have e4 : l.getD (0 + (i : Int).toNat) 0 = x := by
        rw [List.getD_eq_getElem?_getD]; simp [hx]
      rw [e1, e2, e3, e4, cond_true, cond_true, cond_true, w64 (by omega) (by omega), w64 (by omega) (by omega)]
      have := sum51 (F := F) (K := K) l hl hy r (i + 1) k (s + x) hdr (by omega) (by simpa using hk) (by omega) (by omega)
      rw [show ((i : Int) + 1) = ((i + 1 : Nat) : Int) by omega, this]
      congr 1
      simp only [sumI]; omega
def nodes (n f c u : Int) : Int := sumI (levels n f c u)
theorem nodes_ok (n f c u : Int) : 0 ≤ nodes n f c u ∧ nodes n f c u ≤ 16384 ∧ (rt n f c u → 1 ≤ nodes n f c u) ∧ (¬ rt n f c u → nodes n f c u = 0) := by
  obtain ⟨h1, h2⟩ := levels_ok n f c u
  obtain ⟨h3, h4⟩ := sumI_ok _ h2
  unfold nodes
  refine ⟨by omega, by omega, fun h => ?_, fun h => by simp [levels, h, sumI]⟩
  have : 1 ≤ (levels n f c u).length := by simp [levels, h]
  omega
theorem nodes50 {β : Type} {n f c u : Int} {K : Int → Option β} : f111_1 20000 n f c u K = K (nodes n f c u) := by
  obtain ⟨h1, h2⟩ := levels_ok n f c u
  simp only [f111_1, levels48]
  have := sum50 (F := 20000) (K := K) (levels n f c u) h1 h2 _ 0 20000 0 rfl (by omega) (by simp; omega) (by omega) (by omega)
  simp only [List.drop_zero, Int.zero_add] at this
  exact this
theorem nodes51 {β : Type} {n f c u : Int} {K : Int → Option β} : f36_1 20000 n f c u K = K (nodes n f c u) := by
  obtain ⟨h1, h2⟩ := levels_ok n f c u
  simp only [f36_1, levels49]
  have := sum51 (F := 20000) (K := K) (levels n f c u) h1 h2 _ 0 20000 0 rfl (by omega) (by simp; omega) (by omega) (by omega)
  simp only [List.drop_zero, Int.zero_add] at this
  exact this
end
section
variable [FZ]
def kids (f : Int) (from_ a q : Int) : Nat → List Int
  | 0 => []
  | k + 1 => kids f from_ a q k ++ (if q * f + k < a then [from_ + (q * f + k)] else [])
def chl (f : Int) (node : Int) : Int → List Int → List Int
  | s, a :: b :: r => if s + a ≤ node ∧ node < s + a + b then kids f s a (node - (s + a)) f.toNat else chl f node (s + a) (b :: r)
  | _, _ => []
def par (f : Int) (node : Int) : Int → List Int → Int
  | s, a :: b :: r => if s ≤ node ∧ node < s + a then s + a + (node - s) / f else par f node (s + a) (b :: r)
  | _, _ => -1
def chain (f : Int) : List Int → Prop
  | a :: b :: r => 1 < a ∧ b = (a + f - 1) / f ∧ chain f (b :: r)
  | [a] => a = 1
  | [] => True
theorem chain_lv {f : Int} (hf : 2 ≤ f ∧ f ≤ 4) : ∀ (k : Nat) (n : Int), 1 ≤ n → n ≤ 128 → n < k → chain f (n :: lv k n f)
  | 0, n, h1, h2, h3 => by omega
  | k + 1, n, h1, h2, h3 => by
    simp only [lv]
    by_cases hn : n > 1
    · obtain ⟨e, g1, g2⟩ := step_eq hf hn h2
      rw [if_pos hn]
      exact ⟨hn, rfl, chain_lv hf k _ g1 (by omega) (by omega)⟩
    · rw [if_neg hn]
      show n = 1
      omega
def lvl (node : Int) : Int → Nat → List Int → Option (Nat × Int)
  | s, i, a :: r => if s ≤ node ∧ node < s + a then some (i, s) else lvl node (s + a) (i + 1) r
  | _, _, [] => none
theorem at_drop {l r : List Int} {x : Int} {i : Nat} (hd : l.drop i = x :: r) : i < l.length ∧ l.getD (0 + (i : Int).toNat) 0 = x ∧ l.drop (i + 1) = r := by
  have hlen : l.length - i = r.length + 1 := by
    have := congrArg List.length hd
    simpa using this
  have hx : l[i]? = some x := by
    have := congrArg (·[0]?) hd
    simpa using this
  refine ⟨by omega, ?_, ?_⟩
  · rw [List.getD_eq_getElem?_getD]; simp [hx]
  · rw [← List.drop_drop, hd]; rfl
theorem level88 {β : Type} {F : Nat} {node : Int} {K0 : Int → Int → Option β} {K1 : Option β} (l : List Int) (hl : l.length ≤ 128) (hy : ∀ y ∈ l, 1 ≤ y ∧ y ≤ 128) :
    ∀ (r : List Int) (i k : Nat) (s : Int), l.drop i = r → i ≤ l.length → r.length < k → 0 ≤ s → s ≤ 128 * i →
      f217_1_l3 F node ((l.length : Nat) : Int) l K0 K1 k s (i : Int) = match lvl node s i r with | some (j, t) => K0 (j : Int) t | none => K1
  | [], i, k, s, hd, hi, hk, h0, h1 => by
    cases k with
    | zero => omega
    | succ k =>
      have : i = l.length := by
        have := congrArg List.length hd
        simp at this; omega
      subst this
      simp [f217_1_l3, lvl]
  | x :: r, i, k, s, hd, hi, hk, h0, h1 => by
    cases k with
    | zero => omega
    | succ k =>
      obtain ⟨hlt, hx, hdr⟩ := at_drop hd
      have hm := hy x (by
        have : x ∈ l.drop i := by rw [hd]; simp
        exact List.mem_of_mem_drop this)
      simp only [f217_1_l3, within87]
      have e1 : decide ((i : Int) < ((l.length : Nat) : Int)) = true := by simp; omega
      have e2 : decide ((0 : Int) ≤ (i : Int) ∧ (i : Int) < ((l.length : Nat) : Int)) = true := by simp; omega
      have e3 : decide (0 + (i : Int).toNat < l.length) = true := by simp; omega
      rw [e1, e2, e3, hx, cond_true, cond_true, cond_true, w64 (x := s + x) (by omega) (by omega), w64 (x := s + x - 1) (by omega) (by omega), w64 (x := (i : Int) + 1) (by omega) (by omega)]
      simp only [lvl]
      by_cases hn : s ≤ node ∧ node < s + x
      · have e : decide (node ≥ s ∧ node ≤ s + x - 1) = true := by simp; omega
        rw [e, cond_true, if_pos hn]
      · have e : decide (node ≥ s ∧ node ≤ s + x - 1) = false := by simp; omega
        rw [e, cond_false, if_neg hn, show ((i : Int) + 1) = ((i + 1 : Nat) : Int) by omega]
        exact level88 l hl hy r (i + 1) k (s + x) hdr (by omega) (by simpa using hk) (by omega) (by omega)
theorem lvl_spec {node : Int} : ∀ (r : List Int) (s : Int) (i j : Nat) (t : Int), lvl node s i r = some (j, t) → ∃ p a q, r = p ++ a :: q ∧ j = i + p.length ∧ t = s + sumI p ∧ t ≤ node ∧ node < t + a
  | [], s, i, j, t, h => by simp [lvl] at h
  | x :: r, s, i, j, t, h => by
    simp only [lvl] at h
    split at h
    · rename_i hn
      simp only [Option.some.injEq, Prod.mk.injEq] at h
      obtain ⟨rfl, rfl⟩ := h
      exact ⟨[], x, r, rfl, by simp, by simp [sumI], hn.1, hn.2⟩
    · obtain ⟨p, a, q, h1, h2, h3, h4, h5⟩ := lvl_spec r _ _ _ _ h
      refine ⟨x :: p, a, q, by rw [h1]; rfl, by simp; omega, by simp only [sumI]; omega, h4, h5⟩
theorem kids_len (f from_ a q : Int) : ∀ k, (kids f from_ a q k).length ≤ k
  | 0 => by simp [kids]
  | k + 1 => by
    have := kids_len f from_ a q k
    simp only [kids, List.length_append]
    split <;> simp <;> omega
theorem mul_small {f q : Int} (hf : 2 ≤ f ∧ f ≤ 4) (hq : 0 ≤ q ∧ q < 128) : 0 ≤ q * f ∧ q * f < 512 := by
  have : f = 2 ∨ f = 3 ∨ f = 4 := by omega
  rcases this with rfl | rfl | rfl <;> omega
theorem kids58 {β : Type} {F : Nat} {node t below f n c u : Int} {K : List Int → Option β} (hf : 2 ≤ f ∧ f ≤ 4) (ht : 0 ≤ t ∧ t ≤ 16384) (hb : 1 ≤ below ∧ below ≤ 128) (hn : t ≤ node ∧ node < t + 128) :
    ∀ (m i k : Nat), (i : Int) + m = f → m < k → f201_1_l7 F node t below f n f c u K k (i : Int) (kids f (t - below) below (node - t) i) = K (kids f (t - below) below (node - t) f.toNat)
  | 0, i, k, hi, hk => by
    cases k with
    | zero => omega
    | succ k =>
      have e : decide ((i : Int) < f) = false := by simp; omega
      simp only [f201_1_l7, e, cond_false]
      rw [show f.toNat = i by omega]
  | m + 1, i, k, hi, hk => by
    cases k with
    | zero => omega
    | succ k =>
      have e : decide ((i : Int) < f) = true := by simp; omega
      obtain ⟨q1, q2⟩ := mul_small hf (q := node - t) (by omega)
      have hl := kids_len f (t - below) below (node - t) i
      have e8 : decide (((kids f (t - below) below (node - t) i).length + 1) * 8 ≤ 70368744177664) = true := by simp; omega
      simp only [f201_1_l7]
      rw [e, cond_true, w64 (x := node - t) (by omega) (by omega), w64 (x := (node - t) * f) (by omega) (by omega), w64 (x := (node - t) * f + i) (by omega) (by omega), w64 (x := (i : Int) + 1) (by omega) (by omega), w64 (x := t - below) (by omega) (by omega),
        w64 (x := t - below + ((node - t) * f + i)) (by omega) (by omega), e8, cond_true]
      have hk' : kids f (t - below) below (node - t) (i + 1) = kids f (t - below) below (node - t) i ++ (if (node - t) * f + (i : Int) < below then [t - below + ((node - t) * f + (i : Int))] else []) := rfl
      have := kids58 (F := F) (n := n) (c := c) (u := u) (K := K) hf ht hb hn m (i + 1) k (by omega) (by omega)
      rw [hk'] at this
      rw [show ((i : Int) + 1) = ((i + 1 : Nat) : Int) by omega]
      by_cases h : (node - t) * f + (i : Int) < below
      · simp only [h, decide_true, cond_true]
        rw [if_pos h] at this
        exact this
      · simp only [h, decide_false, cond_false]
        rw [if_neg h, List.append_nil] at this
        exact this
theorem kids59 {β : Type} {F : Nat} {node s above a f n c u : Int} {l : List Int} {j : Nat} {K : List Int → Option β} (hf : 2 ≤ f ∧ f ≤ 4) (ht : 0 ≤ s ∧ s ≤ 16384) (hj : j < l.length) (hlj : l.getD (0 + (j : Int).toNat) 0 = a)
    (hb : 1 ≤ a ∧ a ≤ 128) (hab : above = s + a) (hn : above ≤ node ∧ node < above + 128) :
    ∀ (m i k : Nat), (i : Int) + m = f → m < k → f165_1_l10 F node s (j : Int) above n f c u l K k (i : Int) (kids f s a (node - above) i) = K (kids f s a (node - above) f.toNat)
  | 0, i, k, hi, hk => by
    cases k with
    | zero => omega
    | succ k =>
      have e : decide ((i : Int) < f) = false := by simp; omega
      simp only [f165_1_l10, e, cond_false]
      rw [show f.toNat = i by omega]
  | m + 1, i, k, hi, hk => by
    cases k with
    | zero => omega
    | succ k =>
      have e : decide ((i : Int) < f) = true := by simp; omega
      obtain ⟨q1, q2⟩ := mul_small hf (q := node - above) (by omega)
      have hl := kids_len f s a (node - above) i
      have e8 : decide (((kids f s a (node - above) i).length + 1) * 8 ≤ 70368744177664) = true := by simp; omega
      have e2 : decide ((0 : Int) ≤ (j : Int) ∧ (j : Int) < ((l.length : Nat) : Int)) = true := by simp; omega
      have e3 : decide (0 + (j : Int).toNat < l.length) = true := by simp; omega
      simp only [f165_1_l10]
      rw [e, cond_true, e2, cond_true, e3, cond_true, hlj, w64 (x := node - above) (by omega) (by omega), w64 (x := (node - above) * f) (by omega) (by omega), w64 (x := (node - above) * f + i) (by omega) (by omega), w64 (x := (i : Int) + 1) (by omega) (by omega),
        w64 (x := s + ((node - above) * f + i)) (by omega) (by omega), e8, cond_true]
      have hk' : kids f s a (node - above) (i + 1) = kids f s a (node - above) i ++ (if (node - above) * f + (i : Int) < a then [s + ((node - above) * f + (i : Int))] else []) := rfl
      have := kids59 (F := F) (n := n) (c := c) (u := u) (K := K) hf ht hj hlj hb hab hn m (i + 1) k (by omega) (by omega)
      rw [hk'] at this
      rw [show ((i : Int) + 1) = ((i + 1 : Nat) : Int) by omega]
      by_cases h : (node - above) * f + (i : Int) < a
      · simp only [h, decide_true, cond_true]
        rw [if_pos h] at this
        exact this
      · simp only [h, decide_false, cond_false]
        rw [if_neg h, List.append_nil] at this
        exact this
def chs (f node : Int) (L : List Int) : List Int := match lvl node 0 0 L with
  | some (j + 1, t) => kids f (t - L.getD j 0) (L.getD j 0) (node - t) f.toNat
  | _ => []
theorem level88' {β : Type} {n f c u node : Int} {K0 : Int → Int → Bool → Option β} : f217_1 20000 n f c u node K0 = match lvl node 0 0 (levels n f c u) with | some (j, t) => K0 (j : Int) t true | none => K0 0 0 false := by
  obtain ⟨h1, h2⟩ := levels_ok n f c u
  simp only [f217_1, levels48]
  have := level88 (F := 20000) (node := node) (K0 := fun x8 x9 => K0 x8 x9 true) (K1 := K0 0 0 false) (levels n f c u) h1 h2 _ 0 20000 0 rfl (by omega) (by simp; omega) (by omega) (by omega)
  simp only [List.drop_zero] at this
  exact this
theorem mem_getD {l : List Int} {j : Nat} (h : j < l.length) : l.getD j 0 ∈ l := by
  rw [List.getD_eq_getElem?_getD, List.getElem?_eq_getElem h]; simp
theorem chs58 {β : Type} {n f c u node : Int} {K : List Int → Option β} : f201_1 20000 n f c u node K = K (chs f node (levels n f c u)) := by
  obtain ⟨h1, h2⟩ := levels_ok n f c u
  simp only [f201_1, level88', levels48, chs]
  cases hl : lvl node 0 0 (levels n f c u) with
  | none => rfl
  | some q =>
    obtain ⟨j, t⟩ := q
    obtain ⟨p, a, r, e1, e2, e3, e4, e5⟩ := lvl_spec _ _ _ _ _ hl
    have hrt : rt n f c u := by
      by_cases h : rt n f c u
      · exact h
      · simp [levels, h] at e1
    cases j with
    | zero => simp
    | succ j =>
      have hlen : (levels n f c u).length = p.length + 1 + r.length := by rw [e1]; simp; omega
      have ha := h2 a (by rw [e1]; simp)
      have hp := sumI_ok p fun y hy => h2 y (by rw [e1]; simp [hy])
      have hj : j < (levels n f c u).length := by omega
      have hm := h2 _ (mem_getD hj)
      have x0 : (((j + 1 : Nat) : Int) == 0) = false := by simp; omega
      have x1 : IntKind.i64.wrap (((j + 1 : Nat) : Int) - 1) = (j : Int) := by rw [w64 (by omega) (by omega)]; omega
      have x2 : decide ((0 : Int) ≤ (j : Int) ∧ (j : Int) < (((levels n f c u).length : Nat) : Int)) = true := by simp; omega
      have x3 : decide (0 + (j : Int).toNat < (levels n f c u).length) = true := by simp; omega
      have x4 : (levels n f c u).getD (0 + (j : Int).toNat) 0 = (levels n f c u).getD j 0 := by simp
      simp only [Bool.not_true, cond_false, x0, x1, x2, x3, x4, cond_true]
      have := kids58 (F := 20000) (n := n) (c := c) (u := u) (K := K) (node := node) (t := t) (below := (levels n f c u).getD j 0) hrt.2.1 (by omega) hm (by omega) f.toNat 0 20000 (by have := hrt.2.1; omega) (by have := hrt.2.1; omega)
      simpa [kids] using this
end
section
variable [FZ]
theorem kids_mem0 {f s a q x : Int} : ∀ k : Nat, x ∈ kids f s a q k ↔ ∃ i : Nat, i < k ∧ q * f + i < a ∧ x = s + (q * f + i)
  | 0 => by simp [kids]
  | k + 1 => by
    simp only [kids, List.mem_append, kids_mem0 k]
    constructor
    · rintro (⟨i, h1, h2, h3⟩ | h)
      · exact ⟨i, by omega, h2, h3⟩
      · split at h
        · simp at h
          exact ⟨k, by omega, by assumption, h⟩
        · simp at h
    · rintro ⟨i, h1, h2, h3⟩
      by_cases hi : i = k
      · subst hi
        exact Or.inr (by rw [if_pos h2]; simp [h3])
      · exact Or.inl ⟨i, by omega, h2, h3⟩
theorem kids_mem {f s a q x : Int} (hf : 2 ≤ f ∧ f ≤ 4) (hq : 0 ≤ q) : x ∈ kids f s a q f.toNat ↔ s ≤ x ∧ x < s + a ∧ (x - s) / f = q := by
  rw [kids_mem0]
  have : f = 2 ∨ f = 3 ∨ f = 4 := by omega
  constructor
  · rintro ⟨i, h1, h2, h3⟩
    rcases this with rfl | rfl | rfl <;> simp at h1 <;> omega
  · rintro ⟨h1, h2, h3⟩
    refine ⟨((x - s) - q * f).toNat, ?_⟩
    rcases this with rfl | rfl | rfl <;> (simp only [Int.reduceToNat]; omega)
def pos (L : List Int) : Prop := ∀ y ∈ L, 1 ≤ y ∧ y ≤ 128
theorem pos_tl {a : Int} {r : List Int} (h : pos (a :: r)) : (1 ≤ a ∧ a ≤ 128) ∧ pos r := ⟨h a (by simp), fun y hy => h y (by simp [hy])⟩
theorem sum_nn {L : List Int} (h : pos L) : 0 ≤ sumI L := by have := (sumI_ok L h).1; omega
theorem par_lt {f x : Int} : ∀ (L : List Int) (s : Int), pos L → x < s → par f x s L = -1
  | [], s, h, hx => rfl
  | [a], s, h, hx => rfl
  | a :: b :: r, s, h, hx => by
    have ha := (pos_tl h).1
    simp only [par]
    rw [if_neg (by omega)]
    exact par_lt (b :: r) _ (pos_tl h).2 (by omega)
theorem div_up {f a b y : Int} (hf : 2 ≤ f ∧ f ≤ 4) (hb : b = (a + f - 1) / f) (hy : 0 ≤ y ∧ y < a) : 0 ≤ y / f ∧ y / f < b := by
  have : f = 2 ∨ f = 3 ∨ f = 4 := by omega
  rcases this with rfl | rfl | rfl <;> omega
theorem par_bd {f x : Int} (hf : 2 ≤ f ∧ f ≤ 4) : ∀ (r : List Int) (a s : Int), pos (a :: r) → chain f (a :: r) → par f x s (a :: r) = -1 ∨ (s ≤ x ∧ x < par f x s (a :: r) ∧ s + a ≤ par f x s (a :: r) ∧ par f x s (a :: r) < s + sumI (a :: r))
  | [], a, s, h, hc => Or.inl rfl
  | b :: r, a, s, h, hc => by
    have ha := (pos_tl h).1
    have hb := (pos_tl (pos_tl h).2).1
    have hs := sum_nn (pos_tl (pos_tl h).2).2
    obtain ⟨h1, h2, h3⟩ := hc
    simp only [par]
    split
    · rename_i hx
      have := div_up (y := x - s) hf h2 (by omega)
      simp only [sumI]
      exact Or.inr (by omega)
    · rcases par_bd (x := x) hf r b (s + a) (pos_tl h).2 h3 with h4 | h4
      · exact Or.inl h4
      · refine Or.inr ?_
        simp only [sumI] at h4 ⊢
        omega
theorem mem_chl {f x k : Int} (hf : 2 ≤ f ∧ f ≤ 4) : ∀ (r : List Int) (a s : Int), pos (a :: r) → chain f (a :: r) → 0 ≤ s → 0 ≤ k → (x ∈ chl f k s (a :: r) ↔ par f x s (a :: r) = k)
  | [], a, s, h, hc, hs, hk => by simp [chl, par]; omega
  | b :: r, a, s, h, hc, hs, hk => by
    have ha := (pos_tl h).1
    have hb := (pos_tl (pos_tl h).2).1
    obtain ⟨h1, h2, h3⟩ := hc
    have hbd := par_bd (x := x) hf r b (s + a) (pos_tl h).2 h3
    have ih := mem_chl (x := x) (k := k) hf r b (s + a) (pos_tl h).2 h3 (by omega) hk
    simp only [par, chl]
    by_cases hq : s + a ≤ k ∧ k < s + a + b
    · rw [if_pos hq, kids_mem hf (by omega)]
      by_cases hx : s ≤ x ∧ x < s + a
      · rw [if_pos hx]; omega
      · rw [if_neg hx]; omega
    · rw [if_neg hq, ih]
      by_cases hx : s ≤ x ∧ x < s + a
      · rw [if_pos hx]
        have := div_up (y := x - s) hf h2 (by omega)
        have h0 := par_lt (f := f) (x := x) (b :: r) (s + a) (pos_tl h).2 (by omega)
        rw [h0]; omega
      · rw [if_neg hx]
theorem lvl_lt {x : Int} : ∀ (L : List Int) (s : Int) (i : Nat), pos L → x < s → lvl x s i L = none
  | [], _, _, _, _ => rfl
  | a :: r, s, i, h, hx => by
    have ha := (pos_tl h).1
    simp only [lvl]
    rw [if_neg (by omega)]
    exact lvl_lt r _ _ (pos_tl h).2 (by omega)
theorem chl_lvl {f x : Int} (L : List Int) : ∀ (r : List Int) (a s : Int) (i : Nat), L.drop i = a :: r →
    chl f x s (a :: r) = match lvl x (s + a) (i + 1) r with | some (j, t) => kids f (t - L.getD (j - 1) 0) (L.getD (j - 1) 0) (x - t) f.toNat | none => []
  | [], a, s, i, h => rfl
  | b :: r, a, s, i, h => by
    obtain ⟨h1, h2, h3⟩ := at_drop h
    have h4 : L.getD i 0 = a := by simpa using h2
    simp only [chl, lvl]
    by_cases hq : s + a ≤ x ∧ x < s + a + b
    · rw [if_pos hq, if_pos hq]
      simp only [Nat.add_sub_cancel, h4]
      rw [show s + a - a = s by omega]
    · rw [if_neg hq, if_neg hq]
      exact chl_lvl L r b (s + a) (i + 1) h3
theorem chs_chl {f x : Int} : ∀ L : List Int, pos L → chs f x L = chl f x 0 L
  | [], h => rfl
  | a :: r, h => by
    rw [chl_lvl (a :: r) r a 0 0 rfl]
    unfold chs
    simp only [lvl]
    by_cases hq : (0 : Int) ≤ x ∧ x < 0 + a
    · rw [if_pos hq, lvl_lt r _ _ (pos_tl h).2 (by omega)]
    · rw [if_neg hq]
      cases e : lvl x (0 + a) (0 + 1) r with
      | none => rfl
      | some v =>
        obtain ⟨j, t⟩ := v
        obtain ⟨p, a', q, e1, e2, e3, e4, e5⟩ := lvl_spec _ _ _ _ _ e
        cases j with
        | zero => omega
        | succ j => simp
theorem chs59l {β : Type} {x n f c u : Int} {K : List Int → Option β} (hf : 2 ≤ f ∧ f ≤ 4) {L : List Int} (hL : pos L) (hl : L.length ≤ 128) : ∀ (r : List Int) (i k : Nat) (s : Int), L.drop i = r → i ≤ L.length → r.length < k → 0 ≤ s → s ≤ 128 * i →
    f165_1_l4 20000 x n f c u L K (K []) k s (i : Int) = K (chl f x s r)
  | [], i, k, s, hd, hi, hk, h0, h1 => by
    cases k with
    | zero => omega
    | succ k =>
      have : i = L.length := by
        have := congrArg List.length hd
        simp at this; omega
      subst this
      simp only [f165_1_l4]
      rw [w64 (by omega) (by omega), cf (by omega)]
      rfl
  | [a], i, k, s, hd, hi, hk, h0, h1 => by
    cases k with
    | zero => omega
    | succ k =>
      have : i + 1 = L.length := by
        have := congrArg List.length hd
        simp at this; omega
      simp only [f165_1_l4]
      rw [w64 (by omega) (by omega), cf (by omega)]
      rfl
  | a :: b :: r, i, k, s, hd, hi, hk, h0, h1 => by
    cases k with
    | zero => omega
    | succ k =>
      obtain ⟨d1, d2, d3⟩ := at_drop hd
      obtain ⟨d4, d5, d6⟩ := at_drop d3
      have ha : 1 ≤ a ∧ a ≤ 128 := hL a (by
        have : a ∈ L.drop i := by rw [hd]; simp
        exact List.mem_of_mem_drop this)
      have hb : 1 ≤ b ∧ b ≤ 128 := hL b (by
        have : b ∈ L.drop (i + 1) := by rw [d3]; simp
        exact List.mem_of_mem_drop this)
      have e1 : IntKind.i64.wrap ((i : Int) + 1) = ((i + 1 : Nat) : Int) := by rw [w64 (by omega) (by omega)]; omega
      have ih := chs59l (x := x) (n := n) (c := c) (u := u) (K := K) hf hL hl (b :: r) (i + 1) k (s + a) d3 (by omega) (by simpa using hk) (by omega) (by omega)
      simp only [f165_1_l4]
      rw [e1, ct (by omega), ct (by omega), ct (by omega), d2, w64 (x := s + a) (by omega) (by omega)]
      simp only [chl]
      by_cases hq : x ≥ s + a
      · rw [ct hq, ct (by omega), ct (by omega), d5, w64 (x := s + a + b) (by omega) (by omega)]
        by_cases hq2 : x < s + a + b
        · rw [ct hq2, if_pos (by omega)]
          have := kids59 (F := 20000) (n := n) (c := c) (u := u) (K := K) (node := x) (s := s) (above := s + a) (a := a) (l := L) (j := i) hf (by omega) d1 d2 ha rfl (by omega) f.toNat 0 20000 (by omega) (by omega)
          simpa [kids] using this
        · rw [cf hq2, if_neg (by omega)]
          exact ih
      · rw [cf hq, if_neg (by omega)]
        exact ih
theorem lev_pos (n f c u : Int) : pos (levels n f c u) := (levels_ok n f c u).2
theorem levels_not {n f c u : Int} (h : ¬ rt n f c u) : levels n f c u = [] := by simp [levels, h]
theorem levels_cons {n f c u : Int} (h : rt n f c u) : ∃ r, levels n f c u = n :: r := ⟨_, by simp [levels, h]; rfl⟩
theorem lev_chain {n f c u : Int} : rt n f c u → chain f (levels n f c u) := fun h => by
  simp only [levels, h, if_true]
  have h1 := h.1
  exact chain_lv h.2.1 20000 n h1.1 h1.2 (by omega)
theorem nil59 {β : Type} {x n f c u : Int} {K : List Int → Option β} : ∀ k : Nat, 0 < k → f165_1_l4 20000 x n f c u [] K (K []) k 0 0 = K []
  | 0, h => by omega
  | k + 1, _ => by
    simp only [f165_1_l4]
    rw [w64 (by omega) (by omega), cf (by simp)]
theorem chs59 {β : Type} {n f c u x : Int} {K : List Int → Option β} : f165_1 20000 n f c u x K = K (chs f x (levels n f c u)) := by
  rw [chs_chl _ (lev_pos n f c u)]
  simp only [f165_1, levels49]
  by_cases h : rt n f c u
  · have := chs59l (x := x) (n := n) (c := c) (u := u) (K := K) h.2.1 (lev_pos n f c u) (levels_ok n f c u).1 _ 0 20000 0 rfl (by omega) (by have := (levels_ok n f c u).1; simp; omega) (by omega) (by omega)
    simpa using this
  · rw [levels_not h]
    exact nil59 20000 (by omega)
def prn (n f c u x : Int) : Int := par f x 0 (levels n f c u)
theorem par_lvl {f x : Int} (hf : 2 ≤ f ∧ f ≤ 4) : ∀ (r : List Int) (a s : Int) (i : Nat), pos (a :: r) → chain f (a :: r) →
    par f x s (a :: r) = match lvl x s i (a :: r) with | some (j, t) => if x = s + sumI (a :: r) - 1 then -1 else t + (a :: r).getD (j - i) 0 + (x - t) / f | none => -1
  | [], a, s, i, h, hc => by
    have hc : a = 1 := hc
    subst hc
    have e1 : sumI [1] = 1 := rfl
    simp only [par, lvl]
    by_cases hx : s ≤ x ∧ x < s + 1
    · rw [if_pos hx]
      simp only
      rw [if_pos (by omega)]
    · rw [if_neg hx]
  | b :: r, a, s, i, h, hc => by
    have ha := (pos_tl h).1
    have hb := (pos_tl (pos_tl h).2).1
    have hs := sum_nn (pos_tl (pos_tl h).2).2
    obtain ⟨h1, h2, h3⟩ := hc
    rw [par, lvl]
    by_cases hx : s ≤ x ∧ x < s + a
    · have e1 : sumI (a :: b :: r) = a + (b + sumI r) := rfl
      rw [if_pos hx, if_pos hx]
      simp only
      rw [if_neg (by omega)]
      simp
    · rw [if_neg hx, if_neg hx, par_lvl hf r b (s + a) (i + 1) (pos_tl h).2 h3]
      cases e : lvl x (s + a) (i + 1) (b :: r) with
      | none => rfl
      | some v =>
        obtain ⟨j, t⟩ := v
        obtain ⟨p, a', q, e1, e2, e3, e4, e5⟩ := lvl_spec _ _ _ _ _ e
        simp only
        have g1 : s + sumI (a :: b :: r) - 1 = s + a + sumI (b :: r) - 1 := by simp only [sumI]; omega
        have g2 : (a :: b :: r).getD (j - i) 0 = (b :: r).getD (j - (i + 1)) 0 := by
          rw [show j - i = (j - (i + 1)) + 1 by omega]
          simp
        rw [g1, g2]
theorem chs_len (f x : Int) (L : List Int) : (chs f x L).length ≤ f.toNat := by
  unfold chs
  split
  · exact kids_len _ _ _ _ _
  · simp
theorem chs_mem {n f c u x k : Int} (h : rt n f c u) (hk : 0 ≤ k) : x ∈ chs f k (levels n f c u) ↔ prn n f c u x = k := by
  obtain ⟨r, hr⟩ := levels_cons h
  have hc := lev_chain h
  have hp := lev_pos n f c u
  rw [chs_chl _ hp, prn]
  rw [hr] at hc hp ⊢
  exact mem_chl h.2.1 r n 0 hp hc (by omega) hk
theorem prn_bd {n f c u x : Int} (h : rt n f c u) : prn n f c u x = -1 ∨ (0 ≤ x ∧ x < prn n f c u x ∧ n ≤ prn n f c u x ∧ prn n f c u x < nodes n f c u) := by
  obtain ⟨r, hr⟩ := levels_cons h
  have hc := lev_chain h
  have hp := lev_pos n f c u
  unfold nodes prn
  rw [hr] at hc hp ⊢
  have := par_bd (x := x) h.2.1 r n 0 hp hc
  omega
def root (n f c u : Int) : Int := if rt n f c u then nodes n f c u - 1 else 0
theorem root54 {β : Type} {n f c u : Int} {K : Int → Option β} : f106_1 20000 n f c u K = K (root n f c u) := by
  obtain ⟨n0, n1, n2, n3⟩ := nodes_ok n f c u
  simp only [f106_1, nodes50, root]
  rw [w64 (by omega) (by omega)]
  by_cases h : rt n f c u
  · have := n2 h
    rw [if_pos h]; congr 1; split <;> omega
  · rw [if_neg h, n3 h]; rfl
theorem root55 {β : Type} {n f c u : Int} {K : Int → Option β} : f170_1 20000 n f c u K = K (root n f c u) := by
  obtain ⟨n0, n1, n2, n3⟩ := nodes_ok n f c u
  simp only [f170_1, nodes51, root]
  rw [w64 (by omega) (by omega)]
  by_cases h : rt n f c u
  · have := n2 h
    rw [if_pos h]; congr 1; split <;> omega
  · rw [if_neg h, n3 h]; rfl
end
section
variable [FZ]
def c2 (n : Int) : List Int := [IntKind.u8.wrap (ishr .u64 n 8), IntKind.u8.wrap (ishr .u64 n 0)]
theorem putc2 {β : Type} {n : Int} {K : List Int → Option β} : f147_1 20000 2 n [] K = K (c2 n) := by kernel_rfl
theorem textc2 {β : Type} {n : Int} {K : ByteArray → Option β} : f101_1 20000 2 n K = K (ofInts (c2 n)) := by kernel_rfl
theorem c2_size (n : Int) : (ofInts (c2 n)).size = 2 := by rw [oi_size]; rfl
theorem app_e (s : ByteArray) : s ++ ByteArray.empty = s := extB (by rw [D_app]; simp [D])
def nod (n f c u x : Int) : Int := if 0 ≤ x ∧ x < nodes n f c u then 6 + n + x else -1
theorem nodP {β : Type} {n f c u x : Int} {K : Int → Option β} : f155_1 20000 n f c u x K = K (nod n f c u x) := by
  have hno := nodes_ok n f c u
  rw [f155_1, right46, nod]
  by_cases h : rt n f c u
  · have hn := h.1
    rw [decide_eq_true h, Bool.not_true, cond_false, root54, root, if_pos h, within87]
    by_cases h1 : 0 ≤ x ∧ x < nodes n f c u
    · rw [decide_eq_true (show x ≥ 0 ∧ x ≤ nodes n f c u - 1 by omega), Bool.not_true, cond_false, if_pos h1, w64 (x := 6 + n) (by omega) (by omega), w64 (by omega) (by omega)]
    · rw [decide_eq_false (show ¬ (x ≥ 0 ∧ x ≤ nodes n f c u - 1) by omega), Bool.not_false, cond_true, if_neg h1]
  · have := hno.2.2.2 h
    rw [decide_eq_false h, Bool.not_false, cond_true, if_neg (by omega)]
theorem nodR {β : Type} {n f c u x : Int} {K : Int → Option β} : f167_1 20000 n f c u x K = K (nod n f c u x) := by
  have hno := nodes_ok n f c u
  rw [f167_1, nod]
  by_cases h0 : x < 0
  · rw [ct h0, if_neg (by omega)]
  · rw [cf h0, nodes51]
    by_cases h1 : x ≥ nodes n f c u
    · rw [ct h1, if_neg (by omega)]
    · have h : rt n f c u := Classical.byContradiction fun h => by have := hno.2.2.2 h; omega
      have hn := h.1
      rw [cf h1, if_pos (by omega), w64 (x := 6 + n) (by omega) (by omega), w64 (by omega) (by omega)]
def bdy (x : Int) (s : ByteArray) : ByteArray := ofInts (c2 (IntKind.u64.wrap x)) ++ s
theorem bdy_size (x : Int) (s : ByteArray) : (bdy x s).size = 2 + s.size := by rw [bdy, app_size, c2_size]
theorem bodyN {β : Type} {F : Nat} {x : Int} {s : ByteArray} (hs : s.size ≤ 1000) {K : ByteArray → Option β} : f157_1 20000 x s K = K (bdy x s) := by
  rw [f157_1, putc2, ct (by rw [c2_size]; omega)]; rfl
def gtN (n f c u x : Int) (b : Bool) (l : List ByteArray) (w : WL) : ByteArray × Int :=
  if nod n f c u x < 0 then (ByteArray.empty, 3) else
  if (rd (nod n f c u x) b l w).2 ≠ 0 then (ByteArray.empty, (rd (nod n f c u x) b l w).2) else
  if (opn 6 (rd (nod n f c u x) b l w).1).2 ≠ 0 then (ByteArray.empty, (opn 6 (rd (nod n f c u x) b l w).1).2) else
  if (opn 6 (rd (nod n f c u x) b l w).1).1.size ≠ 34 then (ByteArray.empty, 6) else
  if (opn 6 (rd (nod n f c u x) b l w).1).1.extract 0 2 ≠ ofInts (c2 (IntKind.u64.wrap x)) then (ByteArray.empty, 6) else
  ((opn 6 (rd (nod n f c u x) b l w).1).1.extract 2 34, 0)
theorem gtP {β : Type} {m q : Nat} {n f c u x a d : Int} {b : Bool} {l : List ByteArray} {w : WL} (h : DS m q a d l w) {K : ByteArray → Int → Option β} :
    f103_1 20000 n f c u x a b d l w K = K (gtN n f c u x b l w).1 (gtN n f c u x b l w).2 := by
  rw [f103_1, nodP, gtN]
  by_cases h0 : nod n f c u x < 0
  · rw [ct h0, if_pos h0]
  · rw [cf h0, if_neg h0, readP (by omega) h]
    by_cases h1 : (rd (nod n f c u x) b l w).2 = 0
    · rw [bnf h1, cond_false, if_neg (by omega), openP]
      by_cases h2 : (opn 6 (rd (nod n f c u x) b l w).1).2 = 0
      · rw [bnf h2, cond_false, if_neg (by omega)]
        by_cases h3 : (opn 6 (rd (nod n f c u x) b l w).1).1.size = 34
        · have hb := bodyN (F := 0) (x := x) (s := ByteArray.empty) (by decide) (K := fun x6 => cond (!(((opn 6 (rd (nod n f c u x) b l w).1).1.extract 0 2).toList == x6.toList)) (K ByteArray.empty 6) (cond (decide ((0 : Int) ≤ (2 : Int) ∧ (2 : Int) ≤ ((opn 6 (rd (nod n f c u x) b l w).1).1.size : Int) ∧ ((opn 6 (rd (nod n f c u x) b l w).1).1.size : Int) ≤ ((opn 6 (rd (nod n f c u x) b l w).1).1.size : Int))) (K ((opn 6 (rd (nod n f c u x) b l w).1).1.extract 2 (((opn 6 (rd (nod n f c u x) b l w).1).1.size : Int).toNat)) 0) none))
          rw [bnf (by omega), cond_false, ct (by omega), hb, bdy, app_e, beqB, ct (by omega), Int.toNat_natCast, h3, if_neg (by omega)]
          by_cases h4 : (opn 6 (rd (nod n f c u x) b l w).1).1.extract 0 2 = ofInts (c2 (IntKind.u64.wrap x))
          · rw [decide_eq_true h4, Bool.not_true, cond_false, if_neg (fun hh => hh h4)]
          · rw [decide_eq_false h4, Bool.not_false, cond_true, if_pos h4]
        · rw [bnt (by omega), cond_true, if_pos h3]
      · rw [bnt h2, cond_true, if_pos h2]
    · rw [bnt h1, cond_true, if_pos h1]
theorem gtR {β : Type} {m q : Nat} {n f c u x a d : Int} {b : Bool} {l : List ByteArray} {w : WL} (h : DS m q a d l w) {K : ByteArray → Int → Option β} :
    f114_1 20000 n f c u x a b d l w K = K (gtN n f c u x b l w).1 (gtN n f c u x b l w).2 := by
  rw [f114_1, nodR, gtN]
  by_cases h0 : nod n f c u x < 0
  · rw [ct h0, if_pos h0]
  · rw [cf h0, if_neg h0, readR (by omega) h]
    by_cases h1 : (rd (nod n f c u x) b l w).2 = 0
    · rw [bnf h1, cond_false, if_neg (by omega), openR]
      by_cases h2 : (opn 6 (rd (nod n f c u x) b l w).1).2 = 0
      · rw [bnf h2, cond_false, if_neg (by omega)]
        by_cases h3 : (opn 6 (rd (nod n f c u x) b l w).1).1.size = 34
        · rw [bnf (by omega), cond_false, ct (by omega), textc2, beqB, ct (by omega), Int.toNat_natCast, h3, if_neg (by omega)]
          by_cases h4 : (opn 6 (rd (nod n f c u x) b l w).1).1.extract 0 2 = ofInts (c2 (IntKind.u64.wrap x))
          · rw [decide_eq_true h4, Bool.not_true, cond_false, if_neg (fun hh => hh h4)]
          · rw [decide_eq_false h4, Bool.not_false, cond_true, if_pos h4]
        · rw [bnt (by omega), cond_true, if_pos h3]
      · rw [bnt h2, cond_true, if_pos h2]
    · rw [bnt h1, cond_true, if_pos h1]
abbrev St5 := Int × Int × Bool × Int × WL
def app5 {β : Type} (K : Int → Int → Bool → Int → WL → Option β) (s : St5) : Option β := K s.1 s.2.1 s.2.2.1 s.2.2.2.1 s.2.2.2.2
def ptS (n f c u x : Int) (s : ByteArray) (a : Int) (b : Bool) (d : Int) (l : List ByteArray) (w : WL) : St5 :=
  if nod n f c u x < 0 then (3, a, b, d, w) else if s.size ≠ 32 then (4, a, b, d, w) else wS (nod n f c u x) (mkB 6 (bdy x s)) a b d l w
theorem ptP {β : Type} {m q : Nat} {n f c u x a d : Int} {s : ByteArray} {b : Bool} {l : List ByteArray} {w : WL} (h : DS m q a d l w) {K : Int → Int → Bool → Int → WL → Option β} :
    f109_1 20000 n f c u x s a b d l w K = app5 K (ptS n f c u x s a b d l w) := by
  rw [f109_1, nodP, ptS]
  by_cases h0 : nod n f c u x < 0
  · rw [ct h0, if_pos h0]; rfl
  · rw [cf h0, if_neg h0, f163_1]
    by_cases h1 : s.size = 32
    · have hk : mkR 6 (bdy x s) = (mkB 6 (bdy x s), 0) := by rw [mkR, if_neg (by omega), if_neg (by rw [bdy_size]; omega)]
      rw [show ((s.size : Int) == 32) = true by simp [h1], Bool.not_true, cond_false, if_neg (fun hh => hh h1), bodyN (F := 0) (by omega), makeP (by rw [bdy_size]; have := big60; omega), hk]
      show cond ((0 : Int) != 0) _ (f24_1 20000 _ _ _ _ _ _ _ _) = _
      rw [bnf rfl, cond_false, writeP h]; rfl
    · rw [show ((s.size : Int) == 32) = false by simp; omega, Bool.not_false, cond_true, if_pos h1]; rfl
theorem ptR {β : Type} {m q : Nat} {n f c u x a d : Int} {s : ByteArray} {b : Bool} {l : List ByteArray} {w : WL} (h : DS m q a d l w) {K : Int → Int → Bool → Int → WL → Option β} :
    f115_1 20000 n f c u x s a b d l w K = app5 K (ptS n f c u x s a b d l w) := by
  rw [f115_1, nodR, ptS]
  by_cases h0 : nod n f c u x < 0
  · rw [ct h0, if_pos h0]; rfl
  · rw [cf h0, if_neg h0, f169_1]
    by_cases h1 : s.size = 32
    · have hk : mkR 6 (ofInts (c2 (IntKind.u64.wrap x)) ++ s) = (mkB 6 (bdy x s), 0) := by rw [mkR, if_neg (by omega), if_neg (by rw [app_size, c2_size]; omega)]; rfl
      rw [show ((s.size : Int) == 32) = true by simp [h1], Bool.not_true, cond_false, if_neg (fun hh => hh h1), textc2, ct (by rw [c2_size]; omega), makeR (by rw [app_size, c2_size]; have := big60; omega), hk]
      show f74_1 20000 _ _ _ _ _ _ _ _ = _
      rw [writeR h]; rfl
    · rw [show ((s.size : Int) == 32) = false by simp; omega, Bool.not_false, cond_true, if_pos h1]; rfl
theorem ptS_ok {m k : Nat} {n f c u x a d : Int} {s : ByteArray} {b : Bool} {l : List ByteArray} {w : WL} (h : DS m k a d l w) (hk : k < 6000) :
    DS m (k + 1) (ptS n f c u x s a b d l w).2.1 (ptS n f c u x s a b d l w).2.2.2.1 l (ptS n f c u x s a b d l w).2.2.2.2 := by
  rw [ptS]
  split
  · exact h.more hk
  · split
    · exact h.more hk
    · exact wS_ok h hk
def allN (n f c u : Int) (b : Bool) (l : List ByteArray) (w : WL) : Nat → Nat → List ByteArray → Int × List ByteArray
  | 0, _, acc => (0, acc)
  | m + 1, k, acc => if (gtN n f c u (k : Int) b l w).2 ≠ 0 then ((gtN n f c u (k : Int) b l w).2, []) else allN n f c u b l w m (k + 1) (acc ++ [(gtN n f c u (k : Int) b l w).1])
theorem allPl {β : Type} {q p : Nat} {n f c u a d N : Int} {b : Bool} {l : List ByteArray} {w : WL} (h : DS q p a d l w) (hN : N ≤ 400) {K : Int → List ByteArray → Option β} : ∀ (m k fu : Nat) (acc : List ByteArray), (m : Int) + k = N → m < fu → acc.length = k →
    f43_1_l5 20000 N a b d l w n f c u (fun x17 x18 => K x17 []) (fun x19 => K 0 x19) fu (k : Int) acc = K (allN n f c u b l w m k acc).1 (allN n f c u b l w m k acc).2
  | _, _, 0, _, _, hf, _ => by omega
  | 0, k, fu + 1, acc, hm, _, _ => by rw [f43_1_l5, cf (by omega)]; rfl
  | m + 1, k, fu + 1, acc, hm, hf, ha => by
    rw [f43_1_l5, ct (by omega), gtP h, allN]
    by_cases h1 : (gtN n f c u (k : Int) b l w).2 = 0
    · rw [bnf h1, cond_false, if_neg (fun hh => hh h1), ct (by omega), w64 (by omega) (by omega)]
      exact allPl h hN m (k + 1) fu _ (by omega) (by omega) (by simp [ha])
    · rw [bnt h1, cond_true, if_pos h1]
theorem allRl {β : Type} {q p : Nat} {n f c u a d N : Int} {b : Bool} {l : List ByteArray} {w : WL} (h : DS q p a d l w) (hN : N ≤ 400) {K : Int → List ByteArray → Option β} : ∀ (m k fu : Nat) (acc : List ByteArray), (m : Int) + k = N → m < fu → acc.length = k →
    f116_1_l6 20000 N a b d l w n f c u (fun x17 x18 => K x17 []) (fun x19 => K 0 x19) fu (k : Int) acc = K (allN n f c u b l w m k acc).1 (allN n f c u b l w m k acc).2
  | _, _, 0, _, _, hf, _ => by omega
  | 0, k, fu + 1, acc, hm, _, _ => by rw [f116_1_l6, cf (by omega)]; rfl
  | m + 1, k, fu + 1, acc, hm, hf, ha => by
    rw [f116_1_l6, ct (by omega), gtR h, allN]
    by_cases h1 : (gtN n f c u (k : Int) b l w).2 = 0
    · rw [bnf h1, cond_false, if_neg (fun hh => hh h1), ct (by omega), w64 (by omega) (by omega)]
      exact allRl h hN m (k + 1) fu _ (by omega) (by omega) (by simp [ha])
    · rw [bnt h1, cond_true, if_pos h1]
def alN (n f c u : Int) (b : Bool) (l : List ByteArray) (w : WL) : Int × List ByteArray := if rt n f c u then allN n f c u b l w (nodes n f c u).toNat 0 [] else (12, [])
theorem alP {β : Type} {q p : Nat} {n f c u a d : Int} {b : Bool} {l : List ByteArray} {w : WL} (h : DS q p a d l w) (hn : rt n f c u → nodes n f c u ≤ 400) {K : Int → List ByteArray → Option β} :
    f43_1 20000 n f c u a b d l w K = K (alN n f c u b l w).1 (alN n f c u b l w).2 := by
  have hno := nodes_ok n f c u
  rw [f43_1, right46, alN]
  by_cases h0 : rt n f c u
  · rw [decide_eq_true h0, Bool.not_true, cond_false, nodes50, if_pos h0]
    exact allPl h (hn h0) _ 0 20000 [] (by omega) (by have := hn h0; omega) rfl
  · rw [decide_eq_false h0, Bool.not_false, cond_true, if_neg h0]
theorem alR {β : Type} {q p : Nat} {n f c u a d : Int} {b : Bool} {l : List ByteArray} {w : WL} (h : DS q p a d l w) (hn : rt n f c u → nodes n f c u ≤ 400) {K : Int → List ByteArray → Option β} :
    f116_1 20000 n f c u a b d l w K = K (alN n f c u b l w).1 (alN n f c u b l w).2 := by
  have hno := nodes_ok n f c u
  rw [f116_1, right47, alN]
  by_cases h0 : rt n f c u
  · rw [decide_eq_true h0, Bool.not_true, cond_false, nodes51, if_pos h0]
    exact allRl h (hn h0) _ 0 20000 [] (by omega) (by have := hn h0; omega) rfl
  · rw [decide_eq_false h0, Bool.not_false, cond_true, if_neg h0]
end
section
variable [FZ]
theorem n_le {n f c u : Int} (h : rt n f c u) : n ≤ nodes n f c u := by
  obtain ⟨r, hr⟩ := levels_cons h
  have hp := lev_pos n f c u
  unfold nodes
  rw [hr] at hp ⊢
  have := sum_nn (pos_tl hp).2
  simp only [sumI]; omega
theorem sum_up {f : Int} (hf : 2 ≤ f ∧ f ≤ 4) : ∀ (r : List Int) (a : Int), pos (a :: r) → chain f (a :: r) → sumI (a :: r) ≤ 3 * a - 2
  | [], a, h, hc => by
    have hc : a = 1 := hc
    subst hc
    decide
  | b :: r, a, h, hc => by
    obtain ⟨g1, g2, g3⟩ := hc
    have e1 : sumI (a :: b :: r) = a + sumI (b :: r) := rfl
    have ih := sum_up hf r b (pos_tl h).2 g3
    have : f = 2 ∨ f = 3 ∨ f = 4 := by omega
    rcases this with rfl | rfl | rfl <;> omega
theorem nodes_up {n f c u : Int} (h : rt n f c u) : nodes n f c u ≤ 384 := by
  obtain ⟨r, hr⟩ := levels_cons h
  have hc := lev_chain h
  have hp := lev_pos n f c u
  have h1 := h.1
  unfold nodes
  rw [hr] at hc hp ⊢
  have := sum_up h.2.1 r n hp hc
  omega
end
end Go.Proofs.YtlgopekjjkdkiaaGreatDoor.X
end