/- Merged: EvF14v269, EvF24v1385, EvF29v6206, EvF32v7155, EvF33v568, EvF14v7171, EvF14v9465, EvF15v6206, EvF17, EvF78, EvF18, EvF18v568, EvF3, PureW, DiskN, DiskM, RecA, RecB, RecC, NumA, NumC, NumD. -/
import Derived.Test.YtlgopekjjkdkiaaGreatDoorMCowPlaysCard3
import Derived.Test.YtlgopekjjkdkiaaGreatDoorProg
import Derived.KernelRfl
import Derived.Test.YtlgopekjjkdkiaaGreatDoorMCowPlaysCard5
import Derived.Test.YtlgopekjjkdkiaaGreatDoorMCowPlaysCard4
section
namespace Go.Proofs.YtlgopekjjkdkiaaGreatDoor.X
open Go Go.Proofs.YtlgopekjjkdkiaaGreatDoor.Ev Go.Proofs
set_option linter.unusedVariables false
set_option linter.unusedSectionVars false
/-! pentimentolaw17.do -/
noncomputable def f14_269 [FZ] {β : Type} (F : Nat) (a1 : Int) (a2 : Int) (a3 : Int) (a4 : Int) (a5 : Int) (a6 : Int) (a7 : Int) (a8 : Int) (a9 : ByteArray) (a10 : Sl .bool) (a11 : Int) (a12 : Bool) (a13 : Int) (a14 : List ByteArray) (a15 : List (Int × ByteArray)) (K0 : Bool → Int → Bool → Int → List ByteArray → List (Int × ByteArray) → Option β) : Option β := cond ((a5.tmod 5) == 0) (f65_1 F a1 a2 a3 a4 a6 a7 a8 a11 a12 a13 a14 a15 (fun x1 x2 x3 x4 x5 x6 x7 x8 x9 => f70_9797 F a1 a2 a3 a4 a6 a7 a8 (fun x10 => cond (true && ((x1 == 0) && ((x2 == 0) && (x3.toList == ByteArray.empty.toList)))) (K0 (x4 == x10) x5 x6 x7 x8 x9) (K0 false x5 x6 x7 x8 x9)) ) ) (cond ((a5.tmod 5) == 1) (f66_1 F a1 a2 a3 a4 a7 a11 a12 a13 a14 a15 (fun x11 x12 => f71_3384 F a1 a2 a3 a4 a7 (fun x13 x14 => f67_1 F a8 x12 (fun x15 x16 => f72_1 F a8 x14 (fun x17 x18 => f73_1 F x12 x14 (fun x19 => cond x19 (cond (x11 == x13) (cond (x15.toList == x17.toList) (K0 (x16 == x18) a11 a12 a13 a14 a15) (K0 false a11 a12 a13 a14 a15)) (K0 false a11 a12 a13 a14 a15)) (K0 false a11 a12 a13 a14 a15)) ) ) ) ) ) (cond ((a5.tmod 5) == 2) ((fun z1 => amb z1 (amb (amb z1 z1) (amb z1 z1))) (f24_1 F a8 a9 a11 a12 a13 a14 a15 (fun x20 x21 x22 x23 x24 => f74_1385 F a8 a9 ) )) (cond ((a5.tmod 5) == 3) (f29_1 F a6 a11 a12 a13 a14 a15 (fun x45 => f75_6206 F a6 ) ) (f32_1 F a11 a12 a13 a14 a15 a10.dat (fun x46 x47 => f64_7155 F a10.dat ) ))))
variable [FZ]
def sh14_269 : Sh := ⟨[.lf (.ptr 0 0), .lf (.nilp), .agg [.int .i64, .int .i64, .int .i64, .int .i64], .agg [.int .i64, .int .i64, .int .u64, .int .i64, .str, .sl .bool]], [some ⟨some false, [.full 1, .full 2, .int .i64, .bool, .int .i64]⟩, some ⟨some false, [.seq .str 0]⟩, some ⟨some false, [.seq (.pair (.int .i64) .str) 0]⟩]⟩
abbrev Y14_269 := Int → Int → Int → Int → Int → Int → Int → Int → ByteArray → Sl .bool → Int → Bool → Int → List ByteArray → List (Int × ByteArray) → (Bool → Int → Bool → Int → List ByteArray → List (Int × ByteArray) → Option Res) → Option Res
noncomputable def A14_269 (g : Y14_269) (d : sh14_269.den) (K : KF) : Option Res := g d.1.2.2.1.1 d.1.2.2.1.2.1 d.1.2.2.1.2.2.1 d.1.2.2.1.2.2.2.1 d.1.2.2.2.1.1 d.1.2.2.2.1.2.1 d.1.2.2.2.1.2.2.1 d.1.2.2.2.1.2.2.2.1 d.1.2.2.2.1.2.2.2.2.1 d.1.2.2.2.1.2.2.2.2.2.1 d.2.1.2.2.2.1 d.2.1.2.2.2.2.1 d.2.1.2.2.2.2.2.1 d.2.2.1.2.1 d.2.2.2.1.2.1 (fun (y0 : Bool) (y1 : Int) (y2 : Bool) (y3 : Int) (y4 : List ByteArray) (y5 : List (Int × ByteArray)) => K [.lf (.bool y0)] [some ⟨false, [.full 1, .full 3, .int .i64 y1, .bool y2, .int .i64 y3]⟩, some ⟨false, [.seq .str 0 y4]⟩, none, some ⟨false, [.seq (.pair (.int .i64) .str) 0 y5]⟩])
noncomputable def S14_269 (F : Nat) (o : Summ) : Summ := mkS sh14_269 (fun d K => A14_269 (f14_269 F) d K) o
noncomputable def T14_269 (F : Nat) : FuncId → Option Summ := tab [(24, (S24_1 F noS)), (29, (S29_1 F noS)), (32, (S32_1 F noS)), (64, (S64_7155 F noS)), (65, (S65_1 F noS)), (66, (S66_1 F noS)), (67, (S67_1 F noS)), (70, (S70_9797 F noS)), (71, (S71_3384 F noS)), (72, (S72_1 F noS)), (73, (S73_1 F noS)), (74, (S74_1385 F noS)), (75, (S75_6206 F noS))]
noncomputable def TB14_269 (c24_1 : Y24_1) (c29_1 : Y29_1) (c32_1 : Y32_1) (c64_7155 : Y64_7155) (c65_1 : Y65_1) (c66_1 : Y66_1) (c67_1 : Y67_1) (c70_9797 : Y70_9797) (c71_3384 : Y71_3384) (c72_1 : Y72_1) (c73_1 : Y73_1) (c74_1385 : Y74_1385) (c75_6206 : Y75_6206) : FuncId → Option Summ := tab [(24, (mkS sh24_1 (fun d K => A24_1 c24_1 d K) noS)), (29, (mkS sh29_1 (fun d K => A29_1 c29_1 d K) noS)), (32, (mkS sh32_1 (fun d K => A32_1 c32_1 d K) noS)), (64, (mkS sh64_7155 (fun d K => A64_7155 c64_7155 d K) noS)), (65, (mkS sh65_1 (fun d K => A65_1 c65_1 d K) noS)), (66, (mkS sh66_1 (fun d K => A66_1 c66_1 d K) noS)), (67, (mkS sh67_1 (fun d K => A67_1 c67_1 d K) noS)), (70, (mkS sh70_9797 (fun d K => A70_9797 c70_9797 d K) noS)), (71, (mkS sh71_3384 (fun d K => A71_3384 c71_3384 d K) noS)), (72, (mkS sh72_1 (fun d K => A72_1 c72_1 d K) noS)), (73, (mkS sh73_1 (fun d K => A73_1 c73_1 d K) noS)), (74, (mkS sh74_1385 (fun d K => A74_1385 c74_1385 d K) noS)), (75, (mkS sh75_6206 (fun d K => A75_6206 c75_6206 d K) noS))]
noncomputable def LT14_269 (F : Nat) : Nat → Option LoopS := ltab []
theorem E14_269g (F : Nat) (c24_1 : Y24_1) (c29_1 : Y29_1) (c32_1 : Y32_1) (c64_7155 : Y64_7155) (c65_1 : Y65_1) (c66_1 : Y66_1) (c67_1 : Y67_1) (c70_9797 : Y70_9797) (c71_3384 : Y71_3384) (c72_1 : Y72_1) (c73_1 : Y73_1) (c74_1385 : Y74_1385) (c75_6206 : Y75_6206)   (d : sh14_269.den) (K : KF) : evBody Tryz.prog (TB14_269 c24_1 c29_1 c32_1 c64_7155 c65_1 c66_1 c67_1 c70_9797 c71_3384 c72_1 c73_1 c74_1385 c75_6206) (xw [16]) 146 3 (ltab []) [2] code14 Tryz.f14.results.toList (encT sh14_269.vs d.1) (encH sh14_269.h d.2) K = A14_269 (fun (a1 : Int) (a2 : Int) (a3 : Int) (a4 : Int) (a5 : Int) (a6 : Int) (a7 : Int) (a8 : Int) (a9 : ByteArray) (a10 : Sl .bool) (a11 : Int) (a12 : Bool) (a13 : Int) (a14 : List ByteArray) (a15 : List (Int × ByteArray)) (K0 : (Bool → Int → Bool → Int → List ByteArray → List (Int × ByteArray) → Option Res)) => cond ((a5.tmod 5) == 0) (c65_1 a1 a2 a3 a4 a6 a7 a8 a11 a12 a13 a14 a15 (fun x1 x2 x3 x4 x5 x6 x7 x8 x9 => c70_9797 a1 a2 a3 a4 a6 a7 a8 (fun x10 => cond (true && ((x1 == 0) && ((x2 == 0) && (x3.toList == ByteArray.empty.toList)))) (K0 (x4 == x10) x5 x6 x7 x8 x9) (K0 false x5 x6 x7 x8 x9)) ) ) (cond ((a5.tmod 5) == 1) (c66_1 a1 a2 a3 a4 a7 a11 a12 a13 a14 a15 (fun x11 x12 => c71_3384 a1 a2 a3 a4 a7 (fun x13 x14 => c67_1 a8 x12 (fun x15 x16 => c72_1 a8 x14 (fun x17 x18 => c73_1 x12 x14 (fun x19 => cond x19 (cond (x11 == x13) (cond (x15.toList == x17.toList) (K0 (x16 == x18) a11 a12 a13 a14 a15) (K0 false a11 a12 a13 a14 a15)) (K0 false a11 a12 a13 a14 a15)) (K0 false a11 a12 a13 a14 a15)) ) ) ) ) ) (cond ((a5.tmod 5) == 2) ((fun z1 => amb z1 (amb (amb z1 z1) (amb z1 z1))) (c24_1 a8 a9 a11 a12 a13 a14 a15 (fun x20 x21 x22 x23 x24 => c74_1385 a8 a9 ) )) (cond ((a5.tmod 5) == 3) (c29_1 a6 a11 a12 a13 a14 a15 (fun x45 => c75_6206 a6 ) ) (c32_1 a11 a12 a13 a14 a15 a10.dat (fun x46 x47 => c64_7155 a10.dat ) ))))) d K := by kernel_rfl
theorem E14_269 (F : Nat) (d : sh14_269.den) (K : KF) : evBody Tryz.prog (T14_269 F) (xw [16]) 146 3 (LT14_269 F) [2] code14 Tryz.f14.results.toList (encT sh14_269.vs d.1) (encH sh14_269.h d.2) K = A14_269 (f14_269 F) d K := Eq.mp (by kernel_rfl) (E14_269g F (f24_1 F) (f29_1 F) (f32_1 F) (f64_7155 F) (f65_1 F) (f66_1 F) (f67_1 F) (f70_9797 F) (f71_3384 F) (f72_1 F) (f73_1 F) (f74_1385 F) (f75_6206 F)   d K)
theorem S14_269_ok (F : Nat) (o : Summ) (ho : SoundFn Tryz.prog 14 o) : SoundFn Tryz.prog 14 (S14_269 F o) :=
  soundFn_of (fn := Tryz.f14) (c := code14) rfl rfl (by kernel_rfl) (tab_cons (S24_1_ok F _ (noS_sound enter24)) (tab_cons (S29_1_ok F _ (noS_sound enter29)) (tab_cons (S32_1_ok F _ (noS_sound enter32)) (tab_cons (S64_7155_ok F _ (noS_sound enter64)) (tab_cons (S65_1_ok F _ (noS_sound enter65)) (tab_cons (S66_1_ok F _ (noS_sound enter66)) (tab_cons (S67_1_ok F _ (noS_sound enter67)) (tab_cons (S70_9797_ok F _ (noS_sound enter70)) (tab_cons (S71_3384_ok F _ (noS_sound enter71)) (tab_cons (S72_1_ok F _ (noS_sound enter72)) (tab_cons (S73_1_ok F _ (noS_sound enter73)) (tab_cons (S74_1385_ok F _ (noS_sound enter74)) (tab_cons (S75_6206_ok F _ (noS_sound enter75)) tab_nil))))))))))))) (by kernel_rfl) (by kernel_rfl) ho (by rw [loops14]; exact loopsOK_nil) (by rw [scopes14]; exact scopesOK_nil) (by rw [ranges14]; exact rangesOK_nil) (E14_269 F)
end Go.Proofs.YtlgopekjjkdkiaaGreatDoor.X
end

section
namespace Go.Proofs.YtlgopekjjkdkiaaGreatDoor.X
open Go Go.Proofs.YtlgopekjjkdkiaaGreatDoor.Ev Go.Proofs
set_option linter.unusedVariables false
set_option linter.unusedSectionVars false
/-! disk.Disk).Write -/
noncomputable def f24_1385 {β : Type} (F : Nat) (a1 : Int) (a2 : ByteArray) (K0 : Option β) : Option β := K0
variable [FZ]
def sh24_1385 : Sh := ⟨[.lf (.nilp), .lf (.int .i64), .lf (.str)], []⟩
abbrev Y24_1385 := Int → ByteArray → (Option Res) → Option Res
noncomputable def A24_1385 (g : Y24_1385) (d : sh24_1385.den) (K : KF) : Option Res := g d.1.2.1 d.1.2.2.1 (K [.lf (.int .i64 1)] [])
noncomputable def S24_1385 (F : Nat) (o : Summ) : Summ := mkS sh24_1385 (fun d K => A24_1385 (f24_1385 F) d K) o
noncomputable def T24_1385 (F : Nat) : FuncId → Option Summ := tab []
noncomputable def TB24_1385  : FuncId → Option Summ := tab []
noncomputable def LT24_1385 (F : Nat) : Nat → Option LoopS := ltab []
theorem E24_1385g (F : Nat)    (d : sh24_1385.den) (K : KF) : evBody Tryz.prog TB24_1385 (xw []) 40 0 (ltab []) [] code24 Tryz.f24.results.toList (encT sh24_1385.vs d.1) (encH sh24_1385.h d.2) K = A24_1385 (fun (a1 : Int) (a2 : ByteArray) (K0 : (Option Res)) => K0) d K := by kernel_rfl
theorem E24_1385 (F : Nat) (d : sh24_1385.den) (K : KF) : evBody Tryz.prog (T24_1385 F) (xw []) 40 0 (LT24_1385 F) [] code24 Tryz.f24.results.toList (encT sh24_1385.vs d.1) (encH sh24_1385.h d.2) K = A24_1385 (f24_1385 F) d K := Eq.mp (by kernel_rfl) (E24_1385g F    d K)
theorem S24_1385_ok (F : Nat) (o : Summ) (ho : SoundFn Tryz.prog 24 o) : SoundFn Tryz.prog 24 (S24_1385 F o) :=
  soundFn_of (fn := Tryz.f24) (c := code24) rfl rfl (by kernel_rfl) tab_nil (by kernel_rfl) (by kernel_rfl) ho (by rw [loops24]; exact loopsOK_nil) (by rw [scopes24]; exact scopesOK_nil) (by rw [ranges24]; exact rangesOK_nil) (E24_1385 F)
end Go.Proofs.YtlgopekjjkdkiaaGreatDoor.X
end

section
namespace Go.Proofs.YtlgopekjjkdkiaaGreatDoor.X
open Go Go.Proofs.YtlgopekjjkdkiaaGreatDoor.Ev Go.Proofs
set_option linter.unusedVariables false
set_option linter.unusedSectionVars false
/-! disk.Disk).Fuse -/
noncomputable def f29_6206 {β : Type} (F : Nat) (a1 : Int) (K0 : Option β) : Option β := K0
variable [FZ]
def sh29_6206 : Sh := ⟨[.lf (.nilp), .lf (.int .i64)], []⟩
abbrev Y29_6206 := Int → (Option Res) → Option Res
noncomputable def A29_6206 (g : Y29_6206) (d : sh29_6206.den) (K : KF) : Option Res := g d.1.2.1 (K [] [])
noncomputable def S29_6206 (F : Nat) (o : Summ) : Summ := mkS sh29_6206 (fun d K => A29_6206 (f29_6206 F) d K) o
noncomputable def T29_6206 (F : Nat) : FuncId → Option Summ := tab []
noncomputable def TB29_6206  : FuncId → Option Summ := tab []
noncomputable def LT29_6206 (F : Nat) : Nat → Option LoopS := ltab []
theorem E29_6206g (F : Nat)    (d : sh29_6206.den) (K : KF) : evBody Tryz.prog TB29_6206 (xw []) 11 0 (ltab []) [] code29 Tryz.f29.results.toList (encT sh29_6206.vs d.1) (encH sh29_6206.h d.2) K = A29_6206 (fun (a1 : Int) (K0 : (Option Res)) => K0) d K := by kernel_rfl
theorem E29_6206 (F : Nat) (d : sh29_6206.den) (K : KF) : evBody Tryz.prog (T29_6206 F) (xw []) 11 0 (LT29_6206 F) [] code29 Tryz.f29.results.toList (encT sh29_6206.vs d.1) (encH sh29_6206.h d.2) K = A29_6206 (f29_6206 F) d K := Eq.mp (by kernel_rfl) (E29_6206g F    d K)
theorem S29_6206_ok (F : Nat) (o : Summ) (ho : SoundFn Tryz.prog 29 o) : SoundFn Tryz.prog 29 (S29_6206 F o) :=
  soundFn_of (fn := Tryz.f29) (c := code29) rfl rfl (by kernel_rfl) tab_nil (by kernel_rfl) (by kernel_rfl) ho (by rw [loops29]; exact loopsOK_nil) (by rw [scopes29]; exact scopesOK_nil) (by rw [ranges29]; exact rangesOK_nil) (E29_6206 F)
end Go.Proofs.YtlgopekjjkdkiaaGreatDoor.X
end

section
namespace Go.Proofs.YtlgopekjjkdkiaaGreatDoor.X
open Go Go.Proofs.YtlgopekjjkdkiaaGreatDoor.Ev Go.Proofs
set_option linter.unusedVariables false
set_option linter.unusedSectionVars false
/-! disk.Disk).Crash -/
noncomputable def f32_7155 {β : Type} (F : Nat) (a1 : List Bool) (K0 : Option β) : Option β := K0
variable [FZ]
def sh32_7155 : Sh := ⟨[.lf (.nilp), .lf (.full 0)], [some ⟨none, [.seq .bool 0]⟩]⟩
abbrev Y32_7155 := List Bool → (Option Res) → Option Res
noncomputable def A32_7155 (g : Y32_7155) (d : sh32_7155.den) (K : KF) : Option Res := g d.2.1.2.1 (K [] [some ⟨d.2.1.1, [.seq .bool 0 d.2.1.2.1]⟩])
noncomputable def S32_7155 (F : Nat) (o : Summ) : Summ := mkS sh32_7155 (fun d K => A32_7155 (f32_7155 F) d K) o
noncomputable def T32_7155 (F : Nat) : FuncId → Option Summ := tab []
noncomputable def TB32_7155  : FuncId → Option Summ := tab []
noncomputable def LT32_7155 (F : Nat) : Nat → Option LoopS := ltab []
theorem E32_7155g (F : Nat)    (d : sh32_7155.den) (K : KF) : evBody Tryz.prog TB32_7155 (xw []) 47 1 (ltab []) [] code32 Tryz.f32.results.toList (encT sh32_7155.vs d.1) (encH sh32_7155.h d.2) K = A32_7155 (fun (a1 : List Bool) (K0 : (Option Res)) => K0) d K := by kernel_rfl
theorem E32_7155 (F : Nat) (d : sh32_7155.den) (K : KF) : evBody Tryz.prog (T32_7155 F) (xw []) 47 1 (LT32_7155 F) [] code32 Tryz.f32.results.toList (encT sh32_7155.vs d.1) (encH sh32_7155.h d.2) K = A32_7155 (f32_7155 F) d K := Eq.mp (by kernel_rfl) (E32_7155g F    d K)
theorem S32_7155_ok (F : Nat) (o : Summ) (ho : SoundFn Tryz.prog 32 o) : SoundFn Tryz.prog 32 (S32_7155 F o) :=
  soundFn_of (fn := Tryz.f32) (c := code32) rfl rfl (by kernel_rfl) tab_nil (by kernel_rfl) (by kernel_rfl) ho (by rw [loops32]; exact (loopsOK_skip (by kernel_rfl) loopsOK_nil)) (by rw [scopes32]; exact scopesOK_nil) (by rw [ranges32]; exact rangesOK_nil) (E32_7155 F)
end Go.Proofs.YtlgopekjjkdkiaaGreatDoor.X
end

section
namespace Go.Proofs.YtlgopekjjkdkiaaGreatDoor.X
open Go Go.Proofs.YtlgopekjjkdkiaaGreatDoor.Ev Go.Proofs
set_option linter.unusedVariables false
set_option linter.unusedSectionVars false
/-! disk.Disk).Up -/
noncomputable def f33_568 {β : Type} (F : Nat)  (K0 : Option β) : Option β := K0
variable [FZ]
def sh33_568 : Sh := ⟨[.lf (.nilp)], []⟩
abbrev Y33_568 := (Option Res) → Option Res
noncomputable def A33_568 (g : Y33_568) (d : sh33_568.den) (K : KF) : Option Res := g (K [.lf (.int .i64 1)] [])
noncomputable def S33_568 (F : Nat) (o : Summ) : Summ := mkS sh33_568 (fun d K => A33_568 (f33_568 F) d K) o
noncomputable def T33_568 (F : Nat) : FuncId → Option Summ := tab []
noncomputable def TB33_568  : FuncId → Option Summ := tab []
noncomputable def LT33_568 (F : Nat) : Nat → Option LoopS := ltab []
theorem E33_568g (F : Nat)    (d : sh33_568.den) (K : KF) : evBody Tryz.prog TB33_568 (xw []) 21 0 (ltab []) [] code33 Tryz.f33.results.toList (encT sh33_568.vs d.1) (encH sh33_568.h d.2) K = A33_568 (fun (K0 : (Option Res)) => K0) d K := by kernel_rfl
theorem E33_568 (F : Nat) (d : sh33_568.den) (K : KF) : evBody Tryz.prog (T33_568 F) (xw []) 21 0 (LT33_568 F) [] code33 Tryz.f33.results.toList (encT sh33_568.vs d.1) (encH sh33_568.h d.2) K = A33_568 (f33_568 F) d K := Eq.mp (by kernel_rfl) (E33_568g F    d K)
theorem S33_568_ok (F : Nat) (o : Summ) (ho : SoundFn Tryz.prog 33 o) : SoundFn Tryz.prog 33 (S33_568 F o) :=
  soundFn_of (fn := Tryz.f33) (c := code33) rfl rfl (by kernel_rfl) tab_nil (by kernel_rfl) (by kernel_rfl) ho (by rw [loops33]; exact loopsOK_nil) (by rw [scopes33]; exact scopesOK_nil) (by rw [ranges33]; exact rangesOK_nil) (E33_568 F)
end Go.Proofs.YtlgopekjjkdkiaaGreatDoor.X
end

section
namespace Go.Proofs.YtlgopekjjkdkiaaGreatDoor.X
open Go Go.Proofs.YtlgopekjjkdkiaaGreatDoor.Ev Go.Proofs
set_option linter.unusedVariables false
set_option linter.unusedSectionVars false
/-! pentimentolaw17.do -/
noncomputable def f14_7171 [FZ] {β : Type} (F : Nat) (a1 : Int) (a2 : Int) (a3 : Int) (a4 : Int) (a5 : Int) (a6 : Int) (a7 : Int) (a8 : Int) (a9 : ByteArray) (a10 : Sl .bool) (a11 : Int) (a12 : Bool) (a13 : Int) (a14 : List ByteArray) (a15 : List (Int × ByteArray)) (K0 : Bool → Int → Bool → Int → List ByteArray → List (Int × ByteArray) → Option β) : Option β := cond ((a5.tmod 5) == 0) (f65_9797 F a1 a2 a3 a4 a6 a7 a8 (fun x1 => f70_1 F a1 a2 a3 a4 a6 a7 a8 a11 a12 a13 a14 a15 (fun x2 x3 x4 x5 x6 x7 x8 x9 x10 => cond (true && (((0 : Int) == x2) && (((0 : Int) == x3) && (ByteArray.empty.toList == x4.toList)))) (K0 (x1 == x5) x6 x7 x8 x9 x10) (K0 false x6 x7 x8 x9 x10)) ) ) (cond ((a5.tmod 5) == 1) (f66_3384 F a1 a2 a3 a4 a7 (fun x11 x12 => f71_1 F a1 a2 a3 a4 a7 a11 a12 a13 a14 a15 (fun x13 x14 => f67_1 F a8 x12 (fun x15 x16 => f72_1 F a8 x14 (fun x17 x18 => f73_1 F x12 x14 (fun x19 => cond x19 (cond (x11 == x13) (cond (x15.toList == x17.toList) (K0 (x16 == x18) a11 a12 a13 a14 a15) (K0 false a11 a12 a13 a14 a15)) (K0 false a11 a12 a13 a14 a15)) (K0 false a11 a12 a13 a14 a15)) ) ) ) ) ) (cond ((a5.tmod 5) == 2) ((fun z1 => amb z1 (amb (amb z1 z1) (amb z1 z1))) (f24_1385 F a8 a9 (f74_1 F a8 a9 a11 a12 a13 a14 a15 (fun x20 x21 x22 x23 x24 => K0 ((1 : Int) == x20) x21 x22 x23 a14 x24) ) )) (cond ((a5.tmod 5) == 3) (f29_6206 F a6 (f75_1 F a6 a11 a12 a13 a14 a15 (fun x45 => K0 true x45 a12 a13 a14 a15) ) ) (f32_7155 F a10.dat (f64_1 F a11 a12 a13 a14 a15 a10.dat (fun x46 x47 => f33_568 F  (f76_1 F (-1) true a13 x46 x47 (fun x48 x49 x50 x51 => K0 ((1 : Int) == x48) x49 x50 a13 x46 x51) ) ) ) ))))
variable [FZ]
def sh14_7171 : Sh := ⟨[.lf (.nilp), .lf (.ptr 0 0), .agg [.int .i64, .int .i64, .int .i64, .int .i64], .agg [.int .i64, .int .i64, .int .u64, .int .i64, .str, .sl .bool]], [some ⟨some false, [.full 1, .full 2, .int .i64, .bool, .int .i64]⟩, some ⟨some false, [.seq .str 0]⟩, some ⟨some false, [.seq (.pair (.int .i64) .str) 0]⟩]⟩
abbrev Y14_7171 := Int → Int → Int → Int → Int → Int → Int → Int → ByteArray → Sl .bool → Int → Bool → Int → List ByteArray → List (Int × ByteArray) → (Bool → Int → Bool → Int → List ByteArray → List (Int × ByteArray) → Option Res) → Option Res
noncomputable def A14_7171 (g : Y14_7171) (d : sh14_7171.den) (K : KF) : Option Res := g d.1.2.2.1.1 d.1.2.2.1.2.1 d.1.2.2.1.2.2.1 d.1.2.2.1.2.2.2.1 d.1.2.2.2.1.1 d.1.2.2.2.1.2.1 d.1.2.2.2.1.2.2.1 d.1.2.2.2.1.2.2.2.1 d.1.2.2.2.1.2.2.2.2.1 d.1.2.2.2.1.2.2.2.2.2.1 d.2.1.2.2.2.1 d.2.1.2.2.2.2.1 d.2.1.2.2.2.2.2.1 d.2.2.1.2.1 d.2.2.2.1.2.1 (fun (y0 : Bool) (y1 : Int) (y2 : Bool) (y3 : Int) (y4 : List ByteArray) (y5 : List (Int × ByteArray)) => K [.lf (.bool y0)] [some ⟨false, [.full 1, .full 3, .int .i64 y1, .bool y2, .int .i64 y3]⟩, some ⟨false, [.seq .str 0 y4]⟩, none, some ⟨false, [.seq (.pair (.int .i64) .str) 0 y5]⟩])
noncomputable def S14_7171 (F : Nat) (o : Summ) : Summ := mkS sh14_7171 (fun d K => A14_7171 (f14_7171 F) d K) o
noncomputable def T14_7171 (F : Nat) : FuncId → Option Summ := tab [(24, (S24_1385 F noS)), (29, (S29_6206 F noS)), (32, (S32_7155 F noS)), (33, (S33_568 F noS)), (64, (S64_1 F noS)), (65, (S65_9797 F noS)), (66, (S66_3384 F noS)), (67, (S67_1 F noS)), (70, (S70_1 F noS)), (71, (S71_1 F noS)), (72, (S72_1 F noS)), (73, (S73_1 F noS)), (74, (S74_1 F noS)), (75, (S75_1 F noS)), (76, (S76_1 F noS))]
noncomputable def TB14_7171 (c24_1385 : Y24_1385) (c29_6206 : Y29_6206) (c32_7155 : Y32_7155) (c33_568 : Y33_568) (c64_1 : Y64_1) (c65_9797 : Y65_9797) (c66_3384 : Y66_3384) (c67_1 : Y67_1) (c70_1 : Y70_1) (c71_1 : Y71_1) (c72_1 : Y72_1) (c73_1 : Y73_1) (c74_1 : Y74_1) (c75_1 : Y75_1) (c76_1 : Y76_1) : FuncId → Option Summ := tab [(24, (mkS sh24_1385 (fun d K => A24_1385 c24_1385 d K) noS)), (29, (mkS sh29_6206 (fun d K => A29_6206 c29_6206 d K) noS)), (32, (mkS sh32_7155 (fun d K => A32_7155 c32_7155 d K) noS)), (33, (mkS sh33_568 (fun d K => A33_568 c33_568 d K) noS)), (64, (mkS sh64_1 (fun d K => A64_1 c64_1 d K) noS)), (65, (mkS sh65_9797 (fun d K => A65_9797 c65_9797 d K) noS)), (66, (mkS sh66_3384 (fun d K => A66_3384 c66_3384 d K) noS)), (67, (mkS sh67_1 (fun d K => A67_1 c67_1 d K) noS)), (70, (mkS sh70_1 (fun d K => A70_1 c70_1 d K) noS)), (71, (mkS sh71_1 (fun d K => A71_1 c71_1 d K) noS)), (72, (mkS sh72_1 (fun d K => A72_1 c72_1 d K) noS)), (73, (mkS sh73_1 (fun d K => A73_1 c73_1 d K) noS)), (74, (mkS sh74_1 (fun d K => A74_1 c74_1 d K) noS)), (75, (mkS sh75_1 (fun d K => A75_1 c75_1 d K) noS)), (76, (mkS sh76_1 (fun d K => A76_1 c76_1 d K) noS))]
noncomputable def LT14_7171 (F : Nat) : Nat → Option LoopS := ltab []
theorem E14_7171g (F : Nat) (c24_1385 : Y24_1385) (c29_6206 : Y29_6206) (c32_7155 : Y32_7155) (c33_568 : Y33_568) (c64_1 : Y64_1) (c65_9797 : Y65_9797) (c66_3384 : Y66_3384) (c67_1 : Y67_1) (c70_1 : Y70_1) (c71_1 : Y71_1) (c72_1 : Y72_1) (c73_1 : Y73_1) (c74_1 : Y74_1) (c75_1 : Y75_1) (c76_1 : Y76_1)   (d : sh14_7171.den) (K : KF) : evBody Tryz.prog (TB14_7171 c24_1385 c29_6206 c32_7155 c33_568 c64_1 c65_9797 c66_3384 c67_1 c70_1 c71_1 c72_1 c73_1 c74_1 c75_1 c76_1) (xw [16]) 146 3 (ltab []) [2] code14 Tryz.f14.results.toList (encT sh14_7171.vs d.1) (encH sh14_7171.h d.2) K = A14_7171 (fun (a1 : Int) (a2 : Int) (a3 : Int) (a4 : Int) (a5 : Int) (a6 : Int) (a7 : Int) (a8 : Int) (a9 : ByteArray) (a10 : Sl .bool) (a11 : Int) (a12 : Bool) (a13 : Int) (a14 : List ByteArray) (a15 : List (Int × ByteArray)) (K0 : (Bool → Int → Bool → Int → List ByteArray → List (Int × ByteArray) → Option Res)) => cond ((a5.tmod 5) == 0) (c65_9797 a1 a2 a3 a4 a6 a7 a8 (fun x1 => c70_1 a1 a2 a3 a4 a6 a7 a8 a11 a12 a13 a14 a15 (fun x2 x3 x4 x5 x6 x7 x8 x9 x10 => cond (true && (((0 : Int) == x2) && (((0 : Int) == x3) && (ByteArray.empty.toList == x4.toList)))) (K0 (x1 == x5) x6 x7 x8 x9 x10) (K0 false x6 x7 x8 x9 x10)) ) ) (cond ((a5.tmod 5) == 1) (c66_3384 a1 a2 a3 a4 a7 (fun x11 x12 => c71_1 a1 a2 a3 a4 a7 a11 a12 a13 a14 a15 (fun x13 x14 => c67_1 a8 x12 (fun x15 x16 => c72_1 a8 x14 (fun x17 x18 => c73_1 x12 x14 (fun x19 => cond x19 (cond (x11 == x13) (cond (x15.toList == x17.toList) (K0 (x16 == x18) a11 a12 a13 a14 a15) (K0 false a11 a12 a13 a14 a15)) (K0 false a11 a12 a13 a14 a15)) (K0 false a11 a12 a13 a14 a15)) ) ) ) ) ) (cond ((a5.tmod 5) == 2) ((fun z1 => amb z1 (amb (amb z1 z1) (amb z1 z1))) (c24_1385 a8 a9 (c74_1 a8 a9 a11 a12 a13 a14 a15 (fun x20 x21 x22 x23 x24 => K0 ((1 : Int) == x20) x21 x22 x23 a14 x24) ) )) (cond ((a5.tmod 5) == 3) (c29_6206 a6 (c75_1 a6 a11 a12 a13 a14 a15 (fun x45 => K0 true x45 a12 a13 a14 a15) ) ) (c32_7155 a10.dat (c64_1 a11 a12 a13 a14 a15 a10.dat (fun x46 x47 => c33_568  (c76_1 (-1) true a13 x46 x47 (fun x48 x49 x50 x51 => K0 ((1 : Int) == x48) x49 x50 a13 x46 x51) ) ) ) ))))) d K := by kernel_rfl
theorem E14_7171 (F : Nat) (d : sh14_7171.den) (K : KF) : evBody Tryz.prog (T14_7171 F) (xw [16]) 146 3 (LT14_7171 F) [2] code14 Tryz.f14.results.toList (encT sh14_7171.vs d.1) (encH sh14_7171.h d.2) K = A14_7171 (f14_7171 F) d K := Eq.mp (by kernel_rfl) (E14_7171g F (f24_1385 F) (f29_6206 F) (f32_7155 F) (f33_568 F) (f64_1 F) (f65_9797 F) (f66_3384 F) (f67_1 F) (f70_1 F) (f71_1 F) (f72_1 F) (f73_1 F) (f74_1 F) (f75_1 F) (f76_1 F)   d K)
theorem S14_7171_ok (F : Nat) (o : Summ) (ho : SoundFn Tryz.prog 14 o) : SoundFn Tryz.prog 14 (S14_7171 F o) :=
  soundFn_of (fn := Tryz.f14) (c := code14) rfl rfl (by kernel_rfl) (tab_cons (S24_1385_ok F _ (noS_sound enter24)) (tab_cons (S29_6206_ok F _ (noS_sound enter29)) (tab_cons (S32_7155_ok F _ (noS_sound enter32)) (tab_cons (S33_568_ok F _ (noS_sound enter33)) (tab_cons (S64_1_ok F _ (noS_sound enter64)) (tab_cons (S65_9797_ok F _ (noS_sound enter65)) (tab_cons (S66_3384_ok F _ (noS_sound enter66)) (tab_cons (S67_1_ok F _ (noS_sound enter67)) (tab_cons (S70_1_ok F _ (noS_sound enter70)) (tab_cons (S71_1_ok F _ (noS_sound enter71)) (tab_cons (S72_1_ok F _ (noS_sound enter72)) (tab_cons (S73_1_ok F _ (noS_sound enter73)) (tab_cons (S74_1_ok F _ (noS_sound enter74)) (tab_cons (S75_1_ok F _ (noS_sound enter75)) (tab_cons (S76_1_ok F _ (noS_sound enter76)) tab_nil))))))))))))))) (by kernel_rfl) (by kernel_rfl) ho (by rw [loops14]; exact loopsOK_nil) (by rw [scopes14]; exact scopesOK_nil) (by rw [ranges14]; exact rangesOK_nil) (E14_7171 F)
end Go.Proofs.YtlgopekjjkdkiaaGreatDoor.X
end

section
namespace Go.Proofs.YtlgopekjjkdkiaaGreatDoor.X
open Go Go.Proofs.YtlgopekjjkdkiaaGreatDoor.Ev Go.Proofs
set_option linter.unusedVariables false
set_option linter.unusedSectionVars false
/-! pentimentolaw17.do -/
noncomputable def f14_9465 [FZ] {β : Type} (F : Nat) (a1 : Int) (a2 : Int) (a3 : Int) (a4 : Int) (a5 : Int) (a6 : Int) (a7 : Int) (a8 : Int) (a9 : ByteArray) (a10 : Sl .bool) (K0 : Bool → Option β) : Option β := cond ((a5.tmod 5) == 0) (f65_9797 F a1 a2 a3 a4 a6 a7 a8 (fun x1 => f70_9797 F a1 a2 a3 a4 a6 a7 a8 (fun x2 => K0 (x1 == x2)) ) ) (cond ((a5.tmod 5) == 1) (f66_3384 F a1 a2 a3 a4 a7 (fun x3 x4 => f71_3384 F a1 a2 a3 a4 a7 (fun x5 x6 => f67_1 F a8 x4 (fun x7 x8 => f72_1 F a8 x6 (fun x9 x10 => f73_1 F x4 x6 (fun x11 => cond x11 (cond (x3 == x5) (cond (x7.toList == x9.toList) (K0 (x8 == x10)) (K0 false)) (K0 false)) (K0 false)) ) ) ) ) ) (cond ((a5.tmod 5) == 2) (f24_1385 F a8 a9 (f74_1385 F a8 a9 ) ) (cond ((a5.tmod 5) == 3) (f29_6206 F a6 (f75_6206 F a6 ) ) (f32_7155 F a10.dat (f64_7155 F a10.dat ) ))))
variable [FZ]
def sh14_9465 : Sh := ⟨[.lf (.nilp), .lf (.nilp), .agg [.int .i64, .int .i64, .int .i64, .int .i64], .agg [.int .i64, .int .i64, .int .u64, .int .i64, .str, .sl .bool]], []⟩
abbrev Y14_9465 := Int → Int → Int → Int → Int → Int → Int → Int → ByteArray → Sl .bool → (Bool → Option Res) → Option Res
noncomputable def A14_9465 (g : Y14_9465) (d : sh14_9465.den) (K : KF) : Option Res := g d.1.2.2.1.1 d.1.2.2.1.2.1 d.1.2.2.1.2.2.1 d.1.2.2.1.2.2.2.1 d.1.2.2.2.1.1 d.1.2.2.2.1.2.1 d.1.2.2.2.1.2.2.1 d.1.2.2.2.1.2.2.2.1 d.1.2.2.2.1.2.2.2.2.1 d.1.2.2.2.1.2.2.2.2.2.1 (fun (y0 : Bool) => K [.lf (.bool y0)] [])
noncomputable def S14_9465 (F : Nat) (o : Summ) : Summ := mkS sh14_9465 (fun d K => A14_9465 (f14_9465 F) d K) o
noncomputable def T14_9465 (F : Nat) : FuncId → Option Summ := tab [(24, (S24_1385 F noS)), (29, (S29_6206 F noS)), (32, (S32_7155 F noS)), (64, (S64_7155 F noS)), (65, (S65_9797 F noS)), (66, (S66_3384 F noS)), (67, (S67_1 F noS)), (70, (S70_9797 F noS)), (71, (S71_3384 F noS)), (72, (S72_1 F noS)), (73, (S73_1 F noS)), (74, (S74_1385 F noS)), (75, (S75_6206 F noS))]
noncomputable def TB14_9465 (c24_1385 : Y24_1385) (c29_6206 : Y29_6206) (c32_7155 : Y32_7155) (c64_7155 : Y64_7155) (c65_9797 : Y65_9797) (c66_3384 : Y66_3384) (c67_1 : Y67_1) (c70_9797 : Y70_9797) (c71_3384 : Y71_3384) (c72_1 : Y72_1) (c73_1 : Y73_1) (c74_1385 : Y74_1385) (c75_6206 : Y75_6206) : FuncId → Option Summ := tab [(24, (mkS sh24_1385 (fun d K => A24_1385 c24_1385 d K) noS)), (29, (mkS sh29_6206 (fun d K => A29_6206 c29_6206 d K) noS)), (32, (mkS sh32_7155 (fun d K => A32_7155 c32_7155 d K) noS)), (64, (mkS sh64_7155 (fun d K => A64_7155 c64_7155 d K) noS)), (65, (mkS sh65_9797 (fun d K => A65_9797 c65_9797 d K) noS)), (66, (mkS sh66_3384 (fun d K => A66_3384 c66_3384 d K) noS)), (67, (mkS sh67_1 (fun d K => A67_1 c67_1 d K) noS)), (70, (mkS sh70_9797 (fun d K => A70_9797 c70_9797 d K) noS)), (71, (mkS sh71_3384 (fun d K => A71_3384 c71_3384 d K) noS)), (72, (mkS sh72_1 (fun d K => A72_1 c72_1 d K) noS)), (73, (mkS sh73_1 (fun d K => A73_1 c73_1 d K) noS)), (74, (mkS sh74_1385 (fun d K => A74_1385 c74_1385 d K) noS)), (75, (mkS sh75_6206 (fun d K => A75_6206 c75_6206 d K) noS))]
noncomputable def LT14_9465 (F : Nat) : Nat → Option LoopS := ltab []
theorem E14_9465g (F : Nat) (c24_1385 : Y24_1385) (c29_6206 : Y29_6206) (c32_7155 : Y32_7155) (c64_7155 : Y64_7155) (c65_9797 : Y65_9797) (c66_3384 : Y66_3384) (c67_1 : Y67_1) (c70_9797 : Y70_9797) (c71_3384 : Y71_3384) (c72_1 : Y72_1) (c73_1 : Y73_1) (c74_1385 : Y74_1385) (c75_6206 : Y75_6206)   (d : sh14_9465.den) (K : KF) : evBody Tryz.prog (TB14_9465 c24_1385 c29_6206 c32_7155 c64_7155 c65_9797 c66_3384 c67_1 c70_9797 c71_3384 c72_1 c73_1 c74_1385 c75_6206) (xw []) 146 0 (ltab []) [] code14 Tryz.f14.results.toList (encT sh14_9465.vs d.1) (encH sh14_9465.h d.2) K = A14_9465 (fun (a1 : Int) (a2 : Int) (a3 : Int) (a4 : Int) (a5 : Int) (a6 : Int) (a7 : Int) (a8 : Int) (a9 : ByteArray) (a10 : Sl .bool) (K0 : (Bool → Option Res)) => cond ((a5.tmod 5) == 0) (c65_9797 a1 a2 a3 a4 a6 a7 a8 (fun x1 => c70_9797 a1 a2 a3 a4 a6 a7 a8 (fun x2 => K0 (x1 == x2)) ) ) (cond ((a5.tmod 5) == 1) (c66_3384 a1 a2 a3 a4 a7 (fun x3 x4 => c71_3384 a1 a2 a3 a4 a7 (fun x5 x6 => c67_1 a8 x4 (fun x7 x8 => c72_1 a8 x6 (fun x9 x10 => c73_1 x4 x6 (fun x11 => cond x11 (cond (x3 == x5) (cond (x7.toList == x9.toList) (K0 (x8 == x10)) (K0 false)) (K0 false)) (K0 false)) ) ) ) ) ) (cond ((a5.tmod 5) == 2) (c24_1385 a8 a9 (c74_1385 a8 a9 ) ) (cond ((a5.tmod 5) == 3) (c29_6206 a6 (c75_6206 a6 ) ) (c32_7155 a10.dat (c64_7155 a10.dat ) ))))) d K := by kernel_rfl
theorem E14_9465 (F : Nat) (d : sh14_9465.den) (K : KF) : evBody Tryz.prog (T14_9465 F) (xw []) 146 0 (LT14_9465 F) [] code14 Tryz.f14.results.toList (encT sh14_9465.vs d.1) (encH sh14_9465.h d.2) K = A14_9465 (f14_9465 F) d K := Eq.mp (by kernel_rfl) (E14_9465g F (f24_1385 F) (f29_6206 F) (f32_7155 F) (f64_7155 F) (f65_9797 F) (f66_3384 F) (f67_1 F) (f70_9797 F) (f71_3384 F) (f72_1 F) (f73_1 F) (f74_1385 F) (f75_6206 F)   d K)
theorem S14_9465_ok (F : Nat) (o : Summ) (ho : SoundFn Tryz.prog 14 o) : SoundFn Tryz.prog 14 (S14_9465 F o) :=
  soundFn_of (fn := Tryz.f14) (c := code14) rfl rfl (by kernel_rfl) (tab_cons (S24_1385_ok F _ (noS_sound enter24)) (tab_cons (S29_6206_ok F _ (noS_sound enter29)) (tab_cons (S32_7155_ok F _ (noS_sound enter32)) (tab_cons (S64_7155_ok F _ (noS_sound enter64)) (tab_cons (S65_9797_ok F _ (noS_sound enter65)) (tab_cons (S66_3384_ok F _ (noS_sound enter66)) (tab_cons (S67_1_ok F _ (noS_sound enter67)) (tab_cons (S70_9797_ok F _ (noS_sound enter70)) (tab_cons (S71_3384_ok F _ (noS_sound enter71)) (tab_cons (S72_1_ok F _ (noS_sound enter72)) (tab_cons (S73_1_ok F _ (noS_sound enter73)) (tab_cons (S74_1385_ok F _ (noS_sound enter74)) (tab_cons (S75_6206_ok F _ (noS_sound enter75)) tab_nil))))))))))))) (by kernel_rfl) (by kernel_rfl) ho (by rw [loops14]; exact loopsOK_nil) (by rw [scopes14]; exact scopesOK_nil) (by rw [ranges14]; exact rangesOK_nil) (E14_9465 F)
end Go.Proofs.YtlgopekjjkdkiaaGreatDoor.X
end

section
namespace Go.Proofs.YtlgopekjjkdkiaaGreatDoor.X
open Go Go.Proofs.YtlgopekjjkdkiaaGreatDoor.Ev Go.Proofs
set_option linter.unusedVariables false
set_option linter.unusedSectionVars false
/-! disk.Disk).Kept -/
noncomputable def f15_6206 {β : Type} (F : Nat) (a1 : Int) (K0 : Option β) : Option β := K0
variable [FZ]
def sh15_6206 : Sh := ⟨[.lf (.nilp), .lf (.int .i64)], []⟩
abbrev Y15_6206 := Int → (Option Res) → Option Res
noncomputable def A15_6206 (g : Y15_6206) (d : sh15_6206.den) (K : KF) : Option Res := g d.1.2.1 (K [.lf (.str ByteArray.empty), .lf (.int .i64 1)] [])
noncomputable def S15_6206 (F : Nat) (o : Summ) : Summ := mkS sh15_6206 (fun d K => A15_6206 (f15_6206 F) d K) o
noncomputable def T15_6206 (F : Nat) : FuncId → Option Summ := tab []
noncomputable def TB15_6206  : FuncId → Option Summ := tab []
noncomputable def LT15_6206 (F : Nat) : Nat → Option LoopS := ltab []
theorem E15_6206g (F : Nat)    (d : sh15_6206.den) (K : KF) : evBody Tryz.prog TB15_6206 (xw []) 21 0 (ltab []) [] code15 Tryz.f15.results.toList (encT sh15_6206.vs d.1) (encH sh15_6206.h d.2) K = A15_6206 (fun (a1 : Int) (K0 : (Option Res)) => K0) d K := by kernel_rfl
theorem E15_6206 (F : Nat) (d : sh15_6206.den) (K : KF) : evBody Tryz.prog (T15_6206 F) (xw []) 21 0 (LT15_6206 F) [] code15 Tryz.f15.results.toList (encT sh15_6206.vs d.1) (encH sh15_6206.h d.2) K = A15_6206 (f15_6206 F) d K := Eq.mp (by kernel_rfl) (E15_6206g F    d K)
theorem S15_6206_ok (F : Nat) (o : Summ) (ho : SoundFn Tryz.prog 15 o) : SoundFn Tryz.prog 15 (S15_6206 F o) :=
  soundFn_of (fn := Tryz.f15) (c := code15) rfl rfl (by kernel_rfl) tab_nil (by kernel_rfl) (by kernel_rfl) ho (by rw [loops15]; exact loopsOK_nil) (by rw [scopes15]; exact scopesOK_nil) (by rw [ranges15]; exact rangesOK_nil) (E15_6206 F)
end Go.Proofs.YtlgopekjjkdkiaaGreatDoor.X
end

section
namespace Go.Proofs.YtlgopekjjkdkiaaGreatDoor.X
open Go Go.Proofs.YtlgopekjjkdkiaaGreatDoor.Ev Go.Proofs
set_option linter.unusedVariables false
set_option linter.unusedSectionVars false
/-! pentimentoref06.Puts -/
noncomputable def f17_1_l4 {β : Type} (F : Nat) (v2 : List (Int × ByteArray)) (v3 : List (Int × ByteArray)) (K0 : Option β) (K1 : Option β) : Nat → Int → Option β
  | 0, _ => none
  | k + 1, v1 => cond (decide (v1 < ((v2.length : Nat) : Int))) (cond (decide ((0 : Int) ≤ v1 ∧ v1 < ((v2.length : Nat) : Int))) (cond (decide (0 + v1.toNat < v2.length)) (cond (decide ((0 : Int) ≤ v1 ∧ v1 < ((v3.length : Nat) : Int))) (cond (decide (0 + v1.toNat < v3.length)) (cond (!((((v2.getD (0 + v1.toNat) (0, ByteArray.empty)).1) == ((v3.getD (0 + v1.toNat) (0, ByteArray.empty)).1)) && (((v2.getD (0 + v1.toNat) (0, ByteArray.empty)).2).toList == ((v3.getD (0 + v1.toNat) (0, ByteArray.empty)).2).toList))) (K0) (f17_1_l4 F v2 v3 K0 K1 k (IntKind.i64.wrap (v1 + 1)))) none) none) none) none) (K1)
noncomputable def f17_1 {β : Type} (F : Nat) (a1 : List (Int × ByteArray)) (a2 : List (Int × ByteArray)) (K0 : Bool → Option β) : Option β := cond (((a1.length : Nat) : Int) != ((a2.length : Nat) : Int)) (K0 false) (f17_1_l4 F a1 a2 (K0 false) (K0 true) F 0)
variable [FZ]
def sh17_1 : Sh := ⟨[.lf (.full 0), .lf (.full 1)], [some ⟨none, [.seq (.pair (.int .i64) .str) 0]⟩, some ⟨none, [.seq (.pair (.int .i64) .str) 0]⟩]⟩
abbrev Y17_1 := List (Int × ByteArray) → List (Int × ByteArray) → (Bool → Option Res) → Option Res
noncomputable def A17_1 (g : Y17_1) (d : sh17_1.den) (K : KF) : Option Res := g d.2.1.2.1 d.2.2.1.2.1 (fun (y0 : Bool) => K [.lf (.bool y0)] [some ⟨d.2.1.1, [.seq (.pair (.int .i64) .str) 0 d.2.1.2.1]⟩, some ⟨d.2.2.1.1, [.seq (.pair (.int .i64) .str) 0 d.2.2.1.2.1]⟩])
noncomputable def S17_1 (F : Nat) (o : Summ) : Summ := mkS sh17_1 (fun d K => A17_1 (f17_1 F) d K) o
noncomputable def code17 : Code := bodyOf Tryz.f17
noncomputable def b17_0 : Code := cB (cB (cR (cL (cR (cR (code17))))))
theorem scopes17 : scopesOf code17 = [] := by kernel_rfl
theorem ranges17 : rangesOf code17 = [] := by kernel_rfl
theorem loops17 : loopsOf code17 = [b17_0] := by kernel_rfl
theorem enter17 : ∀ args w, (callFunc 17 args).run Tryz.prog w = .ok (.enter 17 args) w := enter_of (fn := Tryz.f17) (by kernel_rfl) (by kernel_rfl) (by kernel_rfl)
noncomputable def T17_1 (F : Nat) : FuncId → Option Summ := tab []
noncomputable def TB17_1  : FuncId → Option Summ := tab []
def sh17_1_l4 : Sh := ⟨[.lf (.full 0), .lf (.full 1), .lf (.int .i64)], [some ⟨none, [.seq (.pair (.int .i64) .str) 0]⟩, some ⟨none, [.seq (.pair (.int .i64) .str) 0]⟩]⟩
abbrev Y17_1_l4 := List (Int × ByteArray) → List (Int × ByteArray) → (Option Res) → (Option Res) → Nat → Int → Option Res
noncomputable def A17_1_l4 (g : Y17_1_l4) (k : Nat) (d : sh17_1_l4.den) (K : KL) : Option Res := g d.2.1.2.1 d.2.2.1.2.1 (K .ret [.tv (.lf (.bool false))] [some ⟨d.2.1.1, [.seq (.pair (.int .i64) .str) 0 d.2.1.2.1]⟩, some ⟨d.2.2.1.1, [.seq (.pair (.int .i64) .str) 0 d.2.2.1.2.1]⟩]) (K (.exit 0) [] [some ⟨d.2.1.1, [.seq (.pair (.int .i64) .str) 0 d.2.1.2.1]⟩, some ⟨d.2.2.1.1, [.seq (.pair (.int .i64) .str) 0 d.2.2.1.2.1]⟩]) k d.1.2.2.1
noncomputable def G17_1_4 (F k : Nat) : LoopS := mkG sh17_1_l4 [0, 1, 5] (outT [(.exit 0, []), (.ret, [4])]) (fun d K => A17_1_l4 (f17_1_l4 F) k d K) []
noncomputable def LT17_1 (F : Nat) : Nat → Option LoopS := ltab [(4, G17_1_4 F F)]
theorem L17_1_l4g (F k : Nat)   (l4 : Y17_1_l4) (X4 : LoopS) (d : sh17_1_l4.den) (K : KL) : A17_1_l4 ((fun (v2 : List (Int × ByteArray)) (v3 : List (Int × ByteArray)) (K0 : (Option Res)) (K1 : (Option Res)) (k : Nat) (v1 : Int) => cond (decide (v1 < ((v2.length : Nat) : Int))) (cond (decide ((0 : Int) ≤ v1 ∧ v1 < ((v2.length : Nat) : Int))) (cond (decide (0 + v1.toNat < v2.length)) (cond (decide ((0 : Int) ≤ v1 ∧ v1 < ((v3.length : Nat) : Int))) (cond (decide (0 + v1.toNat < v3.length)) (cond (!((((v2.getD (0 + v1.toNat) (0, ByteArray.empty)).1) == ((v3.getD (0 + v1.toNat) (0, ByteArray.empty)).1)) && (((v2.getD (0 + v1.toNat) (0, ByteArray.empty)).2).toList == ((v3.getD (0 + v1.toNat) (0, ByteArray.empty)).2).toList))) (K0) (l4 v2 v3 K0 K1 k (IntKind.i64.wrap (v1 + 1)))) none) none) none) none) (K1))) k d K = roundOf Tryz.prog TB17_1 (xw []) 26 2 (ltab [(4, X4)]) (mkG sh17_1_l4 [0, 1, 5] (outT [(.exit 0, []), (.ret, [4])]) (fun d K => A17_1_l4 l4 k d K) []) b17_0 (encT sh17_1_l4.vs d.1) (encH sh17_1_l4.h d.2) K := by kernel_rfl
theorem L17_1_4 (F : Nat) : LoopOK Tryz.prog (T17_1 F) (xw []) 26 2 (LT17_1 F) (G17_1_4 F F) b17_0 :=
  loopOK_of (s := sh17_1_l4) (live := [0, 1, 5]) (out := (outT [(.exit 0, []), (.ret, [4])])) (mv := []) (fun k d K => A17_1_l4 (f17_1_l4 F) k d K) F (fun d K => by kernel_rfl)  (fun k d K => Eq.mp (by kernel_rfl) (L17_1_l4g F k   (f17_1_l4 F) (G17_1_4 F F) d K))
theorem E17_1g (F : Nat)  (l4 : Y17_1_l4)  (d : sh17_1.den) (K : KF) : evBody Tryz.prog TB17_1 (xw []) 26 2 (ltab [(4, mkG sh17_1_l4 [0, 1, 5] (outT [(.exit 0, []), (.ret, [4])]) (fun d K => A17_1_l4 l4 F d K) [])]) [] code17 Tryz.f17.results.toList (encT sh17_1.vs d.1) (encH sh17_1.h d.2) K = A17_1 (fun (a1 : List (Int × ByteArray)) (a2 : List (Int × ByteArray)) (K0 : (Bool → Option Res)) => cond (((a1.length : Nat) : Int) != ((a2.length : Nat) : Int)) (K0 false) (l4 a1 a2 (K0 false) (K0 true) F 0)) d K := by kernel_rfl
theorem E17_1 (F : Nat) (d : sh17_1.den) (K : KF) : evBody Tryz.prog (T17_1 F) (xw []) 26 2 (LT17_1 F) [] code17 Tryz.f17.results.toList (encT sh17_1.vs d.1) (encH sh17_1.h d.2) K = A17_1 (f17_1 F) d K := Eq.mp (by kernel_rfl) (E17_1g F  (f17_1_l4 F)  d K)
theorem S17_1_ok (F : Nat) (o : Summ) (ho : SoundFn Tryz.prog 17 o) : SoundFn Tryz.prog 17 (S17_1 F o) :=
  soundFn_of (fn := Tryz.f17) (c := code17) rfl rfl (by kernel_rfl) tab_nil (by kernel_rfl) (by kernel_rfl) ho (by rw [loops17]; exact (loopsOK_cons (by kernel_rfl) (L17_1_4 F) loopsOK_nil)) (by rw [scopes17]; exact scopesOK_nil) (by rw [ranges17]; exact rangesOK_nil) (E17_1 F)
end Go.Proofs.YtlgopekjjkdkiaaGreatDoor.X
end

section
namespace Go.Proofs.YtlgopekjjkdkiaaGreatDoor.X
open Go Go.Proofs.YtlgopekjjkdkiaaGreatDoor.Ev Go.Proofs
set_option linter.unusedVariables false
set_option linter.unusedSectionVars false
/-! api.Put] -/
noncomputable def f78_1 {β : Type} (F : Nat) (a1 : List (Int × ByteArray)) (K0 : List (Int × ByteArray) → Option β) : Option β := cond (decide (0 < a1.length)) (cond (decide ((0 + a1.length) * 24 ≤ 70368744177664)) (K0 ([] ++ a1)) none) (amb (K0 []) (cond (decide ((0 + a1.length) * 24 ≤ 70368744177664)) (K0 ([] ++ a1)) none))
variable [FZ]
def sh78_1 : Sh := ⟨[.lf (.full 0)], [some ⟨none, [.seq (.pair (.int .i64) .str) 0]⟩]⟩
abbrev Y78_1 := List (Int × ByteArray) → (List (Int × ByteArray) → Option Res) → Option Res
noncomputable def A78_1 (g : Y78_1) (d : sh78_1.den) (K : KF) : Option Res := g d.2.1.2.1 (fun (y1 : List (Int × ByteArray)) => K [.lf (.full 1)] [some ⟨d.2.1.1, [.seq (.pair (.int .i64) .str) 0 d.2.1.2.1]⟩, some ⟨false, [.seq (.pair (.int .i64) .str) 0 y1]⟩])
noncomputable def S78_1 (F : Nat) (o : Summ) : Summ := mkS sh78_1 (fun d K => A78_1 (f78_1 F) d K) o
noncomputable def code78 : Code := bodyOf Tryz.f78
theorem scopes78 : scopesOf code78 = [] := by kernel_rfl
theorem ranges78 : rangesOf code78 = [] := by kernel_rfl
theorem loops78 : loopsOf code78 = [] := by kernel_rfl
theorem enter78 : ∀ args w, (callFunc 78 args).run Tryz.prog w = .ok (.enter 78 args) w := enter_of (fn := Tryz.f78) (by kernel_rfl) (by kernel_rfl) (by kernel_rfl)
noncomputable def T78_1 (F : Nat) : FuncId → Option Summ := tab []
noncomputable def TB78_1  : FuncId → Option Summ := tab []
noncomputable def LT78_1 (F : Nat) : Nat → Option LoopS := ltab []
theorem E78_1g (F : Nat)    (d : sh78_1.den) (K : KF) : evBody Tryz.prog TB78_1 (xw []) 8 1 (ltab []) [] code78 Tryz.f78.results.toList (encT sh78_1.vs d.1) (encH sh78_1.h d.2) K = A78_1 (fun (a1 : List (Int × ByteArray)) (K0 : (List (Int × ByteArray) → Option Res)) => cond (decide (0 < a1.length)) (cond (decide ((0 + a1.length) * 24 ≤ 70368744177664)) (K0 ([] ++ a1)) none) (amb (K0 []) (cond (decide ((0 + a1.length) * 24 ≤ 70368744177664)) (K0 ([] ++ a1)) none))) d K := by kernel_rfl
theorem E78_1 (F : Nat) (d : sh78_1.den) (K : KF) : evBody Tryz.prog (T78_1 F) (xw []) 8 1 (LT78_1 F) [] code78 Tryz.f78.results.toList (encT sh78_1.vs d.1) (encH sh78_1.h d.2) K = A78_1 (f78_1 F) d K := Eq.mp (by kernel_rfl) (E78_1g F    d K)
theorem S78_1_ok (F : Nat) (o : Summ) (ho : SoundFn Tryz.prog 78 o) : SoundFn Tryz.prog 78 (S78_1 F o) :=
  soundFn_of (fn := Tryz.f78) (c := code78) rfl rfl (by kernel_rfl) tab_nil (by kernel_rfl) (by kernel_rfl) ho (by rw [loops78]; exact loopsOK_nil) (by rw [scopes78]; exact scopesOK_nil) (by rw [ranges78]; exact rangesOK_nil) (E78_1 F)
end Go.Proofs.YtlgopekjjkdkiaaGreatDoor.X
end

section
namespace Go.Proofs.YtlgopekjjkdkiaaGreatDoor.X
open Go Go.Proofs.YtlgopekjjkdkiaaGreatDoor.Ev Go.Proofs
set_option linter.unusedVariables false
set_option linter.unusedSectionVars false
/-! disk.Disk).Waits -/
noncomputable def f18_1 {β : Type} (F : Nat) (a1 : Int) (a2 : Bool) (a3 : Int) (a4 : List ByteArray) (a5 : List (Int × ByteArray)) (K0 : List (Int × ByteArray) → Option β) : Option β := f78_1 F a5 (fun x1 => K0 x1) 
variable [FZ]
def sh18_1 : Sh := ⟨[.lf (.ptr 0 0)], [some ⟨none, [.full 1, .full 2, .int .i64, .bool, .int .i64]⟩, some ⟨none, [.seq .str 0]⟩, some ⟨none, [.seq (.pair (.int .i64) .str) 0]⟩]⟩
abbrev Y18_1 := Int → Bool → Int → List ByteArray → List (Int × ByteArray) → (List (Int × ByteArray) → Option Res) → Option Res
noncomputable def A18_1 (g : Y18_1) (d : sh18_1.den) (K : KF) : Option Res := g d.2.1.2.2.2.1 d.2.1.2.2.2.2.1 d.2.1.2.2.2.2.2.1 d.2.2.1.2.1 d.2.2.2.1.2.1 (fun (y5 : List (Int × ByteArray)) => K [.lf (.full 3)] [some ⟨d.2.1.1, [.full 1, .full 2, .int .i64 d.2.1.2.2.2.1, .bool d.2.1.2.2.2.2.1, .int .i64 d.2.1.2.2.2.2.2.1]⟩, some ⟨d.2.2.1.1, [.seq .str 0 d.2.2.1.2.1]⟩, some ⟨d.2.2.2.1.1, [.seq (.pair (.int .i64) .str) 0 d.2.2.2.1.2.1]⟩, some ⟨false, [.seq (.pair (.int .i64) .str) 0 y5]⟩])
noncomputable def S18_1 (F : Nat) (o : Summ) : Summ := mkS sh18_1 (fun d K => A18_1 (f18_1 F) d K) o
noncomputable def code18 : Code := bodyOf Tryz.f18
theorem scopes18 : scopesOf code18 = [] := by kernel_rfl
theorem ranges18 : rangesOf code18 = [] := by kernel_rfl
theorem loops18 : loopsOf code18 = [] := by kernel_rfl
theorem enter18 : ∀ args w, (callFunc 18 args).run Tryz.prog w = .ok (.enter 18 args) w := enter_of (fn := Tryz.f18) (by kernel_rfl) (by kernel_rfl) (by kernel_rfl)
noncomputable def T18_1 (F : Nat) : FuncId → Option Summ := tab [(78, (S78_1 F noS))]
noncomputable def TB18_1 (c78_1 : Y78_1) : FuncId → Option Summ := tab [(78, (mkS sh78_1 (fun d K => A78_1 c78_1 d K) noS))]
noncomputable def LT18_1 (F : Nat) : Nat → Option LoopS := ltab []
theorem E18_1g (F : Nat) (c78_1 : Y78_1)   (d : sh18_1.den) (K : KF) : evBody Tryz.prog (TB18_1 c78_1) (xw []) 10 3 (ltab []) [] code18 Tryz.f18.results.toList (encT sh18_1.vs d.1) (encH sh18_1.h d.2) K = A18_1 (fun (a1 : Int) (a2 : Bool) (a3 : Int) (a4 : List ByteArray) (a5 : List (Int × ByteArray)) (K0 : (List (Int × ByteArray) → Option Res)) => c78_1 a5 (fun x1 => K0 x1) ) d K := by kernel_rfl
theorem E18_1 (F : Nat) (d : sh18_1.den) (K : KF) : evBody Tryz.prog (T18_1 F) (xw []) 10 3 (LT18_1 F) [] code18 Tryz.f18.results.toList (encT sh18_1.vs d.1) (encH sh18_1.h d.2) K = A18_1 (f18_1 F) d K := Eq.mp (by kernel_rfl) (E18_1g F (f78_1 F)   d K)
theorem S18_1_ok (F : Nat) (o : Summ) (ho : SoundFn Tryz.prog 18 o) : SoundFn Tryz.prog 18 (S18_1 F o) :=
  soundFn_of (fn := Tryz.f18) (c := code18) rfl rfl (by kernel_rfl) (tab_cons (S78_1_ok F _ (noS_sound enter78)) tab_nil) (by kernel_rfl) (by kernel_rfl) ho (by rw [loops18]; exact loopsOK_nil) (by rw [scopes18]; exact scopesOK_nil) (by rw [ranges18]; exact rangesOK_nil) (E18_1 F)
end Go.Proofs.YtlgopekjjkdkiaaGreatDoor.X
end

section
namespace Go.Proofs.YtlgopekjjkdkiaaGreatDoor.X
open Go Go.Proofs.YtlgopekjjkdkiaaGreatDoor.Ev Go.Proofs
set_option linter.unusedVariables false
set_option linter.unusedSectionVars false
/-! disk.Disk).Waits -/
noncomputable def f18_568 {β : Type} (F : Nat)  (K0 : List (Int × ByteArray) → Option β) : Option β := K0 []
variable [FZ]
def sh18_568 : Sh := ⟨[.lf (.nilp)], []⟩
abbrev Y18_568 := (List (Int × ByteArray) → Option Res) → Option Res
noncomputable def A18_568 (g : Y18_568) (d : sh18_568.den) (K : KF) : Option Res := g (fun (y0 : List (Int × ByteArray)) => K [.lf (.full 0)] [some ⟨false, [.seq (.pair (.int .i64) .str) 0 y0]⟩])
noncomputable def S18_568 (F : Nat) (o : Summ) : Summ := mkS sh18_568 (fun d K => A18_568 (f18_568 F) d K) o
noncomputable def T18_568 (F : Nat) : FuncId → Option Summ := tab []
noncomputable def TB18_568  : FuncId → Option Summ := tab []
noncomputable def LT18_568 (F : Nat) : Nat → Option LoopS := ltab []
theorem E18_568g (F : Nat)    (d : sh18_568.den) (K : KF) : evBody Tryz.prog TB18_568 (xw []) 10 0 (ltab []) [] code18 Tryz.f18.results.toList (encT sh18_568.vs d.1) (encH sh18_568.h d.2) K = A18_568 (fun (K0 : (List (Int × ByteArray) → Option Res)) => K0 []) d K := by kernel_rfl
theorem E18_568 (F : Nat) (d : sh18_568.den) (K : KF) : evBody Tryz.prog (T18_568 F) (xw []) 10 0 (LT18_568 F) [] code18 Tryz.f18.results.toList (encT sh18_568.vs d.1) (encH sh18_568.h d.2) K = A18_568 (f18_568 F) d K := Eq.mp (by kernel_rfl) (E18_568g F    d K)
theorem S18_568_ok (F : Nat) (o : Summ) (ho : SoundFn Tryz.prog 18 o) : SoundFn Tryz.prog 18 (S18_568 F o) :=
  soundFn_of (fn := Tryz.f18) (c := code18) rfl rfl (by kernel_rfl) tab_nil (by kernel_rfl) (by kernel_rfl) ho (by rw [loops18]; exact loopsOK_nil) (by rw [scopes18]; exact scopesOK_nil) (by rw [ranges18]; exact rangesOK_nil) (E18_568 F)
end Go.Proofs.YtlgopekjjkdkiaaGreatDoor.X
end

section
namespace Go.Proofs.YtlgopekjjkdkiaaGreatDoor.X
open Go Go.Proofs.YtlgopekjjkdkiaaGreatDoor.Ev Go.Proofs
set_option linter.unusedVariables false
set_option linter.unusedSectionVars false
/-! pentimentolaw17.CowPlays -/
noncomputable def f3_1_l6 [FZ] {β : Type} (F : Nat) (v4 : Int) (v6 : List (Int × (Int × (Int × (Int × (ByteArray × (Sl .bool))))))) (v7 : Int) (v8 : Int) (v9 : Int) (v10 : Int) (K0 : Bool → Option β) (K1 : Option β) : Nat → Int → Option β
  | 0, _ => none
  | k + 1, v5 => cond (decide (v5 < ((v6.length : Nat) : Int))) (cond (decide ((0 : Int) ≤ v5 ∧ v5 < ((v6.length : Nat) : Int))) (cond (decide (0 + v5.toNat < v6.length)) (cond (decide ((((((((v6.getD (0 + v5.toNat) (0, (0, (0, (0, (ByteArray.empty, (Sl.nil .bool))))))).2).2).2).2).1).size : Int) > 200)) (f11_1 F  (fun x11 => K0 x11) ) (cond (decide ((0 : Int) ≤ v5 ∧ v5 < ((v6.length : Nat) : Int))) (cond (decide (0 + v5.toNat < v6.length)) (f14_9465 F v7 v8 v9 v10 ((v6.getD (0 + v5.toNat) (0, (0, (0, (0, (ByteArray.empty, (Sl.nil .bool))))))).1) (((v6.getD (0 + v5.toNat) (0, (0, (0, (0, (ByteArray.empty, (Sl.nil .bool))))))).2).1) ((((v6.getD (0 + v5.toNat) (0, (0, (0, (0, (ByteArray.empty, (Sl.nil .bool))))))).2).2).1) (((((v6.getD (0 + v5.toNat) (0, (0, (0, (0, (ByteArray.empty, (Sl.nil .bool))))))).2).2).2).1) ((((((v6.getD (0 + v5.toNat) (0, (0, (0, (0, (ByteArray.empty, (Sl.nil .bool))))))).2).2).2).2).1) ((((((v6.getD (0 + v5.toNat) (0, (0, (0, (0, (ByteArray.empty, (Sl.nil .bool))))))).2).2).2).2).2) (fun x12 => cond (!x12) (K0 false) (f3_1_l6 F v4 v6 v7 v8 v9 v10 K0 K1 k (IntKind.i64.wrap (v5 + 1)))) ) none) none)) none) none) (K1)
noncomputable def f3_1_l13 [FZ] {β : Type} (F : Nat) (v14 : Int) (v15 : Int) (v16 : List (Int × (Int × (Int × (Int × (ByteArray × (Sl .bool))))))) (K0 : Option β) : Nat → Option β
  | 0 => none
  | k + 1 => cond (decide (v15 < v14)) (f15_6206 F v15 (none) ) (K0)
noncomputable def f3_1_l6_2 [FZ] {β : Type} (F : Nat) (v19 : Int) (v21 : List (Int × (Int × (Int × (Int × (ByteArray × (Sl .bool))))))) (v22 : Int) (v23 : Int) (v24 : Int) (v25 : Int) (K0 : Bool → Int → Bool → Int → List ByteArray → List (Int × ByteArray) → Option β) (K1 : Int → Bool → Int → List ByteArray → List (Int × ByteArray) → Option β) (K2 : Int → Bool → Int → List ByteArray → List (Int × ByteArray) → Option β) : Nat → Int → Int → Bool → Int → List ByteArray → List (Int × ByteArray) → Option β
  | 0, _, _, _, _, _, _ => none
  | k + 1, v20, v26, v27, v28, v29, v30 => cond (decide (v20 < ((v21.length : Nat) : Int))) (cond (decide ((0 : Int) ≤ v20 ∧ v20 < ((v21.length : Nat) : Int))) (cond (decide (0 + v20.toNat < v21.length)) (cond (decide ((((((((v21.getD (0 + v20.toNat) (0, (0, (0, (0, (ByteArray.empty, (Sl.nil .bool))))))).2).2).2).2).1).size : Int) > 200)) (f11_1 F  (fun x31 => K0 x31 v26 v27 v28 v29 v30) ) (cond (decide ((0 : Int) ≤ v20 ∧ v20 < ((v21.length : Nat) : Int))) (cond (decide (0 + v20.toNat < v21.length)) (f14_7171 F v22 v23 v24 v25 ((v21.getD (0 + v20.toNat) (0, (0, (0, (0, (ByteArray.empty, (Sl.nil .bool))))))).1) (((v21.getD (0 + v20.toNat) (0, (0, (0, (0, (ByteArray.empty, (Sl.nil .bool))))))).2).1) ((((v21.getD (0 + v20.toNat) (0, (0, (0, (0, (ByteArray.empty, (Sl.nil .bool))))))).2).2).1) (((((v21.getD (0 + v20.toNat) (0, (0, (0, (0, (ByteArray.empty, (Sl.nil .bool))))))).2).2).2).1) ((((((v21.getD (0 + v20.toNat) (0, (0, (0, (0, (ByteArray.empty, (Sl.nil .bool))))))).2).2).2).2).1) ((((((v21.getD (0 + v20.toNat) (0, (0, (0, (0, (ByteArray.empty, (Sl.nil .bool))))))).2).2).2).2).2) v26 v27 v28 v29 v30 (fun x32 x33 x34 x35 x36 x37 => cond (!x32) (K1 x33 x34 x35 x36 x37) (f3_1_l6_2 F v19 v21 v22 v23 v24 v25 K0 K1 K2 k (IntKind.i64.wrap (v20 + 1)) x33 x34 x35 x36 x37)) ) none) none)) none) none) (K2 v26 v27 v28 v29 v30)
noncomputable def f3_1_l13_2 [FZ] {β : Type} (F : Nat) (v54 : Int) (v56 : List (Int × (Int × (Int × (Int × (ByteArray × (Sl .bool))))))) (v57 : Int) (v58 : Bool) (v59 : Int) (v60 : List ByteArray) (v61 : List (Int × ByteArray)) (K0 : Option β) (K1 : Option β) : Nat → Int → Option β
  | 0, _ => none
  | k + 1, v55 => cond (decide (v55 < v54)) (f15_6206 F v55 (cond (decide ((0 : Int) ≤ v55 ∧ v55 < ((v60.length : Nat) : Int))) (cond (decide (0 + v55.toNat < v60.length)) (cond (!(ByteArray.empty.toList == (v60.getD (0 + v55.toNat) ByteArray.empty).toList)) (K0) (f3_1_l13_2 F v54 v56 v57 v58 v59 v60 v61 K0 K1 k (IntKind.i64.wrap (v55 + 1)))) none) none) ) (K1)
noncomputable def f3_1_l6_3 [FZ] {β : Type} (F : Nat) (v67 : Int) (v69 : List (Int × (Int × (Int × (Int × (ByteArray × (Sl .bool))))))) (v70 : Int) (v71 : Int) (v72 : Int) (v73 : Int) (K0 : Bool → Int → Bool → Int → List ByteArray → List (Int × ByteArray) → Option β) (K1 : Int → Bool → Int → List ByteArray → List (Int × ByteArray) → Option β) (K2 : Int → Bool → Int → List ByteArray → List (Int × ByteArray) → Option β) : Nat → Int → Int → Bool → Int → List ByteArray → List (Int × ByteArray) → Option β
  | 0, _, _, _, _, _, _ => none
  | k + 1, v68, v74, v75, v76, v77, v78 => cond (decide (v68 < ((v69.length : Nat) : Int))) (cond (decide ((0 : Int) ≤ v68 ∧ v68 < ((v69.length : Nat) : Int))) (cond (decide (0 + v68.toNat < v69.length)) (cond (decide ((((((((v69.getD (0 + v68.toNat) (0, (0, (0, (0, (ByteArray.empty, (Sl.nil .bool))))))).2).2).2).2).1).size : Int) > 200)) (f11_1 F  (fun x79 => K0 x79 v74 v75 v76 v77 v78) ) (cond (decide ((0 : Int) ≤ v68 ∧ v68 < ((v69.length : Nat) : Int))) (cond (decide (0 + v68.toNat < v69.length)) (f14_269 F v70 v71 v72 v73 ((v69.getD (0 + v68.toNat) (0, (0, (0, (0, (ByteArray.empty, (Sl.nil .bool))))))).1) (((v69.getD (0 + v68.toNat) (0, (0, (0, (0, (ByteArray.empty, (Sl.nil .bool))))))).2).1) ((((v69.getD (0 + v68.toNat) (0, (0, (0, (0, (ByteArray.empty, (Sl.nil .bool))))))).2).2).1) (((((v69.getD (0 + v68.toNat) (0, (0, (0, (0, (ByteArray.empty, (Sl.nil .bool))))))).2).2).2).1) ((((((v69.getD (0 + v68.toNat) (0, (0, (0, (0, (ByteArray.empty, (Sl.nil .bool))))))).2).2).2).2).1) ((((((v69.getD (0 + v68.toNat) (0, (0, (0, (0, (ByteArray.empty, (Sl.nil .bool))))))).2).2).2).2).2) v74 v75 v76 v77 v78 (fun x80 x81 x82 x83 x84 x85 => cond (!x80) (K1 x81 x82 x83 x84 x85) (f3_1_l6_3 F v67 v69 v70 v71 v72 v73 K0 K1 K2 k (IntKind.i64.wrap (v68 + 1)) x81 x82 x83 x84 x85)) ) none) none)) none) none) (K2 v74 v75 v76 v77 v78)
noncomputable def f3_1_l13_3 [FZ] {β : Type} (F : Nat) (v102 : Int) (v103 : Int) (v104 : List (Int × (Int × (Int × (Int × (ByteArray × (Sl .bool))))))) (v105 : Int) (v106 : Bool) (v107 : Int) (v108 : List ByteArray) (v109 : List (Int × ByteArray)) (K0 : Option β) : Nat → Option β
  | 0 => none
  | k + 1 => cond (decide (v103 < v102)) (f15_1 F v103 v105 v106 v107 v108 v109 (fun x110 x111 => none) ) (K0)
noncomputable def f3_1_l6_4 [FZ] {β : Type} (F : Nat) (v114 : Int) (v116 : List (Int × (Int × (Int × (Int × (ByteArray × (Sl .bool))))))) (v117 : Int) (v118 : Int) (v119 : Int) (v120 : Int) (K0 : Bool → Int → Bool → Int → List ByteArray → List (Int × ByteArray) → Int → Bool → Int → List ByteArray → List (Int × ByteArray) → Option β) (K1 : Int → Bool → Int → List ByteArray → Int → Bool → Int → List ByteArray → List (Int × ByteArray) → List (Int × ByteArray) → Option β) (K2 : Int → Bool → Int → List ByteArray → List (Int × ByteArray) → Int → Bool → Int → List ByteArray → List (Int × ByteArray) → Option β) : Nat → Int → Int → Bool → Int → List ByteArray → List (Int × ByteArray) → Int → Bool → Int → List ByteArray → List (Int × ByteArray) → Option β
  | 0, _, _, _, _, _, _, _, _, _, _, _ => none
  | k + 1, v115, v121, v122, v123, v124, v125, v126, v127, v128, v129, v130 => cond (decide (v115 < ((v116.length : Nat) : Int))) (cond (decide ((0 : Int) ≤ v115 ∧ v115 < ((v116.length : Nat) : Int))) (cond (decide (0 + v115.toNat < v116.length)) (cond (decide ((((((((v116.getD (0 + v115.toNat) (0, (0, (0, (0, (ByteArray.empty, (Sl.nil .bool))))))).2).2).2).2).1).size : Int) > 200)) (f11_1 F  (fun x131 => K0 x131 v121 v122 v123 v124 v125 v126 v127 v128 v129 v130) ) (cond (decide ((0 : Int) ≤ v115 ∧ v115 < ((v116.length : Nat) : Int))) (cond (decide (0 + v115.toNat < v116.length)) (f14_1 F v117 v118 v119 v120 ((v116.getD (0 + v115.toNat) (0, (0, (0, (0, (ByteArray.empty, (Sl.nil .bool))))))).1) (((v116.getD (0 + v115.toNat) (0, (0, (0, (0, (ByteArray.empty, (Sl.nil .bool))))))).2).1) ((((v116.getD (0 + v115.toNat) (0, (0, (0, (0, (ByteArray.empty, (Sl.nil .bool))))))).2).2).1) (((((v116.getD (0 + v115.toNat) (0, (0, (0, (0, (ByteArray.empty, (Sl.nil .bool))))))).2).2).2).1) ((((((v116.getD (0 + v115.toNat) (0, (0, (0, (0, (ByteArray.empty, (Sl.nil .bool))))))).2).2).2).2).1) ((((((v116.getD (0 + v115.toNat) (0, (0, (0, (0, (ByteArray.empty, (Sl.nil .bool))))))).2).2).2).2).2) v121 v122 v123 v124 v125 v126 v127 v128 v129 v130 (fun x132 x133 x134 x135 x136 x137 x138 x139 x140 x141 x142 => cond (!x132) (K1 x133 x134 x135 x136 x137 x138 x139 x140 x141 x142) (f3_1_l6_4 F v114 v116 v117 v118 v119 v120 K0 K1 K2 k (IntKind.i64.wrap (v115 + 1)) x133 x134 x135 x136 x141 x137 x138 x139 x140 x142)) ) none) none)) none) none) (K2 v121 v122 v123 v124 v125 v126 v127 v128 v129 v130)
noncomputable def f3_1_l13_4 [FZ] {β : Type} (F : Nat) (v174 : Int) (v176 : List (Int × (Int × (Int × (Int × (ByteArray × (Sl .bool))))))) (v177 : Int) (v178 : Bool) (v179 : Int) (v180 : List ByteArray) (v181 : List (Int × ByteArray)) (v182 : Int) (v183 : Bool) (v184 : Int) (v185 : List ByteArray) (v186 : List (Int × ByteArray)) (K0 : Option β) (K1 : Option β) : Nat → Int → Option β
  | 0, _ => none
  | k + 1, v175 => cond (decide (v175 < v174)) (f15_1 F v175 v177 v178 v179 v180 v181 (fun x187 x188 => cond (decide ((0 : Int) ≤ v175 ∧ v175 < ((v185.length : Nat) : Int))) (cond (decide (0 + v175.toNat < v185.length)) (cond (!(x187.toList == (v185.getD (0 + v175.toNat) ByteArray.empty).toList)) (K0) (f3_1_l13_4 F v174 v176 v177 v178 v179 v180 v181 v182 v183 v184 v185 v186 K0 K1 k (IntKind.i64.wrap (v175 + 1)))) none) none) ) (K1)
noncomputable def f3_1 [FZ] {β : Type} (F : Nat) (a1 : Int) (a2 : Int) (a3 : Int) (a4 : Int) (a5 : Int) (a6 : List (Int × (Int × (Int × (Int × (ByteArray × (Sl .bool))))))) (K0 : Bool → Option β) : Option β := cond (decide (a5 < 1)) (f11_1 F  (fun x1 => K0 x1) ) (cond (decide (a5 > 120)) (f11_1 F  (fun x2 => K0 x2) ) (cond (decide (((a6.length : Nat) : Int) > 40)) (f11_1 F  (fun x3 => K0 x3) ) (f12_1 F a5 (f13_1 F a5 (f3_1_l6 F a5 a6 a1 a2 a3 a4 (fun x13 => K0 x13) (f3_1_l13 F a5 0 a6 (none) F) F 0) (fun x17 x18 => f3_1_l6_2 F a5 a6 a1 a2 a3 a4 (fun x38 x39 x40 x41 x42 x43 => K0 x38) (fun x44 x45 x46 x47 x48 => K0 false) (fun x49 x50 x51 x52 x53 => f3_1_l13_2 F a5 a6 x49 x50 x51 x52 x53 (K0 false) (f16_568 F  (cond ((0 : Int) == x51) (f18_568 F  (fun x62 => f17_1 F x62 x53 (fun x63 => cond x63 (f11_1 F  (fun x64 => K0 x64) ) (K0 false)) ) ) (K0 false)) ) F 0) F 0 (-1) false 0 x17 x18) ) (fun x65 x66 => f13_1 F a5 (f3_1_l6_3 F a5 a6 a1 a2 a3 a4 (fun x86 x87 x88 x89 x90 x91 => K0 x86) (fun x92 x93 x94 x95 x96 => K0 false) (fun x97 x98 x99 x100 x101 => f3_1_l13_3 F a5 0 a6 x97 x98 x99 x100 x101 (none) F) F 0 (-1) false 0 x65 x66) (fun x112 x113 => f3_1_l6_4 F a5 a6 a1 a2 a3 a4 (fun x143 x144 x145 x146 x147 x148 x149 x150 x151 x152 x153 => K0 x143) (fun x154 x155 x156 x157 x158 x159 x160 x161 x162 x163 => K0 false) (fun x164 x165 x166 x167 x168 x169 x170 x171 x172 x173 => f3_1_l13_4 F a5 a6 x164 x165 x166 x167 x168 x169 x170 x171 x172 x173 (K0 false) (f16_1 F x164 x165 x166 x167 x168 (cond (x166 == x171) (f18_1 F x164 x165 x166 x167 x168 (fun x189 => f17_1 F x189 x173 (fun x190 => cond x190 (f11_1 F  (fun x191 => K0 x191) ) (K0 false)) ) ) (K0 false)) ) F 0) F 0 (-1) false 0 x65 x66 (-1) false 0 x112 x113) ) )))
variable [FZ]
def sh3_1 : Sh := ⟨[.agg [.int .i64, .int .i64, .int .i64, .int .i64], .lf (.int .i64), .lf (.full 0)], [some ⟨none, [.seq (.pair (.int .i64) (.pair (.int .i64) (.pair (.int .u64) (.pair (.int .i64) (.pair .str (.sl .bool)))))) 0]⟩]⟩
abbrev Y3_1 := Int → Int → Int → Int → Int → List (Int × (Int × (Int × (Int × (ByteArray × (Sl .bool)))))) → (Bool → Option Res) → Option Res
noncomputable def A3_1 (g : Y3_1) (d : sh3_1.den) (K : KF) : Option Res := g d.1.1.1 d.1.1.2.1 d.1.1.2.2.1 d.1.1.2.2.2.1 d.1.2.1 d.2.1.2.1 (fun (y0 : Bool) => K [.lf (.bool y0)] [some ⟨d.2.1.1, [.seq (.pair (.int .i64) (.pair (.int .i64) (.pair (.int .u64) (.pair (.int .i64) (.pair .str (.sl .bool)))))) 0 d.2.1.2.1]⟩])
noncomputable def S3_1 (F : Nat) (o : Summ) : Summ := mkS sh3_1 (fun d K => A3_1 (f3_1 F) d K) o
noncomputable def code3 : Code := bodyOf Tryz.f3
noncomputable def b3_0 : Code := cB (cB (cR (cL (cR (cR (cR (cR (code3))))))))
noncomputable def b3_1 : Code := cB (cB (cR (cL (cR (cR (cR (cR (cR (code3)))))))))
theorem scopes3 : scopesOf code3 = [] := by kernel_rfl
theorem ranges3 : rangesOf code3 = [] := by kernel_rfl
theorem loops3 : loopsOf code3 = [b3_0, b3_1] := by kernel_rfl
theorem enter3 : ∀ args w, (callFunc 3 args).run Tryz.prog w = .ok (.enter 3 args) w := enter_of (fn := Tryz.f3) (by kernel_rfl) (by kernel_rfl) (by kernel_rfl)
noncomputable def T3_1 (F : Nat) : FuncId → Option Summ := tab [(11, (S11_1 F noS)), (12, (S12_1 F noS)), (13, (S13_1 F noS)), (14, (S14_1 F (S14_269 F (S14_7171 F (S14_9465 F noS))))), (15, (S15_1 F (S15_6206 F noS))), (16, (S16_1 F (S16_568 F noS))), (17, (S17_1 F noS)), (18, (S18_1 F (S18_568 F noS)))]
noncomputable def TB3_1 (c11_1 : Y11_1) (c12_1 : Y12_1) (c13_1 : Y13_1) (c14_1 : Y14_1) (c14_269 : Y14_269) (c14_7171 : Y14_7171) (c14_9465 : Y14_9465) (c15_1 : Y15_1) (c15_6206 : Y15_6206) (c16_1 : Y16_1) (c16_568 : Y16_568) (c17_1 : Y17_1) (c18_1 : Y18_1) (c18_568 : Y18_568) : FuncId → Option Summ := tab [(11, (mkS sh11_1 (fun d K => A11_1 c11_1 d K) noS)), (12, (mkS sh12_1 (fun d K => A12_1 c12_1 d K) noS)), (13, (mkS sh13_1 (fun d K => A13_1 c13_1 d K) noS)), (14, (mkS sh14_1 (fun d K => A14_1 c14_1 d K) (mkS sh14_269 (fun d K => A14_269 c14_269 d K) (mkS sh14_7171 (fun d K => A14_7171 c14_7171 d K) (mkS sh14_9465 (fun d K => A14_9465 c14_9465 d K) noS))))), (15, (mkS sh15_1 (fun d K => A15_1 c15_1 d K) (mkS sh15_6206 (fun d K => A15_6206 c15_6206 d K) noS))), (16, (mkS sh16_1 (fun d K => A16_1 c16_1 d K) (mkS sh16_568 (fun d K => A16_568 c16_568 d K) noS))), (17, (mkS sh17_1 (fun d K => A17_1 c17_1 d K) noS)), (18, (mkS sh18_1 (fun d K => A18_1 c18_1 d K) (mkS sh18_568 (fun d K => A18_568 c18_568 d K) noS)))]
def sh3_1_l6 : Sh := ⟨[.lf (.int .i64), .lf (.full 0), .lf (.ptr 1 0), .lf (.nilp), .lf (.nilp), .lf (.int .i64)], [some ⟨none, [.seq (.pair (.int .i64) (.pair (.int .i64) (.pair (.int .u64) (.pair (.int .i64) (.pair .str (.sl .bool)))))) 0]⟩, some ⟨some false, [.int .i64, .int .i64, .int .i64, .int .i64]⟩]⟩
abbrev Y3_1_l6 := Int → List (Int × (Int × (Int × (Int × (ByteArray × (Sl .bool)))))) → Int → Int → Int → Int → (Bool → Option Res) → (Option Res) → Nat → Int → Option Res
noncomputable def A3_1_l6 (g : Y3_1_l6) (k : Nat) (d : sh3_1_l6.den) (K : KL) : Option Res := g d.1.1 d.2.1.2.1 d.2.2.1.2.1 d.2.2.1.2.2.1 d.2.2.1.2.2.2.1 d.2.2.1.2.2.2.2.1 (fun (y0 : Bool) => K .ret [.tv (.lf (.bool y0))] [some ⟨d.2.1.1, [.seq (.pair (.int .i64) (.pair (.int .i64) (.pair (.int .u64) (.pair (.int .i64) (.pair .str (.sl .bool)))))) 0 d.2.1.2.1]⟩, some ⟨false, [.int .i64 d.2.2.1.2.1, .int .i64 d.2.2.1.2.2.1, .int .i64 d.2.2.1.2.2.2.1, .int .i64 d.2.2.1.2.2.2.2.1]⟩]) (K (.exit 0) [.tv (.lf (.int .i64 d.1.1)), .tv (.lf (.nilp)), .tv (.lf (.nilp))] [some ⟨d.2.1.1, [.seq (.pair (.int .i64) (.pair (.int .i64) (.pair (.int .u64) (.pair (.int .i64) (.pair .str (.sl .bool)))))) 0 d.2.1.2.1]⟩, some ⟨false, [.int .i64 d.2.2.1.2.1, .int .i64 d.2.2.1.2.2.1, .int .i64 d.2.2.1.2.2.2.1, .int .i64 d.2.2.1.2.2.2.2.1]⟩]) k d.1.2.2.2.2.2.1
def sh3_1_l13 : Sh := ⟨[.lf (.int .i64), .lf (.nilp), .lf (.nilp), .lf (.int .i64)], [some ⟨none, [.seq (.pair (.int .i64) (.pair (.int .i64) (.pair (.int .u64) (.pair (.int .i64) (.pair .str (.sl .bool)))))) 0]⟩]⟩
abbrev Y3_1_l13 := Int → Int → List (Int × (Int × (Int × (Int × (ByteArray × (Sl .bool)))))) → (Option Res) → Nat → Option Res
noncomputable def A3_1_l13 (g : Y3_1_l13) (k : Nat) (d : sh3_1_l13.den) (K : KL) : Option Res := g d.1.1 d.1.2.2.2.1 d.2.1.2.1 (K (.exit 2) [.tv (.lf (.nilp)), .tv (.lf (.nilp))] [some ⟨d.2.1.1, [.seq (.pair (.int .i64) (.pair (.int .i64) (.pair (.int .u64) (.pair (.int .i64) (.pair .str (.sl .bool)))))) 0 d.2.1.2.1]⟩]) k
def sh3_1_l6_2 : Sh := ⟨[.lf (.int .i64), .lf (.full 0), .lf (.ptr 1 0), .lf (.nilp), .lf (.ptr 2 0), .lf (.int .i64)], [some ⟨none, [.seq (.pair (.int .i64) (.pair (.int .i64) (.pair (.int .u64) (.pair (.int .i64) (.pair .str (.sl .bool)))))) 0]⟩, some ⟨some false, [.int .i64, .int .i64, .int .i64, .int .i64]⟩, some ⟨some false, [.full 3, .full 4, .int .i64, .bool, .int .i64]⟩, some ⟨some false, [.seq .str 0]⟩, some ⟨some false, [.seq (.pair (.int .i64) .str) 0]⟩]⟩
abbrev Y3_1_l6_2 := Int → List (Int × (Int × (Int × (Int × (ByteArray × (Sl .bool)))))) → Int → Int → Int → Int → (Bool → Int → Bool → Int → List ByteArray → List (Int × ByteArray) → Option Res) → (Int → Bool → Int → List ByteArray → List (Int × ByteArray) → Option Res) → (Int → Bool → Int → List ByteArray → List (Int × ByteArray) → Option Res) → Nat → Int → Int → Bool → Int → List ByteArray → List (Int × ByteArray) → Option Res
noncomputable def A3_1_l6_2 (g : Y3_1_l6_2) (k : Nat) (d : sh3_1_l6_2.den) (K : KL) : Option Res := g d.1.1 d.2.1.2.1 d.2.2.1.2.1 d.2.2.1.2.2.1 d.2.2.1.2.2.2.1 d.2.2.1.2.2.2.2.1 (fun (y0 : Bool) (y6 : Int) (y7 : Bool) (y8 : Int) (y9 : List ByteArray) (y10 : List (Int × ByteArray)) => K .ret [.tv (.lf (.bool y0))] [some ⟨d.2.1.1, [.seq (.pair (.int .i64) (.pair (.int .i64) (.pair (.int .u64) (.pair (.int .i64) (.pair .str (.sl .bool)))))) 0 d.2.1.2.1]⟩, some ⟨false, [.int .i64 d.2.2.1.2.1, .int .i64 d.2.2.1.2.2.1, .int .i64 d.2.2.1.2.2.2.1, .int .i64 d.2.2.1.2.2.2.2.1]⟩, some ⟨false, [.full 3, .full 4, .int .i64 y6, .bool y7, .int .i64 y8]⟩, some ⟨false, [.seq .str 0 y9]⟩, some ⟨false, [.seq (.pair (.int .i64) .str) 0 y10]⟩]) (fun (y6 : Int) (y7 : Bool) (y8 : Int) (y9 : List ByteArray) (y10 : List (Int × ByteArray)) => K .ret [.tv (.lf (.bool false))] [some ⟨d.2.1.1, [.seq (.pair (.int .i64) (.pair (.int .i64) (.pair (.int .u64) (.pair (.int .i64) (.pair .str (.sl .bool)))))) 0 d.2.1.2.1]⟩, some ⟨false, [.int .i64 d.2.2.1.2.1, .int .i64 d.2.2.1.2.2.1, .int .i64 d.2.2.1.2.2.2.1, .int .i64 d.2.2.1.2.2.2.2.1]⟩, some ⟨false, [.full 3, .full 5, .int .i64 y6, .bool y7, .int .i64 y8]⟩, some ⟨false, [.seq .str 0 y9]⟩, none, some ⟨false, [.seq (.pair (.int .i64) .str) 0 y10]⟩]) (fun (y6 : Int) (y7 : Bool) (y8 : Int) (y9 : List ByteArray) (y10 : List (Int × ByteArray)) => K (.exit 0) [.tv (.lf (.int .i64 d.1.1)), .tv (.lf (.nilp)), .tv (.lf (.ptr 2 0))] [some ⟨d.2.1.1, [.seq (.pair (.int .i64) (.pair (.int .i64) (.pair (.int .u64) (.pair (.int .i64) (.pair .str (.sl .bool)))))) 0 d.2.1.2.1]⟩, some ⟨false, [.int .i64 d.2.2.1.2.1, .int .i64 d.2.2.1.2.2.1, .int .i64 d.2.2.1.2.2.2.1, .int .i64 d.2.2.1.2.2.2.2.1]⟩, some ⟨false, [.full 3, .full 4, .int .i64 y6, .bool y7, .int .i64 y8]⟩, some ⟨false, [.seq .str 0 y9]⟩, some ⟨false, [.seq (.pair (.int .i64) .str) 0 y10]⟩]) k d.1.2.2.2.2.2.1 d.2.2.2.1.2.2.2.1 d.2.2.2.1.2.2.2.2.1 d.2.2.2.1.2.2.2.2.2.1 d.2.2.2.2.1.2.1 d.2.2.2.2.2.1.2.1
def sh3_1_l13_2 : Sh := ⟨[.lf (.int .i64), .lf (.nilp), .lf (.ptr 1 0), .lf (.int .i64)], [some ⟨none, [.seq (.pair (.int .i64) (.pair (.int .i64) (.pair (.int .u64) (.pair (.int .i64) (.pair .str (.sl .bool)))))) 0]⟩, some ⟨some false, [.full 2, .full 3, .int .i64, .bool, .int .i64]⟩, some ⟨some false, [.seq .str 0]⟩, some ⟨some false, [.seq (.pair (.int .i64) .str) 0]⟩]⟩
abbrev Y3_1_l13_2 := Int → List (Int × (Int × (Int × (Int × (ByteArray × (Sl .bool)))))) → Int → Bool → Int → List ByteArray → List (Int × ByteArray) → (Option Res) → (Option Res) → Nat → Int → Option Res
noncomputable def A3_1_l13_2 (g : Y3_1_l13_2) (k : Nat) (d : sh3_1_l13_2.den) (K : KL) : Option Res := g d.1.1 d.2.1.2.1 d.2.2.1.2.2.2.1 d.2.2.1.2.2.2.2.1 d.2.2.1.2.2.2.2.2.1 d.2.2.2.1.2.1 d.2.2.2.2.1.2.1 (K .ret [.tv (.lf (.bool false))] [some ⟨d.2.1.1, [.seq (.pair (.int .i64) (.pair (.int .i64) (.pair (.int .u64) (.pair (.int .i64) (.pair .str (.sl .bool)))))) 0 d.2.1.2.1]⟩, some ⟨false, [.full 2, .full 3, .int .i64 d.2.2.1.2.2.2.1, .bool d.2.2.1.2.2.2.2.1, .int .i64 d.2.2.1.2.2.2.2.2.1]⟩, some ⟨false, [.seq .str 0 d.2.2.2.1.2.1]⟩, some ⟨false, [.seq (.pair (.int .i64) .str) 0 d.2.2.2.2.1.2.1]⟩]) (K (.exit 2) [.tv (.lf (.nilp)), .tv (.lf (.ptr 1 0))] [some ⟨d.2.1.1, [.seq (.pair (.int .i64) (.pair (.int .i64) (.pair (.int .u64) (.pair (.int .i64) (.pair .str (.sl .bool)))))) 0 d.2.1.2.1]⟩, some ⟨false, [.full 2, .full 3, .int .i64 d.2.2.1.2.2.2.1, .bool d.2.2.1.2.2.2.2.1, .int .i64 d.2.2.1.2.2.2.2.2.1]⟩, some ⟨false, [.seq .str 0 d.2.2.2.1.2.1]⟩, some ⟨false, [.seq (.pair (.int .i64) .str) 0 d.2.2.2.2.1.2.1]⟩]) k d.1.2.2.2.1
def sh3_1_l6_3 : Sh := ⟨[.lf (.int .i64), .lf (.full 0), .lf (.ptr 1 0), .lf (.ptr 2 0), .lf (.nilp), .lf (.int .i64)], [some ⟨none, [.seq (.pair (.int .i64) (.pair (.int .i64) (.pair (.int .u64) (.pair (.int .i64) (.pair .str (.sl .bool)))))) 0]⟩, some ⟨some false, [.int .i64, .int .i64, .int .i64, .int .i64]⟩, some ⟨some false, [.full 3, .full 4, .int .i64, .bool, .int .i64]⟩, some ⟨some false, [.seq .str 0]⟩, some ⟨some false, [.seq (.pair (.int .i64) .str) 0]⟩]⟩
abbrev Y3_1_l6_3 := Int → List (Int × (Int × (Int × (Int × (ByteArray × (Sl .bool)))))) → Int → Int → Int → Int → (Bool → Int → Bool → Int → List ByteArray → List (Int × ByteArray) → Option Res) → (Int → Bool → Int → List ByteArray → List (Int × ByteArray) → Option Res) → (Int → Bool → Int → List ByteArray → List (Int × ByteArray) → Option Res) → Nat → Int → Int → Bool → Int → List ByteArray → List (Int × ByteArray) → Option Res
noncomputable def A3_1_l6_3 (g : Y3_1_l6_3) (k : Nat) (d : sh3_1_l6_3.den) (K : KL) : Option Res := g d.1.1 d.2.1.2.1 d.2.2.1.2.1 d.2.2.1.2.2.1 d.2.2.1.2.2.2.1 d.2.2.1.2.2.2.2.1 (fun (y0 : Bool) (y6 : Int) (y7 : Bool) (y8 : Int) (y9 : List ByteArray) (y10 : List (Int × ByteArray)) => K .ret [.tv (.lf (.bool y0))] [some ⟨d.2.1.1, [.seq (.pair (.int .i64) (.pair (.int .i64) (.pair (.int .u64) (.pair (.int .i64) (.pair .str (.sl .bool)))))) 0 d.2.1.2.1]⟩, some ⟨false, [.int .i64 d.2.2.1.2.1, .int .i64 d.2.2.1.2.2.1, .int .i64 d.2.2.1.2.2.2.1, .int .i64 d.2.2.1.2.2.2.2.1]⟩, some ⟨false, [.full 3, .full 4, .int .i64 y6, .bool y7, .int .i64 y8]⟩, some ⟨false, [.seq .str 0 y9]⟩, some ⟨false, [.seq (.pair (.int .i64) .str) 0 y10]⟩]) (fun (y6 : Int) (y7 : Bool) (y8 : Int) (y9 : List ByteArray) (y10 : List (Int × ByteArray)) => K .ret [.tv (.lf (.bool false))] [some ⟨d.2.1.1, [.seq (.pair (.int .i64) (.pair (.int .i64) (.pair (.int .u64) (.pair (.int .i64) (.pair .str (.sl .bool)))))) 0 d.2.1.2.1]⟩, some ⟨false, [.int .i64 d.2.2.1.2.1, .int .i64 d.2.2.1.2.2.1, .int .i64 d.2.2.1.2.2.2.1, .int .i64 d.2.2.1.2.2.2.2.1]⟩, some ⟨false, [.full 3, .full 5, .int .i64 y6, .bool y7, .int .i64 y8]⟩, some ⟨false, [.seq .str 0 y9]⟩, none, some ⟨false, [.seq (.pair (.int .i64) .str) 0 y10]⟩]) (fun (y6 : Int) (y7 : Bool) (y8 : Int) (y9 : List ByteArray) (y10 : List (Int × ByteArray)) => K (.exit 0) [.tv (.lf (.int .i64 d.1.1)), .tv (.lf (.ptr 2 0)), .tv (.lf (.nilp))] [some ⟨d.2.1.1, [.seq (.pair (.int .i64) (.pair (.int .i64) (.pair (.int .u64) (.pair (.int .i64) (.pair .str (.sl .bool)))))) 0 d.2.1.2.1]⟩, some ⟨false, [.int .i64 d.2.2.1.2.1, .int .i64 d.2.2.1.2.2.1, .int .i64 d.2.2.1.2.2.2.1, .int .i64 d.2.2.1.2.2.2.2.1]⟩, some ⟨false, [.full 3, .full 4, .int .i64 y6, .bool y7, .int .i64 y8]⟩, some ⟨false, [.seq .str 0 y9]⟩, some ⟨false, [.seq (.pair (.int .i64) .str) 0 y10]⟩]) k d.1.2.2.2.2.2.1 d.2.2.2.1.2.2.2.1 d.2.2.2.1.2.2.2.2.1 d.2.2.2.1.2.2.2.2.2.1 d.2.2.2.2.1.2.1 d.2.2.2.2.2.1.2.1
def sh3_1_l13_3 : Sh := ⟨[.lf (.int .i64), .lf (.ptr 1 0), .lf (.nilp), .lf (.int .i64)], [some ⟨none, [.seq (.pair (.int .i64) (.pair (.int .i64) (.pair (.int .u64) (.pair (.int .i64) (.pair .str (.sl .bool)))))) 0]⟩, some ⟨some false, [.full 2, .full 3, .int .i64, .bool, .int .i64]⟩, some ⟨some false, [.seq .str 0]⟩, some ⟨some false, [.seq (.pair (.int .i64) .str) 0]⟩]⟩
abbrev Y3_1_l13_3 := Int → Int → List (Int × (Int × (Int × (Int × (ByteArray × (Sl .bool)))))) → Int → Bool → Int → List ByteArray → List (Int × ByteArray) → (Option Res) → Nat → Option Res
noncomputable def A3_1_l13_3 (g : Y3_1_l13_3) (k : Nat) (d : sh3_1_l13_3.den) (K : KL) : Option Res := g d.1.1 d.1.2.2.2.1 d.2.1.2.1 d.2.2.1.2.2.2.1 d.2.2.1.2.2.2.2.1 d.2.2.1.2.2.2.2.2.1 d.2.2.2.1.2.1 d.2.2.2.2.1.2.1 (K (.exit 2) [.tv (.lf (.ptr 1 0)), .tv (.lf (.nilp))] [some ⟨d.2.1.1, [.seq (.pair (.int .i64) (.pair (.int .i64) (.pair (.int .u64) (.pair (.int .i64) (.pair .str (.sl .bool)))))) 0 d.2.1.2.1]⟩, some ⟨false, [.full 2, .full 3, .int .i64 d.2.2.1.2.2.2.1, .bool d.2.2.1.2.2.2.2.1, .int .i64 d.2.2.1.2.2.2.2.2.1]⟩, some ⟨false, [.seq .str 0 d.2.2.2.1.2.1]⟩, some ⟨false, [.seq (.pair (.int .i64) .str) 0 d.2.2.2.2.1.2.1]⟩]) k
def sh3_1_l6_4 : Sh := ⟨[.lf (.int .i64), .lf (.full 0), .lf (.ptr 1 0), .lf (.ptr 2 0), .lf (.ptr 5 0), .lf (.int .i64)], [some ⟨none, [.seq (.pair (.int .i64) (.pair (.int .i64) (.pair (.int .u64) (.pair (.int .i64) (.pair .str (.sl .bool)))))) 0]⟩, some ⟨some false, [.int .i64, .int .i64, .int .i64, .int .i64]⟩, some ⟨some false, [.full 3, .full 4, .int .i64, .bool, .int .i64]⟩, some ⟨some false, [.seq .str 0]⟩, some ⟨some false, [.seq (.pair (.int .i64) .str) 0]⟩, some ⟨some false, [.full 6, .full 7, .int .i64, .bool, .int .i64]⟩, some ⟨some false, [.seq .str 0]⟩, some ⟨some false, [.seq (.pair (.int .i64) .str) 0]⟩]⟩
abbrev Y3_1_l6_4 := Int → List (Int × (Int × (Int × (Int × (ByteArray × (Sl .bool)))))) → Int → Int → Int → Int → (Bool → Int → Bool → Int → List ByteArray → List (Int × ByteArray) → Int → Bool → Int → List ByteArray → List (Int × ByteArray) → Option Res) → (Int → Bool → Int → List ByteArray → Int → Bool → Int → List ByteArray → List (Int × ByteArray) → List (Int × ByteArray) → Option Res) → (Int → Bool → Int → List ByteArray → List (Int × ByteArray) → Int → Bool → Int → List ByteArray → List (Int × ByteArray) → Option Res) → Nat → Int → Int → Bool → Int → List ByteArray → List (Int × ByteArray) → Int → Bool → Int → List ByteArray → List (Int × ByteArray) → Option Res
noncomputable def A3_1_l6_4 (g : Y3_1_l6_4) (k : Nat) (d : sh3_1_l6_4.den) (K : KL) : Option Res := g d.1.1 d.2.1.2.1 d.2.2.1.2.1 d.2.2.1.2.2.1 d.2.2.1.2.2.2.1 d.2.2.1.2.2.2.2.1 (fun (y0 : Bool) (y6 : Int) (y7 : Bool) (y8 : Int) (y9 : List ByteArray) (y10 : List (Int × ByteArray)) (y11 : Int) (y12 : Bool) (y13 : Int) (y14 : List ByteArray) (y15 : List (Int × ByteArray)) => K .ret [.tv (.lf (.bool y0))] [some ⟨d.2.1.1, [.seq (.pair (.int .i64) (.pair (.int .i64) (.pair (.int .u64) (.pair (.int .i64) (.pair .str (.sl .bool)))))) 0 d.2.1.2.1]⟩, some ⟨false, [.int .i64 d.2.2.1.2.1, .int .i64 d.2.2.1.2.2.1, .int .i64 d.2.2.1.2.2.2.1, .int .i64 d.2.2.1.2.2.2.2.1]⟩, some ⟨false, [.full 3, .full 4, .int .i64 y6, .bool y7, .int .i64 y8]⟩, some ⟨false, [.seq .str 0 y9]⟩, some ⟨false, [.seq (.pair (.int .i64) .str) 0 y10]⟩, some ⟨false, [.full 6, .full 7, .int .i64 y11, .bool y12, .int .i64 y13]⟩, some ⟨false, [.seq .str 0 y14]⟩, some ⟨false, [.seq (.pair (.int .i64) .str) 0 y15]⟩]) (fun (y6 : Int) (y7 : Bool) (y8 : Int) (y9 : List ByteArray) (y10 : Int) (y11 : Bool) (y12 : Int) (y13 : List ByteArray) (y14 : List (Int × ByteArray)) (y15 : List (Int × ByteArray)) => K .ret [.tv (.lf (.bool false))] [some ⟨d.2.1.1, [.seq (.pair (.int .i64) (.pair (.int .i64) (.pair (.int .u64) (.pair (.int .i64) (.pair .str (.sl .bool)))))) 0 d.2.1.2.1]⟩, some ⟨false, [.int .i64 d.2.2.1.2.1, .int .i64 d.2.2.1.2.2.1, .int .i64 d.2.2.1.2.2.2.1, .int .i64 d.2.2.1.2.2.2.2.1]⟩, some ⟨false, [.full 3, .full 8, .int .i64 y6, .bool y7, .int .i64 y8]⟩, some ⟨false, [.seq .str 0 y9]⟩, none, some ⟨false, [.full 6, .full 9, .int .i64 y10, .bool y11, .int .i64 y12]⟩, some ⟨false, [.seq .str 0 y13]⟩, none, some ⟨false, [.seq (.pair (.int .i64) .str) 0 y14]⟩, some ⟨false, [.seq (.pair (.int .i64) .str) 0 y15]⟩]) (fun (y6 : Int) (y7 : Bool) (y8 : Int) (y9 : List ByteArray) (y10 : List (Int × ByteArray)) (y11 : Int) (y12 : Bool) (y13 : Int) (y14 : List ByteArray) (y15 : List (Int × ByteArray)) => K (.exit 0) [.tv (.lf (.int .i64 d.1.1)), .tv (.lf (.ptr 2 0)), .tv (.lf (.ptr 5 0))] [some ⟨d.2.1.1, [.seq (.pair (.int .i64) (.pair (.int .i64) (.pair (.int .u64) (.pair (.int .i64) (.pair .str (.sl .bool)))))) 0 d.2.1.2.1]⟩, some ⟨false, [.int .i64 d.2.2.1.2.1, .int .i64 d.2.2.1.2.2.1, .int .i64 d.2.2.1.2.2.2.1, .int .i64 d.2.2.1.2.2.2.2.1]⟩, some ⟨false, [.full 3, .full 4, .int .i64 y6, .bool y7, .int .i64 y8]⟩, some ⟨false, [.seq .str 0 y9]⟩, some ⟨false, [.seq (.pair (.int .i64) .str) 0 y10]⟩, some ⟨false, [.full 6, .full 7, .int .i64 y11, .bool y12, .int .i64 y13]⟩, some ⟨false, [.seq .str 0 y14]⟩, some ⟨false, [.seq (.pair (.int .i64) .str) 0 y15]⟩]) k d.1.2.2.2.2.2.1 d.2.2.2.1.2.2.2.1 d.2.2.2.1.2.2.2.2.1 d.2.2.2.1.2.2.2.2.2.1 d.2.2.2.2.1.2.1 d.2.2.2.2.2.1.2.1 d.2.2.2.2.2.2.1.2.2.2.1 d.2.2.2.2.2.2.1.2.2.2.2.1 d.2.2.2.2.2.2.1.2.2.2.2.2.1 d.2.2.2.2.2.2.2.1.2.1 d.2.2.2.2.2.2.2.2.1.2.1
def sh3_1_l13_4 : Sh := ⟨[.lf (.int .i64), .lf (.ptr 1 0), .lf (.ptr 4 0), .lf (.int .i64)], [some ⟨none, [.seq (.pair (.int .i64) (.pair (.int .i64) (.pair (.int .u64) (.pair (.int .i64) (.pair .str (.sl .bool)))))) 0]⟩, some ⟨some false, [.full 2, .full 3, .int .i64, .bool, .int .i64]⟩, some ⟨some false, [.seq .str 0]⟩, some ⟨some false, [.seq (.pair (.int .i64) .str) 0]⟩, some ⟨some false, [.full 5, .full 6, .int .i64, .bool, .int .i64]⟩, some ⟨some false, [.seq .str 0]⟩, some ⟨some false, [.seq (.pair (.int .i64) .str) 0]⟩]⟩
abbrev Y3_1_l13_4 := Int → List (Int × (Int × (Int × (Int × (ByteArray × (Sl .bool)))))) → Int → Bool → Int → List ByteArray → List (Int × ByteArray) → Int → Bool → Int → List ByteArray → List (Int × ByteArray) → (Option Res) → (Option Res) → Nat → Int → Option Res
noncomputable def A3_1_l13_4 (g : Y3_1_l13_4) (k : Nat) (d : sh3_1_l13_4.den) (K : KL) : Option Res := g d.1.1 d.2.1.2.1 d.2.2.1.2.2.2.1 d.2.2.1.2.2.2.2.1 d.2.2.1.2.2.2.2.2.1 d.2.2.2.1.2.1 d.2.2.2.2.1.2.1 d.2.2.2.2.2.1.2.2.2.1 d.2.2.2.2.2.1.2.2.2.2.1 d.2.2.2.2.2.1.2.2.2.2.2.1 d.2.2.2.2.2.2.1.2.1 d.2.2.2.2.2.2.2.1.2.1 (K .ret [.tv (.lf (.bool false))] [some ⟨d.2.1.1, [.seq (.pair (.int .i64) (.pair (.int .i64) (.pair (.int .u64) (.pair (.int .i64) (.pair .str (.sl .bool)))))) 0 d.2.1.2.1]⟩, some ⟨false, [.full 2, .full 3, .int .i64 d.2.2.1.2.2.2.1, .bool d.2.2.1.2.2.2.2.1, .int .i64 d.2.2.1.2.2.2.2.2.1]⟩, some ⟨false, [.seq .str 0 d.2.2.2.1.2.1]⟩, some ⟨false, [.seq (.pair (.int .i64) .str) 0 d.2.2.2.2.1.2.1]⟩, some ⟨false, [.full 5, .full 6, .int .i64 d.2.2.2.2.2.1.2.2.2.1, .bool d.2.2.2.2.2.1.2.2.2.2.1, .int .i64 d.2.2.2.2.2.1.2.2.2.2.2.1]⟩, some ⟨false, [.seq .str 0 d.2.2.2.2.2.2.1.2.1]⟩, some ⟨false, [.seq (.pair (.int .i64) .str) 0 d.2.2.2.2.2.2.2.1.2.1]⟩]) (K (.exit 2) [.tv (.lf (.ptr 1 0)), .tv (.lf (.ptr 4 0))] [some ⟨d.2.1.1, [.seq (.pair (.int .i64) (.pair (.int .i64) (.pair (.int .u64) (.pair (.int .i64) (.pair .str (.sl .bool)))))) 0 d.2.1.2.1]⟩, some ⟨false, [.full 2, .full 3, .int .i64 d.2.2.1.2.2.2.1, .bool d.2.2.1.2.2.2.2.1, .int .i64 d.2.2.1.2.2.2.2.2.1]⟩, some ⟨false, [.seq .str 0 d.2.2.2.1.2.1]⟩, some ⟨false, [.seq (.pair (.int .i64) .str) 0 d.2.2.2.2.1.2.1]⟩, some ⟨false, [.full 5, .full 6, .int .i64 d.2.2.2.2.2.1.2.2.2.1, .bool d.2.2.2.2.2.1.2.2.2.2.1, .int .i64 d.2.2.2.2.2.1.2.2.2.2.2.1]⟩, some ⟨false, [.seq .str 0 d.2.2.2.2.2.2.1.2.1]⟩, some ⟨false, [.seq (.pair (.int .i64) .str) 0 d.2.2.2.2.2.2.2.1.2.1]⟩]) k d.1.2.2.2.1
noncomputable def G3_1_6 (F k : Nat) : LoopS := orG sh3_1_l6 (fun d K => A3_1_l6 (f3_1_l6 F) k d K) (orG sh3_1_l6_2 (fun d K => A3_1_l6_2 (f3_1_l6_2 F) k d K) (orG sh3_1_l6_3 (fun d K => A3_1_l6_3 (f3_1_l6_3 F) k d K) (mkG sh3_1_l6_4 [1, 2, 3, 7, 9, 11] (outT [(.exit 0, [1, 7, 9]), (.ret, [6])]) (fun d K => A3_1_l6_4 (f3_1_l6_4 F) k d K) [])))
noncomputable def G3_1_13 (F k : Nat) : LoopS := orG sh3_1_l13 (fun d K => A3_1_l13 (f3_1_l13 F) k d K) (orG sh3_1_l13_2 (fun d K => A3_1_l13_2 (f3_1_l13_2 F) k d K) (orG sh3_1_l13_3 (fun d K => A3_1_l13_3 (f3_1_l13_3 F) k d K) (mkG sh3_1_l13_4 [1, 7, 9, 12] (outT [(.exit 2, [7, 9]), (.ret, [6])]) (fun d K => A3_1_l13_4 (f3_1_l13_4 F) k d K) [])))
noncomputable def LT3_1 (F : Nat) : Nat → Option LoopS := ltab [(6, G3_1_6 F F), (13, G3_1_13 F F)]
theorem L3_1_l6g (F k : Nat) (c11_1 : Y11_1) (c12_1 : Y12_1) (c13_1 : Y13_1) (c14_1 : Y14_1) (c14_269 : Y14_269) (c14_7171 : Y14_7171) (c14_9465 : Y14_9465) (c15_1 : Y15_1) (c15_6206 : Y15_6206) (c16_1 : Y16_1) (c16_568 : Y16_568) (c17_1 : Y17_1) (c18_1 : Y18_1) (c18_568 : Y18_568)  (l6 : Y3_1_l6) (l6_2 : Y3_1_l6_2) (l6_3 : Y3_1_l6_3) (l6_4 : Y3_1_l6_4) (X6 : LoopS) (X13 : LoopS) (d : sh3_1_l6.den) (K : KL) : A3_1_l6 ((fun (v4 : Int) (v6 : List (Int × (Int × (Int × (Int × (ByteArray × (Sl .bool))))))) (v7 : Int) (v8 : Int) (v9 : Int) (v10 : Int) (K0 : (Bool → Option Res)) (K1 : (Option Res)) (k : Nat) (v5 : Int) => cond (decide (v5 < ((v6.length : Nat) : Int))) (cond (decide ((0 : Int) ≤ v5 ∧ v5 < ((v6.length : Nat) : Int))) (cond (decide (0 + v5.toNat < v6.length)) (cond (decide ((((((((v6.getD (0 + v5.toNat) (0, (0, (0, (0, (ByteArray.empty, (Sl.nil .bool))))))).2).2).2).2).1).size : Int) > 200)) (c11_1  (fun x11 => K0 x11) ) (cond (decide ((0 : Int) ≤ v5 ∧ v5 < ((v6.length : Nat) : Int))) (cond (decide (0 + v5.toNat < v6.length)) (c14_9465 v7 v8 v9 v10 ((v6.getD (0 + v5.toNat) (0, (0, (0, (0, (ByteArray.empty, (Sl.nil .bool))))))).1) (((v6.getD (0 + v5.toNat) (0, (0, (0, (0, (ByteArray.empty, (Sl.nil .bool))))))).2).1) ((((v6.getD (0 + v5.toNat) (0, (0, (0, (0, (ByteArray.empty, (Sl.nil .bool))))))).2).2).1) (((((v6.getD (0 + v5.toNat) (0, (0, (0, (0, (ByteArray.empty, (Sl.nil .bool))))))).2).2).2).1) ((((((v6.getD (0 + v5.toNat) (0, (0, (0, (0, (ByteArray.empty, (Sl.nil .bool))))))).2).2).2).2).1) ((((((v6.getD (0 + v5.toNat) (0, (0, (0, (0, (ByteArray.empty, (Sl.nil .bool))))))).2).2).2).2).2) (fun x12 => cond (!x12) (K0 false) (l6 v4 v6 v7 v8 v9 v10 K0 K1 k (IntKind.i64.wrap (v5 + 1)))) ) none) none)) none) none) (K1))) k d K = roundOf Tryz.prog (TB3_1 c11_1 c12_1 c13_1 c14_1 c14_269 c14_7171 c14_9465 c15_1 c15_6206 c16_1 c16_568 c17_1 c18_1 c18_568) (xw [10]) 99 1 (ltab [(6, X6), (13, X13)]) (orG sh3_1_l6 (fun d K => A3_1_l6 l6 k d K) (orG sh3_1_l6_2 (fun d K => A3_1_l6_2 l6_2 k d K) (orG sh3_1_l6_3 (fun d K => A3_1_l6_3 l6_3 k d K) (mkG sh3_1_l6_4 [1, 2, 3, 7, 9, 11] (outT [(.exit 0, [1, 7, 9]), (.ret, [6])]) (fun d K => A3_1_l6_4 l6_4 k d K) [])))) b3_0 (encT sh3_1_l6.vs d.1) (encH sh3_1_l6.h d.2) K := by kernel_rfl
theorem L3_1_l6_2g (F k : Nat) (c11_1 : Y11_1) (c12_1 : Y12_1) (c13_1 : Y13_1) (c14_1 : Y14_1) (c14_269 : Y14_269) (c14_7171 : Y14_7171) (c14_9465 : Y14_9465) (c15_1 : Y15_1) (c15_6206 : Y15_6206) (c16_1 : Y16_1) (c16_568 : Y16_568) (c17_1 : Y17_1) (c18_1 : Y18_1) (c18_568 : Y18_568)  (l6 : Y3_1_l6) (l6_2 : Y3_1_l6_2) (l6_3 : Y3_1_l6_3) (l6_4 : Y3_1_l6_4) (X6 : LoopS) (X13 : LoopS) (d : sh3_1_l6_2.den) (K : KL) : A3_1_l6_2 ((fun (v19 : Int) (v21 : List (Int × (Int × (Int × (Int × (ByteArray × (Sl .bool))))))) (v22 : Int) (v23 : Int) (v24 : Int) (v25 : Int) (K0 : (Bool → Int → Bool → Int → List ByteArray → List (Int × ByteArray) → Option Res)) (K1 : (Int → Bool → Int → List ByteArray → List (Int × ByteArray) → Option Res)) (K2 : (Int → Bool → Int → List ByteArray → List (Int × ByteArray) → Option Res)) (k : Nat) (v20 : Int) (v26 : Int) (v27 : Bool) (v28 : Int) (v29 : List ByteArray) (v30 : List (Int × ByteArray)) => cond (decide (v20 < ((v21.length : Nat) : Int))) (cond (decide ((0 : Int) ≤ v20 ∧ v20 < ((v21.length : Nat) : Int))) (cond (decide (0 + v20.toNat < v21.length)) (cond (decide ((((((((v21.getD (0 + v20.toNat) (0, (0, (0, (0, (ByteArray.empty, (Sl.nil .bool))))))).2).2).2).2).1).size : Int) > 200)) (c11_1  (fun x31 => K0 x31 v26 v27 v28 v29 v30) ) (cond (decide ((0 : Int) ≤ v20 ∧ v20 < ((v21.length : Nat) : Int))) (cond (decide (0 + v20.toNat < v21.length)) (c14_7171 v22 v23 v24 v25 ((v21.getD (0 + v20.toNat) (0, (0, (0, (0, (ByteArray.empty, (Sl.nil .bool))))))).1) (((v21.getD (0 + v20.toNat) (0, (0, (0, (0, (ByteArray.empty, (Sl.nil .bool))))))).2).1) ((((v21.getD (0 + v20.toNat) (0, (0, (0, (0, (ByteArray.empty, (Sl.nil .bool))))))).2).2).1) (((((v21.getD (0 + v20.toNat) (0, (0, (0, (0, (ByteArray.empty, (Sl.nil .bool))))))).2).2).2).1) ((((((v21.getD (0 + v20.toNat) (0, (0, (0, (0, (ByteArray.empty, (Sl.nil .bool))))))).2).2).2).2).1) ((((((v21.getD (0 + v20.toNat) (0, (0, (0, (0, (ByteArray.empty, (Sl.nil .bool))))))).2).2).2).2).2) v26 v27 v28 v29 v30 (fun x32 x33 x34 x35 x36 x37 => cond (!x32) (K1 x33 x34 x35 x36 x37) (l6_2 v19 v21 v22 v23 v24 v25 K0 K1 K2 k (IntKind.i64.wrap (v20 + 1)) x33 x34 x35 x36 x37)) ) none) none)) none) none) (K2 v26 v27 v28 v29 v30))) k d K = roundOf Tryz.prog (TB3_1 c11_1 c12_1 c13_1 c14_1 c14_269 c14_7171 c14_9465 c15_1 c15_6206 c16_1 c16_568 c17_1 c18_1 c18_568) (xw [10]) 99 1 (ltab [(6, X6), (13, X13)]) (orG sh3_1_l6 (fun d K => A3_1_l6 l6 k d K) (orG sh3_1_l6_2 (fun d K => A3_1_l6_2 l6_2 k d K) (orG sh3_1_l6_3 (fun d K => A3_1_l6_3 l6_3 k d K) (mkG sh3_1_l6_4 [1, 2, 3, 7, 9, 11] (outT [(.exit 0, [1, 7, 9]), (.ret, [6])]) (fun d K => A3_1_l6_4 l6_4 k d K) [])))) b3_0 (encT sh3_1_l6_2.vs d.1) (encH sh3_1_l6_2.h d.2) K := by kernel_rfl
theorem L3_1_l6_3g (F k : Nat) (c11_1 : Y11_1) (c12_1 : Y12_1) (c13_1 : Y13_1) (c14_1 : Y14_1) (c14_269 : Y14_269) (c14_7171 : Y14_7171) (c14_9465 : Y14_9465) (c15_1 : Y15_1) (c15_6206 : Y15_6206) (c16_1 : Y16_1) (c16_568 : Y16_568) (c17_1 : Y17_1) (c18_1 : Y18_1) (c18_568 : Y18_568)  (l6 : Y3_1_l6) (l6_2 : Y3_1_l6_2) (l6_3 : Y3_1_l6_3) (l6_4 : Y3_1_l6_4) (X6 : LoopS) (X13 : LoopS) (d : sh3_1_l6_3.den) (K : KL) : A3_1_l6_3 ((fun (v67 : Int) (v69 : List (Int × (Int × (Int × (Int × (ByteArray × (Sl .bool))))))) (v70 : Int) (v71 : Int) (v72 : Int) (v73 : Int) (K0 : (Bool → Int → Bool → Int → List ByteArray → List (Int × ByteArray) → Option Res)) (K1 : (Int → Bool → Int → List ByteArray → List (Int × ByteArray) → Option Res)) (K2 : (Int → Bool → Int → List ByteArray → List (Int × ByteArray) → Option Res)) (k : Nat) (v68 : Int) (v74 : Int) (v75 : Bool) (v76 : Int) (v77 : List ByteArray) (v78 : List (Int × ByteArray)) => cond (decide (v68 < ((v69.length : Nat) : Int))) (cond (decide ((0 : Int) ≤ v68 ∧ v68 < ((v69.length : Nat) : Int))) (cond (decide (0 + v68.toNat < v69.length)) (cond (decide ((((((((v69.getD (0 + v68.toNat) (0, (0, (0, (0, (ByteArray.empty, (Sl.nil .bool))))))).2).2).2).2).1).size : Int) > 200)) (c11_1  (fun x79 => K0 x79 v74 v75 v76 v77 v78) ) (cond (decide ((0 : Int) ≤ v68 ∧ v68 < ((v69.length : Nat) : Int))) (cond (decide (0 + v68.toNat < v69.length)) (c14_269 v70 v71 v72 v73 ((v69.getD (0 + v68.toNat) (0, (0, (0, (0, (ByteArray.empty, (Sl.nil .bool))))))).1) (((v69.getD (0 + v68.toNat) (0, (0, (0, (0, (ByteArray.empty, (Sl.nil .bool))))))).2).1) ((((v69.getD (0 + v68.toNat) (0, (0, (0, (0, (ByteArray.empty, (Sl.nil .bool))))))).2).2).1) (((((v69.getD (0 + v68.toNat) (0, (0, (0, (0, (ByteArray.empty, (Sl.nil .bool))))))).2).2).2).1) ((((((v69.getD (0 + v68.toNat) (0, (0, (0, (0, (ByteArray.empty, (Sl.nil .bool))))))).2).2).2).2).1) ((((((v69.getD (0 + v68.toNat) (0, (0, (0, (0, (ByteArray.empty, (Sl.nil .bool))))))).2).2).2).2).2) v74 v75 v76 v77 v78 (fun x80 x81 x82 x83 x84 x85 => cond (!x80) (K1 x81 x82 x83 x84 x85) (l6_3 v67 v69 v70 v71 v72 v73 K0 K1 K2 k (IntKind.i64.wrap (v68 + 1)) x81 x82 x83 x84 x85)) ) none) none)) none) none) (K2 v74 v75 v76 v77 v78))) k d K = roundOf Tryz.prog (TB3_1 c11_1 c12_1 c13_1 c14_1 c14_269 c14_7171 c14_9465 c15_1 c15_6206 c16_1 c16_568 c17_1 c18_1 c18_568) (xw [10]) 99 1 (ltab [(6, X6), (13, X13)]) (orG sh3_1_l6 (fun d K => A3_1_l6 l6 k d K) (orG sh3_1_l6_2 (fun d K => A3_1_l6_2 l6_2 k d K) (orG sh3_1_l6_3 (fun d K => A3_1_l6_3 l6_3 k d K) (mkG sh3_1_l6_4 [1, 2, 3, 7, 9, 11] (outT [(.exit 0, [1, 7, 9]), (.ret, [6])]) (fun d K => A3_1_l6_4 l6_4 k d K) [])))) b3_0 (encT sh3_1_l6_3.vs d.1) (encH sh3_1_l6_3.h d.2) K := by kernel_rfl
theorem L3_1_l6_4g (F k : Nat) (c11_1 : Y11_1) (c12_1 : Y12_1) (c13_1 : Y13_1) (c14_1 : Y14_1) (c14_269 : Y14_269) (c14_7171 : Y14_7171) (c14_9465 : Y14_9465) (c15_1 : Y15_1) (c15_6206 : Y15_6206) (c16_1 : Y16_1) (c16_568 : Y16_568) (c17_1 : Y17_1) (c18_1 : Y18_1) (c18_568 : Y18_568)  (l6 : Y3_1_l6) (l6_2 : Y3_1_l6_2) (l6_3 : Y3_1_l6_3) (l6_4 : Y3_1_l6_4) (X6 : LoopS) (X13 : LoopS) (d : sh3_1_l6_4.den) (K : KL) : A3_1_l6_4 ((fun (v114 : Int) (v116 : List (Int × (Int × (Int × (Int × (ByteArray × (Sl .bool))))))) (v117 : Int) (v118 : Int) (v119 : Int) (v120 : Int) (K0 : (Bool → Int → Bool → Int → List ByteArray → List (Int × ByteArray) → Int → Bool → Int → List ByteArray → List (Int × ByteArray) → Option Res)) (K1 : (Int → Bool → Int → List ByteArray → Int → Bool → Int → List ByteArray → List (Int × ByteArray) → List (Int × ByteArray) → Option Res)) (K2 : (Int → Bool → Int → List ByteArray → List (Int × ByteArray) → Int → Bool → Int → List ByteArray → List (Int × ByteArray) → Option Res)) (k : Nat) (v115 : Int) (v121 : Int) (v122 : Bool) (v123 : Int) (v124 : List ByteArray) (v125 : List (Int × ByteArray)) (v126 : Int) (v127 : Bool) (v128 : Int) (v129 : List ByteArray) (v130 : List (Int × ByteArray)) => cond (decide (v115 < ((v116.length : Nat) : Int))) (cond (decide ((0 : Int) ≤ v115 ∧ v115 < ((v116.length : Nat) : Int))) (cond (decide (0 + v115.toNat < v116.length)) (cond (decide ((((((((v116.getD (0 + v115.toNat) (0, (0, (0, (0, (ByteArray.empty, (Sl.nil .bool))))))).2).2).2).2).1).size : Int) > 200)) (c11_1  (fun x131 => K0 x131 v121 v122 v123 v124 v125 v126 v127 v128 v129 v130) ) (cond (decide ((0 : Int) ≤ v115 ∧ v115 < ((v116.length : Nat) : Int))) (cond (decide (0 + v115.toNat < v116.length)) (c14_1 v117 v118 v119 v120 ((v116.getD (0 + v115.toNat) (0, (0, (0, (0, (ByteArray.empty, (Sl.nil .bool))))))).1) (((v116.getD (0 + v115.toNat) (0, (0, (0, (0, (ByteArray.empty, (Sl.nil .bool))))))).2).1) ((((v116.getD (0 + v115.toNat) (0, (0, (0, (0, (ByteArray.empty, (Sl.nil .bool))))))).2).2).1) (((((v116.getD (0 + v115.toNat) (0, (0, (0, (0, (ByteArray.empty, (Sl.nil .bool))))))).2).2).2).1) ((((((v116.getD (0 + v115.toNat) (0, (0, (0, (0, (ByteArray.empty, (Sl.nil .bool))))))).2).2).2).2).1) ((((((v116.getD (0 + v115.toNat) (0, (0, (0, (0, (ByteArray.empty, (Sl.nil .bool))))))).2).2).2).2).2) v121 v122 v123 v124 v125 v126 v127 v128 v129 v130 (fun x132 x133 x134 x135 x136 x137 x138 x139 x140 x141 x142 => cond (!x132) (K1 x133 x134 x135 x136 x137 x138 x139 x140 x141 x142) (l6_4 v114 v116 v117 v118 v119 v120 K0 K1 K2 k (IntKind.i64.wrap (v115 + 1)) x133 x134 x135 x136 x141 x137 x138 x139 x140 x142)) ) none) none)) none) none) (K2 v121 v122 v123 v124 v125 v126 v127 v128 v129 v130))) k d K = roundOf Tryz.prog (TB3_1 c11_1 c12_1 c13_1 c14_1 c14_269 c14_7171 c14_9465 c15_1 c15_6206 c16_1 c16_568 c17_1 c18_1 c18_568) (xw [10]) 99 1 (ltab [(6, X6), (13, X13)]) (orG sh3_1_l6 (fun d K => A3_1_l6 l6 k d K) (orG sh3_1_l6_2 (fun d K => A3_1_l6_2 l6_2 k d K) (orG sh3_1_l6_3 (fun d K => A3_1_l6_3 l6_3 k d K) (mkG sh3_1_l6_4 [1, 2, 3, 7, 9, 11] (outT [(.exit 0, [1, 7, 9]), (.ret, [6])]) (fun d K => A3_1_l6_4 l6_4 k d K) [])))) b3_0 (encT sh3_1_l6_4.vs d.1) (encH sh3_1_l6_4.h d.2) K := by kernel_rfl
theorem L3_1_6 (F : Nat) : LoopOK Tryz.prog (T3_1 F) (xw [10]) 99 1 (LT3_1 F) (G3_1_6 F F) b3_0 :=
  loopOK_vers (G3_1_6 F) F (fun k => ⟨rfl, rfl⟩) (verOK_cons (s := sh3_1_l6) (all := (G3_1_6 F)) (fun k d K => A3_1_l6 (f3_1_l6 F) k d K) (fun d K => by kernel_rfl) (fun k d K => Eq.mp (by kernel_rfl) (L3_1_l6g F k (f11_1 F) (f12_1 F) (f13_1 F) (f14_1 F) (f14_269 F) (f14_7171 F) (f14_9465 F) (f15_1 F) (f15_6206 F) (f16_1 F) (f16_568 F) (f17_1 F) (f18_1 F) (f18_568 F)  (f3_1_l6 F) (f3_1_l6_2 F) (f3_1_l6_3 F) (f3_1_l6_4 F) (G3_1_6 F F) (G3_1_13 F F) d K)) (verOK_cons (s := sh3_1_l6_2) (all := (G3_1_6 F)) (fun k d K => A3_1_l6_2 (f3_1_l6_2 F) k d K) (fun d K => by kernel_rfl) (fun k d K => Eq.mp (by kernel_rfl) (L3_1_l6_2g F k (f11_1 F) (f12_1 F) (f13_1 F) (f14_1 F) (f14_269 F) (f14_7171 F) (f14_9465 F) (f15_1 F) (f15_6206 F) (f16_1 F) (f16_568 F) (f17_1 F) (f18_1 F) (f18_568 F)  (f3_1_l6 F) (f3_1_l6_2 F) (f3_1_l6_3 F) (f3_1_l6_4 F) (G3_1_6 F F) (G3_1_13 F F) d K)) (verOK_cons (s := sh3_1_l6_3) (all := (G3_1_6 F)) (fun k d K => A3_1_l6_3 (f3_1_l6_3 F) k d K) (fun d K => by kernel_rfl) (fun k d K => Eq.mp (by kernel_rfl) (L3_1_l6_3g F k (f11_1 F) (f12_1 F) (f13_1 F) (f14_1 F) (f14_269 F) (f14_7171 F) (f14_9465 F) (f15_1 F) (f15_6206 F) (f16_1 F) (f16_568 F) (f17_1 F) (f18_1 F) (f18_568 F)  (f3_1_l6 F) (f3_1_l6_2 F) (f3_1_l6_3 F) (f3_1_l6_4 F) (G3_1_6 F F) (G3_1_13 F F) d K)) (verOK_last (s := sh3_1_l6_4) (live := [1, 2, 3, 7, 9, 11]) (out := (outT [(.exit 0, [1, 7, 9]), (.ret, [6])])) (mv := []) (all := (G3_1_6 F)) (fun k d K => A3_1_l6_4 (f3_1_l6_4 F) k d K) (fun d K => by kernel_rfl) (fun k d K => Eq.mp (by kernel_rfl) (L3_1_l6_4g F k (f11_1 F) (f12_1 F) (f13_1 F) (f14_1 F) (f14_269 F) (f14_7171 F) (f14_9465 F) (f15_1 F) (f15_6206 F) (f16_1 F) (f16_568 F) (f17_1 F) (f18_1 F) (f18_568 F)  (f3_1_l6 F) (f3_1_l6_2 F) (f3_1_l6_3 F) (f3_1_l6_4 F) (G3_1_6 F F) (G3_1_13 F F) d K))))))
theorem L3_1_l13g (F k : Nat) (c11_1 : Y11_1) (c12_1 : Y12_1) (c13_1 : Y13_1) (c14_1 : Y14_1) (c14_269 : Y14_269) (c14_7171 : Y14_7171) (c14_9465 : Y14_9465) (c15_1 : Y15_1) (c15_6206 : Y15_6206) (c16_1 : Y16_1) (c16_568 : Y16_568) (c17_1 : Y17_1) (c18_1 : Y18_1) (c18_568 : Y18_568)  (l13 : Y3_1_l13) (l13_2 : Y3_1_l13_2) (l13_3 : Y3_1_l13_3) (l13_4 : Y3_1_l13_4) (X6 : LoopS) (X13 : LoopS) (d : sh3_1_l13.den) (K : KL) : A3_1_l13 ((fun (v14 : Int) (v15 : Int) (v16 : List (Int × (Int × (Int × (Int × (ByteArray × (Sl .bool))))))) (K0 : (Option Res)) (k : Nat)  => cond (decide (v15 < v14)) (c15_6206 v15 (none) ) (K0))) k d K = roundOf Tryz.prog (TB3_1 c11_1 c12_1 c13_1 c14_1 c14_269 c14_7171 c14_9465 c15_1 c15_6206 c16_1 c16_568 c17_1 c18_1 c18_568) (xw [10]) 99 1 (ltab [(6, X6), (13, X13)]) (orG sh3_1_l13 (fun d K => A3_1_l13 l13 k d K) (orG sh3_1_l13_2 (fun d K => A3_1_l13_2 l13_2 k d K) (orG sh3_1_l13_3 (fun d K => A3_1_l13_3 l13_3 k d K) (mkG sh3_1_l13_4 [1, 7, 9, 12] (outT [(.exit 2, [7, 9]), (.ret, [6])]) (fun d K => A3_1_l13_4 l13_4 k d K) [])))) b3_1 (encT sh3_1_l13.vs d.1) (encH sh3_1_l13.h d.2) K := by kernel_rfl
theorem L3_1_l13_2g (F k : Nat) (c11_1 : Y11_1) (c12_1 : Y12_1) (c13_1 : Y13_1) (c14_1 : Y14_1) (c14_269 : Y14_269) (c14_7171 : Y14_7171) (c14_9465 : Y14_9465) (c15_1 : Y15_1) (c15_6206 : Y15_6206) (c16_1 : Y16_1) (c16_568 : Y16_568) (c17_1 : Y17_1) (c18_1 : Y18_1) (c18_568 : Y18_568)  (l13 : Y3_1_l13) (l13_2 : Y3_1_l13_2) (l13_3 : Y3_1_l13_3) (l13_4 : Y3_1_l13_4) (X6 : LoopS) (X13 : LoopS) (d : sh3_1_l13_2.den) (K : KL) : A3_1_l13_2 ((fun (v54 : Int) (v56 : List (Int × (Int × (Int × (Int × (ByteArray × (Sl .bool))))))) (v57 : Int) (v58 : Bool) (v59 : Int) (v60 : List ByteArray) (v61 : List (Int × ByteArray)) (K0 : (Option Res)) (K1 : (Option Res)) (k : Nat) (v55 : Int) => cond (decide (v55 < v54)) (c15_6206 v55 (cond (decide ((0 : Int) ≤ v55 ∧ v55 < ((v60.length : Nat) : Int))) (cond (decide (0 + v55.toNat < v60.length)) (cond (!(ByteArray.empty.toList == (v60.getD (0 + v55.toNat) ByteArray.empty).toList)) (K0) (l13_2 v54 v56 v57 v58 v59 v60 v61 K0 K1 k (IntKind.i64.wrap (v55 + 1)))) none) none) ) (K1))) k d K = roundOf Tryz.prog (TB3_1 c11_1 c12_1 c13_1 c14_1 c14_269 c14_7171 c14_9465 c15_1 c15_6206 c16_1 c16_568 c17_1 c18_1 c18_568) (xw [10]) 99 1 (ltab [(6, X6), (13, X13)]) (orG sh3_1_l13 (fun d K => A3_1_l13 l13 k d K) (orG sh3_1_l13_2 (fun d K => A3_1_l13_2 l13_2 k d K) (orG sh3_1_l13_3 (fun d K => A3_1_l13_3 l13_3 k d K) (mkG sh3_1_l13_4 [1, 7, 9, 12] (outT [(.exit 2, [7, 9]), (.ret, [6])]) (fun d K => A3_1_l13_4 l13_4 k d K) [])))) b3_1 (encT sh3_1_l13_2.vs d.1) (encH sh3_1_l13_2.h d.2) K := by kernel_rfl
theorem L3_1_l13_3g (F k : Nat) (c11_1 : Y11_1) (c12_1 : Y12_1) (c13_1 : Y13_1) (c14_1 : Y14_1) (c14_269 : Y14_269) (c14_7171 : Y14_7171) (c14_9465 : Y14_9465) (c15_1 : Y15_1) (c15_6206 : Y15_6206) (c16_1 : Y16_1) (c16_568 : Y16_568) (c17_1 : Y17_1) (c18_1 : Y18_1) (c18_568 : Y18_568)  (l13 : Y3_1_l13) (l13_2 : Y3_1_l13_2) (l13_3 : Y3_1_l13_3) (l13_4 : Y3_1_l13_4) (X6 : LoopS) (X13 : LoopS) (d : sh3_1_l13_3.den) (K : KL) : A3_1_l13_3 ((fun (v102 : Int) (v103 : Int) (v104 : List (Int × (Int × (Int × (Int × (ByteArray × (Sl .bool))))))) (v105 : Int) (v106 : Bool) (v107 : Int) (v108 : List ByteArray) (v109 : List (Int × ByteArray)) (K0 : (Option Res)) (k : Nat)  => cond (decide (v103 < v102)) (c15_1 v103 v105 v106 v107 v108 v109 (fun x110 x111 => none) ) (K0))) k d K = roundOf Tryz.prog (TB3_1 c11_1 c12_1 c13_1 c14_1 c14_269 c14_7171 c14_9465 c15_1 c15_6206 c16_1 c16_568 c17_1 c18_1 c18_568) (xw [10]) 99 1 (ltab [(6, X6), (13, X13)]) (orG sh3_1_l13 (fun d K => A3_1_l13 l13 k d K) (orG sh3_1_l13_2 (fun d K => A3_1_l13_2 l13_2 k d K) (orG sh3_1_l13_3 (fun d K => A3_1_l13_3 l13_3 k d K) (mkG sh3_1_l13_4 [1, 7, 9, 12] (outT [(.exit 2, [7, 9]), (.ret, [6])]) (fun d K => A3_1_l13_4 l13_4 k d K) [])))) b3_1 (encT sh3_1_l13_3.vs d.1) (encH sh3_1_l13_3.h d.2) K := by kernel_rfl
theorem L3_1_l13_4g (F k : Nat) (c11_1 : Y11_1) (c12_1 : Y12_1) (c13_1 : Y13_1) (c14_1 : Y14_1) (c14_269 : Y14_269) (c14_7171 : Y14_7171) (c14_9465 : Y14_9465) (c15_1 : Y15_1) (c15_6206 : Y15_6206) (c16_1 : Y16_1) (c16_568 : Y16_568) (c17_1 : Y17_1) (c18_1 : Y18_1) (c18_568 : Y18_568)  (l13 : Y3_1_l13) (l13_2 : Y3_1_l13_2) (l13_3 : Y3_1_l13_3) (l13_4 : Y3_1_l13_4) (X6 : LoopS) (X13 : LoopS) (d : sh3_1_l13_4.den) (K : KL) : A3_1_l13_4 ((fun (v174 : Int) (v176 : List (Int × (Int × (Int × (Int × (ByteArray × (Sl .bool))))))) (v177 : Int) (v178 : Bool) (v179 : Int) (v180 : List ByteArray) (v181 : List (Int × ByteArray)) (v182 : Int) (v183 : Bool) (v184 : Int) (v185 : List ByteArray) (v186 : List (Int × ByteArray)) (K0 : (Option Res)) (K1 : (Option Res)) (k : Nat) (v175 : Int) => cond (decide (v175 < v174)) (c15_1 v175 v177 v178 v179 v180 v181 (fun x187 x188 => cond (decide ((0 : Int) ≤ v175 ∧ v175 < ((v185.length : Nat) : Int))) (cond (decide (0 + v175.toNat < v185.length)) (cond (!(x187.toList == (v185.getD (0 + v175.toNat) ByteArray.empty).toList)) (K0) (l13_4 v174 v176 v177 v178 v179 v180 v181 v182 v183 v184 v185 v186 K0 K1 k (IntKind.i64.wrap (v175 + 1)))) none) none) ) (K1))) k d K = roundOf Tryz.prog (TB3_1 c11_1 c12_1 c13_1 c14_1 c14_269 c14_7171 c14_9465 c15_1 c15_6206 c16_1 c16_568 c17_1 c18_1 c18_568) (xw [10]) 99 1 (ltab [(6, X6), (13, X13)]) (orG sh3_1_l13 (fun d K => A3_1_l13 l13 k d K) (orG sh3_1_l13_2 (fun d K => A3_1_l13_2 l13_2 k d K) (orG sh3_1_l13_3 (fun d K => A3_1_l13_3 l13_3 k d K) (mkG sh3_1_l13_4 [1, 7, 9, 12] (outT [(.exit 2, [7, 9]), (.ret, [6])]) (fun d K => A3_1_l13_4 l13_4 k d K) [])))) b3_1 (encT sh3_1_l13_4.vs d.1) (encH sh3_1_l13_4.h d.2) K := by kernel_rfl
theorem L3_1_13 (F : Nat) : LoopOK Tryz.prog (T3_1 F) (xw [10]) 99 1 (LT3_1 F) (G3_1_13 F F) b3_1 :=
  loopOK_vers (G3_1_13 F) F (fun k => ⟨rfl, rfl⟩) (verOK_cons (s := sh3_1_l13) (all := (G3_1_13 F)) (fun k d K => A3_1_l13 (f3_1_l13 F) k d K) (fun d K => by kernel_rfl) (fun k d K => Eq.mp (by kernel_rfl) (L3_1_l13g F k (f11_1 F) (f12_1 F) (f13_1 F) (f14_1 F) (f14_269 F) (f14_7171 F) (f14_9465 F) (f15_1 F) (f15_6206 F) (f16_1 F) (f16_568 F) (f17_1 F) (f18_1 F) (f18_568 F)  (f3_1_l13 F) (f3_1_l13_2 F) (f3_1_l13_3 F) (f3_1_l13_4 F) (G3_1_6 F F) (G3_1_13 F F) d K)) (verOK_cons (s := sh3_1_l13_2) (all := (G3_1_13 F)) (fun k d K => A3_1_l13_2 (f3_1_l13_2 F) k d K) (fun d K => by kernel_rfl) (fun k d K => Eq.mp (by kernel_rfl) (L3_1_l13_2g F k (f11_1 F) (f12_1 F) (f13_1 F) (f14_1 F) (f14_269 F) (f14_7171 F) (f14_9465 F) (f15_1 F) (f15_6206 F) (f16_1 F) (f16_568 F) (f17_1 F) (f18_1 F) (f18_568 F)  (f3_1_l13 F) (f3_1_l13_2 F) (f3_1_l13_3 F) (f3_1_l13_4 F) (G3_1_6 F F) (G3_1_13 F F) d K)) (verOK_cons (s := sh3_1_l13_3) (all := (G3_1_13 F)) (fun k d K => A3_1_l13_3 (f3_1_l13_3 F) k d K) (fun d K => by kernel_rfl) (fun k d K => Eq.mp (by kernel_rfl) (L3_1_l13_3g F k (f11_1 F) (f12_1 F) (f13_1 F) (f14_1 F) (f14_269 F) (f14_7171 F) (f14_9465 F) (f15_1 F) (f15_6206 F) (f16_1 F) (f16_568 F) (f17_1 F) (f18_1 F) (f18_568 F)  (f3_1_l13 F) (f3_1_l13_2 F) (f3_1_l13_3 F) (f3_1_l13_4 F) (G3_1_6 F F) (G3_1_13 F F) d K)) (verOK_last (s := sh3_1_l13_4) (live := [1, 7, 9, 12]) (out := (outT [(.exit 2, [7, 9]), (.ret, [6])])) (mv := []) (all := (G3_1_13 F)) (fun k d K => A3_1_l13_4 (f3_1_l13_4 F) k d K) (fun d K => by kernel_rfl) (fun k d K => Eq.mp (by kernel_rfl) (L3_1_l13_4g F k (f11_1 F) (f12_1 F) (f13_1 F) (f14_1 F) (f14_269 F) (f14_7171 F) (f14_9465 F) (f15_1 F) (f15_6206 F) (f16_1 F) (f16_568 F) (f17_1 F) (f18_1 F) (f18_568 F)  (f3_1_l13 F) (f3_1_l13_2 F) (f3_1_l13_3 F) (f3_1_l13_4 F) (G3_1_6 F F) (G3_1_13 F F) d K))))))
theorem E3_1g (F : Nat) (c11_1 : Y11_1) (c12_1 : Y12_1) (c13_1 : Y13_1) (c14_1 : Y14_1) (c14_269 : Y14_269) (c14_7171 : Y14_7171) (c14_9465 : Y14_9465) (c15_1 : Y15_1) (c15_6206 : Y15_6206) (c16_1 : Y16_1) (c16_568 : Y16_568) (c17_1 : Y17_1) (c18_1 : Y18_1) (c18_568 : Y18_568) (l6 : Y3_1_l6) (l6_2 : Y3_1_l6_2) (l6_3 : Y3_1_l6_3) (l6_4 : Y3_1_l6_4) (l13 : Y3_1_l13) (l13_2 : Y3_1_l13_2) (l13_3 : Y3_1_l13_3) (l13_4 : Y3_1_l13_4)  (d : sh3_1.den) (K : KF) : evBody Tryz.prog (TB3_1 c11_1 c12_1 c13_1 c14_1 c14_269 c14_7171 c14_9465 c15_1 c15_6206 c16_1 c16_568 c17_1 c18_1 c18_568) (xw [10]) 99 1 (ltab [(6, orG sh3_1_l6 (fun d K => A3_1_l6 l6 F d K) (orG sh3_1_l6_2 (fun d K => A3_1_l6_2 l6_2 F d K) (orG sh3_1_l6_3 (fun d K => A3_1_l6_3 l6_3 F d K) (mkG sh3_1_l6_4 [1, 2, 3, 7, 9, 11] (outT [(.exit 0, [1, 7, 9]), (.ret, [6])]) (fun d K => A3_1_l6_4 l6_4 F d K) [])))), (13, orG sh3_1_l13 (fun d K => A3_1_l13 l13 F d K) (orG sh3_1_l13_2 (fun d K => A3_1_l13_2 l13_2 F d K) (orG sh3_1_l13_3 (fun d K => A3_1_l13_3 l13_3 F d K) (mkG sh3_1_l13_4 [1, 7, 9, 12] (outT [(.exit 2, [7, 9]), (.ret, [6])]) (fun d K => A3_1_l13_4 l13_4 F d K) []))))]) [] code3 Tryz.f3.results.toList (encT sh3_1.vs d.1) (encH sh3_1.h d.2) K = A3_1 (fun (a1 : Int) (a2 : Int) (a3 : Int) (a4 : Int) (a5 : Int) (a6 : List (Int × (Int × (Int × (Int × (ByteArray × (Sl .bool))))))) (K0 : (Bool → Option Res)) => cond (decide (a5 < 1)) (c11_1  (fun x1 => K0 x1) ) (cond (decide (a5 > 120)) (c11_1  (fun x2 => K0 x2) ) (cond (decide (((a6.length : Nat) : Int) > 40)) (c11_1  (fun x3 => K0 x3) ) (c12_1 a5 (c13_1 a5 (l6 a5 a6 a1 a2 a3 a4 (fun x13 => K0 x13) (l13 a5 0 a6 (none) F) F 0) (fun x17 x18 => l6_2 a5 a6 a1 a2 a3 a4 (fun x38 x39 x40 x41 x42 x43 => K0 x38) (fun x44 x45 x46 x47 x48 => K0 false) (fun x49 x50 x51 x52 x53 => l13_2 a5 a6 x49 x50 x51 x52 x53 (K0 false) (c16_568  (cond ((0 : Int) == x51) (c18_568  (fun x62 => c17_1 x62 x53 (fun x63 => cond x63 (c11_1  (fun x64 => K0 x64) ) (K0 false)) ) ) (K0 false)) ) F 0) F 0 (-1) false 0 x17 x18) ) (fun x65 x66 => c13_1 a5 (l6_3 a5 a6 a1 a2 a3 a4 (fun x86 x87 x88 x89 x90 x91 => K0 x86) (fun x92 x93 x94 x95 x96 => K0 false) (fun x97 x98 x99 x100 x101 => l13_3 a5 0 a6 x97 x98 x99 x100 x101 (none) F) F 0 (-1) false 0 x65 x66) (fun x112 x113 => l6_4 a5 a6 a1 a2 a3 a4 (fun x143 x144 x145 x146 x147 x148 x149 x150 x151 x152 x153 => K0 x143) (fun x154 x155 x156 x157 x158 x159 x160 x161 x162 x163 => K0 false) (fun x164 x165 x166 x167 x168 x169 x170 x171 x172 x173 => l13_4 a5 a6 x164 x165 x166 x167 x168 x169 x170 x171 x172 x173 (K0 false) (c16_1 x164 x165 x166 x167 x168 (cond (x166 == x171) (c18_1 x164 x165 x166 x167 x168 (fun x189 => c17_1 x189 x173 (fun x190 => cond x190 (c11_1  (fun x191 => K0 x191) ) (K0 false)) ) ) (K0 false)) ) F 0) F 0 (-1) false 0 x65 x66 (-1) false 0 x112 x113) ) )))) d K := by kernel_rfl
theorem E3_1 (F : Nat) (d : sh3_1.den) (K : KF) : evBody Tryz.prog (T3_1 F) (xw [10]) 99 1 (LT3_1 F) [] code3 Tryz.f3.results.toList (encT sh3_1.vs d.1) (encH sh3_1.h d.2) K = A3_1 (f3_1 F) d K := Eq.mp (by kernel_rfl) (E3_1g F (f11_1 F) (f12_1 F) (f13_1 F) (f14_1 F) (f14_269 F) (f14_7171 F) (f14_9465 F) (f15_1 F) (f15_6206 F) (f16_1 F) (f16_568 F) (f17_1 F) (f18_1 F) (f18_568 F) (f3_1_l6 F) (f3_1_l6_2 F) (f3_1_l6_3 F) (f3_1_l6_4 F) (f3_1_l13 F) (f3_1_l13_2 F) (f3_1_l13_3 F) (f3_1_l13_4 F)  d K)
theorem S3_1_ok (F : Nat) (o : Summ) (ho : SoundFn Tryz.prog 3 o) : SoundFn Tryz.prog 3 (S3_1 F o) :=
  soundFn_of (fn := Tryz.f3) (c := code3) rfl rfl (by kernel_rfl) (tab_cons (S11_1_ok F _ (noS_sound enter11)) (tab_cons (S12_1_ok F _ (noS_sound enter12)) (tab_cons (S13_1_ok F _ (noS_sound enter13)) (tab_cons (S14_1_ok F _ (S14_269_ok F _ (S14_7171_ok F _ (S14_9465_ok F _ (noS_sound enter14))))) (tab_cons (S15_1_ok F _ (S15_6206_ok F _ (noS_sound enter15))) (tab_cons (S16_1_ok F _ (S16_568_ok F _ (noS_sound enter16))) (tab_cons (S17_1_ok F _ (noS_sound enter17)) (tab_cons (S18_1_ok F _ (S18_568_ok F _ (noS_sound enter18))) tab_nil)))))))) (by kernel_rfl) (by kernel_rfl) ho (by rw [loops3]; exact (loopsOK_cons (by kernel_rfl) (L3_1_6 F) (loopsOK_cons (by kernel_rfl) (L3_1_13 F) loopsOK_nil))) (by rw [scopes3]; exact scopesOK_nil) (by rw [ranges3]; exact rangesOK_nil) (E3_1 F)
end Go.Proofs.YtlgopekjjkdkiaaGreatDoor.X
end

section
/- Numbers of a fixed width: what wrapping and the bits' operations come to where nothing is lost. -/
namespace Go.Proofs.YtlgopekjjkdkiaaGreatDoor.X
open Go Go.Proofs.YtlgopekjjkdkiaaGreatDoor.Ev
set_option linter.unusedSectionVars false
variable [FZ]
set_option linter.unusedVariables false
set_option linter.unusedSimpArgs false

theorem w64 {x : Int} (h : -9223372036854775808 ≤ x) (h' : x ≤ 9223372036854775807) : IntKind.i64.wrap x = x := by
  simp only [IntKind.wrap, IntKind.bits, IntKind.signed, Bool.true_and]
  split <;> (rename_i hq; simp at hq; omega)

theorem wu64 {x : Int} (h : 0 ≤ x) (h' : x < 18446744073709551616) : IntKind.u64.wrap x = x := by
  simp only [IntKind.wrap, IntKind.bits, IntKind.signed, Bool.false_and]
  simp; omega

theorem wu32 {x : Int} (h : 0 ≤ x) (h' : x < 4294967296) : IntKind.u32.wrap x = x := by
  simp only [IntKind.wrap, IntKind.bits, IntKind.signed, Bool.false_and]
  simp; omega

theorem wu8 {x : Int} (h : 0 ≤ x) (h' : x < 256) : IntKind.u8.wrap x = x := by
  simp only [IntKind.wrap, IntKind.bits, IntKind.signed, Bool.false_and]
  simp; omega

theorem wu64m (x : Int) : IntKind.u64.wrap x = x % 18446744073709551616 := by
  simp only [IntKind.wrap, IntKind.bits, IntKind.signed, Bool.false_and]
  simp
theorem wu32m (x : Int) : IntKind.u32.wrap x = x % 4294967296 := by
  simp only [IntKind.wrap, IntKind.bits, IntKind.signed, Bool.false_and]
  simp
theorem wu8m (x : Int) : IntKind.u8.wrap x = x % 256 := by
  simp only [IntKind.wrap, IntKind.bits, IntKind.signed, Bool.false_and]
  simp

theorem i64_of_wf {n : Int} (h : (Lit.int .i64 n).wf = true) : -9223372036854775808 ≤ n ∧ n ≤ 9223372036854775807 := by
  simp [Lit.wf, IntKind.min, IntKind.max, IntKind.bits, IntKind.signed] at h; omega
theorem u64_of_wf {n : Int} (h : (Lit.int .u64 n).wf = true) : 0 ≤ n ∧ n < 18446744073709551616 := by
  simp [Lit.wf, IntKind.min, IntKind.max, IntKind.bits, IntKind.signed] at h; omega
theorem u8_of_wf {n : Int} (h : (Lit.int .u8 n).wf = true) : 0 ≤ n ∧ n < 256 := by
  simp [Lit.wf, IntKind.min, IntKind.max, IntKind.bits, IntKind.signed] at h; omega
theorem u32_of_wf {n : Int} (h : (Lit.int .u32 n).wf = true) : 0 ≤ n ∧ n < 4294967296 := by
  simp [Lit.wf, IntKind.min, IntKind.max, IntKind.bits, IntKind.signed] at h; omega

theorem or64 {A B : Nat} (hA : A < 2 ^ 64) (hB : B < 2 ^ 64) : ior .u64 (A : Int) (B : Int) = ((A ||| B : Nat) : Int) := by
  have h : (BitVec.ofInt 64 (A : Int) ||| BitVec.ofInt 64 (B : Int)).toNat = A ||| B := by
    simp [BitVec.toNat_or, BitVec.ofInt_natCast, BitVec.toNat_ofNat, Nat.mod_eq_of_lt hA, Nat.mod_eq_of_lt hB]
  have hl := Nat.or_lt_two_pow hA hB
  show IntKind.u64.wrap ((BitVec.ofInt 64 (A : Int) ||| BitVec.ofInt 64 (B : Int)).toNat : Int) = _
  rw [h, wu64 (by omega) (by omega)]
theorem and64 {A B : Nat} (hA : A < 2 ^ 64) (hB : B < 2 ^ 64) : iand .u64 (A : Int) (B : Int) = ((A &&& B : Nat) : Int) := by
  have h : (BitVec.ofInt 64 (A : Int) &&& BitVec.ofInt 64 (B : Int)).toNat = A &&& B := by
    simp [BitVec.toNat_and, BitVec.ofInt_natCast, BitVec.toNat_ofNat, Nat.mod_eq_of_lt hA, Nat.mod_eq_of_lt hB]
  have hl : A &&& B < 2 ^ 64 := Nat.and_lt_two_pow A hB
  show IntKind.u64.wrap ((BitVec.ofInt 64 (A : Int) &&& BitVec.ofInt 64 (B : Int)).toNat : Int) = _
  rw [h, wu64 (by omega) (by omega)]
theorem shl64 {i : Nat} (hi : i < 64) : ishl .u64 1 (i : Int) = ((2 ^ i : Nat) : Int) := by
  have h2 : (2 : Nat) ^ i < 2 ^ 64 := Nat.pow_lt_pow_right (by omega) hi
  have : (1 : Int) * 2 ^ (min i 64) = ((2 ^ i : Nat) : Int) := by
    rw [Nat.min_eq_left (by omega), Int.one_mul]; push_cast; rfl
  simp only [ishl, IntKind.bits, Int.toNat_natCast]
  rw [this, wu64 (Int.natCast_nonneg _) (Int.ofNat_lt.2 h2)]
theorem shr64 {A i : Nat} (hi : i < 64) : ishr .u64 (A : Int) (i : Int) = ((A >>> i : Nat) : Int) := by
  have : ((2 : Int) ^ i) = ((2 ^ i : Nat) : Int) := by push_cast; rfl
  simp only [ishr, IntKind.bits, Int.toNat_natCast]
  rw [Nat.min_eq_left (by omega), Int.fdiv_eq_ediv_of_nonneg _ (by rw [this]; exact Int.natCast_nonneg _), this, Nat.shiftRight_eq_div_pow]
  push_cast; rfl

/-- The number with given bits, below n. -/
def mk (f : Nat → Bool) : Nat → Nat
  | 0 => 0
  | n + 1 => if f n then mk f n ||| 2 ^ n else mk f n

theorem mk_lt (f : Nat → Bool) : ∀ n, mk f n < 2 ^ n
  | 0 => by simp [mk]
  | n + 1 => by
    have := mk_lt f n
    have h2 : (2 : Nat) ^ n < 2 ^ (n + 1) := Nat.pow_lt_pow_right (by omega) (by omega)
    simp only [mk]
    split
    · exact Nat.or_lt_two_pow (by omega) h2
    · omega

theorem mk_bit (f : Nat → Bool) : ∀ n j, (mk f n).testBit j = (decide (j < n) && f j)
  | 0, j => by simp [mk]
  | n + 1, j => by
    simp only [mk]
    split
    · rename_i h
      rw [Nat.testBit_or, mk_bit f n, Nat.testBit_two_pow]
      by_cases hj : j = n
      · subst hj; simp [h]
      · have h1 : decide (j < n) = decide (j < n + 1) := decide_eq_decide.2 (by omega)
        simp [Ne.symm hj, h1]
    · rename_i h
      rw [mk_bit f n]
      by_cases hj : j = n
      · subst hj; simp at h; simp [h]
      · have h1 : decide (j < n) = decide (j < n + 1) := decide_eq_decide.2 (by omega)
        rw [h1]

theorem mk_eq {A n : Nat} {f : Nat → Bool} (hA : A < 2 ^ n) (h : ∀ j, j < n → f j = A.testBit j) : mk f n = A := by
  apply Nat.eq_of_testBit_eq
  intro j
  rw [mk_bit]
  by_cases hj : j < n
  · simp [hj, h j hj]
  · simp [hj]
    exact Nat.testBit_lt_two_pow (Nat.lt_of_lt_of_le hA (Nat.pow_le_pow_right (by omega) (by omega)))

theorem bit_test {A i : Nat} : ((A >>> i &&& 1 : Nat) == 1) = A.testBit i := by
  simp [Nat.testBit, Nat.and_comm]

theorem natbeq {a b : Nat} : (((a : Int) == ((b : Nat) : Int)) : Bool) = (a == b) := by
  rw [Bool.eq_iff_iff]; simp; omega

theorem tdiv_nn {a b : Nat} : ((a : Int).tdiv (b : Int)) = ((a / b : Nat) : Int) := by
  rw [Int.tdiv_eq_ediv_of_nonneg (by omega)]; rfl
theorem tmod_nn {a b : Nat} : ((a : Int).tmod (b : Int)) = ((a % b : Nat) : Int) := by
  rw [Int.tmod_eq_emod_of_nonneg (by omega)]; rfl

theorem lbeq_refl (k : EK) (hr : ∀ x : k.den, k.beq x x = true) : ∀ l : List k.den, lbeq k l l = true
  | [] => rfl
  | x :: r => by simp [lbeq, hr x, lbeq_refl k hr r]
theorem lbeq_int (k : IntKind) (l : List Int) : lbeq (.int k) l l = true := lbeq_refl (.int k) (fun x => by simp [EK.beq]) l
theorem lbeq_int_iff (k : IntKind) : ∀ (l r : List Int), lbeq (.int k) l r = true ↔ l = r
  | [], [] => by simp [lbeq]
  | [], _ :: _ => by simp [lbeq]
  | _ :: _, [] => by simp [lbeq]
  | x :: l, y :: r => by simp [lbeq, EK.beq, lbeq_int_iff k l r]

theorem ct {α : Sort _} {p : Prop} [Decidable p] {a b : α} (h : p) : cond (decide p) a b = a := by simp [h]
theorem cf {α : Sort _} {p : Prop} [Decidable p] {a b : α} (h : ¬ p) : cond (decide p) a b = b := by simp [h]

end Go.Proofs.YtlgopekjjkdkiaaGreatDoor.X
end

section
/- A disk: what each act of the program's and of the document's comes to, in one form (each function has one way out: gen.py moves the lists). -/
namespace Go.Proofs.YtlgopekjjkdkiaaGreatDoor.X
open Go Go.Proofs.YtlgopekjjkdkiaaGreatDoor.Ev
set_option linter.unusedSectionVars false
variable [FZ]
set_option linter.unusedVariables false
set_option linter.unusedSimpArgs false

abbrev WL := List (Int × ByteArray)

/-- What is so of a disk of n sectors, behind at most k acts. -/
structure DS (n k : Nat) (a c : Int) (l : List ByteArray) (w : WL) : Prop where
  n40 : n ≤ 2000
  k300 : k ≤ 300
  len : l.length = n
  wl : w.length ≤ k
  wb : ∀ p ∈ w, 0 ≤ p.1 ∧ p.1 < n
  ar : -1 ≤ a ∧ a ≤ 9223372036854775807
  cr : 0 ≤ c ∧ c ≤ k

theorem getD_of_drop {α : Type} {l r : List α} {i : Nat} {x d : α} (h : l.drop i = x :: r) : i < l.length ∧ l.getD (0 + (i : Int).toNat) d = x ∧ l.drop (i + 1) = r := by
  have h1 : i < l.length := by
    rcases Nat.lt_or_ge i l.length with h1 | h1
    · exact h1
    · rw [List.drop_eq_nil_of_le h1] at h; cases h
  rw [List.drop_eq_getElem_cons h1] at h
  injection h with h2 h3
  refine ⟨h1, ?_, h3⟩
  simp [h1, h2]

theorem getD_out {α : Type} {l : List α} {i : Nat} {d : α} (h : l.length ≤ i) : l.getD i d = d := by simp [List.getD_eq_getElem?_getD, List.getElem?_eq_none h]

theorem len_of_drop_nil {α : Type} {l : List α} {i : Nat} (h : l.drop i = []) (hi : i ≤ l.length) : i = l.length := by
  have := congrArg List.length h
  simp at this; omega

/-! ### A sector as it is flushed; as it was written last -/

def kp (x : Int) (l : List ByteArray) : ByteArray × Int := if 0 ≤ x ∧ x < (l.length : Int) then (l.getD x.toNat ByteArray.empty, 0) else (ByteArray.empty, 3)

theorem keptP {β : Type} {F : Nat} {x a c : Int} {b : Bool} {l : List ByteArray} {w : WL} {K : ByteArray → Int → Option β} : f15_1 F x a b c l w K = K (kp x l).1 (kp x l).2 := by
  rw [f15_1, f77_1, kp]
  by_cases h1 : 0 ≤ x
  · rw [ct (by omega)]
    by_cases h2 : x < (l.length : Int)
    · rw [if_pos ⟨h1, h2⟩, decide_eq_true h2, Bool.not_true, cond_false, ct ⟨h1, h2⟩, ct (by omega), Nat.zero_add]
    · rw [if_neg (by omega), decide_eq_false h2, Bool.not_false, cond_true]
  · rw [cf (by omega), if_neg (by omega), Bool.not_false, cond_true]

theorem keptR {β : Type} {F : Nat} {x a c : Int} {b : Bool} {l : List ByteArray} {w : WL} {K : ByteArray → Int → Option β} : f175_1 F x a b c l w K = K (kp x l).1 (kp x l).2 := by
  rw [f175_1, kp]
  by_cases h1 : 0 ≤ x
  · rw [cf (by omega)]
    by_cases h2 : x < (l.length : Int)
    · rw [if_pos ⟨h1, h2⟩, cf (by omega), ct ⟨h1, h2⟩, ct (by omega), Nat.zero_add]
    · rw [if_neg (by omega), ct (by omega)]
  · rw [ct (by omega), if_neg (by omega)]

/-- What was written last to a sector, in place of s. -/
def last (x : Int) (s : ByteArray) (w : WL) : ByteArray := w.foldl (fun s p => if p.1 = x then p.2 else s) s

def rd (x : Int) (b : Bool) (l : List ByteArray) (w : WL) : ByteArray × Int :=
  if b then (ByteArray.empty, 5) else (if 0 ≤ x ∧ x < (l.length : Int) then last x (l.getD x.toNat ByteArray.empty) w else ByteArray.empty, (kp x l).2)

theorem readRl {β : Type} {F : Nat} {x a c : Int} {b : Bool} {l : List ByteArray} {w : WL} {K : ByteArray → Option β} (hw : w.length ≤ 300) : ∀ (r : WL) (i k : Nat) (s : ByteArray), w.drop i = r → i ≤ w.length → r.length < k →
    f124_1_l5 F x 0 a b c l w K k s (i : Int) = K (last x s r)
  | [], i, 0, s, _, _, hk => by simp at hk
  | _ :: _, i, 0, s, _, _, hk => by simp at hk
  | [], i, k + 1, s, hd, hi, _ => by
    have := len_of_drop_nil hd hi
    rw [f124_1_l5, cf (by omega)]; rfl
  | p :: r, i, k + 1, s, hd, hi, hk => by
    obtain ⟨h1, h2, h3⟩ := getD_of_drop (d := ((0, ByteArray.empty) : Int × ByteArray)) hd
    rw [f124_1_l5, ct (by omega), show ((0 : Int) == 0) = true from rfl, cond_true, ct (by omega), ct (by omega), h2, w64 (by omega) (by omega), ct (by omega), ct (by omega)]
    have ih := fun s => readRl (F := F) (x := x) (a := a) (b := b) (c := c) (l := l) (K := K) hw r (i + 1) k s h3 (by omega) (by simp at hk; omega)
    push_cast at ih
    by_cases hx : p.1 = x
    · rw [show (p.1 == x) = true from by simp [hx], cond_true, ih, last, last, List.foldl_cons, if_pos hx]
    · rw [show (p.1 == x) = false from by simp [hx], cond_false, ih, last, last, List.foldl_cons, if_neg hx]

theorem readRl3 {β : Type} {F : Nat} {x a c : Int} {b : Bool} {l : List ByteArray} {w : WL} {s : ByteArray} {K : ByteArray → Option β} {k : Nat} : f124_1_l5 F x 3 a b c l w K (k + 1) s 0 = K s := by
  rw [f124_1_l5]
  by_cases h : (0 : Int) < ((w.length : Nat) : Int)
  · rw [ct h]; rfl
  · rw [cf h]

theorem readR {β : Type} {F n k : Nat} (hF : 400 ≤ F) {x a c : Int} {b : Bool} {l : List ByteArray} {w : WL} (h : DS n k a c l w) {K : ByteArray → Int → Option β} : f124_1 F x a b c l w K = K (rd x b l w).1 (rd x b l w).2 := by
  have hk := h.k300; have hwl := h.wl
  rw [f124_1]
  cases b with
  | true => rfl
  | false =>
    rw [cond_false, keptR, rd, if_neg (by simp), kp]
    by_cases hx : 0 ≤ x ∧ x < (l.length : Int)
    · rw [if_pos hx, if_pos hx]
      exact readRl (by omega) w 0 F _ rfl (by omega) (by omega)
    · rw [if_neg hx, if_neg hx]
      obtain ⟨F', rfl⟩ : ∃ F', F = F' + 1 := ⟨F - 1, by omega⟩
      exact readRl3

/-- The last write to a sector. -/
def lastW (x : Int) : WL → Option ByteArray
  | [] => none
  | p :: r => match lastW x r with
    | some s => some s
    | none => if p.1 = x then some p.2 else none

theorem last_eq (x : Int) : ∀ (w : WL) (s : ByteArray), last x s w = (match lastW x w with | some t => t | none => s)
  | [], s => rfl
  | p :: r, s => by
    rw [last, List.foldl_cons, ← last, last_eq x r, lastW]
    cases lastW x r with
    | some t => rfl
    | none =>
      by_cases hp : p.1 = x
      · simp [hp]
      · simp [hp]

theorem lastW_app (x : Int) (p : Int × ByteArray) : ∀ w : WL, lastW x (w ++ [p]) = if p.1 = x then some p.2 else lastW x w
  | [] => by simp [lastW]
  | q :: r => by
    rw [List.cons_append, lastW, lastW_app x p r, lastW]
    by_cases hp : p.1 = x
    · simp [hp]
    · simp [hp]

theorem readPl {β : Type} {F : Nat} {x a c z : Int} {b : Bool} {l : List ByteArray} {w : WL} {s : ByteArray} {K0 : ByteArray → Int → ByteArray → Option β} {K1 : Option β} (hw : w.length ≤ 300) : ∀ (i k : Nat), i ≤ w.length → i < k →
    f37_1_r2000006_l1 F a b c l w x s z K0 K1 k ((i : Int) - 1) = (match lastW x (w.take i) with | some t => K0 t x t | none => K1)
  | _, 0, _, h => by omega
  | 0, k + 1, _, _ => by
    rw [f37_1_r2000006_l1, cf (by omega)]; rfl
  | i + 1, k + 1, hi, hk => by
    have h1 : i < w.length := by omega
    have e1 : (((i + 1 : Nat) : Int) - 1) = (i : Int) := by omega
    rw [e1, f37_1_r2000006_l1, ct (by omega), ct (by omega), ct (by omega), w64 (by omega) (by omega), readPl hw i k (by omega) (by omega)]
    have hg : w.getD (0 + (i : Int).toNat) ((0, ByteArray.empty) : Int × ByteArray) = w[i] := by simp [h1]
    rw [hg, List.take_succ_eq_append_getElem h1, lastW_app]
    by_cases hp : w[i].1 = x
    · rw [if_pos hp, show (w[i].1 == x) = true from by simp [hp], cond_true, hp]
    · rw [if_neg hp, show (w[i].1 == x) = false from by simp [hp], cond_false]

theorem lastW_none {x : Int} : ∀ {w : WL}, (∀ p ∈ w, p.1 ≠ x) → lastW x w = none
  | [], _ => rfl
  | p :: r, h => by rw [lastW, lastW_none (fun q hq => h q (by simp [hq]))]; simp [h p (by simp)]

theorem readP {β : Type} {F n k : Nat} (hF : 400 ≤ F) {x a c : Int} {b : Bool} {l : List ByteArray} {w : WL} (h : DS n k a c l w) {K : ByteArray → Int → Option β} : f37_1 F x a b c l w K = K (rd x b l w).1 (rd x b l w).2 := by
  have hk := h.k300; have hwl := h.wl
  rw [f37_1]
  cases b with
  | true => rfl
  | false =>
    rw [cond_false, f99_1, f37_1_r2000006, w64 (by omega) (by omega), readPl (by omega) w.length F (Nat.le_refl _) (by omega), List.take_length, rd, if_neg (by simp)]
    by_cases hx : 0 ≤ x ∧ x < (l.length : Int)
    · rw [if_pos hx, last_eq]
      cases hq : lastW x w with
      | none => simp only [keptP]; rw [kp, if_pos hx]
      | some t => simp only [kp, if_pos hx]
    · rw [if_neg hx, lastW_none (fun p hp he => hx (by have := h.wb p hp; have := h.len; omega))]
      simp only [keptP]; rw [kp, if_neg hx]

/-! ### A write -/

def dec (a : Int) : Int := if a = -1 then a else a - 1

def wS (x : Int) (t : ByteArray) (a : Int) (b : Bool) (c : Int) (l : List ByteArray) (w : WL) : Int × Int × Bool × Int × WL :=
  if b then (5, a, b, c, w) else if ¬ (0 ≤ x ∧ x < (l.length : Int)) then (3, a, b, c, w) else if t.size ≠ 64 then (4, a, b, c, w) else if a = 0 then (5, -1, true, c, w) else (0, dec a, b, c + 1, w ++ [(x, t)])

theorem writeP {β : Type} {F n k : Nat} {x a c : Int} {t : ByteArray} {b : Bool} {l : List ByteArray} {w : WL} (h : DS n k a c l w) {K : Int → Int → Bool → Int → WL → Option β} :
    f24_1 F x t a b c l w K = K (wS x t a b c l w).1 (wS x t a b c l w).2.1 (wS x t a b c l w).2.2.1 (wS x t a b c l w).2.2.2.1 (wS x t a b c l w).2.2.2.2 := by
  have hk := h.k300; have hwl := h.wl; have ha := h.ar; have hc := h.cr
  rw [f24_1, wS]
  cases b with
  | true => rfl
  | false =>
    rw [cond_false, if_neg (by simp), f77_1, f85_1, f86_1]
    by_cases h1 : 0 ≤ x
    · rw [ct (by omega)]
      by_cases h2 : x < (l.length : Int)
      · rw [if_neg (by simp [h1, h2]), decide_eq_true h2, Bool.not_true, cond_false]
        by_cases h3 : t.size = 64
        · rw [if_neg (by simp [h3]), show ((t.size : Int) == 64) = true from by simp [h3], Bool.not_true, cond_false]
          by_cases h4 : a = 0
          · subst h4; rfl
          · rw [if_neg h4, show (a == 0) = false from by simp [h4], cond_false, dec]
            by_cases h5 : a = -1
            · rw [if_pos h5, show (a == -1) = true from by simp [h5], cond_true, cond_false, ct (by omega), w64 (by omega) (by omega)]
            · rw [if_neg h5, show (a == -1) = false from by simp [h5], cond_false, cond_false, ct (by omega), w64 (x := a - 1) (by omega) (by omega), w64 (by omega) (by omega)]
        · rw [if_pos (by simpa using h3), show ((t.size : Int) == 64) = false from by simp; omega]; rfl
      · rw [if_pos (by omega), decide_eq_false h2]; rfl
    · rw [cf (by omega), if_pos (by omega)]; rfl

theorem writeR {β : Type} {F n k : Nat} {x a c : Int} {t : ByteArray} {b : Bool} {l : List ByteArray} {w : WL} (h : DS n k a c l w) {K : Int → Int → Bool → Int → WL → Option β} :
    f74_1 F x t a b c l w K = K (wS x t a b c l w).1 (wS x t a b c l w).2.1 (wS x t a b c l w).2.2.1 (wS x t a b c l w).2.2.2.1 (wS x t a b c l w).2.2.2.2 := by
  have hk := h.k300; have hwl := h.wl; have ha := h.ar; have hc := h.cr
  rw [f74_1, wS]
  cases b with
  | true => rfl
  | false =>
    rw [cond_false, if_neg (by simp), f112_1, f140_1]
    by_cases h1 : 0 ≤ x
    · rw [cf (by omega)]
      by_cases h2 : x < (l.length : Int)
      · rw [if_neg (by simp [h1, h2]), cf (by omega)]
        by_cases h3 : t.size = 64
        · rw [if_neg (by simp [h3]), show ((t.size : Int) == 64) = true from by simp [h3], Bool.not_true, cond_false]
          by_cases h4 : a = 0
          · subst h4; rfl
          · rw [if_neg h4, show (a == 0) = false from by simp [h4], cond_false, dec]
            by_cases h5 : a = -1
            · rw [if_pos h5, cf (by omega), cond_false, ct (by omega), w64 (by omega) (by omega)]
            · rw [if_neg h5, ct (by omega), cond_false, ct (by omega), w64 (x := a - 1) (by omega) (by omega), w64 (by omega) (by omega)]
        · rw [if_pos (by simpa using h3), show ((t.size : Int) == 64) = false from by simp; omega]; rfl
      · rw [if_pos (by omega), ct (by omega)]
    · rw [ct (by omega), if_pos (by omega)]

/-! ### A flush -/

def put1 (l : List ByteArray) (p : Int × ByteArray) : List ByteArray := l.set p.1.toNat p.2
theorem put1_len (l : List ByteArray) (p : Int × ByteArray) : (put1 l p).length = l.length := by simp [put1]
theorem puts_len : ∀ (w : WL) (l : List ByteArray), (w.foldl put1 l).length = l.length
  | [], l => rfl
  | p :: r, l => by rw [List.foldl_cons, puts_len r, put1_len]

theorem flushPl {β : Type} {F n : Nat} {a c : Int} {b : Bool} {w : WL} {K : List ByteArray → Option β} (hw : w.length ≤ 300) (hb : ∀ p ∈ w, 0 ≤ p.1 ∧ p.1 < (n : Int)) : ∀ (r : WL) (i k : Nat) (l : List ByteArray), w.drop i = r → i ≤ w.length → r.length < k → l.length = n →
    f27_1_l6 F ((w.length : Nat) : Int) a b c w K k (i : Int) l = K (r.foldl put1 l)
  | [], i, 0, s, _, _, hk, _ => by simp at hk
  | _ :: _, i, 0, s, _, _, hk, _ => by simp at hk
  | [], i, k + 1, s, hd, hi, _, _ => by
    have := len_of_drop_nil hd hi
    rw [f27_1_l6, cf (by omega)]; rfl
  | p :: r, i, k + 1, l, hd, hi, hk, hl => by
    obtain ⟨h1, h2, h3⟩ := getD_of_drop (d := ((0, ByteArray.empty) : Int × ByteArray)) hd
    have hp := hb p (List.mem_of_mem_drop (by rw [hd]; simp))
    rw [f27_1_l6, ct (by omega), ct (by omega), ct (by omega), h2, ct (by omega), ct (by omega), w64 (by omega) (by omega), Nat.zero_add, List.foldl_cons]
    exact flushPl hw hb r (i + 1) k (put1 l p) h3 (by omega) (by simp at hk; omega) (by rw [put1_len]; exact hl)

theorem flushRl {β : Type} {F n : Nat} {a c : Int} {b : Bool} {w : WL} {K : List ByteArray → Option β} (hw : w.length ≤ 300) (hb : ∀ p ∈ w, 0 ≤ p.1 ∧ p.1 < (n : Int)) : ∀ (r : WL) (i k : Nat) (l : List ByteArray), w.drop i = r → i ≤ w.length → r.length < k → l.length = n →
    f143_1_l4 F a b c w K k (i : Int) l = K (r.foldl put1 l)
  | [], i, 0, s, _, _, hk, _ => by simp at hk
  | _ :: _, i, 0, s, _, _, hk, _ => by simp at hk
  | [], i, k + 1, s, hd, hi, _, _ => by
    have := len_of_drop_nil hd hi
    rw [f143_1_l4, cf (by omega)]; rfl
  | p :: r, i, k + 1, l, hd, hi, hk, hl => by
    obtain ⟨h1, h2, h3⟩ := getD_of_drop (d := ((0, ByteArray.empty) : Int × ByteArray)) hd
    have hp := hb p (List.mem_of_mem_drop (by rw [hd]; simp))
    rw [f143_1_l4, ct (by omega), ct (by omega), ct (by omega), h2, ct (by omega), ct (by omega), w64 (by omega) (by omega), Nat.zero_add, List.foldl_cons]
    exact flushRl hw hb r (i + 1) k (put1 l p) h3 (by omega) (by simp at hk; omega) (by rw [put1_len]; exact hl)

def fS (a : Int) (b : Bool) (c : Int) (l : List ByteArray) (w : WL) : Int × Int × Bool × Int × List ByteArray × WL :=
  if b then (5, a, b, c, l, w) else if a = 0 then (5, -1, true, c, l, w) else (0, dec a, b, c + 1, w.foldl put1 l, [])

theorem flushP {β : Type} {F n k : Nat} (hF : 400 ≤ F) {a c : Int} {b : Bool} {l : List ByteArray} {w : WL} (h : DS n k a c l w) {K : Int → Int → Bool → Int → List ByteArray → WL → Option β} :
    f27_1 F a b c l w K = K (fS a b c l w).1 (fS a b c l w).2.1 (fS a b c l w).2.2.1 (fS a b c l w).2.2.2.1 (fS a b c l w).2.2.2.2.1 (fS a b c l w).2.2.2.2.2 := by
  have hk := h.k300; have hwl := h.wl; have ha := h.ar; have hc := h.cr
  rw [f27_1, fS, f86_1]
  cases b with
  | true => rfl
  | false =>
    rw [cond_false, if_neg (by simp)]
    by_cases h4 : a = 0
    · subst h4; rfl
    · rw [if_neg h4, show (a == 0) = false from by simp [h4], cond_false, dec]
      by_cases h5 : a = -1
      · rw [if_pos h5, show (a == -1) = true from by simp [h5], cond_true, Bool.not_true, cond_false, w64 (by omega) (by omega)]
        exact flushPl (by omega) h.wb w 0 F l rfl (by omega) (by omega) h.len
      · rw [if_neg h5, show (a == -1) = false from by simp [h5], cond_false, Bool.not_true, cond_false, w64 (x := a - 1) (by omega) (by omega), w64 (by omega) (by omega)]
        exact flushPl (by omega) h.wb w 0 F l rfl (by omega) (by omega) h.len

theorem flushR {β : Type} {F n k : Nat} (hF : 400 ≤ F) {a c : Int} {b : Bool} {l : List ByteArray} {w : WL} (h : DS n k a c l w) {K : Int → Int → Bool → Int → List ByteArray → WL → Option β} :
    f143_1 F a b c l w K = K (fS a b c l w).1 (fS a b c l w).2.1 (fS a b c l w).2.2.1 (fS a b c l w).2.2.2.1 (fS a b c l w).2.2.2.2.1 (fS a b c l w).2.2.2.2.2 := by
  have hk := h.k300; have hwl := h.wl; have ha := h.ar; have hc := h.cr
  rw [f143_1, fS, f140_1]
  cases b with
  | true => rfl
  | false =>
    rw [cond_false, if_neg (by simp)]
    by_cases h4 : a = 0
    · subst h4; rfl
    · rw [if_neg h4, show (a == 0) = false from by simp [h4], cond_false, dec]
      by_cases h5 : a = -1
      · rw [if_pos h5, cf (by omega), Bool.not_true, cond_false, w64 (by omega) (by omega)]
        exact flushRl (by omega) h.wb w 0 F l rfl (by omega) (by omega) h.len
      · rw [if_neg h5, ct (by omega), Bool.not_true, cond_false, w64 (x := a - 1) (by omega) (by omega), w64 (by omega) (by omega)]
        exact flushRl (by omega) h.wb w 0 F l rfl (by omega) (by omega) h.len

section
variable {n k : Nat} {a c : Int} {l : List ByteArray} {w : WL}
theorem DS.more (h : DS n k a c l w) (hk : k < 300) : DS n (k + 1) a c l w := ⟨h.n40, by omega, h.len, by have := h.wl; omega, h.wb, h.ar, by have := h.cr; omega⟩
theorem DS.off (h : DS n k a c l w) (hk : k < 300) : DS n (k + 1) (-1) c l w := ⟨h.n40, by omega, h.len, by have := h.wl; omega, h.wb, by omega, by have := h.cr; omega⟩
theorem DS.fuse (h : DS n k a c l w) (hk : k < 300) {x : Int} (hx : x ≤ 9223372036854775807) : DS n (k + 1) (if (-1) > x then (-1) else x) c l w := ⟨h.n40, by omega, h.len, by have := h.wl; omega, h.wb, by split <;> omega, by have := h.cr; omega⟩
theorem DS.wrote (h : DS n k a c l w) (hk : k < 300) (h0 : a ≠ 0) {x : Int} {t : ByteArray} (hx : 0 ≤ x ∧ x < (l.length : Int)) : DS n (k + 1) (dec a) (c + 1) l (w ++ [(x, t)]) :=
  ⟨h.n40, by omega, h.len, by have := h.wl; simp; omega, fun p hp => by
    rcases List.mem_append.1 hp with hp | hp
    · exact h.wb p hp
    · simp at hp; subst hp; rw [← h.len]; exact hx, by have := h.ar; unfold dec; split <;> omega, by have := h.cr; omega⟩
theorem DS.flushed (h : DS n k a c l w) (hk : k < 300) (h0 : a ≠ 0) : DS n (k + 1) (dec a) (c + 1) (w.foldl put1 l) [] :=
  ⟨h.n40, by omega, by rw [puts_len]; exact h.len, by simp, fun p hp => (by cases hp), by have := h.ar; unfold dec; split <;> omega, by have := h.cr; omega⟩
end

theorem wS_same {x a c : Int} {t : ByteArray} {b : Bool} {l : List ByteArray} {w : WL} (h : (wS x t a b c l w).1 ≠ 0) : (wS x t a b c l w).2.2.2.2 = w := by
  unfold wS at h ⊢
  split
  · rfl
  · split
    · rfl
    · split
      · rfl
      · split
        · rfl
        · rename_i h1 h2 h3 h4
          rw [if_neg h1, if_neg h2, if_neg h3, if_neg h4] at h
          exact (h rfl).elim

theorem wS_ok {n k : Nat} {x a c : Int} {t : ByteArray} {b : Bool} {l : List ByteArray} {w : WL} (h : DS n k a c l w) (hk : k < 300) : DS n (k + 1) (wS x t a b c l w).2.1 (wS x t a b c l w).2.2.2.1 l (wS x t a b c l w).2.2.2.2 := by
  unfold wS
  split
  · exact h.more hk
  · split
    · exact h.more hk
    · rename_i h2
      split
      · exact h.more hk
      · split
        · exact h.off hk
        · rename_i h4
          exact h.wrote hk h4 (Classical.not_not.1 h2)

theorem fS_same {a c : Int} {b : Bool} {l : List ByteArray} {w : WL} (h : (fS a b c l w).1 ≠ 0) : (fS a b c l w).1 = 5 ∧ (fS a b c l w).2.2.2.2.1 = l ∧ (fS a b c l w).2.2.2.2.2 = w := by
  unfold fS at h ⊢
  split
  · exact ⟨rfl, rfl, rfl⟩
  · split
    · exact ⟨rfl, rfl, rfl⟩
    · rename_i h1 h2
      rw [if_neg h1, if_neg h2] at h
      exact (h rfl).elim

theorem fS_ok {n k : Nat} {a c : Int} {b : Bool} {l : List ByteArray} {w : WL} (h : DS n k a c l w) (hk : k < 300) : DS n (k + 1) (fS a b c l w).2.1 (fS a b c l w).2.2.2.1 (fS a b c l w).2.2.2.2.1 (fS a b c l w).2.2.2.2.2 := by
  unfold fS
  split
  · exact h.more hk
  · split
    · exact h.off hk
    · rename_i h4
      exact h.flushed hk h4

end Go.Proofs.YtlgopekjjkdkiaaGreatDoor.X
end

section
/- A disk: crashes; a write, then a flush. -/
namespace Go.Proofs.YtlgopekjjkdkiaaGreatDoor.X
open Go Go.Proofs.YtlgopekjjkdkiaaGreatDoor.Ev
set_option linter.unusedSectionVars false
variable [FZ]
set_option linter.unusedVariables false
set_option linter.unusedSimpArgs false

/-- A crash: the i-th write is kept where the i-th word says so. -/
def crB (ks : List Bool) : Nat → WL → List ByteArray → List ByteArray
  | _, [], l => l
  | i, p :: r, l => crB ks (i + 1) r (if ks.getD i false then put1 l p else l)

theorem crB_len (ks : List Bool) : ∀ (w : WL) (i : Nat) (l : List ByteArray), (crB ks i w l).length = l.length
  | [], _, l => rfl
  | p :: r, i, l => by
    rw [crB, crB_len ks r]
    split
    · exact put1_len l p
    · rfl

theorem crB_stop (ks : List Bool) : ∀ (w : WL) (i : Nat) (l : List ByteArray), ks.length ≤ i → crB ks i w l = l
  | [], _, l, _ => rfl
  | p :: r, i, l, h => by
    rw [crB, crB_stop ks r (i + 1) _ (by omega), getD_out h]; rfl

theorem crashPl {β : Type} {F n : Nat} {a c : Int} {b : Bool} {w : WL} {ks : List Bool} {K : List ByteArray → Option β} (hw : w.length ≤ 300) (hb : ∀ p ∈ w, 0 ≤ p.1 ∧ p.1 < (n : Int)) : ∀ (r : WL) (i k : Nat) (l : List ByteArray), w.drop i = r → i ≤ w.length → r.length < k → l.length = n →
    f32_1_l2 F ((w.length : Nat) : Int) a b c w ks K k (i : Int) l = K (crB ks i r l)
  | [], i, 0, s, _, _, hk, _ => by simp at hk
  | _ :: _, i, 0, s, _, _, hk, _ => by simp at hk
  | [], i, k + 1, s, hd, hi, _, _ => by
    have := len_of_drop_nil hd hi
    rw [f32_1_l2, cf (by omega)]; rfl
  | p :: r, i, k + 1, l, hd, hi, hk, hl => by
    obtain ⟨h1, h2, h3⟩ := getD_of_drop (d := ((0, ByteArray.empty) : Int × ByteArray)) hd
    have hp := hb p (List.mem_of_mem_drop (by rw [hd]; simp))
    have ih := fun l hl => crashPl (F := F) (a := a) (b := b) (c := c) (ks := ks) (K := K) hw hb r (i + 1) k l h3 (by omega) (by simp at hk; omega) hl
    push_cast at ih
    rw [f32_1_l2, ct (by omega), ct (by omega), ct (by omega), h2, w64 (by omega) (by omega), crB]
    by_cases hq : (i : Int) < ((ks.length : Nat) : Int)
    · have hg : ks.getD (0 + (i : Int).toNat) false = ks.getD i false := by rw [Nat.zero_add]; rfl
      rw [ct hq, ct (by omega), ct (by omega), hg]
      cases ks.getD i false with
      | false => rw [cond_false, ih l hl]; rfl
      | true => rw [cond_true, ct (by omega), ct (by omega), Nat.zero_add]; exact ih (put1 l p) (by rw [put1_len]; exact hl)
    · rw [cf hq, ih l hl, getD_out (by omega)]; rfl

theorem crashRl {β : Type} {F n : Nat} {a c : Int} {b : Bool} {w : WL} {ks : List Bool} {K : List ByteArray → Option β} (hw : w.length ≤ 300) (hb : ∀ p ∈ w, 0 ≤ p.1 ∧ p.1 < (n : Int)) : ∀ (r : WL) (i k : Nat) (l : List ByteArray), w.drop i = r → i ≤ w.length → r.length < k → l.length = n →
    f64_1_l1 F a b c w ks K k (i : Int) l = K (crB ks i r l)
  | [], i, 0, s, _, _, hk, _ => by simp at hk
  | _ :: _, i, 0, s, _, _, hk, _ => by simp at hk
  | [], i, k + 1, s, hd, hi, _, _ => by
    have := len_of_drop_nil hd hi
    rw [f64_1_l1, cf (by omega)]; rfl
  | p :: r, i, k + 1, l, hd, hi, hk, hl => by
    obtain ⟨h1, h2, h3⟩ := getD_of_drop (d := ((0, ByteArray.empty) : Int × ByteArray)) hd
    have hp := hb p (List.mem_of_mem_drop (by rw [hd]; simp))
    rw [f64_1_l1, ct (by omega)]
    by_cases hq : (i : Int) < ((ks.length : Nat) : Int)
    · have ih := fun l hl => crashRl (F := F) (a := a) (b := b) (c := c) (ks := ks) (K := K) hw hb r (i + 1) k l h3 (by omega) (by simp at hk; omega) hl
      push_cast at ih
      have hg : ks.getD (0 + (i : Int).toNat) false = ks.getD i false := by rw [Nat.zero_add]; rfl
      rw [ct hq, ct (by omega), ct (by omega), h2, w64 (by omega) (by omega), crB, ct (by omega), ct (by omega), hg]
      cases ks.getD i false with
      | false => rw [cond_false, ih l hl]; rfl
      | true => rw [cond_true, ct (by omega), ct (by omega), Nat.zero_add]; exact ih (put1 l p) (by rw [put1_len]; exact hl)
    · rw [cf hq, crB_stop ks _ i l (by omega)]

theorem crashP {β : Type} {F n k : Nat} (hF : 400 ≤ F) {a c : Int} {b : Bool} {l : List ByteArray} {w : WL} (h : DS n k a c l w) {ks : List Bool} {K : List ByteArray → WL → Option β} :
    f32_1 F a b c l w ks K = K (crB ks 0 w l) [] := by
  have hk := h.k300; have hwl := h.wl
  rw [f32_1]
  exact crashPl (by omega) h.wb w 0 F l rfl (by omega) (by omega) h.len

theorem crashR {β : Type} {F n k : Nat} (hF : 400 ≤ F) {a c : Int} {b : Bool} {l : List ByteArray} {w : WL} (h : DS n k a c l w) {ks : List Bool} {K : List ByteArray → WL → Option β} :
    f64_1 F a b c l w ks K = K (crB ks 0 w l) [] := by
  have hk := h.k300; have hwl := h.wl
  rw [f64_1]
  exact crashRl (by omega) h.wb w 0 F l rfl (by omega) (by omega) h.len

section
variable {n k : Nat} {a c : Int} {l : List ByteArray} {w : WL}
theorem DS.crashed (h : DS n k a c l w) (hk : k < 300) (ks : List Bool) : DS n (k + 1) (-1) c (crB ks 0 w l) [] :=
  ⟨h.n40, by omega, by rw [crB_len]; exact h.len, by simp, fun p hp => (by cases hp), by omega, by have := h.cr; omega⟩
theorem DS.came (h : DS n k a c l w) (hk : k < 300) : DS n (k + 1) (-1) c l [] :=
  ⟨h.n40, by omega, h.len, by simp, fun p hp => (by cases hp), by omega, by have := h.cr; omega⟩

end

abbrev St := Int × Int × Bool × Int × List ByteArray × WL

/-- A write, then a flush; or why not. -/
def svS (x : Int) (t : ByteArray) (a : Int) (b : Bool) (c : Int) (l : List ByteArray) (w : WL) : St :=
  if (wS x t a b c l w).1 ≠ 0 then ((wS x t a b c l w).1, (wS x t a b c l w).2.1, (wS x t a b c l w).2.2.1, (wS x t a b c l w).2.2.2.1, l, (wS x t a b c l w).2.2.2.2)
  else fS (wS x t a b c l w).2.1 (wS x t a b c l w).2.2.1 (wS x t a b c l w).2.2.2.1 l (wS x t a b c l w).2.2.2.2

def app {β : Type} (K : Int → Int → Bool → Int → List ByteArray → WL → Option β) (s : St) : Option β := K s.1 s.2.1 s.2.2.1 s.2.2.2.1 s.2.2.2.2.1 s.2.2.2.2.2

theorem svS_ok {m k : Nat} {a d : Int} {b : Bool} {l : List ByteArray} {w : WL} {x : Int} {t : ByteArray} (h : DS m k a d l w) (hk : k < 299) : DS m (k + 2) (svS x t a b d l w).2.1 (svS x t a b d l w).2.2.2.1 (svS x t a b d l w).2.2.2.2.1 (svS x t a b d l w).2.2.2.2.2 := by
  have h1 := wS_ok (x := x) (t := t) (b := b) h (by omega)
  unfold svS
  by_cases q : (wS x t a b d l w).1 = 0
  · rw [if_neg (show ¬ (wS x t a b d l w).1 ≠ 0 from fun hh => hh q)]
    exact fS_ok h1 (by omega)
  · rw [if_pos (show (wS x t a b d l w).1 ≠ 0 from q)]
    exact h1.more (by omega)

theorem svS_P {β : Type} {m k : Nat} {a d : Int} {b : Bool} {l : List ByteArray} {w : WL} {x : Int} {t : ByteArray} (h : DS m k a d l w) (hk : k < 299) {K : Int → Int → Bool → Int → List ByteArray → WL → Option β} :
    f24_1 20000 x t a b d l w (fun e a b c w => cond (e != 0) (K e a b c l w) (f27_1 20000 a b c l w K)) = app K (svS x t a b d l w) := by
  rw [writeP h, svS]
  by_cases q : (wS x t a b d l w).1 = 0
  · rw [if_neg (fun hh => hh q), flushP (by omega) (wS_ok h (by omega)), q]; rfl
  · rw [if_pos q, show ((wS x t a b d l w).1 != 0) = true from by simp [q]]; rfl

theorem svS_R {β : Type} {m k : Nat} {a d : Int} {b : Bool} {l : List ByteArray} {w : WL} {x : Int} {t : ByteArray} (h : DS m k a d l w) (hk : k < 299) {K : Int → Int → Bool → Int → List ByteArray → WL → Option β} :
    f74_1 20000 x t a b d l w (fun e a b c w => cond (e != 0) (K e a b c l w) (f143_1 20000 a b c l w K)) = app K (svS x t a b d l w) := by
  rw [writeR h, svS]
  by_cases q : (wS x t a b d l w).1 = 0
  · rw [if_neg (fun hh => hh q), flushR (by omega) (wS_ok h (by omega)), q]; rfl
  · rw [if_pos q, show ((wS x t a b d l w).1 != 0) = true from by simp [q]]; rfl

end Go.Proofs.YtlgopekjjkdkiaaGreatDoor.X
end

section
/- Records: sums, numbers as bytes; the code's and the document's, in one form. -/
namespace Go.Proofs.YtlgopekjjkdkiaaGreatDoor.X
open Go Go.Proofs.YtlgopekjjkdkiaaGreatDoor.Ev
set_option linter.unusedSectionVars false
variable [FZ]
set_option linter.unusedVariables false
set_option linter.unusedSimpArgs false

theorem x32 (x y : Int) : 0 ≤ ixor .u32 x y ∧ ixor .u32 x y < 4294967296 := by
  unfold ixor; rw [wu32m]; omega
theorem x8 (x y : Int) : 0 ≤ ixor .u8 x y ∧ ixor .u8 x y < 256 := by
  unfold ixor; rw [wu8m]; omega

theorem sh8 {n : Int} (h : 0 ≤ n ∧ n < 4294967296) : IntKind.u32.wrap (n.tdiv 256) = ishr .u32 n 8 := by
  have e : (2 : Int) ^ (min (8 : Int).toNat IntKind.u32.bits) = 256 := by decide
  rw [ishr, e, Int.fdiv_eq_ediv_of_nonneg _ (by omega), Int.tdiv_eq_ediv_of_nonneg h.1, wu32 (by omega) (by omega)]

/-- The table: each byte's step. -/
def eStep (x : Int) : Int := if (iand .u32 x 1) == 1 then ixor .u32 (ishr .u32 x 1) 2197175160 else ishr .u32 x 1
def ent (x : Int) : Int := eStep (eStep (eStep (eStep (eStep (eStep (eStep (eStep x)))))))
def tb : List Int := (List.range 256).map fun (i : Nat) => ent (i : Int)
theorem tb_len : tb.length = 256 := by simp [tb]

set_option maxRecDepth 100000 in
theorem tableP {β : Type} {K : List Int → Option β} : f215_1 20000 K = K tb := by kernel_rfl

theorem entNat {β : Type} {F : Nat} {K : Int → Option β} : ∀ (k : Nat) (v i : Int), f192_1_l3 F K k v i = (f192_1_l3 F some k v i).bind K
  | 0, v, i => rfl
  | k + 1, v, i => by
    rw [f192_1_l3, f192_1_l3]
    cases decide (i < 8) with
    | false => rfl
    | true =>
      cases (v.tmod 2 == 1) with
      | true => exact entNat k _ _
      | false => exact entNat k _ _

set_option maxRecDepth 100000 in
theorem entAll : ((List.range 256).all fun (i : Nat) => f192_1 20000 (i : Int) some == some (tb.getD i 0)) = true := by kernel_rfl

theorem entR {β : Type} {x : Int} (h : 0 ≤ x ∧ x < 256) {K : Int → Option β} : f192_1 20000 x K = K (tb.getD x.toNat 0) := by
  have h1 := List.all_eq_true.1 entAll x.toNat (List.mem_range.2 (by omega))
  rw [beq_iff_eq, show ((x.toNat : Nat) : Int) = x by omega, f192_1] at h1
  rw [f192_1, entNat, h1]; rfl

def crcS : Int → List Int → Int
  | n, [] => n
  | n, c :: r => crcS (ixor .u32 (ishr .u32 n 8) (tb.getD (ixor .u8 (IntKind.u8.wrap n) c).toNat 0)) r
def crc (b : List Int) : Int := ixor .u32 4294967295 (crcS (ixor .u32 4294967295 0) b)

theorem atL {α : Type} {l r : List α} {x d : α} {i : Nat} (hd : l.drop i = x :: r) : i < l.length ∧ l.getD (0 + (i : Int).toNat) d = x ∧ l.drop (i + 1) = r := by
  have h1 : i < l.length := by
    rcases Nat.lt_or_ge i l.length with h1 | h1
    · exact h1
    · rw [List.drop_eq_nil_of_le h1] at hd; cases hd
  rw [List.drop_eq_getElem_cons h1] at hd
  injection hd with h2 h3
  refine ⟨h1, ?_, h3⟩
  simp [h1, h2]

theorem nilL {α : Type} {l : List α} {i : Nat} (h : l.drop i = []) (hi : i ≤ l.length) : i = l.length := by
  have := congrArg List.length h
  simp at this; omega

theorem crcPl {β : Type} {F : Nat} {b : List Int} {K : Int → Option β} (hb : b.length ≤ 100000) : ∀ (r : List Int) (i k : Nat) (n : Int), b.drop i = r → i ≤ b.length → r.length < k →
    f191_1_l4 F ((b.length : Nat) : Int) b tb K k n (i : Int) = K (crcS n r)
  | [], i, 0, _, _, _, hk => by simp at hk
  | _ :: _, i, 0, _, _, _, hk => by simp at hk
  | [], i, k + 1, n, hd, hi, _ => by
    have := nilL hd hi
    rw [f191_1_l4, cf (by omega)]; rfl
  | c :: r, i, k + 1, n, hd, hi, hk => by
    obtain ⟨h1, h2, h3⟩ := atL (d := (0 : Int)) hd
    have hx := x8 (IntKind.u8.wrap n) c
    rw [f191_1_l4, ct (by omega), ct (by omega), ct (by omega), h2, ct hx, ct (by rw [tb_len]; omega), w64 (by omega) (by omega), crcS]
    exact crcPl hb r (i + 1) k _ h3 (by omega) (by simp at hk; omega)

theorem crcP {β : Type} {b : List Int} {K : Int → Option β} (hb : b.length ≤ 10000) : f148_1 20000 b K = K (crc b) := by
  rw [f148_1, f191_1, tableP]
  exact crcPl (K := fun x7 => K (ixor .u32 4294967295 x7)) (by omega) b 0 20000 _ rfl (by omega) (by omega)

theorem crcRl {β : Type} {b : List Int} {K : Int → Option β} (hb : b.length ≤ 100000) : ∀ (r : List Int) (i k : Nat) (n : Int), b.drop i = r → i ≤ b.length → r.length < k → 0 ≤ n ∧ n < 4294967296 →
    f154_1_l3 20000 b K k n (i : Int) = K (crcS n r)
  | [], i, 0, _, _, _, hk, _ => by simp at hk
  | _ :: _, i, 0, _, _, _, hk, _ => by simp at hk
  | [], i, k + 1, n, hd, hi, _, _ => by
    have := nilL hd hi
    rw [f154_1_l3, cf (by omega)]; rfl
  | c :: r, i, k + 1, n, hd, hi, hk, hn => by
    obtain ⟨h1, h2, h3⟩ := atL (d := (0 : Int)) hd
    have hx := x8 (IntKind.u8.wrap n) c
    rw [f154_1_l3, ct (by omega), ct (by omega), ct (by omega), h2, entR hx, w64 (by omega) (by omega), sh8 hn, crcS]
    exact crcRl hb r (i + 1) k _ h3 (by omega) (by simp at hk; omega) (x32 _ _)

theorem crcR {β : Type} {b : List Int} {K : Int → Option β} (hb : b.length ≤ 10000) : f102_1 20000 b K = K (crc b) := by
  rw [f102_1, f154_1]
  exact crcRl (K := fun x7 => K (ixor .u32 4294967295 x7)) (by omega) b 0 20000 _ rfl (by omega) (by omega) (x32 _ _)

/-! ### Numbers as bytes -/

def b4 (n : Int) : List Int := [IntKind.u8.wrap (ishr .u64 n 24), IntKind.u8.wrap (ishr .u64 n 16), IntKind.u8.wrap (ishr .u64 n 8), IntKind.u8.wrap (ishr .u64 n 0)]
theorem put4 {β : Type} {n : Int} {K : List Int → Option β} : f147_1 20000 4 n [] K = K (b4 n) := by kernel_rfl
theorem text4 {β : Type} {n : Int} {K : ByteArray → Option β} : f101_1 20000 4 n K = K (ofInts (b4 n)) := by kernel_rfl
theorem text1 {β : Type} {n : Int} {K : ByteArray → Option β} : f101_1 20000 1 n K = K (ofInts [IntKind.u8.wrap (ishr .u64 n 0)]) := by kernel_rfl

end Go.Proofs.YtlgopekjjkdkiaaGreatDoor.X
end

section
/- Records: made, opened; the code's and the document's, in one form. -/
namespace Go.Proofs.YtlgopekjjkdkiaaGreatDoor.X
open Go Go.Proofs.YtlgopekjjkdkiaaGreatDoor.Ev
set_option linter.unusedSectionVars false
variable [FZ]
set_option linter.unusedVariables false
set_option linter.unusedSimpArgs false

/-! ### Bytes -/

abbrev D (s : ByteArray) : List UInt8 := s.data.toList

theorem extB {s t : ByteArray} (h : D s = D t) : s = t := by
  cases s; cases t
  congr
  exact Array.toList_inj.1 h

theorem D_app (s t : ByteArray) : D (s ++ t) = D s ++ D t := by simp [D]
theorem D_ext (s : ByteArray) (a b : Nat) : D (s.extract a b) = ((D s).drop a).take (b - a) := by
  simp only [D, ByteArray.data_extract, Array.toList_extract, List.extract_eq_take_drop]
theorem D_size (s : ByteArray) : s.size = (D s).length := Array.length_toList.symm
theorem D_ofInts (l : List Int) : D (ofInts l) = l.map fun n => UInt8.ofNat n.toNat := by simp [D, ofInts]
theorem toInts_D (s : ByteArray) : toInts s = (D s).map fun c => (c.toNat : Int) := rfl

theorem loopB (s : ByteArray) : ∀ (m i : Nat) (r : List UInt8), i + m = s.size → ByteArray.toList.loop s i r = r.reverse ++ (D s).drop i
  | 0, i, r, h => by
    rw [ByteArray.toList.loop, if_neg (by omega), List.drop_eq_nil_of_le (by rw [← D_size]; omega), List.append_nil]
  | m + 1, i, r, h => by
    have h1 : i < (D s).length := by rw [← D_size]; omega
    rw [ByteArray.toList.loop, if_pos (by omega), loopB s m (i + 1) _ (by omega), List.drop_eq_getElem_cons h1]
    have : s.get! i = (D s)[i] := by
      have h2 : i < s.data.size := by have := h1; simpa [D] using this
      simp only [ByteArray.get!, D, Array.getElem_toList]
      exact getElem!_pos s.data i h2
    rw [this]; simp

theorem toList_D (s : ByteArray) : s.toList = D s := by
  rw [ByteArray.toList, loopB s s.size 0 [] (by omega)]; rfl

theorem beqB {s t : ByteArray} : (s.toList == t.toList) = decide (s = t) := by
  rw [toList_D, toList_D, Bool.eq_iff_iff]
  simp only [beq_iff_eq, decide_eq_true_eq]
  exact ⟨extB, fun h => by rw [h]⟩

/-! ### A record -/

def front (k : Int) (b : ByteArray) : ByteArray := ⟨(UInt8.ofNat k.toNat :: UInt8.ofNat b.size :: (D b ++ List.replicate (58 - b.size) 0)).toArray⟩
def mkB (k : Int) (b : ByteArray) : ByteArray := front k b ++ ofInts (b4 (crc (toInts (front k b))))
def mkR (k : Int) (b : ByteArray) : ByteArray × Int := if k < 1 ∨ k > 8 then (ByteArray.empty, 22) else if b.size > 58 then (ByteArray.empty, 8) else (mkB k b, 0)

theorem front_D (k : Int) (b : ByteArray) : D (front k b) = UInt8.ofNat k.toNat :: UInt8.ofNat b.size :: (D b ++ List.replicate (58 - b.size) 0) := by simp [D, front]
theorem front_size {k : Int} {b : ByteArray} (h : b.size ≤ 58) : (front k b).size = 60 := by
  rw [D_size, front_D]; simp [← D_size]
  have := D_size b
  simp [D] at this
  omega

theorem crc_r (b : List Int) : 0 ≤ crc b ∧ crc b < 4294967296 := x32 _ _

theorem sumP {β : Type} {s : ByteArray} (h : 60 ≤ s.size) {K : ByteArray → Option β} : f146_1 20000 s K = K (ofInts (b4 (crc (toInts (s.extract 0 60))))) := by
  have hc := crc_r (toInts (s.extract 0 60))
  have hl : (toInts (s.extract 0 60)).length ≤ 60 := by
    rw [toInts_D, D_ext]; simp; omega
  rw [f146_1, ct (by omega), crcP (by omega), wu64 (by omega) (by omega), put4]

theorem ext_all {s : ByteArray} {n : Nat} (h : s.size = n) : s.extract 0 n = s := by
  apply extB
  rw [D_ext, List.drop_zero, List.take_of_length_le (by rw [← D_size]; omega)]

theorem rep0 (n : Nat) : D (rep ⟨#[0]⟩ n) = List.replicate n 0 := by
  show D ⟨(Lib.repeatL [0] n).toArray⟩ = _
  have : ∀ n, Lib.repeatL [(0 : UInt8)] n = List.replicate n 0 := fun n => by
    induction n with
    | zero => rfl
    | succ n ih => simp [Lib.repeatL, ih, List.replicate_succ]
  simp [D, this]

theorem u8n {n : Int} (h : 0 ≤ n ∧ n < 256) : IntKind.u8.wrap n = n := wu8 h.1 h.2

theorem shr0 {n : Int} (h : 0 ≤ n) : ishr .u64 n 0 = n := by
  have e : (2 : Int) ^ (min (0 : Int).toNat IntKind.u64.bits) = 1 := by decide
  rw [ishr, e, Int.fdiv_eq_ediv_of_nonneg _ (by omega), Int.ediv_one]

theorem makeP {β : Type} {k : Int} {b : ByteArray} (hb : b.size ≤ maxLen) {K : ByteArray → Int → Option β} : f94_1 20000 k b K = K (mkR k b).1 (mkR k b).2 := by
  rw [f94_1, mkR]
  by_cases h1 : k < 1
  · rw [ct h1, if_pos (.inl h1)]
  · by_cases h2 : k > 8
    · rw [cf h1, ct h2, if_pos (.inr h2)]
    · rw [cf h1, cf h2, if_neg (by omega)]
      by_cases h3 : b.size > 58
      · rw [ct (by omega), if_pos h3]
      · have hs2 : (ofInts [IntKind.u8.wrap k, IntKind.u8.wrap (b.size : Int)]).size = 2 := by rw [D_size, D_ofInts]; rfl
        have hs : (ofInts [IntKind.u8.wrap k, IntKind.u8.wrap (b.size : Int)] ++ b).size = 2 + b.size := by rw [D_size, D_app, List.length_append, ← D_size, ← D_size, hs2]
        rw [cf (by omega), if_neg h3, ct (by omega), f145_1, hs, w64 (by omega) (by omega), ct ⟨by omega, by omega, by
          have : (⟨#[0]⟩ : ByteArray).size = 1 := rfl
          rw [this]; omega⟩]
        have hf : ofInts [IntKind.u8.wrap k, IntKind.u8.wrap (b.size : Int)] ++ b ++ rep ⟨#[0]⟩ (60 - ((2 + b.size : Nat) : Int)).toNat = front k b := by
          apply extB
          rw [D_app, D_app, rep0, D_ofInts, front_D, u8n (by omega), u8n (by omega), show (60 - ((2 + b.size : Nat) : Int)).toNat = 58 - b.size by omega]
          simp
        have hfs := front_size (k := k) (b := b) (by omega)
        have hr : (rep ⟨#[0]⟩ (60 - ((2 + b.size : Nat) : Int)).toNat).size ≤ 60 := by rw [D_size, rep0]; simp; omega
        rw [ct (by omega), hf, sumP (by omega), ext_all hfs, ct (by
          rw [hfs, D_size, D_ofInts]; simp [b4])]
        rfl

noncomputable def Z64 : ByteArray := ofInts (List.replicate 64 0)
theorem zero64 {β : Type} {K : ByteArray → Option β} : f54_1 20000 K = K Z64 := by kernel_rfl
theorem Z64_D : D Z64 = List.replicate 64 0 := by rw [Z64, D_ofInts]; rfl

theorem makeR {β : Type} {k : Int} {b : ByteArray} (hb : b.size ≤ maxLen) {K : ByteArray → Int → Option β} : f100_1 20000 k b K = K (mkR k b).1 (mkR k b).2 := by
  rw [f100_1, mkR]
  by_cases h1 : k < 1
  · rw [ct h1, if_pos (.inl h1)]
  · by_cases h2 : k > 8
    · rw [cf h1, ct h2, if_pos (.inr h2)]
    · rw [cf h1, cf h2, if_neg (by omega)]
      by_cases h3 : b.size > 58
      · rw [ct (by omega), if_pos h3]
      · have hz : Z64.size = 64 := by rw [D_size, Z64_D]; simp
        have hs2 : (ofInts [k] ++ ofInts [(b.size : Int)]).size = 2 := by rw [D_size, D_app, D_ofInts, D_ofInts]; rfl
        have hs : (ofInts [k] ++ ofInts [(b.size : Int)] ++ b).size = 2 + b.size := by rw [D_size, D_app, List.length_append, ← D_size, ← D_size, hs2]
        rw [cf (by omega), if_neg h3, text1, text1, wu64 (by omega) (by omega), wu64 (by omega) (by omega), shr0 (by omega), shr0 (by omega), u8n (by omega), u8n (by omega)]
        have h11 : ∀ n : Int, (ofInts [n]).size = 1 := fun n => by rw [D_size, D_ofInts]; rfl
        rw [ct (by rw [h11, h11]; omega), ct (by rw [hs2]; omega), zero64, hs, ct (by omega)]
        have hf : ofInts [k] ++ ofInts [(b.size : Int)] ++ b ++ Z64.extract ((2 + b.size : Nat) : Int).toNat 60 = front k b := by
          apply extB
          rw [D_app, D_app, D_app, D_ext, D_ofInts, D_ofInts, front_D, Z64_D, show ((2 + b.size : Nat) : Int).toNat = 2 + b.size by omega, List.drop_replicate, List.take_replicate, show min (60 - (2 + b.size)) (64 - (2 + b.size)) = 58 - b.size by omega]
          simp
        have hfs := front_size (k := k) (b := b) (by omega)
        have hext : (Z64.extract ((2 + b.size : Nat) : Int).toNat 60).size ≤ 60 := by rw [D_size, D_ext]; simp; omega
        have hc := crc_r (toInts (front k b))
        have hl : (toInts (front k b)).length = 60 := by rw [toInts_D, List.length_map, ← D_size]; exact hfs
        rw [ct (by omega), hf, crcR (by omega), wu64 (by omega) (by omega), text4, ct (by
          rw [hfs, D_size, D_ofInts]; simp [b4])]
        rfl

/-! ### What a sector is -/

def byt (s : ByteArray) (i : Nat) : Int := ((s.data.getD i 0).toNat : Int)
theorem byt_r (s : ByteArray) (i : Nat) : 0 ≤ byt s i ∧ byt s i < 256 := by
  have := (s.data.getD i 0).toNat_lt
  unfold byt; omega
def sm (s : ByteArray) : ByteArray := ofInts (b4 (crc (toInts (s.extract 0 60))))
def zer (s : ByteArray) (n : Nat) : Bool := (((D s).drop n).take (60 - n)).all (· == 0)
def kd (s : ByteArray) : Int × Int := if s.size ≠ 64 then (0, 4) else if ((sm s).toList == (s.extract 60 64).toList) = false then (0, 9) else
  if byt s 0 < 1 ∨ byt s 0 > 8 ∨ byt s 1 > 58 ∨ zer s (2 + (byt s 1).toNat) = false then (0, 6) else (byt s 0, 0)

theorem dropW_nil {p : UInt8 → Bool} : ∀ l : List UInt8, l.dropWhile p = [] ↔ l.all p = true
  | [] => by simp
  | x :: r => by
    rw [List.dropWhile_cons, List.all_cons]
    cases h : p x with
    | true => simpa using dropW_nil r
    | false => simp

theorem dropW_head {p : UInt8 → Bool} : ∀ (l : List UInt8) {y : UInt8} {r : List UInt8}, l.dropWhile p = y :: r → p y = false
  | [], y, r, h => by cases h
  | x :: l, y, r, h => by
    rw [List.dropWhile_cons] at h
    cases hx : p x with
    | true => rw [hx, if_pos rfl] at h; exact dropW_head l h
    | false => rw [hx, if_neg (by simp)] at h; injection h with h1 h2; rw [← h1]; exact hx

theorem trim_nil (l : List UInt8) : Lib.trimS l [0] = [] ↔ l.all (· == 0) = true := by
  have hp : ∀ x : UInt8, [(0 : UInt8)].contains x = (x == 0) := fun x => by rw [Bool.eq_iff_iff]; simp
  rw [Lib.trimS, Lib.trimLeftS, Lib.trimRightS, dropW_nil]
  constructor
  · intro h
    cases hq : l.reverse.dropWhile ([(0 : UInt8)].contains ·) with
    | nil =>
      have := (dropW_nil _).1 hq
      rw [List.all_reverse] at this
      simpa [hp] using this
    | cons y r =>
      have h1 := dropW_head _ hq
      rw [hq, List.all_reverse, List.all_cons, h1] at h
      cases h
  · intro h
    have : l.reverse.dropWhile ([(0 : UInt8)].contains ·) = [] := (dropW_nil _).2 (by rw [List.all_reverse]; simpa [hp] using h)
    rw [this]; rfl

theorem trm0 (x : ByteArray) : ((trm x ⟨#[0]⟩).toList == ByteArray.empty.toList) = (D x).all (· == 0) := by
  rw [beqB, Bool.eq_iff_iff, decide_eq_true_eq, ← trim_nil]
  constructor
  · intro h
    have : D (trm x ⟨#[0]⟩) = [] := by rw [h]; rfl
    simpa [D, trm] using this
  · intro h
    apply extB
    show D (trm x ⟨#[0]⟩) = []
    simpa [D, trm] using h

theorem kindP {β : Type} {s : ByteArray} {K : Int → Int → Option β} : f127_1 20000 s K = K (kd s).1 (kd s).2 := by
  rw [f127_1, f85_1, kd]
  by_cases h1 : s.size = 64
  · have b0 := byt_r s 0
    have b1 := byt_r s 1
    have e0 : ((s.data.getD 0 0).toNat : Int) = byt s 0 := rfl
    have e1 : ((s.data.getD 1 0).toNat : Int) = byt s 1 := rfl
    rw [show ((s.size : Int) == 64) = true by simp; omega, Bool.not_true, cond_false, if_neg (by omega), ct (by omega), sumP (by omega), show ((s.size : Int).toNat) = 64 by omega, e0, e1, w64 (x := byt s 0) (by omega) (by omega), w64 (x := byt s 1) (by omega) (by omega), ← sm]
    cases h2 : ((sm s).toList == (s.extract 60 64).toList) with
    | false => rfl
    | true =>
      rw [Bool.not_true, cond_false, if_neg (by simp), ct (by omega), ct (by omega)]
      by_cases h3 : byt s 0 < 1
      · rw [ct h3, if_pos (.inl h3)]
      · by_cases h4 : byt s 0 > 8
        · rw [cf h3, ct h4, if_pos (.inr (.inl h4))]
        · by_cases h5 : byt s 1 > 58
          · rw [cf h3, cf h4, ct h5, if_pos (.inr (.inr (.inl h5)))]
          · have hn : (2 + byt s 1).toNat = 2 + (byt s 1).toNat := by omega
            have hx : D (s.extract (2 + byt s 1).toNat 60) = ((D s).drop (2 + (byt s 1).toNat)).take (60 - (2 + (byt s 1).toNat)) := by rw [D_ext, hn]
            have hxs : (s.extract (2 + byt s 1).toNat 60).size ≤ 64 := by rw [D_size, hx]; simp; omega
            rw [cf h3, cf h4, cf h5, w64 (x := 2 + byt s 1) (by omega) (by omega), ct (by omega), f178_1, ct ⟨by omega, by decide, by decide⟩, trm0, hx, ← zer]
            cases h6 : zer s (2 + (byt s 1).toNat) with
            | true => rw [Bool.not_true, cond_false, if_neg (by simp; omega)]
            | false => rw [Bool.not_false, cond_true, if_pos (.inr (.inr (.inr rfl)))]
  · rw [show ((s.size : Int) == 64) = false by simp; omega, Bool.not_false, cond_true, if_pos h1]

theorem zerL {β : Type} {s : ByteArray} {K0 K1 : Option β} (hs : s.size = 64) : ∀ (m i k : Nat), i + m = 60 → m < k → f128_1_l8 20000 s K0 K1 k (i : Int) = if zer s i then K1 else K0
  | _, _, 0, _, h => by omega
  | 0, i, k + 1, hi, _ => by rw [f128_1_l8, cf (by omega), zer, show 60 - i = 0 by omega]; simp
  | m + 1, i, k + 1, hi, hk => by
    have hl : i < (D s).length := by rw [← D_size]; omega
    have hg : s.data.getD i 0 = (D s)[i] := by
      have h2 : i < s.data.size := by have := hl; simpa [D] using this
      simp only [Array.getD_eq_getD_getElem?, Array.getElem?_eq_getElem h2, Option.getD_some, D, Array.getElem_toList]
    rw [f128_1_l8, ct (by omega), ct (by omega), show ((i : Int)).toNat = i from rfl, hg, w64 (by omega) (by omega), zer, List.drop_eq_getElem_cons hl, show 60 - i = (60 - (i + 1)) + 1 by omega, List.take_succ_cons, List.all_cons, ← zer]
    have ih := zerL (K0 := K0) (K1 := K1) hs m (i + 1) k (by omega) (by omega)
    push_cast at ih
    by_cases h0 : (D s)[i] = 0
    · rw [h0, show (((0 : UInt8).toNat : Int) != 0) = false from rfl, cond_false, ih]; simp
    · have : (((D s)[i].toNat : Int) != 0) = true := by
        simp only [bne_iff_ne, ne_eq]
        intro h
        exact h0 (UInt8.toNat_inj.1 (by simpa using h))
      rw [this, cond_true, beq_eq_false_iff_ne.2 h0]; simp

theorem kindR {β : Type} {s : ByteArray} {K : Int → Int → Option β} : f128_1 20000 s K = K (kd s).1 (kd s).2 := by
  rw [f128_1, f112_1, kd]
  by_cases h1 : s.size = 64
  · have b0 := byt_r s 0
    have b1 := byt_r s 1
    have e0 : ((s.data.getD 0 0).toNat : Int) = byt s 0 := rfl
    have e1 : ((s.data.getD 1 0).toNat : Int) = byt s 1 := rfl
    have hc := crc_r (toInts (s.extract 0 60))
    have hl : (toInts (s.extract 0 60)).length ≤ 60 := by
      rw [toInts_D, D_ext]; simp; omega
    rw [show ((s.size : Int) == 64) = true by simp; omega, Bool.not_true, cond_false, if_neg (by omega), ct (by omega), ct (by omega), crcR (by omega), wu64 (by omega) (by omega), text4, show ((s.size : Int).toNat) = 64 by omega, e0, e1, w64 (x := byt s 0) (by omega) (by omega), w64 (x := byt s 1) (by omega) (by omega), ← sm]
    cases h2 : ((sm s).toList == (s.extract 60 64).toList) with
    | false => rfl
    | true =>
      rw [Bool.not_true, cond_false, if_neg (by simp), ct (by omega)]
      by_cases h3 : byt s 0 < 1
      · rw [ct h3, if_pos (.inl h3)]
      · by_cases h4 : byt s 0 > 8
        · rw [cf h3, ct (by omega), ct h4, if_pos (.inr (.inl h4))]
        · by_cases h5 : byt s 1 > 58
          · rw [cf h3, ct (by omega), cf h4, ct (by omega), ct h5, if_pos (.inr (.inr (.inl h5)))]
          · rw [cf h3, ct (by omega), cf h4, ct (by omega), cf h5, ct (by omega), w64 (x := 2 + byt s 1) (by omega) (by omega), ct (by omega), show (2 + byt s 1) = ((2 + (byt s 1).toNat : Nat) : Int) by omega, zerL h1 (60 - (2 + (byt s 1).toNat)) (2 + (byt s 1).toNat) 20000 (by omega) (by omega)]
            cases h6 : zer s (2 + (byt s 1).toNat) with
            | true => rw [if_pos rfl, if_neg (by simp; omega)]
            | false => rw [if_neg (by simp), if_pos (.inr (.inr (.inr rfl)))]
  · rw [show ((s.size : Int) == 64) = false by simp; omega, Bool.not_false, cond_true, if_pos h1]

theorem kd_size {s : ByteArray} (h : (kd s).2 = 0) : s.size = 64 ∧ byt s 1 ≤ 58 ∧ zer s (2 + (byt s 1).toNat) = true ∧ (kd s).1 = byt s 0 ∧ 1 ≤ byt s 0 ∧ byt s 0 ≤ 8 ∧ ((sm s).toList == (s.extract 60 64).toList) = true := by
  unfold kd at h ⊢
  split at h
  · cases h
  · rename_i h1
    split at h
    · cases h
    · rename_i h2
      split at h
      · cases h
      · rename_i h3
        rw [if_neg h1, if_neg h2, if_neg h3]
        refine ⟨by omega, by omega, ?_, rfl, by omega, by omega, by simpa using h2⟩
        cases hz : zer s (2 + (byt s 1).toNat) with
        | true => rfl
        | false => exact (h3 (.inr (.inr (.inr hz)))).elim

def opn (k : Int) (s : ByteArray) : ByteArray × Int := if (kd s).2 ≠ 0 then (ByteArray.empty, (kd s).2) else if (kd s).1 ≠ k then (ByteArray.empty, 22) else (s.extract 2 (2 + (byt s 1).toNat), 0)

theorem openP {β : Type} {k : Int} {s : ByteArray} {K : ByteArray → Int → Option β} : f156_1 20000 k s K = K (opn k s).1 (opn k s).2 := by
  rw [f156_1, kindP, opn]
  have e1 : ((s.data.getD 1 0).toNat : Int) = byt s 1 := rfl
  have b1 := byt_r s 1
  by_cases h1 : (kd s).2 = 0
  · obtain ⟨q1, q2, _⟩ := kd_size h1
    rw [h1, show ((0 : Int) != 0) = false from rfl, cond_false, if_neg (by simp), e1, w64 (x := byt s 1) (by omega) (by omega), w64 (x := 2 + byt s 1) (by omega) (by omega)]
    by_cases h2 : (kd s).1 = k
    · rw [h2, show (k != k) = false by simp, cond_false, if_neg (by simp), ct (by omega), ct (by omega), show (2 + byt s 1).toNat = 2 + (byt s 1).toNat by omega]
    · rw [show ((kd s).1 != k) = true by simp [h2], cond_true, if_pos h2]
  · rw [show ((kd s).2 != 0) = true by simp [h1], cond_true, if_pos h1]

theorem openR {β : Type} {k : Int} {s : ByteArray} {K : ByteArray → Int → Option β} : f168_1 20000 k s K = K (opn k s).1 (opn k s).2 := by
  rw [f168_1, kindR, opn]
  have e1 : ((s.data.getD 1 0).toNat : Int) = byt s 1 := rfl
  have b1 := byt_r s 1
  by_cases h1 : (kd s).2 = 0
  · obtain ⟨q1, q2, _⟩ := kd_size h1
    rw [h1, show ((0 : Int) != 0) = false from rfl, cond_false, if_neg (by simp), e1, w64 (x := byt s 1) (by omega) (by omega), w64 (x := 2 + byt s 1) (by omega) (by omega)]
    by_cases h2 : (kd s).1 = k
    · rw [h2, show (k != k) = false by simp, cond_false, if_neg (by simp), ct (by omega), ct (by omega), show (2 + byt s 1).toNat = 2 + (byt s 1).toNat by omega]
    · rw [show ((kd s).1 != k) = true by simp [h2], cond_true, if_pos h2]
  · rw [show ((kd s).2 != 0) = true by simp [h1], cond_true, if_pos h1]

end Go.Proofs.YtlgopekjjkdkiaaGreatDoor.X
end

section
/- Records: what is made is opened again, and the other way round. -/
namespace Go.Proofs.YtlgopekjjkdkiaaGreatDoor.X
open Go Go.Proofs.YtlgopekjjkdkiaaGreatDoor.Ev
set_option linter.unusedSectionVars false
variable [FZ]
set_option linter.unusedVariables false
set_option linter.unusedSimpArgs false

theorem mkB_D (k : Int) (b : ByteArray) : D (mkB k b) = UInt8.ofNat k.toNat :: UInt8.ofNat b.size :: (D b ++ (List.replicate (58 - b.size) 0 ++ D (ofInts (b4 (crc (toInts (front k b))))))) := by
  rw [mkB, D_app, front_D]; simp

theorem b4_size (n : Int) : (ofInts (b4 n)).size = 4 := by rw [D_size, D_ofInts]; rfl

theorem mkB_size {k : Int} {b : ByteArray} (h : b.size ≤ 58) : (mkB k b).size = 64 := by
  have hf := front_size (k := k) h
  have hc := b4_size (crc (toInts (front k b)))
  rw [D_size] at hf hc
  rw [D_size, mkB, D_app, List.length_append, hf, hc]

theorem mkB_front {k : Int} {b : ByteArray} (h : b.size ≤ 58) : (mkB k b).extract 0 60 = front k b := by
  have hf := front_size (k := k) h
  rw [D_size] at hf
  apply extB
  rw [D_ext, mkB, D_app, List.drop_zero, List.take_append_of_le_length (by omega), List.take_of_length_le (by omega)]

theorem mkB_sum {k : Int} {b : ByteArray} (h : b.size ≤ 58) : (mkB k b).extract 60 64 = sm (mkB k b) := by
  have hf := front_size (k := k) h
  have hc := b4_size (crc (toInts (front k b)))
  rw [D_size] at hf hc
  rw [sm, mkB_front h]
  apply extB
  rw [D_ext, mkB, D_app, List.drop_append_of_le_length (by omega), List.drop_eq_nil_of_le (by omega), List.nil_append, List.take_of_length_le (by omega)]

theorem getD_D (s : ByteArray) (i : Nat) : s.data.getD i 0 = (D s).getD i 0 := by simp [D]

theorem mkB_b0 {k : Int} {b : ByteArray} (h1 : 1 ≤ k) (h2 : k ≤ 8) : byt (mkB k b) 0 = k := by
  rw [byt, getD_D, mkB_D]
  show ((UInt8.ofNat k.toNat).toNat : Int) = k
  rw [UInt8.toNat_ofNat']; omega

theorem mkB_b1 {k : Int} {b : ByteArray} (h : b.size ≤ 58) : byt (mkB k b) 1 = (b.size : Int) := by
  rw [byt, getD_D, mkB_D]
  show ((UInt8.ofNat b.size).toNat : Int) = b.size
  rw [UInt8.toNat_ofNat']; omega

theorem mkB_drop {k : Int} {b : ByteArray} : (D (mkB k b)).drop (2 + b.size) = List.replicate (58 - b.size) 0 ++ D (ofInts (b4 (crc (toInts (front k b))))) := by
  have h := D_size b
  rw [mkB_D, show 2 + b.size = b.size + 1 + 1 by omega, List.drop_succ_cons, List.drop_succ_cons, List.drop_append_of_le_length (by omega), List.drop_eq_nil_of_le (by omega), List.nil_append]

theorem mkB_kd {k : Int} {b : ByteArray} (h1 : 1 ≤ k) (h2 : k ≤ 8) (h : b.size ≤ 58) : kd (mkB k b) = (k, 0) := by
  rw [kd, mkB_size h, if_neg (by omega), mkB_sum h, if_neg (by simp), mkB_b0 h1 h2, mkB_b1 h, if_neg]
  rw [show (2 + ((b.size : Nat) : Int).toNat) = 2 + b.size by omega, zer, mkB_drop, List.take_append_of_le_length (by simp; omega), List.take_of_length_le (by simp; omega)]
  simp; omega

theorem mkB_open {k : Int} {b : ByteArray} (h1 : 1 ≤ k) (h2 : k ≤ 8) (h : b.size ≤ 58) : opn k (mkB k b) = (b, 0) := by
  have hs := D_size b
  rw [opn, mkB_kd h1 h2 h, if_neg (by simp), if_neg (by simp), mkB_b1 h, show (2 + ((b.size : Nat) : Int).toNat) = 2 + b.size by omega]
  congr 1
  apply extB
  rw [D_ext, mkB_D, show (2 : Nat) = 1 + 1 from rfl, List.drop_succ_cons, List.drop_succ_cons, List.drop_zero, show 1 + 1 + b.size - (1 + 1) = b.size by omega, List.take_append_of_le_length (by omega), List.take_of_length_le (by omega)]

theorem all0 : ∀ (l : List UInt8), l.all (· == 0) = true → l = List.replicate l.length 0
  | [], _ => rfl
  | x :: r, h => by
    rw [List.all_cons, Bool.and_eq_true, beq_iff_eq] at h
    rw [List.length_cons, List.replicate_succ, ← all0 r h.2, h.1]

theorem opn_mk {k : Int} {s b : ByteArray} (h : opn k s = (b, 0)) : mkR k b = (s, 0) := by
  unfold opn at h
  split at h
  · rename_i h1
    injection h with _ h2
    exact (h1 h2).elim
  · rename_i h1
    split at h
    · injection h with _ h2; cases h2
    · rename_i h2
      injection h with h3 _
      have h1' : (kd s).2 = 0 := Classical.not_not.1 h1
      obtain ⟨q1, q2, q3, q4, q5, q6, q7⟩ := kd_size h1'
      have hk : byt s 0 = k := q4.symm.trans (Classical.not_not.1 h2)
      have hsz : (D s).length = 64 := by rw [← D_size]; exact q1
      have hb1 := byt_r s 1
      have hDb : D b = ((D s).drop 2).take (byt s 1).toNat := by rw [← h3, D_ext]; congr 1; omega
      have hbs : b.size = (byt s 1).toNat := by rw [D_size, hDb]; simp; omega
      have hmem : ∀ i, i < 64 → ∃ x, (D s)[i]? = some x := fun i hi => ⟨_, List.getElem?_eq_getElem (by omega)⟩
      have hf : front k b = s.extract 0 60 := by
        apply extB
        rw [front_D, D_ext, List.drop_zero, hbs, hDb, ← hk, byt, getD_D, byt, getD_D]
        rw [byt, getD_D] at q3 q2 hb1
        generalize hn : (((D s).getD 1 0).toNat : Int) = n at q3 q2 hb1
        match hq : D s, hsz with
        | x :: y :: r, hsz =>
          rw [hq] at hn
          have hx : UInt8.ofNat ((((x :: y :: r).getD 0 0).toNat : Int).toNat) = x := by simp
          have hy : UInt8.ofNat n.toNat = y := by rw [← hn]; simp
          rw [hx, hy]
          rw [zer, hq] at q3
          have hz := all0 _ q3
          rw [show 2 + n.toNat = n.toNat + 1 + 1 by omega, List.drop_succ_cons, List.drop_succ_cons] at hz
          simp only [List.length_cons] at hsz
          have hlen : (List.take (60 - (n.toNat + 1 + 1)) (List.drop n.toNat r)).length = 58 - n.toNat := by simp; omega
          rw [hlen] at hz
          rw [← hz, show (2 : Nat) = 1 + 1 from rfl, List.drop_succ_cons, List.drop_succ_cons, List.drop_zero, show 60 - 0 = 58 + 1 + 1 from rfl, List.take_succ_cons, List.take_succ_cons, show 60 - (n.toNat + 1 + 1) = 58 - n.toNat by omega]
          congr 2
          have := List.take_append_drop n.toNat (r.take 58)
          rw [List.take_take, List.drop_take, Nat.min_eq_left (by omega)] at this
          exact this
      rw [mkR, if_neg (by omega), if_neg (by omega)]
      congr 1
      have q8 : sm s = s.extract 60 64 := by
        rw [beqB] at q7; exact of_decide_eq_true q7
      rw [mkB, hf, ← sm, q8]
      apply extB
      rw [D_app, D_ext, D_ext, List.drop_zero, show 64 - 60 = 4 from rfl, List.take_of_length_le (l := (D s).drop 60) (by simp; omega)]
      exact List.take_append_drop 60 (D s)

end Go.Proofs.YtlgopekjjkdkiaaGreatDoor.X
end

section
/- Numbers read from bytes; the code's and the document's, in one form. -/
namespace Go.Proofs.YtlgopekjjkdkiaaGreatDoor.X
open Go Go.Proofs.YtlgopekjjkdkiaaGreatDoor.Ev
set_option linter.unusedSectionVars false
variable [FZ]
set_option linter.unusedVariables false
set_option linter.unusedSimpArgs false

def num (v : Int) (l : List Int) : Int := l.foldl (fun v b => v * 256 + b) v

theorem shlor {v b : Int} (hv : 0 ≤ v ∧ v < 72057594037927936) (hb : 0 ≤ b ∧ b < 256) : ior .u64 (ishl .u64 v 8) b = v * 256 + b := by
  obtain ⟨V, rfl⟩ : ∃ V : Nat, v = (V : Int) := ⟨v.toNat, by omega⟩
  obtain ⟨B, rfl⟩ : ∃ B : Nat, b = (B : Int) := ⟨b.toNat, by omega⟩
  have e : (2 : Int) ^ (min (8 : Int).toNat IntKind.u64.bits) = 256 := by decide
  have e1 : ishl .u64 (V : Int) 8 = ((V * 256 : Nat) : Int) := by
    rw [ishl, e, wu64 (by omega) (by omega)]; omega
  rw [e1, or64 (by omega) (by omega)]
  have := Nat.two_pow_add_eq_or_of_lt (i := 8) (b := B) (by omega) V
  have h2 : 2 ^ 8 * V = V * 256 := by omega
  rw [h2] at this
  rw [← this]; omega

theorem getPl {β : Type} {F at_ w : Nat} {l : List Int} {K : Int → Option β} (hw : w ≤ 8) (hl : at_ + w ≤ l.length) (hb : ∀ x ∈ l, 0 ≤ x ∧ x < 256) : ∀ (m i k : Nat) (v : Int), m + i = w → m < k → 0 ≤ v ∧ v < 256 ^ i →
    f211_1_l7 F at_ w (w : Int) l K k v (i : Int) = K (num v ((l.drop (at_ + i)).take m))
  | _, _, 0, _, _, h, _ => by omega
  | 0, i, k + 1, v, hi, _, _ => by rw [f211_1_l7, cf (by omega)]; rfl
  | m + 1, i, k + 1, v, hi, hk, hv => by
    have h1 : at_ + i < l.length := by omega
    have hx := hb _ (List.getElem_mem h1)
    have hg : l.getD (at_ + (i : Int).toNat) 0 = l[at_ + i] := by simp [h1]
    have hp : (256 : Int) ^ i ≤ 256 ^ 7 := by
      have : (256 : Nat) ^ i ≤ 256 ^ 7 := Nat.pow_le_pow_right (by decide) (by omega)
      have h := Int.ofNat_le.2 this
      rw [Int.natCast_pow, Int.natCast_pow] at h
      exact h
    have hv2 : v * 256 + l[at_ + i] < 256 ^ (i + 1) := by rw [Int.pow_succ]; omega
    rw [f211_1_l7, ct (by omega), ct (by omega), ct (by omega), hg, wu64 (by omega) (by omega), shlor ⟨hv.1, by omega⟩ hx, w64 (by omega) (by omega), List.drop_eq_getElem_cons h1, List.take_succ_cons, num, List.foldl_cons, ← num]
    exact getPl hw hl hb m (i + 1) k _ (by omega) (by omega) ⟨by omega, hv2⟩

theorem getRl {β : Type} {F at_ w : Nat} {l : List Int} {K : Int → Option β} (hw : w ≤ 8) (hl : at_ + w ≤ l.length) (hll : l.length ≤ 100000) (hb : ∀ x ∈ l, 0 ≤ x ∧ x < 256) : ∀ (m i k : Nat) (v : Int), m + i = w → m < k → 0 ≤ v ∧ v < 256 ^ i →
    f142_1_l7 F (at_ : Int) (w : Int) l K k v (i : Int) = K (num v ((l.drop (at_ + i)).take m))
  | _, _, 0, _, _, h, _ => by omega
  | 0, i, k + 1, v, hi, _, _ => by rw [f142_1_l7, cf (by omega)]; rfl
  | m + 1, i, k + 1, v, hi, hk, hv => by
    have h1 : at_ + i < l.length := by omega
    have hx := hb _ (List.getElem_mem h1)
    have hg : l.getD (0 + ((at_ : Int) + (i : Int)).toNat) 0 = l[at_ + i] := by
      rw [show 0 + ((at_ : Int) + (i : Int)).toNat = at_ + i by omega]; simp [h1]
    have hp : (256 : Int) ^ i ≤ 256 ^ 7 := by
      have : (256 : Nat) ^ i ≤ 256 ^ 7 := Nat.pow_le_pow_right (by decide) (by omega)
      have h := Int.ofNat_le.2 this
      rw [Int.natCast_pow, Int.natCast_pow] at h
      exact h
    have hv2 : v * 256 + l[at_ + i] < 256 ^ (i + 1) := by rw [Int.pow_succ]; omega
    rw [f142_1_l7, ct (by omega), w64 (x := (at_ : Int) + (i : Int)) (by omega) (by omega), ct (by omega), ct (by omega), hg, wu64 (x := l[at_ + i]) (by omega) (by omega), wu64 (x := v * 256) (by omega) (by omega), wu64 (by omega) (by omega), w64 (by omega) (by omega), List.drop_eq_getElem_cons h1, List.take_succ_cons, num, List.foldl_cons, ← num]
    exact getRl hw hl hll hb m (i + 1) k _ (by omega) (by omega) ⟨by omega, hv2⟩

/-- A number of w bytes from a place on, or that there are not so many. -/
def gt (at_ w : Nat) (l : List Int) : Int × Int := if at_ + w ≤ l.length then (num 0 ((l.drop at_).take w), 0) else (0, 7)

theorem getP {β : Type} {at_ w : Nat} {l : List Int} {K : Int → Int → Option β} (h1 : 1 ≤ w) (hw : w ≤ 8) (hat : at_ ≤ 100000) (hll : l.length ≤ 100000) (hb : ∀ x ∈ l, 0 ≤ x ∧ x < 256) : f211_1 20000 (at_ : Int) (w : Int) l K = K (gt at_ w l).1 (gt at_ w l).2 := by
  rw [f211_1, f190_1, ct (by omega), decide_eq_true (show (w : Int) ≤ 8 by omega), Bool.not_true, cond_false, cf (by omega), gt]
  by_cases h2 : (at_ : Int) > ((l.length : Nat) : Int)
  · rw [ct h2, if_neg (by omega)]
  · rw [cf h2, w64 (by omega) (by omega)]
    by_cases h3 : ((l.length : Nat) : Int) - (at_ : Int) < (w : Int)
    · rw [ct h3, if_neg (by omega)]
    · rw [cf h3, w64 (by omega) (by omega), ct (by omega), if_pos (by omega), show ((at_ : Int) + (w : Int) - (at_ : Int)).toNat = w by omega, show 0 + ((at_ : Int)).toNat = at_ by omega]
      exact getPl (K := fun x8 => K x8 0) hw (by omega) hb w 0 20000 0 (by omega) (by omega) (by simp)

theorem getR {β : Type} {at_ w : Nat} {l : List Int} {K : Int → Int → Option β} (h1 : 1 ≤ w) (hw : w ≤ 8) (hat : at_ ≤ 100000) (hll : l.length ≤ 100000) (hb : ∀ x ∈ l, 0 ≤ x ∧ x < 256) : f142_1 20000 (at_ : Int) (w : Int) l K = K (gt at_ w l).1 (gt at_ w l).2 := by
  rw [f142_1, cf (by omega), cf (by omega), cf (by omega), gt]
  by_cases h2 : (at_ : Int) > ((l.length : Nat) : Int)
  · rw [ct h2, if_neg (by omega)]
  · rw [cf h2, w64 (by omega) (by omega)]
    by_cases h3 : ((l.length : Nat) : Int) - (at_ : Int) < (w : Int)
    · rw [ct h3, if_neg (by omega)]
    · rw [cf h3, if_pos (by omega)]
      exact getRl (K := fun x6 => K x6 0) hw (by omega) hll hb w 0 20000 0 (by omega) (by omega) (by simp)

end Go.Proofs.YtlgopekjjkdkiaaGreatDoor.X
end

section
/- Numbers of eight bytes; reading them. -/
namespace Go.Proofs.YtlgopekjjkdkiaaGreatDoor.X
open Go Go.Proofs.YtlgopekjjkdkiaaGreatDoor.Ev
set_option linter.unusedSectionVars false
variable [FZ]
set_option linter.unusedVariables false
set_option linter.unusedSimpArgs false

theorem bnf {a b : Int} (h : a = b) : (a != b) = false := by simp [h]
theorem bnt {a b : Int} (h : a ≠ b) : (a != b) = true := by simp [h]

/-! ### Numbers of eight bytes -/

def b8 (n : Int) : List Int := [IntKind.u8.wrap (ishr .u64 n 56), IntKind.u8.wrap (ishr .u64 n 48), IntKind.u8.wrap (ishr .u64 n 40), IntKind.u8.wrap (ishr .u64 n 32), IntKind.u8.wrap (ishr .u64 n 24), IntKind.u8.wrap (ishr .u64 n 16), IntKind.u8.wrap (ishr .u64 n 8), IntKind.u8.wrap (ishr .u64 n 0)]
theorem put8 {β : Type} {n : Int} {K : List Int → Option β} : f147_1 20000 8 n [] K = K (b8 n) := by kernel_rfl
theorem text8 {β : Type} {n : Int} {K : ByteArray → Option β} : f101_1 20000 8 n K = K (ofInts (b8 n)) := by kernel_rfl

theorem b8_r (n : Int) : ∀ x ∈ b8 n, 0 ≤ x ∧ x < 256 := by
  intro x hx
  simp only [b8, List.mem_cons, List.not_mem_nil, or_false] at hx
  rcases hx with rfl | rfl | rfl | rfl | rfl | rfl | rfl | rfl <;> (rw [wu8m]; omega)

theorem shrN {n : Int} (h : 0 ≤ n) : ishr .u64 n 56 = n / 72057594037927936 ∧ ishr .u64 n 48 = n / 281474976710656 ∧ ishr .u64 n 40 = n / 1099511627776 ∧ ishr .u64 n 32 = n / 4294967296 ∧ ishr .u64 n 24 = n / 16777216 ∧ ishr .u64 n 16 = n / 65536 ∧ ishr .u64 n 8 = n / 256 ∧ ishr .u64 n 0 = n := by
  have e : ∀ (s : Int) (d : Int), (2 : Int) ^ (min s.toNat IntKind.u64.bits) = d → 0 < d → ishr .u64 n s = n / d := fun s d h1 h2 => by
    rw [ishr, h1, Int.fdiv_eq_ediv_of_nonneg _ (by omega)]
  refine ⟨e 56 _ (by decide) (by decide), e 48 _ (by decide) (by decide), e 40 _ (by decide) (by decide), e 32 _ (by decide) (by decide), e 24 _ (by decide) (by decide), e 16 _ (by decide) (by decide), e 8 _ (by decide) (by decide), ?_⟩
  rw [e 0 1 (by decide) (by decide)]; omega

theorem num8 {n : Int} (h : 0 ≤ n ∧ n < 18446744073709551616) : num 0 (b8 n) = n := by
  obtain ⟨e1, e2, e3, e4, e5, e6, e7, e8⟩ := shrN h.1
  simp only [num, b8, List.foldl_cons, List.foldl_nil, wu8m, e1, e2, e3, e4, e5, e6, e7, e8]
  omega

theorem toInts_ofInts {l : List Int} (h : ∀ x ∈ l, 0 ≤ x ∧ x < 256) : toInts (ofInts l) = l := by
  rw [toInts_D, D_ofInts, List.map_map]
  conv => rhs; rw [← List.map_id l]
  apply List.map_congr_left
  intro x hx
  have := h x hx
  simp only [Function.comp, id, UInt8.toNat_ofNat']
  omega

theorem toInts_r (s : ByteArray) : ∀ x ∈ toInts s, 0 ≤ x ∧ x < 256 := by
  intro x hx
  rw [toInts_D] at hx
  obtain ⟨c, _, rfl⟩ := List.mem_map.1 hx
  have := c.toNat_lt
  omega

theorem b8_size (n : Int) : (ofInts (b8 n)).size = 8 := by rw [D_size, D_ofInts]; rfl
theorem app_size (s t : ByteArray) : (s ++ t).size = s.size + t.size := by rw [D_size, D_app, List.length_append, ← D_size, ← D_size]
theorem toInts_size (s : ByteArray) : (toInts s).length = s.size := by rw [toInts_D, List.length_map, ← D_size]

/-- The next number of a reader: what it is, why there is none, what is left. -/
def nm (w : Nat) (e : Int) (l : List Int) : Int × Int × List Int := if e ≠ 0 then (0, e, l) else if w ≤ l.length then (num 0 (l.take w), 0, l.drop w) else (0, 7, l)

theorem numC {β : Type} {w : Nat} {e : Int} {l : List Int} {K : Int → Int → List Int → Option β} (h1 : 1 ≤ w) (hw : w ≤ 8) (hll : l.length ≤ 100000) (hb : ∀ x ∈ l, 0 ≤ x ∧ x < 256) :
    f181_1 20000 (w : Int) e l K = K (nm w e l).1 (nm w e l).2.1 (nm w e l).2.2 := by
  have hg := fun K => getP (β := β) (at_ := 0) (w := w) (l := l) (K := K) h1 hw (by omega) hll hb
  rw [f181_1, nm]
  by_cases he : e = 0
  · subst he
    rw [show ((0 : Int) != 0) = false from rfl, cond_false, if_neg (by simp)]
    refine (hg _).trans ?_
    rw [gt]
    by_cases h2 : w ≤ l.length
    · rw [if_pos (by omega), if_pos h2, List.drop_zero]
      show cond ((0 : Int) != 0) _ _ = _
      rw [bnf rfl, cond_false, ct ⟨by omega, by omega, by omega⟩, show 0 + (w : Int).toNat = w by omega, List.take_of_length_le (l := l.drop w) (by simp)]
    · rw [if_neg (by omega), if_neg h2]
      rfl
  · rw [bnt he, cond_true, if_pos he]

theorem opn_size (k : Int) (s : ByteArray) : (opn k s).1.size ≤ 58 := by
  unfold opn
  split
  · show ByteArray.empty.size ≤ 58; decide
  · rename_i h1
    split
    · show ByteArray.empty.size ≤ 58; decide
    · obtain ⟨q1, q2, _⟩ := kd_size (Classical.not_not.1 h1)
      have := byt_r s 1
      show (s.extract 2 (2 + (byt s 1).toNat)).size ≤ 58
      rw [D_size, D_ext]; simp; omega

theorem big60 : 60 ≤ maxLen := by decide

theorem cond_ff' {α : Sort _} {a b : α} : cond (!true) a b = b := rfl
theorem Z64_b0 : byt Z64 0 = 0 := by rw [byt, getD_D, Z64_D]; rfl

theorem opn_zero (k : Int) : (opn k Z64).2 ≠ 0 := by
  unfold opn
  split
  · assumption
  · rename_i h
    obtain ⟨_, _, _, _, q5, _⟩ := kd_size (Classical.not_not.1 h)
    rw [Z64_b0] at q5; omega

end Go.Proofs.YtlgopekjjkdkiaaGreatDoor.X
end

section
/- Numbers as bytes and back: what bytes tell of them. -/
namespace Go.Proofs.YtlgopekjjkdkiaaGreatDoor.X
open Go Go.Proofs.YtlgopekjjkdkiaaGreatDoor.Ev
set_option linter.unusedSectionVars false
variable [FZ]
set_option linter.unusedVariables false
set_option linter.unusedSimpArgs false

abbrev U64 (n : Int) : Prop := 0 ≤ n ∧ n < 18446744073709551616
abbrev U32 (n : Int) : Prop := 0 ≤ n ∧ n < 4294967296
abbrev byts (l : List Int) : Prop := ∀ x ∈ l, 0 ≤ x ∧ x < 256

theorem tiA (s t : ByteArray) : toInts (s ++ t) = toInts s ++ toInts t := by rw [toInts_D, toInts_D, toInts_D, D_app, List.map_append]
theorem oiA (l r : List Int) : ofInts (l ++ r) = ofInts l ++ ofInts r := by
  apply extB
  rw [D_app, D_ofInts, D_ofInts, D_ofInts, List.map_append]
theorem oi_size (l : List Int) : (ofInts l).size = l.length := by rw [D_size, D_ofInts, List.length_map]
theorem app_r {l r : List Int} (hl : byts l) (hr : byts r) : byts (l ++ r) := fun x hx => by
  rcases List.mem_append.1 hx with hx | hx
  · exact hl x hx
  · exact hr x hx
theorem drop_r {l : List Int} (k : Nat) (h : byts l) : byts (l.drop k) := fun x hx => h x (List.mem_of_mem_drop hx)
theorem take_r {l : List Int} (k : Nat) (h : byts l) : byts (l.take k) := fun x hx => h x (List.mem_of_mem_take hx)
theorem b4_r (n : Int) : byts (b4 n) := by
  intro x hx
  simp only [b4, List.mem_cons, List.not_mem_nil, or_false] at hx
  rcases hx with rfl | rfl | rfl | rfl <;> (rw [wu8m]; omega)
theorem num_b4 {n : Int} (h : U32 n) : num 0 (b4 n) = n := by
  obtain ⟨_, _, _, _, e5, e6, e7, e8⟩ := shrN h.1
  simp only [num, b4, List.foldl_cons, List.foldl_nil, wu8m, e5, e6, e7, e8]; omega
theorem toInts_ext (s : ByteArray) (i j : Nat) : toInts (s.extract i j) = ((toInts s).drop i).take (j - i) := by
  rw [toInts_D, D_ext, toInts_D, List.map_take, List.map_drop]

theorem ofInts_toInts (s : ByteArray) : ofInts (toInts s) = s := by
  apply extB
  rw [D_ofInts, toInts_D, List.map_map]
  conv => rhs; rw [← List.map_id (D s)]
  apply List.map_congr_left
  intro c _
  simp [Function.comp]

theorem num4_inv {l : List Int} (h : l.length = 4) (hb : byts l) : b4 (num 0 l) = l ∧ U32 (num 0 l) := by
  match l, h with
  | [w, x, y, z], _ =>
    have hw := hb w (by simp)
    have hx := hb x (by simp)
    have hy := hb y (by simp)
    have hz := hb z (by simp)
    have e : num 0 [w, x, y, z] = ((w * 256 + x) * 256 + y) * 256 + z := by simp [num]
    rw [e]
    have hr : U32 (((w * 256 + x) * 256 + y) * 256 + z) := by omega
    obtain ⟨_, _, _, _, e5, e6, e7, e8⟩ := shrN hr.1
    refine ⟨?_, hr⟩
    simp only [b4, e5, e6, e7, e8, wu8m]
    congr 1
    · omega
    · congr 1
      · omega
      · congr 1
        · omega
        · congr 1; omega

theorem num8_inv {l : List Int} (h : l.length = 8) (hb : byts l) : b8 (num 0 l) = l ∧ U64 (num 0 l) := by
  match l, h with
  | [a, b, c, d, w, x, y, z], _ =>
    have ha := hb a (by simp)
    have hb' := hb b (by simp)
    have hc := hb c (by simp)
    have hd := hb d (by simp)
    have hw := hb w (by simp)
    have hx := hb x (by simp)
    have hy := hb y (by simp)
    have hz := hb z (by simp)
    obtain ⟨n, hn⟩ : ∃ n, n = num 0 [a, b, c, d, w, x, y, z] := ⟨_, rfl⟩
    have e : n = a * 72057594037927936 + b * 281474976710656 + c * 1099511627776 + d * 4294967296 + w * 16777216 + x * 65536 + y * 256 + z := by
      rw [hn]; simp only [num, List.foldl_cons, List.foldl_nil]; omega
    rw [← hn]
    clear hn
    have hr : U64 n := by omega
    obtain ⟨e1, e2, e3, e4, e5, e6, e7, e8⟩ := shrN hr.1
    have f1 : n / 72057594037927936 % 256 = a := by omega
    have f2 : n / 281474976710656 % 256 = b := by omega
    have f3 : n / 1099511627776 % 256 = c := by omega
    have f4 : n / 4294967296 % 256 = d := by omega
    have f5 : n / 16777216 % 256 = w := by omega
    have f6 : n / 65536 % 256 = x := by omega
    have f7 : n / 256 % 256 = y := by omega
    have f8 : n % 256 = z := by omega
    refine ⟨?_, hr⟩
    simp only [b8, e1, e2, e3, e4, e5, e6, e7, e8, wu8m, f1, f2, f3, f4, f5, f6, f7, f8]

/-- Four bytes are a number's, or eight. -/
theorem is4 {s : ByteArray} {k : Int} (hs : s.size = 4) (hk : U32 k) : s = ofInts (b4 k) ↔ num 0 (toInts s) = k := by
  constructor
  · rintro rfl
    rw [toInts_ofInts (b4_r k), num_b4 hk]
  · intro h
    have := (num4_inv (l := toInts s) (by rw [toInts_size]; exact hs) (toInts_r s)).1
    rw [h] at this
    rw [this, ofInts_toInts]
theorem is8 {s : ByteArray} {k : Int} (hs : s.size = 8) (hk : U64 k) : s = ofInts (b8 k) ↔ num 0 (toInts s) = k := by
  constructor
  · rintro rfl
    rw [toInts_ofInts (b8_r k), num8 hk]
  · intro h
    have := (num8_inv (l := toInts s) (by rw [toInts_size]; exact hs) (toInts_r s)).1
    rw [h] at this
    rw [this, ofInts_toInts]

end Go.Proofs.YtlgopekjjkdkiaaGreatDoor.X
end
