/- Merged: EvF73, EvF36, EvF72v6206, EvF36v568, EvF37, EvF9, EvF31, EvF119, EvF100, EvF45, EvF61, EvF99, PureW, DiskA, DiskB, EvF62, EvF63, DiskC, EvF113, EvF83, EvF42, EvF81, EvF40, RecA, EvF16, EvF14, EvF82, EvF41, EvF11. -/
import Derived.Test.YtillbabmlfjegaaDoorMDirtyKeepsCard3
import Derived.Test.YtillbabmlfjegaaDoorProg
import Derived.KernelRfl
import Derived.Test.YtillbabmlfjegaaDoorMDirtyKeepsCard4
section
namespace Go.Proofs.YtillbabmlfjegaaDoor.X
open Go Go.Proofs.YtillbabmlfjegaaDoor.Ev Go.Proofs
set_option linter.unusedVariables false
set_option linter.unusedSectionVars false
/-! dirty.read -/
noncomputable def f73_1 {β : Type} (F : Nat) (a1 : ByteArray) (K0 : List Int → List Int → Int → Int → Option β) : Option β := cond ((a1.size : Int) != 40) (K0 [0, 0] [0, 0] 0 6) (f49_1 F (toInts a1) (fun x1 => f106_1 F 16 0 x1 (fun x2 x3 => f105_1 F (ofInts x3) (fun x4 x5 => cond (x5 != 0) (K0 [0, 0] [0, 0] 0 x5) (f106_1 F 16 x2 x1 (fun x6 x7 => f105_1 F (ofInts x7) (fun x8 x9 => cond (x9 != 0) (K0 [0, 0] [0, 0] 0 x9) (amb (amb (f51_1 F 8 x6 x1 (fun x10 => K0 x4 x8 0 0) (fun x11 x12 => K0 x4 x8 x11 0) ) (f51_1 F 8 x6 x1 (fun x13 => K0 x4 x8 0 0) (fun x14 x15 => K0 x4 x8 x14 0) )) (amb (amb (f51_1 F 8 x6 x1 (fun x16 => K0 x4 x8 0 0) (fun x17 x18 => K0 x4 x8 x17 0) ) (f51_1 F 8 x6 x1 (fun x19 => K0 x4 x8 0 0) (fun x20 x21 => K0 x4 x8 x20 0) )) (f51_1 F 8 x6 x1 (fun x22 => K0 x4 x8 0 0) (fun x23 x24 => K0 x4 x8 x23 0) )))) ) (fun x25 x26 => f105_1 F (ofInts x26) (fun x27 x28 => cond (x28 != 0) (K0 [0, 0] [0, 0] 0 x28) (amb (amb (f51_1 F 8 x2 x25 (fun x29 => K0 x4 x27 0 0) (fun x30 x31 => K0 x4 x27 x30 0) ) (f51_1 F 8 x2 x25 (fun x32 => K0 x4 x27 0 0) (fun x33 x34 => K0 x4 x27 x33 0) )) (amb (amb (f51_1 F 8 x2 x25 (fun x35 => K0 x4 x27 0 0) (fun x36 x37 => K0 x4 x27 x36 0) ) (f51_1 F 8 x2 x25 (fun x38 => K0 x4 x27 0 0) (fun x39 x40 => K0 x4 x27 x39 0) )) (f51_1 F 8 x2 x25 (fun x41 => K0 x4 x27 0 0) (fun x42 x43 => K0 x4 x27 x42 0) )))) ) )) ) (fun x44 x45 => f105_1 F (ofInts x45) (fun x46 x47 => cond (x47 != 0) (K0 [0, 0] [0, 0] 0 x47) (f106_1 F 16 0 x44 (fun x48 x49 => f105_1 F (ofInts x49) (fun x50 x51 => cond (x51 != 0) (K0 [0, 0] [0, 0] 0 x51) (amb (amb (f51_1 F 8 x48 x44 (fun x52 => K0 x46 x50 0 0) (fun x53 x54 => K0 x46 x50 x53 0) ) (f51_1 F 8 x48 x44 (fun x55 => K0 x46 x50 0 0) (fun x56 x57 => K0 x46 x50 x56 0) )) (amb (amb (f51_1 F 8 x48 x44 (fun x58 => K0 x46 x50 0 0) (fun x59 x60 => K0 x46 x50 x59 0) ) (f51_1 F 8 x48 x44 (fun x61 => K0 x46 x50 0 0) (fun x62 x63 => K0 x46 x50 x62 0) )) (f51_1 F 8 x48 x44 (fun x64 => K0 x46 x50 0 0) (fun x65 x66 => K0 x46 x50 x65 0) )))) ) (fun x67 x68 => f105_1 F (ofInts x68) (fun x69 x70 => cond (x70 != 0) (K0 [0, 0] [0, 0] 0 x70) (amb (amb (f51_1 F 8 0 x67 (fun x71 => K0 x46 x69 0 0) (fun x72 x73 => K0 x46 x69 x72 0) ) (f51_1 F 8 0 x67 (fun x74 => K0 x46 x69 0 0) (fun x75 x76 => K0 x46 x69 x75 0) )) (amb (amb (f51_1 F 8 0 x67 (fun x77 => K0 x46 x69 0 0) (fun x78 x79 => K0 x46 x69 x78 0) ) (f51_1 F 8 0 x67 (fun x80 => K0 x46 x69 0 0) (fun x81 x82 => K0 x46 x69 x81 0) )) (f51_1 F 8 0 x67 (fun x83 => K0 x46 x69 0 0) (fun x84 x85 => K0 x46 x69 x84 0) )))) ) )) ) ) )
variable [FZ]
def sh73_1 : Sh := ⟨[.lf (.str)], []⟩
noncomputable def S73_1 (F : Nat) (o : Summ) : Summ := mkS sh73_1 (fun d K => f73_1 F d.1.1 (fun (y0 : List Int) (y1 : List Int) (y2 : Int) (y3 : Int) => K [.agg [.seq (.int .u64) 2 y0, .seq (.int .u64) 2 y1, .int .u64 y2], .lf (.int .i64 y3)] [])) o
noncomputable def code73 : Code := bodyOf Tryd.f73
theorem scopes73 : scopesOf code73 = [] := by kernel_rfl
theorem ranges73 : rangesOf code73 = [] := by kernel_rfl
theorem loops73 : loopsOf code73 = [] := by kernel_rfl
theorem enter73 : ∀ args w, (callFunc 73 args).run Tryd.prog w = .ok (.enter 73 args) w := enter_of (fn := Tryd.f73) (by kernel_rfl) (by kernel_rfl) (by kernel_rfl)
noncomputable def T73_1 (F : Nat) : FuncId → Option Summ := tab [(49, (S49_1 F noS)), (51, (S51_1 F noS)), (105, (S105_1 F noS)), (106, (S106_1 F noS))]
noncomputable def LT73_1 (F : Nat) : Nat → Option LoopS := ltab []
theorem E73_1g (F : Nat) (c49_1 : List Int → (List Int → Option Res) → Option Res) (c51_1 : Int → Int → List Int → (Int → Option Res) → (Int → List Int → Option Res) → Option Res) (c105_1 : ByteArray → (List Int → Int → Option Res) → Option Res) (c106_1 : Int → Int → List Int → (Int → List Int → Option Res) → (List Int → List Int → Option Res) → Option Res)   (d : sh73_1.den) (K : KF) : evBody Tryd.prog (tab [(49, (mkS sh49_1 (fun d K => c49_1 d.2.1.2.1 (fun (y2 : List Int) => K [.lf (.ptr 1 0)] [some ⟨d.2.1.1, [.seq (.int .u8) 0 d.2.1.2.1]⟩, some ⟨false, [.full 2, .int .i64 0]⟩, some ⟨false, [.seq (.int .u8) 0 y2]⟩])) noS)), (51, (mkS sh51_1 (fun d K => c51_1 d.1.2.1 d.2.1.2.2.1 d.2.2.1.2.1 (fun (y1 : Int) => K [.lf (.int .u64 0)] [some ⟨false, [.full 1, .int .i64 y1]⟩, some ⟨false, [.seq (.int .u8) 0 d.2.2.1.2.1]⟩]) (fun (y0 : Int) (y2 : List Int) => K [.lf (.int .u64 y0)] [some ⟨false, [.full 2, .int .i64 d.2.1.2.2.1]⟩, none, some ⟨false, [.seq (.int .u8) 0 y2]⟩])) noS)), (105, (mkS sh105_1 (fun d K => c105_1 d.1.1 (fun (y0 : List Int) (y1 : Int) => K [.agg [.seq (.int .u64) 2 y0], .lf (.int .i64 y1)] [])) noS)), (106, (mkS sh106_1 (fun d K => c106_1 d.1.2.1 d.2.1.2.2.1 d.2.2.1.2.1 (fun (y0 : Int) (y2 : List Int) => K [.lf (.full 2)] [some ⟨false, [.full 1, .int .i64 y0]⟩, some ⟨false, [.seq (.int .u8) 0 d.2.2.1.2.1]⟩, some ⟨false, [.seq (.int .u8) 0 y2]⟩]) (fun (y1 : List Int) (y2 : List Int) => K [.lf (.full 3)] [some ⟨false, [.full 2, .int .i64 d.2.1.2.2.1]⟩, none, some ⟨false, [.seq (.int .u8) 0 y1]⟩, some ⟨false, [.seq (.int .u8) 0 y2]⟩])) noS))]) (xw [10]) 42 0 (ltab []) code73 Tryd.f73.results.toList (encT sh73_1.vs d.1) (encH sh73_1.h d.2) K = (fun (a1 : ByteArray) (K0 : (List Int → List Int → Int → Int → Option Res)) => cond ((a1.size : Int) != 40) (K0 [0, 0] [0, 0] 0 6) (c49_1 (toInts a1) (fun x1 => c106_1 16 0 x1 (fun x2 x3 => c105_1 (ofInts x3) (fun x4 x5 => cond (x5 != 0) (K0 [0, 0] [0, 0] 0 x5) (c106_1 16 x2 x1 (fun x6 x7 => c105_1 (ofInts x7) (fun x8 x9 => cond (x9 != 0) (K0 [0, 0] [0, 0] 0 x9) (amb (amb (c51_1 8 x6 x1 (fun x10 => K0 x4 x8 0 0) (fun x11 x12 => K0 x4 x8 x11 0) ) (c51_1 8 x6 x1 (fun x13 => K0 x4 x8 0 0) (fun x14 x15 => K0 x4 x8 x14 0) )) (amb (amb (c51_1 8 x6 x1 (fun x16 => K0 x4 x8 0 0) (fun x17 x18 => K0 x4 x8 x17 0) ) (c51_1 8 x6 x1 (fun x19 => K0 x4 x8 0 0) (fun x20 x21 => K0 x4 x8 x20 0) )) (c51_1 8 x6 x1 (fun x22 => K0 x4 x8 0 0) (fun x23 x24 => K0 x4 x8 x23 0) )))) ) (fun x25 x26 => c105_1 (ofInts x26) (fun x27 x28 => cond (x28 != 0) (K0 [0, 0] [0, 0] 0 x28) (amb (amb (c51_1 8 x2 x25 (fun x29 => K0 x4 x27 0 0) (fun x30 x31 => K0 x4 x27 x30 0) ) (c51_1 8 x2 x25 (fun x32 => K0 x4 x27 0 0) (fun x33 x34 => K0 x4 x27 x33 0) )) (amb (amb (c51_1 8 x2 x25 (fun x35 => K0 x4 x27 0 0) (fun x36 x37 => K0 x4 x27 x36 0) ) (c51_1 8 x2 x25 (fun x38 => K0 x4 x27 0 0) (fun x39 x40 => K0 x4 x27 x39 0) )) (c51_1 8 x2 x25 (fun x41 => K0 x4 x27 0 0) (fun x42 x43 => K0 x4 x27 x42 0) )))) ) )) ) (fun x44 x45 => c105_1 (ofInts x45) (fun x46 x47 => cond (x47 != 0) (K0 [0, 0] [0, 0] 0 x47) (c106_1 16 0 x44 (fun x48 x49 => c105_1 (ofInts x49) (fun x50 x51 => cond (x51 != 0) (K0 [0, 0] [0, 0] 0 x51) (amb (amb (c51_1 8 x48 x44 (fun x52 => K0 x46 x50 0 0) (fun x53 x54 => K0 x46 x50 x53 0) ) (c51_1 8 x48 x44 (fun x55 => K0 x46 x50 0 0) (fun x56 x57 => K0 x46 x50 x56 0) )) (amb (amb (c51_1 8 x48 x44 (fun x58 => K0 x46 x50 0 0) (fun x59 x60 => K0 x46 x50 x59 0) ) (c51_1 8 x48 x44 (fun x61 => K0 x46 x50 0 0) (fun x62 x63 => K0 x46 x50 x62 0) )) (c51_1 8 x48 x44 (fun x64 => K0 x46 x50 0 0) (fun x65 x66 => K0 x46 x50 x65 0) )))) ) (fun x67 x68 => c105_1 (ofInts x68) (fun x69 x70 => cond (x70 != 0) (K0 [0, 0] [0, 0] 0 x70) (amb (amb (c51_1 8 0 x67 (fun x71 => K0 x46 x69 0 0) (fun x72 x73 => K0 x46 x69 x72 0) ) (c51_1 8 0 x67 (fun x74 => K0 x46 x69 0 0) (fun x75 x76 => K0 x46 x69 x75 0) )) (amb (amb (c51_1 8 0 x67 (fun x77 => K0 x46 x69 0 0) (fun x78 x79 => K0 x46 x69 x78 0) ) (c51_1 8 0 x67 (fun x80 => K0 x46 x69 0 0) (fun x81 x82 => K0 x46 x69 x81 0) )) (c51_1 8 0 x67 (fun x83 => K0 x46 x69 0 0) (fun x84 x85 => K0 x46 x69 x84 0) )))) ) )) ) ) )) d.1.1 (fun (y0 : List Int) (y1 : List Int) (y2 : Int) (y3 : Int) => K [.agg [.seq (.int .u64) 2 y0, .seq (.int .u64) 2 y1, .int .u64 y2], .lf (.int .i64 y3)] []) := by kernel_rfl
theorem E73_1 (F : Nat) (d : sh73_1.den) (K : KF) : evBody Tryd.prog (T73_1 F) (xw [10]) 42 0 (LT73_1 F) code73 Tryd.f73.results.toList (encT sh73_1.vs d.1) (encH sh73_1.h d.2) K = f73_1 F d.1.1 (fun (y0 : List Int) (y1 : List Int) (y2 : Int) (y3 : Int) => K [.agg [.seq (.int .u64) 2 y0, .seq (.int .u64) 2 y1, .int .u64 y2], .lf (.int .i64 y3)] []) := Eq.mp (by kernel_rfl) (E73_1g F (f49_1 F) (f51_1 F) (f105_1 F) (f106_1 F)   d K)
theorem S73_1_ok (F : Nat) (o : Summ) (ho : SoundFn Tryd.prog 73 o) : SoundFn Tryd.prog 73 (S73_1 F o) :=
  soundFn_of (fn := Tryd.f73) (c := code73) rfl rfl (by kernel_rfl) (tab_cons (S49_1_ok F _ (noS_sound enter49)) (tab_cons (S51_1_ok F _ (noS_sound enter51)) (tab_cons (S105_1_ok F _ (noS_sound enter105)) (tab_cons (S106_1_ok F _ (noS_sound enter106)) tab_nil)))) (by kernel_rfl) (by kernel_rfl) ho (by rw [loops73]; exact loopsOK_nil) (by rw [scopes73]; exact scopesOK_nil) (by rw [ranges73]; exact rangesOK_nil) (E73_1 F)
end Go.Proofs.YtillbabmlfjegaaDoor.X
end

section
namespace Go.Proofs.YtillbabmlfjegaaDoor.X
open Go Go.Proofs.YtillbabmlfjegaaDoor.Ev Go.Proofs
set_option linter.unusedVariables false
set_option linter.unusedSectionVars false
/-! dirty.Load -/
noncomputable def f36_1 {β : Type} (F : Nat) (a1 : Int) (a2 : Bool) (a3 : Int) (a4 : List ByteArray) (a5 : List (Int × ByteArray)) (K0 : List Int → List Int → Int → Int → Option β) : Option β := f72_1 F 5 a1 a2 a3 a4 a5 (fun x1 x2 => cond (x2 != 0) (K0 [0, 0] [0, 0] 0 x2) (f13_1 F 5 x1 (fun x3 x4 => cond (x4 != 0) (K0 [0, 0] [0, 0] 0 x4) (f73_1 F x3 (fun x5 x6 x7 x8 => K0 x5 x6 x7 x8) )) )) 
variable [FZ]
def sh36_1 : Sh := ⟨[.lf (.ptr 0 0)], [some ⟨none, [.full 1, .full 2, .int .i64, .bool, .int .i64]⟩, some ⟨none, [.seq .str 0]⟩, some ⟨none, [.seq (.pair (.int .i64) .str) 0]⟩]⟩
noncomputable def S36_1 (F : Nat) (o : Summ) : Summ := mkS sh36_1 (fun d K => f36_1 F d.2.1.2.2.2.1 d.2.1.2.2.2.2.1 d.2.1.2.2.2.2.2.1 d.2.2.1.2.1 d.2.2.2.1.2.1 (fun (y0 : List Int) (y1 : List Int) (y2 : Int) (y3 : Int) => K [.agg [.seq (.int .u64) 2 y0, .seq (.int .u64) 2 y1, .int .u64 y2], .lf (.int .i64 y3)] [some ⟨d.2.1.1, [.full 1, .full 2, .int .i64 d.2.1.2.2.2.1, .bool d.2.1.2.2.2.2.1, .int .i64 d.2.1.2.2.2.2.2.1]⟩, some ⟨d.2.2.1.1, [.seq .str 0 d.2.2.1.2.1]⟩, some ⟨d.2.2.2.1.1, [.seq (.pair (.int .i64) .str) 0 d.2.2.2.1.2.1]⟩])) o
noncomputable def code36 : Code := bodyOf Tryd.f36
theorem scopes36 : scopesOf code36 = [] := by kernel_rfl
theorem ranges36 : rangesOf code36 = [] := by kernel_rfl
theorem loops36 : loopsOf code36 = [] := by kernel_rfl
theorem enter36 : ∀ args w, (callFunc 36 args).run Tryd.prog w = .ok (.enter 36 args) w := enter_of (fn := Tryd.f36) (by kernel_rfl) (by kernel_rfl) (by kernel_rfl)
noncomputable def T36_1 (F : Nat) : FuncId → Option Summ := tab [(13, (S13_1 F noS)), (72, (S72_1 F noS)), (73, (S73_1 F noS))]
noncomputable def LT36_1 (F : Nat) : Nat → Option LoopS := ltab []
theorem E36_1g (F : Nat) (c13_1 : Int → ByteArray → (ByteArray → Int → Option Res) → Option Res) (c72_1 : Int → Int → Bool → Int → List ByteArray → List (Int × ByteArray) → (ByteArray → Int → Option Res) → Option Res) (c73_1 : ByteArray → (List Int → List Int → Int → Int → Option Res) → Option Res)   (d : sh36_1.den) (K : KF) : evBody Tryd.prog (tab [(13, (mkS sh13_1 (fun d K => c13_1 d.1.1 d.1.2.1 (fun (y0 : ByteArray) (y1 : Int) => K [.lf (.str y0), .lf (.int .i64 y1)] [])) noS)), (72, (mkS sh72_1 (fun d K => c72_1 d.1.2.1 d.2.1.2.2.2.1 d.2.1.2.2.2.2.1 d.2.1.2.2.2.2.2.1 d.2.2.1.2.1 d.2.2.2.1.2.1 (fun (y0 : ByteArray) (y1 : Int) => K [.lf (.str y0), .lf (.int .i64 y1)] [some ⟨d.2.1.1, [.full 1, .full 2, .int .i64 d.2.1.2.2.2.1, .bool d.2.1.2.2.2.2.1, .int .i64 d.2.1.2.2.2.2.2.1]⟩, some ⟨d.2.2.1.1, [.seq .str 0 d.2.2.1.2.1]⟩, some ⟨d.2.2.2.1.1, [.seq (.pair (.int .i64) .str) 0 d.2.2.2.1.2.1]⟩])) noS)), (73, (mkS sh73_1 (fun d K => c73_1 d.1.1 (fun (y0 : List Int) (y1 : List Int) (y2 : Int) (y3 : Int) => K [.agg [.seq (.int .u64) 2 y0, .seq (.int .u64) 2 y1, .int .u64 y2], .lf (.int .i64 y3)] [])) noS))]) (xw []) 29 3 (ltab []) code36 Tryd.f36.results.toList (encT sh36_1.vs d.1) (encH sh36_1.h d.2) K = (fun (a1 : Int) (a2 : Bool) (a3 : Int) (a4 : List ByteArray) (a5 : List (Int × ByteArray)) (K0 : (List Int → List Int → Int → Int → Option Res)) => c72_1 5 a1 a2 a3 a4 a5 (fun x1 x2 => cond (x2 != 0) (K0 [0, 0] [0, 0] 0 x2) (c13_1 5 x1 (fun x3 x4 => cond (x4 != 0) (K0 [0, 0] [0, 0] 0 x4) (c73_1 x3 (fun x5 x6 x7 x8 => K0 x5 x6 x7 x8) )) )) ) d.2.1.2.2.2.1 d.2.1.2.2.2.2.1 d.2.1.2.2.2.2.2.1 d.2.2.1.2.1 d.2.2.2.1.2.1 (fun (y0 : List Int) (y1 : List Int) (y2 : Int) (y3 : Int) => K [.agg [.seq (.int .u64) 2 y0, .seq (.int .u64) 2 y1, .int .u64 y2], .lf (.int .i64 y3)] [some ⟨d.2.1.1, [.full 1, .full 2, .int .i64 d.2.1.2.2.2.1, .bool d.2.1.2.2.2.2.1, .int .i64 d.2.1.2.2.2.2.2.1]⟩, some ⟨d.2.2.1.1, [.seq .str 0 d.2.2.1.2.1]⟩, some ⟨d.2.2.2.1.1, [.seq (.pair (.int .i64) .str) 0 d.2.2.2.1.2.1]⟩]) := by kernel_rfl
theorem E36_1 (F : Nat) (d : sh36_1.den) (K : KF) : evBody Tryd.prog (T36_1 F) (xw []) 29 3 (LT36_1 F) code36 Tryd.f36.results.toList (encT sh36_1.vs d.1) (encH sh36_1.h d.2) K = f36_1 F d.2.1.2.2.2.1 d.2.1.2.2.2.2.1 d.2.1.2.2.2.2.2.1 d.2.2.1.2.1 d.2.2.2.1.2.1 (fun (y0 : List Int) (y1 : List Int) (y2 : Int) (y3 : Int) => K [.agg [.seq (.int .u64) 2 y0, .seq (.int .u64) 2 y1, .int .u64 y2], .lf (.int .i64 y3)] [some ⟨d.2.1.1, [.full 1, .full 2, .int .i64 d.2.1.2.2.2.1, .bool d.2.1.2.2.2.2.1, .int .i64 d.2.1.2.2.2.2.2.1]⟩, some ⟨d.2.2.1.1, [.seq .str 0 d.2.2.1.2.1]⟩, some ⟨d.2.2.2.1.1, [.seq (.pair (.int .i64) .str) 0 d.2.2.2.1.2.1]⟩]) := Eq.mp (by kernel_rfl) (E36_1g F (f13_1 F) (f72_1 F) (f73_1 F)   d K)
theorem S36_1_ok (F : Nat) (o : Summ) (ho : SoundFn Tryd.prog 36 o) : SoundFn Tryd.prog 36 (S36_1 F o) :=
  soundFn_of (fn := Tryd.f36) (c := code36) rfl rfl (by kernel_rfl) (tab_cons (S13_1_ok F _ (noS_sound enter13)) (tab_cons (S72_1_ok F _ (noS_sound enter72)) (tab_cons (S73_1_ok F _ (noS_sound enter73)) tab_nil))) (by kernel_rfl) (by kernel_rfl) ho (by rw [loops36]; exact loopsOK_nil) (by rw [scopes36]; exact scopesOK_nil) (by rw [ranges36]; exact rangesOK_nil) (E36_1 F)
end Go.Proofs.YtillbabmlfjegaaDoor.X
end

section
namespace Go.Proofs.YtillbabmlfjegaaDoor.X
open Go Go.Proofs.YtillbabmlfjegaaDoor.Ev Go.Proofs
set_option linter.unusedVariables false
set_option linter.unusedSectionVars false
/-! disk.Disk).Read -/
noncomputable def f72_6206 {β : Type} (F : Nat) (a1 : Int) (K0 : Option β) : Option β := K0
variable [FZ]
def sh72_6206 : Sh := ⟨[.lf (.nilp), .lf (.int .i64)], []⟩
noncomputable def S72_6206 (F : Nat) (o : Summ) : Summ := mkS sh72_6206 (fun d K => f72_6206 F d.1.2.1 (K [.lf (.str ByteArray.empty), .lf (.int .i64 1)] [])) o
noncomputable def T72_6206 (F : Nat) : FuncId → Option Summ := tab []
noncomputable def LT72_6206 (F : Nat) : Nat → Option LoopS := ltab []
theorem E72_6206g (F : Nat)    (d : sh72_6206.den) (K : KF) : evBody Tryd.prog (tab []) (xw []) 34 0 (ltab []) code72 Tryd.f72.results.toList (encT sh72_6206.vs d.1) (encH sh72_6206.h d.2) K = (fun (a1 : Int) (K0 : (Option Res)) => K0) d.1.2.1 (K [.lf (.str ByteArray.empty), .lf (.int .i64 1)] []) := by kernel_rfl
theorem E72_6206 (F : Nat) (d : sh72_6206.den) (K : KF) : evBody Tryd.prog (T72_6206 F) (xw []) 34 0 (LT72_6206 F) code72 Tryd.f72.results.toList (encT sh72_6206.vs d.1) (encH sh72_6206.h d.2) K = f72_6206 F d.1.2.1 (K [.lf (.str ByteArray.empty), .lf (.int .i64 1)] []) := Eq.mp (by kernel_rfl) (E72_6206g F    d K)
theorem S72_6206_ok (F : Nat) (o : Summ) (ho : SoundFn Tryd.prog 72 o) : SoundFn Tryd.prog 72 (S72_6206 F o) :=
  soundFn_of (fn := Tryd.f72) (c := code72) rfl rfl (by kernel_rfl) tab_nil (by kernel_rfl) (by kernel_rfl) ho (by rw [loops72]; exact loopsOK_nil) (by rw [scopes72]; exact scopesOK_nil) (by rw [ranges72]; exact (rangesOK_skip (by kernel_rfl) rangesOK_nil)) (E72_6206 F)
end Go.Proofs.YtillbabmlfjegaaDoor.X
end

section
namespace Go.Proofs.YtillbabmlfjegaaDoor.X
open Go Go.Proofs.YtillbabmlfjegaaDoor.Ev Go.Proofs
set_option linter.unusedVariables false
set_option linter.unusedSectionVars false
/-! dirty.Load -/
noncomputable def f36_568 {β : Type} (F : Nat)  (K0 : List Int → List Int → Option β) : Option β := f72_6206 F 5 (K0 [0, 0] [0, 0]) 
variable [FZ]
def sh36_568 : Sh := ⟨[.lf (.nilp)], []⟩
noncomputable def S36_568 (F : Nat) (o : Summ) : Summ := mkS sh36_568 (fun d K => f36_568 F (fun (y0 : List Int) (y1 : List Int) => K [.agg [.seq (.int .u64) 2 y0, .seq (.int .u64) 2 y1, .int .u64 0], .lf (.int .i64 1)] [])) o
noncomputable def T36_568 (F : Nat) : FuncId → Option Summ := tab [(72, (S72_6206 F noS))]
noncomputable def LT36_568 (F : Nat) : Nat → Option LoopS := ltab []
theorem E36_568g (F : Nat) (c72_6206 : Int → (Option Res) → Option Res)   (d : sh36_568.den) (K : KF) : evBody Tryd.prog (tab [(72, (mkS sh72_6206 (fun d K => c72_6206 d.1.2.1 (K [.lf (.str ByteArray.empty), .lf (.int .i64 1)] [])) noS))]) (xw []) 29 0 (ltab []) code36 Tryd.f36.results.toList (encT sh36_568.vs d.1) (encH sh36_568.h d.2) K = (fun (K0 : (List Int → List Int → Option Res)) => c72_6206 5 (K0 [0, 0] [0, 0]) ) (fun (y0 : List Int) (y1 : List Int) => K [.agg [.seq (.int .u64) 2 y0, .seq (.int .u64) 2 y1, .int .u64 0], .lf (.int .i64 1)] []) := by kernel_rfl
theorem E36_568 (F : Nat) (d : sh36_568.den) (K : KF) : evBody Tryd.prog (T36_568 F) (xw []) 29 0 (LT36_568 F) code36 Tryd.f36.results.toList (encT sh36_568.vs d.1) (encH sh36_568.h d.2) K = f36_568 F (fun (y0 : List Int) (y1 : List Int) => K [.agg [.seq (.int .u64) 2 y0, .seq (.int .u64) 2 y1, .int .u64 0], .lf (.int .i64 1)] []) := Eq.mp (by kernel_rfl) (E36_568g F (f72_6206 F)   d K)
theorem S36_568_ok (F : Nat) (o : Summ) (ho : SoundFn Tryd.prog 36 o) : SoundFn Tryd.prog 36 (S36_568 F o) :=
  soundFn_of (fn := Tryd.f36) (c := code36) rfl rfl (by kernel_rfl) (tab_cons (S72_6206_ok F _ (noS_sound enter72)) tab_nil) (by kernel_rfl) (by kernel_rfl) ho (by rw [loops36]; exact loopsOK_nil) (by rw [scopes36]; exact scopesOK_nil) (by rw [ranges36]; exact rangesOK_nil) (E36_568 F)
end Go.Proofs.YtillbabmlfjegaaDoor.X
end

section
namespace Go.Proofs.YtillbabmlfjegaaDoor.X
open Go Go.Proofs.YtillbabmlfjegaaDoor.Ev Go.Proofs
set_option linter.unusedVariables false
set_option linter.unusedSectionVars false
/-! pentimentolaw11.taken -/
noncomputable def f37_1 {β : Type} (F : Nat) (a1 : List Int) (a2 : List Int) (a3 : Int) (K0 : Option β) : Option β := K0
variable [FZ]
def sh37_1 : Sh := ⟨[.agg [.seq (.int .u64) 2, .seq (.int .u64) 2, .int .u64]], []⟩
noncomputable def S37_1 (F : Nat) (o : Summ) : Summ := mkS sh37_1 (fun d K => f37_1 F d.1.1.1 d.1.1.2.1 d.1.1.2.2.1 (K [.agg [.seq (.int .u64) 2 d.1.1.1, .seq (.int .u64) 2 d.1.1.2.1, .int .u64 d.1.1.2.2.1]] [])) o
noncomputable def code37 : Code := bodyOf Tryd.f37
theorem scopes37 : scopesOf code37 = [] := by kernel_rfl
theorem ranges37 : rangesOf code37 = [] := by kernel_rfl
theorem loops37 : loopsOf code37 = [] := by kernel_rfl
theorem enter37 : ∀ args w, (callFunc 37 args).run Tryd.prog w = .ok (.enter 37 args) w := enter_of (fn := Tryd.f37) (by kernel_rfl) (by kernel_rfl) (by kernel_rfl)
noncomputable def T37_1 (F : Nat) : FuncId → Option Summ := tab []
noncomputable def LT37_1 (F : Nat) : Nat → Option LoopS := ltab []
theorem E37_1g (F : Nat)    (d : sh37_1.den) (K : KF) : evBody Tryd.prog (tab []) (xw []) 10 0 (ltab []) code37 Tryd.f37.results.toList (encT sh37_1.vs d.1) (encH sh37_1.h d.2) K = (fun (a1 : List Int) (a2 : List Int) (a3 : Int) (K0 : (Option Res)) => K0) d.1.1.1 d.1.1.2.1 d.1.1.2.2.1 (K [.agg [.seq (.int .u64) 2 d.1.1.1, .seq (.int .u64) 2 d.1.1.2.1, .int .u64 d.1.1.2.2.1]] []) := by kernel_rfl
theorem E37_1 (F : Nat) (d : sh37_1.den) (K : KF) : evBody Tryd.prog (T37_1 F) (xw []) 10 0 (LT37_1 F) code37 Tryd.f37.results.toList (encT sh37_1.vs d.1) (encH sh37_1.h d.2) K = f37_1 F d.1.1.1 d.1.1.2.1 d.1.1.2.2.1 (K [.agg [.seq (.int .u64) 2 d.1.1.1, .seq (.int .u64) 2 d.1.1.2.1, .int .u64 d.1.1.2.2.1]] []) := Eq.mp (by kernel_rfl) (E37_1g F    d K)
theorem S37_1_ok (F : Nat) (o : Summ) (ho : SoundFn Tryd.prog 37 o) : SoundFn Tryd.prog 37 (S37_1 F o) :=
  soundFn_of (fn := Tryd.f37) (c := code37) rfl rfl (by kernel_rfl) tab_nil (by kernel_rfl) (by kernel_rfl) ho (by rw [loops37]; exact loopsOK_nil) (by rw [scopes37]; exact scopesOK_nil) (by rw [ranges37]; exact rangesOK_nil) (E37_1 F)
end Go.Proofs.YtillbabmlfjegaaDoor.X
end

section
namespace Go.Proofs.YtillbabmlfjegaaDoor.X
open Go Go.Proofs.YtillbabmlfjegaaDoor.Ev Go.Proofs
set_option linter.unusedVariables false
set_option linter.unusedSectionVars false
/-! pentimentolaw11.DirtyKeeps -/
noncomputable def f9_1 [FZ] {β : Type} (F : Nat) (a1 : List Int) (a2 : List Int) (a3 : Int) (a4 : List Int) (a5 : List Int) (a6 : Int) (a7 : Int) (a8 : Sl .bool) (K0 : Bool → Option β) : Option β := cond (decide (a7 < 0)) (f33_1 F  (fun x1 => K0 x1) ) (cond (decide (a7 > 2)) (f33_1 F  (fun x2 => K0 x2) ) (f22_1 F 6 (f35_1 F a1 a2 a3 (f34_2761 F a1 a2 a3 (fun x3 => cond (x3 != 0) (K0 false) (f24_6206 F a7 (f35_1 F a4 a5 a6 (f34_2761 F a4 a5 a6 (fun x4 => f25_7155 F a8.dat (f26_568 F  (f36_568 F  (fun x5 x6 => K0 false) ) ) ) ) ) )) ) ) (fun x7 x8 => f35_1 F a1 a2 a3 (f34_1 F a1 a2 a3 (-1) false 0 x7 x8 (fun x9 x10 x11 x12 => cond (x9 != 0) (K0 false) (f24_1 F a7 x10 x11 x12 x7 x8 (fun x13 => f35_1 F a4 a5 a6 (f34_1 F a4 a5 a6 x13 x11 x12 x7 x8 (fun x14 x15 x16 x17 => f25_1 F x15 x16 x17 x7 x8 a8.dat (fun x18 x19 => f26_1 F (-1) true x17 x18 x19 (f36_1 F (-1) true x17 x18 x19 (fun x20 x21 x22 x23 => K0 false) ) (fun x24 => f36_1 F (-1) false x17 x18 x24 (fun x25 x26 x27 x28 => cond (x28 == 0) (cond ((x14 == 0) == (a7 == 2)) (f37_1 F x25 x26 x27 (cond ((lbeq (.int .u64) x25 a4) && ((lbeq (.int .u64) x26 a5) && (x27 == a6))) (f33_1 F  (fun x29 => K0 x29) ) (cond (x14 != 0) (f37_1 F x25 x26 x27 (cond ((lbeq (.int .u64) x25 a1) && ((lbeq (.int .u64) x26 a2) && (x27 == a3))) (f33_1 F  (fun x30 => K0 x30) ) (K0 false)) ) (K0 false))) ) (K0 false)) (K0 false)) ) ) ) (fun x31 x32 x33 x34 x35 => f25_1 F x31 x32 x33 x34 x35 a8.dat (fun x36 x37 => f26_1 F (-1) true x33 x36 x37 (f36_1 F (-1) true x33 x36 x37 (fun x38 x39 x40 x41 => K0 false) ) (fun x42 => f36_1 F (-1) false x33 x36 x42 (fun x43 x44 x45 x46 => cond (x46 == 0) (cond ((true : Bool) == (a7 == 2)) (f37_1 F x43 x44 x45 (cond ((lbeq (.int .u64) x43 a4) && ((lbeq (.int .u64) x44 a5) && (x45 == a6))) (f33_1 F  (fun x47 => K0 x47) ) (K0 false)) ) (K0 false)) (K0 false)) ) ) ) (fun x48 x49 x50 x51 x52 x53 => f25_1 F x49 x50 x51 x52 x53 a8.dat (fun x54 x55 => f26_1 F (-1) true x51 x54 x55 (f36_1 F (-1) true x51 x54 x55 (fun x56 x57 x58 x59 => K0 false) ) (fun x60 => f36_1 F (-1) false x51 x54 x60 (fun x61 x62 x63 x64 => cond (x64 == 0) (cond ((x48 == 0) == (a7 == 2)) (f37_1 F x61 x62 x63 (cond ((lbeq (.int .u64) x61 a4) && ((lbeq (.int .u64) x62 a5) && (x63 == a6))) (f33_1 F  (fun x65 => K0 x65) ) (cond (x48 != 0) (f37_1 F x61 x62 x63 (cond ((lbeq (.int .u64) x61 a1) && ((lbeq (.int .u64) x62 a2) && (x63 == a3))) (f33_1 F  (fun x66 => K0 x66) ) (K0 false)) ) (K0 false))) ) (K0 false)) (K0 false)) ) ) ) ) ) )) (fun x67 x68 x69 x70 x71 => f24_1 F a7 x67 x68 x69 x70 x71 (fun x72 => f35_1 F a4 a5 a6 (f34_1 F a4 a5 a6 x72 x68 x69 x70 x71 (fun x73 x74 x75 x76 => f25_1 F x74 x75 x76 x70 x71 a8.dat (fun x77 x78 => f26_1 F (-1) true x76 x77 x78 (f36_1 F (-1) true x76 x77 x78 (fun x79 x80 x81 x82 => K0 false) ) (fun x83 => f36_1 F (-1) false x76 x77 x83 (fun x84 x85 x86 x87 => cond (x87 == 0) (cond ((x73 == 0) == (a7 == 2)) (f37_1 F x84 x85 x86 (cond ((lbeq (.int .u64) x84 a4) && ((lbeq (.int .u64) x85 a5) && (x86 == a6))) (f33_1 F  (fun x88 => K0 x88) ) (cond (x73 != 0) (f37_1 F x84 x85 x86 (cond ((lbeq (.int .u64) x84 a1) && ((lbeq (.int .u64) x85 a2) && (x86 == a3))) (f33_1 F  (fun x89 => K0 x89) ) (K0 false)) ) (K0 false))) ) (K0 false)) (K0 false)) ) ) ) (fun x90 x91 x92 x93 x94 => f25_1 F x90 x91 x92 x93 x94 a8.dat (fun x95 x96 => f26_1 F (-1) true x92 x95 x96 (f36_1 F (-1) true x92 x95 x96 (fun x97 x98 x99 x100 => K0 false) ) (fun x101 => f36_1 F (-1) false x92 x95 x101 (fun x102 x103 x104 x105 => cond (x105 == 0) (cond ((true : Bool) == (a7 == 2)) (f37_1 F x102 x103 x104 (cond ((lbeq (.int .u64) x102 a4) && ((lbeq (.int .u64) x103 a5) && (x104 == a6))) (f33_1 F  (fun x106 => K0 x106) ) (K0 false)) ) (K0 false)) (K0 false)) ) ) ) (fun x107 x108 x109 x110 x111 x112 => f25_1 F x108 x109 x110 x111 x112 a8.dat (fun x113 x114 => f26_1 F (-1) true x110 x113 x114 (f36_1 F (-1) true x110 x113 x114 (fun x115 x116 x117 x118 => K0 false) ) (fun x119 => f36_1 F (-1) false x110 x113 x119 (fun x120 x121 x122 x123 => cond (x123 == 0) (cond ((x107 == 0) == (a7 == 2)) (f37_1 F x120 x121 x122 (cond ((lbeq (.int .u64) x120 a4) && ((lbeq (.int .u64) x121 a5) && (x122 == a6))) (f33_1 F  (fun x124 => K0 x124) ) (cond (x107 != 0) (f37_1 F x120 x121 x122 (cond ((lbeq (.int .u64) x120 a1) && ((lbeq (.int .u64) x121 a2) && (x122 == a3))) (f33_1 F  (fun x125 => K0 x125) ) (K0 false)) ) (K0 false))) ) (K0 false)) (K0 false)) ) ) ) ) ) ) (fun x126 x127 x128 x129 x130 x131 => cond (x126 != 0) (K0 false) (f24_1 F a7 x127 x128 x129 x130 x131 (fun x132 => f35_1 F a4 a5 a6 (f34_1 F a4 a5 a6 x132 x128 x129 x130 x131 (fun x133 x134 x135 x136 => f25_1 F x134 x135 x136 x130 x131 a8.dat (fun x137 x138 => f26_1 F (-1) true x136 x137 x138 (f36_1 F (-1) true x136 x137 x138 (fun x139 x140 x141 x142 => K0 false) ) (fun x143 => f36_1 F (-1) false x136 x137 x143 (fun x144 x145 x146 x147 => cond (x147 == 0) (cond ((x133 == 0) == (a7 == 2)) (f37_1 F x144 x145 x146 (cond ((lbeq (.int .u64) x144 a4) && ((lbeq (.int .u64) x145 a5) && (x146 == a6))) (f33_1 F  (fun x148 => K0 x148) ) (cond (x133 != 0) (f37_1 F x144 x145 x146 (cond ((lbeq (.int .u64) x144 a1) && ((lbeq (.int .u64) x145 a2) && (x146 == a3))) (f33_1 F  (fun x149 => K0 x149) ) (K0 false)) ) (K0 false))) ) (K0 false)) (K0 false)) ) ) ) (fun x150 x151 x152 x153 x154 => f25_1 F x150 x151 x152 x153 x154 a8.dat (fun x155 x156 => f26_1 F (-1) true x152 x155 x156 (f36_1 F (-1) true x152 x155 x156 (fun x157 x158 x159 x160 => K0 false) ) (fun x161 => f36_1 F (-1) false x152 x155 x161 (fun x162 x163 x164 x165 => cond (x165 == 0) (cond ((true : Bool) == (a7 == 2)) (f37_1 F x162 x163 x164 (cond ((lbeq (.int .u64) x162 a4) && ((lbeq (.int .u64) x163 a5) && (x164 == a6))) (f33_1 F  (fun x166 => K0 x166) ) (K0 false)) ) (K0 false)) (K0 false)) ) ) ) (fun x167 x168 x169 x170 x171 x172 => f25_1 F x168 x169 x170 x171 x172 a8.dat (fun x173 x174 => f26_1 F (-1) true x170 x173 x174 (f36_1 F (-1) true x170 x173 x174 (fun x175 x176 x177 x178 => K0 false) ) (fun x179 => f36_1 F (-1) false x170 x173 x179 (fun x180 x181 x182 x183 => cond (x183 == 0) (cond ((x167 == 0) == (a7 == 2)) (f37_1 F x180 x181 x182 (cond ((lbeq (.int .u64) x180 a4) && ((lbeq (.int .u64) x181 a5) && (x182 == a6))) (f33_1 F  (fun x184 => K0 x184) ) (cond (x167 != 0) (f37_1 F x180 x181 x182 (cond ((lbeq (.int .u64) x180 a1) && ((lbeq (.int .u64) x181 a2) && (x182 == a3))) (f33_1 F  (fun x185 => K0 x185) ) (K0 false)) ) (K0 false))) ) (K0 false)) (K0 false)) ) ) ) ) ) )) ) ) ))
variable [FZ]
def sh9_1 : Sh := ⟨[.agg [.seq (.int .u64) 2, .seq (.int .u64) 2, .int .u64], .agg [.seq (.int .u64) 2, .seq (.int .u64) 2, .int .u64], .agg [.int .i64, .sl .bool]], []⟩
noncomputable def S9_1 (F : Nat) (o : Summ) : Summ := mkS sh9_1 (fun d K => f9_1 F d.1.1.1 d.1.1.2.1 d.1.1.2.2.1 d.1.2.1.1 d.1.2.1.2.1 d.1.2.1.2.2.1 d.1.2.2.1.1 d.1.2.2.1.2.1 (fun (y0 : Bool) => K [.lf (.bool y0)] [])) o
noncomputable def code9 : Code := bodyOf Tryd.f9
theorem scopes9 : scopesOf code9 = [] := by kernel_rfl
theorem ranges9 : rangesOf code9 = [] := by kernel_rfl
theorem loops9 : loopsOf code9 = [] := by kernel_rfl
theorem enter9 : ∀ args w, (callFunc 9 args).run Tryd.prog w = .ok (.enter 9 args) w := enter_of (fn := Tryd.f9) (by kernel_rfl) (by kernel_rfl) (by kernel_rfl)
noncomputable def T9_1 (F : Nat) : FuncId → Option Summ := tab [(22, (S22_1 F noS)), (24, (S24_1 F (S24_6206 F noS))), (25, (S25_1 F (S25_7155 F noS))), (26, (S26_1 F (S26_568 F noS))), (33, (S33_1 F noS)), (34, (S34_1 F (S34_2761 F noS))), (35, (S35_1 F noS)), (36, (S36_1 F (S36_568 F noS))), (37, (S37_1 F noS))]
noncomputable def LT9_1 (F : Nat) : Nat → Option LoopS := ltab []
theorem E9_1g (F : Nat) (c22_1 : Int → (Option Res) → (List ByteArray → List (Int × ByteArray) → Option Res) → Option Res) (c24_1 : Int → Int → Bool → Int → List ByteArray → List (Int × ByteArray) → (Int → Option Res) → Option Res) (c24_6206 : Int → (Option Res) → Option Res) (c25_1 : Int → Bool → Int → List ByteArray → List (Int × ByteArray) → List Bool → (List ByteArray → List (Int × ByteArray) → Option Res) → Option Res) (c25_7155 : List Bool → (Option Res) → Option Res) (c26_1 : Int → Bool → Int → List ByteArray → List (Int × ByteArray) → (Option Res) → (List (Int × ByteArray) → Option Res) → Option Res) (c26_568 : (Option Res) → Option Res) (c33_1 : (Bool → Option Res) → Option Res) (c34_1 : List Int → List Int → Int → Int → Bool → Int → List ByteArray → List (Int × ByteArray) → (Int → Int → Bool → Int → Option Res) → (Int → Bool → Int → List ByteArray → List (Int × ByteArray) → Option Res) → (Int → Int → Bool → Int → List ByteArray → List (Int × ByteArray) → Option Res) → Option Res) (c34_2761 : List Int → List Int → Int → (Int → Option Res) → Option Res) (c35_1 : List Int → List Int → Int → (Option Res) → Option Res) (c36_1 : Int → Bool → Int → List ByteArray → List (Int × ByteArray) → (List Int → List Int → Int → Int → Option Res) → Option Res) (c36_568 : (List Int → List Int → Option Res) → Option Res) (c37_1 : List Int → List Int → Int → (Option Res) → Option Res)   (d : sh9_1.den) (K : KF) : evBody Tryd.prog (tab [(22, (mkS sh22_1 (fun d K => c22_1 d.1.1 (K [.lf (.nilp), .lf (.int .i64 2)] []) (fun (y4 : List ByteArray) (y5 : List (Int × ByteArray)) => K [.lf (.ptr 0 0), .lf (.int .i64 0)] [some ⟨false, [.full 1, .full 2, .int .i64 (-1), .bool false, .int .i64 0]⟩, some ⟨false, [.seq .str 0 y4]⟩, some ⟨false, [.seq (.pair (.int .i64) .str) 0 y5]⟩])) noS)), (24, (mkS sh24_1 (fun d K => c24_1 d.1.2.1 d.2.1.2.2.2.1 d.2.1.2.2.2.2.1 d.2.1.2.2.2.2.2.1 d.2.2.1.2.1 d.2.2.2.1.2.1 (fun (y0 : Int) => K [] [some ⟨false, [.full 1, .full 2, .int .i64 y0, .bool d.2.1.2.2.2.2.1, .int .i64 d.2.1.2.2.2.2.2.1]⟩, some ⟨d.2.2.1.1, [.seq .str 0 d.2.2.1.2.1]⟩, some ⟨d.2.2.2.1.1, [.seq (.pair (.int .i64) .str) 0 d.2.2.2.1.2.1]⟩])) (mkS sh24_6206 (fun d K => c24_6206 d.1.2.1 (K [] [])) noS))), (25, (mkS sh25_1 (fun d K => c25_1 d.2.1.2.2.2.1 d.2.1.2.2.2.2.1 d.2.1.2.2.2.2.2.1 d.2.2.1.2.1 d.2.2.2.1.2.1 d.2.2.2.2.1.2.1 (fun (y3 : List ByteArray) (y6 : List (Int × ByteArray)) => K [] [some ⟨false, [.full 1, .full 4, .int .i64 (-1), .bool true, .int .i64 d.2.1.2.2.2.2.2.1]⟩, some ⟨false, [.seq .str 0 y3]⟩, some ⟨d.2.2.2.1.1, [.seq (.pair (.int .i64) .str) 0 d.2.2.2.1.2.1]⟩, some ⟨d.2.2.2.2.1.1, [.seq .bool 0 d.2.2.2.2.1.2.1]⟩, some ⟨false, [.seq (.pair (.int .i64) .str) 0 y6]⟩])) (mkS sh25_7155 (fun d K => c25_7155 d.2.1.2.1 (K [] [some ⟨d.2.1.1, [.seq .bool 0 d.2.1.2.1]⟩])) noS))), (26, (mkS sh26_1 (fun d K => c26_1 d.2.1.2.2.2.1 d.2.1.2.2.2.2.1 d.2.1.2.2.2.2.2.1 d.2.2.1.2.1 d.2.2.2.1.2.1 (K [.lf (.int .i64 21)] [some ⟨false, [.full 1, .full 2, .int .i64 d.2.1.2.2.2.1, .bool d.2.1.2.2.2.2.1, .int .i64 d.2.1.2.2.2.2.2.1]⟩, some ⟨d.2.2.1.1, [.seq .str 0 d.2.2.1.2.1]⟩, some ⟨d.2.2.2.1.1, [.seq (.pair (.int .i64) .str) 0 d.2.2.2.1.2.1]⟩]) (fun (y6 : List (Int × ByteArray)) => K [.lf (.int .i64 0)] [some ⟨false, [.full 1, .full 3, .int .i64 (-1), .bool false, .int .i64 d.2.1.2.2.2.2.2.1]⟩, some ⟨d.2.2.1.1, [.seq .str 0 d.2.2.1.2.1]⟩, some ⟨d.2.2.2.1.1, [.seq (.pair (.int .i64) .str) 0 d.2.2.2.1.2.1]⟩, some ⟨false, [.seq (.pair (.int .i64) .str) 0 y6]⟩])) (mkS sh26_568 (fun d K => c26_568 (K [.lf (.int .i64 1)] [])) noS))), (33, (mkS sh33_1 (fun d K => c33_1 (fun (y0 : Bool) => K [.lf (.bool y0)] [])) noS)), (34, (mkS sh34_1 (fun d K => c34_1 d.1.2.1.1 d.1.2.1.2.1 d.1.2.1.2.2.1 d.2.1.2.2.2.1 d.2.1.2.2.2.2.1 d.2.1.2.2.2.2.2.1 d.2.2.1.2.1 d.2.2.2.1.2.1 (fun (y0 : Int) (y1 : Int) (y2 : Bool) (y3 : Int) => K [.lf (.int .i64 y0)] [some ⟨false, [.full 1, .full 2, .int .i64 y1, .bool y2, .int .i64 y3]⟩, some ⟨false, [.seq .str 0 d.2.2.1.2.1]⟩, some ⟨false, [.seq (.pair (.int .i64) .str) 0 d.2.2.2.1.2.1]⟩]) (fun (y1 : Int) (y2 : Bool) (y3 : Int) (y4 : List ByteArray) (y6 : List (Int × ByteArray)) => K [.lf (.int .i64 0)] [some ⟨false, [.full 1, .full 3, .int .i64 y1, .bool y2, .int .i64 y3]⟩, some ⟨false, [.seq .str 0 y4]⟩, some ⟨false, [.seq (.pair (.int .i64) .str) 0 d.2.2.2.1.2.1]⟩, some ⟨false, [.seq (.pair (.int .i64) .str) 0 y6]⟩]) (fun (y0 : Int) (y1 : Int) (y2 : Bool) (y3 : Int) (y4 : List ByteArray) (y5 : List (Int × ByteArray)) => K [.lf (.int .i64 y0)] [some ⟨false, [.full 1, .full 3, .int .i64 y1, .bool y2, .int .i64 y3]⟩, some ⟨false, [.seq .str 0 y4]⟩, none, some ⟨false, [.seq (.pair (.int .i64) .str) 0 y5]⟩])) (mkS sh34_2761 (fun d K => c34_2761 d.1.2.1.1 d.1.2.1.2.1 d.1.2.1.2.2.1 (fun (y0 : Int) => K [.lf (.int .i64 y0)] [])) noS))), (35, (mkS sh35_1 (fun d K => c35_1 d.1.1.1 d.1.1.2.1 d.1.1.2.2.1 (K [.agg [.seq (.int .u64) 2 d.1.1.1, .seq (.int .u64) 2 d.1.1.2.1, .int .u64 d.1.1.2.2.1]] [])) noS)), (36, (mkS sh36_1 (fun d K => c36_1 d.2.1.2.2.2.1 d.2.1.2.2.2.2.1 d.2.1.2.2.2.2.2.1 d.2.2.1.2.1 d.2.2.2.1.2.1 (fun (y0 : List Int) (y1 : List Int) (y2 : Int) (y3 : Int) => K [.agg [.seq (.int .u64) 2 y0, .seq (.int .u64) 2 y1, .int .u64 y2], .lf (.int .i64 y3)] [some ⟨d.2.1.1, [.full 1, .full 2, .int .i64 d.2.1.2.2.2.1, .bool d.2.1.2.2.2.2.1, .int .i64 d.2.1.2.2.2.2.2.1]⟩, some ⟨d.2.2.1.1, [.seq .str 0 d.2.2.1.2.1]⟩, some ⟨d.2.2.2.1.1, [.seq (.pair (.int .i64) .str) 0 d.2.2.2.1.2.1]⟩])) (mkS sh36_568 (fun d K => c36_568 (fun (y0 : List Int) (y1 : List Int) => K [.agg [.seq (.int .u64) 2 y0, .seq (.int .u64) 2 y1, .int .u64 0], .lf (.int .i64 1)] [])) noS))), (37, (mkS sh37_1 (fun d K => c37_1 d.1.1.1 d.1.1.2.1 d.1.1.2.2.1 (K [.agg [.seq (.int .u64) 2 d.1.1.1, .seq (.int .u64) 2 d.1.1.2.1, .int .u64 d.1.1.2.2.1]] [])) noS))]) (xw []) 83 0 (ltab []) code9 Tryd.f9.results.toList (encT sh9_1.vs d.1) (encH sh9_1.h d.2) K = (fun (a1 : List Int) (a2 : List Int) (a3 : Int) (a4 : List Int) (a5 : List Int) (a6 : Int) (a7 : Int) (a8 : Sl .bool) (K0 : (Bool → Option Res)) => cond (decide (a7 < 0)) (c33_1  (fun x1 => K0 x1) ) (cond (decide (a7 > 2)) (c33_1  (fun x2 => K0 x2) ) (c22_1 6 (c35_1 a1 a2 a3 (c34_2761 a1 a2 a3 (fun x3 => cond (x3 != 0) (K0 false) (c24_6206 a7 (c35_1 a4 a5 a6 (c34_2761 a4 a5 a6 (fun x4 => c25_7155 a8.dat (c26_568  (c36_568  (fun x5 x6 => K0 false) ) ) ) ) ) )) ) ) (fun x7 x8 => c35_1 a1 a2 a3 (c34_1 a1 a2 a3 (-1) false 0 x7 x8 (fun x9 x10 x11 x12 => cond (x9 != 0) (K0 false) (c24_1 a7 x10 x11 x12 x7 x8 (fun x13 => c35_1 a4 a5 a6 (c34_1 a4 a5 a6 x13 x11 x12 x7 x8 (fun x14 x15 x16 x17 => c25_1 x15 x16 x17 x7 x8 a8.dat (fun x18 x19 => c26_1 (-1) true x17 x18 x19 (c36_1 (-1) true x17 x18 x19 (fun x20 x21 x22 x23 => K0 false) ) (fun x24 => c36_1 (-1) false x17 x18 x24 (fun x25 x26 x27 x28 => cond (x28 == 0) (cond ((x14 == 0) == (a7 == 2)) (c37_1 x25 x26 x27 (cond ((lbeq (.int .u64) x25 a4) && ((lbeq (.int .u64) x26 a5) && (x27 == a6))) (c33_1  (fun x29 => K0 x29) ) (cond (x14 != 0) (c37_1 x25 x26 x27 (cond ((lbeq (.int .u64) x25 a1) && ((lbeq (.int .u64) x26 a2) && (x27 == a3))) (c33_1  (fun x30 => K0 x30) ) (K0 false)) ) (K0 false))) ) (K0 false)) (K0 false)) ) ) ) (fun x31 x32 x33 x34 x35 => c25_1 x31 x32 x33 x34 x35 a8.dat (fun x36 x37 => c26_1 (-1) true x33 x36 x37 (c36_1 (-1) true x33 x36 x37 (fun x38 x39 x40 x41 => K0 false) ) (fun x42 => c36_1 (-1) false x33 x36 x42 (fun x43 x44 x45 x46 => cond (x46 == 0) (cond ((true : Bool) == (a7 == 2)) (c37_1 x43 x44 x45 (cond ((lbeq (.int .u64) x43 a4) && ((lbeq (.int .u64) x44 a5) && (x45 == a6))) (c33_1  (fun x47 => K0 x47) ) (K0 false)) ) (K0 false)) (K0 false)) ) ) ) (fun x48 x49 x50 x51 x52 x53 => c25_1 x49 x50 x51 x52 x53 a8.dat (fun x54 x55 => c26_1 (-1) true x51 x54 x55 (c36_1 (-1) true x51 x54 x55 (fun x56 x57 x58 x59 => K0 false) ) (fun x60 => c36_1 (-1) false x51 x54 x60 (fun x61 x62 x63 x64 => cond (x64 == 0) (cond ((x48 == 0) == (a7 == 2)) (c37_1 x61 x62 x63 (cond ((lbeq (.int .u64) x61 a4) && ((lbeq (.int .u64) x62 a5) && (x63 == a6))) (c33_1  (fun x65 => K0 x65) ) (cond (x48 != 0) (c37_1 x61 x62 x63 (cond ((lbeq (.int .u64) x61 a1) && ((lbeq (.int .u64) x62 a2) && (x63 == a3))) (c33_1  (fun x66 => K0 x66) ) (K0 false)) ) (K0 false))) ) (K0 false)) (K0 false)) ) ) ) ) ) )) (fun x67 x68 x69 x70 x71 => c24_1 a7 x67 x68 x69 x70 x71 (fun x72 => c35_1 a4 a5 a6 (c34_1 a4 a5 a6 x72 x68 x69 x70 x71 (fun x73 x74 x75 x76 => c25_1 x74 x75 x76 x70 x71 a8.dat (fun x77 x78 => c26_1 (-1) true x76 x77 x78 (c36_1 (-1) true x76 x77 x78 (fun x79 x80 x81 x82 => K0 false) ) (fun x83 => c36_1 (-1) false x76 x77 x83 (fun x84 x85 x86 x87 => cond (x87 == 0) (cond ((x73 == 0) == (a7 == 2)) (c37_1 x84 x85 x86 (cond ((lbeq (.int .u64) x84 a4) && ((lbeq (.int .u64) x85 a5) && (x86 == a6))) (c33_1  (fun x88 => K0 x88) ) (cond (x73 != 0) (c37_1 x84 x85 x86 (cond ((lbeq (.int .u64) x84 a1) && ((lbeq (.int .u64) x85 a2) && (x86 == a3))) (c33_1  (fun x89 => K0 x89) ) (K0 false)) ) (K0 false))) ) (K0 false)) (K0 false)) ) ) ) (fun x90 x91 x92 x93 x94 => c25_1 x90 x91 x92 x93 x94 a8.dat (fun x95 x96 => c26_1 (-1) true x92 x95 x96 (c36_1 (-1) true x92 x95 x96 (fun x97 x98 x99 x100 => K0 false) ) (fun x101 => c36_1 (-1) false x92 x95 x101 (fun x102 x103 x104 x105 => cond (x105 == 0) (cond ((true : Bool) == (a7 == 2)) (c37_1 x102 x103 x104 (cond ((lbeq (.int .u64) x102 a4) && ((lbeq (.int .u64) x103 a5) && (x104 == a6))) (c33_1  (fun x106 => K0 x106) ) (K0 false)) ) (K0 false)) (K0 false)) ) ) ) (fun x107 x108 x109 x110 x111 x112 => c25_1 x108 x109 x110 x111 x112 a8.dat (fun x113 x114 => c26_1 (-1) true x110 x113 x114 (c36_1 (-1) true x110 x113 x114 (fun x115 x116 x117 x118 => K0 false) ) (fun x119 => c36_1 (-1) false x110 x113 x119 (fun x120 x121 x122 x123 => cond (x123 == 0) (cond ((x107 == 0) == (a7 == 2)) (c37_1 x120 x121 x122 (cond ((lbeq (.int .u64) x120 a4) && ((lbeq (.int .u64) x121 a5) && (x122 == a6))) (c33_1  (fun x124 => K0 x124) ) (cond (x107 != 0) (c37_1 x120 x121 x122 (cond ((lbeq (.int .u64) x120 a1) && ((lbeq (.int .u64) x121 a2) && (x122 == a3))) (c33_1  (fun x125 => K0 x125) ) (K0 false)) ) (K0 false))) ) (K0 false)) (K0 false)) ) ) ) ) ) ) (fun x126 x127 x128 x129 x130 x131 => cond (x126 != 0) (K0 false) (c24_1 a7 x127 x128 x129 x130 x131 (fun x132 => c35_1 a4 a5 a6 (c34_1 a4 a5 a6 x132 x128 x129 x130 x131 (fun x133 x134 x135 x136 => c25_1 x134 x135 x136 x130 x131 a8.dat (fun x137 x138 => c26_1 (-1) true x136 x137 x138 (c36_1 (-1) true x136 x137 x138 (fun x139 x140 x141 x142 => K0 false) ) (fun x143 => c36_1 (-1) false x136 x137 x143 (fun x144 x145 x146 x147 => cond (x147 == 0) (cond ((x133 == 0) == (a7 == 2)) (c37_1 x144 x145 x146 (cond ((lbeq (.int .u64) x144 a4) && ((lbeq (.int .u64) x145 a5) && (x146 == a6))) (c33_1  (fun x148 => K0 x148) ) (cond (x133 != 0) (c37_1 x144 x145 x146 (cond ((lbeq (.int .u64) x144 a1) && ((lbeq (.int .u64) x145 a2) && (x146 == a3))) (c33_1  (fun x149 => K0 x149) ) (K0 false)) ) (K0 false))) ) (K0 false)) (K0 false)) ) ) ) (fun x150 x151 x152 x153 x154 => c25_1 x150 x151 x152 x153 x154 a8.dat (fun x155 x156 => c26_1 (-1) true x152 x155 x156 (c36_1 (-1) true x152 x155 x156 (fun x157 x158 x159 x160 => K0 false) ) (fun x161 => c36_1 (-1) false x152 x155 x161 (fun x162 x163 x164 x165 => cond (x165 == 0) (cond ((true : Bool) == (a7 == 2)) (c37_1 x162 x163 x164 (cond ((lbeq (.int .u64) x162 a4) && ((lbeq (.int .u64) x163 a5) && (x164 == a6))) (c33_1  (fun x166 => K0 x166) ) (K0 false)) ) (K0 false)) (K0 false)) ) ) ) (fun x167 x168 x169 x170 x171 x172 => c25_1 x168 x169 x170 x171 x172 a8.dat (fun x173 x174 => c26_1 (-1) true x170 x173 x174 (c36_1 (-1) true x170 x173 x174 (fun x175 x176 x177 x178 => K0 false) ) (fun x179 => c36_1 (-1) false x170 x173 x179 (fun x180 x181 x182 x183 => cond (x183 == 0) (cond ((x167 == 0) == (a7 == 2)) (c37_1 x180 x181 x182 (cond ((lbeq (.int .u64) x180 a4) && ((lbeq (.int .u64) x181 a5) && (x182 == a6))) (c33_1  (fun x184 => K0 x184) ) (cond (x167 != 0) (c37_1 x180 x181 x182 (cond ((lbeq (.int .u64) x180 a1) && ((lbeq (.int .u64) x181 a2) && (x182 == a3))) (c33_1  (fun x185 => K0 x185) ) (K0 false)) ) (K0 false))) ) (K0 false)) (K0 false)) ) ) ) ) ) )) ) ) ))) d.1.1.1 d.1.1.2.1 d.1.1.2.2.1 d.1.2.1.1 d.1.2.1.2.1 d.1.2.1.2.2.1 d.1.2.2.1.1 d.1.2.2.1.2.1 (fun (y0 : Bool) => K [.lf (.bool y0)] []) := by kernel_rfl
theorem E9_1 (F : Nat) (d : sh9_1.den) (K : KF) : evBody Tryd.prog (T9_1 F) (xw []) 83 0 (LT9_1 F) code9 Tryd.f9.results.toList (encT sh9_1.vs d.1) (encH sh9_1.h d.2) K = f9_1 F d.1.1.1 d.1.1.2.1 d.1.1.2.2.1 d.1.2.1.1 d.1.2.1.2.1 d.1.2.1.2.2.1 d.1.2.2.1.1 d.1.2.2.1.2.1 (fun (y0 : Bool) => K [.lf (.bool y0)] []) := Eq.mp (by kernel_rfl) (E9_1g F (f22_1 F) (f24_1 F) (f24_6206 F) (f25_1 F) (f25_7155 F) (f26_1 F) (f26_568 F) (f33_1 F) (f34_1 F) (f34_2761 F) (f35_1 F) (f36_1 F) (f36_568 F) (f37_1 F)   d K)
theorem S9_1_ok (F : Nat) (o : Summ) (ho : SoundFn Tryd.prog 9 o) : SoundFn Tryd.prog 9 (S9_1 F o) :=
  soundFn_of (fn := Tryd.f9) (c := code9) rfl rfl (by kernel_rfl) (tab_cons (S22_1_ok F _ (noS_sound enter22)) (tab_cons (S24_1_ok F _ (S24_6206_ok F _ (noS_sound enter24))) (tab_cons (S25_1_ok F _ (S25_7155_ok F _ (noS_sound enter25))) (tab_cons (S26_1_ok F _ (S26_568_ok F _ (noS_sound enter26))) (tab_cons (S33_1_ok F _ (noS_sound enter33)) (tab_cons (S34_1_ok F _ (S34_2761_ok F _ (noS_sound enter34))) (tab_cons (S35_1_ok F _ (noS_sound enter35)) (tab_cons (S36_1_ok F _ (S36_568_ok F _ (noS_sound enter36))) (tab_cons (S37_1_ok F _ (noS_sound enter37)) tab_nil))))))))) (by kernel_rfl) (by kernel_rfl) ho (by rw [loops9]; exact loopsOK_nil) (by rw [scopes9]; exact scopesOK_nil) (by rw [ranges9]; exact rangesOK_nil) (E9_1 F)
end Go.Proofs.YtillbabmlfjegaaDoor.X
end

section
namespace Go.Proofs.YtillbabmlfjegaaDoor.X
open Go Go.Proofs.YtillbabmlfjegaaDoor.Ev Go.Proofs
set_option linter.unusedVariables false
set_option linter.unusedSectionVars false
/-! pentimentoref06.Disk).Kept -/
noncomputable def f31_1 {β : Type} (F : Nat) (a1 : Int) (a2 : Int) (a3 : Bool) (a4 : Int) (a5 : List ByteArray) (a6 : List (Int × ByteArray)) (K0 : ByteArray → Int → Option β) : Option β := cond (decide (a1 < 0)) (K0 ByteArray.empty 3) (cond (decide (a1 ≥ ((a5.length : Nat) : Int))) (K0 ByteArray.empty 3) (cond (decide ((0 : Int) ≤ a1 ∧ a1 < ((a5.length : Nat) : Int))) (cond (decide (0 + a1.toNat < a5.length)) (K0 (a5.getD (0 + a1.toNat) ByteArray.empty) 0) none) none))
variable [FZ]
def sh31_1 : Sh := ⟨[.lf (.ptr 0 0), .lf (.int .i64)], [some ⟨none, [.full 1, .full 2, .int .i64, .bool, .int .i64]⟩, some ⟨none, [.seq .str 0]⟩, some ⟨none, [.seq (.pair (.int .i64) .str) 0]⟩]⟩
noncomputable def S31_1 (F : Nat) (o : Summ) : Summ := mkS sh31_1 (fun d K => f31_1 F d.1.2.1 d.2.1.2.2.2.1 d.2.1.2.2.2.2.1 d.2.1.2.2.2.2.2.1 d.2.2.1.2.1 d.2.2.2.1.2.1 (fun (y0 : ByteArray) (y1 : Int) => K [.lf (.str y0), .lf (.int .i64 y1)] [some ⟨d.2.1.1, [.full 1, .full 2, .int .i64 d.2.1.2.2.2.1, .bool d.2.1.2.2.2.2.1, .int .i64 d.2.1.2.2.2.2.2.1]⟩, some ⟨d.2.2.1.1, [.seq .str 0 d.2.2.1.2.1]⟩, some ⟨d.2.2.2.1.1, [.seq (.pair (.int .i64) .str) 0 d.2.2.2.1.2.1]⟩])) o
noncomputable def code31 : Code := bodyOf Tryd.f31
theorem scopes31 : scopesOf code31 = [] := by kernel_rfl
theorem ranges31 : rangesOf code31 = [] := by kernel_rfl
theorem loops31 : loopsOf code31 = [] := by kernel_rfl
theorem enter31 : ∀ args w, (callFunc 31 args).run Tryd.prog w = .ok (.enter 31 args) w := enter_of (fn := Tryd.f31) (by kernel_rfl) (by kernel_rfl) (by kernel_rfl)
noncomputable def T31_1 (F : Nat) : FuncId → Option Summ := tab []
noncomputable def LT31_1 (F : Nat) : Nat → Option LoopS := ltab []
theorem E31_1g (F : Nat)    (d : sh31_1.den) (K : KF) : evBody Tryd.prog (tab []) (xw []) 24 3 (ltab []) code31 Tryd.f31.results.toList (encT sh31_1.vs d.1) (encH sh31_1.h d.2) K = (fun (a1 : Int) (a2 : Int) (a3 : Bool) (a4 : Int) (a5 : List ByteArray) (a6 : List (Int × ByteArray)) (K0 : (ByteArray → Int → Option Res)) => cond (decide (a1 < 0)) (K0 ByteArray.empty 3) (cond (decide (a1 ≥ ((a5.length : Nat) : Int))) (K0 ByteArray.empty 3) (cond (decide ((0 : Int) ≤ a1 ∧ a1 < ((a5.length : Nat) : Int))) (cond (decide (0 + a1.toNat < a5.length)) (K0 (a5.getD (0 + a1.toNat) ByteArray.empty) 0) none) none))) d.1.2.1 d.2.1.2.2.2.1 d.2.1.2.2.2.2.1 d.2.1.2.2.2.2.2.1 d.2.2.1.2.1 d.2.2.2.1.2.1 (fun (y0 : ByteArray) (y1 : Int) => K [.lf (.str y0), .lf (.int .i64 y1)] [some ⟨d.2.1.1, [.full 1, .full 2, .int .i64 d.2.1.2.2.2.1, .bool d.2.1.2.2.2.2.1, .int .i64 d.2.1.2.2.2.2.2.1]⟩, some ⟨d.2.2.1.1, [.seq .str 0 d.2.2.1.2.1]⟩, some ⟨d.2.2.2.1.1, [.seq (.pair (.int .i64) .str) 0 d.2.2.2.1.2.1]⟩]) := by kernel_rfl
theorem E31_1 (F : Nat) (d : sh31_1.den) (K : KF) : evBody Tryd.prog (T31_1 F) (xw []) 24 3 (LT31_1 F) code31 Tryd.f31.results.toList (encT sh31_1.vs d.1) (encH sh31_1.h d.2) K = f31_1 F d.1.2.1 d.2.1.2.2.2.1 d.2.1.2.2.2.2.1 d.2.1.2.2.2.2.2.1 d.2.2.1.2.1 d.2.2.2.1.2.1 (fun (y0 : ByteArray) (y1 : Int) => K [.lf (.str y0), .lf (.int .i64 y1)] [some ⟨d.2.1.1, [.full 1, .full 2, .int .i64 d.2.1.2.2.2.1, .bool d.2.1.2.2.2.2.1, .int .i64 d.2.1.2.2.2.2.2.1]⟩, some ⟨d.2.2.1.1, [.seq .str 0 d.2.2.1.2.1]⟩, some ⟨d.2.2.2.1.1, [.seq (.pair (.int .i64) .str) 0 d.2.2.2.1.2.1]⟩]) := Eq.mp (by kernel_rfl) (E31_1g F    d K)
theorem S31_1_ok (F : Nat) (o : Summ) (ho : SoundFn Tryd.prog 31 o) : SoundFn Tryd.prog 31 (S31_1 F o) :=
  soundFn_of (fn := Tryd.f31) (c := code31) rfl rfl (by kernel_rfl) tab_nil (by kernel_rfl) (by kernel_rfl) ho (by rw [loops31]; exact loopsOK_nil) (by rw [scopes31]; exact scopesOK_nil) (by rw [ranges31]; exact rangesOK_nil) (E31_1 F)
end Go.Proofs.YtillbabmlfjegaaDoor.X
end

section
namespace Go.Proofs.YtillbabmlfjegaaDoor.X
open Go Go.Proofs.YtillbabmlfjegaaDoor.Ev Go.Proofs
set_option linter.unusedVariables false
set_option linter.unusedSectionVars false
/-! pentimentoref06.Disk).Read -/
noncomputable def f119_1_l5 {β : Type} (F : Nat) (v3 : Int) (v5 : Int) (v7 : Int) (v8 : Bool) (v9 : Int) (v10 : List ByteArray) (v11 : List (Int × ByteArray)) (K0 : ByteArray → Option β) : Nat → ByteArray → Int → Option β
  | 0, _, _ => none
  | k + 1, v4, v6 => cond (decide (v6 < ((v11.length : Nat) : Int))) (cond (v5 == 0) (cond (decide ((0 : Int) ≤ v6 ∧ v6 < ((v11.length : Nat) : Int))) (cond (decide (0 + v6.toNat < v11.length)) (cond (((v11.getD (0 + v6.toNat) (0, ByteArray.empty)).1) == v3) (cond (decide ((0 : Int) ≤ v6 ∧ v6 < ((v11.length : Nat) : Int))) (cond (decide (0 + v6.toNat < v11.length)) (f119_1_l5 F v3 v5 v7 v8 v9 v10 v11 K0 k ((v11.getD (0 + v6.toNat) (0, ByteArray.empty)).2) (IntKind.i64.wrap (v6 + 1))) none) none) (f119_1_l5 F v3 v5 v7 v8 v9 v10 v11 K0 k v4 (IntKind.i64.wrap (v6 + 1)))) none) none) (K0 v4)) (K0 v4)
noncomputable def f119_1 {β : Type} (F : Nat) (a1 : Int) (a2 : Int) (a3 : Bool) (a4 : Int) (a5 : List ByteArray) (a6 : List (Int × ByteArray)) (K0 : ByteArray → Int → Option β) : Option β := cond a3 (K0 ByteArray.empty 5) (f31_1 F a1 a2 a3 a4 a5 a6 (fun x1 x2 => f119_1_l5 F a1 x2 a2 a3 a4 a5 a6 (fun x12 => K0 x12 x2) F x1 0) )
variable [FZ]
def sh119_1 : Sh := ⟨[.lf (.ptr 0 0), .lf (.int .i64)], [some ⟨none, [.full 1, .full 2, .int .i64, .bool, .int .i64]⟩, some ⟨none, [.seq .str 0]⟩, some ⟨none, [.seq (.pair (.int .i64) .str) 0]⟩]⟩
noncomputable def S119_1 (F : Nat) (o : Summ) : Summ := mkS sh119_1 (fun d K => f119_1 F d.1.2.1 d.2.1.2.2.2.1 d.2.1.2.2.2.2.1 d.2.1.2.2.2.2.2.1 d.2.2.1.2.1 d.2.2.2.1.2.1 (fun (y0 : ByteArray) (y1 : Int) => K [.lf (.str y0), .lf (.int .i64 y1)] [some ⟨d.2.1.1, [.full 1, .full 2, .int .i64 d.2.1.2.2.2.1, .bool d.2.1.2.2.2.2.1, .int .i64 d.2.1.2.2.2.2.2.1]⟩, some ⟨d.2.2.1.1, [.seq .str 0 d.2.2.1.2.1]⟩, some ⟨d.2.2.2.1.1, [.seq (.pair (.int .i64) .str) 0 d.2.2.2.1.2.1]⟩])) o
noncomputable def code119 : Code := bodyOf Tryd.f119
noncomputable def b119_0 : Code := cB (cB (cR (cL (cR (cR (cR (code119)))))))
theorem scopes119 : scopesOf code119 = [] := by kernel_rfl
theorem ranges119 : rangesOf code119 = [] := by kernel_rfl
theorem loops119 : loopsOf code119 = [b119_0] := by kernel_rfl
theorem enter119 : ∀ args w, (callFunc 119 args).run Tryd.prog w = .ok (.enter 119 args) w := enter_of (fn := Tryd.f119) (by kernel_rfl) (by kernel_rfl) (by kernel_rfl)
noncomputable def T119_1 (F : Nat) : FuncId → Option Summ := tab [(31, (S31_1 F noS))]
def sh119_1_l5 : Sh := ⟨[.lf (.ptr 0 0), .lf (.int .i64), .lf (.str), .lf (.int .i64), .lf (.int .i64)], [some ⟨none, [.full 1, .full 2, .int .i64, .bool, .int .i64]⟩, some ⟨none, [.seq .str 0]⟩, some ⟨none, [.seq (.pair (.int .i64) .str) 0]⟩]⟩
noncomputable def G119_1_5 (F k : Nat) : LoopS := mkG sh119_1_l5 [0, 1, 6, 7, 8] (outT [(.exit 0, [6, 7])]) (fun d K => f119_1_l5 F d.1.2.1 d.1.2.2.2.1 d.2.1.2.2.2.1 d.2.1.2.2.2.2.1 d.2.1.2.2.2.2.2.1 d.2.2.1.2.1 d.2.2.2.1.2.1 (fun (y0 : ByteArray) => K (.exit 0) [.tv (.lf (.str y0)), .tv (.lf (.int .i64 d.1.2.2.2.1))] [some ⟨d.2.1.1, [.full 1, .full 2, .int .i64 d.2.1.2.2.2.1, .bool d.2.1.2.2.2.2.1, .int .i64 d.2.1.2.2.2.2.2.1]⟩, some ⟨d.2.2.1.1, [.seq .str 0 d.2.2.1.2.1]⟩, some ⟨d.2.2.2.1.1, [.seq (.pair (.int .i64) .str) 0 d.2.2.2.1.2.1]⟩]) k d.1.2.2.1 d.1.2.2.2.2.1) []
noncomputable def LT119_1 (F : Nat) : Nat → Option LoopS := ltab [(5, G119_1_5 F F)]
theorem L119_1_l5g (F k : Nat) (c31_1 : Int → Int → Bool → Int → List ByteArray → List (Int × ByteArray) → (ByteArray → Int → Option Res) → Option Res)  (l5 : Int → Int → Int → Bool → Int → List ByteArray → List (Int × ByteArray) → (ByteArray → Option Res) → Nat → ByteArray → Int → Option Res) (X5 : LoopS) (d : sh119_1_l5.den) (K : KL) : (fun (v3 : Int) (v5 : Int) (v7 : Int) (v8 : Bool) (v9 : Int) (v10 : List ByteArray) (v11 : List (Int × ByteArray)) (K0 : (ByteArray → Option Res)) (k : Nat) (v4 : ByteArray) (v6 : Int) => cond (decide (v6 < ((v11.length : Nat) : Int))) (cond (v5 == 0) (cond (decide ((0 : Int) ≤ v6 ∧ v6 < ((v11.length : Nat) : Int))) (cond (decide (0 + v6.toNat < v11.length)) (cond (((v11.getD (0 + v6.toNat) (0, ByteArray.empty)).1) == v3) (cond (decide ((0 : Int) ≤ v6 ∧ v6 < ((v11.length : Nat) : Int))) (cond (decide (0 + v6.toNat < v11.length)) (l5 v3 v5 v7 v8 v9 v10 v11 K0 k ((v11.getD (0 + v6.toNat) (0, ByteArray.empty)).2) (IntKind.i64.wrap (v6 + 1))) none) none) (l5 v3 v5 v7 v8 v9 v10 v11 K0 k v4 (IntKind.i64.wrap (v6 + 1)))) none) none) (K0 v4)) (K0 v4)) d.1.2.1 d.1.2.2.2.1 d.2.1.2.2.2.1 d.2.1.2.2.2.2.1 d.2.1.2.2.2.2.2.1 d.2.2.1.2.1 d.2.2.2.1.2.1 (fun (y0 : ByteArray) => K (.exit 0) [.tv (.lf (.str y0)), .tv (.lf (.int .i64 d.1.2.2.2.1))] [some ⟨d.2.1.1, [.full 1, .full 2, .int .i64 d.2.1.2.2.2.1, .bool d.2.1.2.2.2.2.1, .int .i64 d.2.1.2.2.2.2.2.1]⟩, some ⟨d.2.2.1.1, [.seq .str 0 d.2.2.1.2.1]⟩, some ⟨d.2.2.2.1.1, [.seq (.pair (.int .i64) .str) 0 d.2.2.2.1.2.1]⟩]) k d.1.2.2.1 d.1.2.2.2.2.1 = roundOf Tryd.prog (tab [(31, (mkS sh31_1 (fun d K => c31_1 d.1.2.1 d.2.1.2.2.2.1 d.2.1.2.2.2.2.1 d.2.1.2.2.2.2.2.1 d.2.2.1.2.1 d.2.2.2.1.2.1 (fun (y0 : ByteArray) (y1 : Int) => K [.lf (.str y0), .lf (.int .i64 y1)] [some ⟨d.2.1.1, [.full 1, .full 2, .int .i64 d.2.1.2.2.2.1, .bool d.2.1.2.2.2.2.1, .int .i64 d.2.1.2.2.2.2.2.1]⟩, some ⟨d.2.2.1.1, [.seq .str 0 d.2.2.1.2.1]⟩, some ⟨d.2.2.2.1.1, [.seq (.pair (.int .i64) .str) 0 d.2.2.2.1.2.1]⟩])) noS))]) (xw []) 52 3 (ltab [(5, X5)]) (mkG sh119_1_l5 [0, 1, 6, 7, 8] (outT [(.exit 0, [6, 7])]) (fun d K => l5 d.1.2.1 d.1.2.2.2.1 d.2.1.2.2.2.1 d.2.1.2.2.2.2.1 d.2.1.2.2.2.2.2.1 d.2.2.1.2.1 d.2.2.2.1.2.1 (fun (y0 : ByteArray) => K (.exit 0) [.tv (.lf (.str y0)), .tv (.lf (.int .i64 d.1.2.2.2.1))] [some ⟨d.2.1.1, [.full 1, .full 2, .int .i64 d.2.1.2.2.2.1, .bool d.2.1.2.2.2.2.1, .int .i64 d.2.1.2.2.2.2.2.1]⟩, some ⟨d.2.2.1.1, [.seq .str 0 d.2.2.1.2.1]⟩, some ⟨d.2.2.2.1.1, [.seq (.pair (.int .i64) .str) 0 d.2.2.2.1.2.1]⟩]) k d.1.2.2.1 d.1.2.2.2.2.1) []) b119_0 (encT sh119_1_l5.vs d.1) (encH sh119_1_l5.h d.2) K := by kernel_rfl
theorem L119_1_5 (F : Nat) : LoopOK Tryd.prog (T119_1 F) (xw []) 52 3 (LT119_1 F) (G119_1_5 F F) b119_0 :=
  loopOK_of (s := sh119_1_l5) (live := [0, 1, 6, 7, 8]) (out := (outT [(.exit 0, [6, 7])])) (mv := []) (fun k d K => f119_1_l5 F d.1.2.1 d.1.2.2.2.1 d.2.1.2.2.2.1 d.2.1.2.2.2.2.1 d.2.1.2.2.2.2.2.1 d.2.2.1.2.1 d.2.2.2.1.2.1 (fun (y0 : ByteArray) => K (.exit 0) [.tv (.lf (.str y0)), .tv (.lf (.int .i64 d.1.2.2.2.1))] [some ⟨d.2.1.1, [.full 1, .full 2, .int .i64 d.2.1.2.2.2.1, .bool d.2.1.2.2.2.2.1, .int .i64 d.2.1.2.2.2.2.2.1]⟩, some ⟨d.2.2.1.1, [.seq .str 0 d.2.2.1.2.1]⟩, some ⟨d.2.2.2.1.1, [.seq (.pair (.int .i64) .str) 0 d.2.2.2.1.2.1]⟩]) k d.1.2.2.1 d.1.2.2.2.2.1) F (fun d K => by kernel_rfl)  (fun k d K => Eq.mp (by kernel_rfl) (L119_1_l5g F k (f31_1 F)  (f119_1_l5 F) (G119_1_5 F F) d K))
theorem E119_1g (F : Nat) (c31_1 : Int → Int → Bool → Int → List ByteArray → List (Int × ByteArray) → (ByteArray → Int → Option Res) → Option Res) (l5 : Int → Int → Int → Bool → Int → List ByteArray → List (Int × ByteArray) → (ByteArray → Option Res) → Nat → ByteArray → Int → Option Res)  (d : sh119_1.den) (K : KF) : evBody Tryd.prog (tab [(31, (mkS sh31_1 (fun d K => c31_1 d.1.2.1 d.2.1.2.2.2.1 d.2.1.2.2.2.2.1 d.2.1.2.2.2.2.2.1 d.2.2.1.2.1 d.2.2.2.1.2.1 (fun (y0 : ByteArray) (y1 : Int) => K [.lf (.str y0), .lf (.int .i64 y1)] [some ⟨d.2.1.1, [.full 1, .full 2, .int .i64 d.2.1.2.2.2.1, .bool d.2.1.2.2.2.2.1, .int .i64 d.2.1.2.2.2.2.2.1]⟩, some ⟨d.2.2.1.1, [.seq .str 0 d.2.2.1.2.1]⟩, some ⟨d.2.2.2.1.1, [.seq (.pair (.int .i64) .str) 0 d.2.2.2.1.2.1]⟩])) noS))]) (xw []) 52 3 (ltab [(5, mkG sh119_1_l5 [0, 1, 6, 7, 8] (outT [(.exit 0, [6, 7])]) (fun d K => l5 d.1.2.1 d.1.2.2.2.1 d.2.1.2.2.2.1 d.2.1.2.2.2.2.1 d.2.1.2.2.2.2.2.1 d.2.2.1.2.1 d.2.2.2.1.2.1 (fun (y0 : ByteArray) => K (.exit 0) [.tv (.lf (.str y0)), .tv (.lf (.int .i64 d.1.2.2.2.1))] [some ⟨d.2.1.1, [.full 1, .full 2, .int .i64 d.2.1.2.2.2.1, .bool d.2.1.2.2.2.2.1, .int .i64 d.2.1.2.2.2.2.2.1]⟩, some ⟨d.2.2.1.1, [.seq .str 0 d.2.2.1.2.1]⟩, some ⟨d.2.2.2.1.1, [.seq (.pair (.int .i64) .str) 0 d.2.2.2.1.2.1]⟩]) F d.1.2.2.1 d.1.2.2.2.2.1) [])]) code119 Tryd.f119.results.toList (encT sh119_1.vs d.1) (encH sh119_1.h d.2) K = (fun (a1 : Int) (a2 : Int) (a3 : Bool) (a4 : Int) (a5 : List ByteArray) (a6 : List (Int × ByteArray)) (K0 : (ByteArray → Int → Option Res)) => cond a3 (K0 ByteArray.empty 5) (c31_1 a1 a2 a3 a4 a5 a6 (fun x1 x2 => l5 a1 x2 a2 a3 a4 a5 a6 (fun x12 => K0 x12 x2) F x1 0) )) d.1.2.1 d.2.1.2.2.2.1 d.2.1.2.2.2.2.1 d.2.1.2.2.2.2.2.1 d.2.2.1.2.1 d.2.2.2.1.2.1 (fun (y0 : ByteArray) (y1 : Int) => K [.lf (.str y0), .lf (.int .i64 y1)] [some ⟨d.2.1.1, [.full 1, .full 2, .int .i64 d.2.1.2.2.2.1, .bool d.2.1.2.2.2.2.1, .int .i64 d.2.1.2.2.2.2.2.1]⟩, some ⟨d.2.2.1.1, [.seq .str 0 d.2.2.1.2.1]⟩, some ⟨d.2.2.2.1.1, [.seq (.pair (.int .i64) .str) 0 d.2.2.2.1.2.1]⟩]) := by kernel_rfl
theorem E119_1 (F : Nat) (d : sh119_1.den) (K : KF) : evBody Tryd.prog (T119_1 F) (xw []) 52 3 (LT119_1 F) code119 Tryd.f119.results.toList (encT sh119_1.vs d.1) (encH sh119_1.h d.2) K = f119_1 F d.1.2.1 d.2.1.2.2.2.1 d.2.1.2.2.2.2.1 d.2.1.2.2.2.2.2.1 d.2.2.1.2.1 d.2.2.2.1.2.1 (fun (y0 : ByteArray) (y1 : Int) => K [.lf (.str y0), .lf (.int .i64 y1)] [some ⟨d.2.1.1, [.full 1, .full 2, .int .i64 d.2.1.2.2.2.1, .bool d.2.1.2.2.2.2.1, .int .i64 d.2.1.2.2.2.2.2.1]⟩, some ⟨d.2.2.1.1, [.seq .str 0 d.2.2.1.2.1]⟩, some ⟨d.2.2.2.1.1, [.seq (.pair (.int .i64) .str) 0 d.2.2.2.1.2.1]⟩]) := Eq.mp (by kernel_rfl) (E119_1g F (f31_1 F) (f119_1_l5 F)  d K)
theorem S119_1_ok (F : Nat) (o : Summ) (ho : SoundFn Tryd.prog 119 o) : SoundFn Tryd.prog 119 (S119_1 F o) :=
  soundFn_of (fn := Tryd.f119) (c := code119) rfl rfl (by kernel_rfl) (tab_cons (S31_1_ok F _ (noS_sound enter31)) tab_nil) (by kernel_rfl) (by kernel_rfl) ho (by rw [loops119]; exact (loopsOK_cons (by kernel_rfl) (L119_1_5 F) loopsOK_nil)) (by rw [scopes119]; exact scopesOK_nil) (by rw [ranges119]; exact rangesOK_nil) (E119_1 F)
end Go.Proofs.YtillbabmlfjegaaDoor.X
end

section
namespace Go.Proofs.YtillbabmlfjegaaDoor.X
open Go Go.Proofs.YtillbabmlfjegaaDoor.Ev Go.Proofs
set_option linter.unusedVariables false
set_option linter.unusedSectionVars false
/-! pentimentoref06.Disk).burn -/
noncomputable def f100_1 {β : Type} (F : Nat) (a1 : Int) (a2 : Bool) (a3 : Int) (a4 : List ByteArray) (a5 : List (Int × ByteArray)) (K0 : Bool → Int → Bool → Int → Option β) : Option β := cond (a1 == 0) (K0 false (-1) true a3) (cond (decide (a1 > 0)) (K0 true (IntKind.i64.wrap (a1 - 1)) a2 (IntKind.i64.wrap (a3 + 1))) (K0 true a1 a2 (IntKind.i64.wrap (a3 + 1))))
variable [FZ]
def sh100_1 : Sh := ⟨[.lf (.ptr 0 0)], [some ⟨some false, [.full 1, .full 2, .int .i64, .bool, .int .i64]⟩, some ⟨none, [.seq .str 0]⟩, some ⟨none, [.seq (.pair (.int .i64) .str) 0]⟩]⟩
noncomputable def S100_1 (F : Nat) (o : Summ) : Summ := mkS sh100_1 (fun d K => f100_1 F d.2.1.2.2.2.1 d.2.1.2.2.2.2.1 d.2.1.2.2.2.2.2.1 d.2.2.1.2.1 d.2.2.2.1.2.1 (fun (y0 : Bool) (y1 : Int) (y2 : Bool) (y3 : Int) => K [.lf (.bool y0)] [some ⟨false, [.full 1, .full 2, .int .i64 y1, .bool y2, .int .i64 y3]⟩, some ⟨d.2.2.1.1, [.seq .str 0 d.2.2.1.2.1]⟩, some ⟨d.2.2.2.1.1, [.seq (.pair (.int .i64) .str) 0 d.2.2.2.1.2.1]⟩])) o
noncomputable def code100 : Code := bodyOf Tryd.f100
theorem scopes100 : scopesOf code100 = [] := by kernel_rfl
theorem ranges100 : rangesOf code100 = [] := by kernel_rfl
theorem loops100 : loopsOf code100 = [] := by kernel_rfl
theorem enter100 : ∀ args w, (callFunc 100 args).run Tryd.prog w = .ok (.enter 100 args) w := enter_of (fn := Tryd.f100) (by kernel_rfl) (by kernel_rfl) (by kernel_rfl)
noncomputable def T100_1 (F : Nat) : FuncId → Option Summ := tab []
noncomputable def LT100_1 (F : Nat) : Nat → Option LoopS := ltab []
theorem E100_1g (F : Nat)    (d : sh100_1.den) (K : KF) : evBody Tryd.prog (tab []) (xw []) 35 3 (ltab []) code100 Tryd.f100.results.toList (encT sh100_1.vs d.1) (encH sh100_1.h d.2) K = (fun (a1 : Int) (a2 : Bool) (a3 : Int) (a4 : List ByteArray) (a5 : List (Int × ByteArray)) (K0 : (Bool → Int → Bool → Int → Option Res)) => cond (a1 == 0) (K0 false (-1) true a3) (cond (decide (a1 > 0)) (K0 true (IntKind.i64.wrap (a1 - 1)) a2 (IntKind.i64.wrap (a3 + 1))) (K0 true a1 a2 (IntKind.i64.wrap (a3 + 1))))) d.2.1.2.2.2.1 d.2.1.2.2.2.2.1 d.2.1.2.2.2.2.2.1 d.2.2.1.2.1 d.2.2.2.1.2.1 (fun (y0 : Bool) (y1 : Int) (y2 : Bool) (y3 : Int) => K [.lf (.bool y0)] [some ⟨false, [.full 1, .full 2, .int .i64 y1, .bool y2, .int .i64 y3]⟩, some ⟨d.2.2.1.1, [.seq .str 0 d.2.2.1.2.1]⟩, some ⟨d.2.2.2.1.1, [.seq (.pair (.int .i64) .str) 0 d.2.2.2.1.2.1]⟩]) := by kernel_rfl
theorem E100_1 (F : Nat) (d : sh100_1.den) (K : KF) : evBody Tryd.prog (T100_1 F) (xw []) 35 3 (LT100_1 F) code100 Tryd.f100.results.toList (encT sh100_1.vs d.1) (encH sh100_1.h d.2) K = f100_1 F d.2.1.2.2.2.1 d.2.1.2.2.2.2.1 d.2.1.2.2.2.2.2.1 d.2.2.1.2.1 d.2.2.2.1.2.1 (fun (y0 : Bool) (y1 : Int) (y2 : Bool) (y3 : Int) => K [.lf (.bool y0)] [some ⟨false, [.full 1, .full 2, .int .i64 y1, .bool y2, .int .i64 y3]⟩, some ⟨d.2.2.1.1, [.seq .str 0 d.2.2.1.2.1]⟩, some ⟨d.2.2.2.1.1, [.seq (.pair (.int .i64) .str) 0 d.2.2.2.1.2.1]⟩]) := Eq.mp (by kernel_rfl) (E100_1g F    d K)
theorem S100_1_ok (F : Nat) (o : Summ) (ho : SoundFn Tryd.prog 100 o) : SoundFn Tryd.prog 100 (S100_1 F o) :=
  soundFn_of (fn := Tryd.f100) (c := code100) rfl rfl (by kernel_rfl) tab_nil (by kernel_rfl) (by kernel_rfl) ho (by rw [loops100]; exact loopsOK_nil) (by rw [scopes100]; exact scopesOK_nil) (by rw [ranges100]; exact rangesOK_nil) (E100_1 F)
end Go.Proofs.YtillbabmlfjegaaDoor.X
end

section
namespace Go.Proofs.YtillbabmlfjegaaDoor.X
open Go Go.Proofs.YtillbabmlfjegaaDoor.Ev Go.Proofs
set_option linter.unusedVariables false
set_option linter.unusedSectionVars false
/-! pentimentoref05.Right -/
noncomputable def f45_1 {β : Type} (F : Nat) (a1 : ByteArray) (K0 : Bool → Option β) : Option β := K0 ((a1.size : Int) == 64)
variable [FZ]
def sh45_1 : Sh := ⟨[.lf (.str)], []⟩
noncomputable def S45_1 (F : Nat) (o : Summ) : Summ := mkS sh45_1 (fun d K => f45_1 F d.1.1 (fun (y0 : Bool) => K [.lf (.bool y0)] [])) o
noncomputable def code45 : Code := bodyOf Tryd.f45
theorem scopes45 : scopesOf code45 = [] := by kernel_rfl
theorem ranges45 : rangesOf code45 = [] := by kernel_rfl
theorem loops45 : loopsOf code45 = [] := by kernel_rfl
theorem enter45 : ∀ args w, (callFunc 45 args).run Tryd.prog w = .ok (.enter 45 args) w := enter_of (fn := Tryd.f45) (by kernel_rfl) (by kernel_rfl) (by kernel_rfl)
noncomputable def T45_1 (F : Nat) : FuncId → Option Summ := tab []
noncomputable def LT45_1 (F : Nat) : Nat → Option LoopS := ltab []
theorem E45_1g (F : Nat)    (d : sh45_1.den) (K : KF) : evBody Tryd.prog (tab []) (xw []) 6 0 (ltab []) code45 Tryd.f45.results.toList (encT sh45_1.vs d.1) (encH sh45_1.h d.2) K = (fun (a1 : ByteArray) (K0 : (Bool → Option Res)) => K0 ((a1.size : Int) == 64)) d.1.1 (fun (y0 : Bool) => K [.lf (.bool y0)] []) := by kernel_rfl
theorem E45_1 (F : Nat) (d : sh45_1.den) (K : KF) : evBody Tryd.prog (T45_1 F) (xw []) 6 0 (LT45_1 F) code45 Tryd.f45.results.toList (encT sh45_1.vs d.1) (encH sh45_1.h d.2) K = f45_1 F d.1.1 (fun (y0 : Bool) => K [.lf (.bool y0)] []) := Eq.mp (by kernel_rfl) (E45_1g F    d K)
theorem S45_1_ok (F : Nat) (o : Summ) (ho : SoundFn Tryd.prog 45 o) : SoundFn Tryd.prog 45 (S45_1 F o) :=
  soundFn_of (fn := Tryd.f45) (c := code45) rfl rfl (by kernel_rfl) tab_nil (by kernel_rfl) (by kernel_rfl) ho (by rw [loops45]; exact loopsOK_nil) (by rw [scopes45]; exact scopesOK_nil) (by rw [ranges45]; exact rangesOK_nil) (E45_1 F)
end Go.Proofs.YtillbabmlfjegaaDoor.X
end

section
namespace Go.Proofs.YtillbabmlfjegaaDoor.X
open Go Go.Proofs.YtillbabmlfjegaaDoor.Ev Go.Proofs
set_option linter.unusedVariables false
set_option linter.unusedSectionVars false
/-! pentimentoref06.Disk).Write -/
noncomputable def f61_1 {β : Type} (F : Nat) (a1 : Int) (a2 : ByteArray) (a3 : Int) (a4 : Bool) (a5 : Int) (a6 : List ByteArray) (a7 : List (Int × ByteArray)) (K0 : Int → Int → Bool → Int → Option β) (K1 : Int → Bool → Int → List (Int × ByteArray) → Option β) : Option β := cond a4 (K0 5 a3 a4 a5) (cond (decide (a1 < 0)) (K0 3 a3 a4 a5) (cond (decide (a1 ≥ ((a6.length : Nat) : Int))) (K0 3 a3 a4 a5) (f45_1 F a2 (fun x1 => cond (!x1) (K0 4 a3 a4 a5) (f100_1 F a3 a4 a5 a6 a7 (fun x2 x3 x4 x5 => cond (!x2) (K0 5 x3 x4 x5) (cond (decide ((a7.length + 1) * 24 ≤ 70368744177664)) (K1 x3 x4 x5 (a7 ++ [(a1, a2)])) none)) )) )))
variable [FZ]
def sh61_1 : Sh := ⟨[.lf (.ptr 0 0), .lf (.int .i64), .lf (.str)], [some ⟨some false, [.full 1, .full 2, .int .i64, .bool, .int .i64]⟩, some ⟨none, [.seq .str 0]⟩, some ⟨some false, [.seq (.pair (.int .i64) .str) 0]⟩]⟩
noncomputable def S61_1 (F : Nat) (o : Summ) : Summ := mkS sh61_1 (fun d K => f61_1 F d.1.2.1 d.1.2.2.1 d.2.1.2.2.2.1 d.2.1.2.2.2.2.1 d.2.1.2.2.2.2.2.1 d.2.2.1.2.1 d.2.2.2.1.2.1 (fun (y0 : Int) (y1 : Int) (y2 : Bool) (y3 : Int) => K [.lf (.int .i64 y0)] [some ⟨false, [.full 1, .full 2, .int .i64 y1, .bool y2, .int .i64 y3]⟩, some ⟨d.2.2.1.1, [.seq .str 0 d.2.2.1.2.1]⟩, some ⟨false, [.seq (.pair (.int .i64) .str) 0 d.2.2.2.1.2.1]⟩]) (fun (y1 : Int) (y2 : Bool) (y3 : Int) (y5 : List (Int × ByteArray)) => K [.lf (.int .i64 0)] [some ⟨false, [.full 1, .full 3, .int .i64 y1, .bool y2, .int .i64 y3]⟩, some ⟨d.2.2.1.1, [.seq .str 0 d.2.2.1.2.1]⟩, none, some ⟨false, [.seq (.pair (.int .i64) .str) 0 y5]⟩])) o
noncomputable def code61 : Code := bodyOf Tryd.f61
theorem scopes61 : scopesOf code61 = [] := by kernel_rfl
theorem ranges61 : rangesOf code61 = [] := by kernel_rfl
theorem loops61 : loopsOf code61 = [] := by kernel_rfl
theorem enter61 : ∀ args w, (callFunc 61 args).run Tryd.prog w = .ok (.enter 61 args) w := enter_of (fn := Tryd.f61) (by kernel_rfl) (by kernel_rfl) (by kernel_rfl)
noncomputable def T61_1 (F : Nat) : FuncId → Option Summ := tab [(45, (S45_1 F noS)), (100, (S100_1 F noS))]
noncomputable def LT61_1 (F : Nat) : Nat → Option LoopS := ltab []
theorem E61_1g (F : Nat) (c45_1 : ByteArray → (Bool → Option Res) → Option Res) (c100_1 : Int → Bool → Int → List ByteArray → List (Int × ByteArray) → (Bool → Int → Bool → Int → Option Res) → Option Res)   (d : sh61_1.den) (K : KF) : evBody Tryd.prog (tab [(45, (mkS sh45_1 (fun d K => c45_1 d.1.1 (fun (y0 : Bool) => K [.lf (.bool y0)] [])) noS)), (100, (mkS sh100_1 (fun d K => c100_1 d.2.1.2.2.2.1 d.2.1.2.2.2.2.1 d.2.1.2.2.2.2.2.1 d.2.2.1.2.1 d.2.2.2.1.2.1 (fun (y0 : Bool) (y1 : Int) (y2 : Bool) (y3 : Int) => K [.lf (.bool y0)] [some ⟨false, [.full 1, .full 2, .int .i64 y1, .bool y2, .int .i64 y3]⟩, some ⟨d.2.2.1.1, [.seq .str 0 d.2.2.1.2.1]⟩, some ⟨d.2.2.2.1.1, [.seq (.pair (.int .i64) .str) 0 d.2.2.2.1.2.1]⟩])) noS))]) (xw []) 40 3 (ltab []) code61 Tryd.f61.results.toList (encT sh61_1.vs d.1) (encH sh61_1.h d.2) K = (fun (a1 : Int) (a2 : ByteArray) (a3 : Int) (a4 : Bool) (a5 : Int) (a6 : List ByteArray) (a7 : List (Int × ByteArray)) (K0 : (Int → Int → Bool → Int → Option Res)) (K1 : (Int → Bool → Int → List (Int × ByteArray) → Option Res)) => cond a4 (K0 5 a3 a4 a5) (cond (decide (a1 < 0)) (K0 3 a3 a4 a5) (cond (decide (a1 ≥ ((a6.length : Nat) : Int))) (K0 3 a3 a4 a5) (c45_1 a2 (fun x1 => cond (!x1) (K0 4 a3 a4 a5) (c100_1 a3 a4 a5 a6 a7 (fun x2 x3 x4 x5 => cond (!x2) (K0 5 x3 x4 x5) (cond (decide ((a7.length + 1) * 24 ≤ 70368744177664)) (K1 x3 x4 x5 (a7 ++ [(a1, a2)])) none)) )) )))) d.1.2.1 d.1.2.2.1 d.2.1.2.2.2.1 d.2.1.2.2.2.2.1 d.2.1.2.2.2.2.2.1 d.2.2.1.2.1 d.2.2.2.1.2.1 (fun (y0 : Int) (y1 : Int) (y2 : Bool) (y3 : Int) => K [.lf (.int .i64 y0)] [some ⟨false, [.full 1, .full 2, .int .i64 y1, .bool y2, .int .i64 y3]⟩, some ⟨d.2.2.1.1, [.seq .str 0 d.2.2.1.2.1]⟩, some ⟨false, [.seq (.pair (.int .i64) .str) 0 d.2.2.2.1.2.1]⟩]) (fun (y1 : Int) (y2 : Bool) (y3 : Int) (y5 : List (Int × ByteArray)) => K [.lf (.int .i64 0)] [some ⟨false, [.full 1, .full 3, .int .i64 y1, .bool y2, .int .i64 y3]⟩, some ⟨d.2.2.1.1, [.seq .str 0 d.2.2.1.2.1]⟩, none, some ⟨false, [.seq (.pair (.int .i64) .str) 0 y5]⟩]) := by kernel_rfl
theorem E61_1 (F : Nat) (d : sh61_1.den) (K : KF) : evBody Tryd.prog (T61_1 F) (xw []) 40 3 (LT61_1 F) code61 Tryd.f61.results.toList (encT sh61_1.vs d.1) (encH sh61_1.h d.2) K = f61_1 F d.1.2.1 d.1.2.2.1 d.2.1.2.2.2.1 d.2.1.2.2.2.2.1 d.2.1.2.2.2.2.2.1 d.2.2.1.2.1 d.2.2.2.1.2.1 (fun (y0 : Int) (y1 : Int) (y2 : Bool) (y3 : Int) => K [.lf (.int .i64 y0)] [some ⟨false, [.full 1, .full 2, .int .i64 y1, .bool y2, .int .i64 y3]⟩, some ⟨d.2.2.1.1, [.seq .str 0 d.2.2.1.2.1]⟩, some ⟨false, [.seq (.pair (.int .i64) .str) 0 d.2.2.2.1.2.1]⟩]) (fun (y1 : Int) (y2 : Bool) (y3 : Int) (y5 : List (Int × ByteArray)) => K [.lf (.int .i64 0)] [some ⟨false, [.full 1, .full 3, .int .i64 y1, .bool y2, .int .i64 y3]⟩, some ⟨d.2.2.1.1, [.seq .str 0 d.2.2.1.2.1]⟩, none, some ⟨false, [.seq (.pair (.int .i64) .str) 0 y5]⟩]) := Eq.mp (by kernel_rfl) (E61_1g F (f45_1 F) (f100_1 F)   d K)
theorem S61_1_ok (F : Nat) (o : Summ) (ho : SoundFn Tryd.prog 61 o) : SoundFn Tryd.prog 61 (S61_1 F o) :=
  soundFn_of (fn := Tryd.f61) (c := code61) rfl rfl (by kernel_rfl) (tab_cons (S45_1_ok F _ (noS_sound enter45)) (tab_cons (S100_1_ok F _ (noS_sound enter100)) tab_nil)) (by kernel_rfl) (by kernel_rfl) ho (by rw [loops61]; exact loopsOK_nil) (by rw [scopes61]; exact scopesOK_nil) (by rw [ranges61]; exact rangesOK_nil) (E61_1 F)
end Go.Proofs.YtillbabmlfjegaaDoor.X
end

section
namespace Go.Proofs.YtillbabmlfjegaaDoor.X
open Go Go.Proofs.YtillbabmlfjegaaDoor.Ev Go.Proofs
set_option linter.unusedVariables false
set_option linter.unusedSectionVars false
/-! pentimentoref06.Disk).Flush -/
noncomputable def f99_1_l4 {β : Type} (F : Nat) (v6 : Int) (v7 : Bool) (v8 : Int) (v10 : List (Int × ByteArray)) (K0 : List ByteArray → Option β) : Nat → Int → List ByteArray → Option β
  | 0, _, _ => none
  | k + 1, v5, v9 => cond (decide (v5 < ((v10.length : Nat) : Int))) (cond (decide ((0 : Int) ≤ v5 ∧ v5 < ((v10.length : Nat) : Int))) (cond (decide (0 + v5.toNat < v10.length)) (cond (decide ((0 : Int) ≤ (v10.getD (0 + v5.toNat) (0, ByteArray.empty)).1 ∧ (v10.getD (0 + v5.toNat) (0, ByteArray.empty)).1 < ((v9.length : Nat) : Int))) (cond (decide (0 + (((v10.getD (0 + v5.toNat) (0, ByteArray.empty)).1).toNat) < v9.length)) (f99_1_l4 F v6 v7 v8 v10 K0 k (IntKind.i64.wrap (v5 + 1)) (v9.set (0 + (((v10.getD (0 + v5.toNat) (0, ByteArray.empty)).1).toNat)) ((v10.getD (0 + v5.toNat) (0, ByteArray.empty)).2))) none) none) none) none) (K0 v9)
noncomputable def f99_1 {β : Type} (F : Nat) (a1 : Int) (a2 : Bool) (a3 : Int) (a4 : List ByteArray) (a5 : List (Int × ByteArray)) (K0 : Int → Bool → Int → Option β) (K1 : Int → Bool → Int → List ByteArray → List (Int × ByteArray) → Option β) : Option β := cond a2 (K0 a1 a2 a3) (f100_1 F a1 a2 a3 a4 a5 (fun x1 x2 x3 x4 => cond (!x1) (K0 x2 x3 x4) (f99_1_l4 F x2 x3 x4 a5 (fun x11 => K1 x2 x3 x4 x11 []) F 0 a4)) )
variable [FZ]
def sh99_1 : Sh := ⟨[.lf (.ptr 0 0)], [some ⟨some false, [.full 1, .full 2, .int .i64, .bool, .int .i64]⟩, some ⟨some false, [.seq .str 0]⟩, some ⟨none, [.seq (.pair (.int .i64) .str) 0]⟩]⟩
noncomputable def S99_1 (F : Nat) (o : Summ) : Summ := mkS sh99_1 (fun d K => f99_1 F d.2.1.2.2.2.1 d.2.1.2.2.2.2.1 d.2.1.2.2.2.2.2.1 d.2.2.1.2.1 d.2.2.2.1.2.1 (fun (y1 : Int) (y2 : Bool) (y3 : Int) => K [.lf (.int .i64 5)] [some ⟨false, [.full 1, .full 2, .int .i64 y1, .bool y2, .int .i64 y3]⟩, some ⟨false, [.seq .str 0 d.2.2.1.2.1]⟩, some ⟨d.2.2.2.1.1, [.seq (.pair (.int .i64) .str) 0 d.2.2.2.1.2.1]⟩]) (fun (y1 : Int) (y2 : Bool) (y3 : Int) (y4 : List ByteArray) (y6 : List (Int × ByteArray)) => K [.lf (.int .i64 0)] [some ⟨false, [.full 1, .full 3, .int .i64 y1, .bool y2, .int .i64 y3]⟩, some ⟨false, [.seq .str 0 y4]⟩, some ⟨d.2.2.2.1.1, [.seq (.pair (.int .i64) .str) 0 d.2.2.2.1.2.1]⟩, some ⟨false, [.seq (.pair (.int .i64) .str) 0 y6]⟩])) o
noncomputable def code99 : Code := bodyOf Tryd.f99
noncomputable def b99_0 : Code := cB (cB (cR (cL (cR (cR (code99))))))
theorem scopes99 : scopesOf code99 = [] := by kernel_rfl
theorem ranges99 : rangesOf code99 = [] := by kernel_rfl
theorem loops99 : loopsOf code99 = [b99_0] := by kernel_rfl
theorem enter99 : ∀ args w, (callFunc 99 args).run Tryd.prog w = .ok (.enter 99 args) w := enter_of (fn := Tryd.f99) (by kernel_rfl) (by kernel_rfl) (by kernel_rfl)
noncomputable def T99_1 (F : Nat) : FuncId → Option Summ := tab [(100, (S100_1 F noS))]
def sh99_1_l4 : Sh := ⟨[.lf (.ptr 0 0), .lf (.int .i64)], [some ⟨some false, [.full 1, .full 2, .int .i64, .bool, .int .i64]⟩, some ⟨some false, [.seq .str 0]⟩, some ⟨none, [.seq (.pair (.int .i64) .str) 0]⟩]⟩
noncomputable def G99_1_4 (F k : Nat) : LoopS := mkG sh99_1_l4 [0, 3] (outT [(.exit 0, [0])]) (fun d K => f99_1_l4 F d.2.1.2.2.2.1 d.2.1.2.2.2.2.1 d.2.1.2.2.2.2.2.1 d.2.2.2.1.2.1 (fun (y3 : List ByteArray) => K (.exit 0) [.tv (.lf (.ptr 0 0))] [some ⟨false, [.full 1, .full 2, .int .i64 d.2.1.2.2.2.1, .bool d.2.1.2.2.2.2.1, .int .i64 d.2.1.2.2.2.2.2.1]⟩, some ⟨false, [.seq .str 0 y3]⟩, some ⟨d.2.2.2.1.1, [.seq (.pair (.int .i64) .str) 0 d.2.2.2.1.2.1]⟩]) k d.1.2.1 d.2.2.1.2.1) []
noncomputable def LT99_1 (F : Nat) : Nat → Option LoopS := ltab [(4, G99_1_4 F F)]
theorem L99_1_l4g (F k : Nat) (c100_1 : Int → Bool → Int → List ByteArray → List (Int × ByteArray) → (Bool → Int → Bool → Int → Option Res) → Option Res)  (l4 : Int → Bool → Int → List (Int × ByteArray) → (List ByteArray → Option Res) → Nat → Int → List ByteArray → Option Res) (X4 : LoopS) (d : sh99_1_l4.den) (K : KL) : (fun (v6 : Int) (v7 : Bool) (v8 : Int) (v10 : List (Int × ByteArray)) (K0 : (List ByteArray → Option Res)) (k : Nat) (v5 : Int) (v9 : List ByteArray) => cond (decide (v5 < ((v10.length : Nat) : Int))) (cond (decide ((0 : Int) ≤ v5 ∧ v5 < ((v10.length : Nat) : Int))) (cond (decide (0 + v5.toNat < v10.length)) (cond (decide ((0 : Int) ≤ (v10.getD (0 + v5.toNat) (0, ByteArray.empty)).1 ∧ (v10.getD (0 + v5.toNat) (0, ByteArray.empty)).1 < ((v9.length : Nat) : Int))) (cond (decide (0 + (((v10.getD (0 + v5.toNat) (0, ByteArray.empty)).1).toNat) < v9.length)) (l4 v6 v7 v8 v10 K0 k (IntKind.i64.wrap (v5 + 1)) (v9.set (0 + (((v10.getD (0 + v5.toNat) (0, ByteArray.empty)).1).toNat)) ((v10.getD (0 + v5.toNat) (0, ByteArray.empty)).2))) none) none) none) none) (K0 v9)) d.2.1.2.2.2.1 d.2.1.2.2.2.2.1 d.2.1.2.2.2.2.2.1 d.2.2.2.1.2.1 (fun (y3 : List ByteArray) => K (.exit 0) [.tv (.lf (.ptr 0 0))] [some ⟨false, [.full 1, .full 2, .int .i64 d.2.1.2.2.2.1, .bool d.2.1.2.2.2.2.1, .int .i64 d.2.1.2.2.2.2.2.1]⟩, some ⟨false, [.seq .str 0 y3]⟩, some ⟨d.2.2.2.1.1, [.seq (.pair (.int .i64) .str) 0 d.2.2.2.1.2.1]⟩]) k d.1.2.1 d.2.2.1.2.1 = roundOf Tryd.prog (tab [(100, (mkS sh100_1 (fun d K => c100_1 d.2.1.2.2.2.1 d.2.1.2.2.2.2.1 d.2.1.2.2.2.2.2.1 d.2.2.1.2.1 d.2.2.2.1.2.1 (fun (y0 : Bool) (y1 : Int) (y2 : Bool) (y3 : Int) => K [.lf (.bool y0)] [some ⟨false, [.full 1, .full 2, .int .i64 y1, .bool y2, .int .i64 y3]⟩, some ⟨d.2.2.1.1, [.seq .str 0 d.2.2.1.2.1]⟩, some ⟨d.2.2.2.1.1, [.seq (.pair (.int .i64) .str) 0 d.2.2.2.1.2.1]⟩])) noS))]) (xw []) 42 3 (ltab [(4, X4)]) (mkG sh99_1_l4 [0, 3] (outT [(.exit 0, [0])]) (fun d K => l4 d.2.1.2.2.2.1 d.2.1.2.2.2.2.1 d.2.1.2.2.2.2.2.1 d.2.2.2.1.2.1 (fun (y3 : List ByteArray) => K (.exit 0) [.tv (.lf (.ptr 0 0))] [some ⟨false, [.full 1, .full 2, .int .i64 d.2.1.2.2.2.1, .bool d.2.1.2.2.2.2.1, .int .i64 d.2.1.2.2.2.2.2.1]⟩, some ⟨false, [.seq .str 0 y3]⟩, some ⟨d.2.2.2.1.1, [.seq (.pair (.int .i64) .str) 0 d.2.2.2.1.2.1]⟩]) k d.1.2.1 d.2.2.1.2.1) []) b99_0 (encT sh99_1_l4.vs d.1) (encH sh99_1_l4.h d.2) K := by kernel_rfl
theorem L99_1_4 (F : Nat) : LoopOK Tryd.prog (T99_1 F) (xw []) 42 3 (LT99_1 F) (G99_1_4 F F) b99_0 :=
  loopOK_of (s := sh99_1_l4) (live := [0, 3]) (out := (outT [(.exit 0, [0])])) (mv := []) (fun k d K => f99_1_l4 F d.2.1.2.2.2.1 d.2.1.2.2.2.2.1 d.2.1.2.2.2.2.2.1 d.2.2.2.1.2.1 (fun (y3 : List ByteArray) => K (.exit 0) [.tv (.lf (.ptr 0 0))] [some ⟨false, [.full 1, .full 2, .int .i64 d.2.1.2.2.2.1, .bool d.2.1.2.2.2.2.1, .int .i64 d.2.1.2.2.2.2.2.1]⟩, some ⟨false, [.seq .str 0 y3]⟩, some ⟨d.2.2.2.1.1, [.seq (.pair (.int .i64) .str) 0 d.2.2.2.1.2.1]⟩]) k d.1.2.1 d.2.2.1.2.1) F (fun d K => by kernel_rfl)  (fun k d K => Eq.mp (by kernel_rfl) (L99_1_l4g F k (f100_1 F)  (f99_1_l4 F) (G99_1_4 F F) d K))
theorem E99_1g (F : Nat) (c100_1 : Int → Bool → Int → List ByteArray → List (Int × ByteArray) → (Bool → Int → Bool → Int → Option Res) → Option Res) (l4 : Int → Bool → Int → List (Int × ByteArray) → (List ByteArray → Option Res) → Nat → Int → List ByteArray → Option Res)  (d : sh99_1.den) (K : KF) : evBody Tryd.prog (tab [(100, (mkS sh100_1 (fun d K => c100_1 d.2.1.2.2.2.1 d.2.1.2.2.2.2.1 d.2.1.2.2.2.2.2.1 d.2.2.1.2.1 d.2.2.2.1.2.1 (fun (y0 : Bool) (y1 : Int) (y2 : Bool) (y3 : Int) => K [.lf (.bool y0)] [some ⟨false, [.full 1, .full 2, .int .i64 y1, .bool y2, .int .i64 y3]⟩, some ⟨d.2.2.1.1, [.seq .str 0 d.2.2.1.2.1]⟩, some ⟨d.2.2.2.1.1, [.seq (.pair (.int .i64) .str) 0 d.2.2.2.1.2.1]⟩])) noS))]) (xw []) 42 3 (ltab [(4, mkG sh99_1_l4 [0, 3] (outT [(.exit 0, [0])]) (fun d K => l4 d.2.1.2.2.2.1 d.2.1.2.2.2.2.1 d.2.1.2.2.2.2.2.1 d.2.2.2.1.2.1 (fun (y3 : List ByteArray) => K (.exit 0) [.tv (.lf (.ptr 0 0))] [some ⟨false, [.full 1, .full 2, .int .i64 d.2.1.2.2.2.1, .bool d.2.1.2.2.2.2.1, .int .i64 d.2.1.2.2.2.2.2.1]⟩, some ⟨false, [.seq .str 0 y3]⟩, some ⟨d.2.2.2.1.1, [.seq (.pair (.int .i64) .str) 0 d.2.2.2.1.2.1]⟩]) F d.1.2.1 d.2.2.1.2.1) [])]) code99 Tryd.f99.results.toList (encT sh99_1.vs d.1) (encH sh99_1.h d.2) K = (fun (a1 : Int) (a2 : Bool) (a3 : Int) (a4 : List ByteArray) (a5 : List (Int × ByteArray)) (K0 : (Int → Bool → Int → Option Res)) (K1 : (Int → Bool → Int → List ByteArray → List (Int × ByteArray) → Option Res)) => cond a2 (K0 a1 a2 a3) (c100_1 a1 a2 a3 a4 a5 (fun x1 x2 x3 x4 => cond (!x1) (K0 x2 x3 x4) (l4 x2 x3 x4 a5 (fun x11 => K1 x2 x3 x4 x11 []) F 0 a4)) )) d.2.1.2.2.2.1 d.2.1.2.2.2.2.1 d.2.1.2.2.2.2.2.1 d.2.2.1.2.1 d.2.2.2.1.2.1 (fun (y1 : Int) (y2 : Bool) (y3 : Int) => K [.lf (.int .i64 5)] [some ⟨false, [.full 1, .full 2, .int .i64 y1, .bool y2, .int .i64 y3]⟩, some ⟨false, [.seq .str 0 d.2.2.1.2.1]⟩, some ⟨d.2.2.2.1.1, [.seq (.pair (.int .i64) .str) 0 d.2.2.2.1.2.1]⟩]) (fun (y1 : Int) (y2 : Bool) (y3 : Int) (y4 : List ByteArray) (y6 : List (Int × ByteArray)) => K [.lf (.int .i64 0)] [some ⟨false, [.full 1, .full 3, .int .i64 y1, .bool y2, .int .i64 y3]⟩, some ⟨false, [.seq .str 0 y4]⟩, some ⟨d.2.2.2.1.1, [.seq (.pair (.int .i64) .str) 0 d.2.2.2.1.2.1]⟩, some ⟨false, [.seq (.pair (.int .i64) .str) 0 y6]⟩]) := by kernel_rfl
theorem E99_1 (F : Nat) (d : sh99_1.den) (K : KF) : evBody Tryd.prog (T99_1 F) (xw []) 42 3 (LT99_1 F) code99 Tryd.f99.results.toList (encT sh99_1.vs d.1) (encH sh99_1.h d.2) K = f99_1 F d.2.1.2.2.2.1 d.2.1.2.2.2.2.1 d.2.1.2.2.2.2.2.1 d.2.2.1.2.1 d.2.2.2.1.2.1 (fun (y1 : Int) (y2 : Bool) (y3 : Int) => K [.lf (.int .i64 5)] [some ⟨false, [.full 1, .full 2, .int .i64 y1, .bool y2, .int .i64 y3]⟩, some ⟨false, [.seq .str 0 d.2.2.1.2.1]⟩, some ⟨d.2.2.2.1.1, [.seq (.pair (.int .i64) .str) 0 d.2.2.2.1.2.1]⟩]) (fun (y1 : Int) (y2 : Bool) (y3 : Int) (y4 : List ByteArray) (y6 : List (Int × ByteArray)) => K [.lf (.int .i64 0)] [some ⟨false, [.full 1, .full 3, .int .i64 y1, .bool y2, .int .i64 y3]⟩, some ⟨false, [.seq .str 0 y4]⟩, some ⟨d.2.2.2.1.1, [.seq (.pair (.int .i64) .str) 0 d.2.2.2.1.2.1]⟩, some ⟨false, [.seq (.pair (.int .i64) .str) 0 y6]⟩]) := Eq.mp (by kernel_rfl) (E99_1g F (f100_1 F) (f99_1_l4 F)  d K)
theorem S99_1_ok (F : Nat) (o : Summ) (ho : SoundFn Tryd.prog 99 o) : SoundFn Tryd.prog 99 (S99_1 F o) :=
  soundFn_of (fn := Tryd.f99) (c := code99) rfl rfl (by kernel_rfl) (tab_cons (S100_1_ok F _ (noS_sound enter100)) tab_nil) (by kernel_rfl) (by kernel_rfl) ho (by rw [loops99]; exact (loopsOK_cons (by kernel_rfl) (L99_1_4 F) loopsOK_nil)) (by rw [scopes99]; exact scopesOK_nil) (by rw [ranges99]; exact rangesOK_nil) (E99_1 F)
end Go.Proofs.YtillbabmlfjegaaDoor.X
end

section
/- Numbers of a fixed width: what wrapping and the bits' operations come to where nothing is lost. -/
namespace Go.Proofs.YtillbabmlfjegaaDoor.X
open Go Go.Proofs.YtillbabmlfjegaaDoor.Ev
set_option linter.unusedSectionVars false
variable [FZ]
set_option linter.unusedVariables false
set_option linter.unusedSimpArgs false

theorem w64 {x : Int} (h : -9223372036854775808 ≤ x) (h' : x ≤ 9223372036854775807) : IntKind.i64.wrap x = x := by
  simp only [IntKind.wrap, IntKind.bits, IntKind.signed, Bool.true_and]
  split <;> (rename_i hq; simp at hq; omega)

theorem wu64 {x : Int} (h : 0 ≤ x) (h' : x < 18446744073709551616) : IntKind.u64.wrap x = x := by
  simp only [IntKind.wrap, IntKind.bits, IntKind.signed, Bool.false_and]
  simp; omega

theorem wu32 {x : Int} (h : 0 ≤ x) (h' : x < 4294967296) : IntKind.u32.wrap x = x := by
  simp only [IntKind.wrap, IntKind.bits, IntKind.signed, Bool.false_and]
  simp; omega

theorem wu8 {x : Int} (h : 0 ≤ x) (h' : x < 256) : IntKind.u8.wrap x = x := by
  simp only [IntKind.wrap, IntKind.bits, IntKind.signed, Bool.false_and]
  simp; omega

theorem wu64m (x : Int) : IntKind.u64.wrap x = x % 18446744073709551616 := by
  simp only [IntKind.wrap, IntKind.bits, IntKind.signed, Bool.false_and]
  simp
theorem wu32m (x : Int) : IntKind.u32.wrap x = x % 4294967296 := by
  simp only [IntKind.wrap, IntKind.bits, IntKind.signed, Bool.false_and]
  simp
theorem wu8m (x : Int) : IntKind.u8.wrap x = x % 256 := by
  simp only [IntKind.wrap, IntKind.bits, IntKind.signed, Bool.false_and]
  simp

theorem i64_of_wf {n : Int} (h : (Lit.int .i64 n).wf = true) : -9223372036854775808 ≤ n ∧ n ≤ 9223372036854775807 := by
  simp [Lit.wf, IntKind.min, IntKind.max, IntKind.bits, IntKind.signed] at h; omega
theorem u64_of_wf {n : Int} (h : (Lit.int .u64 n).wf = true) : 0 ≤ n ∧ n < 18446744073709551616 := by
  simp [Lit.wf, IntKind.min, IntKind.max, IntKind.bits, IntKind.signed] at h; omega
theorem u8_of_wf {n : Int} (h : (Lit.int .u8 n).wf = true) : 0 ≤ n ∧ n < 256 := by
  simp [Lit.wf, IntKind.min, IntKind.max, IntKind.bits, IntKind.signed] at h; omega
theorem u32_of_wf {n : Int} (h : (Lit.int .u32 n).wf = true) : 0 ≤ n ∧ n < 4294967296 := by
  simp [Lit.wf, IntKind.min, IntKind.max, IntKind.bits, IntKind.signed] at h; omega

theorem or64 {A B : Nat} (hA : A < 2 ^ 64) (hB : B < 2 ^ 64) : ior .u64 (A : Int) (B : Int) = ((A ||| B : Nat) : Int) := by
  have h : (BitVec.ofInt 64 (A : Int) ||| BitVec.ofInt 64 (B : Int)).toNat = A ||| B := by
    simp [BitVec.toNat_or, BitVec.ofInt_natCast, BitVec.toNat_ofNat, Nat.mod_eq_of_lt hA, Nat.mod_eq_of_lt hB]
  have hl := Nat.or_lt_two_pow hA hB
  show IntKind.u64.wrap ((BitVec.ofInt 64 (A : Int) ||| BitVec.ofInt 64 (B : Int)).toNat : Int) = _
  rw [h, wu64 (by omega) (by omega)]
theorem and64 {A B : Nat} (hA : A < 2 ^ 64) (hB : B < 2 ^ 64) : iand .u64 (A : Int) (B : Int) = ((A &&& B : Nat) : Int) := by
  have h : (BitVec.ofInt 64 (A : Int) &&& BitVec.ofInt 64 (B : Int)).toNat = A &&& B := by
    simp [BitVec.toNat_and, BitVec.ofInt_natCast, BitVec.toNat_ofNat, Nat.mod_eq_of_lt hA, Nat.mod_eq_of_lt hB]
  have hl : A &&& B < 2 ^ 64 := Nat.and_lt_two_pow A hB
  show IntKind.u64.wrap ((BitVec.ofInt 64 (A : Int) &&& BitVec.ofInt 64 (B : Int)).toNat : Int) = _
  rw [h, wu64 (by omega) (by omega)]
theorem shl64 {i : Nat} (hi : i < 64) : ishl .u64 1 (i : Int) = ((2 ^ i : Nat) : Int) := by
  have h2 : (2 : Nat) ^ i < 2 ^ 64 := Nat.pow_lt_pow_right (by omega) hi
  have : (1 : Int) * 2 ^ (min i 64) = ((2 ^ i : Nat) : Int) := by
    rw [Nat.min_eq_left (by omega), Int.one_mul]; push_cast; rfl
  simp only [ishl, IntKind.bits, Int.toNat_natCast]
  rw [this, wu64 (Int.natCast_nonneg _) (Int.ofNat_lt.2 h2)]
theorem shr64 {A i : Nat} (hi : i < 64) : ishr .u64 (A : Int) (i : Int) = ((A >>> i : Nat) : Int) := by
  have : ((2 : Int) ^ i) = ((2 ^ i : Nat) : Int) := by push_cast; rfl
  simp only [ishr, IntKind.bits, Int.toNat_natCast]
  rw [Nat.min_eq_left (by omega), Int.fdiv_eq_ediv_of_nonneg _ (by rw [this]; exact Int.natCast_nonneg _), this, Nat.shiftRight_eq_div_pow]
  push_cast; rfl

/-- The number with given bits, below n. -/
def mk (f : Nat → Bool) : Nat → Nat
  | 0 => 0
  | n + 1 => if f n then mk f n ||| 2 ^ n else mk f n

theorem mk_lt (f : Nat → Bool) : ∀ n, mk f n < 2 ^ n
  | 0 => by simp [mk]
  | n + 1 => by
    have := mk_lt f n
    have h2 : (2 : Nat) ^ n < 2 ^ (n + 1) := Nat.pow_lt_pow_right (by omega) (by omega)
    simp only [mk]
    split
    · exact Nat.or_lt_two_pow (by omega) h2
    · omega

theorem mk_bit (f : Nat → Bool) : ∀ n j, (mk f n).testBit j = (decide (j < n) && f j)
  | 0, j => by simp [mk]
  | n + 1, j => by
    simp only [mk]
    split
    · rename_i h
      rw [Nat.testBit_or, mk_bit f n, Nat.testBit_two_pow]
      by_cases hj : j = n
      · subst hj; simp [h]
      · have h1 : decide (j < n) = decide (j < n + 1) := decide_eq_decide.2 (by omega)
        simp [Ne.symm hj, h1]
    · rename_i h
      rw [mk_bit f n]
      by_cases hj : j = n
      · subst hj; simp at h; simp [h]
      · have h1 : decide (j < n) = decide (j < n + 1) := decide_eq_decide.2 (by omega)
        rw [h1]

theorem mk_eq {A n : Nat} {f : Nat → Bool} (hA : A < 2 ^ n) (h : ∀ j, j < n → f j = A.testBit j) : mk f n = A := by
  apply Nat.eq_of_testBit_eq
  intro j
  rw [mk_bit]
  by_cases hj : j < n
  · simp [hj, h j hj]
  · simp [hj]
    exact Nat.testBit_lt_two_pow (Nat.lt_of_lt_of_le hA (Nat.pow_le_pow_right (by omega) (by omega)))

theorem bit_test {A i : Nat} : ((A >>> i &&& 1 : Nat) == 1) = A.testBit i := by
  simp [Nat.testBit, Nat.and_comm]

theorem natbeq {a b : Nat} : (((a : Int) == ((b : Nat) : Int)) : Bool) = (a == b) := by
  rw [Bool.eq_iff_iff]; simp; omega

theorem tdiv_nn {a b : Nat} : ((a : Int).tdiv (b : Int)) = ((a / b : Nat) : Int) := by
  rw [Int.tdiv_eq_ediv_of_nonneg (by omega)]; rfl
theorem tmod_nn {a b : Nat} : ((a : Int).tmod (b : Int)) = ((a % b : Nat) : Int) := by
  rw [Int.tmod_eq_emod_of_nonneg (by omega)]; rfl

theorem lbeq_refl (k : EK) (hr : ∀ x : k.den, k.beq x x = true) : ∀ l : List k.den, lbeq k l l = true
  | [] => rfl
  | x :: r => by simp [lbeq, hr x, lbeq_refl k hr r]
theorem lbeq_int (k : IntKind) (l : List Int) : lbeq (.int k) l l = true := lbeq_refl (.int k) (fun x => by simp [EK.beq]) l
theorem lbeq_int_iff (k : IntKind) : ∀ (l r : List Int), lbeq (.int k) l r = true ↔ l = r
  | [], [] => by simp [lbeq]
  | [], _ :: _ => by simp [lbeq]
  | _ :: _, [] => by simp [lbeq]
  | x :: l, y :: r => by simp [lbeq, EK.beq, lbeq_int_iff k l r]

theorem ct {α : Sort _} {p : Prop} [Decidable p] {a b : α} (h : p) : cond (decide p) a b = a := by simp [h]
theorem cf {α : Sort _} {p : Prop} [Decidable p] {a b : α} (h : ¬ p) : cond (decide p) a b = b := by simp [h]

end Go.Proofs.YtillbabmlfjegaaDoor.X
end

section
/- A disk: what each act of the program's and of the document's comes to, in one form. -/
namespace Go.Proofs.YtillbabmlfjegaaDoor.X
open Go Go.Proofs.YtillbabmlfjegaaDoor.Ev
set_option linter.unusedSectionVars false
variable [FZ]
set_option linter.unusedVariables false
set_option linter.unusedSimpArgs false

abbrev WL := List (Int × ByteArray)

/-- What is so of a disk of n sectors, behind at most k acts. -/
structure DS (n k : Nat) (a c : Int) (l : List ByteArray) (w : WL) : Prop where
  n40 : n ≤ 2000
  k300 : k ≤ 300
  len : l.length = n
  wl : w.length ≤ k
  wb : ∀ p ∈ w, 0 ≤ p.1 ∧ p.1 < n
  ar : -1 ≤ a ∧ a ≤ 9223372036854775807
  cr : 0 ≤ c ∧ c ≤ k

theorem getD_of_drop {α : Type} {l r : List α} {i : Nat} {x d : α} (h : l.drop i = x :: r) : i < l.length ∧ l.getD (0 + (i : Int).toNat) d = x ∧ l.drop (i + 1) = r := by
  have h1 : i < l.length := by
    rcases Nat.lt_or_ge i l.length with h1 | h1
    · exact h1
    · rw [List.drop_eq_nil_of_le h1] at h; cases h
  rw [List.drop_eq_getElem_cons h1] at h
  injection h with h2 h3
  refine ⟨h1, ?_, h3⟩
  simp [h1, h2]

theorem getD_out {α : Type} {l : List α} {i : Nat} {d : α} (h : l.length ≤ i) : l.getD i d = d := by simp [List.getD_eq_getElem?_getD, List.getElem?_eq_none h]

theorem len_of_drop_nil {α : Type} {l : List α} {i : Nat} (h : l.drop i = []) (hi : i ≤ l.length) : i = l.length := by
  have := congrArg List.length h
  simp at this; omega

/-! ### A sector as it is flushed; as it was written last -/

def kp (x : Int) (l : List ByteArray) : ByteArray × Int := if 0 ≤ x ∧ x < (l.length : Int) then (l.getD x.toNat ByteArray.empty, 0) else (ByteArray.empty, 3)

theorem keptP {β : Type} {F : Nat} {x a c : Int} {b : Bool} {l : List ByteArray} {w : WL} {K : ByteArray → Int → Option β} : f30_1 F x a b c l w K = K (kp x l).1 (kp x l).2 := by
  rw [f30_1, f65_1, kp]
  by_cases h1 : 0 ≤ x
  · rw [ct (by omega)]
    by_cases h2 : x < (l.length : Int)
    · rw [if_pos ⟨h1, h2⟩, decide_eq_true h2, Bool.not_true, cond_false, ct ⟨h1, h2⟩, ct (by omega), Nat.zero_add]
    · rw [if_neg (by omega), decide_eq_false h2, Bool.not_false, cond_true]
  · rw [cf (by omega), if_neg (by omega), Bool.not_false, cond_true]

theorem keptR {β : Type} {F : Nat} {x a c : Int} {b : Bool} {l : List ByteArray} {w : WL} {K : ByteArray → Int → Option β} : f31_1 F x a b c l w K = K (kp x l).1 (kp x l).2 := by
  rw [f31_1, kp]
  by_cases h1 : 0 ≤ x
  · rw [cf (by omega)]
    by_cases h2 : x < (l.length : Int)
    · rw [if_pos ⟨h1, h2⟩, cf (by omega), ct ⟨h1, h2⟩, ct (by omega), Nat.zero_add]
    · rw [if_neg (by omega), ct (by omega)]
  · rw [ct (by omega), if_neg (by omega)]

/-- What was written last to a sector, in place of s. -/
def last (x : Int) (s : ByteArray) (w : WL) : ByteArray := w.foldl (fun s p => if p.1 = x then p.2 else s) s

def rd (x : Int) (b : Bool) (l : List ByteArray) (w : WL) : ByteArray × Int :=
  if b then (ByteArray.empty, 5) else (if 0 ≤ x ∧ x < (l.length : Int) then last x (l.getD x.toNat ByteArray.empty) w else ByteArray.empty, (kp x l).2)

theorem readRl {β : Type} {F : Nat} {x a c : Int} {b : Bool} {l : List ByteArray} {w : WL} {K : ByteArray → Option β} (hw : w.length ≤ 300) : ∀ (r : WL) (i k : Nat) (s : ByteArray), w.drop i = r → i ≤ w.length → r.length < k →
    f119_1_l5 F x 0 a b c l w K k s (i : Int) = K (last x s r)
  | [], i, 0, s, _, _, hk => by simp at hk
  | _ :: _, i, 0, s, _, _, hk => by simp at hk
  | [], i, k + 1, s, hd, hi, _ => by
    have := len_of_drop_nil hd hi
    rw [f119_1_l5, cf (by omega)]; rfl
  | p :: r, i, k + 1, s, hd, hi, hk => by
    obtain ⟨h1, h2, h3⟩ := getD_of_drop (d := ((0, ByteArray.empty) : Int × ByteArray)) hd
    rw [f119_1_l5, ct (by omega), show ((0 : Int) == 0) = true from rfl, cond_true, ct (by omega), ct (by omega), h2, w64 (by omega) (by omega), ct (by omega), ct (by omega)]
    have ih := fun s => readRl (F := F) (x := x) (a := a) (b := b) (c := c) (l := l) (K := K) hw r (i + 1) k s h3 (by omega) (by simp at hk; omega)
    push_cast at ih
    by_cases hx : p.1 = x
    · rw [show (p.1 == x) = true from by simp [hx], cond_true, ih, last, last, List.foldl_cons, if_pos hx]
    · rw [show (p.1 == x) = false from by simp [hx], cond_false, ih, last, last, List.foldl_cons, if_neg hx]

theorem readRl3 {β : Type} {F : Nat} {x a c : Int} {b : Bool} {l : List ByteArray} {w : WL} {s : ByteArray} {K : ByteArray → Option β} {k : Nat} : f119_1_l5 F x 3 a b c l w K (k + 1) s 0 = K s := by
  rw [f119_1_l5]
  by_cases h : (0 : Int) < ((w.length : Nat) : Int)
  · rw [ct h]; rfl
  · rw [cf h]

theorem readR {β : Type} {F n k : Nat} (hF : 400 ≤ F) {x a c : Int} {b : Bool} {l : List ByteArray} {w : WL} (h : DS n k a c l w) {K : ByteArray → Int → Option β} : f119_1 F x a b c l w K = K (rd x b l w).1 (rd x b l w).2 := by
  have hk := h.k300; have hwl := h.wl
  rw [f119_1]
  cases b with
  | true => rfl
  | false =>
    rw [cond_false, keptR, rd, if_neg (by simp), kp]
    by_cases hx : 0 ≤ x ∧ x < (l.length : Int)
    · rw [if_pos hx, if_pos hx]
      exact readRl (by omega) w 0 F _ rfl (by omega) (by omega)
    · rw [if_neg hx, if_neg hx]
      obtain ⟨F', rfl⟩ : ∃ F', F = F' + 1 := ⟨F - 1, by omega⟩
      exact readRl3

/-- The last write to a sector. -/
def lastW (x : Int) : WL → Option ByteArray
  | [] => none
  | p :: r => match lastW x r with
    | some s => some s
    | none => if p.1 = x then some p.2 else none

theorem last_eq (x : Int) : ∀ (w : WL) (s : ByteArray), last x s w = (match lastW x w with | some t => t | none => s)
  | [], s => rfl
  | p :: r, s => by
    rw [last, List.foldl_cons, ← last, last_eq x r, lastW]
    cases lastW x r with
    | some t => rfl
    | none =>
      by_cases hp : p.1 = x
      · simp [hp]
      · simp [hp]

theorem lastW_app (x : Int) (p : Int × ByteArray) : ∀ w : WL, lastW x (w ++ [p]) = if p.1 = x then some p.2 else lastW x w
  | [] => by simp [lastW]
  | q :: r => by
    rw [List.cons_append, lastW, lastW_app x p r, lastW]
    by_cases hp : p.1 = x
    · simp [hp]
    · simp [hp]

theorem readPl {β : Type} {F : Nat} {x a c z : Int} {b : Bool} {l : List ByteArray} {w : WL} {s : ByteArray} {K0 : ByteArray → Int → ByteArray → Option β} {K1 : Option β} (hw : w.length ≤ 300) : ∀ (i k : Nat), i ≤ w.length → i < k →
    f72_1_r2000006_l1 F a b c l w x s z K0 K1 k ((i : Int) - 1) = (match lastW x (w.take i) with | some t => K0 t x t | none => K1)
  | _, 0, _, h => by omega
  | 0, k + 1, _, _ => by
    rw [f72_1_r2000006_l1, cf (by omega)]; rfl
  | i + 1, k + 1, hi, hk => by
    have h1 : i < w.length := by omega
    have e1 : (((i + 1 : Nat) : Int) - 1) = (i : Int) := by omega
    rw [e1, f72_1_r2000006_l1, ct (by omega), ct (by omega), ct (by omega), w64 (by omega) (by omega), readPl hw i k (by omega) (by omega)]
    have hg : w.getD (0 + (i : Int).toNat) ((0, ByteArray.empty) : Int × ByteArray) = w[i] := by simp [h1]
    rw [hg, List.take_succ_eq_append_getElem h1, lastW_app]
    by_cases hp : w[i].1 = x
    · rw [if_pos hp, show (w[i].1 == x) = true from by simp [hp], cond_true, hp]
    · rw [if_neg hp, show (w[i].1 == x) = false from by simp [hp], cond_false]

theorem lastW_none {x : Int} : ∀ {w : WL}, (∀ p ∈ w, p.1 ≠ x) → lastW x w = none
  | [], _ => rfl
  | p :: r, h => by rw [lastW, lastW_none (fun q hq => h q (by simp [hq]))]; simp [h p (by simp)]

theorem readP {β : Type} {F n k : Nat} (hF : 400 ≤ F) {x a c : Int} {b : Bool} {l : List ByteArray} {w : WL} (h : DS n k a c l w) {K : ByteArray → Int → Option β} : f72_1 F x a b c l w K = K (rd x b l w).1 (rd x b l w).2 := by
  have hk := h.k300; have hwl := h.wl
  rw [f72_1]
  cases b with
  | true => rfl
  | false =>
    rw [cond_false, f104_1, f72_1_r2000006, w64 (by omega) (by omega), readPl (by omega) w.length F (Nat.le_refl _) (by omega), List.take_length, rd, if_neg (by simp)]
    by_cases hx : 0 ≤ x ∧ x < (l.length : Int)
    · rw [if_pos hx, last_eq]
      cases hq : lastW x w with
      | none => simp only [keptP]; rw [kp, if_pos hx]
      | some t => simp only [kp, if_pos hx]
    · rw [if_neg hx, lastW_none (fun p hp he => hx (by have := h.wb p hp; have := h.len; omega))]
      simp only [keptP]; rw [kp, if_neg hx]

/-! ### A write -/

def dec (a : Int) : Int := if a = -1 then a else a - 1

/-- What a write is handed on as. -/
def wrB {β : Type} (x : Int) (t : ByteArray) (a : Int) (b : Bool) (c : Int) (l : List ByteArray) (w : WL) (K0 : Int → Int → Bool → Int → Option β) (K1 : Int → Bool → Int → WL → Option β) : Option β :=
  if b then K0 5 a b c else if ¬ (0 ≤ x ∧ x < (l.length : Int)) then K0 3 a b c else if t.size ≠ 64 then K0 4 a b c else if a = 0 then K0 5 (-1) true c else K1 (dec a) b (c + 1) (w ++ [(x, t)])

theorem writeP {β : Type} {F n k : Nat} {x a c : Int} {t : ByteArray} {b : Bool} {l : List ByteArray} {w : WL} (h : DS n k a c l w) {K0 : Int → Int → Bool → Int → Option β} {K1 : Int → Bool → Int → WL → Option β} :
    f55_1 F x t a b c l w K0 K1 = wrB x t a b c l w K0 K1 := by
  have hk := h.k300; have hwl := h.wl; have ha := h.ar; have hc := h.cr
  rw [f55_1, wrB]
  cases b with
  | true => rfl
  | false =>
    rw [cond_false, if_neg (by simp), f65_1, f43_1, f96_1]
    by_cases h1 : 0 ≤ x
    · rw [ct (by omega)]
      by_cases h2 : x < (l.length : Int)
      · rw [if_neg (by simp [h1, h2]), decide_eq_true h2, Bool.not_true, cond_false]
        by_cases h3 : t.size = 64
        · rw [if_neg (by simp [h3]), show ((t.size : Int) == 64) = true from by simp [h3], Bool.not_true, cond_false]
          by_cases h4 : a = 0
          · subst h4; rfl
          · rw [if_neg h4, show (a == 0) = false from by simp [h4], cond_false, dec]
            by_cases h5 : a = -1
            · rw [if_pos h5, show (a == -1) = true from by simp [h5], cond_true, cond_false, ct (by omega), w64 (by omega) (by omega)]
            · rw [if_neg h5, show (a == -1) = false from by simp [h5], cond_false, cond_false, ct (by omega), w64 (x := a - 1) (by omega) (by omega), w64 (by omega) (by omega)]
        · rw [if_pos (by simpa using h3), show ((t.size : Int) == 64) = false from by simp; omega]; rfl
      · rw [if_pos (by omega), decide_eq_false h2]; rfl
    · rw [cf (by omega), if_pos (by omega)]; rfl

theorem writeR {β : Type} {F n k : Nat} {x a c : Int} {t : ByteArray} {b : Bool} {l : List ByteArray} {w : WL} (h : DS n k a c l w) {K0 : Int → Int → Bool → Int → Option β} {K1 : Int → Bool → Int → WL → Option β} :
    f61_1 F x t a b c l w K0 K1 = wrB x t a b c l w K0 K1 := by
  have hk := h.k300; have hwl := h.wl; have ha := h.ar; have hc := h.cr
  rw [f61_1, wrB]
  cases b with
  | true => rfl
  | false =>
    rw [cond_false, if_neg (by simp), f45_1, f100_1]
    by_cases h1 : 0 ≤ x
    · rw [cf (by omega)]
      by_cases h2 : x < (l.length : Int)
      · rw [if_neg (by simp [h1, h2]), cf (by omega)]
        by_cases h3 : t.size = 64
        · rw [if_neg (by simp [h3]), show ((t.size : Int) == 64) = true from by simp [h3], Bool.not_true, cond_false]
          by_cases h4 : a = 0
          · subst h4; rfl
          · rw [if_neg h4, show (a == 0) = false from by simp [h4], cond_false, dec]
            by_cases h5 : a = -1
            · rw [if_pos h5, cf (by omega), cond_false, ct (by omega), w64 (by omega) (by omega)]
            · rw [if_neg h5, ct (by omega), cond_false, ct (by omega), w64 (x := a - 1) (by omega) (by omega), w64 (by omega) (by omega)]
        · rw [if_pos (by simpa using h3), show ((t.size : Int) == 64) = false from by simp; omega]; rfl
      · rw [if_pos (by omega), ct (by omega)]
    · rw [ct (by omega), if_pos (by omega)]

/-! ### A flush, a crash -/

def put1 (l : List ByteArray) (p : Int × ByteArray) : List ByteArray := l.set p.1.toNat p.2
theorem put1_len (l : List ByteArray) (p : Int × ByteArray) : (put1 l p).length = l.length := by simp [put1]
theorem puts_len : ∀ (w : WL) (l : List ByteArray), (w.foldl put1 l).length = l.length
  | [], l => rfl
  | p :: r, l => by rw [List.foldl_cons, puts_len r, put1_len]

theorem flushPl {β : Type} {F n : Nat} {a c : Int} {b : Bool} {w : WL} {K : List ByteArray → Option β} (hw : w.length ≤ 300) (hb : ∀ p ∈ w, 0 ≤ p.1 ∧ p.1 < (n : Int)) : ∀ (r : WL) (i k : Nat) (l : List ByteArray), w.drop i = r → i ≤ w.length → r.length < k → l.length = n →
    f56_1_l6 F ((w.length : Nat) : Int) a b c w K k (i : Int) l = K (r.foldl put1 l)
  | [], i, 0, s, _, _, hk, _ => by simp at hk
  | _ :: _, i, 0, s, _, _, hk, _ => by simp at hk
  | [], i, k + 1, s, hd, hi, _, _ => by
    have := len_of_drop_nil hd hi
    rw [f56_1_l6, cf (by omega)]; rfl
  | p :: r, i, k + 1, l, hd, hi, hk, hl => by
    obtain ⟨h1, h2, h3⟩ := getD_of_drop (d := ((0, ByteArray.empty) : Int × ByteArray)) hd
    have hp := hb p (List.mem_of_mem_drop (by rw [hd]; simp))
    rw [f56_1_l6, ct (by omega), ct (by omega), ct (by omega), h2, ct (by omega), ct (by omega), w64 (by omega) (by omega), Nat.zero_add, List.foldl_cons]
    exact flushPl hw hb r (i + 1) k (put1 l p) h3 (by omega) (by simp at hk; omega) (by rw [put1_len]; exact hl)

theorem flushRl {β : Type} {F n : Nat} {a c : Int} {b : Bool} {w : WL} {K : List ByteArray → Option β} (hw : w.length ≤ 300) (hb : ∀ p ∈ w, 0 ≤ p.1 ∧ p.1 < (n : Int)) : ∀ (r : WL) (i k : Nat) (l : List ByteArray), w.drop i = r → i ≤ w.length → r.length < k → l.length = n →
    f99_1_l4 F a b c w K k (i : Int) l = K (r.foldl put1 l)
  | [], i, 0, s, _, _, hk, _ => by simp at hk
  | _ :: _, i, 0, s, _, _, hk, _ => by simp at hk
  | [], i, k + 1, s, hd, hi, _, _ => by
    have := len_of_drop_nil hd hi
    rw [f99_1_l4, cf (by omega)]; rfl
  | p :: r, i, k + 1, l, hd, hi, hk, hl => by
    obtain ⟨h1, h2, h3⟩ := getD_of_drop (d := ((0, ByteArray.empty) : Int × ByteArray)) hd
    have hp := hb p (List.mem_of_mem_drop (by rw [hd]; simp))
    rw [f99_1_l4, ct (by omega), ct (by omega), ct (by omega), h2, ct (by omega), ct (by omega), w64 (by omega) (by omega), Nat.zero_add, List.foldl_cons]
    exact flushRl hw hb r (i + 1) k (put1 l p) h3 (by omega) (by simp at hk; omega) (by rw [put1_len]; exact hl)

def flB {β : Type} (a : Int) (b : Bool) (c : Int) (l : List ByteArray) (w : WL) (K0 : Int → Bool → Int → Option β) (K1 : Int → Bool → Int → List ByteArray → WL → Option β) : Option β :=
  if b then K0 a b c else if a = 0 then K0 (-1) true c else K1 (dec a) b (c + 1) (w.foldl put1 l) []

theorem flushP {β : Type} {F n k : Nat} (hF : 400 ≤ F) {a c : Int} {b : Bool} {l : List ByteArray} {w : WL} (h : DS n k a c l w) {K0 : Int → Bool → Int → Option β} {K1 : Int → Bool → Int → List ByteArray → WL → Option β} :
    f56_1 F a b c l w K0 K1 = flB a b c l w K0 K1 := by
  have hk := h.k300; have hwl := h.wl; have ha := h.ar; have hc := h.cr
  rw [f56_1, flB, f96_1]
  cases b with
  | true => rfl
  | false =>
    rw [cond_false, if_neg (by simp)]
    by_cases h4 : a = 0
    · subst h4; rfl
    · rw [if_neg h4, show (a == 0) = false from by simp [h4], cond_false, dec]
      by_cases h5 : a = -1
      · rw [if_pos h5, show (a == -1) = true from by simp [h5], cond_true, Bool.not_true, cond_false, w64 (by omega) (by omega)]
        exact flushPl (by omega) h.wb w 0 F l rfl (by omega) (by omega) h.len
      · rw [if_neg h5, show (a == -1) = false from by simp [h5], cond_false, Bool.not_true, cond_false, w64 (x := a - 1) (by omega) (by omega), w64 (by omega) (by omega)]
        exact flushPl (by omega) h.wb w 0 F l rfl (by omega) (by omega) h.len

theorem flushR {β : Type} {F n k : Nat} (hF : 400 ≤ F) {a c : Int} {b : Bool} {l : List ByteArray} {w : WL} (h : DS n k a c l w) {K0 : Int → Bool → Int → Option β} {K1 : Int → Bool → Int → List ByteArray → WL → Option β} :
    f99_1 F a b c l w K0 K1 = flB a b c l w K0 K1 := by
  have hk := h.k300; have hwl := h.wl; have ha := h.ar; have hc := h.cr
  rw [f99_1, flB, f100_1]
  cases b with
  | true => rfl
  | false =>
    rw [cond_false, if_neg (by simp)]
    by_cases h4 : a = 0
    · subst h4; rfl
    · rw [if_neg h4, show (a == 0) = false from by simp [h4], cond_false, dec]
      by_cases h5 : a = -1
      · rw [if_pos h5, cf (by omega), Bool.not_true, cond_false, w64 (by omega) (by omega)]
        exact flushRl (by omega) h.wb w 0 F l rfl (by omega) (by omega) h.len
      · rw [if_neg h5, ct (by omega), Bool.not_true, cond_false, w64 (x := a - 1) (by omega) (by omega), w64 (by omega) (by omega)]
        exact flushRl (by omega) h.wb w 0 F l rfl (by omega) (by omega) h.len

section
variable {n k : Nat} {a c : Int} {l : List ByteArray} {w : WL}
theorem DS.more (h : DS n k a c l w) (hk : k < 300) : DS n (k + 1) a c l w := ⟨h.n40, by omega, h.len, by have := h.wl; omega, h.wb, h.ar, by have := h.cr; omega⟩
theorem DS.off (h : DS n k a c l w) (hk : k < 300) : DS n (k + 1) (-1) c l w := ⟨h.n40, by omega, h.len, by have := h.wl; omega, h.wb, by omega, by have := h.cr; omega⟩
theorem DS.fuse (h : DS n k a c l w) (hk : k < 300) {x : Int} (hx : x ≤ 9223372036854775807) : DS n (k + 1) (if (-1) > x then (-1) else x) c l w := ⟨h.n40, by omega, h.len, by have := h.wl; omega, h.wb, by split <;> omega, by have := h.cr; omega⟩
theorem DS.wrote (h : DS n k a c l w) (hk : k < 300) (h0 : a ≠ 0) {x : Int} {t : ByteArray} (hx : 0 ≤ x ∧ x < (l.length : Int)) : DS n (k + 1) (dec a) (c + 1) l (w ++ [(x, t)]) :=
  ⟨h.n40, by omega, h.len, by have := h.wl; simp; omega, fun p hp => by
    rcases List.mem_append.1 hp with hp | hp
    · exact h.wb p hp
    · simp at hp; subst hp; rw [← h.len]; exact hx, by have := h.ar; unfold dec; split <;> omega, by have := h.cr; omega⟩
theorem DS.flushed (h : DS n k a c l w) (hk : k < 300) (h0 : a ≠ 0) : DS n (k + 1) (dec a) (c + 1) (w.foldl put1 l) [] :=
  ⟨h.n40, by omega, by rw [puts_len]; exact h.len, by simp, fun p hp => (by cases hp), by have := h.ar; unfold dec; split <;> omega, by have := h.cr; omega⟩
end

/-! ### States -/

/-- What comes of a write, of a flush: an answer, and the state. -/
def wS (x : Int) (t : ByteArray) (a : Int) (b : Bool) (c : Int) (l : List ByteArray) (w : WL) : Int × Int × Bool × Int × WL :=
  if b then (5, a, b, c, w) else if ¬ (0 ≤ x ∧ x < (l.length : Int)) then (3, a, b, c, w) else if t.size ≠ 64 then (4, a, b, c, w) else if a = 0 then (5, -1, true, c, w) else (0, dec a, b, c + 1, w ++ [(x, t)])

theorem wrB_eq {β : Type} {x a c : Int} {t : ByteArray} {b : Bool} {l : List ByteArray} {w : WL} {K0 : Int → Int → Bool → Int → Option β} {K1 : Int → Bool → Int → WL → Option β} :
    wrB x t a b c l w K0 K1 = if (wS x t a b c l w).1 = 0 then K1 (wS x t a b c l w).2.1 (wS x t a b c l w).2.2.1 (wS x t a b c l w).2.2.2.1 (wS x t a b c l w).2.2.2.2 else K0 (wS x t a b c l w).1 (wS x t a b c l w).2.1 (wS x t a b c l w).2.2.1 (wS x t a b c l w).2.2.2.1 := by
  unfold wrB wS
  split
  · simp
  · split
    · simp
    · split
      · simp
      · split <;> simp

theorem wS_same {x a c : Int} {t : ByteArray} {b : Bool} {l : List ByteArray} {w : WL} (h : (wS x t a b c l w).1 ≠ 0) : (wS x t a b c l w).2.2.2.2 = w := by
  unfold wS at h ⊢
  split
  · rfl
  · split
    · rfl
    · split
      · rfl
      · split
        · rfl
        · rename_i h1 h2 h3 h4
          rw [if_neg h1, if_neg h2, if_neg h3, if_neg h4] at h
          exact (h rfl).elim

theorem wS_ok {n k : Nat} {x a c : Int} {t : ByteArray} {b : Bool} {l : List ByteArray} {w : WL} (h : DS n k a c l w) (hk : k < 300) : DS n (k + 1) (wS x t a b c l w).2.1 (wS x t a b c l w).2.2.2.1 l (wS x t a b c l w).2.2.2.2 := by
  unfold wS
  split
  · exact h.more hk
  · split
    · exact h.more hk
    · rename_i h2
      split
      · exact h.more hk
      · split
        · exact h.off hk
        · rename_i h4
          exact h.wrote hk h4 (Classical.not_not.1 h2)

def fS (a : Int) (b : Bool) (c : Int) (l : List ByteArray) (w : WL) : Int × Int × Bool × Int × List ByteArray × WL :=
  if b then (5, a, b, c, l, w) else if a = 0 then (5, -1, true, c, l, w) else (0, dec a, b, c + 1, w.foldl put1 l, [])

theorem flB_eq {β : Type} {a c : Int} {b : Bool} {l : List ByteArray} {w : WL} {K0 : Int → Bool → Int → Option β} {K1 : Int → Bool → Int → List ByteArray → WL → Option β} :
    flB a b c l w K0 K1 = if (fS a b c l w).1 = 0 then K1 (fS a b c l w).2.1 (fS a b c l w).2.2.1 (fS a b c l w).2.2.2.1 (fS a b c l w).2.2.2.2.1 (fS a b c l w).2.2.2.2.2 else K0 (fS a b c l w).2.1 (fS a b c l w).2.2.1 (fS a b c l w).2.2.2.1 := by
  unfold flB fS
  split
  · simp
  · split <;> simp

theorem fS_same {a c : Int} {b : Bool} {l : List ByteArray} {w : WL} (h : (fS a b c l w).1 ≠ 0) : (fS a b c l w).1 = 5 ∧ (fS a b c l w).2.2.2.2.1 = l ∧ (fS a b c l w).2.2.2.2.2 = w := by
  unfold fS at h ⊢
  split
  · exact ⟨rfl, rfl, rfl⟩
  · split
    · exact ⟨rfl, rfl, rfl⟩
    · rename_i h1 h2
      rw [if_neg h1, if_neg h2] at h
      exact (h rfl).elim

theorem fS_ok {n k : Nat} {a c : Int} {b : Bool} {l : List ByteArray} {w : WL} (h : DS n k a c l w) (hk : k < 300) : DS n (k + 1) (fS a b c l w).2.1 (fS a b c l w).2.2.2.1 (fS a b c l w).2.2.2.2.1 (fS a b c l w).2.2.2.2.2 := by
  unfold fS
  split
  · exact h.more hk
  · split
    · exact h.off hk
    · rename_i h4
      exact h.flushed hk h4

end Go.Proofs.YtillbabmlfjegaaDoor.X
end

section
/- A disk: crashes, coming up, a write and a flush; in one form. -/
namespace Go.Proofs.YtillbabmlfjegaaDoor.X
open Go Go.Proofs.YtillbabmlfjegaaDoor.Ev
set_option linter.unusedSectionVars false
variable [FZ]
set_option linter.unusedVariables false
set_option linter.unusedSimpArgs false

abbrev St := Int × Int × Bool × Int × List ByteArray × WL

/-- A write, then a flush. -/
def layS (x : Int) (t : ByteArray) (a : Int) (b : Bool) (c : Int) (l : List ByteArray) (w : WL) : St :=
  if (wS x t a b c l w).1 ≠ 0 then ((wS x t a b c l w).1, (wS x t a b c l w).2.1, (wS x t a b c l w).2.2.1, (wS x t a b c l w).2.2.2.1, l, w)
  else fS (wS x t a b c l w).2.1 (wS x t a b c l w).2.2.1 (wS x t a b c l w).2.2.2.1 l (wS x t a b c l w).2.2.2.2

def app {β : Type} (K : Int → Int → Bool → Int → List ByteArray → WL → Option β) (s : St) : Option β := K s.1 s.2.1 s.2.2.1 s.2.2.2.1 s.2.2.2.2.1 s.2.2.2.2.2

theorem fl_app {β : Type} {a c : Int} {b : Bool} {l : List ByteArray} {w : WL} {K : Int → Int → Bool → Int → List ByteArray → WL → Option β} :
    (if (fS a b c l w).1 = 0 then K 0 (fS a b c l w).2.1 (fS a b c l w).2.2.1 (fS a b c l w).2.2.2.1 (fS a b c l w).2.2.2.2.1 (fS a b c l w).2.2.2.2.2 else K 5 (fS a b c l w).2.1 (fS a b c l w).2.2.1 (fS a b c l w).2.2.2.1 l w) = app K (fS a b c l w) := by
  by_cases q : (fS a b c l w).1 = 0
  · rw [if_pos q, app, q]
  · obtain ⟨h1, h2, h3⟩ := fS_same q
    rw [if_neg q, app, h1, h2, h3]

theorem layS_ok {m k : Nat} {a d : Int} {b : Bool} {l : List ByteArray} {w : WL} {x : Int} {t : ByteArray} (h : DS m k a d l w) (hk : k < 299) : DS m (k + 2) (layS x t a b d l w).2.1 (layS x t a b d l w).2.2.2.1 (layS x t a b d l w).2.2.2.2.1 (layS x t a b d l w).2.2.2.2.2 := by
  have h1 := wS_ok (x := x) (t := t) (b := b) h (by omega)
  unfold layS
  by_cases q : (wS x t a b d l w).1 = 0
  · rw [if_neg (show ¬ (wS x t a b d l w).1 ≠ 0 from fun hh => hh q)]
    exact fS_ok h1 (by omega)
  · rw [if_pos (show (wS x t a b d l w).1 ≠ 0 from q)]
    rw [wS_same q] at h1
    exact h1.more (by omega)

end Go.Proofs.YtillbabmlfjegaaDoor.X
end

section
namespace Go.Proofs.YtillbabmlfjegaaDoor.X
open Go Go.Proofs.YtillbabmlfjegaaDoor.Ev Go.Proofs
set_option linter.unusedVariables false
set_option linter.unusedSectionVars false
/-! pentimentoref06.Disk).Crash -/
noncomputable def f62_1_l1 {β : Type} (F : Nat) (v2 : Int) (v3 : Bool) (v4 : Int) (v6 : List (Int × ByteArray)) (v7 : List Bool) (K0 : List ByteArray → Option β) : Nat → Int → List ByteArray → Option β
  | 0, _, _ => none
  | k + 1, v1, v5 => cond (decide (v1 < ((v6.length : Nat) : Int))) (cond (decide (v1 < ((v7.length : Nat) : Int))) (cond (decide ((0 : Int) ≤ v1 ∧ v1 < ((v6.length : Nat) : Int))) (cond (decide (0 + v1.toNat < v6.length)) (cond (decide ((0 : Int) ≤ v1 ∧ v1 < ((v7.length : Nat) : Int))) (cond (decide (0 + v1.toNat < v7.length)) (cond (v7.getD (0 + v1.toNat) false) (cond (decide ((0 : Int) ≤ (v6.getD (0 + v1.toNat) (0, ByteArray.empty)).1 ∧ (v6.getD (0 + v1.toNat) (0, ByteArray.empty)).1 < ((v5.length : Nat) : Int))) (cond (decide (0 + (((v6.getD (0 + v1.toNat) (0, ByteArray.empty)).1).toNat) < v5.length)) (f62_1_l1 F v2 v3 v4 v6 v7 K0 k (IntKind.i64.wrap (v1 + 1)) (v5.set (0 + (((v6.getD (0 + v1.toNat) (0, ByteArray.empty)).1).toNat)) ((v6.getD (0 + v1.toNat) (0, ByteArray.empty)).2))) none) none) (f62_1_l1 F v2 v3 v4 v6 v7 K0 k (IntKind.i64.wrap (v1 + 1)) v5)) none) none) none) none) (K0 v5)) (K0 v5)
noncomputable def f62_1 {β : Type} (F : Nat) (a1 : Int) (a2 : Bool) (a3 : Int) (a4 : List ByteArray) (a5 : List (Int × ByteArray)) (a6 : List Bool) (K0 : List ByteArray → List (Int × ByteArray) → Option β) : Option β := f62_1_l1 F a1 a2 a3 a5 a6 (fun x8 => K0 x8 []) F 0 a4
variable [FZ]
def sh62_1 : Sh := ⟨[.lf (.ptr 0 0), .lf (.full 3)], [some ⟨some false, [.full 1, .full 2, .int .i64, .bool, .int .i64]⟩, some ⟨some false, [.seq .str 0]⟩, some ⟨none, [.seq (.pair (.int .i64) .str) 0]⟩, some ⟨none, [.seq .bool 0]⟩]⟩
noncomputable def S62_1 (F : Nat) (o : Summ) : Summ := mkS sh62_1 (fun d K => f62_1 F d.2.1.2.2.2.1 d.2.1.2.2.2.2.1 d.2.1.2.2.2.2.2.1 d.2.2.1.2.1 d.2.2.2.1.2.1 d.2.2.2.2.1.2.1 (fun (y3 : List ByteArray) (y6 : List (Int × ByteArray)) => K [] [some ⟨false, [.full 1, .full 4, .int .i64 (-1), .bool true, .int .i64 d.2.1.2.2.2.2.2.1]⟩, some ⟨false, [.seq .str 0 y3]⟩, some ⟨d.2.2.2.1.1, [.seq (.pair (.int .i64) .str) 0 d.2.2.2.1.2.1]⟩, some ⟨d.2.2.2.2.1.1, [.seq .bool 0 d.2.2.2.2.1.2.1]⟩, some ⟨false, [.seq (.pair (.int .i64) .str) 0 y6]⟩])) o
noncomputable def code62 : Code := bodyOf Tryd.f62
noncomputable def b62_0 : Code := cB (cB (cR (cL (code62))))
theorem scopes62 : scopesOf code62 = [] := by kernel_rfl
theorem ranges62 : rangesOf code62 = [] := by kernel_rfl
theorem loops62 : loopsOf code62 = [b62_0] := by kernel_rfl
theorem enter62 : ∀ args w, (callFunc 62 args).run Tryd.prog w = .ok (.enter 62 args) w := enter_of (fn := Tryd.f62) (by kernel_rfl) (by kernel_rfl) (by kernel_rfl)
noncomputable def T62_1 (F : Nat) : FuncId → Option Summ := tab []
def sh62_1_l1 : Sh := ⟨[.lf (.ptr 0 0), .lf (.full 3), .lf (.int .i64)], [some ⟨some false, [.full 1, .full 2, .int .i64, .bool, .int .i64]⟩, some ⟨some false, [.seq .str 0]⟩, some ⟨none, [.seq (.pair (.int .i64) .str) 0]⟩, some ⟨none, [.seq .bool 0]⟩]⟩
noncomputable def G62_1_1 (F k : Nat) : LoopS := mkG sh62_1_l1 [0, 1, 4] (outT [(.exit 0, [0])]) (fun d K => f62_1_l1 F d.2.1.2.2.2.1 d.2.1.2.2.2.2.1 d.2.1.2.2.2.2.2.1 d.2.2.2.1.2.1 d.2.2.2.2.1.2.1 (fun (y3 : List ByteArray) => K (.exit 0) [.tv (.lf (.ptr 0 0))] [some ⟨false, [.full 1, .full 2, .int .i64 d.2.1.2.2.2.1, .bool d.2.1.2.2.2.2.1, .int .i64 d.2.1.2.2.2.2.2.1]⟩, some ⟨false, [.seq .str 0 y3]⟩, some ⟨d.2.2.2.1.1, [.seq (.pair (.int .i64) .str) 0 d.2.2.2.1.2.1]⟩, some ⟨d.2.2.2.2.1.1, [.seq .bool 0 d.2.2.2.2.1.2.1]⟩]) k d.1.2.2.1 d.2.2.1.2.1) []
noncomputable def LT62_1 (F : Nat) : Nat → Option LoopS := ltab [(1, G62_1_1 F F)]
theorem L62_1_l1g (F k : Nat)   (l1 : Int → Bool → Int → List (Int × ByteArray) → List Bool → (List ByteArray → Option Res) → Nat → Int → List ByteArray → Option Res) (X1 : LoopS) (d : sh62_1_l1.den) (K : KL) : (fun (v2 : Int) (v3 : Bool) (v4 : Int) (v6 : List (Int × ByteArray)) (v7 : List Bool) (K0 : (List ByteArray → Option Res)) (k : Nat) (v1 : Int) (v5 : List ByteArray) => cond (decide (v1 < ((v6.length : Nat) : Int))) (cond (decide (v1 < ((v7.length : Nat) : Int))) (cond (decide ((0 : Int) ≤ v1 ∧ v1 < ((v6.length : Nat) : Int))) (cond (decide (0 + v1.toNat < v6.length)) (cond (decide ((0 : Int) ≤ v1 ∧ v1 < ((v7.length : Nat) : Int))) (cond (decide (0 + v1.toNat < v7.length)) (cond (v7.getD (0 + v1.toNat) false) (cond (decide ((0 : Int) ≤ (v6.getD (0 + v1.toNat) (0, ByteArray.empty)).1 ∧ (v6.getD (0 + v1.toNat) (0, ByteArray.empty)).1 < ((v5.length : Nat) : Int))) (cond (decide (0 + (((v6.getD (0 + v1.toNat) (0, ByteArray.empty)).1).toNat) < v5.length)) (l1 v2 v3 v4 v6 v7 K0 k (IntKind.i64.wrap (v1 + 1)) (v5.set (0 + (((v6.getD (0 + v1.toNat) (0, ByteArray.empty)).1).toNat)) ((v6.getD (0 + v1.toNat) (0, ByteArray.empty)).2))) none) none) (l1 v2 v3 v4 v6 v7 K0 k (IntKind.i64.wrap (v1 + 1)) v5)) none) none) none) none) (K0 v5)) (K0 v5)) d.2.1.2.2.2.1 d.2.1.2.2.2.2.1 d.2.1.2.2.2.2.2.1 d.2.2.2.1.2.1 d.2.2.2.2.1.2.1 (fun (y3 : List ByteArray) => K (.exit 0) [.tv (.lf (.ptr 0 0))] [some ⟨false, [.full 1, .full 2, .int .i64 d.2.1.2.2.2.1, .bool d.2.1.2.2.2.2.1, .int .i64 d.2.1.2.2.2.2.2.1]⟩, some ⟨false, [.seq .str 0 y3]⟩, some ⟨d.2.2.2.1.1, [.seq (.pair (.int .i64) .str) 0 d.2.2.2.1.2.1]⟩, some ⟨d.2.2.2.2.1.1, [.seq .bool 0 d.2.2.2.2.1.2.1]⟩]) k d.1.2.2.1 d.2.2.1.2.1 = roundOf Tryd.prog (tab []) (xw []) 50 4 (ltab [(1, X1)]) (mkG sh62_1_l1 [0, 1, 4] (outT [(.exit 0, [0])]) (fun d K => l1 d.2.1.2.2.2.1 d.2.1.2.2.2.2.1 d.2.1.2.2.2.2.2.1 d.2.2.2.1.2.1 d.2.2.2.2.1.2.1 (fun (y3 : List ByteArray) => K (.exit 0) [.tv (.lf (.ptr 0 0))] [some ⟨false, [.full 1, .full 2, .int .i64 d.2.1.2.2.2.1, .bool d.2.1.2.2.2.2.1, .int .i64 d.2.1.2.2.2.2.2.1]⟩, some ⟨false, [.seq .str 0 y3]⟩, some ⟨d.2.2.2.1.1, [.seq (.pair (.int .i64) .str) 0 d.2.2.2.1.2.1]⟩, some ⟨d.2.2.2.2.1.1, [.seq .bool 0 d.2.2.2.2.1.2.1]⟩]) k d.1.2.2.1 d.2.2.1.2.1) []) b62_0 (encT sh62_1_l1.vs d.1) (encH sh62_1_l1.h d.2) K := by kernel_rfl
theorem L62_1_1 (F : Nat) : LoopOK Tryd.prog (T62_1 F) (xw []) 50 4 (LT62_1 F) (G62_1_1 F F) b62_0 :=
  loopOK_of (s := sh62_1_l1) (live := [0, 1, 4]) (out := (outT [(.exit 0, [0])])) (mv := []) (fun k d K => f62_1_l1 F d.2.1.2.2.2.1 d.2.1.2.2.2.2.1 d.2.1.2.2.2.2.2.1 d.2.2.2.1.2.1 d.2.2.2.2.1.2.1 (fun (y3 : List ByteArray) => K (.exit 0) [.tv (.lf (.ptr 0 0))] [some ⟨false, [.full 1, .full 2, .int .i64 d.2.1.2.2.2.1, .bool d.2.1.2.2.2.2.1, .int .i64 d.2.1.2.2.2.2.2.1]⟩, some ⟨false, [.seq .str 0 y3]⟩, some ⟨d.2.2.2.1.1, [.seq (.pair (.int .i64) .str) 0 d.2.2.2.1.2.1]⟩, some ⟨d.2.2.2.2.1.1, [.seq .bool 0 d.2.2.2.2.1.2.1]⟩]) k d.1.2.2.1 d.2.2.1.2.1) F (fun d K => by kernel_rfl)  (fun k d K => Eq.mp (by kernel_rfl) (L62_1_l1g F k   (f62_1_l1 F) (G62_1_1 F F) d K))
theorem E62_1g (F : Nat)  (l1 : Int → Bool → Int → List (Int × ByteArray) → List Bool → (List ByteArray → Option Res) → Nat → Int → List ByteArray → Option Res)  (d : sh62_1.den) (K : KF) : evBody Tryd.prog (tab []) (xw []) 50 4 (ltab [(1, mkG sh62_1_l1 [0, 1, 4] (outT [(.exit 0, [0])]) (fun d K => l1 d.2.1.2.2.2.1 d.2.1.2.2.2.2.1 d.2.1.2.2.2.2.2.1 d.2.2.2.1.2.1 d.2.2.2.2.1.2.1 (fun (y3 : List ByteArray) => K (.exit 0) [.tv (.lf (.ptr 0 0))] [some ⟨false, [.full 1, .full 2, .int .i64 d.2.1.2.2.2.1, .bool d.2.1.2.2.2.2.1, .int .i64 d.2.1.2.2.2.2.2.1]⟩, some ⟨false, [.seq .str 0 y3]⟩, some ⟨d.2.2.2.1.1, [.seq (.pair (.int .i64) .str) 0 d.2.2.2.1.2.1]⟩, some ⟨d.2.2.2.2.1.1, [.seq .bool 0 d.2.2.2.2.1.2.1]⟩]) F d.1.2.2.1 d.2.2.1.2.1) [])]) code62 Tryd.f62.results.toList (encT sh62_1.vs d.1) (encH sh62_1.h d.2) K = (fun (a1 : Int) (a2 : Bool) (a3 : Int) (a4 : List ByteArray) (a5 : List (Int × ByteArray)) (a6 : List Bool) (K0 : (List ByteArray → List (Int × ByteArray) → Option Res)) => l1 a1 a2 a3 a5 a6 (fun x8 => K0 x8 []) F 0 a4) d.2.1.2.2.2.1 d.2.1.2.2.2.2.1 d.2.1.2.2.2.2.2.1 d.2.2.1.2.1 d.2.2.2.1.2.1 d.2.2.2.2.1.2.1 (fun (y3 : List ByteArray) (y6 : List (Int × ByteArray)) => K [] [some ⟨false, [.full 1, .full 4, .int .i64 (-1), .bool true, .int .i64 d.2.1.2.2.2.2.2.1]⟩, some ⟨false, [.seq .str 0 y3]⟩, some ⟨d.2.2.2.1.1, [.seq (.pair (.int .i64) .str) 0 d.2.2.2.1.2.1]⟩, some ⟨d.2.2.2.2.1.1, [.seq .bool 0 d.2.2.2.2.1.2.1]⟩, some ⟨false, [.seq (.pair (.int .i64) .str) 0 y6]⟩]) := by kernel_rfl
theorem E62_1 (F : Nat) (d : sh62_1.den) (K : KF) : evBody Tryd.prog (T62_1 F) (xw []) 50 4 (LT62_1 F) code62 Tryd.f62.results.toList (encT sh62_1.vs d.1) (encH sh62_1.h d.2) K = f62_1 F d.2.1.2.2.2.1 d.2.1.2.2.2.2.1 d.2.1.2.2.2.2.2.1 d.2.2.1.2.1 d.2.2.2.1.2.1 d.2.2.2.2.1.2.1 (fun (y3 : List ByteArray) (y6 : List (Int × ByteArray)) => K [] [some ⟨false, [.full 1, .full 4, .int .i64 (-1), .bool true, .int .i64 d.2.1.2.2.2.2.2.1]⟩, some ⟨false, [.seq .str 0 y3]⟩, some ⟨d.2.2.2.1.1, [.seq (.pair (.int .i64) .str) 0 d.2.2.2.1.2.1]⟩, some ⟨d.2.2.2.2.1.1, [.seq .bool 0 d.2.2.2.2.1.2.1]⟩, some ⟨false, [.seq (.pair (.int .i64) .str) 0 y6]⟩]) := Eq.mp (by kernel_rfl) (E62_1g F  (f62_1_l1 F)  d K)
theorem S62_1_ok (F : Nat) (o : Summ) (ho : SoundFn Tryd.prog 62 o) : SoundFn Tryd.prog 62 (S62_1 F o) :=
  soundFn_of (fn := Tryd.f62) (c := code62) rfl rfl (by kernel_rfl) tab_nil (by kernel_rfl) (by kernel_rfl) ho (by rw [loops62]; exact (loopsOK_cons (by kernel_rfl) (L62_1_1 F) loopsOK_nil)) (by rw [scopes62]; exact scopesOK_nil) (by rw [ranges62]; exact rangesOK_nil) (E62_1 F)
end Go.Proofs.YtillbabmlfjegaaDoor.X
end

section
namespace Go.Proofs.YtillbabmlfjegaaDoor.X
open Go Go.Proofs.YtillbabmlfjegaaDoor.Ev Go.Proofs
set_option linter.unusedVariables false
set_option linter.unusedSectionVars false
/-! pentimentoref06.Disk).Up -/
noncomputable def f63_1 {β : Type} (F : Nat) (a1 : Int) (a2 : Bool) (a3 : Int) (a4 : List ByteArray) (a5 : List (Int × ByteArray)) (K0 : Option β) (K1 : List (Int × ByteArray) → Option β) : Option β := cond (!a2) (K0) (K1 [])
variable [FZ]
def sh63_1 : Sh := ⟨[.lf (.ptr 0 0)], [some ⟨some false, [.full 1, .full 2, .int .i64, .bool, .int .i64]⟩, some ⟨none, [.seq .str 0]⟩, some ⟨none, [.seq (.pair (.int .i64) .str) 0]⟩]⟩
noncomputable def S63_1 (F : Nat) (o : Summ) : Summ := mkS sh63_1 (fun d K => f63_1 F d.2.1.2.2.2.1 d.2.1.2.2.2.2.1 d.2.1.2.2.2.2.2.1 d.2.2.1.2.1 d.2.2.2.1.2.1 (K [.lf (.int .i64 21)] [some ⟨false, [.full 1, .full 2, .int .i64 d.2.1.2.2.2.1, .bool d.2.1.2.2.2.2.1, .int .i64 d.2.1.2.2.2.2.2.1]⟩, some ⟨d.2.2.1.1, [.seq .str 0 d.2.2.1.2.1]⟩, some ⟨d.2.2.2.1.1, [.seq (.pair (.int .i64) .str) 0 d.2.2.2.1.2.1]⟩]) (fun (y6 : List (Int × ByteArray)) => K [.lf (.int .i64 0)] [some ⟨false, [.full 1, .full 3, .int .i64 (-1), .bool false, .int .i64 d.2.1.2.2.2.2.2.1]⟩, some ⟨d.2.2.1.1, [.seq .str 0 d.2.2.1.2.1]⟩, some ⟨d.2.2.2.1.1, [.seq (.pair (.int .i64) .str) 0 d.2.2.2.1.2.1]⟩, some ⟨false, [.seq (.pair (.int .i64) .str) 0 y6]⟩])) o
noncomputable def code63 : Code := bodyOf Tryd.f63
theorem scopes63 : scopesOf code63 = [] := by kernel_rfl
theorem ranges63 : rangesOf code63 = [] := by kernel_rfl
theorem loops63 : loopsOf code63 = [] := by kernel_rfl
theorem enter63 : ∀ args w, (callFunc 63 args).run Tryd.prog w = .ok (.enter 63 args) w := enter_of (fn := Tryd.f63) (by kernel_rfl) (by kernel_rfl) (by kernel_rfl)
noncomputable def T63_1 (F : Nat) : FuncId → Option Summ := tab []
noncomputable def LT63_1 (F : Nat) : Nat → Option LoopS := ltab []
theorem E63_1g (F : Nat)    (d : sh63_1.den) (K : KF) : evBody Tryd.prog (tab []) (xw []) 17 3 (ltab []) code63 Tryd.f63.results.toList (encT sh63_1.vs d.1) (encH sh63_1.h d.2) K = (fun (a1 : Int) (a2 : Bool) (a3 : Int) (a4 : List ByteArray) (a5 : List (Int × ByteArray)) (K0 : (Option Res)) (K1 : (List (Int × ByteArray) → Option Res)) => cond (!a2) (K0) (K1 [])) d.2.1.2.2.2.1 d.2.1.2.2.2.2.1 d.2.1.2.2.2.2.2.1 d.2.2.1.2.1 d.2.2.2.1.2.1 (K [.lf (.int .i64 21)] [some ⟨false, [.full 1, .full 2, .int .i64 d.2.1.2.2.2.1, .bool d.2.1.2.2.2.2.1, .int .i64 d.2.1.2.2.2.2.2.1]⟩, some ⟨d.2.2.1.1, [.seq .str 0 d.2.2.1.2.1]⟩, some ⟨d.2.2.2.1.1, [.seq (.pair (.int .i64) .str) 0 d.2.2.2.1.2.1]⟩]) (fun (y6 : List (Int × ByteArray)) => K [.lf (.int .i64 0)] [some ⟨false, [.full 1, .full 3, .int .i64 (-1), .bool false, .int .i64 d.2.1.2.2.2.2.2.1]⟩, some ⟨d.2.2.1.1, [.seq .str 0 d.2.2.1.2.1]⟩, some ⟨d.2.2.2.1.1, [.seq (.pair (.int .i64) .str) 0 d.2.2.2.1.2.1]⟩, some ⟨false, [.seq (.pair (.int .i64) .str) 0 y6]⟩]) := by kernel_rfl
theorem E63_1 (F : Nat) (d : sh63_1.den) (K : KF) : evBody Tryd.prog (T63_1 F) (xw []) 17 3 (LT63_1 F) code63 Tryd.f63.results.toList (encT sh63_1.vs d.1) (encH sh63_1.h d.2) K = f63_1 F d.2.1.2.2.2.1 d.2.1.2.2.2.2.1 d.2.1.2.2.2.2.2.1 d.2.2.1.2.1 d.2.2.2.1.2.1 (K [.lf (.int .i64 21)] [some ⟨false, [.full 1, .full 2, .int .i64 d.2.1.2.2.2.1, .bool d.2.1.2.2.2.2.1, .int .i64 d.2.1.2.2.2.2.2.1]⟩, some ⟨d.2.2.1.1, [.seq .str 0 d.2.2.1.2.1]⟩, some ⟨d.2.2.2.1.1, [.seq (.pair (.int .i64) .str) 0 d.2.2.2.1.2.1]⟩]) (fun (y6 : List (Int × ByteArray)) => K [.lf (.int .i64 0)] [some ⟨false, [.full 1, .full 3, .int .i64 (-1), .bool false, .int .i64 d.2.1.2.2.2.2.2.1]⟩, some ⟨d.2.2.1.1, [.seq .str 0 d.2.2.1.2.1]⟩, some ⟨d.2.2.2.1.1, [.seq (.pair (.int .i64) .str) 0 d.2.2.2.1.2.1]⟩, some ⟨false, [.seq (.pair (.int .i64) .str) 0 y6]⟩]) := Eq.mp (by kernel_rfl) (E63_1g F    d K)
theorem S63_1_ok (F : Nat) (o : Summ) (ho : SoundFn Tryd.prog 63 o) : SoundFn Tryd.prog 63 (S63_1 F o) :=
  soundFn_of (fn := Tryd.f63) (c := code63) rfl rfl (by kernel_rfl) tab_nil (by kernel_rfl) (by kernel_rfl) ho (by rw [loops63]; exact loopsOK_nil) (by rw [scopes63]; exact scopesOK_nil) (by rw [ranges63]; exact rangesOK_nil) (E63_1 F)
end Go.Proofs.YtillbabmlfjegaaDoor.X
end

section
/- A disk: a crash, coming up. -/
namespace Go.Proofs.YtillbabmlfjegaaDoor.X
open Go Go.Proofs.YtillbabmlfjegaaDoor.Ev
set_option linter.unusedSectionVars false
variable [FZ]
set_option linter.unusedVariables false
set_option linter.unusedSimpArgs false

/-- A crash: the i-th write is kept where the i-th word says so. -/
def crB (ks : List Bool) : Nat → WL → List ByteArray → List ByteArray
  | _, [], l => l
  | i, p :: r, l => crB ks (i + 1) r (if ks.getD i false then put1 l p else l)

theorem crB_len (ks : List Bool) : ∀ (w : WL) (i : Nat) (l : List ByteArray), (crB ks i w l).length = l.length
  | [], _, l => rfl
  | p :: r, i, l => by
    rw [crB, crB_len ks r]
    split
    · exact put1_len l p
    · rfl

theorem crB_stop (ks : List Bool) : ∀ (w : WL) (i : Nat) (l : List ByteArray), ks.length ≤ i → crB ks i w l = l
  | [], _, l, _ => rfl
  | p :: r, i, l, h => by
    rw [crB, crB_stop ks r (i + 1) _ (by omega), getD_out h]; rfl

theorem crashPl {β : Type} {F n : Nat} {a c : Int} {b : Bool} {w : WL} {ks : List Bool} {K : List ByteArray → Option β} (hw : w.length ≤ 300) (hb : ∀ p ∈ w, 0 ≤ p.1 ∧ p.1 < (n : Int)) : ∀ (r : WL) (i k : Nat) (l : List ByteArray), w.drop i = r → i ≤ w.length → r.length < k → l.length = n →
    f25_1_l2 F ((w.length : Nat) : Int) a b c w ks K k (i : Int) l = K (crB ks i r l)
  | [], i, 0, s, _, _, hk, _ => by simp at hk
  | _ :: _, i, 0, s, _, _, hk, _ => by simp at hk
  | [], i, k + 1, s, hd, hi, _, _ => by
    have := len_of_drop_nil hd hi
    rw [f25_1_l2, cf (by omega)]; rfl
  | p :: r, i, k + 1, l, hd, hi, hk, hl => by
    obtain ⟨h1, h2, h3⟩ := getD_of_drop (d := ((0, ByteArray.empty) : Int × ByteArray)) hd
    have hp := hb p (List.mem_of_mem_drop (by rw [hd]; simp))
    have ih := fun l hl => crashPl (F := F) (a := a) (b := b) (c := c) (ks := ks) (K := K) hw hb r (i + 1) k l h3 (by omega) (by simp at hk; omega) hl
    push_cast at ih
    rw [f25_1_l2, ct (by omega), ct (by omega), ct (by omega), h2, w64 (by omega) (by omega), crB]
    by_cases hq : (i : Int) < ((ks.length : Nat) : Int)
    · have hg : ks.getD (0 + (i : Int).toNat) false = ks.getD i false := by rw [Nat.zero_add]; rfl
      rw [ct hq, ct (by omega), ct (by omega), hg]
      cases ks.getD i false with
      | false => rw [cond_false, ih l hl]; rfl
      | true => rw [cond_true, ct (by omega), ct (by omega), Nat.zero_add]; exact ih (put1 l p) (by rw [put1_len]; exact hl)
    · rw [cf hq, ih l hl, getD_out (by omega)]; rfl

theorem crashRl {β : Type} {F n : Nat} {a c : Int} {b : Bool} {w : WL} {ks : List Bool} {K : List ByteArray → Option β} (hw : w.length ≤ 300) (hb : ∀ p ∈ w, 0 ≤ p.1 ∧ p.1 < (n : Int)) : ∀ (r : WL) (i k : Nat) (l : List ByteArray), w.drop i = r → i ≤ w.length → r.length < k → l.length = n →
    f62_1_l1 F a b c w ks K k (i : Int) l = K (crB ks i r l)
  | [], i, 0, s, _, _, hk, _ => by simp at hk
  | _ :: _, i, 0, s, _, _, hk, _ => by simp at hk
  | [], i, k + 1, s, hd, hi, _, _ => by
    have := len_of_drop_nil hd hi
    rw [f62_1_l1, cf (by omega)]; rfl
  | p :: r, i, k + 1, l, hd, hi, hk, hl => by
    obtain ⟨h1, h2, h3⟩ := getD_of_drop (d := ((0, ByteArray.empty) : Int × ByteArray)) hd
    have hp := hb p (List.mem_of_mem_drop (by rw [hd]; simp))
    rw [f62_1_l1, ct (by omega)]
    by_cases hq : (i : Int) < ((ks.length : Nat) : Int)
    · have ih := fun l hl => crashRl (F := F) (a := a) (b := b) (c := c) (ks := ks) (K := K) hw hb r (i + 1) k l h3 (by omega) (by simp at hk; omega) hl
      push_cast at ih
      have hg : ks.getD (0 + (i : Int).toNat) false = ks.getD i false := by rw [Nat.zero_add]; rfl
      rw [ct hq, ct (by omega), ct (by omega), h2, w64 (by omega) (by omega), crB, ct (by omega), ct (by omega), hg]
      cases ks.getD i false with
      | false => rw [cond_false, ih l hl]; rfl
      | true => rw [cond_true, ct (by omega), ct (by omega), Nat.zero_add]; exact ih (put1 l p) (by rw [put1_len]; exact hl)
    · rw [cf hq, crB_stop ks _ i l (by omega)]

theorem crashP {β : Type} {F n k : Nat} (hF : 400 ≤ F) {a c : Int} {b : Bool} {l : List ByteArray} {w : WL} (h : DS n k a c l w) {ks : List Bool} {K : List ByteArray → WL → Option β} :
    f25_1 F a b c l w ks K = K (crB ks 0 w l) [] := by
  have hk := h.k300; have hwl := h.wl
  rw [f25_1]
  exact crashPl (by omega) h.wb w 0 F l rfl (by omega) (by omega) h.len

theorem crashR {β : Type} {F n k : Nat} (hF : 400 ≤ F) {a c : Int} {b : Bool} {l : List ByteArray} {w : WL} (h : DS n k a c l w) {ks : List Bool} {K : List ByteArray → WL → Option β} :
    f62_1 F a b c l w ks K = K (crB ks 0 w l) [] := by
  have hk := h.k300; have hwl := h.wl
  rw [f62_1]
  exact crashRl (by omega) h.wb w 0 F l rfl (by omega) (by omega) h.len

section
variable {n k : Nat} {a c : Int} {l : List ByteArray} {w : WL}
theorem DS.crashed (h : DS n k a c l w) (hk : k < 300) (ks : List Bool) : DS n (k + 1) (-1) c (crB ks 0 w l) [] :=
  ⟨h.n40, by omega, by rw [crB_len]; exact h.len, by simp, fun p hp => (by cases hp), by omega, by have := h.cr; omega⟩
theorem DS.came (h : DS n k a c l w) (hk : k < 300) : DS n (k + 1) (-1) c l [] :=
  ⟨h.n40, by omega, h.len, by simp, fun p hp => (by cases hp), by omega, by have := h.cr; omega⟩

end

end Go.Proofs.YtillbabmlfjegaaDoor.X
end

section
namespace Go.Proofs.YtillbabmlfjegaaDoor.X
open Go Go.Proofs.YtillbabmlfjegaaDoor.Ev Go.Proofs
set_option linter.unusedVariables false
set_option linter.unusedSectionVars false
/-! pentimentoref02.Entry -/
noncomputable def f113_1_l3 {β : Type} (F : Nat)  (K0 : Int → Option β) : Nat → Int → Int → Option β
  | 0, _, _ => none
  | k + 1, v1, v2 => cond (decide (v2 < 8)) (cond ((v1.tmod 2) == 1) (f113_1_l3 F K0 k (ixor .u32 (IntKind.u32.wrap (v1.tdiv 2)) 2197175160) (IntKind.i64.wrap (v2 + 1))) (f113_1_l3 F K0 k (IntKind.u32.wrap (v1.tdiv 2)) (IntKind.i64.wrap (v2 + 1)))) (K0 v1)
noncomputable def f113_1 {β : Type} (F : Nat) (a1 : Int) (K0 : Int → Option β) : Option β := f113_1_l3 F  (fun x3 => K0 x3) F (IntKind.u32.wrap a1) 0
variable [FZ]
def sh113_1 : Sh := ⟨[.lf (.int .u8)], []⟩
noncomputable def S113_1 (F : Nat) (o : Summ) : Summ := mkS sh113_1 (fun d K => f113_1 F d.1.1 (fun (y0 : Int) => K [.lf (.int .u32 y0)] [])) o
noncomputable def code113 : Code := bodyOf Tryd.f113
noncomputable def b113_0 : Code := cB (cB (cR (cL (cR (cR (code113))))))
theorem scopes113 : scopesOf code113 = [] := by kernel_rfl
theorem ranges113 : rangesOf code113 = [] := by kernel_rfl
theorem loops113 : loopsOf code113 = [b113_0] := by kernel_rfl
theorem enter113 : ∀ args w, (callFunc 113 args).run Tryd.prog w = .ok (.enter 113 args) w := enter_of (fn := Tryd.f113) (by kernel_rfl) (by kernel_rfl) (by kernel_rfl)
noncomputable def T113_1 (F : Nat) : FuncId → Option Summ := tab []
def sh113_1_l3 : Sh := ⟨[.lf (.int .u32), .lf (.int .i64)], []⟩
noncomputable def G113_1_3 (F k : Nat) : LoopS := mkG sh113_1_l3 [3, 4] (outT [(.exit 0, [3])]) (fun d K => f113_1_l3 F (fun (y0 : Int) => K (.exit 0) [.tv (.lf (.int .u32 y0))] []) k d.1.1 d.1.2.1) []
noncomputable def LT113_1 (F : Nat) : Nat → Option LoopS := ltab [(3, G113_1_3 F F)]
theorem L113_1_l3g (F k : Nat)   (l3 : (Int → Option Res) → Nat → Int → Int → Option Res) (X3 : LoopS) (d : sh113_1_l3.den) (K : KL) : (fun (K0 : (Int → Option Res)) (k : Nat) (v1 : Int) (v2 : Int) => cond (decide (v2 < 8)) (cond ((v1.tmod 2) == 1) (l3 K0 k (ixor .u32 (IntKind.u32.wrap (v1.tdiv 2)) 2197175160) (IntKind.i64.wrap (v2 + 1))) (l3 K0 k (IntKind.u32.wrap (v1.tdiv 2)) (IntKind.i64.wrap (v2 + 1)))) (K0 v1)) (fun (y0 : Int) => K (.exit 0) [.tv (.lf (.int .u32 y0))] []) k d.1.1 d.1.2.1 = roundOf Tryd.prog (tab []) (xw []) 20 0 (ltab [(3, X3)]) (mkG sh113_1_l3 [3, 4] (outT [(.exit 0, [3])]) (fun d K => l3 (fun (y0 : Int) => K (.exit 0) [.tv (.lf (.int .u32 y0))] []) k d.1.1 d.1.2.1) []) b113_0 (encT sh113_1_l3.vs d.1) (encH sh113_1_l3.h d.2) K := by kernel_rfl
theorem L113_1_3 (F : Nat) : LoopOK Tryd.prog (T113_1 F) (xw []) 20 0 (LT113_1 F) (G113_1_3 F F) b113_0 :=
  loopOK_of (s := sh113_1_l3) (live := [3, 4]) (out := (outT [(.exit 0, [3])])) (mv := []) (fun k d K => f113_1_l3 F (fun (y0 : Int) => K (.exit 0) [.tv (.lf (.int .u32 y0))] []) k d.1.1 d.1.2.1) F (fun d K => by kernel_rfl)  (fun k d K => Eq.mp (by kernel_rfl) (L113_1_l3g F k   (f113_1_l3 F) (G113_1_3 F F) d K))
theorem E113_1g (F : Nat)  (l3 : (Int → Option Res) → Nat → Int → Int → Option Res)  (d : sh113_1.den) (K : KF) : evBody Tryd.prog (tab []) (xw []) 20 0 (ltab [(3, mkG sh113_1_l3 [3, 4] (outT [(.exit 0, [3])]) (fun d K => l3 (fun (y0 : Int) => K (.exit 0) [.tv (.lf (.int .u32 y0))] []) F d.1.1 d.1.2.1) [])]) code113 Tryd.f113.results.toList (encT sh113_1.vs d.1) (encH sh113_1.h d.2) K = (fun (a1 : Int) (K0 : (Int → Option Res)) => l3  (fun x3 => K0 x3) F (IntKind.u32.wrap a1) 0) d.1.1 (fun (y0 : Int) => K [.lf (.int .u32 y0)] []) := by kernel_rfl
theorem E113_1 (F : Nat) (d : sh113_1.den) (K : KF) : evBody Tryd.prog (T113_1 F) (xw []) 20 0 (LT113_1 F) code113 Tryd.f113.results.toList (encT sh113_1.vs d.1) (encH sh113_1.h d.2) K = f113_1 F d.1.1 (fun (y0 : Int) => K [.lf (.int .u32 y0)] []) := Eq.mp (by kernel_rfl) (E113_1g F  (f113_1_l3 F)  d K)
theorem S113_1_ok (F : Nat) (o : Summ) (ho : SoundFn Tryd.prog 113 o) : SoundFn Tryd.prog 113 (S113_1 F o) :=
  soundFn_of (fn := Tryd.f113) (c := code113) rfl rfl (by kernel_rfl) tab_nil (by kernel_rfl) (by kernel_rfl) ho (by rw [loops113]; exact (loopsOK_cons (by kernel_rfl) (L113_1_3 F) loopsOK_nil)) (by rw [scopes113]; exact scopesOK_nil) (by rw [ranges113]; exact rangesOK_nil) (E113_1 F)
end Go.Proofs.YtillbabmlfjegaaDoor.X
end

section
namespace Go.Proofs.YtillbabmlfjegaaDoor.X
open Go Go.Proofs.YtillbabmlfjegaaDoor.Ev Go.Proofs
set_option linter.unusedVariables false
set_option linter.unusedSectionVars false
/-! pentimentoref02.Add -/
noncomputable def f83_1_l3 {β : Type} (F : Nat) (v3 : List Int) (K0 : Int → Option β) : Nat → Int → Int → Option β
  | 0, _, _ => none
  | k + 1, v1, v2 => cond (decide (v2 < ((v3.length : Nat) : Int))) (cond (decide ((0 : Int) ≤ v2 ∧ v2 < ((v3.length : Nat) : Int))) (cond (decide (0 + v2.toNat < v3.length)) (f113_1 F (ixor .u8 (IntKind.u8.wrap v1) (v3.getD (0 + v2.toNat) 0)) (fun x4 => f83_1_l3 F v3 K0 k (ixor .u32 (IntKind.u32.wrap (v1.tdiv 256)) x4) (IntKind.i64.wrap (v2 + 1))) ) none) none) (K0 v1)
noncomputable def f83_1 {β : Type} (F : Nat) (a1 : Int) (a2 : List Int) (K0 : Int → Option β) : Option β := f83_1_l3 F a2 (fun x5 => K0 (ixor .u32 4294967295 x5)) F (ixor .u32 4294967295 a1) 0
variable [FZ]
def sh83_1 : Sh := ⟨[.lf (.int .u32), .lf (.full 0)], [some ⟨none, [.seq (.int .u8) 0]⟩]⟩
noncomputable def S83_1 (F : Nat) (o : Summ) : Summ := mkS sh83_1 (fun d K => f83_1 F d.1.1 d.2.1.2.1 (fun (y0 : Int) => K [.lf (.int .u32 y0)] [some ⟨d.2.1.1, [.seq (.int .u8) 0 d.2.1.2.1]⟩])) o
noncomputable def code83 : Code := bodyOf Tryd.f83
noncomputable def b83_0 : Code := cB (cB (cR (cL (cR (cR (code83))))))
theorem scopes83 : scopesOf code83 = [] := by kernel_rfl
theorem ranges83 : rangesOf code83 = [] := by kernel_rfl
theorem loops83 : loopsOf code83 = [b83_0] := by kernel_rfl
theorem enter83 : ∀ args w, (callFunc 83 args).run Tryd.prog w = .ok (.enter 83 args) w := enter_of (fn := Tryd.f83) (by kernel_rfl) (by kernel_rfl) (by kernel_rfl)
noncomputable def T83_1 (F : Nat) : FuncId → Option Summ := tab [(113, (S113_1 F noS))]
def sh83_1_l3 : Sh := ⟨[.lf (.full 0), .lf (.int .u32), .lf (.int .i64)], [some ⟨none, [.seq (.int .u8) 0]⟩]⟩
noncomputable def G83_1_3 (F k : Nat) : LoopS := mkG sh83_1_l3 [1, 5, 6] (outT [(.exit 0, [5])]) (fun d K => f83_1_l3 F d.2.1.2.1 (fun (y0 : Int) => K (.exit 0) [.tv (.lf (.int .u32 y0))] [some ⟨d.2.1.1, [.seq (.int .u8) 0 d.2.1.2.1]⟩]) k d.1.2.1 d.1.2.2.1) []
noncomputable def LT83_1 (F : Nat) : Nat → Option LoopS := ltab [(3, G83_1_3 F F)]
theorem L83_1_l3g (F k : Nat) (c113_1 : Int → (Int → Option Res) → Option Res)  (l3 : List Int → (Int → Option Res) → Nat → Int → Int → Option Res) (X3 : LoopS) (d : sh83_1_l3.den) (K : KL) : (fun (v3 : List Int) (K0 : (Int → Option Res)) (k : Nat) (v1 : Int) (v2 : Int) => cond (decide (v2 < ((v3.length : Nat) : Int))) (cond (decide ((0 : Int) ≤ v2 ∧ v2 < ((v3.length : Nat) : Int))) (cond (decide (0 + v2.toNat < v3.length)) (c113_1 (ixor .u8 (IntKind.u8.wrap v1) (v3.getD (0 + v2.toNat) 0)) (fun x4 => l3 v3 K0 k (ixor .u32 (IntKind.u32.wrap (v1.tdiv 256)) x4) (IntKind.i64.wrap (v2 + 1))) ) none) none) (K0 v1)) d.2.1.2.1 (fun (y0 : Int) => K (.exit 0) [.tv (.lf (.int .u32 y0))] [some ⟨d.2.1.1, [.seq (.int .u8) 0 d.2.1.2.1]⟩]) k d.1.2.1 d.1.2.2.1 = roundOf Tryd.prog (tab [(113, (mkS sh113_1 (fun d K => c113_1 d.1.1 (fun (y0 : Int) => K [.lf (.int .u32 y0)] [])) noS))]) (xw []) 28 1 (ltab [(3, X3)]) (mkG sh83_1_l3 [1, 5, 6] (outT [(.exit 0, [5])]) (fun d K => l3 d.2.1.2.1 (fun (y0 : Int) => K (.exit 0) [.tv (.lf (.int .u32 y0))] [some ⟨d.2.1.1, [.seq (.int .u8) 0 d.2.1.2.1]⟩]) k d.1.2.1 d.1.2.2.1) []) b83_0 (encT sh83_1_l3.vs d.1) (encH sh83_1_l3.h d.2) K := by kernel_rfl
theorem L83_1_3 (F : Nat) : LoopOK Tryd.prog (T83_1 F) (xw []) 28 1 (LT83_1 F) (G83_1_3 F F) b83_0 :=
  loopOK_of (s := sh83_1_l3) (live := [1, 5, 6]) (out := (outT [(.exit 0, [5])])) (mv := []) (fun k d K => f83_1_l3 F d.2.1.2.1 (fun (y0 : Int) => K (.exit 0) [.tv (.lf (.int .u32 y0))] [some ⟨d.2.1.1, [.seq (.int .u8) 0 d.2.1.2.1]⟩]) k d.1.2.1 d.1.2.2.1) F (fun d K => by kernel_rfl)  (fun k d K => Eq.mp (by kernel_rfl) (L83_1_l3g F k (f113_1 F)  (f83_1_l3 F) (G83_1_3 F F) d K))
theorem E83_1g (F : Nat) (c113_1 : Int → (Int → Option Res) → Option Res) (l3 : List Int → (Int → Option Res) → Nat → Int → Int → Option Res)  (d : sh83_1.den) (K : KF) : evBody Tryd.prog (tab [(113, (mkS sh113_1 (fun d K => c113_1 d.1.1 (fun (y0 : Int) => K [.lf (.int .u32 y0)] [])) noS))]) (xw []) 28 1 (ltab [(3, mkG sh83_1_l3 [1, 5, 6] (outT [(.exit 0, [5])]) (fun d K => l3 d.2.1.2.1 (fun (y0 : Int) => K (.exit 0) [.tv (.lf (.int .u32 y0))] [some ⟨d.2.1.1, [.seq (.int .u8) 0 d.2.1.2.1]⟩]) F d.1.2.1 d.1.2.2.1) [])]) code83 Tryd.f83.results.toList (encT sh83_1.vs d.1) (encH sh83_1.h d.2) K = (fun (a1 : Int) (a2 : List Int) (K0 : (Int → Option Res)) => l3 a2 (fun x5 => K0 (ixor .u32 4294967295 x5)) F (ixor .u32 4294967295 a1) 0) d.1.1 d.2.1.2.1 (fun (y0 : Int) => K [.lf (.int .u32 y0)] [some ⟨d.2.1.1, [.seq (.int .u8) 0 d.2.1.2.1]⟩]) := by kernel_rfl
theorem E83_1 (F : Nat) (d : sh83_1.den) (K : KF) : evBody Tryd.prog (T83_1 F) (xw []) 28 1 (LT83_1 F) code83 Tryd.f83.results.toList (encT sh83_1.vs d.1) (encH sh83_1.h d.2) K = f83_1 F d.1.1 d.2.1.2.1 (fun (y0 : Int) => K [.lf (.int .u32 y0)] [some ⟨d.2.1.1, [.seq (.int .u8) 0 d.2.1.2.1]⟩]) := Eq.mp (by kernel_rfl) (E83_1g F (f113_1 F) (f83_1_l3 F)  d K)
theorem S83_1_ok (F : Nat) (o : Summ) (ho : SoundFn Tryd.prog 83 o) : SoundFn Tryd.prog 83 (S83_1 F o) :=
  soundFn_of (fn := Tryd.f83) (c := code83) rfl rfl (by kernel_rfl) (tab_cons (S113_1_ok F _ (noS_sound enter113)) tab_nil) (by kernel_rfl) (by kernel_rfl) ho (by rw [loops83]; exact (loopsOK_cons (by kernel_rfl) (L83_1_3 F) loopsOK_nil)) (by rw [scopes83]; exact scopesOK_nil) (by rw [ranges83]; exact rangesOK_nil) (E83_1 F)
end Go.Proofs.YtillbabmlfjegaaDoor.X
end

section
namespace Go.Proofs.YtillbabmlfjegaaDoor.X
open Go Go.Proofs.YtillbabmlfjegaaDoor.Ev Go.Proofs
set_option linter.unusedVariables false
set_option linter.unusedSectionVars false
/-! pentimentoref02.Sum -/
noncomputable def f42_1 {β : Type} (F : Nat) (a1 : List Int) (K0 : Int → Option β) : Option β := f83_1 F 0 a1 (fun x1 => K0 x1) 
variable [FZ]
def sh42_1 : Sh := ⟨[.lf (.full 0)], [some ⟨none, [.seq (.int .u8) 0]⟩]⟩
noncomputable def S42_1 (F : Nat) (o : Summ) : Summ := mkS sh42_1 (fun d K => f42_1 F d.2.1.2.1 (fun (y0 : Int) => K [.lf (.int .u32 y0)] [some ⟨d.2.1.1, [.seq (.int .u8) 0 d.2.1.2.1]⟩])) o
noncomputable def code42 : Code := bodyOf Tryd.f42
theorem scopes42 : scopesOf code42 = [] := by kernel_rfl
theorem ranges42 : rangesOf code42 = [] := by kernel_rfl
theorem loops42 : loopsOf code42 = [] := by kernel_rfl
theorem enter42 : ∀ args w, (callFunc 42 args).run Tryd.prog w = .ok (.enter 42 args) w := enter_of (fn := Tryd.f42) (by kernel_rfl) (by kernel_rfl) (by kernel_rfl)
noncomputable def T42_1 (F : Nat) : FuncId → Option Summ := tab [(83, (S83_1 F noS))]
noncomputable def LT42_1 (F : Nat) : Nat → Option LoopS := ltab []
theorem E42_1g (F : Nat) (c83_1 : Int → List Int → (Int → Option Res) → Option Res)   (d : sh42_1.den) (K : KF) : evBody Tryd.prog (tab [(83, (mkS sh83_1 (fun d K => c83_1 d.1.1 d.2.1.2.1 (fun (y0 : Int) => K [.lf (.int .u32 y0)] [some ⟨d.2.1.1, [.seq (.int .u8) 0 d.2.1.2.1]⟩])) noS))]) (xw []) 5 1 (ltab []) code42 Tryd.f42.results.toList (encT sh42_1.vs d.1) (encH sh42_1.h d.2) K = (fun (a1 : List Int) (K0 : (Int → Option Res)) => c83_1 0 a1 (fun x1 => K0 x1) ) d.2.1.2.1 (fun (y0 : Int) => K [.lf (.int .u32 y0)] [some ⟨d.2.1.1, [.seq (.int .u8) 0 d.2.1.2.1]⟩]) := by kernel_rfl
theorem E42_1 (F : Nat) (d : sh42_1.den) (K : KF) : evBody Tryd.prog (T42_1 F) (xw []) 5 1 (LT42_1 F) code42 Tryd.f42.results.toList (encT sh42_1.vs d.1) (encH sh42_1.h d.2) K = f42_1 F d.2.1.2.1 (fun (y0 : Int) => K [.lf (.int .u32 y0)] [some ⟨d.2.1.1, [.seq (.int .u8) 0 d.2.1.2.1]⟩]) := Eq.mp (by kernel_rfl) (E42_1g F (f83_1 F)   d K)
theorem S42_1_ok (F : Nat) (o : Summ) (ho : SoundFn Tryd.prog 42 o) : SoundFn Tryd.prog 42 (S42_1 F o) :=
  soundFn_of (fn := Tryd.f42) (c := code42) rfl rfl (by kernel_rfl) (tab_cons (S83_1_ok F _ (noS_sound enter83)) tab_nil) (by kernel_rfl) (by kernel_rfl) ho (by rw [loops42]; exact loopsOK_nil) (by rw [scopes42]; exact scopesOK_nil) (by rw [ranges42]; exact rangesOK_nil) (E42_1 F)
end Go.Proofs.YtillbabmlfjegaaDoor.X
end

section
namespace Go.Proofs.YtillbabmlfjegaaDoor.X
open Go Go.Proofs.YtillbabmlfjegaaDoor.Ev Go.Proofs
set_option linter.unusedVariables false
set_option linter.unusedSectionVars false
/-! pentimentoref01.Put -/
noncomputable def f81_1_l6 {β : Type} (F : Nat) (v1 : Int) (v3 : List Int) (K0 : List Int → Option β) : Nat → Int → List Int → Option β
  | 0, _, _ => none
  | k + 1, v2, v4 => cond (decide (v2 ≥ 0)) (cond (decide (IntKind.u64.wrap (IntKind.i64.wrap (8 * v2)) < 0)) none (cond (decide ((v4.length + 1) * 1 ≤ 70368744177664)) (f81_1_l6 F v1 v3 K0 k (IntKind.i64.wrap (v2 - 1)) (v4 ++ [IntKind.u8.wrap (ishr .u64 v1 (IntKind.u64.wrap (IntKind.i64.wrap (8 * v2))))])) none)) (K0 v4)
noncomputable def f81_1 {β : Type} (F : Nat) (a1 : Int) (a2 : Int) (a3 : List Int) (K0 : List Int → Option β) : Option β := cond (decide (a3.length * 1 ≤ 70368744177664)) (cond (decide (a1 < 1)) (K0 a3) (cond (decide (a1 > 8)) (K0 a3) (f81_1_l6 F a2 a3 (fun x5 => K0 x5) F (IntKind.i64.wrap (a1 - 1)) a3))) none
variable [FZ]
def sh81_1 : Sh := ⟨[.lf (.full 0), .lf (.int .i64), .lf (.int .u64)], [some ⟨none, [.seq (.int .u8) 0]⟩]⟩
noncomputable def S81_1 (F : Nat) (o : Summ) : Summ := mkS sh81_1 (fun d K => f81_1 F d.1.2.1 d.1.2.2.1 d.2.1.2.1 (fun (y1 : List Int) => K [.lf (.full 1)] [some ⟨d.2.1.1, [.seq (.int .u8) 0 d.2.1.2.1]⟩, some ⟨false, [.seq (.int .u8) 0 y1]⟩])) o
noncomputable def code81 : Code := bodyOf Tryd.f81
noncomputable def b81_0 : Code := cB (cB (cR (cL (cR (cR (cR (cR (code81))))))))
theorem scopes81 : scopesOf code81 = [] := by kernel_rfl
theorem ranges81 : rangesOf code81 = [] := by kernel_rfl
theorem loops81 : loopsOf code81 = [b81_0] := by kernel_rfl
theorem enter81 : ∀ args w, (callFunc 81 args).run Tryd.prog w = .ok (.enter 81 args) w := enter_of (fn := Tryd.f81) (by kernel_rfl) (by kernel_rfl) (by kernel_rfl)
noncomputable def T81_1 (F : Nat) : FuncId → Option Summ := tab []
def sh81_1_l6 : Sh := ⟨[.lf (.int .u64), .lf (.full 1), .lf (.int .i64)], [some ⟨none, [.seq (.int .u8) 0]⟩, some ⟨some false, [.seq (.int .u8) 0]⟩]⟩
noncomputable def G81_1_6 (F k : Nat) : LoopS := mkG sh81_1_l6 [2, 7, 8] (outT [(.exit 0, [7])]) (fun d K => f81_1_l6 F d.1.1 d.2.1.2.1 (fun (y1 : List Int) => K (.exit 0) [.tv (.lf (.full 1))] [some ⟨d.2.1.1, [.seq (.int .u8) 0 d.2.1.2.1]⟩, some ⟨false, [.seq (.int .u8) 0 y1]⟩]) k d.1.2.2.1 d.2.2.1.2.1) []
noncomputable def LT81_1 (F : Nat) : Nat → Option LoopS := ltab [(6, G81_1_6 F F)]
theorem L81_1_l6g (F k : Nat)   (l6 : Int → List Int → (List Int → Option Res) → Nat → Int → List Int → Option Res) (X6 : LoopS) (d : sh81_1_l6.den) (K : KL) : (fun (v1 : Int) (v3 : List Int) (K0 : (List Int → Option Res)) (k : Nat) (v2 : Int) (v4 : List Int) => cond (decide (v2 ≥ 0)) (cond (decide (IntKind.u64.wrap (IntKind.i64.wrap (8 * v2)) < 0)) none (cond (decide ((v4.length + 1) * 1 ≤ 70368744177664)) (l6 v1 v3 K0 k (IntKind.i64.wrap (v2 - 1)) (v4 ++ [IntKind.u8.wrap (ishr .u64 v1 (IntKind.u64.wrap (IntKind.i64.wrap (8 * v2))))])) none)) (K0 v4)) d.1.1 d.2.1.2.1 (fun (y1 : List Int) => K (.exit 0) [.tv (.lf (.full 1))] [some ⟨d.2.1.1, [.seq (.int .u8) 0 d.2.1.2.1]⟩, some ⟨false, [.seq (.int .u8) 0 y1]⟩]) k d.1.2.2.1 d.2.2.1.2.1 = roundOf Tryd.prog (tab []) (xw []) 35 1 (ltab [(6, X6)]) (mkG sh81_1_l6 [2, 7, 8] (outT [(.exit 0, [7])]) (fun d K => l6 d.1.1 d.2.1.2.1 (fun (y1 : List Int) => K (.exit 0) [.tv (.lf (.full 1))] [some ⟨d.2.1.1, [.seq (.int .u8) 0 d.2.1.2.1]⟩, some ⟨false, [.seq (.int .u8) 0 y1]⟩]) k d.1.2.2.1 d.2.2.1.2.1) []) b81_0 (encT sh81_1_l6.vs d.1) (encH sh81_1_l6.h d.2) K := by kernel_rfl
theorem L81_1_6 (F : Nat) : LoopOK Tryd.prog (T81_1 F) (xw []) 35 1 (LT81_1 F) (G81_1_6 F F) b81_0 :=
  loopOK_of (s := sh81_1_l6) (live := [2, 7, 8]) (out := (outT [(.exit 0, [7])])) (mv := []) (fun k d K => f81_1_l6 F d.1.1 d.2.1.2.1 (fun (y1 : List Int) => K (.exit 0) [.tv (.lf (.full 1))] [some ⟨d.2.1.1, [.seq (.int .u8) 0 d.2.1.2.1]⟩, some ⟨false, [.seq (.int .u8) 0 y1]⟩]) k d.1.2.2.1 d.2.2.1.2.1) F (fun d K => by kernel_rfl)  (fun k d K => Eq.mp (by kernel_rfl) (L81_1_l6g F k   (f81_1_l6 F) (G81_1_6 F F) d K))
theorem E81_1g (F : Nat)  (l6 : Int → List Int → (List Int → Option Res) → Nat → Int → List Int → Option Res)  (d : sh81_1.den) (K : KF) : evBody Tryd.prog (tab []) (xw []) 35 1 (ltab [(6, mkG sh81_1_l6 [2, 7, 8] (outT [(.exit 0, [7])]) (fun d K => l6 d.1.1 d.2.1.2.1 (fun (y1 : List Int) => K (.exit 0) [.tv (.lf (.full 1))] [some ⟨d.2.1.1, [.seq (.int .u8) 0 d.2.1.2.1]⟩, some ⟨false, [.seq (.int .u8) 0 y1]⟩]) F d.1.2.2.1 d.2.2.1.2.1) [])]) code81 Tryd.f81.results.toList (encT sh81_1.vs d.1) (encH sh81_1.h d.2) K = (fun (a1 : Int) (a2 : Int) (a3 : List Int) (K0 : (List Int → Option Res)) => cond (decide (a3.length * 1 ≤ 70368744177664)) (cond (decide (a1 < 1)) (K0 a3) (cond (decide (a1 > 8)) (K0 a3) (l6 a2 a3 (fun x5 => K0 x5) F (IntKind.i64.wrap (a1 - 1)) a3))) none) d.1.2.1 d.1.2.2.1 d.2.1.2.1 (fun (y1 : List Int) => K [.lf (.full 1)] [some ⟨d.2.1.1, [.seq (.int .u8) 0 d.2.1.2.1]⟩, some ⟨false, [.seq (.int .u8) 0 y1]⟩]) := by kernel_rfl
theorem E81_1 (F : Nat) (d : sh81_1.den) (K : KF) : evBody Tryd.prog (T81_1 F) (xw []) 35 1 (LT81_1 F) code81 Tryd.f81.results.toList (encT sh81_1.vs d.1) (encH sh81_1.h d.2) K = f81_1 F d.1.2.1 d.1.2.2.1 d.2.1.2.1 (fun (y1 : List Int) => K [.lf (.full 1)] [some ⟨d.2.1.1, [.seq (.int .u8) 0 d.2.1.2.1]⟩, some ⟨false, [.seq (.int .u8) 0 y1]⟩]) := Eq.mp (by kernel_rfl) (E81_1g F  (f81_1_l6 F)  d K)
theorem S81_1_ok (F : Nat) (o : Summ) (ho : SoundFn Tryd.prog 81 o) : SoundFn Tryd.prog 81 (S81_1 F o) :=
  soundFn_of (fn := Tryd.f81) (c := code81) rfl rfl (by kernel_rfl) tab_nil (by kernel_rfl) (by kernel_rfl) ho (by rw [loops81]; exact (loopsOK_cons (by kernel_rfl) (L81_1_6 F) loopsOK_nil)) (by rw [scopes81]; exact scopesOK_nil) (by rw [ranges81]; exact rangesOK_nil) (E81_1 F)
end Go.Proofs.YtillbabmlfjegaaDoor.X
end

section
namespace Go.Proofs.YtillbabmlfjegaaDoor.X
open Go Go.Proofs.YtillbabmlfjegaaDoor.Ev Go.Proofs
set_option linter.unusedVariables false
set_option linter.unusedSectionVars false
/-! pentimentoref01.Text -/
noncomputable def f40_1 {β : Type} (F : Nat) (a1 : Int) (a2 : Int) (K0 : ByteArray → Option β) : Option β := f81_1 F a1 a2 [] (fun x1 => K0 (ofInts x1)) 
variable [FZ]
def sh40_1 : Sh := ⟨[.lf (.int .i64), .lf (.int .u64)], []⟩
noncomputable def S40_1 (F : Nat) (o : Summ) : Summ := mkS sh40_1 (fun d K => f40_1 F d.1.1 d.1.2.1 (fun (y0 : ByteArray) => K [.lf (.str y0)] [])) o
noncomputable def code40 : Code := bodyOf Tryd.f40
theorem scopes40 : scopesOf code40 = [] := by kernel_rfl
theorem ranges40 : rangesOf code40 = [] := by kernel_rfl
theorem loops40 : loopsOf code40 = [] := by kernel_rfl
theorem enter40 : ∀ args w, (callFunc 40 args).run Tryd.prog w = .ok (.enter 40 args) w := enter_of (fn := Tryd.f40) (by kernel_rfl) (by kernel_rfl) (by kernel_rfl)
noncomputable def T40_1 (F : Nat) : FuncId → Option Summ := tab [(81, (S81_1 F noS))]
noncomputable def LT40_1 (F : Nat) : Nat → Option LoopS := ltab []
theorem E40_1g (F : Nat) (c81_1 : Int → Int → List Int → (List Int → Option Res) → Option Res)   (d : sh40_1.den) (K : KF) : evBody Tryd.prog (tab [(81, (mkS sh81_1 (fun d K => c81_1 d.1.2.1 d.1.2.2.1 d.2.1.2.1 (fun (y1 : List Int) => K [.lf (.full 1)] [some ⟨d.2.1.1, [.seq (.int .u8) 0 d.2.1.2.1]⟩, some ⟨false, [.seq (.int .u8) 0 y1]⟩])) noS))]) (xw []) 9 0 (ltab []) code40 Tryd.f40.results.toList (encT sh40_1.vs d.1) (encH sh40_1.h d.2) K = (fun (a1 : Int) (a2 : Int) (K0 : (ByteArray → Option Res)) => c81_1 a1 a2 [] (fun x1 => K0 (ofInts x1)) ) d.1.1 d.1.2.1 (fun (y0 : ByteArray) => K [.lf (.str y0)] []) := by kernel_rfl
theorem E40_1 (F : Nat) (d : sh40_1.den) (K : KF) : evBody Tryd.prog (T40_1 F) (xw []) 9 0 (LT40_1 F) code40 Tryd.f40.results.toList (encT sh40_1.vs d.1) (encH sh40_1.h d.2) K = f40_1 F d.1.1 d.1.2.1 (fun (y0 : ByteArray) => K [.lf (.str y0)] []) := Eq.mp (by kernel_rfl) (E40_1g F (f81_1 F)   d K)
theorem S40_1_ok (F : Nat) (o : Summ) (ho : SoundFn Tryd.prog 40 o) : SoundFn Tryd.prog 40 (S40_1 F o) :=
  soundFn_of (fn := Tryd.f40) (c := code40) rfl rfl (by kernel_rfl) (tab_cons (S81_1_ok F _ (noS_sound enter81)) tab_nil) (by kernel_rfl) (by kernel_rfl) ho (by rw [loops40]; exact loopsOK_nil) (by rw [scopes40]; exact scopesOK_nil) (by rw [ranges40]; exact rangesOK_nil) (E40_1 F)
end Go.Proofs.YtillbabmlfjegaaDoor.X
end

section
/- Records: sums, numbers as bytes; the code's and the document's, in one form. -/
namespace Go.Proofs.YtillbabmlfjegaaDoor.X
open Go Go.Proofs.YtillbabmlfjegaaDoor.Ev
set_option linter.unusedSectionVars false
variable [FZ]
set_option linter.unusedVariables false
set_option linter.unusedSimpArgs false

theorem x32 (x y : Int) : 0 ≤ ixor .u32 x y ∧ ixor .u32 x y < 4294967296 := by
  unfold ixor; rw [wu32m]; omega
theorem x8 (x y : Int) : 0 ≤ ixor .u8 x y ∧ ixor .u8 x y < 256 := by
  unfold ixor; rw [wu8m]; omega

theorem sh8 {n : Int} (h : 0 ≤ n ∧ n < 4294967296) : IntKind.u32.wrap (n.tdiv 256) = ishr .u32 n 8 := by
  have e : (2 : Int) ^ (min (8 : Int).toNat IntKind.u32.bits) = 256 := by decide
  rw [ishr, e, Int.fdiv_eq_ediv_of_nonneg _ (by omega), Int.tdiv_eq_ediv_of_nonneg h.1, wu32 (by omega) (by omega)]

/-- The table: each byte's step. -/
def eStep (x : Int) : Int := if (iand .u32 x 1) == 1 then ixor .u32 (ishr .u32 x 1) 2197175160 else ishr .u32 x 1
def ent (x : Int) : Int := eStep (eStep (eStep (eStep (eStep (eStep (eStep (eStep x)))))))
def tb : List Int := (List.range 256).map fun (i : Nat) => ent (i : Int)
theorem tb_len : tb.length = 256 := by simp [tb]

set_option maxRecDepth 100000 in
theorem tableP {β : Type} {K : List Int → Option β} : f124_1 20000 K = K tb := by kernel_rfl

theorem entNat {β : Type} {F : Nat} {K : Int → Option β} : ∀ (k : Nat) (v i : Int), f113_1_l3 F K k v i = (f113_1_l3 F some k v i).bind K
  | 0, v, i => rfl
  | k + 1, v, i => by
    rw [f113_1_l3, f113_1_l3]
    cases decide (i < 8) with
    | false => rfl
    | true =>
      cases (v.tmod 2 == 1) with
      | true => exact entNat k _ _
      | false => exact entNat k _ _

set_option maxRecDepth 100000 in
theorem entAll : ((List.range 256).all fun (i : Nat) => f113_1 20000 (i : Int) some == some (tb.getD i 0)) = true := by kernel_rfl

theorem entR {β : Type} {x : Int} (h : 0 ≤ x ∧ x < 256) {K : Int → Option β} : f113_1 20000 x K = K (tb.getD x.toNat 0) := by
  have h1 := List.all_eq_true.1 entAll x.toNat (List.mem_range.2 (by omega))
  rw [beq_iff_eq, show ((x.toNat : Nat) : Int) = x by omega, f113_1] at h1
  rw [f113_1, entNat, h1]; rfl

def crcS : Int → List Int → Int
  | n, [] => n
  | n, c :: r => crcS (ixor .u32 (ishr .u32 n 8) (tb.getD (ixor .u8 (IntKind.u8.wrap n) c).toNat 0)) r
def crc (b : List Int) : Int := ixor .u32 4294967295 (crcS (ixor .u32 4294967295 0) b)

theorem atL {α : Type} {l r : List α} {x d : α} {i : Nat} (hd : l.drop i = x :: r) : i < l.length ∧ l.getD (0 + (i : Int).toNat) d = x ∧ l.drop (i + 1) = r := by
  have h1 : i < l.length := by
    rcases Nat.lt_or_ge i l.length with h1 | h1
    · exact h1
    · rw [List.drop_eq_nil_of_le h1] at hd; cases hd
  rw [List.drop_eq_getElem_cons h1] at hd
  injection hd with h2 h3
  refine ⟨h1, ?_, h3⟩
  simp [h1, h2]

theorem nilL {α : Type} {l : List α} {i : Nat} (h : l.drop i = []) (hi : i ≤ l.length) : i = l.length := by
  have := congrArg List.length h
  simp at this; omega

theorem crcPl {β : Type} {F : Nat} {b : List Int} {K : Int → Option β} (hb : b.length ≤ 100000) : ∀ (r : List Int) (i k : Nat) (n : Int), b.drop i = r → i ≤ b.length → r.length < k →
    f112_1_l4 F ((b.length : Nat) : Int) b tb K k n (i : Int) = K (crcS n r)
  | [], i, 0, _, _, _, hk => by simp at hk
  | _ :: _, i, 0, _, _, _, hk => by simp at hk
  | [], i, k + 1, n, hd, hi, _ => by
    have := nilL hd hi
    rw [f112_1_l4, cf (by omega)]; rfl
  | c :: r, i, k + 1, n, hd, hi, hk => by
    obtain ⟨h1, h2, h3⟩ := atL (d := (0 : Int)) hd
    have hx := x8 (IntKind.u8.wrap n) c
    rw [f112_1_l4, ct (by omega), ct (by omega), ct (by omega), h2, ct hx, ct (by rw [tb_len]; omega), w64 (by omega) (by omega), crcS]
    exact crcPl hb r (i + 1) k _ h3 (by omega) (by simp at hk; omega)

theorem crcP {β : Type} {b : List Int} {K : Int → Option β} (hb : b.length ≤ 10000) : f80_1 20000 b K = K (crc b) := by
  rw [f80_1, f112_1, tableP]
  exact crcPl (K := fun x7 => K (ixor .u32 4294967295 x7)) (by omega) b 0 20000 _ rfl (by omega) (by omega)

theorem crcRl {β : Type} {b : List Int} {K : Int → Option β} (hb : b.length ≤ 100000) : ∀ (r : List Int) (i k : Nat) (n : Int), b.drop i = r → i ≤ b.length → r.length < k → 0 ≤ n ∧ n < 4294967296 →
    f83_1_l3 20000 b K k n (i : Int) = K (crcS n r)
  | [], i, 0, _, _, _, hk, _ => by simp at hk
  | _ :: _, i, 0, _, _, _, hk, _ => by simp at hk
  | [], i, k + 1, n, hd, hi, _, _ => by
    have := nilL hd hi
    rw [f83_1_l3, cf (by omega)]; rfl
  | c :: r, i, k + 1, n, hd, hi, hk, hn => by
    obtain ⟨h1, h2, h3⟩ := atL (d := (0 : Int)) hd
    have hx := x8 (IntKind.u8.wrap n) c
    rw [f83_1_l3, ct (by omega), ct (by omega), ct (by omega), h2, entR hx, w64 (by omega) (by omega), sh8 hn, crcS]
    exact crcRl hb r (i + 1) k _ h3 (by omega) (by simp at hk; omega) (x32 _ _)

theorem crcR {β : Type} {b : List Int} {K : Int → Option β} (hb : b.length ≤ 10000) : f42_1 20000 b K = K (crc b) := by
  rw [f42_1, f83_1]
  exact crcRl (K := fun x7 => K (ixor .u32 4294967295 x7)) (by omega) b 0 20000 _ rfl (by omega) (by omega) (x32 _ _)

/-! ### Numbers as bytes -/

def b4 (n : Int) : List Int := [IntKind.u8.wrap (ishr .u64 n 24), IntKind.u8.wrap (ishr .u64 n 16), IntKind.u8.wrap (ishr .u64 n 8), IntKind.u8.wrap (ishr .u64 n 0)]
theorem put4 {β : Type} {n : Int} {K : List Int → Option β} : f47_1 20000 4 n [] K = K (b4 n) := by kernel_rfl
theorem text4 {β : Type} {n : Int} {K : ByteArray → Option β} : f40_1 20000 4 n K = K (ofInts (b4 n)) := by kernel_rfl
theorem text1 {β : Type} {n : Int} {K : ByteArray → Option β} : f40_1 20000 1 n K = K (ofInts [IntKind.u8.wrap (ishr .u64 n 0)]) := by kernel_rfl

end Go.Proofs.YtillbabmlfjegaaDoor.X
end

section
namespace Go.Proofs.YtillbabmlfjegaaDoor.X
open Go Go.Proofs.YtillbabmlfjegaaDoor.Ev Go.Proofs
set_option linter.unusedVariables false
set_option linter.unusedSectionVars false
/-! pentimentoref08.Kind -/
noncomputable def f16_1_l8 {β : Type} (F : Nat) (v4 : ByteArray) (K0 : Option β) (K1 : Option β) : Nat → Int → Option β
  | 0, _ => none
  | k + 1, v5 => cond (decide (v5 < 60)) (cond (decide ((0 : Int) ≤ v5 ∧ v5 < (v4.size : Int))) (cond (((v4.data.getD v5.toNat 0).toNat : Int) != 0) (K0) (f16_1_l8 F v4 K0 K1 k (IntKind.i64.wrap (v5 + 1)))) none) (K1)
noncomputable def f16_1 {β : Type} (F : Nat) (a1 : ByteArray) (K0 : Int → Int → Option β) : Option β := f45_1 F a1 (fun x1 => cond (!x1) (K0 0 4) (cond (decide ((0 : Int) ≤ (0 : Int) ∧ (0 : Int) ≤ (60 : Int) ∧ (60 : Int) ≤ (a1.size : Int))) (cond (decide ((0 : Int) ≤ (60 : Int) ∧ (60 : Int) ≤ (a1.size : Int) ∧ (a1.size : Int) ≤ (a1.size : Int))) (f42_1 F (toInts (a1.extract 0 60)) (fun x2 => f40_1 F 4 (IntKind.u64.wrap x2) (fun x3 => cond (!(x3.toList == (a1.extract 60 ((a1.size : Int).toNat)).toList)) (K0 0 9) (cond (decide ((0 : Int) ≤ (0 : Int) ∧ (0 : Int) < (a1.size : Int))) (cond (decide (((a1.data.getD 0 0).toNat : Int) < 1)) (K0 0 6) (cond (decide ((0 : Int) ≤ (0 : Int) ∧ (0 : Int) < (a1.size : Int))) (cond (decide (((a1.data.getD 0 0).toNat : Int) > 8)) (K0 0 6) (cond (decide ((0 : Int) ≤ (1 : Int) ∧ (1 : Int) < (a1.size : Int))) (cond (decide (((a1.data.getD 1 0).toNat : Int) > 58)) (K0 0 6) (cond (decide ((0 : Int) ≤ (1 : Int) ∧ (1 : Int) < (a1.size : Int))) (f16_1_l8 F a1 (K0 0 6) (cond (decide ((0 : Int) ≤ (0 : Int) ∧ (0 : Int) < (a1.size : Int))) (K0 (IntKind.i64.wrap ((a1.data.getD 0 0).toNat : Int)) 0) none) F (IntKind.i64.wrap (2 + (IntKind.i64.wrap ((a1.data.getD 1 0).toNat : Int))))) none)) none)) none)) none)) ) ) none) none)) 
variable [FZ]
def sh16_1 : Sh := ⟨[.lf (.str)], []⟩
noncomputable def S16_1 (F : Nat) (o : Summ) : Summ := mkS sh16_1 (fun d K => f16_1 F d.1.1 (fun (y0 : Int) (y1 : Int) => K [.lf (.int .i64 y0), .lf (.int .i64 y1)] [])) o
noncomputable def code16 : Code := bodyOf Tryd.f16
noncomputable def b16_0 : Code := cB (cB (cR (cL (cR (cR (cR (cR (code16))))))))
theorem scopes16 : scopesOf code16 = [] := by kernel_rfl
theorem ranges16 : rangesOf code16 = [] := by kernel_rfl
theorem loops16 : loopsOf code16 = [b16_0] := by kernel_rfl
theorem enter16 : ∀ args w, (callFunc 16 args).run Tryd.prog w = .ok (.enter 16 args) w := enter_of (fn := Tryd.f16) (by kernel_rfl) (by kernel_rfl) (by kernel_rfl)
noncomputable def T16_1 (F : Nat) : FuncId → Option Summ := tab [(40, (S40_1 F noS)), (42, (S42_1 F noS)), (45, (S45_1 F noS))]
def sh16_1_l8 : Sh := ⟨[.lf (.str), .lf (.int .i64)], []⟩
noncomputable def G16_1_8 (F k : Nat) : LoopS := mkG sh16_1_l8 [0, 4] (outT [(.exit 0, [0]), (.ret, [2, 3])]) (fun d K => f16_1_l8 F d.1.1 (K .ret [.tv (.lf (.int .i64 0)), .tv (.lf (.int .i64 6))] []) (K (.exit 0) [.tv (.lf (.str d.1.1))] []) k d.1.2.1) []
noncomputable def LT16_1 (F : Nat) : Nat → Option LoopS := ltab [(8, G16_1_8 F F)]
theorem L16_1_l8g (F k : Nat) (c40_1 : Int → Int → (ByteArray → Option Res) → Option Res) (c42_1 : List Int → (Int → Option Res) → Option Res) (c45_1 : ByteArray → (Bool → Option Res) → Option Res)  (l8 : ByteArray → (Option Res) → (Option Res) → Nat → Int → Option Res) (X8 : LoopS) (d : sh16_1_l8.den) (K : KL) : (fun (v4 : ByteArray) (K0 : (Option Res)) (K1 : (Option Res)) (k : Nat) (v5 : Int) => cond (decide (v5 < 60)) (cond (decide ((0 : Int) ≤ v5 ∧ v5 < (v4.size : Int))) (cond (((v4.data.getD v5.toNat 0).toNat : Int) != 0) (K0) (l8 v4 K0 K1 k (IntKind.i64.wrap (v5 + 1)))) none) (K1)) d.1.1 (K .ret [.tv (.lf (.int .i64 0)), .tv (.lf (.int .i64 6))] []) (K (.exit 0) [.tv (.lf (.str d.1.1))] []) k d.1.2.1 = roundOf Tryd.prog (tab [(40, (mkS sh40_1 (fun d K => c40_1 d.1.1 d.1.2.1 (fun (y0 : ByteArray) => K [.lf (.str y0)] [])) noS)), (42, (mkS sh42_1 (fun d K => c42_1 d.2.1.2.1 (fun (y0 : Int) => K [.lf (.int .u32 y0)] [some ⟨d.2.1.1, [.seq (.int .u8) 0 d.2.1.2.1]⟩])) noS)), (45, (mkS sh45_1 (fun d K => c45_1 d.1.1 (fun (y0 : Bool) => K [.lf (.bool y0)] [])) noS))]) (xw []) 45 0 (ltab [(8, X8)]) (mkG sh16_1_l8 [0, 4] (outT [(.exit 0, [0]), (.ret, [2, 3])]) (fun d K => l8 d.1.1 (K .ret [.tv (.lf (.int .i64 0)), .tv (.lf (.int .i64 6))] []) (K (.exit 0) [.tv (.lf (.str d.1.1))] []) k d.1.2.1) []) b16_0 (encT sh16_1_l8.vs d.1) (encH sh16_1_l8.h d.2) K := by kernel_rfl
theorem L16_1_8 (F : Nat) : LoopOK Tryd.prog (T16_1 F) (xw []) 45 0 (LT16_1 F) (G16_1_8 F F) b16_0 :=
  loopOK_of (s := sh16_1_l8) (live := [0, 4]) (out := (outT [(.exit 0, [0]), (.ret, [2, 3])])) (mv := []) (fun k d K => f16_1_l8 F d.1.1 (K .ret [.tv (.lf (.int .i64 0)), .tv (.lf (.int .i64 6))] []) (K (.exit 0) [.tv (.lf (.str d.1.1))] []) k d.1.2.1) F (fun d K => by kernel_rfl)  (fun k d K => Eq.mp (by kernel_rfl) (L16_1_l8g F k (f40_1 F) (f42_1 F) (f45_1 F)  (f16_1_l8 F) (G16_1_8 F F) d K))
theorem E16_1g (F : Nat) (c40_1 : Int → Int → (ByteArray → Option Res) → Option Res) (c42_1 : List Int → (Int → Option Res) → Option Res) (c45_1 : ByteArray → (Bool → Option Res) → Option Res) (l8 : ByteArray → (Option Res) → (Option Res) → Nat → Int → Option Res)  (d : sh16_1.den) (K : KF) : evBody Tryd.prog (tab [(40, (mkS sh40_1 (fun d K => c40_1 d.1.1 d.1.2.1 (fun (y0 : ByteArray) => K [.lf (.str y0)] [])) noS)), (42, (mkS sh42_1 (fun d K => c42_1 d.2.1.2.1 (fun (y0 : Int) => K [.lf (.int .u32 y0)] [some ⟨d.2.1.1, [.seq (.int .u8) 0 d.2.1.2.1]⟩])) noS)), (45, (mkS sh45_1 (fun d K => c45_1 d.1.1 (fun (y0 : Bool) => K [.lf (.bool y0)] [])) noS))]) (xw []) 45 0 (ltab [(8, mkG sh16_1_l8 [0, 4] (outT [(.exit 0, [0]), (.ret, [2, 3])]) (fun d K => l8 d.1.1 (K .ret [.tv (.lf (.int .i64 0)), .tv (.lf (.int .i64 6))] []) (K (.exit 0) [.tv (.lf (.str d.1.1))] []) F d.1.2.1) [])]) code16 Tryd.f16.results.toList (encT sh16_1.vs d.1) (encH sh16_1.h d.2) K = (fun (a1 : ByteArray) (K0 : (Int → Int → Option Res)) => c45_1 a1 (fun x1 => cond (!x1) (K0 0 4) (cond (decide ((0 : Int) ≤ (0 : Int) ∧ (0 : Int) ≤ (60 : Int) ∧ (60 : Int) ≤ (a1.size : Int))) (cond (decide ((0 : Int) ≤ (60 : Int) ∧ (60 : Int) ≤ (a1.size : Int) ∧ (a1.size : Int) ≤ (a1.size : Int))) (c42_1 (toInts (a1.extract 0 60)) (fun x2 => c40_1 4 (IntKind.u64.wrap x2) (fun x3 => cond (!(x3.toList == (a1.extract 60 ((a1.size : Int).toNat)).toList)) (K0 0 9) (cond (decide ((0 : Int) ≤ (0 : Int) ∧ (0 : Int) < (a1.size : Int))) (cond (decide (((a1.data.getD 0 0).toNat : Int) < 1)) (K0 0 6) (cond (decide ((0 : Int) ≤ (0 : Int) ∧ (0 : Int) < (a1.size : Int))) (cond (decide (((a1.data.getD 0 0).toNat : Int) > 8)) (K0 0 6) (cond (decide ((0 : Int) ≤ (1 : Int) ∧ (1 : Int) < (a1.size : Int))) (cond (decide (((a1.data.getD 1 0).toNat : Int) > 58)) (K0 0 6) (cond (decide ((0 : Int) ≤ (1 : Int) ∧ (1 : Int) < (a1.size : Int))) (l8 a1 (K0 0 6) (cond (decide ((0 : Int) ≤ (0 : Int) ∧ (0 : Int) < (a1.size : Int))) (K0 (IntKind.i64.wrap ((a1.data.getD 0 0).toNat : Int)) 0) none) F (IntKind.i64.wrap (2 + (IntKind.i64.wrap ((a1.data.getD 1 0).toNat : Int))))) none)) none)) none)) none)) ) ) none) none)) ) d.1.1 (fun (y0 : Int) (y1 : Int) => K [.lf (.int .i64 y0), .lf (.int .i64 y1)] []) := by kernel_rfl
theorem E16_1 (F : Nat) (d : sh16_1.den) (K : KF) : evBody Tryd.prog (T16_1 F) (xw []) 45 0 (LT16_1 F) code16 Tryd.f16.results.toList (encT sh16_1.vs d.1) (encH sh16_1.h d.2) K = f16_1 F d.1.1 (fun (y0 : Int) (y1 : Int) => K [.lf (.int .i64 y0), .lf (.int .i64 y1)] []) := Eq.mp (by kernel_rfl) (E16_1g F (f40_1 F) (f42_1 F) (f45_1 F) (f16_1_l8 F)  d K)
theorem S16_1_ok (F : Nat) (o : Summ) (ho : SoundFn Tryd.prog 16 o) : SoundFn Tryd.prog 16 (S16_1 F o) :=
  soundFn_of (fn := Tryd.f16) (c := code16) rfl rfl (by kernel_rfl) (tab_cons (S40_1_ok F _ (noS_sound enter40)) (tab_cons (S42_1_ok F _ (noS_sound enter42)) (tab_cons (S45_1_ok F _ (noS_sound enter45)) tab_nil))) (by kernel_rfl) (by kernel_rfl) ho (by rw [loops16]; exact (loopsOK_cons (by kernel_rfl) (L16_1_8 F) loopsOK_nil)) (by rw [scopes16]; exact scopesOK_nil) (by rw [ranges16]; exact rangesOK_nil) (E16_1 F)
end Go.Proofs.YtillbabmlfjegaaDoor.X
end

section
namespace Go.Proofs.YtillbabmlfjegaaDoor.X
open Go Go.Proofs.YtillbabmlfjegaaDoor.Ev Go.Proofs
set_option linter.unusedVariables false
set_option linter.unusedSectionVars false
/-! pentimentoref08.Open -/
noncomputable def f14_1 {β : Type} (F : Nat) (a1 : Int) (a2 : ByteArray) (K0 : ByteArray → Int → Option β) : Option β := f16_1 F a2 (fun x1 x2 => cond (x2 != 0) (K0 ByteArray.empty x2) (cond (x1 != a1) (K0 ByteArray.empty 22) (cond (decide ((0 : Int) ≤ (1 : Int) ∧ (1 : Int) < (a2.size : Int))) (cond (decide ((0 : Int) ≤ (2 : Int) ∧ (2 : Int) ≤ IntKind.i64.wrap (2 + (IntKind.i64.wrap ((a2.data.getD 1 0).toNat : Int))) ∧ IntKind.i64.wrap (2 + (IntKind.i64.wrap ((a2.data.getD 1 0).toNat : Int))) ≤ (a2.size : Int))) (K0 (a2.extract 2 ((IntKind.i64.wrap (2 + (IntKind.i64.wrap ((a2.data.getD 1 0).toNat : Int)))).toNat)) 0) none) none))) 
variable [FZ]
def sh14_1 : Sh := ⟨[.lf (.int .i64), .lf (.str)], []⟩
noncomputable def S14_1 (F : Nat) (o : Summ) : Summ := mkS sh14_1 (fun d K => f14_1 F d.1.1 d.1.2.1 (fun (y0 : ByteArray) (y1 : Int) => K [.lf (.str y0), .lf (.int .i64 y1)] [])) o
noncomputable def code14 : Code := bodyOf Tryd.f14
theorem scopes14 : scopesOf code14 = [] := by kernel_rfl
theorem ranges14 : rangesOf code14 = [] := by kernel_rfl
theorem loops14 : loopsOf code14 = [] := by kernel_rfl
theorem enter14 : ∀ args w, (callFunc 14 args).run Tryd.prog w = .ok (.enter 14 args) w := enter_of (fn := Tryd.f14) (by kernel_rfl) (by kernel_rfl) (by kernel_rfl)
noncomputable def T14_1 (F : Nat) : FuncId → Option Summ := tab [(16, (S16_1 F noS))]
noncomputable def LT14_1 (F : Nat) : Nat → Option LoopS := ltab []
theorem E14_1g (F : Nat) (c16_1 : ByteArray → (Int → Int → Option Res) → Option Res)   (d : sh14_1.den) (K : KF) : evBody Tryd.prog (tab [(16, (mkS sh16_1 (fun d K => c16_1 d.1.1 (fun (y0 : Int) (y1 : Int) => K [.lf (.int .i64 y0), .lf (.int .i64 y1)] [])) noS))]) (xw []) 25 0 (ltab []) code14 Tryd.f14.results.toList (encT sh14_1.vs d.1) (encH sh14_1.h d.2) K = (fun (a1 : Int) (a2 : ByteArray) (K0 : (ByteArray → Int → Option Res)) => c16_1 a2 (fun x1 x2 => cond (x2 != 0) (K0 ByteArray.empty x2) (cond (x1 != a1) (K0 ByteArray.empty 22) (cond (decide ((0 : Int) ≤ (1 : Int) ∧ (1 : Int) < (a2.size : Int))) (cond (decide ((0 : Int) ≤ (2 : Int) ∧ (2 : Int) ≤ IntKind.i64.wrap (2 + (IntKind.i64.wrap ((a2.data.getD 1 0).toNat : Int))) ∧ IntKind.i64.wrap (2 + (IntKind.i64.wrap ((a2.data.getD 1 0).toNat : Int))) ≤ (a2.size : Int))) (K0 (a2.extract 2 ((IntKind.i64.wrap (2 + (IntKind.i64.wrap ((a2.data.getD 1 0).toNat : Int)))).toNat)) 0) none) none))) ) d.1.1 d.1.2.1 (fun (y0 : ByteArray) (y1 : Int) => K [.lf (.str y0), .lf (.int .i64 y1)] []) := by kernel_rfl
theorem E14_1 (F : Nat) (d : sh14_1.den) (K : KF) : evBody Tryd.prog (T14_1 F) (xw []) 25 0 (LT14_1 F) code14 Tryd.f14.results.toList (encT sh14_1.vs d.1) (encH sh14_1.h d.2) K = f14_1 F d.1.1 d.1.2.1 (fun (y0 : ByteArray) (y1 : Int) => K [.lf (.str y0), .lf (.int .i64 y1)] []) := Eq.mp (by kernel_rfl) (E14_1g F (f16_1 F)   d K)
theorem S14_1_ok (F : Nat) (o : Summ) (ho : SoundFn Tryd.prog 14 o) : SoundFn Tryd.prog 14 (S14_1 F o) :=
  soundFn_of (fn := Tryd.f14) (c := code14) rfl rfl (by kernel_rfl) (tab_cons (S16_1_ok F _ (noS_sound enter16)) tab_nil) (by kernel_rfl) (by kernel_rfl) ho (by rw [loops14]; exact loopsOK_nil) (by rw [scopes14]; exact scopesOK_nil) (by rw [ranges14]; exact rangesOK_nil) (E14_1 F)
end Go.Proofs.YtillbabmlfjegaaDoor.X
end

section
namespace Go.Proofs.YtillbabmlfjegaaDoor.X
open Go Go.Proofs.YtillbabmlfjegaaDoor.Ev Go.Proofs
set_option linter.unusedVariables false
set_option linter.unusedSectionVars false
/-! pentimentoref05.Fill -/
noncomputable def f82_1_l3 {β : Type} (F : Nat) (v1 : Int) (K0 : List Int → Option β) : Nat → Int → List Int → Option β
  | 0, _, _ => none
  | k + 1, v2, v3 => cond (decide (v2 < 64)) (cond (decide ((v3.length + 1) * 1 ≤ 70368744177664)) (f82_1_l3 F v1 K0 k (IntKind.i64.wrap (v2 + 1)) (v3 ++ [v1])) none) (K0 v3)
noncomputable def f82_1 {β : Type} (F : Nat) (a1 : Int) (K0 : ByteArray → Option β) : Option β := f82_1_l3 F a1 (fun x4 => K0 (ofInts x4)) F 0 []
variable [FZ]
def sh82_1 : Sh := ⟨[.lf (.int .u8)], []⟩
noncomputable def S82_1 (F : Nat) (o : Summ) : Summ := mkS sh82_1 (fun d K => f82_1 F d.1.1 (fun (y0 : ByteArray) => K [.lf (.str y0)] [])) o
noncomputable def code82 : Code := bodyOf Tryd.f82
noncomputable def b82_0 : Code := cB (cB (cR (cL (cR (cR (code82))))))
theorem scopes82 : scopesOf code82 = [] := by kernel_rfl
theorem ranges82 : rangesOf code82 = [] := by kernel_rfl
theorem loops82 : loopsOf code82 = [b82_0] := by kernel_rfl
theorem enter82 : ∀ args w, (callFunc 82 args).run Tryd.prog w = .ok (.enter 82 args) w := enter_of (fn := Tryd.f82) (by kernel_rfl) (by kernel_rfl) (by kernel_rfl)
noncomputable def T82_1 (F : Nat) : FuncId → Option Summ := tab []
def sh82_1_l3 : Sh := ⟨[.lf (.int .u8), .lf (.full 0), .lf (.int .i64)], [some ⟨some false, [.seq (.int .u8) 0]⟩]⟩
noncomputable def G82_1_3 (F k : Nat) : LoopS := mkG sh82_1_l3 [0, 3, 4] (outT [(.exit 0, [3])]) (fun d K => f82_1_l3 F d.1.1 (fun (y0 : List Int) => K (.exit 0) [.tv (.lf (.full 0))] [some ⟨false, [.seq (.int .u8) 0 y0]⟩]) k d.1.2.2.1 d.2.1.2.1) []
noncomputable def LT82_1 (F : Nat) : Nat → Option LoopS := ltab [(3, G82_1_3 F F)]
theorem L82_1_l3g (F k : Nat)   (l3 : Int → (List Int → Option Res) → Nat → Int → List Int → Option Res) (X3 : LoopS) (d : sh82_1_l3.den) (K : KL) : (fun (v1 : Int) (K0 : (List Int → Option Res)) (k : Nat) (v2 : Int) (v3 : List Int) => cond (decide (v2 < 64)) (cond (decide ((v3.length + 1) * 1 ≤ 70368744177664)) (l3 v1 K0 k (IntKind.i64.wrap (v2 + 1)) (v3 ++ [v1])) none) (K0 v3)) d.1.1 (fun (y0 : List Int) => K (.exit 0) [.tv (.lf (.full 0))] [some ⟨false, [.seq (.int .u8) 0 y0]⟩]) k d.1.2.2.1 d.2.1.2.1 = roundOf Tryd.prog (tab []) (xw []) 15 0 (ltab [(3, X3)]) (mkG sh82_1_l3 [0, 3, 4] (outT [(.exit 0, [3])]) (fun d K => l3 d.1.1 (fun (y0 : List Int) => K (.exit 0) [.tv (.lf (.full 0))] [some ⟨false, [.seq (.int .u8) 0 y0]⟩]) k d.1.2.2.1 d.2.1.2.1) []) b82_0 (encT sh82_1_l3.vs d.1) (encH sh82_1_l3.h d.2) K := by kernel_rfl
theorem L82_1_3 (F : Nat) : LoopOK Tryd.prog (T82_1 F) (xw []) 15 0 (LT82_1 F) (G82_1_3 F F) b82_0 :=
  loopOK_of (s := sh82_1_l3) (live := [0, 3, 4]) (out := (outT [(.exit 0, [3])])) (mv := []) (fun k d K => f82_1_l3 F d.1.1 (fun (y0 : List Int) => K (.exit 0) [.tv (.lf (.full 0))] [some ⟨false, [.seq (.int .u8) 0 y0]⟩]) k d.1.2.2.1 d.2.1.2.1) F (fun d K => by kernel_rfl)  (fun k d K => Eq.mp (by kernel_rfl) (L82_1_l3g F k   (f82_1_l3 F) (G82_1_3 F F) d K))
theorem E82_1g (F : Nat)  (l3 : Int → (List Int → Option Res) → Nat → Int → List Int → Option Res)  (d : sh82_1.den) (K : KF) : evBody Tryd.prog (tab []) (xw []) 15 0 (ltab [(3, mkG sh82_1_l3 [0, 3, 4] (outT [(.exit 0, [3])]) (fun d K => l3 d.1.1 (fun (y0 : List Int) => K (.exit 0) [.tv (.lf (.full 0))] [some ⟨false, [.seq (.int .u8) 0 y0]⟩]) F d.1.2.2.1 d.2.1.2.1) [])]) code82 Tryd.f82.results.toList (encT sh82_1.vs d.1) (encH sh82_1.h d.2) K = (fun (a1 : Int) (K0 : (ByteArray → Option Res)) => l3 a1 (fun x4 => K0 (ofInts x4)) F 0 []) d.1.1 (fun (y0 : ByteArray) => K [.lf (.str y0)] []) := by kernel_rfl
theorem E82_1 (F : Nat) (d : sh82_1.den) (K : KF) : evBody Tryd.prog (T82_1 F) (xw []) 15 0 (LT82_1 F) code82 Tryd.f82.results.toList (encT sh82_1.vs d.1) (encH sh82_1.h d.2) K = f82_1 F d.1.1 (fun (y0 : ByteArray) => K [.lf (.str y0)] []) := Eq.mp (by kernel_rfl) (E82_1g F  (f82_1_l3 F)  d K)
theorem S82_1_ok (F : Nat) (o : Summ) (ho : SoundFn Tryd.prog 82 o) : SoundFn Tryd.prog 82 (S82_1 F o) :=
  soundFn_of (fn := Tryd.f82) (c := code82) rfl rfl (by kernel_rfl) tab_nil (by kernel_rfl) (by kernel_rfl) ho (by rw [loops82]; exact (loopsOK_cons (by kernel_rfl) (L82_1_3 F) loopsOK_nil)) (by rw [scopes82]; exact scopesOK_nil) (by rw [ranges82]; exact rangesOK_nil) (E82_1 F)
end Go.Proofs.YtillbabmlfjegaaDoor.X
end

section
namespace Go.Proofs.YtillbabmlfjegaaDoor.X
open Go Go.Proofs.YtillbabmlfjegaaDoor.Ev Go.Proofs
set_option linter.unusedVariables false
set_option linter.unusedSectionVars false
/-! pentimentoref05.Zero -/
noncomputable def f41_1 {β : Type} (F : Nat)  (K0 : ByteArray → Option β) : Option β := f82_1 F 0 (fun x1 => K0 x1) 
variable [FZ]
def sh41_1 : Sh := ⟨[], []⟩
noncomputable def S41_1 (F : Nat) (o : Summ) : Summ := mkS sh41_1 (fun d K => f41_1 F (fun (y0 : ByteArray) => K [.lf (.str y0)] [])) o
noncomputable def code41 : Code := bodyOf Tryd.f41
theorem scopes41 : scopesOf code41 = [] := by kernel_rfl
theorem ranges41 : rangesOf code41 = [] := by kernel_rfl
theorem loops41 : loopsOf code41 = [] := by kernel_rfl
theorem enter41 : ∀ args w, (callFunc 41 args).run Tryd.prog w = .ok (.enter 41 args) w := enter_of (fn := Tryd.f41) (by kernel_rfl) (by kernel_rfl) (by kernel_rfl)
noncomputable def T41_1 (F : Nat) : FuncId → Option Summ := tab [(82, (S82_1 F noS))]
noncomputable def LT41_1 (F : Nat) : Nat → Option LoopS := ltab []
theorem E41_1g (F : Nat) (c82_1 : Int → (ByteArray → Option Res) → Option Res)   (d : sh41_1.den) (K : KF) : evBody Tryd.prog (tab [(82, (mkS sh82_1 (fun d K => c82_1 d.1.1 (fun (y0 : ByteArray) => K [.lf (.str y0)] [])) noS))]) (xw []) 2 0 (ltab []) code41 Tryd.f41.results.toList (encT sh41_1.vs d.1) (encH sh41_1.h d.2) K = (fun (K0 : (ByteArray → Option Res)) => c82_1 0 (fun x1 => K0 x1) ) (fun (y0 : ByteArray) => K [.lf (.str y0)] []) := by kernel_rfl
theorem E41_1 (F : Nat) (d : sh41_1.den) (K : KF) : evBody Tryd.prog (T41_1 F) (xw []) 2 0 (LT41_1 F) code41 Tryd.f41.results.toList (encT sh41_1.vs d.1) (encH sh41_1.h d.2) K = f41_1 F (fun (y0 : ByteArray) => K [.lf (.str y0)] []) := Eq.mp (by kernel_rfl) (E41_1g F (f82_1 F)   d K)
theorem S41_1_ok (F : Nat) (o : Summ) (ho : SoundFn Tryd.prog 41 o) : SoundFn Tryd.prog 41 (S41_1 F o) :=
  soundFn_of (fn := Tryd.f41) (c := code41) rfl rfl (by kernel_rfl) (tab_cons (S82_1_ok F _ (noS_sound enter82)) tab_nil) (by kernel_rfl) (by kernel_rfl) ho (by rw [loops41]; exact loopsOK_nil) (by rw [scopes41]; exact scopesOK_nil) (by rw [ranges41]; exact rangesOK_nil) (E41_1 F)
end Go.Proofs.YtillbabmlfjegaaDoor.X
end

section
namespace Go.Proofs.YtillbabmlfjegaaDoor.X
open Go Go.Proofs.YtillbabmlfjegaaDoor.Ev Go.Proofs
set_option linter.unusedVariables false
set_option linter.unusedSectionVars false
/-! pentimentoref08.Make -/
noncomputable def f11_1 {β : Type} (F : Nat) (a1 : Int) (a2 : ByteArray) (K0 : ByteArray → Int → Option β) : Option β := cond (decide (a1 < 1)) (K0 ByteArray.empty 22) (cond (decide (a1 > 8)) (K0 ByteArray.empty 22) (cond (decide ((a2.size : Int) > 58)) (K0 ByteArray.empty 8) (f40_1 F 1 (IntKind.u64.wrap a1) (fun x1 => f40_1 F 1 (IntKind.u64.wrap (a2.size : Int)) (fun x2 => cond (decide (x1.size + x2.size ≤ 4611686018427387904)) (cond (decide ((x1 ++ x2).size + a2.size ≤ 4611686018427387904)) (f41_1 F  (fun x3 => cond (decide ((0 : Int) ≤ (((x1 ++ x2) ++ a2).size : Int) ∧ (((x1 ++ x2) ++ a2).size : Int) ≤ (60 : Int) ∧ (60 : Int) ≤ (x3.size : Int))) (cond (decide (((x1 ++ x2) ++ a2).size + (x3.extract ((((x1 ++ x2) ++ a2).size : Int).toNat) 60).size ≤ 4611686018427387904)) (f42_1 F (toInts (((x1 ++ x2) ++ a2) ++ (x3.extract ((((x1 ++ x2) ++ a2).size : Int).toNat) 60))) (fun x4 => f40_1 F 4 (IntKind.u64.wrap x4) (fun x5 => cond (decide ((((x1 ++ x2) ++ a2) ++ (x3.extract ((((x1 ++ x2) ++ a2).size : Int).toNat) 60)).size + x5.size ≤ 4611686018427387904)) (K0 ((((x1 ++ x2) ++ a2) ++ (x3.extract ((((x1 ++ x2) ++ a2).size : Int).toNat) 60)) ++ x5) 0) none) ) ) none) none) ) none) none) ) )))
variable [FZ]
def sh11_1 : Sh := ⟨[.lf (.int .i64), .lf (.str)], []⟩
noncomputable def S11_1 (F : Nat) (o : Summ) : Summ := mkS sh11_1 (fun d K => f11_1 F d.1.1 d.1.2.1 (fun (y0 : ByteArray) (y1 : Int) => K [.lf (.str y0), .lf (.int .i64 y1)] [])) o
noncomputable def code11 : Code := bodyOf Tryd.f11
theorem scopes11 : scopesOf code11 = [] := by kernel_rfl
theorem ranges11 : rangesOf code11 = [] := by kernel_rfl
theorem loops11 : loopsOf code11 = [] := by kernel_rfl
theorem enter11 : ∀ args w, (callFunc 11 args).run Tryd.prog w = .ok (.enter 11 args) w := enter_of (fn := Tryd.f11) (by kernel_rfl) (by kernel_rfl) (by kernel_rfl)
noncomputable def T11_1 (F : Nat) : FuncId → Option Summ := tab [(40, (S40_1 F noS)), (41, (S41_1 F noS)), (42, (S42_1 F noS))]
noncomputable def LT11_1 (F : Nat) : Nat → Option LoopS := ltab []
theorem E11_1g (F : Nat) (c40_1 : Int → Int → (ByteArray → Option Res) → Option Res) (c41_1 : (ByteArray → Option Res) → Option Res) (c42_1 : List Int → (Int → Option Res) → Option Res)   (d : sh11_1.den) (K : KF) : evBody Tryd.prog (tab [(40, (mkS sh40_1 (fun d K => c40_1 d.1.1 d.1.2.1 (fun (y0 : ByteArray) => K [.lf (.str y0)] [])) noS)), (41, (mkS sh41_1 (fun d K => c41_1 (fun (y0 : ByteArray) => K [.lf (.str y0)] [])) noS)), (42, (mkS sh42_1 (fun d K => c42_1 d.2.1.2.1 (fun (y0 : Int) => K [.lf (.int .u32 y0)] [some ⟨d.2.1.1, [.seq (.int .u8) 0 d.2.1.2.1]⟩])) noS))]) (xw []) 41 0 (ltab []) code11 Tryd.f11.results.toList (encT sh11_1.vs d.1) (encH sh11_1.h d.2) K = (fun (a1 : Int) (a2 : ByteArray) (K0 : (ByteArray → Int → Option Res)) => cond (decide (a1 < 1)) (K0 ByteArray.empty 22) (cond (decide (a1 > 8)) (K0 ByteArray.empty 22) (cond (decide ((a2.size : Int) > 58)) (K0 ByteArray.empty 8) (c40_1 1 (IntKind.u64.wrap a1) (fun x1 => c40_1 1 (IntKind.u64.wrap (a2.size : Int)) (fun x2 => cond (decide (x1.size + x2.size ≤ 4611686018427387904)) (cond (decide ((x1 ++ x2).size + a2.size ≤ 4611686018427387904)) (c41_1  (fun x3 => cond (decide ((0 : Int) ≤ (((x1 ++ x2) ++ a2).size : Int) ∧ (((x1 ++ x2) ++ a2).size : Int) ≤ (60 : Int) ∧ (60 : Int) ≤ (x3.size : Int))) (cond (decide (((x1 ++ x2) ++ a2).size + (x3.extract ((((x1 ++ x2) ++ a2).size : Int).toNat) 60).size ≤ 4611686018427387904)) (c42_1 (toInts (((x1 ++ x2) ++ a2) ++ (x3.extract ((((x1 ++ x2) ++ a2).size : Int).toNat) 60))) (fun x4 => c40_1 4 (IntKind.u64.wrap x4) (fun x5 => cond (decide ((((x1 ++ x2) ++ a2) ++ (x3.extract ((((x1 ++ x2) ++ a2).size : Int).toNat) 60)).size + x5.size ≤ 4611686018427387904)) (K0 ((((x1 ++ x2) ++ a2) ++ (x3.extract ((((x1 ++ x2) ++ a2).size : Int).toNat) 60)) ++ x5) 0) none) ) ) none) none) ) none) none) ) )))) d.1.1 d.1.2.1 (fun (y0 : ByteArray) (y1 : Int) => K [.lf (.str y0), .lf (.int .i64 y1)] []) := by kernel_rfl
theorem E11_1 (F : Nat) (d : sh11_1.den) (K : KF) : evBody Tryd.prog (T11_1 F) (xw []) 41 0 (LT11_1 F) code11 Tryd.f11.results.toList (encT sh11_1.vs d.1) (encH sh11_1.h d.2) K = f11_1 F d.1.1 d.1.2.1 (fun (y0 : ByteArray) (y1 : Int) => K [.lf (.str y0), .lf (.int .i64 y1)] []) := Eq.mp (by kernel_rfl) (E11_1g F (f40_1 F) (f41_1 F) (f42_1 F)   d K)
theorem S11_1_ok (F : Nat) (o : Summ) (ho : SoundFn Tryd.prog 11 o) : SoundFn Tryd.prog 11 (S11_1 F o) :=
  soundFn_of (fn := Tryd.f11) (c := code11) rfl rfl (by kernel_rfl) (tab_cons (S40_1_ok F _ (noS_sound enter40)) (tab_cons (S41_1_ok F _ (noS_sound enter41)) (tab_cons (S42_1_ok F _ (noS_sound enter42)) tab_nil))) (by kernel_rfl) (by kernel_rfl) ho (by rw [loops11]; exact loopsOK_nil) (by rw [scopes11]; exact scopesOK_nil) (by rw [ranges11]; exact rangesOK_nil) (E11_1 F)
end Go.Proofs.YtillbabmlfjegaaDoor.X
end
