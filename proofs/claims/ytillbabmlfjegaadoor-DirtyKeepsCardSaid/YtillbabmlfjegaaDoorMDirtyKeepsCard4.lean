/- Merged: EvF102, EvF69, EvF70, EvF33, EvF92, EvF47, EvF128, EvF124, EvF112, EvF80, EvF39, EvF10, EvF43, EvF65, EvF96, EvF55, EvF56, EvF103, EvF71, EvF34, EvF55v1385, EvF34v2761, EvF35, Trm, TrimC, EvF15, EvF13, EvF104, EvF30, EvF72, EvF49, EvF93, EvF51, EvF105, EvF106. -/
import Derived.Test.YtillbabmlfjegaaDoorMDirtyKeepsCard3
import Derived.Test.YtillbabmlfjegaaDoorProg
import Derived.KernelRfl
import Derived.Shelf.Strings.SlTrimAscii
section
namespace Go.Proofs.YtillbabmlfjegaaDoor.X
open Go Go.Proofs.YtillbabmlfjegaaDoor.Ev Go.Proofs
set_option linter.unusedVariables false
set_option linter.unusedSectionVars false
/-! bits.Set).Or -/
noncomputable def f102_1_l4 [FZ] {β : Type} (F : Nat) (v3 : List Int) (v4 : List Int) (K0 : List Int → Option β) : Nat → Int → List Int → Option β
  | 0, _, _ => none
  | k + 1, v1, v2 => cond (decide (v1 < 2)) (cond (decide ((0 : Int) ≤ v1 ∧ v1 < 2)) (cond (decide (v1.toNat < v2.length)) (cond (decide ((0 : Int) ≤ v1 ∧ v1 < 2)) (cond (decide (v1.toNat < v3.length)) (cond (decide ((0 : Int) ≤ v1 ∧ v1 < 2)) (cond (decide (v1.toNat < v2.length)) (f102_1_l4 F v3 v4 K0 k (IntKind.i64.wrap (v1 + 1)) (v2.set v1.toNat (ior .u64 (v2.getD v1.toNat 0) (v3.getD v1.toNat 0)))) none) none) none) none) none) none) (K0 v2)
noncomputable def f102_1 [FZ] {β : Type} (F : Nat) (a1 : List Int) (a2 : List Int) (K0 : List Int → Option β) : Option β := cond (lbeq (.int .u64) a1 a2) (K0 a1) (f102_1_l4 F a2 [0, 0] (fun x5 => K0 x5) F 0 a1)
variable [FZ]
def sh102_1 : Sh := ⟨[.agg [.seq (.int .u64) 2], .agg [.seq (.int .u64) 2]], []⟩
noncomputable def S102_1 (F : Nat) (o : Summ) : Summ := mkS sh102_1 (fun d K => f102_1 F d.1.1.1 d.1.2.1.1 (fun (y0 : List Int) => K [.agg [.seq (.int .u64) 2 y0]] [])) o
noncomputable def code102 : Code := bodyOf Tryd.f102
noncomputable def b102_0 : Code := cB (cB (cR (cL (cR (cR (code102))))))
theorem scopes102 : scopesOf code102 = [] := by kernel_rfl
theorem ranges102 : rangesOf code102 = [] := by kernel_rfl
theorem loops102 : loopsOf code102 = [b102_0] := by kernel_rfl
theorem enter102 : ∀ args w, (callFunc 102 args).run Tryd.prog w = .ok (.enter 102 args) w := enter_of (fn := Tryd.f102) (by kernel_rfl) (by kernel_rfl) (by kernel_rfl)
noncomputable def T102_1 (F : Nat) : FuncId → Option Summ := tab []
def sh102_1_l4 : Sh := ⟨[.lf (.ptr 0 0), .lf (.ptr 1 0), .lf (.ptr 2 0), .lf (.int .i64)], [some ⟨some false, [.seq (.int .u64) 2]⟩, some ⟨some false, [.seq (.int .u64) 2]⟩, some ⟨some false, [.seq (.int .u64) 2]⟩]⟩
noncomputable def G102_1_4 (F k : Nat) : LoopS := mkG sh102_1_l4 [2, 3, 4, 10] (outT [(.exit 0, [2, 4])]) (fun d K => f102_1_l4 F d.2.2.1.2.1 d.2.2.2.1.2.1 (fun (y0 : List Int) => K (.exit 0) [.tv (.lf (.ptr 0 0)), .tv (.lf (.ptr 2 0))] [some ⟨false, [.seq (.int .u64) 2 y0]⟩, some ⟨false, [.seq (.int .u64) 2 d.2.2.1.2.1]⟩, some ⟨false, [.seq (.int .u64) 2 d.2.2.2.1.2.1]⟩]) k d.1.2.2.2.1 d.2.1.2.1) []
noncomputable def LT102_1 (F : Nat) : Nat → Option LoopS := ltab [(4, G102_1_4 F F)]
theorem L102_1_l4g (F k : Nat)   (l4 : List Int → List Int → (List Int → Option Res) → Nat → Int → List Int → Option Res) (X4 : LoopS) (d : sh102_1_l4.den) (K : KL) : (fun (v3 : List Int) (v4 : List Int) (K0 : (List Int → Option Res)) (k : Nat) (v1 : Int) (v2 : List Int) => cond (decide (v1 < 2)) (cond (decide ((0 : Int) ≤ v1 ∧ v1 < 2)) (cond (decide (v1.toNat < v2.length)) (cond (decide ((0 : Int) ≤ v1 ∧ v1 < 2)) (cond (decide (v1.toNat < v3.length)) (cond (decide ((0 : Int) ≤ v1 ∧ v1 < 2)) (cond (decide (v1.toNat < v2.length)) (l4 v3 v4 K0 k (IntKind.i64.wrap (v1 + 1)) (v2.set v1.toNat (ior .u64 (v2.getD v1.toNat 0) (v3.getD v1.toNat 0)))) none) none) none) none) none) none) (K0 v2)) d.2.2.1.2.1 d.2.2.2.1.2.1 (fun (y0 : List Int) => K (.exit 0) [.tv (.lf (.ptr 0 0)), .tv (.lf (.ptr 2 0))] [some ⟨false, [.seq (.int .u64) 2 y0]⟩, some ⟨false, [.seq (.int .u64) 2 d.2.2.1.2.1]⟩, some ⟨false, [.seq (.int .u64) 2 d.2.2.2.1.2.1]⟩]) k d.1.2.2.2.1 d.2.1.2.1 = roundOf Tryd.prog (tab []) (xw []) 23 0 (ltab [(4, X4)]) (mkG sh102_1_l4 [2, 3, 4, 10] (outT [(.exit 0, [2, 4])]) (fun d K => l4 d.2.2.1.2.1 d.2.2.2.1.2.1 (fun (y0 : List Int) => K (.exit 0) [.tv (.lf (.ptr 0 0)), .tv (.lf (.ptr 2 0))] [some ⟨false, [.seq (.int .u64) 2 y0]⟩, some ⟨false, [.seq (.int .u64) 2 d.2.2.1.2.1]⟩, some ⟨false, [.seq (.int .u64) 2 d.2.2.2.1.2.1]⟩]) k d.1.2.2.2.1 d.2.1.2.1) []) b102_0 (encT sh102_1_l4.vs d.1) (encH sh102_1_l4.h d.2) K := by kernel_rfl
theorem L102_1_4 (F : Nat) : LoopOK Tryd.prog (T102_1 F) (xw []) 23 0 (LT102_1 F) (G102_1_4 F F) b102_0 :=
  loopOK_of (s := sh102_1_l4) (live := [2, 3, 4, 10]) (out := (outT [(.exit 0, [2, 4])])) (mv := []) (fun k d K => f102_1_l4 F d.2.2.1.2.1 d.2.2.2.1.2.1 (fun (y0 : List Int) => K (.exit 0) [.tv (.lf (.ptr 0 0)), .tv (.lf (.ptr 2 0))] [some ⟨false, [.seq (.int .u64) 2 y0]⟩, some ⟨false, [.seq (.int .u64) 2 d.2.2.1.2.1]⟩, some ⟨false, [.seq (.int .u64) 2 d.2.2.2.1.2.1]⟩]) k d.1.2.2.2.1 d.2.1.2.1) F (fun d K => by kernel_rfl)  (fun k d K => Eq.mp (by kernel_rfl) (L102_1_l4g F k   (f102_1_l4 F) (G102_1_4 F F) d K))
theorem E102_1g (F : Nat)  (l4 : List Int → List Int → (List Int → Option Res) → Nat → Int → List Int → Option Res)  (d : sh102_1.den) (K : KF) : evBody Tryd.prog (tab []) (xw []) 23 0 (ltab [(4, mkG sh102_1_l4 [2, 3, 4, 10] (outT [(.exit 0, [2, 4])]) (fun d K => l4 d.2.2.1.2.1 d.2.2.2.1.2.1 (fun (y0 : List Int) => K (.exit 0) [.tv (.lf (.ptr 0 0)), .tv (.lf (.ptr 2 0))] [some ⟨false, [.seq (.int .u64) 2 y0]⟩, some ⟨false, [.seq (.int .u64) 2 d.2.2.1.2.1]⟩, some ⟨false, [.seq (.int .u64) 2 d.2.2.2.1.2.1]⟩]) F d.1.2.2.2.1 d.2.1.2.1) [])]) code102 Tryd.f102.results.toList (encT sh102_1.vs d.1) (encH sh102_1.h d.2) K = (fun (a1 : List Int) (a2 : List Int) (K0 : (List Int → Option Res)) => cond (lbeq (.int .u64) a1 a2) (K0 a1) (l4 a2 [0, 0] (fun x5 => K0 x5) F 0 a1)) d.1.1.1 d.1.2.1.1 (fun (y0 : List Int) => K [.agg [.seq (.int .u64) 2 y0]] []) := by kernel_rfl
theorem E102_1 (F : Nat) (d : sh102_1.den) (K : KF) : evBody Tryd.prog (T102_1 F) (xw []) 23 0 (LT102_1 F) code102 Tryd.f102.results.toList (encT sh102_1.vs d.1) (encH sh102_1.h d.2) K = f102_1 F d.1.1.1 d.1.2.1.1 (fun (y0 : List Int) => K [.agg [.seq (.int .u64) 2 y0]] []) := Eq.mp (by kernel_rfl) (E102_1g F  (f102_1_l4 F)  d K)
theorem S102_1_ok (F : Nat) (o : Summ) (ho : SoundFn Tryd.prog 102 o) : SoundFn Tryd.prog 102 (S102_1 F o) :=
  soundFn_of (fn := Tryd.f102) (c := code102) rfl rfl (by kernel_rfl) tab_nil (by kernel_rfl) (by kernel_rfl) ho (by rw [loops102]; exact (loopsOK_cons (by kernel_rfl) (L102_1_4 F) loopsOK_nil)) (by rw [scopes102]; exact scopesOK_nil) (by rw [ranges102]; exact rangesOK_nil) (E102_1 F)
end Go.Proofs.YtillbabmlfjegaaDoor.X
end

section
namespace Go.Proofs.YtillbabmlfjegaaDoor.X
open Go Go.Proofs.YtillbabmlfjegaaDoor.Ev Go.Proofs
set_option linter.unusedVariables false
set_option linter.unusedSectionVars false
/-! dirty.Map).Merge -/
noncomputable def f69_1 [FZ] {β : Type} (F : Nat) (a1 : List Int) (a2 : List Int) (a3 : Int) (K0 : List Int → List Int → Option β) : Option β := f102_1 F a1 a2 (fun x1 => K0 x1 [0, 0]) 
variable [FZ]
def sh69_1 : Sh := ⟨[.agg [.seq (.int .u64) 2, .seq (.int .u64) 2, .int .u64]], []⟩
noncomputable def S69_1 (F : Nat) (o : Summ) : Summ := mkS sh69_1 (fun d K => f69_1 F d.1.1.1 d.1.1.2.1 d.1.1.2.2.1 (fun (y0 : List Int) (y1 : List Int) => K [.agg [.seq (.int .u64) 2 y0, .seq (.int .u64) 2 y1, .int .u64 0]] [])) o
noncomputable def code69 : Code := bodyOf Tryd.f69
theorem scopes69 : scopesOf code69 = [] := by kernel_rfl
theorem ranges69 : rangesOf code69 = [] := by kernel_rfl
theorem loops69 : loopsOf code69 = [] := by kernel_rfl
theorem enter69 : ∀ args w, (callFunc 69 args).run Tryd.prog w = .ok (.enter 69 args) w := enter_of (fn := Tryd.f69) (by kernel_rfl) (by kernel_rfl) (by kernel_rfl)
noncomputable def T69_1 (F : Nat) : FuncId → Option Summ := tab [(102, (S102_1 F noS))]
noncomputable def LT69_1 (F : Nat) : Nat → Option LoopS := ltab []
theorem E69_1g (F : Nat) (c102_1 : List Int → List Int → (List Int → Option Res) → Option Res)   (d : sh69_1.den) (K : KF) : evBody Tryd.prog (tab [(102, (mkS sh102_1 (fun d K => c102_1 d.1.1.1 d.1.2.1.1 (fun (y0 : List Int) => K [.agg [.seq (.int .u64) 2 y0]] [])) noS))]) (xw []) 9 0 (ltab []) code69 Tryd.f69.results.toList (encT sh69_1.vs d.1) (encH sh69_1.h d.2) K = (fun (a1 : List Int) (a2 : List Int) (a3 : Int) (K0 : (List Int → List Int → Option Res)) => c102_1 a1 a2 (fun x1 => K0 x1 [0, 0]) ) d.1.1.1 d.1.1.2.1 d.1.1.2.2.1 (fun (y0 : List Int) (y1 : List Int) => K [.agg [.seq (.int .u64) 2 y0, .seq (.int .u64) 2 y1, .int .u64 0]] []) := by kernel_rfl
theorem E69_1 (F : Nat) (d : sh69_1.den) (K : KF) : evBody Tryd.prog (T69_1 F) (xw []) 9 0 (LT69_1 F) code69 Tryd.f69.results.toList (encT sh69_1.vs d.1) (encH sh69_1.h d.2) K = f69_1 F d.1.1.1 d.1.1.2.1 d.1.1.2.2.1 (fun (y0 : List Int) (y1 : List Int) => K [.agg [.seq (.int .u64) 2 y0, .seq (.int .u64) 2 y1, .int .u64 0]] []) := Eq.mp (by kernel_rfl) (E69_1g F (f102_1 F)   d K)
theorem S69_1_ok (F : Nat) (o : Summ) (ho : SoundFn Tryd.prog 69 o) : SoundFn Tryd.prog 69 (S69_1 F o) :=
  soundFn_of (fn := Tryd.f69) (c := code69) rfl rfl (by kernel_rfl) (tab_cons (S102_1_ok F _ (noS_sound enter102)) tab_nil) (by kernel_rfl) (by kernel_rfl) ho (by rw [loops69]; exact loopsOK_nil) (by rw [scopes69]; exact scopesOK_nil) (by rw [ranges69]; exact rangesOK_nil) (E69_1 F)
end Go.Proofs.YtillbabmlfjegaaDoor.X
end

section
namespace Go.Proofs.YtillbabmlfjegaaDoor.X
open Go Go.Proofs.YtillbabmlfjegaaDoor.Ev Go.Proofs
set_option linter.unusedVariables false
set_option linter.unusedSectionVars false
/-! dirty.Map).Close -/
noncomputable def f70_1 {β : Type} (F : Nat) (a1 : List Int) (a2 : List Int) (a3 : Int) (K0 : List Int → Option β) : Option β := K0 [0, 0]
variable [FZ]
def sh70_1 : Sh := ⟨[.agg [.seq (.int .u64) 2, .seq (.int .u64) 2, .int .u64]], []⟩
noncomputable def S70_1 (F : Nat) (o : Summ) : Summ := mkS sh70_1 (fun d K => f70_1 F d.1.1.1 d.1.1.2.1 d.1.1.2.2.1 (fun (y1 : List Int) => K [.agg [.seq (.int .u64) 2 d.1.1.1, .seq (.int .u64) 2 y1, .int .u64 0]] [])) o
noncomputable def code70 : Code := bodyOf Tryd.f70
theorem scopes70 : scopesOf code70 = [] := by kernel_rfl
theorem ranges70 : rangesOf code70 = [] := by kernel_rfl
theorem loops70 : loopsOf code70 = [] := by kernel_rfl
theorem enter70 : ∀ args w, (callFunc 70 args).run Tryd.prog w = .ok (.enter 70 args) w := enter_of (fn := Tryd.f70) (by kernel_rfl) (by kernel_rfl) (by kernel_rfl)
noncomputable def T70_1 (F : Nat) : FuncId → Option Summ := tab []
noncomputable def LT70_1 (F : Nat) : Nat → Option LoopS := ltab []
theorem E70_1g (F : Nat)    (d : sh70_1.den) (K : KF) : evBody Tryd.prog (tab []) (xw []) 6 0 (ltab []) code70 Tryd.f70.results.toList (encT sh70_1.vs d.1) (encH sh70_1.h d.2) K = (fun (a1 : List Int) (a2 : List Int) (a3 : Int) (K0 : (List Int → Option Res)) => K0 [0, 0]) d.1.1.1 d.1.1.2.1 d.1.1.2.2.1 (fun (y1 : List Int) => K [.agg [.seq (.int .u64) 2 d.1.1.1, .seq (.int .u64) 2 y1, .int .u64 0]] []) := by kernel_rfl
theorem E70_1 (F : Nat) (d : sh70_1.den) (K : KF) : evBody Tryd.prog (T70_1 F) (xw []) 6 0 (LT70_1 F) code70 Tryd.f70.results.toList (encT sh70_1.vs d.1) (encH sh70_1.h d.2) K = f70_1 F d.1.1.1 d.1.1.2.1 d.1.1.2.2.1 (fun (y1 : List Int) => K [.agg [.seq (.int .u64) 2 d.1.1.1, .seq (.int .u64) 2 y1, .int .u64 0]] []) := Eq.mp (by kernel_rfl) (E70_1g F    d K)
theorem S70_1_ok (F : Nat) (o : Summ) (ho : SoundFn Tryd.prog 70 o) : SoundFn Tryd.prog 70 (S70_1 F o) :=
  soundFn_of (fn := Tryd.f70) (c := code70) rfl rfl (by kernel_rfl) tab_nil (by kernel_rfl) (by kernel_rfl) ho (by rw [loops70]; exact loopsOK_nil) (by rw [scopes70]; exact scopesOK_nil) (by rw [ranges70]; exact rangesOK_nil) (E70_1 F)
end Go.Proofs.YtillbabmlfjegaaDoor.X
end

section
namespace Go.Proofs.YtillbabmlfjegaaDoor.X
open Go Go.Proofs.YtillbabmlfjegaaDoor.Ev Go.Proofs
set_option linter.unusedVariables false
set_option linter.unusedSectionVars false
/-! pentimentolaw11.known -/
noncomputable def f33_1 [FZ] {β : Type} (F : Nat)  (K0 : Bool → Option β) : Option β := f66_1 F [0, 0] [0, 0] 0 3 (fun x1 x2 x3 x4 => f67_1 F x1 x2 x3 1 (fun x5 => f66_1 F x5 x1 1 4 (fun x6 x7 x8 x9 => f68_1 F [3, 4] (fun x10 x11 => cond (x4 == 0) (cond (x9 == 0) (cond (x8 == 1) (f69_1 F x6 x7 x8 (fun x12 x13 => cond ((lbeq (.int .u64) x12 x10) && ((lbeq (.int .u64) x13 [0, 0]) && true)) (f70_1 F x6 x7 x8 (fun x14 => K0 (lbeq (.int .u64) x14 [0, 0])) ) (K0 false)) ) (K0 false)) (K0 false)) (K0 false)) ) ) ) 
variable [FZ]
def sh33_1 : Sh := ⟨[], []⟩
noncomputable def S33_1 (F : Nat) (o : Summ) : Summ := mkS sh33_1 (fun d K => f33_1 F (fun (y0 : Bool) => K [.lf (.bool y0)] [])) o
noncomputable def code33 : Code := bodyOf Tryd.f33
theorem scopes33 : scopesOf code33 = [] := by kernel_rfl
theorem ranges33 : rangesOf code33 = [] := by kernel_rfl
theorem loops33 : loopsOf code33 = [] := by kernel_rfl
theorem enter33 : ∀ args w, (callFunc 33 args).run Tryd.prog w = .ok (.enter 33 args) w := enter_of (fn := Tryd.f33) (by kernel_rfl) (by kernel_rfl) (by kernel_rfl)
noncomputable def T33_1 (F : Nat) : FuncId → Option Summ := tab [(66, (S66_1 F noS)), (67, (S67_1 F noS)), (68, (S68_1 F noS)), (69, (S69_1 F noS)), (70, (S70_1 F noS))]
noncomputable def LT33_1 (F : Nat) : Nat → Option LoopS := ltab []
theorem E33_1g (F : Nat) (c66_1 : List Int → List Int → Int → Int → (List Int → List Int → Int → Int → Option Res) → Option Res) (c67_1 : List Int → List Int → Int → Int → (List Int → Option Res) → Option Res) (c68_1 : List Int → (List Int → Int → Option Res) → Option Res) (c69_1 : List Int → List Int → Int → (List Int → List Int → Option Res) → Option Res) (c70_1 : List Int → List Int → Int → (List Int → Option Res) → Option Res)   (d : sh33_1.den) (K : KF) : evBody Tryd.prog (tab [(66, (mkS sh66_1 (fun d K => c66_1 d.1.1.1 d.1.1.2.1 d.1.1.2.2.1 d.1.2.1 (fun (y0 : List Int) (y1 : List Int) (y2 : Int) (y3 : Int) => K [.agg [.seq (.int .u64) 2 y0, .seq (.int .u64) 2 y1, .int .u64 y2], .lf (.int .i64 y3)] [])) noS)), (67, (mkS sh67_1 (fun d K => c67_1 d.1.1.1 d.1.1.2.1 d.1.1.2.2.1 d.1.2.1 (fun (y0 : List Int) => K [.agg [.seq (.int .u64) 2 y0, .seq (.int .u64) 2 d.1.1.1, .int .u64 d.1.2.1]] [])) noS)), (68, (mkS sh68_1 (fun d K => c68_1 d.2.1.2.1 (fun (y0 : List Int) (y1 : Int) => K [.agg [.seq (.int .u64) 2 y0], .lf (.int .i64 y1)] [some ⟨d.2.1.1, [.seq (.int .i64) 0 d.2.1.2.1]⟩])) noS)), (69, (mkS sh69_1 (fun d K => c69_1 d.1.1.1 d.1.1.2.1 d.1.1.2.2.1 (fun (y0 : List Int) (y1 : List Int) => K [.agg [.seq (.int .u64) 2 y0, .seq (.int .u64) 2 y1, .int .u64 0]] [])) noS)), (70, (mkS sh70_1 (fun d K => c70_1 d.1.1.1 d.1.1.2.1 d.1.1.2.2.1 (fun (y1 : List Int) => K [.agg [.seq (.int .u64) 2 d.1.1.1, .seq (.int .u64) 2 y1, .int .u64 0]] [])) noS))]) (xw []) 48 0 (ltab []) code33 Tryd.f33.results.toList (encT sh33_1.vs d.1) (encH sh33_1.h d.2) K = (fun (K0 : (Bool → Option Res)) => c66_1 [0, 0] [0, 0] 0 3 (fun x1 x2 x3 x4 => c67_1 x1 x2 x3 1 (fun x5 => c66_1 x5 x1 1 4 (fun x6 x7 x8 x9 => c68_1 [3, 4] (fun x10 x11 => cond (x4 == 0) (cond (x9 == 0) (cond (x8 == 1) (c69_1 x6 x7 x8 (fun x12 x13 => cond ((lbeq (.int .u64) x12 x10) && ((lbeq (.int .u64) x13 [0, 0]) && true)) (c70_1 x6 x7 x8 (fun x14 => K0 (lbeq (.int .u64) x14 [0, 0])) ) (K0 false)) ) (K0 false)) (K0 false)) (K0 false)) ) ) ) ) (fun (y0 : Bool) => K [.lf (.bool y0)] []) := by kernel_rfl
theorem E33_1 (F : Nat) (d : sh33_1.den) (K : KF) : evBody Tryd.prog (T33_1 F) (xw []) 48 0 (LT33_1 F) code33 Tryd.f33.results.toList (encT sh33_1.vs d.1) (encH sh33_1.h d.2) K = f33_1 F (fun (y0 : Bool) => K [.lf (.bool y0)] []) := Eq.mp (by kernel_rfl) (E33_1g F (f66_1 F) (f67_1 F) (f68_1 F) (f69_1 F) (f70_1 F)   d K)
theorem S33_1_ok (F : Nat) (o : Summ) (ho : SoundFn Tryd.prog 33 o) : SoundFn Tryd.prog 33 (S33_1 F o) :=
  soundFn_of (fn := Tryd.f33) (c := code33) rfl rfl (by kernel_rfl) (tab_cons (S66_1_ok F _ (noS_sound enter66)) (tab_cons (S67_1_ok F _ (noS_sound enter67)) (tab_cons (S68_1_ok F _ (noS_sound enter68)) (tab_cons (S69_1_ok F _ (noS_sound enter69)) (tab_cons (S70_1_ok F _ (noS_sound enter70)) tab_nil))))) (by kernel_rfl) (by kernel_rfl) ho (by rw [loops33]; exact loopsOK_nil) (by rw [scopes33]; exact scopesOK_nil) (by rw [ranges33]; exact rangesOK_nil) (E33_1 F)
end Go.Proofs.YtillbabmlfjegaaDoor.X
end

section
namespace Go.Proofs.YtillbabmlfjegaaDoor.X
open Go Go.Proofs.YtillbabmlfjegaaDoor.Ev Go.Proofs
set_option linter.unusedVariables false
set_option linter.unusedSectionVars false
/-! word.right -/
noncomputable def f92_1 {β : Type} (F : Nat) (a1 : Int) (K0 : Bool → Option β) : Option β := cond (decide (a1 ≥ 1)) (K0 (decide (a1 ≤ 8))) (K0 false)
variable [FZ]
def sh92_1 : Sh := ⟨[.lf (.int .i64)], []⟩
noncomputable def S92_1 (F : Nat) (o : Summ) : Summ := mkS sh92_1 (fun d K => f92_1 F d.1.1 (fun (y0 : Bool) => K [.lf (.bool y0)] [])) o
noncomputable def code92 : Code := bodyOf Tryd.f92
theorem scopes92 : scopesOf code92 = [] := by kernel_rfl
theorem ranges92 : rangesOf code92 = [] := by kernel_rfl
theorem loops92 : loopsOf code92 = [] := by kernel_rfl
theorem enter92 : ∀ args w, (callFunc 92 args).run Tryd.prog w = .ok (.enter 92 args) w := enter_of (fn := Tryd.f92) (by kernel_rfl) (by kernel_rfl) (by kernel_rfl)
noncomputable def T92_1 (F : Nat) : FuncId → Option Summ := tab []
noncomputable def LT92_1 (F : Nat) : Nat → Option LoopS := ltab []
theorem E92_1g (F : Nat)    (d : sh92_1.den) (K : KF) : evBody Tryd.prog (tab []) (xw []) 9 0 (ltab []) code92 Tryd.f92.results.toList (encT sh92_1.vs d.1) (encH sh92_1.h d.2) K = (fun (a1 : Int) (K0 : (Bool → Option Res)) => cond (decide (a1 ≥ 1)) (K0 (decide (a1 ≤ 8))) (K0 false)) d.1.1 (fun (y0 : Bool) => K [.lf (.bool y0)] []) := by kernel_rfl
theorem E92_1 (F : Nat) (d : sh92_1.den) (K : KF) : evBody Tryd.prog (T92_1 F) (xw []) 9 0 (LT92_1 F) code92 Tryd.f92.results.toList (encT sh92_1.vs d.1) (encH sh92_1.h d.2) K = f92_1 F d.1.1 (fun (y0 : Bool) => K [.lf (.bool y0)] []) := Eq.mp (by kernel_rfl) (E92_1g F    d K)
theorem S92_1_ok (F : Nat) (o : Summ) (ho : SoundFn Tryd.prog 92 o) : SoundFn Tryd.prog 92 (S92_1 F o) :=
  soundFn_of (fn := Tryd.f92) (c := code92) rfl rfl (by kernel_rfl) tab_nil (by kernel_rfl) (by kernel_rfl) ho (by rw [loops92]; exact loopsOK_nil) (by rw [scopes92]; exact scopesOK_nil) (by rw [ranges92]; exact rangesOK_nil) (E92_1 F)
end Go.Proofs.YtillbabmlfjegaaDoor.X
end

section
namespace Go.Proofs.YtillbabmlfjegaaDoor.X
open Go Go.Proofs.YtillbabmlfjegaaDoor.Ev Go.Proofs
set_option linter.unusedVariables false
set_option linter.unusedSectionVars false
/-! word.Put -/
noncomputable def f47_1_l6 {β : Type} (F : Nat) (v2 : Int) (v4 : List Int) (K0 : List Int → Option β) : Nat → Int → List Int → Option β
  | 0, _, _ => none
  | k + 1, v3, v5 => cond (decide (v3 ≥ 0)) (cond (decide (v3 < 0)) none (cond (decide ((v5.length + 1) * 1 ≤ 70368744177664)) (f47_1_l6 F v2 v4 K0 k (IntKind.i64.wrap (v3 - 8)) (v5 ++ [IntKind.u8.wrap (ishr .u64 v2 v3)])) none)) (K0 v5)
noncomputable def f47_1 {β : Type} (F : Nat) (a1 : Int) (a2 : Int) (a3 : List Int) (K0 : List Int → Option β) : Option β := cond (decide ((0 : Int) ≤ (0 : Int) ∧ (0 : Int) ≤ IntKind.i64.wrap (((a3.length : Nat) : Int) + 8) ∧ IntKind.i64.wrap (((a3.length : Nat) : Int) + 8) ≤ 70368744177664 ∧ IntKind.i64.wrap (((a3.length : Nat) : Int) + 8) * 1 ≤ 70368744177664)) (cond (decide ((0 + a3.length) * 1 ≤ 70368744177664)) (f92_1 F a1 (fun x1 => cond (!x1) (K0 ((((List.replicate ((IntKind.i64.wrap (((a3.length : Nat) : Int) + 8)).toNat) 0).drop 0).take 0) ++ a3)) (f47_1_l6 F a2 a3 (fun x6 => K0 x6) F (IntKind.i64.wrap (8 * (IntKind.i64.wrap (a1 - 1)))) ((((List.replicate ((IntKind.i64.wrap (((a3.length : Nat) : Int) + 8)).toNat) 0).drop 0).take 0) ++ a3))) ) none) none
variable [FZ]
def sh47_1 : Sh := ⟨[.lf (.full 0), .lf (.int .i64), .lf (.int .u64)], [some ⟨none, [.seq (.int .u8) 0]⟩]⟩
noncomputable def S47_1 (F : Nat) (o : Summ) : Summ := mkS sh47_1 (fun d K => f47_1 F d.1.2.1 d.1.2.2.1 d.2.1.2.1 (fun (y1 : List Int) => K [.lf (.full 1)] [some ⟨d.2.1.1, [.seq (.int .u8) 0 d.2.1.2.1]⟩, some ⟨false, [.seq (.int .u8) 0 y1]⟩])) o
noncomputable def code47 : Code := bodyOf Tryd.f47
noncomputable def b47_0 : Code := cB (cB (cR (cL (cR (cR (cR (cR (code47))))))))
theorem scopes47 : scopesOf code47 = [] := by kernel_rfl
theorem ranges47 : rangesOf code47 = [] := by kernel_rfl
theorem loops47 : loopsOf code47 = [b47_0] := by kernel_rfl
theorem enter47 : ∀ args w, (callFunc 47 args).run Tryd.prog w = .ok (.enter 47 args) w := enter_of (fn := Tryd.f47) (by kernel_rfl) (by kernel_rfl) (by kernel_rfl)
noncomputable def T47_1 (F : Nat) : FuncId → Option Summ := tab [(92, (S92_1 F noS))]
def sh47_1_l6 : Sh := ⟨[.lf (.int .u64), .lf (.full 1), .lf (.int .i64)], [some ⟨none, [.seq (.int .u8) 0]⟩, some ⟨some false, [.seq (.int .u8) 0]⟩]⟩
noncomputable def G47_1_6 (F k : Nat) : LoopS := mkG sh47_1_l6 [2, 7, 8] (outT [(.exit 0, [7])]) (fun d K => f47_1_l6 F d.1.1 d.2.1.2.1 (fun (y1 : List Int) => K (.exit 0) [.tv (.lf (.full 1))] [some ⟨d.2.1.1, [.seq (.int .u8) 0 d.2.1.2.1]⟩, some ⟨false, [.seq (.int .u8) 0 y1]⟩]) k d.1.2.2.1 d.2.2.1.2.1) []
noncomputable def LT47_1 (F : Nat) : Nat → Option LoopS := ltab [(6, G47_1_6 F F)]
theorem L47_1_l6g (F k : Nat) (c92_1 : Int → (Bool → Option Res) → Option Res)  (l6 : Int → List Int → (List Int → Option Res) → Nat → Int → List Int → Option Res) (X6 : LoopS) (d : sh47_1_l6.den) (K : KL) : (fun (v2 : Int) (v4 : List Int) (K0 : (List Int → Option Res)) (k : Nat) (v3 : Int) (v5 : List Int) => cond (decide (v3 ≥ 0)) (cond (decide (v3 < 0)) none (cond (decide ((v5.length + 1) * 1 ≤ 70368744177664)) (l6 v2 v4 K0 k (IntKind.i64.wrap (v3 - 8)) (v5 ++ [IntKind.u8.wrap (ishr .u64 v2 v3)])) none)) (K0 v5)) d.1.1 d.2.1.2.1 (fun (y1 : List Int) => K (.exit 0) [.tv (.lf (.full 1))] [some ⟨d.2.1.1, [.seq (.int .u8) 0 d.2.1.2.1]⟩, some ⟨false, [.seq (.int .u8) 0 y1]⟩]) k d.1.2.2.1 d.2.2.1.2.1 = roundOf Tryd.prog (tab [(92, (mkS sh92_1 (fun d K => c92_1 d.1.1 (fun (y0 : Bool) => K [.lf (.bool y0)] [])) noS))]) (xw []) 35 1 (ltab [(6, X6)]) (mkG sh47_1_l6 [2, 7, 8] (outT [(.exit 0, [7])]) (fun d K => l6 d.1.1 d.2.1.2.1 (fun (y1 : List Int) => K (.exit 0) [.tv (.lf (.full 1))] [some ⟨d.2.1.1, [.seq (.int .u8) 0 d.2.1.2.1]⟩, some ⟨false, [.seq (.int .u8) 0 y1]⟩]) k d.1.2.2.1 d.2.2.1.2.1) []) b47_0 (encT sh47_1_l6.vs d.1) (encH sh47_1_l6.h d.2) K := by kernel_rfl
theorem L47_1_6 (F : Nat) : LoopOK Tryd.prog (T47_1 F) (xw []) 35 1 (LT47_1 F) (G47_1_6 F F) b47_0 :=
  loopOK_of (s := sh47_1_l6) (live := [2, 7, 8]) (out := (outT [(.exit 0, [7])])) (mv := []) (fun k d K => f47_1_l6 F d.1.1 d.2.1.2.1 (fun (y1 : List Int) => K (.exit 0) [.tv (.lf (.full 1))] [some ⟨d.2.1.1, [.seq (.int .u8) 0 d.2.1.2.1]⟩, some ⟨false, [.seq (.int .u8) 0 y1]⟩]) k d.1.2.2.1 d.2.2.1.2.1) F (fun d K => by kernel_rfl)  (fun k d K => Eq.mp (by kernel_rfl) (L47_1_l6g F k (f92_1 F)  (f47_1_l6 F) (G47_1_6 F F) d K))
theorem E47_1g (F : Nat) (c92_1 : Int → (Bool → Option Res) → Option Res) (l6 : Int → List Int → (List Int → Option Res) → Nat → Int → List Int → Option Res)  (d : sh47_1.den) (K : KF) : evBody Tryd.prog (tab [(92, (mkS sh92_1 (fun d K => c92_1 d.1.1 (fun (y0 : Bool) => K [.lf (.bool y0)] [])) noS))]) (xw []) 35 1 (ltab [(6, mkG sh47_1_l6 [2, 7, 8] (outT [(.exit 0, [7])]) (fun d K => l6 d.1.1 d.2.1.2.1 (fun (y1 : List Int) => K (.exit 0) [.tv (.lf (.full 1))] [some ⟨d.2.1.1, [.seq (.int .u8) 0 d.2.1.2.1]⟩, some ⟨false, [.seq (.int .u8) 0 y1]⟩]) F d.1.2.2.1 d.2.2.1.2.1) [])]) code47 Tryd.f47.results.toList (encT sh47_1.vs d.1) (encH sh47_1.h d.2) K = (fun (a1 : Int) (a2 : Int) (a3 : List Int) (K0 : (List Int → Option Res)) => cond (decide ((0 : Int) ≤ (0 : Int) ∧ (0 : Int) ≤ IntKind.i64.wrap (((a3.length : Nat) : Int) + 8) ∧ IntKind.i64.wrap (((a3.length : Nat) : Int) + 8) ≤ 70368744177664 ∧ IntKind.i64.wrap (((a3.length : Nat) : Int) + 8) * 1 ≤ 70368744177664)) (cond (decide ((0 + a3.length) * 1 ≤ 70368744177664)) (c92_1 a1 (fun x1 => cond (!x1) (K0 ((((List.replicate ((IntKind.i64.wrap (((a3.length : Nat) : Int) + 8)).toNat) 0).drop 0).take 0) ++ a3)) (l6 a2 a3 (fun x6 => K0 x6) F (IntKind.i64.wrap (8 * (IntKind.i64.wrap (a1 - 1)))) ((((List.replicate ((IntKind.i64.wrap (((a3.length : Nat) : Int) + 8)).toNat) 0).drop 0).take 0) ++ a3))) ) none) none) d.1.2.1 d.1.2.2.1 d.2.1.2.1 (fun (y1 : List Int) => K [.lf (.full 1)] [some ⟨d.2.1.1, [.seq (.int .u8) 0 d.2.1.2.1]⟩, some ⟨false, [.seq (.int .u8) 0 y1]⟩]) := by kernel_rfl
theorem E47_1 (F : Nat) (d : sh47_1.den) (K : KF) : evBody Tryd.prog (T47_1 F) (xw []) 35 1 (LT47_1 F) code47 Tryd.f47.results.toList (encT sh47_1.vs d.1) (encH sh47_1.h d.2) K = f47_1 F d.1.2.1 d.1.2.2.1 d.2.1.2.1 (fun (y1 : List Int) => K [.lf (.full 1)] [some ⟨d.2.1.1, [.seq (.int .u8) 0 d.2.1.2.1]⟩, some ⟨false, [.seq (.int .u8) 0 y1]⟩]) := Eq.mp (by kernel_rfl) (E47_1g F (f92_1 F) (f47_1_l6 F)  d K)
theorem S47_1_ok (F : Nat) (o : Summ) (ho : SoundFn Tryd.prog 47 o) : SoundFn Tryd.prog 47 (S47_1 F o) :=
  soundFn_of (fn := Tryd.f47) (c := code47) rfl rfl (by kernel_rfl) (tab_cons (S92_1_ok F _ (noS_sound enter92)) tab_nil) (by kernel_rfl) (by kernel_rfl) ho (by rw [loops47]; exact (loopsOK_cons (by kernel_rfl) (L47_1_6 F) loopsOK_nil)) (by rw [scopes47]; exact scopesOK_nil) (by rw [ranges47]; exact rangesOK_nil) (E47_1 F)
end Go.Proofs.YtillbabmlfjegaaDoor.X
end

section
namespace Go.Proofs.YtillbabmlfjegaaDoor.X
open Go Go.Proofs.YtillbabmlfjegaaDoor.Ev Go.Proofs
set_option linter.unusedVariables false
set_option linter.unusedSectionVars false
/-! crc.entry -/
noncomputable def f128_1_l2 {β : Type} (F : Nat)  (K0 : Int → Option β) : Nat → Int → Int → Option β
  | 0, _, _ => none
  | k + 1, v1, v2 => cond (decide (v2 < 8)) (cond ((iand .u32 v1 1) == 1) (f128_1_l2 F K0 k (ixor .u32 (ishr .u32 v1 1) 2197175160) (IntKind.i64.wrap (v2 + 1))) (f128_1_l2 F K0 k (ishr .u32 v1 1) (IntKind.i64.wrap (v2 + 1)))) (K0 v1)
noncomputable def f128_1 {β : Type} (F : Nat) (a1 : Int) (K0 : Int → Option β) : Option β := f128_1_l2 F  (fun x3 => K0 x3) F a1 0
variable [FZ]
def sh128_1 : Sh := ⟨[.lf (.int .u32)], []⟩
noncomputable def S128_1 (F : Nat) (o : Summ) : Summ := mkS sh128_1 (fun d K => f128_1 F d.1.1 (fun (y0 : Int) => K [.lf (.int .u32 y0)] [])) o
noncomputable def code128 : Code := bodyOf Tryd.f128
noncomputable def b128_0 : Code := cB (cB (cR (cL (cR (code128)))))
theorem scopes128 : scopesOf code128 = [] := by kernel_rfl
theorem ranges128 : rangesOf code128 = [] := by kernel_rfl
theorem loops128 : loopsOf code128 = [b128_0] := by kernel_rfl
theorem enter128 : ∀ args w, (callFunc 128 args).run Tryd.prog w = .ok (.enter 128 args) w := enter_of (fn := Tryd.f128) (by kernel_rfl) (by kernel_rfl) (by kernel_rfl)
noncomputable def T128_1 (F : Nat) : FuncId → Option Summ := tab []
def sh128_1_l2 : Sh := ⟨[.lf (.int .u32), .lf (.int .i64)], []⟩
noncomputable def G128_1_2 (F k : Nat) : LoopS := mkG sh128_1_l2 [0, 4] (outT [(.exit 0, [0])]) (fun d K => f128_1_l2 F (fun (y0 : Int) => K (.exit 0) [.tv (.lf (.int .u32 y0))] []) k d.1.1 d.1.2.1) []
noncomputable def LT128_1 (F : Nat) : Nat → Option LoopS := ltab [(2, G128_1_2 F F)]
theorem L128_1_l2g (F k : Nat)   (l2 : (Int → Option Res) → Nat → Int → Int → Option Res) (X2 : LoopS) (d : sh128_1_l2.den) (K : KL) : (fun (K0 : (Int → Option Res)) (k : Nat) (v1 : Int) (v2 : Int) => cond (decide (v2 < 8)) (cond ((iand .u32 v1 1) == 1) (l2 K0 k (ixor .u32 (ishr .u32 v1 1) 2197175160) (IntKind.i64.wrap (v2 + 1))) (l2 K0 k (ishr .u32 v1 1) (IntKind.i64.wrap (v2 + 1)))) (K0 v1)) (fun (y0 : Int) => K (.exit 0) [.tv (.lf (.int .u32 y0))] []) k d.1.1 d.1.2.1 = roundOf Tryd.prog (tab []) (xw []) 16 0 (ltab [(2, X2)]) (mkG sh128_1_l2 [0, 4] (outT [(.exit 0, [0])]) (fun d K => l2 (fun (y0 : Int) => K (.exit 0) [.tv (.lf (.int .u32 y0))] []) k d.1.1 d.1.2.1) []) b128_0 (encT sh128_1_l2.vs d.1) (encH sh128_1_l2.h d.2) K := by kernel_rfl
theorem L128_1_2 (F : Nat) : LoopOK Tryd.prog (T128_1 F) (xw []) 16 0 (LT128_1 F) (G128_1_2 F F) b128_0 :=
  loopOK_of (s := sh128_1_l2) (live := [0, 4]) (out := (outT [(.exit 0, [0])])) (mv := []) (fun k d K => f128_1_l2 F (fun (y0 : Int) => K (.exit 0) [.tv (.lf (.int .u32 y0))] []) k d.1.1 d.1.2.1) F (fun d K => by kernel_rfl)  (fun k d K => Eq.mp (by kernel_rfl) (L128_1_l2g F k   (f128_1_l2 F) (G128_1_2 F F) d K))
theorem E128_1g (F : Nat)  (l2 : (Int → Option Res) → Nat → Int → Int → Option Res)  (d : sh128_1.den) (K : KF) : evBody Tryd.prog (tab []) (xw []) 16 0 (ltab [(2, mkG sh128_1_l2 [0, 4] (outT [(.exit 0, [0])]) (fun d K => l2 (fun (y0 : Int) => K (.exit 0) [.tv (.lf (.int .u32 y0))] []) F d.1.1 d.1.2.1) [])]) code128 Tryd.f128.results.toList (encT sh128_1.vs d.1) (encH sh128_1.h d.2) K = (fun (a1 : Int) (K0 : (Int → Option Res)) => l2  (fun x3 => K0 x3) F a1 0) d.1.1 (fun (y0 : Int) => K [.lf (.int .u32 y0)] []) := by kernel_rfl
theorem E128_1 (F : Nat) (d : sh128_1.den) (K : KF) : evBody Tryd.prog (T128_1 F) (xw []) 16 0 (LT128_1 F) code128 Tryd.f128.results.toList (encT sh128_1.vs d.1) (encH sh128_1.h d.2) K = f128_1 F d.1.1 (fun (y0 : Int) => K [.lf (.int .u32 y0)] []) := Eq.mp (by kernel_rfl) (E128_1g F  (f128_1_l2 F)  d K)
theorem S128_1_ok (F : Nat) (o : Summ) (ho : SoundFn Tryd.prog 128 o) : SoundFn Tryd.prog 128 (S128_1 F o) :=
  soundFn_of (fn := Tryd.f128) (c := code128) rfl rfl (by kernel_rfl) tab_nil (by kernel_rfl) (by kernel_rfl) ho (by rw [loops128]; exact (loopsOK_cons (by kernel_rfl) (L128_1_2 F) loopsOK_nil)) (by rw [scopes128]; exact scopesOK_nil) (by rw [ranges128]; exact rangesOK_nil) (E128_1 F)
end Go.Proofs.YtillbabmlfjegaaDoor.X
end

section
namespace Go.Proofs.YtillbabmlfjegaaDoor.X
open Go Go.Proofs.YtillbabmlfjegaaDoor.Ev Go.Proofs
set_option linter.unusedVariables false
set_option linter.unusedSectionVars false
/-! crc.table -/
noncomputable def f124_1_l3 {β : Type} (F : Nat) (v2 : List Int) (K0 : List Int → Option β) : Nat → Int → List Int → Option β
  | 0, _, _ => none
  | k + 1, v1, v3 => cond (decide (v1 < 256)) (f128_1 F (IntKind.u32.wrap v1) (fun x4 => cond (decide ((0 : Int) ≤ v1 ∧ v1 < 256)) (cond (decide (v1.toNat < v3.length)) (f124_1_l3 F v2 K0 k (IntKind.i64.wrap (v1 + 1)) (v3.set v1.toNat x4)) none) none) ) (K0 v3)
noncomputable def f124_1 {β : Type} (F : Nat)  (K0 : List Int → Option β) : Option β := f124_1_l3 F [0, 0, 0, 0, 0, 0, 0, 0, 0, 0, 0, 0, 0, 0, 0, 0, 0, 0, 0, 0, 0, 0, 0, 0, 0, 0, 0, 0, 0, 0, 0, 0, 0, 0, 0, 0, 0, 0, 0, 0, 0, 0, 0, 0, 0, 0, 0, 0, 0, 0, 0, 0, 0, 0, 0, 0, 0, 0, 0, 0, 0, 0, 0, 0, 0, 0, 0, 0, 0, 0, 0, 0, 0, 0, 0, 0, 0, 0, 0, 0, 0, 0, 0, 0, 0, 0, 0, 0, 0, 0, 0, 0, 0, 0, 0, 0, 0, 0, 0, 0, 0, 0, 0, 0, 0, 0, 0, 0, 0, 0, 0, 0, 0, 0, 0, 0, 0, 0, 0, 0, 0, 0, 0, 0, 0, 0, 0, 0, 0, 0, 0, 0, 0, 0, 0, 0, 0, 0, 0, 0, 0, 0, 0, 0, 0, 0, 0, 0, 0, 0, 0, 0, 0, 0, 0, 0, 0, 0, 0, 0, 0, 0, 0, 0, 0, 0, 0, 0, 0, 0, 0, 0, 0, 0, 0, 0, 0, 0, 0, 0, 0, 0, 0, 0, 0, 0, 0, 0, 0, 0, 0, 0, 0, 0, 0, 0, 0, 0, 0, 0, 0, 0, 0, 0, 0, 0, 0, 0, 0, 0, 0, 0, 0, 0, 0, 0, 0, 0, 0, 0, 0, 0, 0, 0, 0, 0, 0, 0, 0, 0, 0, 0, 0, 0, 0, 0, 0, 0, 0, 0, 0, 0, 0, 0, 0, 0, 0, 0, 0, 0, 0, 0, 0, 0, 0, 0] (fun x5 => K0 x5) F 0 [0, 0, 0, 0, 0, 0, 0, 0, 0, 0, 0, 0, 0, 0, 0, 0, 0, 0, 0, 0, 0, 0, 0, 0, 0, 0, 0, 0, 0, 0, 0, 0, 0, 0, 0, 0, 0, 0, 0, 0, 0, 0, 0, 0, 0, 0, 0, 0, 0, 0, 0, 0, 0, 0, 0, 0, 0, 0, 0, 0, 0, 0, 0, 0, 0, 0, 0, 0, 0, 0, 0, 0, 0, 0, 0, 0, 0, 0, 0, 0, 0, 0, 0, 0, 0, 0, 0, 0, 0, 0, 0, 0, 0, 0, 0, 0, 0, 0, 0, 0, 0, 0, 0, 0, 0, 0, 0, 0, 0, 0, 0, 0, 0, 0, 0, 0, 0, 0, 0, 0, 0, 0, 0, 0, 0, 0, 0, 0, 0, 0, 0, 0, 0, 0, 0, 0, 0, 0, 0, 0, 0, 0, 0, 0, 0, 0, 0, 0, 0, 0, 0, 0, 0, 0, 0, 0, 0, 0, 0, 0, 0, 0, 0, 0, 0, 0, 0, 0, 0, 0, 0, 0, 0, 0, 0, 0, 0, 0, 0, 0, 0, 0, 0, 0, 0, 0, 0, 0, 0, 0, 0, 0, 0, 0, 0, 0, 0, 0, 0, 0, 0, 0, 0, 0, 0, 0, 0, 0, 0, 0, 0, 0, 0, 0, 0, 0, 0, 0, 0, 0, 0, 0, 0, 0, 0, 0, 0, 0, 0, 0, 0, 0, 0, 0, 0, 0, 0, 0, 0, 0, 0, 0, 0, 0, 0, 0, 0, 0, 0, 0, 0, 0, 0, 0, 0, 0]
variable [FZ]
def sh124_1 : Sh := ⟨[], []⟩
noncomputable def S124_1 (F : Nat) (o : Summ) : Summ := mkS sh124_1 (fun d K => f124_1 F (fun (y0 : List Int) => K [.agg [.seq (.int .u32) 256 y0]] [])) o
noncomputable def code124 : Code := bodyOf Tryd.f124
noncomputable def b124_0 : Code := cB (cB (cR (cL (cR (cR (code124))))))
theorem scopes124 : scopesOf code124 = [] := by kernel_rfl
theorem ranges124 : rangesOf code124 = [] := by kernel_rfl
theorem loops124 : loopsOf code124 = [b124_0] := by kernel_rfl
theorem enter124 : ∀ args w, (callFunc 124 args).run Tryd.prog w = .ok (.enter 124 args) w := enter_of (fn := Tryd.f124) (by kernel_rfl) (by kernel_rfl) (by kernel_rfl)
noncomputable def T124_1 (F : Nat) : FuncId → Option Summ := tab [(128, (S128_1 F noS))]
def sh124_1_l3 : Sh := ⟨[.lf (.ptr 0 0), .lf (.ptr 1 0), .lf (.int .i64)], [some ⟨some false, [.seq (.int .u32) 256]⟩, some ⟨some false, [.seq (.int .u32) 256]⟩]⟩
noncomputable def G124_1_3 (F k : Nat) : LoopS := mkG sh124_1_l3 [0, 1, 3] (outT [(.exit 0, [0, 1])]) (fun d K => f124_1_l3 F d.2.1.2.1 (fun (y1 : List Int) => K (.exit 0) [.tv (.lf (.ptr 0 0)), .tv (.lf (.ptr 1 0))] [some ⟨false, [.seq (.int .u32) 256 d.2.1.2.1]⟩, some ⟨false, [.seq (.int .u32) 256 y1]⟩]) k d.1.2.2.1 d.2.2.1.2.1) []
noncomputable def LT124_1 (F : Nat) : Nat → Option LoopS := ltab [(3, G124_1_3 F F)]
theorem L124_1_l3g (F k : Nat) (c128_1 : Int → (Int → Option Res) → Option Res)  (l3 : List Int → (List Int → Option Res) → Nat → Int → List Int → Option Res) (X3 : LoopS) (d : sh124_1_l3.den) (K : KL) : (fun (v2 : List Int) (K0 : (List Int → Option Res)) (k : Nat) (v1 : Int) (v3 : List Int) => cond (decide (v1 < 256)) (c128_1 (IntKind.u32.wrap v1) (fun x4 => cond (decide ((0 : Int) ≤ v1 ∧ v1 < 256)) (cond (decide (v1.toNat < v3.length)) (l3 v2 K0 k (IntKind.i64.wrap (v1 + 1)) (v3.set v1.toNat x4)) none) none) ) (K0 v3)) d.2.1.2.1 (fun (y1 : List Int) => K (.exit 0) [.tv (.lf (.ptr 0 0)), .tv (.lf (.ptr 1 0))] [some ⟨false, [.seq (.int .u32) 256 d.2.1.2.1]⟩, some ⟨false, [.seq (.int .u32) 256 y1]⟩]) k d.1.2.2.1 d.2.2.1.2.1 = roundOf Tryd.prog (tab [(128, (mkS sh128_1 (fun d K => c128_1 d.1.1 (fun (y0 : Int) => K [.lf (.int .u32 y0)] [])) noS))]) (xw []) 13 0 (ltab [(3, X3)]) (mkG sh124_1_l3 [0, 1, 3] (outT [(.exit 0, [0, 1])]) (fun d K => l3 d.2.1.2.1 (fun (y1 : List Int) => K (.exit 0) [.tv (.lf (.ptr 0 0)), .tv (.lf (.ptr 1 0))] [some ⟨false, [.seq (.int .u32) 256 d.2.1.2.1]⟩, some ⟨false, [.seq (.int .u32) 256 y1]⟩]) k d.1.2.2.1 d.2.2.1.2.1) []) b124_0 (encT sh124_1_l3.vs d.1) (encH sh124_1_l3.h d.2) K := by kernel_rfl
theorem L124_1_3 (F : Nat) : LoopOK Tryd.prog (T124_1 F) (xw []) 13 0 (LT124_1 F) (G124_1_3 F F) b124_0 :=
  loopOK_of (s := sh124_1_l3) (live := [0, 1, 3]) (out := (outT [(.exit 0, [0, 1])])) (mv := []) (fun k d K => f124_1_l3 F d.2.1.2.1 (fun (y1 : List Int) => K (.exit 0) [.tv (.lf (.ptr 0 0)), .tv (.lf (.ptr 1 0))] [some ⟨false, [.seq (.int .u32) 256 d.2.1.2.1]⟩, some ⟨false, [.seq (.int .u32) 256 y1]⟩]) k d.1.2.2.1 d.2.2.1.2.1) F (fun d K => by kernel_rfl)  (fun k d K => Eq.mp (by kernel_rfl) (L124_1_l3g F k (f128_1 F)  (f124_1_l3 F) (G124_1_3 F F) d K))
theorem E124_1g (F : Nat) (c128_1 : Int → (Int → Option Res) → Option Res) (l3 : List Int → (List Int → Option Res) → Nat → Int → List Int → Option Res)  (d : sh124_1.den) (K : KF) : evBody Tryd.prog (tab [(128, (mkS sh128_1 (fun d K => c128_1 d.1.1 (fun (y0 : Int) => K [.lf (.int .u32 y0)] [])) noS))]) (xw []) 13 0 (ltab [(3, mkG sh124_1_l3 [0, 1, 3] (outT [(.exit 0, [0, 1])]) (fun d K => l3 d.2.1.2.1 (fun (y1 : List Int) => K (.exit 0) [.tv (.lf (.ptr 0 0)), .tv (.lf (.ptr 1 0))] [some ⟨false, [.seq (.int .u32) 256 d.2.1.2.1]⟩, some ⟨false, [.seq (.int .u32) 256 y1]⟩]) F d.1.2.2.1 d.2.2.1.2.1) [])]) code124 Tryd.f124.results.toList (encT sh124_1.vs d.1) (encH sh124_1.h d.2) K = (fun (K0 : (List Int → Option Res)) => l3 [0, 0, 0, 0, 0, 0, 0, 0, 0, 0, 0, 0, 0, 0, 0, 0, 0, 0, 0, 0, 0, 0, 0, 0, 0, 0, 0, 0, 0, 0, 0, 0, 0, 0, 0, 0, 0, 0, 0, 0, 0, 0, 0, 0, 0, 0, 0, 0, 0, 0, 0, 0, 0, 0, 0, 0, 0, 0, 0, 0, 0, 0, 0, 0, 0, 0, 0, 0, 0, 0, 0, 0, 0, 0, 0, 0, 0, 0, 0, 0, 0, 0, 0, 0, 0, 0, 0, 0, 0, 0, 0, 0, 0, 0, 0, 0, 0, 0, 0, 0, 0, 0, 0, 0, 0, 0, 0, 0, 0, 0, 0, 0, 0, 0, 0, 0, 0, 0, 0, 0, 0, 0, 0, 0, 0, 0, 0, 0, 0, 0, 0, 0, 0, 0, 0, 0, 0, 0, 0, 0, 0, 0, 0, 0, 0, 0, 0, 0, 0, 0, 0, 0, 0, 0, 0, 0, 0, 0, 0, 0, 0, 0, 0, 0, 0, 0, 0, 0, 0, 0, 0, 0, 0, 0, 0, 0, 0, 0, 0, 0, 0, 0, 0, 0, 0, 0, 0, 0, 0, 0, 0, 0, 0, 0, 0, 0, 0, 0, 0, 0, 0, 0, 0, 0, 0, 0, 0, 0, 0, 0, 0, 0, 0, 0, 0, 0, 0, 0, 0, 0, 0, 0, 0, 0, 0, 0, 0, 0, 0, 0, 0, 0, 0, 0, 0, 0, 0, 0, 0, 0, 0, 0, 0, 0, 0, 0, 0, 0, 0, 0, 0, 0, 0, 0, 0, 0] (fun x5 => K0 x5) F 0 [0, 0, 0, 0, 0, 0, 0, 0, 0, 0, 0, 0, 0, 0, 0, 0, 0, 0, 0, 0, 0, 0, 0, 0, 0, 0, 0, 0, 0, 0, 0, 0, 0, 0, 0, 0, 0, 0, 0, 0, 0, 0, 0, 0, 0, 0, 0, 0, 0, 0, 0, 0, 0, 0, 0, 0, 0, 0, 0, 0, 0, 0, 0, 0, 0, 0, 0, 0, 0, 0, 0, 0, 0, 0, 0, 0, 0, 0, 0, 0, 0, 0, 0, 0, 0, 0, 0, 0, 0, 0, 0, 0, 0, 0, 0, 0, 0, 0, 0, 0, 0, 0, 0, 0, 0, 0, 0, 0, 0, 0, 0, 0, 0, 0, 0, 0, 0, 0, 0, 0, 0, 0, 0, 0, 0, 0, 0, 0, 0, 0, 0, 0, 0, 0, 0, 0, 0, 0, 0, 0, 0, 0, 0, 0, 0, 0, 0, 0, 0, 0, 0, 0, 0, 0, 0, 0, 0, 0, 0, 0, 0, 0, 0, 0, 0, 0, 0, 0, 0, 0, 0, 0, 0, 0, 0, 0, 0, 0, 0, 0, 0, 0, 0, 0, 0, 0, 0, 0, 0, 0, 0, 0, 0, 0, 0, 0, 0, 0, 0, 0, 0, 0, 0, 0, 0, 0, 0, 0, 0, 0, 0, 0, 0, 0, 0, 0, 0, 0, 0, 0, 0, 0, 0, 0, 0, 0, 0, 0, 0, 0, 0, 0, 0, 0, 0, 0, 0, 0, 0, 0, 0, 0, 0, 0, 0, 0, 0, 0, 0, 0, 0, 0, 0, 0, 0, 0]) (fun (y0 : List Int) => K [.agg [.seq (.int .u32) 256 y0]] []) := by kernel_rfl
theorem E124_1 (F : Nat) (d : sh124_1.den) (K : KF) : evBody Tryd.prog (T124_1 F) (xw []) 13 0 (LT124_1 F) code124 Tryd.f124.results.toList (encT sh124_1.vs d.1) (encH sh124_1.h d.2) K = f124_1 F (fun (y0 : List Int) => K [.agg [.seq (.int .u32) 256 y0]] []) := Eq.mp (by kernel_rfl) (E124_1g F (f128_1 F) (f124_1_l3 F)  d K)
theorem S124_1_ok (F : Nat) (o : Summ) (ho : SoundFn Tryd.prog 124 o) : SoundFn Tryd.prog 124 (S124_1 F o) :=
  soundFn_of (fn := Tryd.f124) (c := code124) rfl rfl (by kernel_rfl) (tab_cons (S128_1_ok F _ (noS_sound enter128)) tab_nil) (by kernel_rfl) (by kernel_rfl) ho (by rw [loops124]; exact (loopsOK_cons (by kernel_rfl) (L124_1_3 F) loopsOK_nil)) (by rw [scopes124]; exact scopesOK_nil) (by rw [ranges124]; exact rangesOK_nil) (E124_1 F)
end Go.Proofs.YtillbabmlfjegaaDoor.X
end

section
namespace Go.Proofs.YtillbabmlfjegaaDoor.X
open Go Go.Proofs.YtillbabmlfjegaaDoor.Ev Go.Proofs
set_option linter.unusedVariables false
set_option linter.unusedSectionVars false
/-! crc.Add -/
noncomputable def f112_1_l4 {β : Type} (F : Nat) (v3 : Int) (v5 : List Int) (v6 : List Int) (K0 : Int → Option β) : Nat → Int → Int → Option β
  | 0, _, _ => none
  | k + 1, v2, v4 => cond (decide (v4 < v3)) (cond (decide ((0 : Int) ≤ v4 ∧ v4 < ((v5.length : Nat) : Int))) (cond (decide (0 + v4.toNat < v5.length)) (cond (decide ((0 : Int) ≤ ixor .u8 (IntKind.u8.wrap v2) (v5.getD (0 + v4.toNat) 0) ∧ ixor .u8 (IntKind.u8.wrap v2) (v5.getD (0 + v4.toNat) 0) < 256)) (cond (decide ((ixor .u8 (IntKind.u8.wrap v2) (v5.getD (0 + v4.toNat) 0)).toNat < v6.length)) (f112_1_l4 F v3 v5 v6 K0 k (ixor .u32 (ishr .u32 v2 8) (v6.getD ((ixor .u8 (IntKind.u8.wrap v2) (v5.getD (0 + v4.toNat) 0)).toNat) 0)) (IntKind.i64.wrap (v4 + 1))) none) none) none) none) (K0 v2)
noncomputable def f112_1 {β : Type} (F : Nat) (a1 : Int) (a2 : List Int) (K0 : Int → Option β) : Option β := f124_1 F  (fun x1 => f112_1_l4 F ((a2.length : Nat) : Int) a2 x1 (fun x7 => K0 (ixor .u32 4294967295 x7)) F (ixor .u32 4294967295 a1) 0) 
variable [FZ]
def sh112_1 : Sh := ⟨[.lf (.int .u32), .lf (.full 0)], [some ⟨none, [.seq (.int .u8) 0]⟩]⟩
noncomputable def S112_1 (F : Nat) (o : Summ) : Summ := mkS sh112_1 (fun d K => f112_1 F d.1.1 d.2.1.2.1 (fun (y0 : Int) => K [.lf (.int .u32 y0)] [some ⟨d.2.1.1, [.seq (.int .u8) 0 d.2.1.2.1]⟩])) o
noncomputable def code112 : Code := bodyOf Tryd.f112
noncomputable def b112_0 : Code := cB (cB (cR (cL (cR (cR (cR (code112)))))))
theorem scopes112 : scopesOf code112 = [] := by kernel_rfl
theorem ranges112 : rangesOf code112 = [] := by kernel_rfl
theorem loops112 : loopsOf code112 = [b112_0] := by kernel_rfl
theorem enter112 : ∀ args w, (callFunc 112 args).run Tryd.prog w = .ok (.enter 112 args) w := enter_of (fn := Tryd.f112) (by kernel_rfl) (by kernel_rfl) (by kernel_rfl)
noncomputable def T112_1 (F : Nat) : FuncId → Option Summ := tab [(124, (S124_1 F noS))]
def sh112_1_l4 : Sh := ⟨[.lf (.ptr 1 0), .lf (.int .u32), .lf (.full 0), .lf (.int .i64), .lf (.int .i64)], [some ⟨none, [.seq (.int .u8) 0]⟩, some ⟨some false, [.seq (.int .u32) 256]⟩]⟩
noncomputable def G112_1_4 (F k : Nat) : LoopS := mkG sh112_1_l4 [5, 6, 12, 13, 14] (outT [(.exit 0, [6])]) (fun d K => f112_1_l4 F d.1.2.2.2.1 d.2.1.2.1 d.2.2.1.2.1 (fun (y0 : Int) => K (.exit 0) [.tv (.lf (.int .u32 y0))] [some ⟨d.2.1.1, [.seq (.int .u8) 0 d.2.1.2.1]⟩, some ⟨false, [.seq (.int .u32) 256 d.2.2.1.2.1]⟩]) k d.1.2.1 d.1.2.2.2.2.1) []
noncomputable def LT112_1 (F : Nat) : Nat → Option LoopS := ltab [(4, G112_1_4 F F)]
theorem L112_1_l4g (F k : Nat) (c124_1 : (List Int → Option Res) → Option Res)  (l4 : Int → List Int → List Int → (Int → Option Res) → Nat → Int → Int → Option Res) (X4 : LoopS) (d : sh112_1_l4.den) (K : KL) : (fun (v3 : Int) (v5 : List Int) (v6 : List Int) (K0 : (Int → Option Res)) (k : Nat) (v2 : Int) (v4 : Int) => cond (decide (v4 < v3)) (cond (decide ((0 : Int) ≤ v4 ∧ v4 < ((v5.length : Nat) : Int))) (cond (decide (0 + v4.toNat < v5.length)) (cond (decide ((0 : Int) ≤ ixor .u8 (IntKind.u8.wrap v2) (v5.getD (0 + v4.toNat) 0) ∧ ixor .u8 (IntKind.u8.wrap v2) (v5.getD (0 + v4.toNat) 0) < 256)) (cond (decide ((ixor .u8 (IntKind.u8.wrap v2) (v5.getD (0 + v4.toNat) 0)).toNat < v6.length)) (l4 v3 v5 v6 K0 k (ixor .u32 (ishr .u32 v2 8) (v6.getD ((ixor .u8 (IntKind.u8.wrap v2) (v5.getD (0 + v4.toNat) 0)).toNat) 0)) (IntKind.i64.wrap (v4 + 1))) none) none) none) none) (K0 v2)) d.1.2.2.2.1 d.2.1.2.1 d.2.2.1.2.1 (fun (y0 : Int) => K (.exit 0) [.tv (.lf (.int .u32 y0))] [some ⟨d.2.1.1, [.seq (.int .u8) 0 d.2.1.2.1]⟩, some ⟨false, [.seq (.int .u32) 256 d.2.2.1.2.1]⟩]) k d.1.2.1 d.1.2.2.2.2.1 = roundOf Tryd.prog (tab [(124, (mkS sh124_1 (fun d K => c124_1 (fun (y0 : List Int) => K [.agg [.seq (.int .u32) 256 y0]] [])) noS))]) (xw []) 30 1 (ltab [(4, X4)]) (mkG sh112_1_l4 [5, 6, 12, 13, 14] (outT [(.exit 0, [6])]) (fun d K => l4 d.1.2.2.2.1 d.2.1.2.1 d.2.2.1.2.1 (fun (y0 : Int) => K (.exit 0) [.tv (.lf (.int .u32 y0))] [some ⟨d.2.1.1, [.seq (.int .u8) 0 d.2.1.2.1]⟩, some ⟨false, [.seq (.int .u32) 256 d.2.2.1.2.1]⟩]) k d.1.2.1 d.1.2.2.2.2.1) []) b112_0 (encT sh112_1_l4.vs d.1) (encH sh112_1_l4.h d.2) K := by kernel_rfl
theorem L112_1_4 (F : Nat) : LoopOK Tryd.prog (T112_1 F) (xw []) 30 1 (LT112_1 F) (G112_1_4 F F) b112_0 :=
  loopOK_of (s := sh112_1_l4) (live := [5, 6, 12, 13, 14]) (out := (outT [(.exit 0, [6])])) (mv := []) (fun k d K => f112_1_l4 F d.1.2.2.2.1 d.2.1.2.1 d.2.2.1.2.1 (fun (y0 : Int) => K (.exit 0) [.tv (.lf (.int .u32 y0))] [some ⟨d.2.1.1, [.seq (.int .u8) 0 d.2.1.2.1]⟩, some ⟨false, [.seq (.int .u32) 256 d.2.2.1.2.1]⟩]) k d.1.2.1 d.1.2.2.2.2.1) F (fun d K => by kernel_rfl)  (fun k d K => Eq.mp (by kernel_rfl) (L112_1_l4g F k (f124_1 F)  (f112_1_l4 F) (G112_1_4 F F) d K))
theorem E112_1g (F : Nat) (c124_1 : (List Int → Option Res) → Option Res) (l4 : Int → List Int → List Int → (Int → Option Res) → Nat → Int → Int → Option Res)  (d : sh112_1.den) (K : KF) : evBody Tryd.prog (tab [(124, (mkS sh124_1 (fun d K => c124_1 (fun (y0 : List Int) => K [.agg [.seq (.int .u32) 256 y0]] [])) noS))]) (xw []) 30 1 (ltab [(4, mkG sh112_1_l4 [5, 6, 12, 13, 14] (outT [(.exit 0, [6])]) (fun d K => l4 d.1.2.2.2.1 d.2.1.2.1 d.2.2.1.2.1 (fun (y0 : Int) => K (.exit 0) [.tv (.lf (.int .u32 y0))] [some ⟨d.2.1.1, [.seq (.int .u8) 0 d.2.1.2.1]⟩, some ⟨false, [.seq (.int .u32) 256 d.2.2.1.2.1]⟩]) F d.1.2.1 d.1.2.2.2.2.1) [])]) code112 Tryd.f112.results.toList (encT sh112_1.vs d.1) (encH sh112_1.h d.2) K = (fun (a1 : Int) (a2 : List Int) (K0 : (Int → Option Res)) => c124_1  (fun x1 => l4 ((a2.length : Nat) : Int) a2 x1 (fun x7 => K0 (ixor .u32 4294967295 x7)) F (ixor .u32 4294967295 a1) 0) ) d.1.1 d.2.1.2.1 (fun (y0 : Int) => K [.lf (.int .u32 y0)] [some ⟨d.2.1.1, [.seq (.int .u8) 0 d.2.1.2.1]⟩]) := by kernel_rfl
theorem E112_1 (F : Nat) (d : sh112_1.den) (K : KF) : evBody Tryd.prog (T112_1 F) (xw []) 30 1 (LT112_1 F) code112 Tryd.f112.results.toList (encT sh112_1.vs d.1) (encH sh112_1.h d.2) K = f112_1 F d.1.1 d.2.1.2.1 (fun (y0 : Int) => K [.lf (.int .u32 y0)] [some ⟨d.2.1.1, [.seq (.int .u8) 0 d.2.1.2.1]⟩]) := Eq.mp (by kernel_rfl) (E112_1g F (f124_1 F) (f112_1_l4 F)  d K)
theorem S112_1_ok (F : Nat) (o : Summ) (ho : SoundFn Tryd.prog 112 o) : SoundFn Tryd.prog 112 (S112_1 F o) :=
  soundFn_of (fn := Tryd.f112) (c := code112) rfl rfl (by kernel_rfl) (tab_cons (S124_1_ok F _ (noS_sound enter124)) tab_nil) (by kernel_rfl) (by kernel_rfl) ho (by rw [loops112]; exact (loopsOK_cons (by kernel_rfl) (L112_1_4 F) loopsOK_nil)) (by rw [scopes112]; exact scopesOK_nil) (by rw [ranges112]; exact rangesOK_nil) (E112_1 F)
end Go.Proofs.YtillbabmlfjegaaDoor.X
end

section
namespace Go.Proofs.YtillbabmlfjegaaDoor.X
open Go Go.Proofs.YtillbabmlfjegaaDoor.Ev Go.Proofs
set_option linter.unusedVariables false
set_option linter.unusedSectionVars false
/-! crc.Sum -/
noncomputable def f80_1 {β : Type} (F : Nat) (a1 : List Int) (K0 : Int → Option β) : Option β := f112_1 F 0 a1 (fun x1 => K0 x1) 
variable [FZ]
def sh80_1 : Sh := ⟨[.lf (.full 0)], [some ⟨none, [.seq (.int .u8) 0]⟩]⟩
noncomputable def S80_1 (F : Nat) (o : Summ) : Summ := mkS sh80_1 (fun d K => f80_1 F d.2.1.2.1 (fun (y0 : Int) => K [.lf (.int .u32 y0)] [some ⟨d.2.1.1, [.seq (.int .u8) 0 d.2.1.2.1]⟩])) o
noncomputable def code80 : Code := bodyOf Tryd.f80
theorem scopes80 : scopesOf code80 = [] := by kernel_rfl
theorem ranges80 : rangesOf code80 = [] := by kernel_rfl
theorem loops80 : loopsOf code80 = [] := by kernel_rfl
theorem enter80 : ∀ args w, (callFunc 80 args).run Tryd.prog w = .ok (.enter 80 args) w := enter_of (fn := Tryd.f80) (by kernel_rfl) (by kernel_rfl) (by kernel_rfl)
noncomputable def T80_1 (F : Nat) : FuncId → Option Summ := tab [(112, (S112_1 F noS))]
noncomputable def LT80_1 (F : Nat) : Nat → Option LoopS := ltab []
theorem E80_1g (F : Nat) (c112_1 : Int → List Int → (Int → Option Res) → Option Res)   (d : sh80_1.den) (K : KF) : evBody Tryd.prog (tab [(112, (mkS sh112_1 (fun d K => c112_1 d.1.1 d.2.1.2.1 (fun (y0 : Int) => K [.lf (.int .u32 y0)] [some ⟨d.2.1.1, [.seq (.int .u8) 0 d.2.1.2.1]⟩])) noS))]) (xw []) 5 1 (ltab []) code80 Tryd.f80.results.toList (encT sh80_1.vs d.1) (encH sh80_1.h d.2) K = (fun (a1 : List Int) (K0 : (Int → Option Res)) => c112_1 0 a1 (fun x1 => K0 x1) ) d.2.1.2.1 (fun (y0 : Int) => K [.lf (.int .u32 y0)] [some ⟨d.2.1.1, [.seq (.int .u8) 0 d.2.1.2.1]⟩]) := by kernel_rfl
theorem E80_1 (F : Nat) (d : sh80_1.den) (K : KF) : evBody Tryd.prog (T80_1 F) (xw []) 5 1 (LT80_1 F) code80 Tryd.f80.results.toList (encT sh80_1.vs d.1) (encH sh80_1.h d.2) K = f80_1 F d.2.1.2.1 (fun (y0 : Int) => K [.lf (.int .u32 y0)] [some ⟨d.2.1.1, [.seq (.int .u8) 0 d.2.1.2.1]⟩]) := Eq.mp (by kernel_rfl) (E80_1g F (f112_1 F)   d K)
theorem S80_1_ok (F : Nat) (o : Summ) (ho : SoundFn Tryd.prog 80 o) : SoundFn Tryd.prog 80 (S80_1 F o) :=
  soundFn_of (fn := Tryd.f80) (c := code80) rfl rfl (by kernel_rfl) (tab_cons (S112_1_ok F _ (noS_sound enter112)) tab_nil) (by kernel_rfl) (by kernel_rfl) ho (by rw [loops80]; exact loopsOK_nil) (by rw [scopes80]; exact scopesOK_nil) (by rw [ranges80]; exact rangesOK_nil) (E80_1 F)
end Go.Proofs.YtillbabmlfjegaaDoor.X
end

section
namespace Go.Proofs.YtillbabmlfjegaaDoor.X
open Go Go.Proofs.YtillbabmlfjegaaDoor.Ev Go.Proofs
set_option linter.unusedVariables false
set_option linter.unusedSectionVars false
/-! rec.sum -/
noncomputable def f39_1 {β : Type} (F : Nat) (a1 : ByteArray) (K0 : ByteArray → Option β) : Option β := cond (decide ((0 : Int) ≤ (0 : Int) ∧ (0 : Int) ≤ (60 : Int) ∧ (60 : Int) ≤ (a1.size : Int))) (f80_1 F (toInts (a1.extract 0 60)) (fun x1 => f47_1 F 4 (IntKind.u64.wrap x1) [] (fun x2 => K0 (ofInts x2)) ) ) none
variable [FZ]
def sh39_1 : Sh := ⟨[.lf (.str)], []⟩
noncomputable def S39_1 (F : Nat) (o : Summ) : Summ := mkS sh39_1 (fun d K => f39_1 F d.1.1 (fun (y0 : ByteArray) => K [.lf (.str y0)] [])) o
noncomputable def code39 : Code := bodyOf Tryd.f39
theorem scopes39 : scopesOf code39 = [] := by kernel_rfl
theorem ranges39 : rangesOf code39 = [] := by kernel_rfl
theorem loops39 : loopsOf code39 = [] := by kernel_rfl
theorem enter39 : ∀ args w, (callFunc 39 args).run Tryd.prog w = .ok (.enter 39 args) w := enter_of (fn := Tryd.f39) (by kernel_rfl) (by kernel_rfl) (by kernel_rfl)
noncomputable def T39_1 (F : Nat) : FuncId → Option Summ := tab [(47, (S47_1 F noS)), (80, (S80_1 F noS))]
noncomputable def LT39_1 (F : Nat) : Nat → Option LoopS := ltab []
theorem E39_1g (F : Nat) (c47_1 : Int → Int → List Int → (List Int → Option Res) → Option Res) (c80_1 : List Int → (Int → Option Res) → Option Res)   (d : sh39_1.den) (K : KF) : evBody Tryd.prog (tab [(47, (mkS sh47_1 (fun d K => c47_1 d.1.2.1 d.1.2.2.1 d.2.1.2.1 (fun (y1 : List Int) => K [.lf (.full 1)] [some ⟨d.2.1.1, [.seq (.int .u8) 0 d.2.1.2.1]⟩, some ⟨false, [.seq (.int .u8) 0 y1]⟩])) noS)), (80, (mkS sh80_1 (fun d K => c80_1 d.2.1.2.1 (fun (y0 : Int) => K [.lf (.int .u32 y0)] [some ⟨d.2.1.1, [.seq (.int .u8) 0 d.2.1.2.1]⟩])) noS))]) (xw []) 10 0 (ltab []) code39 Tryd.f39.results.toList (encT sh39_1.vs d.1) (encH sh39_1.h d.2) K = (fun (a1 : ByteArray) (K0 : (ByteArray → Option Res)) => cond (decide ((0 : Int) ≤ (0 : Int) ∧ (0 : Int) ≤ (60 : Int) ∧ (60 : Int) ≤ (a1.size : Int))) (c80_1 (toInts (a1.extract 0 60)) (fun x1 => c47_1 4 (IntKind.u64.wrap x1) [] (fun x2 => K0 (ofInts x2)) ) ) none) d.1.1 (fun (y0 : ByteArray) => K [.lf (.str y0)] []) := by kernel_rfl
theorem E39_1 (F : Nat) (d : sh39_1.den) (K : KF) : evBody Tryd.prog (T39_1 F) (xw []) 10 0 (LT39_1 F) code39 Tryd.f39.results.toList (encT sh39_1.vs d.1) (encH sh39_1.h d.2) K = f39_1 F d.1.1 (fun (y0 : ByteArray) => K [.lf (.str y0)] []) := Eq.mp (by kernel_rfl) (E39_1g F (f47_1 F) (f80_1 F)   d K)
theorem S39_1_ok (F : Nat) (o : Summ) (ho : SoundFn Tryd.prog 39 o) : SoundFn Tryd.prog 39 (S39_1 F o) :=
  soundFn_of (fn := Tryd.f39) (c := code39) rfl rfl (by kernel_rfl) (tab_cons (S47_1_ok F _ (noS_sound enter47)) (tab_cons (S80_1_ok F _ (noS_sound enter80)) tab_nil)) (by kernel_rfl) (by kernel_rfl) ho (by rw [loops39]; exact loopsOK_nil) (by rw [scopes39]; exact scopesOK_nil) (by rw [ranges39]; exact rangesOK_nil) (E39_1 F)
end Go.Proofs.YtillbabmlfjegaaDoor.X
end

section
namespace Go.Proofs.YtillbabmlfjegaaDoor.X
open Go Go.Proofs.YtillbabmlfjegaaDoor.Ev Go.Proofs
set_option linter.unusedVariables false
set_option linter.unusedSectionVars false
/-! rec.Make -/
noncomputable def f10_1 {β : Type} (F : Nat) (a1 : Int) (a2 : ByteArray) (K0 : ByteArray → Int → Option β) : Option β := cond (decide (a1 < 1)) (K0 ByteArray.empty 22) (cond (decide (a1 > 8)) (K0 ByteArray.empty 22) (cond (decide ((a2.size : Int) > 58)) (K0 ByteArray.empty 8) (cond (decide ((ofInts [IntKind.u8.wrap a1, IntKind.u8.wrap (a2.size : Int)]).size + a2.size ≤ 4611686018427387904)) (f38_1 F (⟨#[0]⟩ : ByteArray) (IntKind.i64.wrap (60 - (((ofInts [IntKind.u8.wrap a1, IntKind.u8.wrap (a2.size : Int)]) ++ a2).size : Int))) (fun x1 => cond (decide (((ofInts [IntKind.u8.wrap a1, IntKind.u8.wrap (a2.size : Int)]) ++ a2).size + x1.size ≤ 4611686018427387904)) (f39_1 F (((ofInts [IntKind.u8.wrap a1, IntKind.u8.wrap (a2.size : Int)]) ++ a2) ++ x1) (fun x2 => cond (decide ((((ofInts [IntKind.u8.wrap a1, IntKind.u8.wrap (a2.size : Int)]) ++ a2) ++ x1).size + x2.size ≤ 4611686018427387904)) (K0 ((((ofInts [IntKind.u8.wrap a1, IntKind.u8.wrap (a2.size : Int)]) ++ a2) ++ x1) ++ x2) 0) none) ) none) ) none)))
variable [FZ]
def sh10_1 : Sh := ⟨[.lf (.int .i64), .lf (.str)], []⟩
noncomputable def S10_1 (F : Nat) (o : Summ) : Summ := mkS sh10_1 (fun d K => f10_1 F d.1.1 d.1.2.1 (fun (y0 : ByteArray) (y1 : Int) => K [.lf (.str y0), .lf (.int .i64 y1)] [])) o
noncomputable def code10 : Code := bodyOf Tryd.f10
theorem scopes10 : scopesOf code10 = [] := by kernel_rfl
theorem ranges10 : rangesOf code10 = [] := by kernel_rfl
theorem loops10 : loopsOf code10 = [] := by kernel_rfl
theorem enter10 : ∀ args w, (callFunc 10 args).run Tryd.prog w = .ok (.enter 10 args) w := enter_of (fn := Tryd.f10) (by kernel_rfl) (by kernel_rfl) (by kernel_rfl)
noncomputable def T10_1 (F : Nat) : FuncId → Option Summ := tab [(38, (S38_1 F noS)), (39, (S39_1 F noS))]
noncomputable def LT10_1 (F : Nat) : Nat → Option LoopS := ltab []
theorem E10_1g (F : Nat) (c38_1 : ByteArray → Int → (ByteArray → Option Res) → Option Res) (c39_1 : ByteArray → (ByteArray → Option Res) → Option Res)   (d : sh10_1.den) (K : KF) : evBody Tryd.prog (tab [(38, (mkS sh38_1 (fun d K => c38_1 d.1.1 d.1.2.1 (fun (y0 : ByteArray) => K [.lf (.str y0)] [])) noS)), (39, (mkS sh39_1 (fun d K => c39_1 d.1.1 (fun (y0 : ByteArray) => K [.lf (.str y0)] [])) noS))]) (xw []) 37 0 (ltab []) code10 Tryd.f10.results.toList (encT sh10_1.vs d.1) (encH sh10_1.h d.2) K = (fun (a1 : Int) (a2 : ByteArray) (K0 : (ByteArray → Int → Option Res)) => cond (decide (a1 < 1)) (K0 ByteArray.empty 22) (cond (decide (a1 > 8)) (K0 ByteArray.empty 22) (cond (decide ((a2.size : Int) > 58)) (K0 ByteArray.empty 8) (cond (decide ((ofInts [IntKind.u8.wrap a1, IntKind.u8.wrap (a2.size : Int)]).size + a2.size ≤ 4611686018427387904)) (c38_1 (⟨#[0]⟩ : ByteArray) (IntKind.i64.wrap (60 - (((ofInts [IntKind.u8.wrap a1, IntKind.u8.wrap (a2.size : Int)]) ++ a2).size : Int))) (fun x1 => cond (decide (((ofInts [IntKind.u8.wrap a1, IntKind.u8.wrap (a2.size : Int)]) ++ a2).size + x1.size ≤ 4611686018427387904)) (c39_1 (((ofInts [IntKind.u8.wrap a1, IntKind.u8.wrap (a2.size : Int)]) ++ a2) ++ x1) (fun x2 => cond (decide ((((ofInts [IntKind.u8.wrap a1, IntKind.u8.wrap (a2.size : Int)]) ++ a2) ++ x1).size + x2.size ≤ 4611686018427387904)) (K0 ((((ofInts [IntKind.u8.wrap a1, IntKind.u8.wrap (a2.size : Int)]) ++ a2) ++ x1) ++ x2) 0) none) ) none) ) none)))) d.1.1 d.1.2.1 (fun (y0 : ByteArray) (y1 : Int) => K [.lf (.str y0), .lf (.int .i64 y1)] []) := by kernel_rfl
theorem E10_1 (F : Nat) (d : sh10_1.den) (K : KF) : evBody Tryd.prog (T10_1 F) (xw []) 37 0 (LT10_1 F) code10 Tryd.f10.results.toList (encT sh10_1.vs d.1) (encH sh10_1.h d.2) K = f10_1 F d.1.1 d.1.2.1 (fun (y0 : ByteArray) (y1 : Int) => K [.lf (.str y0), .lf (.int .i64 y1)] []) := Eq.mp (by kernel_rfl) (E10_1g F (f38_1 F) (f39_1 F)   d K)
theorem S10_1_ok (F : Nat) (o : Summ) (ho : SoundFn Tryd.prog 10 o) : SoundFn Tryd.prog 10 (S10_1 F o) :=
  soundFn_of (fn := Tryd.f10) (c := code10) rfl rfl (by kernel_rfl) (tab_cons (S38_1_ok F _ (noS_sound enter38)) (tab_cons (S39_1_ok F _ (noS_sound enter39)) tab_nil)) (by kernel_rfl) (by kernel_rfl) ho (by rw [loops10]; exact loopsOK_nil) (by rw [scopes10]; exact scopesOK_nil) (by rw [ranges10]; exact rangesOK_nil) (E10_1 F)
end Go.Proofs.YtillbabmlfjegaaDoor.X
end

section
namespace Go.Proofs.YtillbabmlfjegaaDoor.X
open Go Go.Proofs.YtillbabmlfjegaaDoor.Ev Go.Proofs
set_option linter.unusedVariables false
set_option linter.unusedSectionVars false
/-! sector.Right -/
noncomputable def f43_1 {β : Type} (F : Nat) (a1 : ByteArray) (K0 : Bool → Option β) : Option β := K0 ((a1.size : Int) == 64)
variable [FZ]
def sh43_1 : Sh := ⟨[.lf (.str)], []⟩
noncomputable def S43_1 (F : Nat) (o : Summ) : Summ := mkS sh43_1 (fun d K => f43_1 F d.1.1 (fun (y0 : Bool) => K [.lf (.bool y0)] [])) o
noncomputable def code43 : Code := bodyOf Tryd.f43
theorem scopes43 : scopesOf code43 = [] := by kernel_rfl
theorem ranges43 : rangesOf code43 = [] := by kernel_rfl
theorem loops43 : loopsOf code43 = [] := by kernel_rfl
theorem enter43 : ∀ args w, (callFunc 43 args).run Tryd.prog w = .ok (.enter 43 args) w := enter_of (fn := Tryd.f43) (by kernel_rfl) (by kernel_rfl) (by kernel_rfl)
noncomputable def T43_1 (F : Nat) : FuncId → Option Summ := tab []
noncomputable def LT43_1 (F : Nat) : Nat → Option LoopS := ltab []
theorem E43_1g (F : Nat)    (d : sh43_1.den) (K : KF) : evBody Tryd.prog (tab []) (xw []) 6 0 (ltab []) code43 Tryd.f43.results.toList (encT sh43_1.vs d.1) (encH sh43_1.h d.2) K = (fun (a1 : ByteArray) (K0 : (Bool → Option Res)) => K0 ((a1.size : Int) == 64)) d.1.1 (fun (y0 : Bool) => K [.lf (.bool y0)] []) := by kernel_rfl
theorem E43_1 (F : Nat) (d : sh43_1.den) (K : KF) : evBody Tryd.prog (T43_1 F) (xw []) 6 0 (LT43_1 F) code43 Tryd.f43.results.toList (encT sh43_1.vs d.1) (encH sh43_1.h d.2) K = f43_1 F d.1.1 (fun (y0 : Bool) => K [.lf (.bool y0)] []) := Eq.mp (by kernel_rfl) (E43_1g F    d K)
theorem S43_1_ok (F : Nat) (o : Summ) (ho : SoundFn Tryd.prog 43 o) : SoundFn Tryd.prog 43 (S43_1 F o) :=
  soundFn_of (fn := Tryd.f43) (c := code43) rfl rfl (by kernel_rfl) tab_nil (by kernel_rfl) (by kernel_rfl) ho (by rw [loops43]; exact loopsOK_nil) (by rw [scopes43]; exact scopesOK_nil) (by rw [ranges43]; exact rangesOK_nil) (E43_1 F)
end Go.Proofs.YtillbabmlfjegaaDoor.X
end

section
namespace Go.Proofs.YtillbabmlfjegaaDoor.X
open Go Go.Proofs.YtillbabmlfjegaaDoor.Ev Go.Proofs
set_option linter.unusedVariables false
set_option linter.unusedSectionVars false
/-! disk.Disk).has -/
noncomputable def f65_1 {β : Type} (F : Nat) (a1 : Int) (a2 : Int) (a3 : Bool) (a4 : Int) (a5 : List ByteArray) (a6 : List (Int × ByteArray)) (K0 : Bool → Option β) : Option β := cond (decide (a1 ≥ 0)) (K0 (decide (a1 < ((a5.length : Nat) : Int)))) (K0 false)
variable [FZ]
def sh65_1 : Sh := ⟨[.lf (.ptr 0 0), .lf (.int .i64)], [some ⟨none, [.full 1, .full 2, .int .i64, .bool, .int .i64]⟩, some ⟨none, [.seq .str 0]⟩, some ⟨none, [.seq (.pair (.int .i64) .str) 0]⟩]⟩
noncomputable def S65_1 (F : Nat) (o : Summ) : Summ := mkS sh65_1 (fun d K => f65_1 F d.1.2.1 d.2.1.2.2.2.1 d.2.1.2.2.2.2.1 d.2.1.2.2.2.2.2.1 d.2.2.1.2.1 d.2.2.2.1.2.1 (fun (y0 : Bool) => K [.lf (.bool y0)] [some ⟨d.2.1.1, [.full 1, .full 2, .int .i64 d.2.1.2.2.2.1, .bool d.2.1.2.2.2.2.1, .int .i64 d.2.1.2.2.2.2.2.1]⟩, some ⟨d.2.2.1.1, [.seq .str 0 d.2.2.1.2.1]⟩, some ⟨d.2.2.2.1.1, [.seq (.pair (.int .i64) .str) 0 d.2.2.2.1.2.1]⟩])) o
noncomputable def code65 : Code := bodyOf Tryd.f65
theorem scopes65 : scopesOf code65 = [] := by kernel_rfl
theorem ranges65 : rangesOf code65 = [] := by kernel_rfl
theorem loops65 : loopsOf code65 = [] := by kernel_rfl
theorem enter65 : ∀ args w, (callFunc 65 args).run Tryd.prog w = .ok (.enter 65 args) w := enter_of (fn := Tryd.f65) (by kernel_rfl) (by kernel_rfl) (by kernel_rfl)
noncomputable def T65_1 (F : Nat) : FuncId → Option Summ := tab []
noncomputable def LT65_1 (F : Nat) : Nat → Option LoopS := ltab []
theorem E65_1g (F : Nat)    (d : sh65_1.den) (K : KF) : evBody Tryd.prog (tab []) (xw []) 16 3 (ltab []) code65 Tryd.f65.results.toList (encT sh65_1.vs d.1) (encH sh65_1.h d.2) K = (fun (a1 : Int) (a2 : Int) (a3 : Bool) (a4 : Int) (a5 : List ByteArray) (a6 : List (Int × ByteArray)) (K0 : (Bool → Option Res)) => cond (decide (a1 ≥ 0)) (K0 (decide (a1 < ((a5.length : Nat) : Int)))) (K0 false)) d.1.2.1 d.2.1.2.2.2.1 d.2.1.2.2.2.2.1 d.2.1.2.2.2.2.2.1 d.2.2.1.2.1 d.2.2.2.1.2.1 (fun (y0 : Bool) => K [.lf (.bool y0)] [some ⟨d.2.1.1, [.full 1, .full 2, .int .i64 d.2.1.2.2.2.1, .bool d.2.1.2.2.2.2.1, .int .i64 d.2.1.2.2.2.2.2.1]⟩, some ⟨d.2.2.1.1, [.seq .str 0 d.2.2.1.2.1]⟩, some ⟨d.2.2.2.1.1, [.seq (.pair (.int .i64) .str) 0 d.2.2.2.1.2.1]⟩]) := by kernel_rfl
theorem E65_1 (F : Nat) (d : sh65_1.den) (K : KF) : evBody Tryd.prog (T65_1 F) (xw []) 16 3 (LT65_1 F) code65 Tryd.f65.results.toList (encT sh65_1.vs d.1) (encH sh65_1.h d.2) K = f65_1 F d.1.2.1 d.2.1.2.2.2.1 d.2.1.2.2.2.2.1 d.2.1.2.2.2.2.2.1 d.2.2.1.2.1 d.2.2.2.1.2.1 (fun (y0 : Bool) => K [.lf (.bool y0)] [some ⟨d.2.1.1, [.full 1, .full 2, .int .i64 d.2.1.2.2.2.1, .bool d.2.1.2.2.2.2.1, .int .i64 d.2.1.2.2.2.2.2.1]⟩, some ⟨d.2.2.1.1, [.seq .str 0 d.2.2.1.2.1]⟩, some ⟨d.2.2.2.1.1, [.seq (.pair (.int .i64) .str) 0 d.2.2.2.1.2.1]⟩]) := Eq.mp (by kernel_rfl) (E65_1g F    d K)
theorem S65_1_ok (F : Nat) (o : Summ) (ho : SoundFn Tryd.prog 65 o) : SoundFn Tryd.prog 65 (S65_1 F o) :=
  soundFn_of (fn := Tryd.f65) (c := code65) rfl rfl (by kernel_rfl) tab_nil (by kernel_rfl) (by kernel_rfl) ho (by rw [loops65]; exact loopsOK_nil) (by rw [scopes65]; exact scopesOK_nil) (by rw [ranges65]; exact rangesOK_nil) (E65_1 F)
end Go.Proofs.YtillbabmlfjegaaDoor.X
end

section
namespace Go.Proofs.YtillbabmlfjegaaDoor.X
open Go Go.Proofs.YtillbabmlfjegaaDoor.Ev Go.Proofs
set_option linter.unusedVariables false
set_option linter.unusedSectionVars false
/-! disk.Disk).burn -/
noncomputable def f96_1 {β : Type} (F : Nat) (a1 : Int) (a2 : Bool) (a3 : Int) (a4 : List ByteArray) (a5 : List (Int × ByteArray)) (K0 : Bool → Int → Bool → Int → Option β) : Option β := cond (a1 == 0) (K0 false (-1) true a3) (cond (a1 == (-1)) (K0 true a1 a2 (IntKind.i64.wrap (a3 + 1))) (K0 true (IntKind.i64.wrap (a1 - 1)) a2 (IntKind.i64.wrap (a3 + 1))))
variable [FZ]
def sh96_1 : Sh := ⟨[.lf (.ptr 0 0)], [some ⟨some false, [.full 1, .full 2, .int .i64, .bool, .int .i64]⟩, some ⟨none, [.seq .str 0]⟩, some ⟨none, [.seq (.pair (.int .i64) .str) 0]⟩]⟩
noncomputable def S96_1 (F : Nat) (o : Summ) : Summ := mkS sh96_1 (fun d K => f96_1 F d.2.1.2.2.2.1 d.2.1.2.2.2.2.1 d.2.1.2.2.2.2.2.1 d.2.2.1.2.1 d.2.2.2.1.2.1 (fun (y0 : Bool) (y1 : Int) (y2 : Bool) (y3 : Int) => K [.lf (.bool y0)] [some ⟨false, [.full 1, .full 2, .int .i64 y1, .bool y2, .int .i64 y3]⟩, some ⟨d.2.2.1.1, [.seq .str 0 d.2.2.1.2.1]⟩, some ⟨d.2.2.2.1.1, [.seq (.pair (.int .i64) .str) 0 d.2.2.2.1.2.1]⟩])) o
noncomputable def code96 : Code := bodyOf Tryd.f96
theorem scopes96 : scopesOf code96 = [] := by kernel_rfl
theorem ranges96 : rangesOf code96 = [] := by kernel_rfl
theorem loops96 : loopsOf code96 = [] := by kernel_rfl
theorem enter96 : ∀ args w, (callFunc 96 args).run Tryd.prog w = .ok (.enter 96 args) w := enter_of (fn := Tryd.f96) (by kernel_rfl) (by kernel_rfl) (by kernel_rfl)
noncomputable def T96_1 (F : Nat) : FuncId → Option Summ := tab []
noncomputable def LT96_1 (F : Nat) : Nat → Option LoopS := ltab []
theorem E96_1g (F : Nat)    (d : sh96_1.den) (K : KF) : evBody Tryd.prog (tab []) (xw []) 31 3 (ltab []) code96 Tryd.f96.results.toList (encT sh96_1.vs d.1) (encH sh96_1.h d.2) K = (fun (a1 : Int) (a2 : Bool) (a3 : Int) (a4 : List ByteArray) (a5 : List (Int × ByteArray)) (K0 : (Bool → Int → Bool → Int → Option Res)) => cond (a1 == 0) (K0 false (-1) true a3) (cond (a1 == (-1)) (K0 true a1 a2 (IntKind.i64.wrap (a3 + 1))) (K0 true (IntKind.i64.wrap (a1 - 1)) a2 (IntKind.i64.wrap (a3 + 1))))) d.2.1.2.2.2.1 d.2.1.2.2.2.2.1 d.2.1.2.2.2.2.2.1 d.2.2.1.2.1 d.2.2.2.1.2.1 (fun (y0 : Bool) (y1 : Int) (y2 : Bool) (y3 : Int) => K [.lf (.bool y0)] [some ⟨false, [.full 1, .full 2, .int .i64 y1, .bool y2, .int .i64 y3]⟩, some ⟨d.2.2.1.1, [.seq .str 0 d.2.2.1.2.1]⟩, some ⟨d.2.2.2.1.1, [.seq (.pair (.int .i64) .str) 0 d.2.2.2.1.2.1]⟩]) := by kernel_rfl
theorem E96_1 (F : Nat) (d : sh96_1.den) (K : KF) : evBody Tryd.prog (T96_1 F) (xw []) 31 3 (LT96_1 F) code96 Tryd.f96.results.toList (encT sh96_1.vs d.1) (encH sh96_1.h d.2) K = f96_1 F d.2.1.2.2.2.1 d.2.1.2.2.2.2.1 d.2.1.2.2.2.2.2.1 d.2.2.1.2.1 d.2.2.2.1.2.1 (fun (y0 : Bool) (y1 : Int) (y2 : Bool) (y3 : Int) => K [.lf (.bool y0)] [some ⟨false, [.full 1, .full 2, .int .i64 y1, .bool y2, .int .i64 y3]⟩, some ⟨d.2.2.1.1, [.seq .str 0 d.2.2.1.2.1]⟩, some ⟨d.2.2.2.1.1, [.seq (.pair (.int .i64) .str) 0 d.2.2.2.1.2.1]⟩]) := Eq.mp (by kernel_rfl) (E96_1g F    d K)
theorem S96_1_ok (F : Nat) (o : Summ) (ho : SoundFn Tryd.prog 96 o) : SoundFn Tryd.prog 96 (S96_1 F o) :=
  soundFn_of (fn := Tryd.f96) (c := code96) rfl rfl (by kernel_rfl) tab_nil (by kernel_rfl) (by kernel_rfl) ho (by rw [loops96]; exact loopsOK_nil) (by rw [scopes96]; exact scopesOK_nil) (by rw [ranges96]; exact rangesOK_nil) (E96_1 F)
end Go.Proofs.YtillbabmlfjegaaDoor.X
end

section
namespace Go.Proofs.YtillbabmlfjegaaDoor.X
open Go Go.Proofs.YtillbabmlfjegaaDoor.Ev Go.Proofs
set_option linter.unusedVariables false
set_option linter.unusedSectionVars false
/-! disk.Disk).Write -/
noncomputable def f55_1 {β : Type} (F : Nat) (a1 : Int) (a2 : ByteArray) (a3 : Int) (a4 : Bool) (a5 : Int) (a6 : List ByteArray) (a7 : List (Int × ByteArray)) (K0 : Int → Int → Bool → Int → Option β) (K1 : Int → Bool → Int → List (Int × ByteArray) → Option β) : Option β := cond a4 (K0 5 a3 a4 a5) (f65_1 F a1 a3 a4 a5 a6 a7 (fun x1 => cond (!x1) (K0 3 a3 a4 a5) (f43_1 F a2 (fun x2 => cond (!x2) (K0 4 a3 a4 a5) (f96_1 F a3 a4 a5 a6 a7 (fun x3 x4 x5 x6 => cond (!x3) (K0 5 x4 x5 x6) (cond (decide ((a7.length + 1) * 24 ≤ 70368744177664)) (K1 x4 x5 x6 (a7 ++ [(a1, a2)])) none)) )) )) )
variable [FZ]
def sh55_1 : Sh := ⟨[.lf (.ptr 0 0), .lf (.int .i64), .lf (.str)], [some ⟨some false, [.full 1, .full 2, .int .i64, .bool, .int .i64]⟩, some ⟨none, [.seq .str 0]⟩, some ⟨some false, [.seq (.pair (.int .i64) .str) 0]⟩]⟩
noncomputable def S55_1 (F : Nat) (o : Summ) : Summ := mkS sh55_1 (fun d K => f55_1 F d.1.2.1 d.1.2.2.1 d.2.1.2.2.2.1 d.2.1.2.2.2.2.1 d.2.1.2.2.2.2.2.1 d.2.2.1.2.1 d.2.2.2.1.2.1 (fun (y0 : Int) (y1 : Int) (y2 : Bool) (y3 : Int) => K [.lf (.int .i64 y0)] [some ⟨false, [.full 1, .full 2, .int .i64 y1, .bool y2, .int .i64 y3]⟩, some ⟨d.2.2.1.1, [.seq .str 0 d.2.2.1.2.1]⟩, some ⟨false, [.seq (.pair (.int .i64) .str) 0 d.2.2.2.1.2.1]⟩]) (fun (y1 : Int) (y2 : Bool) (y3 : Int) (y5 : List (Int × ByteArray)) => K [.lf (.int .i64 0)] [some ⟨false, [.full 1, .full 3, .int .i64 y1, .bool y2, .int .i64 y3]⟩, some ⟨d.2.2.1.1, [.seq .str 0 d.2.2.1.2.1]⟩, none, some ⟨false, [.seq (.pair (.int .i64) .str) 0 y5]⟩])) o
noncomputable def code55 : Code := bodyOf Tryd.f55
theorem scopes55 : scopesOf code55 = [] := by kernel_rfl
theorem ranges55 : rangesOf code55 = [] := by kernel_rfl
theorem loops55 : loopsOf code55 = [] := by kernel_rfl
theorem enter55 : ∀ args w, (callFunc 55 args).run Tryd.prog w = .ok (.enter 55 args) w := enter_of (fn := Tryd.f55) (by kernel_rfl) (by kernel_rfl) (by kernel_rfl)
noncomputable def T55_1 (F : Nat) : FuncId → Option Summ := tab [(43, (S43_1 F noS)), (65, (S65_1 F noS)), (96, (S96_1 F noS))]
noncomputable def LT55_1 (F : Nat) : Nat → Option LoopS := ltab []
theorem E55_1g (F : Nat) (c43_1 : ByteArray → (Bool → Option Res) → Option Res) (c65_1 : Int → Int → Bool → Int → List ByteArray → List (Int × ByteArray) → (Bool → Option Res) → Option Res) (c96_1 : Int → Bool → Int → List ByteArray → List (Int × ByteArray) → (Bool → Int → Bool → Int → Option Res) → Option Res)   (d : sh55_1.den) (K : KF) : evBody Tryd.prog (tab [(43, (mkS sh43_1 (fun d K => c43_1 d.1.1 (fun (y0 : Bool) => K [.lf (.bool y0)] [])) noS)), (65, (mkS sh65_1 (fun d K => c65_1 d.1.2.1 d.2.1.2.2.2.1 d.2.1.2.2.2.2.1 d.2.1.2.2.2.2.2.1 d.2.2.1.2.1 d.2.2.2.1.2.1 (fun (y0 : Bool) => K [.lf (.bool y0)] [some ⟨d.2.1.1, [.full 1, .full 2, .int .i64 d.2.1.2.2.2.1, .bool d.2.1.2.2.2.2.1, .int .i64 d.2.1.2.2.2.2.2.1]⟩, some ⟨d.2.2.1.1, [.seq .str 0 d.2.2.1.2.1]⟩, some ⟨d.2.2.2.1.1, [.seq (.pair (.int .i64) .str) 0 d.2.2.2.1.2.1]⟩])) noS)), (96, (mkS sh96_1 (fun d K => c96_1 d.2.1.2.2.2.1 d.2.1.2.2.2.2.1 d.2.1.2.2.2.2.2.1 d.2.2.1.2.1 d.2.2.2.1.2.1 (fun (y0 : Bool) (y1 : Int) (y2 : Bool) (y3 : Int) => K [.lf (.bool y0)] [some ⟨false, [.full 1, .full 2, .int .i64 y1, .bool y2, .int .i64 y3]⟩, some ⟨d.2.2.1.1, [.seq .str 0 d.2.2.1.2.1]⟩, some ⟨d.2.2.2.1.1, [.seq (.pair (.int .i64) .str) 0 d.2.2.2.1.2.1]⟩])) noS))]) (xw []) 40 3 (ltab []) code55 Tryd.f55.results.toList (encT sh55_1.vs d.1) (encH sh55_1.h d.2) K = (fun (a1 : Int) (a2 : ByteArray) (a3 : Int) (a4 : Bool) (a5 : Int) (a6 : List ByteArray) (a7 : List (Int × ByteArray)) (K0 : (Int → Int → Bool → Int → Option Res)) (K1 : (Int → Bool → Int → List (Int × ByteArray) → Option Res)) => cond a4 (K0 5 a3 a4 a5) (c65_1 a1 a3 a4 a5 a6 a7 (fun x1 => cond (!x1) (K0 3 a3 a4 a5) (c43_1 a2 (fun x2 => cond (!x2) (K0 4 a3 a4 a5) (c96_1 a3 a4 a5 a6 a7 (fun x3 x4 x5 x6 => cond (!x3) (K0 5 x4 x5 x6) (cond (decide ((a7.length + 1) * 24 ≤ 70368744177664)) (K1 x4 x5 x6 (a7 ++ [(a1, a2)])) none)) )) )) )) d.1.2.1 d.1.2.2.1 d.2.1.2.2.2.1 d.2.1.2.2.2.2.1 d.2.1.2.2.2.2.2.1 d.2.2.1.2.1 d.2.2.2.1.2.1 (fun (y0 : Int) (y1 : Int) (y2 : Bool) (y3 : Int) => K [.lf (.int .i64 y0)] [some ⟨false, [.full 1, .full 2, .int .i64 y1, .bool y2, .int .i64 y3]⟩, some ⟨d.2.2.1.1, [.seq .str 0 d.2.2.1.2.1]⟩, some ⟨false, [.seq (.pair (.int .i64) .str) 0 d.2.2.2.1.2.1]⟩]) (fun (y1 : Int) (y2 : Bool) (y3 : Int) (y5 : List (Int × ByteArray)) => K [.lf (.int .i64 0)] [some ⟨false, [.full 1, .full 3, .int .i64 y1, .bool y2, .int .i64 y3]⟩, some ⟨d.2.2.1.1, [.seq .str 0 d.2.2.1.2.1]⟩, none, some ⟨false, [.seq (.pair (.int .i64) .str) 0 y5]⟩]) := by kernel_rfl
theorem E55_1 (F : Nat) (d : sh55_1.den) (K : KF) : evBody Tryd.prog (T55_1 F) (xw []) 40 3 (LT55_1 F) code55 Tryd.f55.results.toList (encT sh55_1.vs d.1) (encH sh55_1.h d.2) K = f55_1 F d.1.2.1 d.1.2.2.1 d.2.1.2.2.2.1 d.2.1.2.2.2.2.1 d.2.1.2.2.2.2.2.1 d.2.2.1.2.1 d.2.2.2.1.2.1 (fun (y0 : Int) (y1 : Int) (y2 : Bool) (y3 : Int) => K [.lf (.int .i64 y0)] [some ⟨false, [.full 1, .full 2, .int .i64 y1, .bool y2, .int .i64 y3]⟩, some ⟨d.2.2.1.1, [.seq .str 0 d.2.2.1.2.1]⟩, some ⟨false, [.seq (.pair (.int .i64) .str) 0 d.2.2.2.1.2.1]⟩]) (fun (y1 : Int) (y2 : Bool) (y3 : Int) (y5 : List (Int × ByteArray)) => K [.lf (.int .i64 0)] [some ⟨false, [.full 1, .full 3, .int .i64 y1, .bool y2, .int .i64 y3]⟩, some ⟨d.2.2.1.1, [.seq .str 0 d.2.2.1.2.1]⟩, none, some ⟨false, [.seq (.pair (.int .i64) .str) 0 y5]⟩]) := Eq.mp (by kernel_rfl) (E55_1g F (f43_1 F) (f65_1 F) (f96_1 F)   d K)
theorem S55_1_ok (F : Nat) (o : Summ) (ho : SoundFn Tryd.prog 55 o) : SoundFn Tryd.prog 55 (S55_1 F o) :=
  soundFn_of (fn := Tryd.f55) (c := code55) rfl rfl (by kernel_rfl) (tab_cons (S43_1_ok F _ (noS_sound enter43)) (tab_cons (S65_1_ok F _ (noS_sound enter65)) (tab_cons (S96_1_ok F _ (noS_sound enter96)) tab_nil))) (by kernel_rfl) (by kernel_rfl) ho (by rw [loops55]; exact loopsOK_nil) (by rw [scopes55]; exact scopesOK_nil) (by rw [ranges55]; exact rangesOK_nil) (E55_1 F)
end Go.Proofs.YtillbabmlfjegaaDoor.X
end

section
namespace Go.Proofs.YtillbabmlfjegaaDoor.X
open Go Go.Proofs.YtillbabmlfjegaaDoor.Ev Go.Proofs
set_option linter.unusedVariables false
set_option linter.unusedSectionVars false
/-! disk.Disk).Flush -/
noncomputable def f56_1_l6 {β : Type} (F : Nat) (v5 : Int) (v7 : Int) (v8 : Bool) (v9 : Int) (v11 : List (Int × ByteArray)) (K0 : List ByteArray → Option β) : Nat → Int → List ByteArray → Option β
  | 0, _, _ => none
  | k + 1, v6, v10 => cond (decide (v6 < v5)) (cond (decide ((0 : Int) ≤ v6 ∧ v6 < ((v11.length : Nat) : Int))) (cond (decide (0 + v6.toNat < v11.length)) (cond (decide ((0 : Int) ≤ (v11.getD (0 + v6.toNat) (0, ByteArray.empty)).1 ∧ (v11.getD (0 + v6.toNat) (0, ByteArray.empty)).1 < ((v10.length : Nat) : Int))) (cond (decide (0 + (((v11.getD (0 + v6.toNat) (0, ByteArray.empty)).1).toNat) < v10.length)) (f56_1_l6 F v5 v7 v8 v9 v11 K0 k (IntKind.i64.wrap (v6 + 1)) (v10.set (0 + (((v11.getD (0 + v6.toNat) (0, ByteArray.empty)).1).toNat)) ((v11.getD (0 + v6.toNat) (0, ByteArray.empty)).2))) none) none) none) none) (K0 v10)
noncomputable def f56_1 {β : Type} (F : Nat) (a1 : Int) (a2 : Bool) (a3 : Int) (a4 : List ByteArray) (a5 : List (Int × ByteArray)) (K0 : Int → Bool → Int → Option β) (K1 : Int → Bool → Int → List ByteArray → List (Int × ByteArray) → Option β) : Option β := cond a2 (K0 a1 a2 a3) (f96_1 F a1 a2 a3 a4 a5 (fun x1 x2 x3 x4 => cond (!x1) (K0 x2 x3 x4) (f56_1_l6 F ((a5.length : Nat) : Int) x2 x3 x4 a5 (fun x12 => K1 x2 x3 x4 x12 []) F 0 a4)) )
variable [FZ]
def sh56_1 : Sh := ⟨[.lf (.ptr 0 0)], [some ⟨some false, [.full 1, .full 2, .int .i64, .bool, .int .i64]⟩, some ⟨some false, [.seq .str 0]⟩, some ⟨none, [.seq (.pair (.int .i64) .str) 0]⟩]⟩
noncomputable def S56_1 (F : Nat) (o : Summ) : Summ := mkS sh56_1 (fun d K => f56_1 F d.2.1.2.2.2.1 d.2.1.2.2.2.2.1 d.2.1.2.2.2.2.2.1 d.2.2.1.2.1 d.2.2.2.1.2.1 (fun (y1 : Int) (y2 : Bool) (y3 : Int) => K [.lf (.int .i64 5)] [some ⟨false, [.full 1, .full 2, .int .i64 y1, .bool y2, .int .i64 y3]⟩, some ⟨false, [.seq .str 0 d.2.2.1.2.1]⟩, some ⟨d.2.2.2.1.1, [.seq (.pair (.int .i64) .str) 0 d.2.2.2.1.2.1]⟩]) (fun (y1 : Int) (y2 : Bool) (y3 : Int) (y4 : List ByteArray) (y6 : List (Int × ByteArray)) => K [.lf (.int .i64 0)] [some ⟨false, [.full 1, .full 3, .int .i64 y1, .bool y2, .int .i64 y3]⟩, some ⟨false, [.seq .str 0 y4]⟩, some ⟨d.2.2.2.1.1, [.seq (.pair (.int .i64) .str) 0 d.2.2.2.1.2.1]⟩, some ⟨false, [.seq (.pair (.int .i64) .str) 0 y6]⟩])) o
noncomputable def code56 : Code := bodyOf Tryd.f56
noncomputable def b56_0 : Code := cB (cB (cR (cL (cR (cR (code56))))))
theorem scopes56 : scopesOf code56 = [] := by kernel_rfl
theorem ranges56 : rangesOf code56 = [] := by kernel_rfl
theorem loops56 : loopsOf code56 = [b56_0] := by kernel_rfl
theorem enter56 : ∀ args w, (callFunc 56 args).run Tryd.prog w = .ok (.enter 56 args) w := enter_of (fn := Tryd.f56) (by kernel_rfl) (by kernel_rfl) (by kernel_rfl)
noncomputable def T56_1 (F : Nat) : FuncId → Option Summ := tab [(96, (S96_1 F noS))]
def sh56_1_l6 : Sh := ⟨[.lf (.ptr 0 0), .lf (.full 2), .lf (.int .i64), .lf (.int .i64)], [some ⟨some false, [.full 1, .full 2, .int .i64, .bool, .int .i64]⟩, some ⟨some false, [.seq .str 0]⟩, some ⟨none, [.seq (.pair (.int .i64) .str) 0]⟩]⟩
noncomputable def G56_1_6 (F k : Nat) : LoopS := mkG sh56_1_l6 [0, 21, 22, 23] (outT [(.exit 1, [0])]) (fun d K => f56_1_l6 F d.1.2.2.1 d.2.1.2.2.2.1 d.2.1.2.2.2.2.1 d.2.1.2.2.2.2.2.1 d.2.2.2.1.2.1 (fun (y3 : List ByteArray) => K (.exit 1) [.tv (.lf (.ptr 0 0))] [some ⟨false, [.full 1, .full 2, .int .i64 d.2.1.2.2.2.1, .bool d.2.1.2.2.2.2.1, .int .i64 d.2.1.2.2.2.2.2.1]⟩, some ⟨false, [.seq .str 0 y3]⟩, some ⟨d.2.2.2.1.1, [.seq (.pair (.int .i64) .str) 0 d.2.2.2.1.2.1]⟩]) k d.1.2.2.2.1 d.2.2.1.2.1) []
noncomputable def LT56_1 (F : Nat) : Nat → Option LoopS := ltab [(6, G56_1_6 F F)]
theorem L56_1_l6g (F k : Nat) (c96_1 : Int → Bool → Int → List ByteArray → List (Int × ByteArray) → (Bool → Int → Bool → Int → Option Res) → Option Res)  (l6 : Int → Int → Bool → Int → List (Int × ByteArray) → (List ByteArray → Option Res) → Nat → Int → List ByteArray → Option Res) (X6 : LoopS) (d : sh56_1_l6.den) (K : KL) : (fun (v5 : Int) (v7 : Int) (v8 : Bool) (v9 : Int) (v11 : List (Int × ByteArray)) (K0 : (List ByteArray → Option Res)) (k : Nat) (v6 : Int) (v10 : List ByteArray) => cond (decide (v6 < v5)) (cond (decide ((0 : Int) ≤ v6 ∧ v6 < ((v11.length : Nat) : Int))) (cond (decide (0 + v6.toNat < v11.length)) (cond (decide ((0 : Int) ≤ (v11.getD (0 + v6.toNat) (0, ByteArray.empty)).1 ∧ (v11.getD (0 + v6.toNat) (0, ByteArray.empty)).1 < ((v10.length : Nat) : Int))) (cond (decide (0 + (((v11.getD (0 + v6.toNat) (0, ByteArray.empty)).1).toNat) < v10.length)) (l6 v5 v7 v8 v9 v11 K0 k (IntKind.i64.wrap (v6 + 1)) (v10.set (0 + (((v11.getD (0 + v6.toNat) (0, ByteArray.empty)).1).toNat)) ((v11.getD (0 + v6.toNat) (0, ByteArray.empty)).2))) none) none) none) none) (K0 v10)) d.1.2.2.1 d.2.1.2.2.2.1 d.2.1.2.2.2.2.1 d.2.1.2.2.2.2.2.1 d.2.2.2.1.2.1 (fun (y3 : List ByteArray) => K (.exit 1) [.tv (.lf (.ptr 0 0))] [some ⟨false, [.full 1, .full 2, .int .i64 d.2.1.2.2.2.1, .bool d.2.1.2.2.2.2.1, .int .i64 d.2.1.2.2.2.2.2.1]⟩, some ⟨false, [.seq .str 0 y3]⟩, some ⟨d.2.2.2.1.1, [.seq (.pair (.int .i64) .str) 0 d.2.2.2.1.2.1]⟩]) k d.1.2.2.2.1 d.2.2.1.2.1 = roundOf Tryd.prog (tab [(96, (mkS sh96_1 (fun d K => c96_1 d.2.1.2.2.2.1 d.2.1.2.2.2.2.1 d.2.1.2.2.2.2.2.1 d.2.2.1.2.1 d.2.2.2.1.2.1 (fun (y0 : Bool) (y1 : Int) (y2 : Bool) (y3 : Int) => K [.lf (.bool y0)] [some ⟨false, [.full 1, .full 2, .int .i64 y1, .bool y2, .int .i64 y3]⟩, some ⟨d.2.2.1.1, [.seq .str 0 d.2.2.1.2.1]⟩, some ⟨d.2.2.2.1.1, [.seq (.pair (.int .i64) .str) 0 d.2.2.2.1.2.1]⟩])) noS))]) (xw []) 40 3 (ltab [(6, X6)]) (mkG sh56_1_l6 [0, 21, 22, 23] (outT [(.exit 1, [0])]) (fun d K => l6 d.1.2.2.1 d.2.1.2.2.2.1 d.2.1.2.2.2.2.1 d.2.1.2.2.2.2.2.1 d.2.2.2.1.2.1 (fun (y3 : List ByteArray) => K (.exit 1) [.tv (.lf (.ptr 0 0))] [some ⟨false, [.full 1, .full 2, .int .i64 d.2.1.2.2.2.1, .bool d.2.1.2.2.2.2.1, .int .i64 d.2.1.2.2.2.2.2.1]⟩, some ⟨false, [.seq .str 0 y3]⟩, some ⟨d.2.2.2.1.1, [.seq (.pair (.int .i64) .str) 0 d.2.2.2.1.2.1]⟩]) k d.1.2.2.2.1 d.2.2.1.2.1) []) b56_0 (encT sh56_1_l6.vs d.1) (encH sh56_1_l6.h d.2) K := by kernel_rfl
theorem L56_1_6 (F : Nat) : LoopOK Tryd.prog (T56_1 F) (xw []) 40 3 (LT56_1 F) (G56_1_6 F F) b56_0 :=
  loopOK_of (s := sh56_1_l6) (live := [0, 21, 22, 23]) (out := (outT [(.exit 1, [0])])) (mv := []) (fun k d K => f56_1_l6 F d.1.2.2.1 d.2.1.2.2.2.1 d.2.1.2.2.2.2.1 d.2.1.2.2.2.2.2.1 d.2.2.2.1.2.1 (fun (y3 : List ByteArray) => K (.exit 1) [.tv (.lf (.ptr 0 0))] [some ⟨false, [.full 1, .full 2, .int .i64 d.2.1.2.2.2.1, .bool d.2.1.2.2.2.2.1, .int .i64 d.2.1.2.2.2.2.2.1]⟩, some ⟨false, [.seq .str 0 y3]⟩, some ⟨d.2.2.2.1.1, [.seq (.pair (.int .i64) .str) 0 d.2.2.2.1.2.1]⟩]) k d.1.2.2.2.1 d.2.2.1.2.1) F (fun d K => by kernel_rfl)  (fun k d K => Eq.mp (by kernel_rfl) (L56_1_l6g F k (f96_1 F)  (f56_1_l6 F) (G56_1_6 F F) d K))
theorem E56_1g (F : Nat) (c96_1 : Int → Bool → Int → List ByteArray → List (Int × ByteArray) → (Bool → Int → Bool → Int → Option Res) → Option Res) (l6 : Int → Int → Bool → Int → List (Int × ByteArray) → (List ByteArray → Option Res) → Nat → Int → List ByteArray → Option Res)  (d : sh56_1.den) (K : KF) : evBody Tryd.prog (tab [(96, (mkS sh96_1 (fun d K => c96_1 d.2.1.2.2.2.1 d.2.1.2.2.2.2.1 d.2.1.2.2.2.2.2.1 d.2.2.1.2.1 d.2.2.2.1.2.1 (fun (y0 : Bool) (y1 : Int) (y2 : Bool) (y3 : Int) => K [.lf (.bool y0)] [some ⟨false, [.full 1, .full 2, .int .i64 y1, .bool y2, .int .i64 y3]⟩, some ⟨d.2.2.1.1, [.seq .str 0 d.2.2.1.2.1]⟩, some ⟨d.2.2.2.1.1, [.seq (.pair (.int .i64) .str) 0 d.2.2.2.1.2.1]⟩])) noS))]) (xw []) 40 3 (ltab [(6, mkG sh56_1_l6 [0, 21, 22, 23] (outT [(.exit 1, [0])]) (fun d K => l6 d.1.2.2.1 d.2.1.2.2.2.1 d.2.1.2.2.2.2.1 d.2.1.2.2.2.2.2.1 d.2.2.2.1.2.1 (fun (y3 : List ByteArray) => K (.exit 1) [.tv (.lf (.ptr 0 0))] [some ⟨false, [.full 1, .full 2, .int .i64 d.2.1.2.2.2.1, .bool d.2.1.2.2.2.2.1, .int .i64 d.2.1.2.2.2.2.2.1]⟩, some ⟨false, [.seq .str 0 y3]⟩, some ⟨d.2.2.2.1.1, [.seq (.pair (.int .i64) .str) 0 d.2.2.2.1.2.1]⟩]) F d.1.2.2.2.1 d.2.2.1.2.1) [])]) code56 Tryd.f56.results.toList (encT sh56_1.vs d.1) (encH sh56_1.h d.2) K = (fun (a1 : Int) (a2 : Bool) (a3 : Int) (a4 : List ByteArray) (a5 : List (Int × ByteArray)) (K0 : (Int → Bool → Int → Option Res)) (K1 : (Int → Bool → Int → List ByteArray → List (Int × ByteArray) → Option Res)) => cond a2 (K0 a1 a2 a3) (c96_1 a1 a2 a3 a4 a5 (fun x1 x2 x3 x4 => cond (!x1) (K0 x2 x3 x4) (l6 ((a5.length : Nat) : Int) x2 x3 x4 a5 (fun x12 => K1 x2 x3 x4 x12 []) F 0 a4)) )) d.2.1.2.2.2.1 d.2.1.2.2.2.2.1 d.2.1.2.2.2.2.2.1 d.2.2.1.2.1 d.2.2.2.1.2.1 (fun (y1 : Int) (y2 : Bool) (y3 : Int) => K [.lf (.int .i64 5)] [some ⟨false, [.full 1, .full 2, .int .i64 y1, .bool y2, .int .i64 y3]⟩, some ⟨false, [.seq .str 0 d.2.2.1.2.1]⟩, some ⟨d.2.2.2.1.1, [.seq (.pair (.int .i64) .str) 0 d.2.2.2.1.2.1]⟩]) (fun (y1 : Int) (y2 : Bool) (y3 : Int) (y4 : List ByteArray) (y6 : List (Int × ByteArray)) => K [.lf (.int .i64 0)] [some ⟨false, [.full 1, .full 3, .int .i64 y1, .bool y2, .int .i64 y3]⟩, some ⟨false, [.seq .str 0 y4]⟩, some ⟨d.2.2.2.1.1, [.seq (.pair (.int .i64) .str) 0 d.2.2.2.1.2.1]⟩, some ⟨false, [.seq (.pair (.int .i64) .str) 0 y6]⟩]) := by kernel_rfl
theorem E56_1 (F : Nat) (d : sh56_1.den) (K : KF) : evBody Tryd.prog (T56_1 F) (xw []) 40 3 (LT56_1 F) code56 Tryd.f56.results.toList (encT sh56_1.vs d.1) (encH sh56_1.h d.2) K = f56_1 F d.2.1.2.2.2.1 d.2.1.2.2.2.2.1 d.2.1.2.2.2.2.2.1 d.2.2.1.2.1 d.2.2.2.1.2.1 (fun (y1 : Int) (y2 : Bool) (y3 : Int) => K [.lf (.int .i64 5)] [some ⟨false, [.full 1, .full 2, .int .i64 y1, .bool y2, .int .i64 y3]⟩, some ⟨false, [.seq .str 0 d.2.2.1.2.1]⟩, some ⟨d.2.2.2.1.1, [.seq (.pair (.int .i64) .str) 0 d.2.2.2.1.2.1]⟩]) (fun (y1 : Int) (y2 : Bool) (y3 : Int) (y4 : List ByteArray) (y6 : List (Int × ByteArray)) => K [.lf (.int .i64 0)] [some ⟨false, [.full 1, .full 3, .int .i64 y1, .bool y2, .int .i64 y3]⟩, some ⟨false, [.seq .str 0 y4]⟩, some ⟨d.2.2.2.1.1, [.seq (.pair (.int .i64) .str) 0 d.2.2.2.1.2.1]⟩, some ⟨false, [.seq (.pair (.int .i64) .str) 0 y6]⟩]) := Eq.mp (by kernel_rfl) (E56_1g F (f96_1 F) (f56_1_l6 F)  d K)
theorem S56_1_ok (F : Nat) (o : Summ) (ho : SoundFn Tryd.prog 56 o) : SoundFn Tryd.prog 56 (S56_1 F o) :=
  soundFn_of (fn := Tryd.f56) (c := code56) rfl rfl (by kernel_rfl) (tab_cons (S96_1_ok F _ (noS_sound enter96)) tab_nil) (by kernel_rfl) (by kernel_rfl) ho (by rw [loops56]; exact (loopsOK_cons (by kernel_rfl) (L56_1_6 F) loopsOK_nil)) (by rw [scopes56]; exact scopesOK_nil) (by rw [ranges56]; exact rangesOK_nil) (E56_1 F)
end Go.Proofs.YtillbabmlfjegaaDoor.X
end

section
namespace Go.Proofs.YtillbabmlfjegaaDoor.X
open Go Go.Proofs.YtillbabmlfjegaaDoor.Ev Go.Proofs
set_option linter.unusedVariables false
set_option linter.unusedSectionVars false
/-! bits.Set).Bytes -/
noncomputable def f103_1_l3 {β : Type} (F : Nat) (v1 : List Int) (K0 : List Int → Option β) : Nat → Int → List Int → Option β
  | 0, _, _ => none
  | k + 1, v2, v3 => cond (decide (v2 < 2)) (cond (decide ((0 : Int) ≤ v2 ∧ v2 < 2)) (f47_1 F 8 (v1.getD v2.toNat 0) v3 (fun x4 => f103_1_l3 F v1 K0 k (IntKind.i64.wrap (v2 + 1)) x4) ) none) (K0 v3)
noncomputable def f103_1 {β : Type} (F : Nat) (a1 : List Int) (K0 : ByteArray → Option β) : Option β := f103_1_l3 F a1 (fun x5 => K0 (ofInts x5)) F 0 []
variable [FZ]
def sh103_1 : Sh := ⟨[.agg [.seq (.int .u64) 2]], []⟩
noncomputable def S103_1 (F : Nat) (o : Summ) : Summ := mkS sh103_1 (fun d K => f103_1 F d.1.1.1 (fun (y0 : ByteArray) => K [.lf (.str y0)] [])) o
noncomputable def code103 : Code := bodyOf Tryd.f103
noncomputable def b103_0 : Code := cB (cB (cR (cL (cR (cR (code103))))))
theorem scopes103 : scopesOf code103 = [] := by kernel_rfl
theorem ranges103 : rangesOf code103 = [] := by kernel_rfl
theorem loops103 : loopsOf code103 = [b103_0] := by kernel_rfl
theorem enter103 : ∀ args w, (callFunc 103 args).run Tryd.prog w = .ok (.enter 103 args) w := enter_of (fn := Tryd.f103) (by kernel_rfl) (by kernel_rfl) (by kernel_rfl)
noncomputable def T103_1 (F : Nat) : FuncId → Option Summ := tab [(47, (S47_1 F noS))]
def sh103_1_l3 : Sh := ⟨[.lf (.full 0), .agg [.seq (.int .u64) 2], .lf (.int .i64)], [some ⟨some false, [.seq (.int .u8) 0]⟩]⟩
noncomputable def G103_1_3 (F k : Nat) : LoopS := mkG sh103_1_l3 [3, 6, 7] (outT [(.exit 0, [3])]) (fun d K => f103_1_l3 F d.1.2.1.1 (fun (y0 : List Int) => K (.exit 0) [.tv (.lf (.full 0))] [some ⟨false, [.seq (.int .u8) 0 y0]⟩]) k d.1.2.2.1 d.2.1.2.1) []
noncomputable def LT103_1 (F : Nat) : Nat → Option LoopS := ltab [(3, G103_1_3 F F)]
theorem L103_1_l3g (F k : Nat) (c47_1 : Int → Int → List Int → (List Int → Option Res) → Option Res)  (l3 : List Int → (List Int → Option Res) → Nat → Int → List Int → Option Res) (X3 : LoopS) (d : sh103_1_l3.den) (K : KL) : (fun (v1 : List Int) (K0 : (List Int → Option Res)) (k : Nat) (v2 : Int) (v3 : List Int) => cond (decide (v2 < 2)) (cond (decide ((0 : Int) ≤ v2 ∧ v2 < 2)) (c47_1 8 (v1.getD v2.toNat 0) v3 (fun x4 => l3 v1 K0 k (IntKind.i64.wrap (v2 + 1)) x4) ) none) (K0 v3)) d.1.2.1.1 (fun (y0 : List Int) => K (.exit 0) [.tv (.lf (.full 0))] [some ⟨false, [.seq (.int .u8) 0 y0]⟩]) k d.1.2.2.1 d.2.1.2.1 = roundOf Tryd.prog (tab [(47, (mkS sh47_1 (fun d K => c47_1 d.1.2.1 d.1.2.2.1 d.2.1.2.1 (fun (y1 : List Int) => K [.lf (.full 1)] [some ⟨d.2.1.1, [.seq (.int .u8) 0 d.2.1.2.1]⟩, some ⟨false, [.seq (.int .u8) 0 y1]⟩])) noS))]) (xw []) 16 0 (ltab [(3, X3)]) (mkG sh103_1_l3 [3, 6, 7] (outT [(.exit 0, [3])]) (fun d K => l3 d.1.2.1.1 (fun (y0 : List Int) => K (.exit 0) [.tv (.lf (.full 0))] [some ⟨false, [.seq (.int .u8) 0 y0]⟩]) k d.1.2.2.1 d.2.1.2.1) []) b103_0 (encT sh103_1_l3.vs d.1) (encH sh103_1_l3.h d.2) K := by kernel_rfl
theorem L103_1_3 (F : Nat) : LoopOK Tryd.prog (T103_1 F) (xw []) 16 0 (LT103_1 F) (G103_1_3 F F) b103_0 :=
  loopOK_of (s := sh103_1_l3) (live := [3, 6, 7]) (out := (outT [(.exit 0, [3])])) (mv := []) (fun k d K => f103_1_l3 F d.1.2.1.1 (fun (y0 : List Int) => K (.exit 0) [.tv (.lf (.full 0))] [some ⟨false, [.seq (.int .u8) 0 y0]⟩]) k d.1.2.2.1 d.2.1.2.1) F (fun d K => by kernel_rfl)  (fun k d K => Eq.mp (by kernel_rfl) (L103_1_l3g F k (f47_1 F)  (f103_1_l3 F) (G103_1_3 F F) d K))
theorem E103_1g (F : Nat) (c47_1 : Int → Int → List Int → (List Int → Option Res) → Option Res) (l3 : List Int → (List Int → Option Res) → Nat → Int → List Int → Option Res)  (d : sh103_1.den) (K : KF) : evBody Tryd.prog (tab [(47, (mkS sh47_1 (fun d K => c47_1 d.1.2.1 d.1.2.2.1 d.2.1.2.1 (fun (y1 : List Int) => K [.lf (.full 1)] [some ⟨d.2.1.1, [.seq (.int .u8) 0 d.2.1.2.1]⟩, some ⟨false, [.seq (.int .u8) 0 y1]⟩])) noS))]) (xw []) 16 0 (ltab [(3, mkG sh103_1_l3 [3, 6, 7] (outT [(.exit 0, [3])]) (fun d K => l3 d.1.2.1.1 (fun (y0 : List Int) => K (.exit 0) [.tv (.lf (.full 0))] [some ⟨false, [.seq (.int .u8) 0 y0]⟩]) F d.1.2.2.1 d.2.1.2.1) [])]) code103 Tryd.f103.results.toList (encT sh103_1.vs d.1) (encH sh103_1.h d.2) K = (fun (a1 : List Int) (K0 : (ByteArray → Option Res)) => l3 a1 (fun x5 => K0 (ofInts x5)) F 0 []) d.1.1.1 (fun (y0 : ByteArray) => K [.lf (.str y0)] []) := by kernel_rfl
theorem E103_1 (F : Nat) (d : sh103_1.den) (K : KF) : evBody Tryd.prog (T103_1 F) (xw []) 16 0 (LT103_1 F) code103 Tryd.f103.results.toList (encT sh103_1.vs d.1) (encH sh103_1.h d.2) K = f103_1 F d.1.1.1 (fun (y0 : ByteArray) => K [.lf (.str y0)] []) := Eq.mp (by kernel_rfl) (E103_1g F (f47_1 F) (f103_1_l3 F)  d K)
theorem S103_1_ok (F : Nat) (o : Summ) (ho : SoundFn Tryd.prog 103 o) : SoundFn Tryd.prog 103 (S103_1 F o) :=
  soundFn_of (fn := Tryd.f103) (c := code103) rfl rfl (by kernel_rfl) (tab_cons (S47_1_ok F _ (noS_sound enter47)) tab_nil) (by kernel_rfl) (by kernel_rfl) ho (by rw [loops103]; exact (loopsOK_cons (by kernel_rfl) (L103_1_3 F) loopsOK_nil)) (by rw [scopes103]; exact scopesOK_nil) (by rw [ranges103]; exact rangesOK_nil) (E103_1 F)
end Go.Proofs.YtillbabmlfjegaaDoor.X
end

section
namespace Go.Proofs.YtillbabmlfjegaaDoor.X
open Go Go.Proofs.YtillbabmlfjegaaDoor.Ev Go.Proofs
set_option linter.unusedVariables false
set_option linter.unusedSectionVars false
/-! dirty.Map).bytes -/
noncomputable def f71_1 {β : Type} (F : Nat) (a1 : List Int) (a2 : List Int) (a3 : Int) (K0 : ByteArray → Option β) : Option β := f103_1 F a1 (fun x1 => f103_1 F a2 (fun x2 => cond (decide (x1.size + x2.size ≤ 4611686018427387904)) (f47_1 F 8 a3 (toInts (x1 ++ x2)) (fun x3 => K0 (ofInts x3)) ) none) ) 
variable [FZ]
def sh71_1 : Sh := ⟨[.agg [.seq (.int .u64) 2, .seq (.int .u64) 2, .int .u64]], []⟩
noncomputable def S71_1 (F : Nat) (o : Summ) : Summ := mkS sh71_1 (fun d K => f71_1 F d.1.1.1 d.1.1.2.1 d.1.1.2.2.1 (fun (y0 : ByteArray) => K [.lf (.str y0)] [])) o
noncomputable def code71 : Code := bodyOf Tryd.f71
theorem scopes71 : scopesOf code71 = [] := by kernel_rfl
theorem ranges71 : rangesOf code71 = [] := by kernel_rfl
theorem loops71 : loopsOf code71 = [] := by kernel_rfl
theorem enter71 : ∀ args w, (callFunc 71 args).run Tryd.prog w = .ok (.enter 71 args) w := enter_of (fn := Tryd.f71) (by kernel_rfl) (by kernel_rfl) (by kernel_rfl)
noncomputable def T71_1 (F : Nat) : FuncId → Option Summ := tab [(47, (S47_1 F noS)), (103, (S103_1 F noS))]
noncomputable def LT71_1 (F : Nat) : Nat → Option LoopS := ltab []
theorem E71_1g (F : Nat) (c47_1 : Int → Int → List Int → (List Int → Option Res) → Option Res) (c103_1 : List Int → (ByteArray → Option Res) → Option Res)   (d : sh71_1.den) (K : KF) : evBody Tryd.prog (tab [(47, (mkS sh47_1 (fun d K => c47_1 d.1.2.1 d.1.2.2.1 d.2.1.2.1 (fun (y1 : List Int) => K [.lf (.full 1)] [some ⟨d.2.1.1, [.seq (.int .u8) 0 d.2.1.2.1]⟩, some ⟨false, [.seq (.int .u8) 0 y1]⟩])) noS)), (103, (mkS sh103_1 (fun d K => c103_1 d.1.1.1 (fun (y0 : ByteArray) => K [.lf (.str y0)] [])) noS))]) (xw []) 15 0 (ltab []) code71 Tryd.f71.results.toList (encT sh71_1.vs d.1) (encH sh71_1.h d.2) K = (fun (a1 : List Int) (a2 : List Int) (a3 : Int) (K0 : (ByteArray → Option Res)) => c103_1 a1 (fun x1 => c103_1 a2 (fun x2 => cond (decide (x1.size + x2.size ≤ 4611686018427387904)) (c47_1 8 a3 (toInts (x1 ++ x2)) (fun x3 => K0 (ofInts x3)) ) none) ) ) d.1.1.1 d.1.1.2.1 d.1.1.2.2.1 (fun (y0 : ByteArray) => K [.lf (.str y0)] []) := by kernel_rfl
theorem E71_1 (F : Nat) (d : sh71_1.den) (K : KF) : evBody Tryd.prog (T71_1 F) (xw []) 15 0 (LT71_1 F) code71 Tryd.f71.results.toList (encT sh71_1.vs d.1) (encH sh71_1.h d.2) K = f71_1 F d.1.1.1 d.1.1.2.1 d.1.1.2.2.1 (fun (y0 : ByteArray) => K [.lf (.str y0)] []) := Eq.mp (by kernel_rfl) (E71_1g F (f47_1 F) (f103_1 F)   d K)
theorem S71_1_ok (F : Nat) (o : Summ) (ho : SoundFn Tryd.prog 71 o) : SoundFn Tryd.prog 71 (S71_1 F o) :=
  soundFn_of (fn := Tryd.f71) (c := code71) rfl rfl (by kernel_rfl) (tab_cons (S47_1_ok F _ (noS_sound enter47)) (tab_cons (S103_1_ok F _ (noS_sound enter103)) tab_nil)) (by kernel_rfl) (by kernel_rfl) ho (by rw [loops71]; exact loopsOK_nil) (by rw [scopes71]; exact scopesOK_nil) (by rw [ranges71]; exact rangesOK_nil) (E71_1 F)
end Go.Proofs.YtillbabmlfjegaaDoor.X
end

section
namespace Go.Proofs.YtillbabmlfjegaaDoor.X
open Go Go.Proofs.YtillbabmlfjegaaDoor.Ev Go.Proofs
set_option linter.unusedVariables false
set_option linter.unusedSectionVars false
/-! dirty.Save -/
noncomputable def f34_1 {β : Type} (F : Nat) (a1 : List Int) (a2 : List Int) (a3 : Int) (a4 : Int) (a5 : Bool) (a6 : Int) (a7 : List ByteArray) (a8 : List (Int × ByteArray)) (K0 : Int → Int → Bool → Int → Option β) (K1 : Int → Bool → Int → List ByteArray → List (Int × ByteArray) → Option β) (K2 : Int → Int → Bool → Int → List ByteArray → List (Int × ByteArray) → Option β) : Option β := f71_1 F a1 a2 a3 (fun x1 => f10_1 F 5 x1 (fun x2 x3 => cond (x3 != 0) (K0 x3 a4 a5 a6) (f55_1 F 5 x2 a4 a5 a6 a7 a8 (fun x4 x5 x6 x7 => cond (x4 != 0) (K0 x4 x5 x6 x7) (f56_1 F x5 x6 x7 a7 a8 (fun x8 x9 x10 => K0 5 x8 x9 x10) (fun x11 x12 x13 x14 x15 => K1 x11 x12 x13 x14 x15) )) (fun x16 x17 x18 x19 => f56_1 F x16 x17 x18 a7 x19 (fun x20 x21 x22 => K2 5 x20 x21 x22 a7 x19) (fun x23 x24 x25 x26 x27 => K2 0 x23 x24 x25 x26 x27) ) )) ) 
variable [FZ]
def sh34_1 : Sh := ⟨[.lf (.ptr 0 0), .agg [.seq (.int .u64) 2, .seq (.int .u64) 2, .int .u64]], [some ⟨some false, [.full 1, .full 2, .int .i64, .bool, .int .i64]⟩, some ⟨some false, [.seq .str 0]⟩, some ⟨some false, [.seq (.pair (.int .i64) .str) 0]⟩]⟩
noncomputable def S34_1 (F : Nat) (o : Summ) : Summ := mkS sh34_1 (fun d K => f34_1 F d.1.2.1.1 d.1.2.1.2.1 d.1.2.1.2.2.1 d.2.1.2.2.2.1 d.2.1.2.2.2.2.1 d.2.1.2.2.2.2.2.1 d.2.2.1.2.1 d.2.2.2.1.2.1 (fun (y0 : Int) (y1 : Int) (y2 : Bool) (y3 : Int) => K [.lf (.int .i64 y0)] [some ⟨false, [.full 1, .full 2, .int .i64 y1, .bool y2, .int .i64 y3]⟩, some ⟨false, [.seq .str 0 d.2.2.1.2.1]⟩, some ⟨false, [.seq (.pair (.int .i64) .str) 0 d.2.2.2.1.2.1]⟩]) (fun (y1 : Int) (y2 : Bool) (y3 : Int) (y4 : List ByteArray) (y6 : List (Int × ByteArray)) => K [.lf (.int .i64 0)] [some ⟨false, [.full 1, .full 3, .int .i64 y1, .bool y2, .int .i64 y3]⟩, some ⟨false, [.seq .str 0 y4]⟩, some ⟨false, [.seq (.pair (.int .i64) .str) 0 d.2.2.2.1.2.1]⟩, some ⟨false, [.seq (.pair (.int .i64) .str) 0 y6]⟩]) (fun (y0 : Int) (y1 : Int) (y2 : Bool) (y3 : Int) (y4 : List ByteArray) (y5 : List (Int × ByteArray)) => K [.lf (.int .i64 y0)] [some ⟨false, [.full 1, .full 3, .int .i64 y1, .bool y2, .int .i64 y3]⟩, some ⟨false, [.seq .str 0 y4]⟩, none, some ⟨false, [.seq (.pair (.int .i64) .str) 0 y5]⟩])) o
noncomputable def code34 : Code := bodyOf Tryd.f34
theorem scopes34 : scopesOf code34 = [] := by kernel_rfl
theorem ranges34 : rangesOf code34 = [] := by kernel_rfl
theorem loops34 : loopsOf code34 = [] := by kernel_rfl
theorem enter34 : ∀ args w, (callFunc 34 args).run Tryd.prog w = .ok (.enter 34 args) w := enter_of (fn := Tryd.f34) (by kernel_rfl) (by kernel_rfl) (by kernel_rfl)
noncomputable def T34_1 (F : Nat) : FuncId → Option Summ := tab [(10, (S10_1 F noS)), (55, (S55_1 F noS)), (56, (S56_1 F noS)), (71, (S71_1 F noS))]
noncomputable def LT34_1 (F : Nat) : Nat → Option LoopS := ltab []
theorem E34_1g (F : Nat) (c10_1 : Int → ByteArray → (ByteArray → Int → Option Res) → Option Res) (c55_1 : Int → ByteArray → Int → Bool → Int → List ByteArray → List (Int × ByteArray) → (Int → Int → Bool → Int → Option Res) → (Int → Bool → Int → List (Int × ByteArray) → Option Res) → Option Res) (c56_1 : Int → Bool → Int → List ByteArray → List (Int × ByteArray) → (Int → Bool → Int → Option Res) → (Int → Bool → Int → List ByteArray → List (Int × ByteArray) → Option Res) → Option Res) (c71_1 : List Int → List Int → Int → (ByteArray → Option Res) → Option Res)   (d : sh34_1.den) (K : KF) : evBody Tryd.prog (tab [(10, (mkS sh10_1 (fun d K => c10_1 d.1.1 d.1.2.1 (fun (y0 : ByteArray) (y1 : Int) => K [.lf (.str y0), .lf (.int .i64 y1)] [])) noS)), (55, (mkS sh55_1 (fun d K => c55_1 d.1.2.1 d.1.2.2.1 d.2.1.2.2.2.1 d.2.1.2.2.2.2.1 d.2.1.2.2.2.2.2.1 d.2.2.1.2.1 d.2.2.2.1.2.1 (fun (y0 : Int) (y1 : Int) (y2 : Bool) (y3 : Int) => K [.lf (.int .i64 y0)] [some ⟨false, [.full 1, .full 2, .int .i64 y1, .bool y2, .int .i64 y3]⟩, some ⟨d.2.2.1.1, [.seq .str 0 d.2.2.1.2.1]⟩, some ⟨false, [.seq (.pair (.int .i64) .str) 0 d.2.2.2.1.2.1]⟩]) (fun (y1 : Int) (y2 : Bool) (y3 : Int) (y5 : List (Int × ByteArray)) => K [.lf (.int .i64 0)] [some ⟨false, [.full 1, .full 3, .int .i64 y1, .bool y2, .int .i64 y3]⟩, some ⟨d.2.2.1.1, [.seq .str 0 d.2.2.1.2.1]⟩, none, some ⟨false, [.seq (.pair (.int .i64) .str) 0 y5]⟩])) noS)), (56, (mkS sh56_1 (fun d K => c56_1 d.2.1.2.2.2.1 d.2.1.2.2.2.2.1 d.2.1.2.2.2.2.2.1 d.2.2.1.2.1 d.2.2.2.1.2.1 (fun (y1 : Int) (y2 : Bool) (y3 : Int) => K [.lf (.int .i64 5)] [some ⟨false, [.full 1, .full 2, .int .i64 y1, .bool y2, .int .i64 y3]⟩, some ⟨false, [.seq .str 0 d.2.2.1.2.1]⟩, some ⟨d.2.2.2.1.1, [.seq (.pair (.int .i64) .str) 0 d.2.2.2.1.2.1]⟩]) (fun (y1 : Int) (y2 : Bool) (y3 : Int) (y4 : List ByteArray) (y6 : List (Int × ByteArray)) => K [.lf (.int .i64 0)] [some ⟨false, [.full 1, .full 3, .int .i64 y1, .bool y2, .int .i64 y3]⟩, some ⟨false, [.seq .str 0 y4]⟩, some ⟨d.2.2.2.1.1, [.seq (.pair (.int .i64) .str) 0 d.2.2.2.1.2.1]⟩, some ⟨false, [.seq (.pair (.int .i64) .str) 0 y6]⟩])) noS)), (71, (mkS sh71_1 (fun d K => c71_1 d.1.1.1 d.1.1.2.1 d.1.1.2.2.1 (fun (y0 : ByteArray) => K [.lf (.str y0)] [])) noS))]) (xw []) 25 3 (ltab []) code34 Tryd.f34.results.toList (encT sh34_1.vs d.1) (encH sh34_1.h d.2) K = (fun (a1 : List Int) (a2 : List Int) (a3 : Int) (a4 : Int) (a5 : Bool) (a6 : Int) (a7 : List ByteArray) (a8 : List (Int × ByteArray)) (K0 : (Int → Int → Bool → Int → Option Res)) (K1 : (Int → Bool → Int → List ByteArray → List (Int × ByteArray) → Option Res)) (K2 : (Int → Int → Bool → Int → List ByteArray → List (Int × ByteArray) → Option Res)) => c71_1 a1 a2 a3 (fun x1 => c10_1 5 x1 (fun x2 x3 => cond (x3 != 0) (K0 x3 a4 a5 a6) (c55_1 5 x2 a4 a5 a6 a7 a8 (fun x4 x5 x6 x7 => cond (x4 != 0) (K0 x4 x5 x6 x7) (c56_1 x5 x6 x7 a7 a8 (fun x8 x9 x10 => K0 5 x8 x9 x10) (fun x11 x12 x13 x14 x15 => K1 x11 x12 x13 x14 x15) )) (fun x16 x17 x18 x19 => c56_1 x16 x17 x18 a7 x19 (fun x20 x21 x22 => K2 5 x20 x21 x22 a7 x19) (fun x23 x24 x25 x26 x27 => K2 0 x23 x24 x25 x26 x27) ) )) ) ) d.1.2.1.1 d.1.2.1.2.1 d.1.2.1.2.2.1 d.2.1.2.2.2.1 d.2.1.2.2.2.2.1 d.2.1.2.2.2.2.2.1 d.2.2.1.2.1 d.2.2.2.1.2.1 (fun (y0 : Int) (y1 : Int) (y2 : Bool) (y3 : Int) => K [.lf (.int .i64 y0)] [some ⟨false, [.full 1, .full 2, .int .i64 y1, .bool y2, .int .i64 y3]⟩, some ⟨false, [.seq .str 0 d.2.2.1.2.1]⟩, some ⟨false, [.seq (.pair (.int .i64) .str) 0 d.2.2.2.1.2.1]⟩]) (fun (y1 : Int) (y2 : Bool) (y3 : Int) (y4 : List ByteArray) (y6 : List (Int × ByteArray)) => K [.lf (.int .i64 0)] [some ⟨false, [.full 1, .full 3, .int .i64 y1, .bool y2, .int .i64 y3]⟩, some ⟨false, [.seq .str 0 y4]⟩, some ⟨false, [.seq (.pair (.int .i64) .str) 0 d.2.2.2.1.2.1]⟩, some ⟨false, [.seq (.pair (.int .i64) .str) 0 y6]⟩]) (fun (y0 : Int) (y1 : Int) (y2 : Bool) (y3 : Int) (y4 : List ByteArray) (y5 : List (Int × ByteArray)) => K [.lf (.int .i64 y0)] [some ⟨false, [.full 1, .full 3, .int .i64 y1, .bool y2, .int .i64 y3]⟩, some ⟨false, [.seq .str 0 y4]⟩, none, some ⟨false, [.seq (.pair (.int .i64) .str) 0 y5]⟩]) := by kernel_rfl
theorem E34_1 (F : Nat) (d : sh34_1.den) (K : KF) : evBody Tryd.prog (T34_1 F) (xw []) 25 3 (LT34_1 F) code34 Tryd.f34.results.toList (encT sh34_1.vs d.1) (encH sh34_1.h d.2) K = f34_1 F d.1.2.1.1 d.1.2.1.2.1 d.1.2.1.2.2.1 d.2.1.2.2.2.1 d.2.1.2.2.2.2.1 d.2.1.2.2.2.2.2.1 d.2.2.1.2.1 d.2.2.2.1.2.1 (fun (y0 : Int) (y1 : Int) (y2 : Bool) (y3 : Int) => K [.lf (.int .i64 y0)] [some ⟨false, [.full 1, .full 2, .int .i64 y1, .bool y2, .int .i64 y3]⟩, some ⟨false, [.seq .str 0 d.2.2.1.2.1]⟩, some ⟨false, [.seq (.pair (.int .i64) .str) 0 d.2.2.2.1.2.1]⟩]) (fun (y1 : Int) (y2 : Bool) (y3 : Int) (y4 : List ByteArray) (y6 : List (Int × ByteArray)) => K [.lf (.int .i64 0)] [some ⟨false, [.full 1, .full 3, .int .i64 y1, .bool y2, .int .i64 y3]⟩, some ⟨false, [.seq .str 0 y4]⟩, some ⟨false, [.seq (.pair (.int .i64) .str) 0 d.2.2.2.1.2.1]⟩, some ⟨false, [.seq (.pair (.int .i64) .str) 0 y6]⟩]) (fun (y0 : Int) (y1 : Int) (y2 : Bool) (y3 : Int) (y4 : List ByteArray) (y5 : List (Int × ByteArray)) => K [.lf (.int .i64 y0)] [some ⟨false, [.full 1, .full 3, .int .i64 y1, .bool y2, .int .i64 y3]⟩, some ⟨false, [.seq .str 0 y4]⟩, none, some ⟨false, [.seq (.pair (.int .i64) .str) 0 y5]⟩]) := Eq.mp (by kernel_rfl) (E34_1g F (f10_1 F) (f55_1 F) (f56_1 F) (f71_1 F)   d K)
theorem S34_1_ok (F : Nat) (o : Summ) (ho : SoundFn Tryd.prog 34 o) : SoundFn Tryd.prog 34 (S34_1 F o) :=
  soundFn_of (fn := Tryd.f34) (c := code34) rfl rfl (by kernel_rfl) (tab_cons (S10_1_ok F _ (noS_sound enter10)) (tab_cons (S55_1_ok F _ (noS_sound enter55)) (tab_cons (S56_1_ok F _ (noS_sound enter56)) (tab_cons (S71_1_ok F _ (noS_sound enter71)) tab_nil)))) (by kernel_rfl) (by kernel_rfl) ho (by rw [loops34]; exact loopsOK_nil) (by rw [scopes34]; exact scopesOK_nil) (by rw [ranges34]; exact rangesOK_nil) (E34_1 F)
end Go.Proofs.YtillbabmlfjegaaDoor.X
end

section
namespace Go.Proofs.YtillbabmlfjegaaDoor.X
open Go Go.Proofs.YtillbabmlfjegaaDoor.Ev Go.Proofs
set_option linter.unusedVariables false
set_option linter.unusedSectionVars false
/-! disk.Disk).Write -/
noncomputable def f55_1385 {β : Type} (F : Nat) (a1 : Int) (a2 : ByteArray) (K0 : Option β) : Option β := K0
variable [FZ]
def sh55_1385 : Sh := ⟨[.lf (.nilp), .lf (.int .i64), .lf (.str)], []⟩
noncomputable def S55_1385 (F : Nat) (o : Summ) : Summ := mkS sh55_1385 (fun d K => f55_1385 F d.1.2.1 d.1.2.2.1 (K [.lf (.int .i64 1)] [])) o
noncomputable def T55_1385 (F : Nat) : FuncId → Option Summ := tab []
noncomputable def LT55_1385 (F : Nat) : Nat → Option LoopS := ltab []
theorem E55_1385g (F : Nat)    (d : sh55_1385.den) (K : KF) : evBody Tryd.prog (tab []) (xw []) 40 0 (ltab []) code55 Tryd.f55.results.toList (encT sh55_1385.vs d.1) (encH sh55_1385.h d.2) K = (fun (a1 : Int) (a2 : ByteArray) (K0 : (Option Res)) => K0) d.1.2.1 d.1.2.2.1 (K [.lf (.int .i64 1)] []) := by kernel_rfl
theorem E55_1385 (F : Nat) (d : sh55_1385.den) (K : KF) : evBody Tryd.prog (T55_1385 F) (xw []) 40 0 (LT55_1385 F) code55 Tryd.f55.results.toList (encT sh55_1385.vs d.1) (encH sh55_1385.h d.2) K = f55_1385 F d.1.2.1 d.1.2.2.1 (K [.lf (.int .i64 1)] []) := Eq.mp (by kernel_rfl) (E55_1385g F    d K)
theorem S55_1385_ok (F : Nat) (o : Summ) (ho : SoundFn Tryd.prog 55 o) : SoundFn Tryd.prog 55 (S55_1385 F o) :=
  soundFn_of (fn := Tryd.f55) (c := code55) rfl rfl (by kernel_rfl) tab_nil (by kernel_rfl) (by kernel_rfl) ho (by rw [loops55]; exact loopsOK_nil) (by rw [scopes55]; exact scopesOK_nil) (by rw [ranges55]; exact rangesOK_nil) (E55_1385 F)
end Go.Proofs.YtillbabmlfjegaaDoor.X
end

section
namespace Go.Proofs.YtillbabmlfjegaaDoor.X
open Go Go.Proofs.YtillbabmlfjegaaDoor.Ev Go.Proofs
set_option linter.unusedVariables false
set_option linter.unusedSectionVars false
/-! dirty.Save -/
noncomputable def f34_2761 {β : Type} (F : Nat) (a1 : List Int) (a2 : List Int) (a3 : Int) (K0 : Int → Option β) : Option β := f71_1 F a1 a2 a3 (fun x1 => f10_1 F 5 x1 (fun x2 x3 => cond (x3 != 0) (K0 x3) (f55_1385 F 5 x2 (K0 1) )) ) 
variable [FZ]
def sh34_2761 : Sh := ⟨[.lf (.nilp), .agg [.seq (.int .u64) 2, .seq (.int .u64) 2, .int .u64]], []⟩
noncomputable def S34_2761 (F : Nat) (o : Summ) : Summ := mkS sh34_2761 (fun d K => f34_2761 F d.1.2.1.1 d.1.2.1.2.1 d.1.2.1.2.2.1 (fun (y0 : Int) => K [.lf (.int .i64 y0)] [])) o
noncomputable def T34_2761 (F : Nat) : FuncId → Option Summ := tab [(10, (S10_1 F noS)), (55, (S55_1385 F noS)), (71, (S71_1 F noS))]
noncomputable def LT34_2761 (F : Nat) : Nat → Option LoopS := ltab []
theorem E34_2761g (F : Nat) (c10_1 : Int → ByteArray → (ByteArray → Int → Option Res) → Option Res) (c55_1385 : Int → ByteArray → (Option Res) → Option Res) (c71_1 : List Int → List Int → Int → (ByteArray → Option Res) → Option Res)   (d : sh34_2761.den) (K : KF) : evBody Tryd.prog (tab [(10, (mkS sh10_1 (fun d K => c10_1 d.1.1 d.1.2.1 (fun (y0 : ByteArray) (y1 : Int) => K [.lf (.str y0), .lf (.int .i64 y1)] [])) noS)), (55, (mkS sh55_1385 (fun d K => c55_1385 d.1.2.1 d.1.2.2.1 (K [.lf (.int .i64 1)] [])) noS)), (71, (mkS sh71_1 (fun d K => c71_1 d.1.1.1 d.1.1.2.1 d.1.1.2.2.1 (fun (y0 : ByteArray) => K [.lf (.str y0)] [])) noS))]) (xw []) 25 0 (ltab []) code34 Tryd.f34.results.toList (encT sh34_2761.vs d.1) (encH sh34_2761.h d.2) K = (fun (a1 : List Int) (a2 : List Int) (a3 : Int) (K0 : (Int → Option Res)) => c71_1 a1 a2 a3 (fun x1 => c10_1 5 x1 (fun x2 x3 => cond (x3 != 0) (K0 x3) (c55_1385 5 x2 (K0 1) )) ) ) d.1.2.1.1 d.1.2.1.2.1 d.1.2.1.2.2.1 (fun (y0 : Int) => K [.lf (.int .i64 y0)] []) := by kernel_rfl
theorem E34_2761 (F : Nat) (d : sh34_2761.den) (K : KF) : evBody Tryd.prog (T34_2761 F) (xw []) 25 0 (LT34_2761 F) code34 Tryd.f34.results.toList (encT sh34_2761.vs d.1) (encH sh34_2761.h d.2) K = f34_2761 F d.1.2.1.1 d.1.2.1.2.1 d.1.2.1.2.2.1 (fun (y0 : Int) => K [.lf (.int .i64 y0)] []) := Eq.mp (by kernel_rfl) (E34_2761g F (f10_1 F) (f55_1385 F) (f71_1 F)   d K)
theorem S34_2761_ok (F : Nat) (o : Summ) (ho : SoundFn Tryd.prog 34 o) : SoundFn Tryd.prog 34 (S34_2761 F o) :=
  soundFn_of (fn := Tryd.f34) (c := code34) rfl rfl (by kernel_rfl) (tab_cons (S10_1_ok F _ (noS_sound enter10)) (tab_cons (S55_1385_ok F _ (noS_sound enter55)) (tab_cons (S71_1_ok F _ (noS_sound enter71)) tab_nil))) (by kernel_rfl) (by kernel_rfl) ho (by rw [loops34]; exact loopsOK_nil) (by rw [scopes34]; exact scopesOK_nil) (by rw [ranges34]; exact rangesOK_nil) (E34_2761 F)
end Go.Proofs.YtillbabmlfjegaaDoor.X
end

section
namespace Go.Proofs.YtillbabmlfjegaaDoor.X
open Go Go.Proofs.YtillbabmlfjegaaDoor.Ev Go.Proofs
set_option linter.unusedVariables false
set_option linter.unusedSectionVars false
/-! pentimentolaw11.given -/
noncomputable def f35_1 {β : Type} (F : Nat) (a1 : List Int) (a2 : List Int) (a3 : Int) (K0 : Option β) : Option β := K0
variable [FZ]
def sh35_1 : Sh := ⟨[.agg [.seq (.int .u64) 2, .seq (.int .u64) 2, .int .u64]], []⟩
noncomputable def S35_1 (F : Nat) (o : Summ) : Summ := mkS sh35_1 (fun d K => f35_1 F d.1.1.1 d.1.1.2.1 d.1.1.2.2.1 (K [.agg [.seq (.int .u64) 2 d.1.1.1, .seq (.int .u64) 2 d.1.1.2.1, .int .u64 d.1.1.2.2.1]] [])) o
noncomputable def code35 : Code := bodyOf Tryd.f35
theorem scopes35 : scopesOf code35 = [] := by kernel_rfl
theorem ranges35 : rangesOf code35 = [] := by kernel_rfl
theorem loops35 : loopsOf code35 = [] := by kernel_rfl
theorem enter35 : ∀ args w, (callFunc 35 args).run Tryd.prog w = .ok (.enter 35 args) w := enter_of (fn := Tryd.f35) (by kernel_rfl) (by kernel_rfl) (by kernel_rfl)
noncomputable def T35_1 (F : Nat) : FuncId → Option Summ := tab []
noncomputable def LT35_1 (F : Nat) : Nat → Option LoopS := ltab []
theorem E35_1g (F : Nat)    (d : sh35_1.den) (K : KF) : evBody Tryd.prog (tab []) (xw []) 10 0 (ltab []) code35 Tryd.f35.results.toList (encT sh35_1.vs d.1) (encH sh35_1.h d.2) K = (fun (a1 : List Int) (a2 : List Int) (a3 : Int) (K0 : (Option Res)) => K0) d.1.1.1 d.1.1.2.1 d.1.1.2.2.1 (K [.agg [.seq (.int .u64) 2 d.1.1.1, .seq (.int .u64) 2 d.1.1.2.1, .int .u64 d.1.1.2.2.1]] []) := by kernel_rfl
theorem E35_1 (F : Nat) (d : sh35_1.den) (K : KF) : evBody Tryd.prog (T35_1 F) (xw []) 10 0 (LT35_1 F) code35 Tryd.f35.results.toList (encT sh35_1.vs d.1) (encH sh35_1.h d.2) K = f35_1 F d.1.1.1 d.1.1.2.1 d.1.1.2.2.1 (K [.agg [.seq (.int .u64) 2 d.1.1.1, .seq (.int .u64) 2 d.1.1.2.1, .int .u64 d.1.1.2.2.1]] []) := Eq.mp (by kernel_rfl) (E35_1g F    d K)
theorem S35_1_ok (F : Nat) (o : Summ) (ho : SoundFn Tryd.prog 35 o) : SoundFn Tryd.prog 35 (S35_1 F o) :=
  soundFn_of (fn := Tryd.f35) (c := code35) rfl rfl (by kernel_rfl) tab_nil (by kernel_rfl) (by kernel_rfl) ho (by rw [loops35]; exact loopsOK_nil) (by rw [scopes35]; exact scopesOK_nil) (by rw [ranges35]; exact rangesOK_nil) (E35_1 F)
end Go.Proofs.YtillbabmlfjegaaDoor.X
end

section
/- strings.Trim: the contract of the kit, at this program. -/
namespace Go.Proofs.YtillbabmlfjegaaDoor.X
open Go Go.Proofs.YtillbabmlfjegaaDoor.Ev Go.Proofs Go.Shelf Go.RowKit
set_option linter.unusedVariables false
def trmRen : Go.Shelf.Ren := ⟨fun x => match x with | 160 => 44 | 232 => 85 | 231 => 84 | 227 => 86 | 234 => 88 | 233 => 87 | 236 => 90 | 235 => 89 | 228 => 114 | 271 => 117 | 151 => 116 | 197 => 115 | 120 => 127 | 152 => 126 | 260 => 125 | 137 => 129 | 119 => 130 | 224 => 131 | 225 => 132 | 217 => 133 | 266 => 134 | n => n, fun x => match x with | 9 => 9 | 4 => 4 | 3 => 3 | 5 => 5 | 117 => 137 | 116 => 136 | 0 => 0 | 124 => 140 | 21 => 21 | 105 => 162 | 46 => 121 | 119 => 173 | 139 => 176 | 138 => 175 | n => n, fun x => match x with | 3 => 1 | 4 => 2 | n => n⟩
theorem trmLays : Lays.n160 Tryd.prog trmRen where
  mixed := by kernel_rfl
  f119 := Tryd.func130.trans (congrArg some (by kernel_rfl))
  f120 := Tryd.func127.trans (congrArg some (by kernel_rfl))
  f137 := Tryd.func129.trans (congrArg some (by kernel_rfl))
  f151 := Tryd.func116.trans (congrArg some (by kernel_rfl))
  f152 := Tryd.func126.trans (congrArg some (by kernel_rfl))
  f160 := Tryd.func44.trans (congrArg some (by kernel_rfl))
  f197 := Tryd.func115.trans (congrArg some (by kernel_rfl))
  f217 := Tryd.func133.trans (congrArg some (by kernel_rfl))
  f224 := Tryd.func131.trans (congrArg some (by kernel_rfl))
  f225 := Tryd.func132.trans (congrArg some (by kernel_rfl))
  f227 := Tryd.func86.trans (congrArg some (by kernel_rfl))
  f228 := Tryd.func114.trans (congrArg some (by kernel_rfl))
  f231 := Tryd.func84.trans (congrArg some (by kernel_rfl))
  f232 := Tryd.func85.trans (congrArg some (by kernel_rfl))
  f233 := Tryd.func87.trans (congrArg some (by kernel_rfl))
  f234 := Tryd.func88.trans (congrArg some (by kernel_rfl))
  f235 := Tryd.func89.trans (congrArg some (by kernel_rfl))
  f236 := Tryd.func90.trans (congrArg some (by kernel_rfl))
  f260 := Tryd.func125.trans (congrArg some (by kernel_rfl))
  f266 := Tryd.func134.trans (congrArg some (by kernel_rfl))
  f271 := Tryd.func117.trans (congrArg some (by kernel_rfl))
  t0 := Tryd.underlying0
  a0 := Tryd.isAgg0
  z0 := Tryd.sizeOf0
  v0 := Tryd.zeroValue0
  t3 := Tryd.underlying3
  a3 := Tryd.isAgg3
  z3 := Tryd.sizeOf3
  v3 := Tryd.zeroValue3
  t4 := Tryd.underlying4
  a4 := Tryd.isAgg4
  z4 := Tryd.sizeOf4
  v4 := Tryd.zeroValue4
  t5 := Tryd.underlying5
  a5 := Tryd.isAgg5
  z5 := Tryd.sizeOf5
  v5 := Tryd.zeroValue5
  t9 := Tryd.underlying9
  a9 := Tryd.isAgg9
  z9 := Tryd.sizeOf9
  v9 := Tryd.zeroValue9
  t21 := Tryd.underlying21
  a21 := Tryd.isAgg21
  z21 := Tryd.sizeOf21
  v21 := Tryd.zeroValue21
  t46 := Tryd.underlying121
  a46 := Tryd.isAgg121
  z46 := Tryd.sizeOf121
  v46 := Tryd.zeroValue121
  t105 := Tryd.underlying162
  a105 := Tryd.isAgg162
  z105 := Tryd.sizeOf162
  v105 := Tryd.zeroValue162
  t116 := Tryd.underlying136
  a116 := Tryd.isAgg136
  z116 := Tryd.sizeOf136
  t117 := Tryd.underlying137
  a117 := Tryd.isAgg137
  z117 := Tryd.sizeOf137
  v117 := Tryd.zeroValue137
  t119 := Tryd.underlying173
  a119 := Tryd.isAgg173
  z119 := Tryd.sizeOf173
  t124 := Tryd.underlying140
  a124 := Tryd.isAgg140
  z124 := Tryd.sizeOf140
  v124 := Tryd.zeroValue140
  t138 := Tryd.underlying175
  a138 := Tryd.isAgg175
  z138 := Tryd.sizeOf175
  v138 := Tryd.zeroValue175
  t139 := Tryd.underlying176
  a139 := Tryd.isAgg176
  z139 := Tryd.sizeOf176
  v139 := Tryd.zeroValue176
  g3 := by kernel_rfl
  g4 := by kernel_rfl
end Go.Proofs.YtillbabmlfjegaaDoor.X
end

section
/- strings.Trim: its contract, as a typed function. -/
namespace Go.Proofs.YtillbabmlfjegaaDoor.X
open Go Go.Proofs.YtillbabmlfjegaaDoor.Ev Go.Proofs
set_option linter.unusedVariables false
set_option linter.unusedSimpArgs false
set_option linter.unusedSectionVars false
variable [FZ]

/-- A string without the bytes of a set at its ends. -/
noncomputable def trm (s cs : ByteArray) : ByteArray := ⟨(Lib.trimS s.data.toList cs.data.toList).toArray⟩
noncomputable def f44_1 {β : Type} (F : Nat) (a1 : ByteArray) (a2 : ByteArray) (K0 : ByteArray → Option β) : Option β :=
  cond (decide (a1.size ≤ 9223372036854775807 ∧ a2.size < 4294967281 ∧ a2.data.toList.all (fun b => decide (b.toNat < 128)) = true)) (K0 (trm a1 a2)) none
def sh44_1 : Sh := ⟨[.lf (.str), .lf (.str)], []⟩
noncomputable def S44_1 (F : Nat) (o : Summ) : Summ := mkS sh44_1 (fun d K => f44_1 F d.1.1 d.1.2.1 (fun (y0 : ByteArray) => K [.lf (.str y0)] [])) o
theorem enter44 : ∀ args w, (callFunc 44 args).run Tryd.prog w = .ok (.enter 44 args) w := enter_of (fn := Tryd.f44) (by kernel_rfl) (by kernel_rfl) (by kernel_rfl)
theorem trmNum : trmRen.f 160 = 44 := by kernel_rfl

theorem trmB {s cs : ByteArray} (h : s.size ≤ 9223372036854775807 ∧ cs.size < 4294967281 ∧ cs.data.toList.all (fun b => decide (b.toNat < 128)) = true) {K : KF} {r : Res} (he : K [.lf (.str (trm s cs))] [] = some r) :
    Contract Tryd.prog 44 [.lf (.str s), .lf (.str cs)] [] K r := by
  intro G m w cvs hw hgd hgh hi hx
  obtain ⟨v1, v2, rfl, h1, h2⟩ : ∃ v1 v2, cvs = [v1, v2] ∧ v1 = .string s ∧ v2 = .string cs := by
    match cvs, hx with
    | [v1, v2], ⟨h1, h2, _⟩ => exact ⟨v1, v2, rfl, h1, h2⟩
  subst h1 h2
  have := Any.strings_Trim_laid trmLays (by kernel_rfl) s cs w h.1 h.2.1 (ascii_of_all h.2.2)
  rw [trmNum] at this
  refine this.mono fun e w' ⟨h1, h2⟩ => ?_
  have hext : Ext w w' := ⟨⟨h2.os, h2.tape, h2.output⟩, h2.size, h2.block⟩
  exact ⟨_, _, he, _, [], h1, rfl, by rw [List.append_nil]; exact hi.ext hext⟩

theorem S44_1_ok (F : Nat) (o : Summ) (ho : SoundFn Tryd.prog 44 o) : SoundFn Tryd.prog 44 (S44_1 F o) := by
  refine ⟨ho.enter, fun vs h K r he => ?_⟩
  unfold S44_1 mkS at he
  split at he
  rotate_left
  · exact ho.ok vs h K r he
  rename_i dv dh ha hb'
  have e1 := decT_enc _ _ _ ha
  have e2 := decH_enc _ _ _ hb'
  obtain ⟨s, c, _⟩ := dv
  have e1 : vs = [.lf (.str s), .lf (.str c)] := e1
  have e2 : h = [] := e2
  subst e1
  subst e2
  have he : f44_1 F s c (fun (y0 : ByteArray) => K [.lf (.str y0)] []) = some r := he
  unfold f44_1 at he
  obtain ⟨h1, he⟩ := dec_of he
  exact trmB h1 he

end Go.Proofs.YtillbabmlfjegaaDoor.X
end

section
namespace Go.Proofs.YtillbabmlfjegaaDoor.X
open Go Go.Proofs.YtillbabmlfjegaaDoor.Ev Go.Proofs
set_option linter.unusedVariables false
set_option linter.unusedSectionVars false
/-! rec.Kind -/
noncomputable def f15_1 {β : Type} (F : Nat) (a1 : ByteArray) (K0 : Int → Int → Option β) : Option β := f43_1 F a1 (fun x1 => cond (!x1) (K0 0 4) (cond (decide ((0 : Int) ≤ (60 : Int) ∧ (60 : Int) ≤ (a1.size : Int) ∧ (a1.size : Int) ≤ (a1.size : Int))) (f39_1 F a1 (fun x2 => cond (!(x2.toList == (a1.extract 60 ((a1.size : Int).toNat)).toList)) (K0 0 9) (cond (decide ((0 : Int) ≤ (0 : Int) ∧ (0 : Int) < (a1.size : Int))) (cond (decide ((0 : Int) ≤ (1 : Int) ∧ (1 : Int) < (a1.size : Int))) (cond (decide (IntKind.i64.wrap ((a1.data.getD 0 0).toNat : Int) < 1)) (K0 0 6) (cond (decide (IntKind.i64.wrap ((a1.data.getD 0 0).toNat : Int) > 8)) (K0 0 6) (cond (decide (IntKind.i64.wrap ((a1.data.getD 1 0).toNat : Int) > 58)) (K0 0 6) (cond (decide ((0 : Int) ≤ IntKind.i64.wrap (2 + (IntKind.i64.wrap ((a1.data.getD 1 0).toNat : Int))) ∧ IntKind.i64.wrap (2 + (IntKind.i64.wrap ((a1.data.getD 1 0).toNat : Int))) ≤ (60 : Int) ∧ (60 : Int) ≤ (a1.size : Int))) (f44_1 F (a1.extract ((IntKind.i64.wrap (2 + (IntKind.i64.wrap ((a1.data.getD 1 0).toNat : Int)))).toNat) 60) (⟨#[0]⟩ : ByteArray) (fun x3 => cond (!(x3.toList == ByteArray.empty.toList)) (K0 0 6) (K0 (IntKind.i64.wrap ((a1.data.getD 0 0).toNat : Int)) 0)) ) none)))) none) none)) ) none)) 
variable [FZ]
def sh15_1 : Sh := ⟨[.lf (.str)], []⟩
noncomputable def S15_1 (F : Nat) (o : Summ) : Summ := mkS sh15_1 (fun d K => f15_1 F d.1.1 (fun (y0 : Int) (y1 : Int) => K [.lf (.int .i64 y0), .lf (.int .i64 y1)] [])) o
noncomputable def code15 : Code := bodyOf Tryd.f15
theorem scopes15 : scopesOf code15 = [] := by kernel_rfl
theorem ranges15 : rangesOf code15 = [] := by kernel_rfl
theorem loops15 : loopsOf code15 = [] := by kernel_rfl
theorem enter15 : ∀ args w, (callFunc 15 args).run Tryd.prog w = .ok (.enter 15 args) w := enter_of (fn := Tryd.f15) (by kernel_rfl) (by kernel_rfl) (by kernel_rfl)
noncomputable def T15_1 (F : Nat) : FuncId → Option Summ := tab [(39, (S39_1 F noS)), (43, (S43_1 F noS)), (44, (S44_1 F noS))]
noncomputable def LT15_1 (F : Nat) : Nat → Option LoopS := ltab []
theorem E15_1g (F : Nat) (c39_1 : ByteArray → (ByteArray → Option Res) → Option Res) (c43_1 : ByteArray → (Bool → Option Res) → Option Res) (c44_1 : ByteArray → ByteArray → (ByteArray → Option Res) → Option Res)   (d : sh15_1.den) (K : KF) : evBody Tryd.prog (tab [(39, (mkS sh39_1 (fun d K => c39_1 d.1.1 (fun (y0 : ByteArray) => K [.lf (.str y0)] [])) noS)), (43, (mkS sh43_1 (fun d K => c43_1 d.1.1 (fun (y0 : Bool) => K [.lf (.bool y0)] [])) noS)), (44, (mkS sh44_1 (fun d K => c44_1 d.1.1 d.1.2.1 (fun (y0 : ByteArray) => K [.lf (.str y0)] [])) noS))]) (xw []) 41 0 (ltab []) code15 Tryd.f15.results.toList (encT sh15_1.vs d.1) (encH sh15_1.h d.2) K = (fun (a1 : ByteArray) (K0 : (Int → Int → Option Res)) => c43_1 a1 (fun x1 => cond (!x1) (K0 0 4) (cond (decide ((0 : Int) ≤ (60 : Int) ∧ (60 : Int) ≤ (a1.size : Int) ∧ (a1.size : Int) ≤ (a1.size : Int))) (c39_1 a1 (fun x2 => cond (!(x2.toList == (a1.extract 60 ((a1.size : Int).toNat)).toList)) (K0 0 9) (cond (decide ((0 : Int) ≤ (0 : Int) ∧ (0 : Int) < (a1.size : Int))) (cond (decide ((0 : Int) ≤ (1 : Int) ∧ (1 : Int) < (a1.size : Int))) (cond (decide (IntKind.i64.wrap ((a1.data.getD 0 0).toNat : Int) < 1)) (K0 0 6) (cond (decide (IntKind.i64.wrap ((a1.data.getD 0 0).toNat : Int) > 8)) (K0 0 6) (cond (decide (IntKind.i64.wrap ((a1.data.getD 1 0).toNat : Int) > 58)) (K0 0 6) (cond (decide ((0 : Int) ≤ IntKind.i64.wrap (2 + (IntKind.i64.wrap ((a1.data.getD 1 0).toNat : Int))) ∧ IntKind.i64.wrap (2 + (IntKind.i64.wrap ((a1.data.getD 1 0).toNat : Int))) ≤ (60 : Int) ∧ (60 : Int) ≤ (a1.size : Int))) (c44_1 (a1.extract ((IntKind.i64.wrap (2 + (IntKind.i64.wrap ((a1.data.getD 1 0).toNat : Int)))).toNat) 60) (⟨#[0]⟩ : ByteArray) (fun x3 => cond (!(x3.toList == ByteArray.empty.toList)) (K0 0 6) (K0 (IntKind.i64.wrap ((a1.data.getD 0 0).toNat : Int)) 0)) ) none)))) none) none)) ) none)) ) d.1.1 (fun (y0 : Int) (y1 : Int) => K [.lf (.int .i64 y0), .lf (.int .i64 y1)] []) := by kernel_rfl
theorem E15_1 (F : Nat) (d : sh15_1.den) (K : KF) : evBody Tryd.prog (T15_1 F) (xw []) 41 0 (LT15_1 F) code15 Tryd.f15.results.toList (encT sh15_1.vs d.1) (encH sh15_1.h d.2) K = f15_1 F d.1.1 (fun (y0 : Int) (y1 : Int) => K [.lf (.int .i64 y0), .lf (.int .i64 y1)] []) := Eq.mp (by kernel_rfl) (E15_1g F (f39_1 F) (f43_1 F) (f44_1 F)   d K)
theorem S15_1_ok (F : Nat) (o : Summ) (ho : SoundFn Tryd.prog 15 o) : SoundFn Tryd.prog 15 (S15_1 F o) :=
  soundFn_of (fn := Tryd.f15) (c := code15) rfl rfl (by kernel_rfl) (tab_cons (S39_1_ok F _ (noS_sound enter39)) (tab_cons (S43_1_ok F _ (noS_sound enter43)) (tab_cons (S44_1_ok F _ (noS_sound enter44)) tab_nil))) (by kernel_rfl) (by kernel_rfl) ho (by rw [loops15]; exact loopsOK_nil) (by rw [scopes15]; exact scopesOK_nil) (by rw [ranges15]; exact rangesOK_nil) (E15_1 F)
end Go.Proofs.YtillbabmlfjegaaDoor.X
end

section
namespace Go.Proofs.YtillbabmlfjegaaDoor.X
open Go Go.Proofs.YtillbabmlfjegaaDoor.Ev Go.Proofs
set_option linter.unusedVariables false
set_option linter.unusedSectionVars false
/-! rec.Open -/
noncomputable def f13_1 {β : Type} (F : Nat) (a1 : Int) (a2 : ByteArray) (K0 : ByteArray → Int → Option β) : Option β := f15_1 F a2 (fun x1 x2 => cond (x2 != 0) (K0 ByteArray.empty x2) (cond (x1 != a1) (K0 ByteArray.empty 22) (cond (decide ((0 : Int) ≤ (1 : Int) ∧ (1 : Int) < (a2.size : Int))) (cond (decide ((0 : Int) ≤ (2 : Int) ∧ (2 : Int) ≤ IntKind.i64.wrap (2 + (IntKind.i64.wrap ((a2.data.getD 1 0).toNat : Int))) ∧ IntKind.i64.wrap (2 + (IntKind.i64.wrap ((a2.data.getD 1 0).toNat : Int))) ≤ (a2.size : Int))) (K0 (a2.extract 2 ((IntKind.i64.wrap (2 + (IntKind.i64.wrap ((a2.data.getD 1 0).toNat : Int)))).toNat)) 0) none) none))) 
variable [FZ]
def sh13_1 : Sh := ⟨[.lf (.int .i64), .lf (.str)], []⟩
noncomputable def S13_1 (F : Nat) (o : Summ) : Summ := mkS sh13_1 (fun d K => f13_1 F d.1.1 d.1.2.1 (fun (y0 : ByteArray) (y1 : Int) => K [.lf (.str y0), .lf (.int .i64 y1)] [])) o
noncomputable def code13 : Code := bodyOf Tryd.f13
theorem scopes13 : scopesOf code13 = [] := by kernel_rfl
theorem ranges13 : rangesOf code13 = [] := by kernel_rfl
theorem loops13 : loopsOf code13 = [] := by kernel_rfl
theorem enter13 : ∀ args w, (callFunc 13 args).run Tryd.prog w = .ok (.enter 13 args) w := enter_of (fn := Tryd.f13) (by kernel_rfl) (by kernel_rfl) (by kernel_rfl)
noncomputable def T13_1 (F : Nat) : FuncId → Option Summ := tab [(15, (S15_1 F noS))]
noncomputable def LT13_1 (F : Nat) : Nat → Option LoopS := ltab []
theorem E13_1g (F : Nat) (c15_1 : ByteArray → (Int → Int → Option Res) → Option Res)   (d : sh13_1.den) (K : KF) : evBody Tryd.prog (tab [(15, (mkS sh15_1 (fun d K => c15_1 d.1.1 (fun (y0 : Int) (y1 : Int) => K [.lf (.int .i64 y0), .lf (.int .i64 y1)] [])) noS))]) (xw []) 27 0 (ltab []) code13 Tryd.f13.results.toList (encT sh13_1.vs d.1) (encH sh13_1.h d.2) K = (fun (a1 : Int) (a2 : ByteArray) (K0 : (ByteArray → Int → Option Res)) => c15_1 a2 (fun x1 x2 => cond (x2 != 0) (K0 ByteArray.empty x2) (cond (x1 != a1) (K0 ByteArray.empty 22) (cond (decide ((0 : Int) ≤ (1 : Int) ∧ (1 : Int) < (a2.size : Int))) (cond (decide ((0 : Int) ≤ (2 : Int) ∧ (2 : Int) ≤ IntKind.i64.wrap (2 + (IntKind.i64.wrap ((a2.data.getD 1 0).toNat : Int))) ∧ IntKind.i64.wrap (2 + (IntKind.i64.wrap ((a2.data.getD 1 0).toNat : Int))) ≤ (a2.size : Int))) (K0 (a2.extract 2 ((IntKind.i64.wrap (2 + (IntKind.i64.wrap ((a2.data.getD 1 0).toNat : Int)))).toNat)) 0) none) none))) ) d.1.1 d.1.2.1 (fun (y0 : ByteArray) (y1 : Int) => K [.lf (.str y0), .lf (.int .i64 y1)] []) := by kernel_rfl
theorem E13_1 (F : Nat) (d : sh13_1.den) (K : KF) : evBody Tryd.prog (T13_1 F) (xw []) 27 0 (LT13_1 F) code13 Tryd.f13.results.toList (encT sh13_1.vs d.1) (encH sh13_1.h d.2) K = f13_1 F d.1.1 d.1.2.1 (fun (y0 : ByteArray) (y1 : Int) => K [.lf (.str y0), .lf (.int .i64 y1)] []) := Eq.mp (by kernel_rfl) (E13_1g F (f15_1 F)   d K)
theorem S13_1_ok (F : Nat) (o : Summ) (ho : SoundFn Tryd.prog 13 o) : SoundFn Tryd.prog 13 (S13_1 F o) :=
  soundFn_of (fn := Tryd.f13) (c := code13) rfl rfl (by kernel_rfl) (tab_cons (S15_1_ok F _ (noS_sound enter15)) tab_nil) (by kernel_rfl) (by kernel_rfl) ho (by rw [loops13]; exact loopsOK_nil) (by rw [scopes13]; exact scopesOK_nil) (by rw [ranges13]; exact rangesOK_nil) (E13_1 F)
end Go.Proofs.YtillbabmlfjegaaDoor.X
end

section
namespace Go.Proofs.YtillbabmlfjegaaDoor.X
open Go Go.Proofs.YtillbabmlfjegaaDoor.Ev Go.Proofs
set_option linter.unusedVariables false
set_option linter.unusedSectionVars false
/-! api.Put] -/
noncomputable def f104_1 {β : Type} (F : Nat) (a1 : List (Int × ByteArray)) (K0 : Option β) : Option β := K0
variable [FZ]
def sh104_1 : Sh := ⟨[.lf (.full 0)], [some ⟨none, [.seq (.pair (.int .i64) .str) 0]⟩]⟩
noncomputable def S104_1 (F : Nat) (o : Summ) : Summ := mkS sh104_1 (fun d K => f104_1 F d.2.1.2.1 (K [.lf (.clo 121 [1])] [some ⟨d.2.1.1, [.seq (.pair (.int .i64) .str) 0 d.2.1.2.1]⟩, some ⟨false, [.full 0]⟩])) o
noncomputable def code104 : Code := bodyOf Tryd.f104
theorem scopes104 : scopesOf code104 = [] := by kernel_rfl
theorem ranges104 : rangesOf code104 = [] := by kernel_rfl
theorem loops104 : loopsOf code104 = [] := by kernel_rfl
theorem enter104 : ∀ args w, (callFunc 104 args).run Tryd.prog w = .ok (.enter 104 args) w := enter_of (fn := Tryd.f104) (by kernel_rfl) (by kernel_rfl) (by kernel_rfl)
noncomputable def T104_1 (F : Nat) : FuncId → Option Summ := tab []
noncomputable def LT104_1 (F : Nat) : Nat → Option LoopS := ltab []
theorem E104_1g (F : Nat)    (d : sh104_1.den) (K : KF) : evBody Tryd.prog (tab []) (xw []) 4 1 (ltab []) code104 Tryd.f104.results.toList (encT sh104_1.vs d.1) (encH sh104_1.h d.2) K = (fun (a1 : List (Int × ByteArray)) (K0 : (Option Res)) => K0) d.2.1.2.1 (K [.lf (.clo 121 [1])] [some ⟨d.2.1.1, [.seq (.pair (.int .i64) .str) 0 d.2.1.2.1]⟩, some ⟨false, [.full 0]⟩]) := by kernel_rfl
theorem E104_1 (F : Nat) (d : sh104_1.den) (K : KF) : evBody Tryd.prog (T104_1 F) (xw []) 4 1 (LT104_1 F) code104 Tryd.f104.results.toList (encT sh104_1.vs d.1) (encH sh104_1.h d.2) K = f104_1 F d.2.1.2.1 (K [.lf (.clo 121 [1])] [some ⟨d.2.1.1, [.seq (.pair (.int .i64) .str) 0 d.2.1.2.1]⟩, some ⟨false, [.full 0]⟩]) := Eq.mp (by kernel_rfl) (E104_1g F    d K)
theorem S104_1_ok (F : Nat) (o : Summ) (ho : SoundFn Tryd.prog 104 o) : SoundFn Tryd.prog 104 (S104_1 F o) :=
  soundFn_of (fn := Tryd.f104) (c := code104) rfl rfl (by kernel_rfl) tab_nil (by kernel_rfl) (by kernel_rfl) ho (by rw [loops104]; exact loopsOK_nil) (by rw [scopes104]; exact scopesOK_nil) (by rw [ranges104]; exact rangesOK_nil) (E104_1 F)
end Go.Proofs.YtillbabmlfjegaaDoor.X
end

section
namespace Go.Proofs.YtillbabmlfjegaaDoor.X
open Go Go.Proofs.YtillbabmlfjegaaDoor.Ev Go.Proofs
set_option linter.unusedVariables false
set_option linter.unusedSectionVars false
/-! disk.Disk).Kept -/
noncomputable def f30_1 {β : Type} (F : Nat) (a1 : Int) (a2 : Int) (a3 : Bool) (a4 : Int) (a5 : List ByteArray) (a6 : List (Int × ByteArray)) (K0 : ByteArray → Int → Option β) : Option β := f65_1 F a1 a2 a3 a4 a5 a6 (fun x1 => cond (!x1) (K0 ByteArray.empty 3) (cond (decide ((0 : Int) ≤ a1 ∧ a1 < ((a5.length : Nat) : Int))) (cond (decide (0 + a1.toNat < a5.length)) (K0 (a5.getD (0 + a1.toNat) ByteArray.empty) 0) none) none)) 
variable [FZ]
def sh30_1 : Sh := ⟨[.lf (.ptr 0 0), .lf (.int .i64)], [some ⟨none, [.full 1, .full 2, .int .i64, .bool, .int .i64]⟩, some ⟨none, [.seq .str 0]⟩, some ⟨none, [.seq (.pair (.int .i64) .str) 0]⟩]⟩
noncomputable def S30_1 (F : Nat) (o : Summ) : Summ := mkS sh30_1 (fun d K => f30_1 F d.1.2.1 d.2.1.2.2.2.1 d.2.1.2.2.2.2.1 d.2.1.2.2.2.2.2.1 d.2.2.1.2.1 d.2.2.2.1.2.1 (fun (y0 : ByteArray) (y1 : Int) => K [.lf (.str y0), .lf (.int .i64 y1)] [some ⟨d.2.1.1, [.full 1, .full 2, .int .i64 d.2.1.2.2.2.1, .bool d.2.1.2.2.2.2.1, .int .i64 d.2.1.2.2.2.2.2.1]⟩, some ⟨d.2.2.1.1, [.seq .str 0 d.2.2.1.2.1]⟩, some ⟨d.2.2.2.1.1, [.seq (.pair (.int .i64) .str) 0 d.2.2.2.1.2.1]⟩])) o
noncomputable def code30 : Code := bodyOf Tryd.f30
theorem scopes30 : scopesOf code30 = [] := by kernel_rfl
theorem ranges30 : rangesOf code30 = [] := by kernel_rfl
theorem loops30 : loopsOf code30 = [] := by kernel_rfl
theorem enter30 : ∀ args w, (callFunc 30 args).run Tryd.prog w = .ok (.enter 30 args) w := enter_of (fn := Tryd.f30) (by kernel_rfl) (by kernel_rfl) (by kernel_rfl)
noncomputable def T30_1 (F : Nat) : FuncId → Option Summ := tab [(65, (S65_1 F noS))]
noncomputable def LT30_1 (F : Nat) : Nat → Option LoopS := ltab []
theorem E30_1g (F : Nat) (c65_1 : Int → Int → Bool → Int → List ByteArray → List (Int × ByteArray) → (Bool → Option Res) → Option Res)   (d : sh30_1.den) (K : KF) : evBody Tryd.prog (tab [(65, (mkS sh65_1 (fun d K => c65_1 d.1.2.1 d.2.1.2.2.2.1 d.2.1.2.2.2.2.1 d.2.1.2.2.2.2.2.1 d.2.2.1.2.1 d.2.2.2.1.2.1 (fun (y0 : Bool) => K [.lf (.bool y0)] [some ⟨d.2.1.1, [.full 1, .full 2, .int .i64 d.2.1.2.2.2.1, .bool d.2.1.2.2.2.2.1, .int .i64 d.2.1.2.2.2.2.2.1]⟩, some ⟨d.2.2.1.1, [.seq .str 0 d.2.2.1.2.1]⟩, some ⟨d.2.2.2.1.1, [.seq (.pair (.int .i64) .str) 0 d.2.2.2.1.2.1]⟩])) noS))]) (xw []) 21 3 (ltab []) code30 Tryd.f30.results.toList (encT sh30_1.vs d.1) (encH sh30_1.h d.2) K = (fun (a1 : Int) (a2 : Int) (a3 : Bool) (a4 : Int) (a5 : List ByteArray) (a6 : List (Int × ByteArray)) (K0 : (ByteArray → Int → Option Res)) => c65_1 a1 a2 a3 a4 a5 a6 (fun x1 => cond (!x1) (K0 ByteArray.empty 3) (cond (decide ((0 : Int) ≤ a1 ∧ a1 < ((a5.length : Nat) : Int))) (cond (decide (0 + a1.toNat < a5.length)) (K0 (a5.getD (0 + a1.toNat) ByteArray.empty) 0) none) none)) ) d.1.2.1 d.2.1.2.2.2.1 d.2.1.2.2.2.2.1 d.2.1.2.2.2.2.2.1 d.2.2.1.2.1 d.2.2.2.1.2.1 (fun (y0 : ByteArray) (y1 : Int) => K [.lf (.str y0), .lf (.int .i64 y1)] [some ⟨d.2.1.1, [.full 1, .full 2, .int .i64 d.2.1.2.2.2.1, .bool d.2.1.2.2.2.2.1, .int .i64 d.2.1.2.2.2.2.2.1]⟩, some ⟨d.2.2.1.1, [.seq .str 0 d.2.2.1.2.1]⟩, some ⟨d.2.2.2.1.1, [.seq (.pair (.int .i64) .str) 0 d.2.2.2.1.2.1]⟩]) := by kernel_rfl
theorem E30_1 (F : Nat) (d : sh30_1.den) (K : KF) : evBody Tryd.prog (T30_1 F) (xw []) 21 3 (LT30_1 F) code30 Tryd.f30.results.toList (encT sh30_1.vs d.1) (encH sh30_1.h d.2) K = f30_1 F d.1.2.1 d.2.1.2.2.2.1 d.2.1.2.2.2.2.1 d.2.1.2.2.2.2.2.1 d.2.2.1.2.1 d.2.2.2.1.2.1 (fun (y0 : ByteArray) (y1 : Int) => K [.lf (.str y0), .lf (.int .i64 y1)] [some ⟨d.2.1.1, [.full 1, .full 2, .int .i64 d.2.1.2.2.2.1, .bool d.2.1.2.2.2.2.1, .int .i64 d.2.1.2.2.2.2.2.1]⟩, some ⟨d.2.2.1.1, [.seq .str 0 d.2.2.1.2.1]⟩, some ⟨d.2.2.2.1.1, [.seq (.pair (.int .i64) .str) 0 d.2.2.2.1.2.1]⟩]) := Eq.mp (by kernel_rfl) (E30_1g F (f65_1 F)   d K)
theorem S30_1_ok (F : Nat) (o : Summ) (ho : SoundFn Tryd.prog 30 o) : SoundFn Tryd.prog 30 (S30_1 F o) :=
  soundFn_of (fn := Tryd.f30) (c := code30) rfl rfl (by kernel_rfl) (tab_cons (S65_1_ok F _ (noS_sound enter65)) tab_nil) (by kernel_rfl) (by kernel_rfl) ho (by rw [loops30]; exact loopsOK_nil) (by rw [scopes30]; exact scopesOK_nil) (by rw [ranges30]; exact rangesOK_nil) (E30_1 F)
end Go.Proofs.YtillbabmlfjegaaDoor.X
end

section
namespace Go.Proofs.YtillbabmlfjegaaDoor.X
open Go Go.Proofs.YtillbabmlfjegaaDoor.Ev Go.Proofs
set_option linter.unusedVariables false
set_option linter.unusedSectionVars false
/-! disk.Disk).Read -/
noncomputable def f72_1_r2000006_l1 {β : Type} (F : Nat) (v10 : Int) (v11 : Bool) (v12 : Int) (v13 : List ByteArray) (v14 : List (Int × ByteArray)) (v15 : Int) (v16 : ByteArray) (v17 : Int) (K0 : ByteArray → Int → ByteArray → Option β) (K1 : Option β) : Nat → Int → Option β
  | 0, _ => none
  | k + 1, v9 => cond (decide (v9 ≥ 0)) (cond (decide ((0 : Int) ≤ v9 ∧ v9 < ((v14.length : Nat) : Int))) (cond (decide (0 + v9.toNat < v14.length)) (cond (((v14.getD (0 + v9.toNat) (0, ByteArray.empty)).1) == v15) (K0 ((v14.getD (0 + v9.toNat) (0, ByteArray.empty)).2) ((v14.getD (0 + v9.toNat) (0, ByteArray.empty)).1) ((v14.getD (0 + v9.toNat) (0, ByteArray.empty)).2)) (f72_1_r2000006_l1 F v10 v11 v12 v13 v14 v15 v16 v17 K0 K1 k (IntKind.i64.wrap (v9 - 1)))) none) none) (K1)
noncomputable def f72_1_r2000006 {β : Type} (F : Nat) (v1 : Int) (v2 : Bool) (v3 : Int) (v4 : List ByteArray) (v5 : List (Int × ByteArray)) (v6 : Int) (v7 : ByteArray) (v8 : Int) (K0 : ByteArray → Int → ByteArray → Option β) (K1 : Option β) : Option β := f72_1_r2000006_l1 F v1 v2 v3 v4 v5 v6 v7 v8 (fun x18 x19 x20 => K0 x18 x19 x20) (K1) F (IntKind.i64.wrap (((v5.length : Nat) : Int) - 1))
noncomputable def f72_1 {β : Type} (F : Nat) (a1 : Int) (a2 : Int) (a3 : Bool) (a4 : Int) (a5 : List ByteArray) (a6 : List (Int × ByteArray)) (K0 : ByteArray → Int → Option β) : Option β := cond a3 (K0 ByteArray.empty 5) (f104_1 F a6 (f72_1_r2000006 F a2 a3 a4 a5 a6 a1 ByteArray.empty 0 (fun x21 x22 x23 => K0 x21 0) (f30_1 F a1 a2 a3 a4 a5 a6 (fun x24 x25 => K0 x24 x25) ) ) )
variable [FZ]
def sh72_1 : Sh := ⟨[.lf (.ptr 0 0), .lf (.int .i64)], [some ⟨none, [.full 1, .full 2, .int .i64, .bool, .int .i64]⟩, some ⟨none, [.seq .str 0]⟩, some ⟨none, [.seq (.pair (.int .i64) .str) 0]⟩]⟩
noncomputable def S72_1 (F : Nat) (o : Summ) : Summ := mkS sh72_1 (fun d K => f72_1 F d.1.2.1 d.2.1.2.2.2.1 d.2.1.2.2.2.2.1 d.2.1.2.2.2.2.2.1 d.2.2.1.2.1 d.2.2.2.1.2.1 (fun (y0 : ByteArray) (y1 : Int) => K [.lf (.str y0), .lf (.int .i64 y1)] [some ⟨d.2.1.1, [.full 1, .full 2, .int .i64 d.2.1.2.2.2.1, .bool d.2.1.2.2.2.2.1, .int .i64 d.2.1.2.2.2.2.2.1]⟩, some ⟨d.2.2.1.1, [.seq .str 0 d.2.2.1.2.1]⟩, some ⟨d.2.2.2.1.1, [.seq (.pair (.int .i64) .str) 0 d.2.2.2.1.2.1]⟩])) o
noncomputable def code72 : Code := bodyOf Tryd.f72
noncomputable def rg72_0 : Code := cB (cR (cL (cR (cR (code72)))))
theorem scopes72 : scopesOf code72 = [] := by kernel_rfl
theorem ranges72 : rangesOf code72 = [.rangeFunc (rgG rg72_0) (rgP rg72_0) (rgX rg72_0) (rgY rg72_0)] := by kernel_rfl
theorem loops72 : loopsOf code72 = [] := by kernel_rfl
theorem enter72 : ∀ args w, (callFunc 72 args).run Tryd.prog w = .ok (.enter 72 args) w := enter_of (fn := Tryd.f72) (by kernel_rfl) (by kernel_rfl) (by kernel_rfl)
noncomputable def T72_1 (F : Nat) : FuncId → Option Summ := tab [(30, (S30_1 F noS)), (104, (S104_1 F noS))]
def sh72_1_l2000006 : Sh := ⟨[.lf (.ptr 0 0), .lf (.ptr 3 0), .lf (.ptr 4 0), .lf (.ptr 5 0), .lf (.clo 121 [6])], [some ⟨none, [.full 1, .full 2, .int .i64, .bool, .int .i64]⟩, some ⟨none, [.seq .str 0]⟩, some ⟨none, [.seq (.pair (.int .i64) .str) 0]⟩, some ⟨some false, [.int .i64]⟩, some ⟨some false, [.str]⟩, some ⟨some false, [.int .i64]⟩, some ⟨some false, [.full 2]⟩]⟩
noncomputable def G72_1_2000006 (F k : Nat) : LoopS := mkG sh72_1_l2000006 [0, 3, 4, 5, 20] (outT [(.normal, [0, 3, 4, 5]), (.ret, [4, 5])]) (fun d K => f72_1_r2000006 F d.2.1.2.2.2.1 d.2.1.2.2.2.2.1 d.2.1.2.2.2.2.2.1 d.2.2.1.2.1 d.2.2.2.1.2.1 d.2.2.2.2.1.2.1 d.2.2.2.2.2.1.2.1 d.2.2.2.2.2.2.1.2.1 (fun (y6 : ByteArray) (y8 : Int) (y9 : ByteArray) => K .ret [.tv (.lf (.ptr 4 0)), .tv (.lf (.ptr 5 0))] [some ⟨d.2.1.1, [.full 1, .full 2, .int .i64 d.2.1.2.2.2.1, .bool d.2.1.2.2.2.2.1, .int .i64 d.2.1.2.2.2.2.2.1]⟩, some ⟨d.2.2.1.1, [.seq .str 0 d.2.2.1.2.1]⟩, some ⟨d.2.2.2.1.1, [.seq (.pair (.int .i64) .str) 0 d.2.2.2.1.2.1]⟩, some ⟨false, [.int .i64 d.2.2.2.2.1.2.1]⟩, some ⟨false, [.str y6]⟩, some ⟨false, [.int .i64 0]⟩, some ⟨false, [.full 2]⟩, none, none, none, none, some ⟨false, [.int .i64 y8, .str y9]⟩]) (K .normal [.tv (.lf (.ptr 0 0)), .tv (.lf (.ptr 3 0)), .tv (.lf (.ptr 4 0)), .tv (.lf (.ptr 5 0))] [some ⟨d.2.1.1, [.full 1, .full 2, .int .i64 d.2.1.2.2.2.1, .bool d.2.1.2.2.2.2.1, .int .i64 d.2.1.2.2.2.2.2.1]⟩, some ⟨d.2.2.1.1, [.seq .str 0 d.2.2.1.2.1]⟩, some ⟨d.2.2.2.1.1, [.seq (.pair (.int .i64) .str) 0 d.2.2.2.1.2.1]⟩, some ⟨false, [.int .i64 d.2.2.2.2.1.2.1]⟩, some ⟨false, [.str d.2.2.2.2.2.1.2.1]⟩, some ⟨false, [.int .i64 d.2.2.2.2.2.2.1.2.1]⟩, some ⟨false, [.full 2]⟩, none, none, none, none])) []
noncomputable def LT72_1 (F : Nat) : Nat → Option LoopS := ltab [(2000006, G72_1_2000006 F F)]
noncomputable def ic72_1_2000006 : Code := bodyOf Tryd.f121
noncomputable def ic72_1_2000006_b0 : Code := cB (cB (cR (ic72_1_2000006)))
theorem ic72_1_2000006_loops : loopsOf ic72_1_2000006 = [ic72_1_2000006_b0] := by kernel_rfl
theorem ic72_1_2000006_scopes : scopesOf ic72_1_2000006 = [] := by kernel_rfl
def sh72_1_r2000006_l1 : Sh := ⟨[.lf (.yld 7), .lf (.ptr 6 0), .lf (.int .i64)], [some ⟨none, [.full 1, .full 2, .int .i64, .bool, .int .i64]⟩, some ⟨none, [.seq .str 0]⟩, some ⟨none, [.seq (.pair (.int .i64) .str) 0]⟩, some ⟨some false, [.int .i64]⟩, some ⟨some false, [.str]⟩, some ⟨some false, [.int .i64]⟩, some ⟨some false, [.full 2]⟩, some ⟨some false, []⟩, none, none, some ⟨some false, []⟩]⟩
noncomputable def GI72_1_2000006_1 (F : Nat) (d : sh72_1_l2000006.den) (k : Nat) : LoopS := mkG sh72_1_r2000006_l1 [0, 1, 3] (outT [(.exit 0, []), (.ret, [])]) (fun e K => f72_1_r2000006_l1 F e.2.1.2.2.2.1 e.2.1.2.2.2.2.1 e.2.1.2.2.2.2.2.1 e.2.2.1.2.1 e.2.2.2.1.2.1 e.2.2.2.2.1.2.1 e.2.2.2.2.2.1.2.1 e.2.2.2.2.2.2.1.2.1 (fun (y6 : ByteArray) (y8 : Int) (y9 : ByteArray) => K .ret [] [some ⟨e.2.1.1, [.full 1, .full 2, .int .i64 e.2.1.2.2.2.1, .bool e.2.1.2.2.2.2.1, .int .i64 e.2.1.2.2.2.2.2.1]⟩, some ⟨e.2.2.1.1, [.seq .str 0 e.2.2.1.2.1]⟩, some ⟨e.2.2.2.1.1, [.seq (.pair (.int .i64) .str) 0 e.2.2.2.1.2.1]⟩, some ⟨false, [.int .i64 e.2.2.2.2.1.2.1]⟩, some ⟨false, [.str y6]⟩, some ⟨false, [.int .i64 0]⟩, some ⟨false, [.full 2]⟩, none, none, some ⟨false, []⟩, some ⟨false, []⟩, some ⟨false, [.int .i64 y8, .str y9]⟩]) (K (.exit 0) [] [some ⟨e.2.1.1, [.full 1, .full 2, .int .i64 e.2.1.2.2.2.1, .bool e.2.1.2.2.2.2.1, .int .i64 e.2.1.2.2.2.2.2.1]⟩, some ⟨e.2.2.1.1, [.seq .str 0 e.2.2.1.2.1]⟩, some ⟨e.2.2.2.1.1, [.seq (.pair (.int .i64) .str) 0 e.2.2.2.1.2.1]⟩, some ⟨false, [.int .i64 e.2.2.2.2.1.2.1]⟩, some ⟨false, [.str e.2.2.2.2.2.1.2.1]⟩, some ⟨false, [.int .i64 e.2.2.2.2.2.2.1.2.1]⟩, some ⟨false, [.full 2]⟩, some ⟨false, []⟩, none, none, some ⟨false, []⟩]) k e.1.2.2.1) []
noncomputable def it72_1_2000006 (F : Nat) (d : sh72_1_l2000006.den) : Nat → Option LoopS := ltab [(1, GI72_1_2000006_1 F d F)]
theorem L72_1_r2000006_l1g (F k : Nat) (d : sh72_1_l2000006.den) (c30_1 : Int → Int → Bool → Int → List ByteArray → List (Int × ByteArray) → (ByteArray → Int → Option Res) → Option Res) (c104_1 : List (Int × ByteArray) → (Option Res) → Option Res)  (l1 : Int → Bool → Int → List ByteArray → List (Int × ByteArray) → Int → ByteArray → Int → (ByteArray → Int → ByteArray → Option Res) → (Option Res) → Nat → Int → Option Res) (X1 : LoopS) (e : sh72_1_r2000006_l1.den) (K : KL) : (fun (v10 : Int) (v11 : Bool) (v12 : Int) (v13 : List ByteArray) (v14 : List (Int × ByteArray)) (v15 : Int) (v16 : ByteArray) (v17 : Int) (K0 : (ByteArray → Int → ByteArray → Option Res)) (K1 : (Option Res)) (k : Nat) (v9 : Int) => cond (decide (v9 ≥ 0)) (cond (decide ((0 : Int) ≤ v9 ∧ v9 < ((v14.length : Nat) : Int))) (cond (decide (0 + v9.toNat < v14.length)) (cond (((v14.getD (0 + v9.toNat) (0, ByteArray.empty)).1) == v15) (K0 ((v14.getD (0 + v9.toNat) (0, ByteArray.empty)).2) ((v14.getD (0 + v9.toNat) (0, ByteArray.empty)).1) ((v14.getD (0 + v9.toNat) (0, ByteArray.empty)).2)) (l1 v10 v11 v12 v13 v14 v15 v16 v17 K0 K1 k (IntKind.i64.wrap (v9 - 1)))) none) none) (K1)) e.2.1.2.2.2.1 e.2.1.2.2.2.2.1 e.2.1.2.2.2.2.2.1 e.2.2.1.2.1 e.2.2.2.1.2.1 e.2.2.2.2.1.2.1 e.2.2.2.2.2.1.2.1 e.2.2.2.2.2.2.1.2.1 (fun (y6 : ByteArray) (y8 : Int) (y9 : ByteArray) => K .ret [] [some ⟨e.2.1.1, [.full 1, .full 2, .int .i64 e.2.1.2.2.2.1, .bool e.2.1.2.2.2.2.1, .int .i64 e.2.1.2.2.2.2.2.1]⟩, some ⟨e.2.2.1.1, [.seq .str 0 e.2.2.1.2.1]⟩, some ⟨e.2.2.2.1.1, [.seq (.pair (.int .i64) .str) 0 e.2.2.2.1.2.1]⟩, some ⟨false, [.int .i64 e.2.2.2.2.1.2.1]⟩, some ⟨false, [.str y6]⟩, some ⟨false, [.int .i64 0]⟩, some ⟨false, [.full 2]⟩, none, none, some ⟨false, []⟩, some ⟨false, []⟩, some ⟨false, [.int .i64 y8, .str y9]⟩]) (K (.exit 0) [] [some ⟨e.2.1.1, [.full 1, .full 2, .int .i64 e.2.1.2.2.2.1, .bool e.2.1.2.2.2.2.1, .int .i64 e.2.1.2.2.2.2.2.1]⟩, some ⟨e.2.2.1.1, [.seq .str 0 e.2.2.1.2.1]⟩, some ⟨e.2.2.2.1.1, [.seq (.pair (.int .i64) .str) 0 e.2.2.2.1.2.1]⟩, some ⟨false, [.int .i64 e.2.2.2.2.1.2.1]⟩, some ⟨false, [.str e.2.2.2.2.2.1.2.1]⟩, some ⟨false, [.int .i64 e.2.2.2.2.2.2.1.2.1]⟩, some ⟨false, [.full 2]⟩, some ⟨false, []⟩, none, none, some ⟨false, []⟩]) k e.1.2.2.1 = roundOf Tryd.prog (tab [(30, (mkS sh30_1 (fun d K => c30_1 d.1.2.1 d.2.1.2.2.2.1 d.2.1.2.2.2.2.1 d.2.1.2.2.2.2.2.1 d.2.2.1.2.1 d.2.2.2.1.2.1 (fun (y0 : ByteArray) (y1 : Int) => K [.lf (.str y0), .lf (.int .i64 y1)] [some ⟨d.2.1.1, [.full 1, .full 2, .int .i64 d.2.1.2.2.2.1, .bool d.2.1.2.2.2.2.1, .int .i64 d.2.1.2.2.2.2.2.1]⟩, some ⟨d.2.2.1.1, [.seq .str 0 d.2.2.1.2.1]⟩, some ⟨d.2.2.2.1.1, [.seq (.pair (.int .i64) .str) 0 d.2.2.2.1.2.1]⟩])) noS)), (104, (mkS sh104_1 (fun d K => c104_1 d.2.1.2.1 (K [.lf (.clo 121 [1])] [some ⟨d.2.1.1, [.seq (.pair (.int .i64) .str) 0 d.2.1.2.1]⟩, some ⟨false, [.full 0]⟩])) noS))]) ⟨[], false, some (yieldOf Tryd.prog (tab [(30, (mkS sh30_1 (fun d K => c30_1 d.1.2.1 d.2.1.2.2.2.1 d.2.1.2.2.2.2.1 d.2.1.2.2.2.2.2.1 d.2.2.1.2.1 d.2.2.2.1.2.1 (fun (y0 : ByteArray) (y1 : Int) => K [.lf (.str y0), .lf (.int .i64 y1)] [some ⟨d.2.1.1, [.full 1, .full 2, .int .i64 d.2.1.2.2.2.1, .bool d.2.1.2.2.2.2.1, .int .i64 d.2.1.2.2.2.2.2.1]⟩, some ⟨d.2.2.1.1, [.seq .str 0 d.2.2.1.2.1]⟩, some ⟨d.2.2.2.1.1, [.seq (.pair (.int .i64) .str) 0 d.2.2.2.1.2.1]⟩])) noS)), (104, (mkS sh104_1 (fun d K => c104_1 d.2.1.2.1 (K [.lf (.clo 121 [1])] [some ⟨d.2.1.1, [.seq (.pair (.int .i64) .str) 0 d.2.1.2.1]⟩, some ⟨false, [.full 0]⟩])) noS))]) [] 34 noLT (mkEnv 34 [0, 3, 4, 5, 20] (avsOf (encT sh72_1_l2000006.vs d.1))) (rgP rg72_0).toList (rgX rg72_0) (rgY rg72_0) .ret 7)⟩ 19 11 (ltab [(1, X1)]) (mkG sh72_1_r2000006_l1 [0, 1, 3] (outT [(.exit 0, []), (.ret, [])]) (fun e K => l1 e.2.1.2.2.2.1 e.2.1.2.2.2.2.1 e.2.1.2.2.2.2.2.1 e.2.2.1.2.1 e.2.2.2.1.2.1 e.2.2.2.2.1.2.1 e.2.2.2.2.2.1.2.1 e.2.2.2.2.2.2.1.2.1 (fun (y6 : ByteArray) (y8 : Int) (y9 : ByteArray) => K .ret [] [some ⟨e.2.1.1, [.full 1, .full 2, .int .i64 e.2.1.2.2.2.1, .bool e.2.1.2.2.2.2.1, .int .i64 e.2.1.2.2.2.2.2.1]⟩, some ⟨e.2.2.1.1, [.seq .str 0 e.2.2.1.2.1]⟩, some ⟨e.2.2.2.1.1, [.seq (.pair (.int .i64) .str) 0 e.2.2.2.1.2.1]⟩, some ⟨false, [.int .i64 e.2.2.2.2.1.2.1]⟩, some ⟨false, [.str y6]⟩, some ⟨false, [.int .i64 0]⟩, some ⟨false, [.full 2]⟩, none, none, some ⟨false, []⟩, some ⟨false, []⟩, some ⟨false, [.int .i64 y8, .str y9]⟩]) (K (.exit 0) [] [some ⟨e.2.1.1, [.full 1, .full 2, .int .i64 e.2.1.2.2.2.1, .bool e.2.1.2.2.2.2.1, .int .i64 e.2.1.2.2.2.2.2.1]⟩, some ⟨e.2.2.1.1, [.seq .str 0 e.2.2.1.2.1]⟩, some ⟨e.2.2.2.1.1, [.seq (.pair (.int .i64) .str) 0 e.2.2.2.1.2.1]⟩, some ⟨false, [.int .i64 e.2.2.2.2.1.2.1]⟩, some ⟨false, [.str e.2.2.2.2.2.1.2.1]⟩, some ⟨false, [.int .i64 e.2.2.2.2.2.2.1.2.1]⟩, some ⟨false, [.full 2]⟩, some ⟨false, []⟩, none, none, some ⟨false, []⟩]) k e.1.2.2.1) []) ic72_1_2000006_b0 (encT sh72_1_r2000006_l1.vs e.1) (encH sh72_1_r2000006_l1.h e.2) K := by kernel_rfl
theorem LI72_1_2000006_1 (F : Nat) (d : sh72_1_l2000006.den) : LoopOK Tryd.prog (T72_1 F) ⟨[], false, some (yieldOf Tryd.prog (T72_1 F) [] 34 noLT (mkEnv 34 [0, 3, 4, 5, 20] (avsOf (encT sh72_1_l2000006.vs d.1))) (rgP rg72_0).toList (rgX rg72_0) (rgY rg72_0) .ret 7)⟩ 19 11 (it72_1_2000006 F d) (GI72_1_2000006_1 F d F) ic72_1_2000006_b0 :=
  loopOK_of (s := sh72_1_r2000006_l1) (live := [0, 1, 3]) (out := (outT [(.exit 0, []), (.ret, [])])) (mv := []) (fun k e K => f72_1_r2000006_l1 F e.2.1.2.2.2.1 e.2.1.2.2.2.2.1 e.2.1.2.2.2.2.2.1 e.2.2.1.2.1 e.2.2.2.1.2.1 e.2.2.2.2.1.2.1 e.2.2.2.2.2.1.2.1 e.2.2.2.2.2.2.1.2.1 (fun (y6 : ByteArray) (y8 : Int) (y9 : ByteArray) => K .ret [] [some ⟨e.2.1.1, [.full 1, .full 2, .int .i64 e.2.1.2.2.2.1, .bool e.2.1.2.2.2.2.1, .int .i64 e.2.1.2.2.2.2.2.1]⟩, some ⟨e.2.2.1.1, [.seq .str 0 e.2.2.1.2.1]⟩, some ⟨e.2.2.2.1.1, [.seq (.pair (.int .i64) .str) 0 e.2.2.2.1.2.1]⟩, some ⟨false, [.int .i64 e.2.2.2.2.1.2.1]⟩, some ⟨false, [.str y6]⟩, some ⟨false, [.int .i64 0]⟩, some ⟨false, [.full 2]⟩, none, none, some ⟨false, []⟩, some ⟨false, []⟩, some ⟨false, [.int .i64 y8, .str y9]⟩]) (K (.exit 0) [] [some ⟨e.2.1.1, [.full 1, .full 2, .int .i64 e.2.1.2.2.2.1, .bool e.2.1.2.2.2.2.1, .int .i64 e.2.1.2.2.2.2.2.1]⟩, some ⟨e.2.2.1.1, [.seq .str 0 e.2.2.1.2.1]⟩, some ⟨e.2.2.2.1.1, [.seq (.pair (.int .i64) .str) 0 e.2.2.2.1.2.1]⟩, some ⟨false, [.int .i64 e.2.2.2.2.1.2.1]⟩, some ⟨false, [.str e.2.2.2.2.2.1.2.1]⟩, some ⟨false, [.int .i64 e.2.2.2.2.2.2.1.2.1]⟩, some ⟨false, [.full 2]⟩, some ⟨false, []⟩, none, none, some ⟨false, []⟩]) k e.1.2.2.1) F (fun e K => by kernel_rfl) (fun k e K => Eq.mp (by kernel_rfl) (L72_1_r2000006_l1g F k d (f30_1 F) (f104_1 F)  (f72_1_r2000006_l1 F) (GI72_1_2000006_1 F d F) e K))
theorem R72_1_2000006g (F : Nat) (c30_1 : Int → Int → Bool → Int → List ByteArray → List (Int × ByteArray) → (ByteArray → Int → Option Res) → Option Res) (c104_1 : List (Int × ByteArray) → (Option Res) → Option Res) (l1 : Int → Bool → Int → List ByteArray → List (Int × ByteArray) → Int → ByteArray → Int → (ByteArray → Int → ByteArray → Option Res) → (Option Res) → Nat → Int → Option Res)  (d : sh72_1_l2000006.den) (K : KL) : (fun (v1 : Int) (v2 : Bool) (v3 : Int) (v4 : List ByteArray) (v5 : List (Int × ByteArray)) (v6 : Int) (v7 : ByteArray) (v8 : Int) (K0 : (ByteArray → Int → ByteArray → Option Res)) (K1 : (Option Res)) => l1 v1 v2 v3 v4 v5 v6 v7 v8 (fun x18 x19 x20 => K0 x18 x19 x20) (K1) F (IntKind.i64.wrap (((v5.length : Nat) : Int) - 1))) d.2.1.2.2.2.1 d.2.1.2.2.2.2.1 d.2.1.2.2.2.2.2.1 d.2.2.1.2.1 d.2.2.2.1.2.1 d.2.2.2.2.1.2.1 d.2.2.2.2.2.1.2.1 d.2.2.2.2.2.2.1.2.1 (fun (y6 : ByteArray) (y8 : Int) (y9 : ByteArray) => K .ret [.tv (.lf (.ptr 4 0)), .tv (.lf (.ptr 5 0))] [some ⟨d.2.1.1, [.full 1, .full 2, .int .i64 d.2.1.2.2.2.1, .bool d.2.1.2.2.2.2.1, .int .i64 d.2.1.2.2.2.2.2.1]⟩, some ⟨d.2.2.1.1, [.seq .str 0 d.2.2.1.2.1]⟩, some ⟨d.2.2.2.1.1, [.seq (.pair (.int .i64) .str) 0 d.2.2.2.1.2.1]⟩, some ⟨false, [.int .i64 d.2.2.2.2.1.2.1]⟩, some ⟨false, [.str y6]⟩, some ⟨false, [.int .i64 0]⟩, some ⟨false, [.full 2]⟩, none, none, none, none, some ⟨false, [.int .i64 y8, .str y9]⟩]) (K .normal [.tv (.lf (.ptr 0 0)), .tv (.lf (.ptr 3 0)), .tv (.lf (.ptr 4 0)), .tv (.lf (.ptr 5 0))] [some ⟨d.2.1.1, [.full 1, .full 2, .int .i64 d.2.1.2.2.2.1, .bool d.2.1.2.2.2.2.1, .int .i64 d.2.1.2.2.2.2.2.1]⟩, some ⟨d.2.2.1.1, [.seq .str 0 d.2.2.1.2.1]⟩, some ⟨d.2.2.2.1.1, [.seq (.pair (.int .i64) .str) 0 d.2.2.2.1.2.1]⟩, some ⟨false, [.int .i64 d.2.2.2.2.1.2.1]⟩, some ⟨false, [.str d.2.2.2.2.2.1.2.1]⟩, some ⟨false, [.int .i64 d.2.2.2.2.2.2.1.2.1]⟩, some ⟨false, [.full 2]⟩, none, none, none, none]) = rangeOf Tryd.prog (tab [(30, (mkS sh30_1 (fun d K => c30_1 d.1.2.1 d.2.1.2.2.2.1 d.2.1.2.2.2.2.1 d.2.1.2.2.2.2.2.1 d.2.2.1.2.1 d.2.2.2.1.2.1 (fun (y0 : ByteArray) (y1 : Int) => K [.lf (.str y0), .lf (.int .i64 y1)] [some ⟨d.2.1.1, [.full 1, .full 2, .int .i64 d.2.1.2.2.2.1, .bool d.2.1.2.2.2.2.1, .int .i64 d.2.1.2.2.2.2.2.1]⟩, some ⟨d.2.2.1.1, [.seq .str 0 d.2.2.1.2.1]⟩, some ⟨d.2.2.2.1.1, [.seq (.pair (.int .i64) .str) 0 d.2.2.2.1.2.1]⟩])) noS)), (104, (mkS sh104_1 (fun d K => c104_1 d.2.1.2.1 (K [.lf (.clo 121 [1])] [some ⟨d.2.1.1, [.seq (.pair (.int .i64) .str) 0 d.2.1.2.1]⟩, some ⟨false, [.full 0]⟩])) noS))]) (xw []) 34 (mkG sh72_1_l2000006 [0, 3, 4, 5, 20] (outT [(.normal, [0, 3, 4, 5]), (.ret, [4, 5])]) (fun d K => none)) (rgG rg72_0) (rgP rg72_0).toList (rgX rg72_0) (rgY rg72_0) ⟨121, ic72_1_2000006, 19, (ltab [(1, mkG sh72_1_r2000006_l1 [0, 1, 3] (outT [(.exit 0, []), (.ret, [])]) (fun e K => l1 e.2.1.2.2.2.1 e.2.1.2.2.2.2.1 e.2.1.2.2.2.2.2.1 e.2.2.1.2.1 e.2.2.2.1.2.1 e.2.2.2.2.1.2.1 e.2.2.2.2.2.1.2.1 e.2.2.2.2.2.2.1.2.1 (fun (y6 : ByteArray) (y8 : Int) (y9 : ByteArray) => K .ret [] [some ⟨e.2.1.1, [.full 1, .full 2, .int .i64 e.2.1.2.2.2.1, .bool e.2.1.2.2.2.2.1, .int .i64 e.2.1.2.2.2.2.2.1]⟩, some ⟨e.2.2.1.1, [.seq .str 0 e.2.2.1.2.1]⟩, some ⟨e.2.2.2.1.1, [.seq (.pair (.int .i64) .str) 0 e.2.2.2.1.2.1]⟩, some ⟨false, [.int .i64 e.2.2.2.2.1.2.1]⟩, some ⟨false, [.str y6]⟩, some ⟨false, [.int .i64 0]⟩, some ⟨false, [.full 2]⟩, none, none, some ⟨false, []⟩, some ⟨false, []⟩, some ⟨false, [.int .i64 y8, .str y9]⟩]) (K (.exit 0) [] [some ⟨e.2.1.1, [.full 1, .full 2, .int .i64 e.2.1.2.2.2.1, .bool e.2.1.2.2.2.2.1, .int .i64 e.2.1.2.2.2.2.2.1]⟩, some ⟨e.2.2.1.1, [.seq .str 0 e.2.2.1.2.1]⟩, some ⟨e.2.2.2.1.1, [.seq (.pair (.int .i64) .str) 0 e.2.2.2.1.2.1]⟩, some ⟨false, [.int .i64 e.2.2.2.2.1.2.1]⟩, some ⟨false, [.str e.2.2.2.2.2.1.2.1]⟩, some ⟨false, [.int .i64 e.2.2.2.2.2.2.1.2.1]⟩, some ⟨false, [.full 2]⟩, some ⟨false, []⟩, none, none, some ⟨false, []⟩]) F e.1.2.2.1) [])]), []⟩ noLT .ret (encT sh72_1_l2000006.vs d.1) (encH sh72_1_l2000006.h d.2) K := by kernel_rfl
theorem R72_1_2000006 (F : Nat) : RangeOK Tryd.prog (xw []) 34 3 (G72_1_2000006 F F) (.rangeFunc (rgG rg72_0) (rgP rg72_0) (rgX rg72_0) (rgY rg72_0)) :=
  rangeOK_of (X := (xw [])) (jump := .ret) (fun h => by cases h) rfl rfl (by kernel_rfl) (tab_cons (S30_1_ok F _ (noS_sound enter30)) (tab_cons (S104_1_ok F _ (noS_sound enter104)) tab_nil)) (s := sh72_1_l2000006) (live := [0, 3, 4, 5, 20]) (out := (outT [(.normal, [0, 3, 4, 5]), (.ret, [4, 5])])) (fun d K => f72_1_r2000006 F d.2.1.2.2.2.1 d.2.1.2.2.2.2.1 d.2.1.2.2.2.2.2.1 d.2.2.1.2.1 d.2.2.2.1.2.1 d.2.2.2.2.1.2.1 d.2.2.2.2.2.1.2.1 d.2.2.2.2.2.2.1.2.1 (fun (y6 : ByteArray) (y8 : Int) (y9 : ByteArray) => K .ret [.tv (.lf (.ptr 4 0)), .tv (.lf (.ptr 5 0))] [some ⟨d.2.1.1, [.full 1, .full 2, .int .i64 d.2.1.2.2.2.1, .bool d.2.1.2.2.2.2.1, .int .i64 d.2.1.2.2.2.2.2.1]⟩, some ⟨d.2.2.1.1, [.seq .str 0 d.2.2.1.2.1]⟩, some ⟨d.2.2.2.1.1, [.seq (.pair (.int .i64) .str) 0 d.2.2.2.1.2.1]⟩, some ⟨false, [.int .i64 d.2.2.2.2.1.2.1]⟩, some ⟨false, [.str y6]⟩, some ⟨false, [.int .i64 0]⟩, some ⟨false, [.full 2]⟩, none, none, none, none, some ⟨false, [.int .i64 y8, .str y9]⟩]) (K .normal [.tv (.lf (.ptr 0 0)), .tv (.lf (.ptr 3 0)), .tv (.lf (.ptr 4 0)), .tv (.lf (.ptr 5 0))] [some ⟨d.2.1.1, [.full 1, .full 2, .int .i64 d.2.1.2.2.2.1, .bool d.2.1.2.2.2.2.1, .int .i64 d.2.1.2.2.2.2.2.1]⟩, some ⟨d.2.2.1.1, [.seq .str 0 d.2.2.1.2.1]⟩, some ⟨d.2.2.2.1.1, [.seq (.pair (.int .i64) .str) 0 d.2.2.2.1.2.1]⟩, some ⟨false, [.int .i64 d.2.2.2.2.1.2.1]⟩, some ⟨false, [.str d.2.2.2.2.2.1.2.1]⟩, some ⟨false, [.int .i64 d.2.2.2.2.2.2.1.2.1]⟩, some ⟨false, [.full 2]⟩, none, none, none, none])) (it72_1_2000006 F) (f := 121) (fn := Tryd.f121) (c := ic72_1_2000006) (wrI := []) (enter_of (fn := Tryd.f121) (by kernel_rfl) (by kernel_rfl) (by kernel_rfl)) (by kernel_rfl) (by kernel_rfl) (by kernel_rfl) (fun d K => Eq.mp (by kernel_rfl) (R72_1_2000006g F (f30_1 F) (f104_1 F) (f72_1_r2000006_l1 F)  d K)) (fun d => by rw [ic72_1_2000006_loops]; exact (loopsOK_cons (by kernel_rfl) (LI72_1_2000006_1 F d) loopsOK_nil)) (fun d => by rw [ic72_1_2000006_scopes]; exact scopesOK_nil) (by kernel_rfl)
theorem E72_1g (F : Nat) (c30_1 : Int → Int → Bool → Int → List ByteArray → List (Int × ByteArray) → (ByteArray → Int → Option Res) → Option Res) (c104_1 : List (Int × ByteArray) → (Option Res) → Option Res) (l2000006 : Int → Bool → Int → List ByteArray → List (Int × ByteArray) → Int → ByteArray → Int → (ByteArray → Int → ByteArray → Option Res) → (Option Res) → Option Res)  (d : sh72_1.den) (K : KF) : evBody Tryd.prog (tab [(30, (mkS sh30_1 (fun d K => c30_1 d.1.2.1 d.2.1.2.2.2.1 d.2.1.2.2.2.2.1 d.2.1.2.2.2.2.2.1 d.2.2.1.2.1 d.2.2.2.1.2.1 (fun (y0 : ByteArray) (y1 : Int) => K [.lf (.str y0), .lf (.int .i64 y1)] [some ⟨d.2.1.1, [.full 1, .full 2, .int .i64 d.2.1.2.2.2.1, .bool d.2.1.2.2.2.2.1, .int .i64 d.2.1.2.2.2.2.2.1]⟩, some ⟨d.2.2.1.1, [.seq .str 0 d.2.2.1.2.1]⟩, some ⟨d.2.2.2.1.1, [.seq (.pair (.int .i64) .str) 0 d.2.2.2.1.2.1]⟩])) noS)), (104, (mkS sh104_1 (fun d K => c104_1 d.2.1.2.1 (K [.lf (.clo 121 [1])] [some ⟨d.2.1.1, [.seq (.pair (.int .i64) .str) 0 d.2.1.2.1]⟩, some ⟨false, [.full 0]⟩])) noS))]) (xw []) 34 3 (ltab [(2000006, mkG sh72_1_l2000006 [0, 3, 4, 5, 20] (outT [(.normal, [0, 3, 4, 5]), (.ret, [4, 5])]) (fun d K => l2000006 d.2.1.2.2.2.1 d.2.1.2.2.2.2.1 d.2.1.2.2.2.2.2.1 d.2.2.1.2.1 d.2.2.2.1.2.1 d.2.2.2.2.1.2.1 d.2.2.2.2.2.1.2.1 d.2.2.2.2.2.2.1.2.1 (fun (y6 : ByteArray) (y8 : Int) (y9 : ByteArray) => K .ret [.tv (.lf (.ptr 4 0)), .tv (.lf (.ptr 5 0))] [some ⟨d.2.1.1, [.full 1, .full 2, .int .i64 d.2.1.2.2.2.1, .bool d.2.1.2.2.2.2.1, .int .i64 d.2.1.2.2.2.2.2.1]⟩, some ⟨d.2.2.1.1, [.seq .str 0 d.2.2.1.2.1]⟩, some ⟨d.2.2.2.1.1, [.seq (.pair (.int .i64) .str) 0 d.2.2.2.1.2.1]⟩, some ⟨false, [.int .i64 d.2.2.2.2.1.2.1]⟩, some ⟨false, [.str y6]⟩, some ⟨false, [.int .i64 0]⟩, some ⟨false, [.full 2]⟩, none, none, none, none, some ⟨false, [.int .i64 y8, .str y9]⟩]) (K .normal [.tv (.lf (.ptr 0 0)), .tv (.lf (.ptr 3 0)), .tv (.lf (.ptr 4 0)), .tv (.lf (.ptr 5 0))] [some ⟨d.2.1.1, [.full 1, .full 2, .int .i64 d.2.1.2.2.2.1, .bool d.2.1.2.2.2.2.1, .int .i64 d.2.1.2.2.2.2.2.1]⟩, some ⟨d.2.2.1.1, [.seq .str 0 d.2.2.1.2.1]⟩, some ⟨d.2.2.2.1.1, [.seq (.pair (.int .i64) .str) 0 d.2.2.2.1.2.1]⟩, some ⟨false, [.int .i64 d.2.2.2.2.1.2.1]⟩, some ⟨false, [.str d.2.2.2.2.2.1.2.1]⟩, some ⟨false, [.int .i64 d.2.2.2.2.2.2.1.2.1]⟩, some ⟨false, [.full 2]⟩, none, none, none, none])) [])]) code72 Tryd.f72.results.toList (encT sh72_1.vs d.1) (encH sh72_1.h d.2) K = (fun (a1 : Int) (a2 : Int) (a3 : Bool) (a4 : Int) (a5 : List ByteArray) (a6 : List (Int × ByteArray)) (K0 : (ByteArray → Int → Option Res)) => cond a3 (K0 ByteArray.empty 5) (c104_1 a6 (l2000006 a2 a3 a4 a5 a6 a1 ByteArray.empty 0 (fun x21 x22 x23 => K0 x21 0) (c30_1 a1 a2 a3 a4 a5 a6 (fun x24 x25 => K0 x24 x25) ) ) )) d.1.2.1 d.2.1.2.2.2.1 d.2.1.2.2.2.2.1 d.2.1.2.2.2.2.2.1 d.2.2.1.2.1 d.2.2.2.1.2.1 (fun (y0 : ByteArray) (y1 : Int) => K [.lf (.str y0), .lf (.int .i64 y1)] [some ⟨d.2.1.1, [.full 1, .full 2, .int .i64 d.2.1.2.2.2.1, .bool d.2.1.2.2.2.2.1, .int .i64 d.2.1.2.2.2.2.2.1]⟩, some ⟨d.2.2.1.1, [.seq .str 0 d.2.2.1.2.1]⟩, some ⟨d.2.2.2.1.1, [.seq (.pair (.int .i64) .str) 0 d.2.2.2.1.2.1]⟩]) := by kernel_rfl
theorem E72_1 (F : Nat) (d : sh72_1.den) (K : KF) : evBody Tryd.prog (T72_1 F) (xw []) 34 3 (LT72_1 F) code72 Tryd.f72.results.toList (encT sh72_1.vs d.1) (encH sh72_1.h d.2) K = f72_1 F d.1.2.1 d.2.1.2.2.2.1 d.2.1.2.2.2.2.1 d.2.1.2.2.2.2.2.1 d.2.2.1.2.1 d.2.2.2.1.2.1 (fun (y0 : ByteArray) (y1 : Int) => K [.lf (.str y0), .lf (.int .i64 y1)] [some ⟨d.2.1.1, [.full 1, .full 2, .int .i64 d.2.1.2.2.2.1, .bool d.2.1.2.2.2.2.1, .int .i64 d.2.1.2.2.2.2.2.1]⟩, some ⟨d.2.2.1.1, [.seq .str 0 d.2.2.1.2.1]⟩, some ⟨d.2.2.2.1.1, [.seq (.pair (.int .i64) .str) 0 d.2.2.2.1.2.1]⟩]) := Eq.mp (by kernel_rfl) (E72_1g F (f30_1 F) (f104_1 F) (f72_1_r2000006 F)  d K)
theorem S72_1_ok (F : Nat) (o : Summ) (ho : SoundFn Tryd.prog 72 o) : SoundFn Tryd.prog 72 (S72_1 F o) :=
  soundFn_of (fn := Tryd.f72) (c := code72) rfl rfl (by kernel_rfl) (tab_cons (S30_1_ok F _ (noS_sound enter30)) (tab_cons (S104_1_ok F _ (noS_sound enter104)) tab_nil)) (by kernel_rfl) (by kernel_rfl) ho (by rw [loops72]; exact loopsOK_nil) (by rw [scopes72]; exact scopesOK_nil) (by rw [ranges72]; exact (rangesOK_cons (by kernel_rfl) (R72_1_2000006 F) rangesOK_nil)) (E72_1 F)
end Go.Proofs.YtillbabmlfjegaaDoor.X
end

section
namespace Go.Proofs.YtillbabmlfjegaaDoor.X
open Go Go.Proofs.YtillbabmlfjegaaDoor.Ev Go.Proofs
set_option linter.unusedVariables false
set_option linter.unusedSectionVars false
/-! word.New -/
noncomputable def f49_1 {β : Type} (F : Nat) (a1 : List Int) (K0 : List Int → Option β) : Option β := cond (decide ((0 + a1.length) * 1 ≤ 70368744177664)) (K0 ([] ++ a1)) none
variable [FZ]
def sh49_1 : Sh := ⟨[.lf (.full 0)], [some ⟨none, [.seq (.int .u8) 0]⟩]⟩
noncomputable def S49_1 (F : Nat) (o : Summ) : Summ := mkS sh49_1 (fun d K => f49_1 F d.2.1.2.1 (fun (y2 : List Int) => K [.lf (.ptr 1 0)] [some ⟨d.2.1.1, [.seq (.int .u8) 0 d.2.1.2.1]⟩, some ⟨false, [.full 2, .int .i64 0]⟩, some ⟨false, [.seq (.int .u8) 0 y2]⟩])) o
noncomputable def code49 : Code := bodyOf Tryd.f49
theorem scopes49 : scopesOf code49 = [] := by kernel_rfl
theorem ranges49 : rangesOf code49 = [] := by kernel_rfl
theorem loops49 : loopsOf code49 = [] := by kernel_rfl
theorem enter49 : ∀ args w, (callFunc 49 args).run Tryd.prog w = .ok (.enter 49 args) w := enter_of (fn := Tryd.f49) (by kernel_rfl) (by kernel_rfl) (by kernel_rfl)
noncomputable def T49_1 (F : Nat) : FuncId → Option Summ := tab []
noncomputable def LT49_1 (F : Nat) : Nat → Option LoopS := ltab []
theorem E49_1g (F : Nat)    (d : sh49_1.den) (K : KF) : evBody Tryd.prog (tab []) (xw []) 8 1 (ltab []) code49 Tryd.f49.results.toList (encT sh49_1.vs d.1) (encH sh49_1.h d.2) K = (fun (a1 : List Int) (K0 : (List Int → Option Res)) => cond (decide ((0 + a1.length) * 1 ≤ 70368744177664)) (K0 ([] ++ a1)) none) d.2.1.2.1 (fun (y2 : List Int) => K [.lf (.ptr 1 0)] [some ⟨d.2.1.1, [.seq (.int .u8) 0 d.2.1.2.1]⟩, some ⟨false, [.full 2, .int .i64 0]⟩, some ⟨false, [.seq (.int .u8) 0 y2]⟩]) := by kernel_rfl
theorem E49_1 (F : Nat) (d : sh49_1.den) (K : KF) : evBody Tryd.prog (T49_1 F) (xw []) 8 1 (LT49_1 F) code49 Tryd.f49.results.toList (encT sh49_1.vs d.1) (encH sh49_1.h d.2) K = f49_1 F d.2.1.2.1 (fun (y2 : List Int) => K [.lf (.ptr 1 0)] [some ⟨d.2.1.1, [.seq (.int .u8) 0 d.2.1.2.1]⟩, some ⟨false, [.full 2, .int .i64 0]⟩, some ⟨false, [.seq (.int .u8) 0 y2]⟩]) := Eq.mp (by kernel_rfl) (E49_1g F    d K)
theorem S49_1_ok (F : Nat) (o : Summ) (ho : SoundFn Tryd.prog 49 o) : SoundFn Tryd.prog 49 (S49_1 F o) :=
  soundFn_of (fn := Tryd.f49) (c := code49) rfl rfl (by kernel_rfl) tab_nil (by kernel_rfl) (by kernel_rfl) ho (by rw [loops49]; exact loopsOK_nil) (by rw [scopes49]; exact scopesOK_nil) (by rw [ranges49]; exact rangesOK_nil) (E49_1 F)
end Go.Proofs.YtillbabmlfjegaaDoor.X
end

section
namespace Go.Proofs.YtillbabmlfjegaaDoor.X
open Go Go.Proofs.YtillbabmlfjegaaDoor.Ev Go.Proofs
set_option linter.unusedVariables false
set_option linter.unusedSectionVars false
/-! word.Get -/
noncomputable def f93_1_l7 {β : Type} (F : Nat) (v3 : Nat) (v4 : Nat) (v5 : Int) (v7 : List Int) (K0 : Int → Option β) : Nat → Int → Int → Option β
  | 0, _, _ => none
  | k + 1, v2, v6 => cond (decide (v6 < v5)) (cond (decide ((0 : Int) ≤ v6 ∧ v6 < ((v4 : Nat) : Int))) (cond (decide (v3 + v6.toNat < v7.length)) (f93_1_l7 F v3 v4 v5 v7 K0 k (ior .u64 (ishl .u64 v2 8) (IntKind.u64.wrap (v7.getD (v3 + v6.toNat) 0))) (IntKind.i64.wrap (v6 + 1))) none) none) (K0 v2)
noncomputable def f93_1 {β : Type} (F : Nat) (a1 : Int) (a2 : Int) (a3 : List Int) (K0 : Int → Int → Option β) : Option β := f92_1 F a2 (fun x1 => cond (!x1) (K0 0 2) (cond (decide (a1 < 0)) (K0 0 2) (cond (decide (a1 > ((a3.length : Nat) : Int))) (K0 0 7) (cond (decide (IntKind.i64.wrap (((a3.length : Nat) : Int) - a1) < a2)) (K0 0 7) (cond (decide ((0 : Int) ≤ a1 ∧ a1 ≤ IntKind.i64.wrap (a1 + a2) ∧ IntKind.i64.wrap (a1 + a2) ≤ ((a3.length : Nat) : Int))) (f93_1_l7 F (0 + a1.toNat) ((IntKind.i64.wrap (a1 + a2) - a1).toNat) (((IntKind.i64.wrap (a1 + a2) - a1).toNat : Nat) : Int) a3 (fun x8 => K0 x8 0) F 0 0) none))))) 
variable [FZ]
def sh93_1 : Sh := ⟨[.lf (.full 0), .lf (.int .i64), .lf (.int .i64)], [some ⟨none, [.seq (.int .u8) 0]⟩]⟩
noncomputable def S93_1 (F : Nat) (o : Summ) : Summ := mkS sh93_1 (fun d K => f93_1 F d.1.2.1 d.1.2.2.1 d.2.1.2.1 (fun (y0 : Int) (y1 : Int) => K [.lf (.int .u64 y0), .lf (.int .i64 y1)] [some ⟨d.2.1.1, [.seq (.int .u8) 0 d.2.1.2.1]⟩])) o
noncomputable def code93 : Code := bodyOf Tryd.f93
noncomputable def b93_0 : Code := cB (cB (cR (cL (cR (cR (cR (code93)))))))
theorem scopes93 : scopesOf code93 = [] := by kernel_rfl
theorem ranges93 : rangesOf code93 = [] := by kernel_rfl
theorem loops93 : loopsOf code93 = [b93_0] := by kernel_rfl
theorem enter93 : ∀ args w, (callFunc 93 args).run Tryd.prog w = .ok (.enter 93 args) w := enter_of (fn := Tryd.f93) (by kernel_rfl) (by kernel_rfl) (by kernel_rfl)
noncomputable def T93_1 (F : Nat) : FuncId → Option Summ := tab [(92, (S92_1 F noS))]
def sh93_1_l7 : Sh := ⟨[.lf (.int .u64), .lf (.slice 0 0), .lf (.int .i64), .lf (.int .i64)], [some ⟨none, [.seq (.int .u8) 0]⟩]⟩
noncomputable def G93_1_7 (F k : Nat) : LoopS := mkG sh93_1_l7 [8, 37, 38, 39] (outT [(.exit 1, [8])]) (fun d K => f93_1_l7 F d.1.2.1.1 d.1.2.1.2 d.1.2.2.1 d.2.1.2.1 (fun (y0 : Int) => K (.exit 1) [.tv (.lf (.int .u64 y0))] [some ⟨d.2.1.1, [.seq (.int .u8) 0 d.2.1.2.1]⟩]) k d.1.1 d.1.2.2.2.1) []
noncomputable def LT93_1 (F : Nat) : Nat → Option LoopS := ltab [(7, G93_1_7 F F)]
theorem L93_1_l7g (F k : Nat) (c92_1 : Int → (Bool → Option Res) → Option Res)  (l7 : Nat → Nat → Int → List Int → (Int → Option Res) → Nat → Int → Int → Option Res) (X7 : LoopS) (d : sh93_1_l7.den) (K : KL) : (fun (v3 : Nat) (v4 : Nat) (v5 : Int) (v7 : List Int) (K0 : (Int → Option Res)) (k : Nat) (v2 : Int) (v6 : Int) => cond (decide (v6 < v5)) (cond (decide ((0 : Int) ≤ v6 ∧ v6 < ((v4 : Nat) : Int))) (cond (decide (v3 + v6.toNat < v7.length)) (l7 v3 v4 v5 v7 K0 k (ior .u64 (ishl .u64 v2 8) (IntKind.u64.wrap (v7.getD (v3 + v6.toNat) 0))) (IntKind.i64.wrap (v6 + 1))) none) none) (K0 v2)) d.1.2.1.1 d.1.2.1.2 d.1.2.2.1 d.2.1.2.1 (fun (y0 : Int) => K (.exit 1) [.tv (.lf (.int .u64 y0))] [some ⟨d.2.1.1, [.seq (.int .u8) 0 d.2.1.2.1]⟩]) k d.1.1 d.1.2.2.2.1 = roundOf Tryd.prog (tab [(92, (mkS sh92_1 (fun d K => c92_1 d.1.1 (fun (y0 : Bool) => K [.lf (.bool y0)] [])) noS))]) (xw []) 50 1 (ltab [(7, X7)]) (mkG sh93_1_l7 [8, 37, 38, 39] (outT [(.exit 1, [8])]) (fun d K => l7 d.1.2.1.1 d.1.2.1.2 d.1.2.2.1 d.2.1.2.1 (fun (y0 : Int) => K (.exit 1) [.tv (.lf (.int .u64 y0))] [some ⟨d.2.1.1, [.seq (.int .u8) 0 d.2.1.2.1]⟩]) k d.1.1 d.1.2.2.2.1) []) b93_0 (encT sh93_1_l7.vs d.1) (encH sh93_1_l7.h d.2) K := by kernel_rfl
theorem L93_1_7 (F : Nat) : LoopOK Tryd.prog (T93_1 F) (xw []) 50 1 (LT93_1 F) (G93_1_7 F F) b93_0 :=
  loopOK_of (s := sh93_1_l7) (live := [8, 37, 38, 39]) (out := (outT [(.exit 1, [8])])) (mv := []) (fun k d K => f93_1_l7 F d.1.2.1.1 d.1.2.1.2 d.1.2.2.1 d.2.1.2.1 (fun (y0 : Int) => K (.exit 1) [.tv (.lf (.int .u64 y0))] [some ⟨d.2.1.1, [.seq (.int .u8) 0 d.2.1.2.1]⟩]) k d.1.1 d.1.2.2.2.1) F (fun d K => by kernel_rfl)  (fun k d K => Eq.mp (by kernel_rfl) (L93_1_l7g F k (f92_1 F)  (f93_1_l7 F) (G93_1_7 F F) d K))
theorem E93_1g (F : Nat) (c92_1 : Int → (Bool → Option Res) → Option Res) (l7 : Nat → Nat → Int → List Int → (Int → Option Res) → Nat → Int → Int → Option Res)  (d : sh93_1.den) (K : KF) : evBody Tryd.prog (tab [(92, (mkS sh92_1 (fun d K => c92_1 d.1.1 (fun (y0 : Bool) => K [.lf (.bool y0)] [])) noS))]) (xw []) 50 1 (ltab [(7, mkG sh93_1_l7 [8, 37, 38, 39] (outT [(.exit 1, [8])]) (fun d K => l7 d.1.2.1.1 d.1.2.1.2 d.1.2.2.1 d.2.1.2.1 (fun (y0 : Int) => K (.exit 1) [.tv (.lf (.int .u64 y0))] [some ⟨d.2.1.1, [.seq (.int .u8) 0 d.2.1.2.1]⟩]) F d.1.1 d.1.2.2.2.1) [])]) code93 Tryd.f93.results.toList (encT sh93_1.vs d.1) (encH sh93_1.h d.2) K = (fun (a1 : Int) (a2 : Int) (a3 : List Int) (K0 : (Int → Int → Option Res)) => c92_1 a2 (fun x1 => cond (!x1) (K0 0 2) (cond (decide (a1 < 0)) (K0 0 2) (cond (decide (a1 > ((a3.length : Nat) : Int))) (K0 0 7) (cond (decide (IntKind.i64.wrap (((a3.length : Nat) : Int) - a1) < a2)) (K0 0 7) (cond (decide ((0 : Int) ≤ a1 ∧ a1 ≤ IntKind.i64.wrap (a1 + a2) ∧ IntKind.i64.wrap (a1 + a2) ≤ ((a3.length : Nat) : Int))) (l7 (0 + a1.toNat) ((IntKind.i64.wrap (a1 + a2) - a1).toNat) (((IntKind.i64.wrap (a1 + a2) - a1).toNat : Nat) : Int) a3 (fun x8 => K0 x8 0) F 0 0) none))))) ) d.1.2.1 d.1.2.2.1 d.2.1.2.1 (fun (y0 : Int) (y1 : Int) => K [.lf (.int .u64 y0), .lf (.int .i64 y1)] [some ⟨d.2.1.1, [.seq (.int .u8) 0 d.2.1.2.1]⟩]) := by kernel_rfl
theorem E93_1 (F : Nat) (d : sh93_1.den) (K : KF) : evBody Tryd.prog (T93_1 F) (xw []) 50 1 (LT93_1 F) code93 Tryd.f93.results.toList (encT sh93_1.vs d.1) (encH sh93_1.h d.2) K = f93_1 F d.1.2.1 d.1.2.2.1 d.2.1.2.1 (fun (y0 : Int) (y1 : Int) => K [.lf (.int .u64 y0), .lf (.int .i64 y1)] [some ⟨d.2.1.1, [.seq (.int .u8) 0 d.2.1.2.1]⟩]) := Eq.mp (by kernel_rfl) (E93_1g F (f92_1 F) (f93_1_l7 F)  d K)
theorem S93_1_ok (F : Nat) (o : Summ) (ho : SoundFn Tryd.prog 93 o) : SoundFn Tryd.prog 93 (S93_1 F o) :=
  soundFn_of (fn := Tryd.f93) (c := code93) rfl rfl (by kernel_rfl) (tab_cons (S92_1_ok F _ (noS_sound enter92)) tab_nil) (by kernel_rfl) (by kernel_rfl) ho (by rw [loops93]; exact (loopsOK_cons (by kernel_rfl) (L93_1_7 F) loopsOK_nil)) (by rw [scopes93]; exact scopesOK_nil) (by rw [ranges93]; exact rangesOK_nil) (E93_1 F)
end Go.Proofs.YtillbabmlfjegaaDoor.X
end

section
namespace Go.Proofs.YtillbabmlfjegaaDoor.X
open Go Go.Proofs.YtillbabmlfjegaaDoor.Ev Go.Proofs
set_option linter.unusedVariables false
set_option linter.unusedSectionVars false
/-! word.Reader).Num -/
noncomputable def f51_1_l1000000 {β : Type} (F : Nat) (v3 : Int) (v4 : Int) (v5 : List Int) (K0 : Option β) : Nat → Option β
  | 0 => none
  | k + 1 => K0
noncomputable def f51_1 {β : Type} (F : Nat) (a1 : Int) (a2 : Int) (a3 : List Int) (K0 : Int → Option β) (K1 : Int → List Int → Option β) : Option β := cond (a2 != 0) (K0 a2) (f93_1 F 0 a1 a3 (fun x1 x2 => cond (x2 != 0) (f51_1_l1000000 F x2 a2 a3 (K0 x2) F) (cond (decide ((0 : Int) ≤ a1 ∧ a1 ≤ ((a3.length : Nat) : Int) ∧ ((a3.length : Nat) : Int) ≤ ((a3.length : Nat) : Int))) (K1 x1 ((a3.drop (0 + a1.toNat)).take ((((a3.length : Nat) : Int) - a1).toNat))) none)) )
variable [FZ]
def sh51_1 : Sh := ⟨[.lf (.ptr 0 0), .lf (.int .i64)], [some ⟨some false, [.full 1, .int .i64]⟩, some ⟨some false, [.seq (.int .u8) 0]⟩]⟩
noncomputable def S51_1 (F : Nat) (o : Summ) : Summ := mkS sh51_1 (fun d K => f51_1 F d.1.2.1 d.2.1.2.2.1 d.2.2.1.2.1 (fun (y1 : Int) => K [.lf (.int .u64 0)] [some ⟨false, [.full 1, .int .i64 y1]⟩, some ⟨false, [.seq (.int .u8) 0 d.2.2.1.2.1]⟩]) (fun (y0 : Int) (y2 : List Int) => K [.lf (.int .u64 y0)] [some ⟨false, [.full 2, .int .i64 d.2.1.2.2.1]⟩, none, some ⟨false, [.seq (.int .u8) 0 y2]⟩])) o
noncomputable def code51 : Code := bodyOf Tryd.f51
noncomputable def s51_0 : Code := cB (cR (code51))
noncomputable def r51_0 : Code := match findLabel s51_0 0 with | some c => c | none => .skip
theorem find51_0 : findLabel s51_0 0 = some r51_0 := by kernel_rfl
theorem rloops51_0 : loopsOf r51_0 = [] := by kernel_rfl
theorem rscopes51_0 : scopesOf r51_0 = [] := by kernel_rfl
theorem rranges51_0 : rangesOf r51_0 = [] := by kernel_rfl
theorem scopes51 : scopesOf code51 = [s51_0] := by kernel_rfl
theorem ranges51 : rangesOf code51 = [] := by kernel_rfl
theorem loops51 : loopsOf code51 = [] := by kernel_rfl
theorem enter51 : ∀ args w, (callFunc 51 args).run Tryd.prog w = .ok (.enter 51 args) w := enter_of (fn := Tryd.f51) (by kernel_rfl) (by kernel_rfl) (by kernel_rfl)
noncomputable def T51_1 (F : Nat) : FuncId → Option Summ := tab [(93, (S93_1 F noS))]
def sh51_1_l1000000 : Sh := ⟨[.lf (.ptr 0 0), .lf (.int .i64)], [some ⟨some false, [.full 1, .int .i64]⟩, some ⟨some false, [.seq (.int .u8) 0]⟩]⟩
noncomputable def G51_1_1000000 (F k : Nat) : LoopS := mkG sh51_1_l1000000 [0, 6] (outT [(.ret, [4])]) (fun d K => f51_1_l1000000 F d.1.2.1 d.2.1.2.2.1 d.2.2.1.2.1 (K .ret [.tv (.lf (.int .u64 0))] [some ⟨false, [.full 1, .int .i64 d.1.2.1]⟩, some ⟨false, [.seq (.int .u8) 0 d.2.2.1.2.1]⟩]) k) []
noncomputable def LT51_1 (F : Nat) : Nat → Option LoopS := ltab [(1000000, G51_1_1000000 F F)]
theorem L51_1_l1000000g (F k : Nat) (c93_1 : Int → Int → List Int → (Int → Int → Option Res) → Option Res)  (l1000000 : Int → Int → List Int → (Option Res) → Nat → Option Res) (X1000000 : LoopS) (d : sh51_1_l1000000.den) (K : KL) : (fun (v3 : Int) (v4 : Int) (v5 : List Int) (K0 : (Option Res)) (k : Nat)  => K0) d.1.2.1 d.2.1.2.2.1 d.2.2.1.2.1 (K .ret [.tv (.lf (.int .u64 0))] [some ⟨false, [.full 1, .int .i64 d.1.2.1]⟩, some ⟨false, [.seq (.int .u8) 0 d.2.2.1.2.1]⟩]) k = passOf Tryd.prog (tab [(93, (mkS sh93_1 (fun d K => c93_1 d.1.2.1 d.1.2.2.1 d.2.1.2.1 (fun (y0 : Int) (y1 : Int) => K [.lf (.int .u64 y0), .lf (.int .i64 y1)] [some ⟨d.2.1.1, [.seq (.int .u8) 0 d.2.1.2.1]⟩])) noS))]) (xw []) 41 2 (ltab [(1000000, X1000000)]) (mkG sh51_1_l1000000 [0, 6] (outT [(.ret, [4])]) (fun d K => l1000000 d.1.2.1 d.2.1.2.2.1 d.2.2.1.2.1 (K .ret [.tv (.lf (.int .u64 0))] [some ⟨false, [.full 1, .int .i64 d.1.2.1]⟩, some ⟨false, [.seq (.int .u8) 0 d.2.2.1.2.1]⟩]) k) []) 0 r51_0 (encT sh51_1_l1000000.vs d.1) (encH sh51_1_l1000000.h d.2) K := by kernel_rfl
theorem L51_1_1000000 (F : Nat) : LabelOK Tryd.prog (T51_1 F) (xw []) 41 2 (LT51_1 F) (G51_1_1000000 F F) 0 s51_0 :=
  labelOK_of rfl (by kernel_rfl) (tab_cons (S93_1_ok F _ (noS_sound enter93)) tab_nil) (s := sh51_1_l1000000) (live := [0, 6]) (out := (outT [(.ret, [4])])) (mv := []) (fun k d K => f51_1_l1000000 F d.1.2.1 d.2.1.2.2.1 d.2.2.1.2.1 (K .ret [.tv (.lf (.int .u64 0))] [some ⟨false, [.full 1, .int .i64 d.1.2.1]⟩, some ⟨false, [.seq (.int .u8) 0 d.2.2.1.2.1]⟩]) k) F find51_0 (fun d K => by kernel_rfl)  (fun k d K => Eq.mp (by kernel_rfl) (L51_1_l1000000g F k (f93_1 F)  (f51_1_l1000000 F) (G51_1_1000000 F F) d K)) (by rw [rloops51_0]; exact loopsOK_nil) (by rw [rscopes51_0]; exact scopesOK_nil) (by rw [rranges51_0]; exact rangesOK_nil)
theorem E51_1g (F : Nat) (c93_1 : Int → Int → List Int → (Int → Int → Option Res) → Option Res) (l1000000 : Int → Int → List Int → (Option Res) → Nat → Option Res)  (d : sh51_1.den) (K : KF) : evBody Tryd.prog (tab [(93, (mkS sh93_1 (fun d K => c93_1 d.1.2.1 d.1.2.2.1 d.2.1.2.1 (fun (y0 : Int) (y1 : Int) => K [.lf (.int .u64 y0), .lf (.int .i64 y1)] [some ⟨d.2.1.1, [.seq (.int .u8) 0 d.2.1.2.1]⟩])) noS))]) (xw []) 41 2 (ltab [(1000000, mkG sh51_1_l1000000 [0, 6] (outT [(.ret, [4])]) (fun d K => l1000000 d.1.2.1 d.2.1.2.2.1 d.2.2.1.2.1 (K .ret [.tv (.lf (.int .u64 0))] [some ⟨false, [.full 1, .int .i64 d.1.2.1]⟩, some ⟨false, [.seq (.int .u8) 0 d.2.2.1.2.1]⟩]) F) [])]) code51 Tryd.f51.results.toList (encT sh51_1.vs d.1) (encH sh51_1.h d.2) K = (fun (a1 : Int) (a2 : Int) (a3 : List Int) (K0 : (Int → Option Res)) (K1 : (Int → List Int → Option Res)) => cond (a2 != 0) (K0 a2) (c93_1 0 a1 a3 (fun x1 x2 => cond (x2 != 0) (l1000000 x2 a2 a3 (K0 x2) F) (cond (decide ((0 : Int) ≤ a1 ∧ a1 ≤ ((a3.length : Nat) : Int) ∧ ((a3.length : Nat) : Int) ≤ ((a3.length : Nat) : Int))) (K1 x1 ((a3.drop (0 + a1.toNat)).take ((((a3.length : Nat) : Int) - a1).toNat))) none)) )) d.1.2.1 d.2.1.2.2.1 d.2.2.1.2.1 (fun (y1 : Int) => K [.lf (.int .u64 0)] [some ⟨false, [.full 1, .int .i64 y1]⟩, some ⟨false, [.seq (.int .u8) 0 d.2.2.1.2.1]⟩]) (fun (y0 : Int) (y2 : List Int) => K [.lf (.int .u64 y0)] [some ⟨false, [.full 2, .int .i64 d.2.1.2.2.1]⟩, none, some ⟨false, [.seq (.int .u8) 0 y2]⟩]) := by kernel_rfl
theorem E51_1 (F : Nat) (d : sh51_1.den) (K : KF) : evBody Tryd.prog (T51_1 F) (xw []) 41 2 (LT51_1 F) code51 Tryd.f51.results.toList (encT sh51_1.vs d.1) (encH sh51_1.h d.2) K = f51_1 F d.1.2.1 d.2.1.2.2.1 d.2.2.1.2.1 (fun (y1 : Int) => K [.lf (.int .u64 0)] [some ⟨false, [.full 1, .int .i64 y1]⟩, some ⟨false, [.seq (.int .u8) 0 d.2.2.1.2.1]⟩]) (fun (y0 : Int) (y2 : List Int) => K [.lf (.int .u64 y0)] [some ⟨false, [.full 2, .int .i64 d.2.1.2.2.1]⟩, none, some ⟨false, [.seq (.int .u8) 0 y2]⟩]) := Eq.mp (by kernel_rfl) (E51_1g F (f93_1 F) (f51_1_l1000000 F)  d K)
theorem S51_1_ok (F : Nat) (o : Summ) (ho : SoundFn Tryd.prog 51 o) : SoundFn Tryd.prog 51 (S51_1 F o) :=
  soundFn_of (fn := Tryd.f51) (c := code51) rfl rfl (by kernel_rfl) (tab_cons (S93_1_ok F _ (noS_sound enter93)) tab_nil) (by kernel_rfl) (by kernel_rfl) ho (by rw [loops51]; exact loopsOK_nil) (by rw [scopes51]; exact (scopesOK_cons (by kernel_rfl) (by kernel_rfl) (L51_1_1000000 F) scopesOK_nil)) (by rw [ranges51]; exact rangesOK_nil) (E51_1 F)
end Go.Proofs.YtillbabmlfjegaaDoor.X
end

section
namespace Go.Proofs.YtillbabmlfjegaaDoor.X
open Go Go.Proofs.YtillbabmlfjegaaDoor.Ev Go.Proofs
set_option linter.unusedVariables false
set_option linter.unusedSectionVars false
/-! bits.From -/
noncomputable def f105_1_l6 {β : Type} (F : Nat) (v3 : List Int) (K0 : List Int → Int → List Int → Option β) : Nat → Int → List Int → Int → List Int → Option β
  | 0, _, _, _, _ => none
  | k + 1, v2, v4, v5, v6 => cond (decide (v2 < 2)) (f51_1 F 8 v5 v6 (fun x7 => cond (decide ((0 : Int) ≤ v2 ∧ v2 < 2)) (cond (decide (v2.toNat < v4.length)) (f105_1_l6 F v3 K0 k (IntKind.i64.wrap (v2 + 1)) (v4.set v2.toNat 0) x7 v6) none) none) (fun x8 x9 => cond (decide ((0 : Int) ≤ v2 ∧ v2 < 2)) (cond (decide (v2.toNat < v4.length)) (f105_1_l6 F v3 K0 k (IntKind.i64.wrap (v2 + 1)) (v4.set v2.toNat x8) v5 x9) none) none) ) (K0 v4 v5 v6)
noncomputable def f105_1 {β : Type} (F : Nat) (a1 : ByteArray) (K0 : List Int → Int → Option β) : Option β := cond ((a1.size : Int) != 16) (K0 [0, 0] 4) (f49_1 F (toInts a1) (fun x1 => f105_1_l6 F [0, 0] (fun x10 x11 x12 => K0 x10 0) F 0 [0, 0] 0 x1) )
variable [FZ]
def sh105_1 : Sh := ⟨[.lf (.str)], []⟩
noncomputable def S105_1 (F : Nat) (o : Summ) : Summ := mkS sh105_1 (fun d K => f105_1 F d.1.1 (fun (y0 : List Int) (y1 : Int) => K [.agg [.seq (.int .u64) 2 y0], .lf (.int .i64 y1)] [])) o
noncomputable def code105 : Code := bodyOf Tryd.f105
noncomputable def b105_0 : Code := cB (cB (cR (cL (cR (cR (cR (cR (code105))))))))
theorem scopes105 : scopesOf code105 = [] := by kernel_rfl
theorem ranges105 : rangesOf code105 = [] := by kernel_rfl
theorem loops105 : loopsOf code105 = [b105_0] := by kernel_rfl
theorem enter105 : ∀ args w, (callFunc 105 args).run Tryd.prog w = .ok (.enter 105 args) w := enter_of (fn := Tryd.f105) (by kernel_rfl) (by kernel_rfl) (by kernel_rfl)
noncomputable def T105_1 (F : Nat) : FuncId → Option Summ := tab [(49, (S49_1 F noS)), (51, (S51_1 F noS))]
def sh105_1_l6 : Sh := ⟨[.lf (.ptr 0 0), .lf (.ptr 1 0), .lf (.ptr 2 0), .lf (.int .i64)], [some ⟨some false, [.seq (.int .u64) 2]⟩, some ⟨some false, [.seq (.int .u64) 2]⟩, some ⟨some false, [.full 3, .int .i64]⟩, some ⟨some false, [.seq (.int .u8) 0]⟩]⟩
noncomputable def G105_1_6 (F k : Nat) : LoopS := mkG sh105_1_l6 [2, 4, 5, 14] (outT [(.exit 0, [2, 4])]) (fun d K => f105_1_l6 F d.2.1.2.1 (fun (y1 : List Int) (y2 : Int) (y3 : List Int) => K (.exit 0) [.tv (.lf (.ptr 0 0)), .tv (.lf (.ptr 1 0))] [some ⟨false, [.seq (.int .u64) 2 d.2.1.2.1]⟩, some ⟨false, [.seq (.int .u64) 2 y1]⟩, some ⟨false, [.full 3, .int .i64 y2]⟩, some ⟨false, [.seq (.int .u8) 0 y3]⟩]) k d.1.2.2.2.1 d.2.2.1.2.1 d.2.2.2.1.2.2.1 d.2.2.2.2.1.2.1) []
noncomputable def LT105_1 (F : Nat) : Nat → Option LoopS := ltab [(6, G105_1_6 F F)]
theorem L105_1_l6g (F k : Nat) (c49_1 : List Int → (List Int → Option Res) → Option Res) (c51_1 : Int → Int → List Int → (Int → Option Res) → (Int → List Int → Option Res) → Option Res)  (l6 : List Int → (List Int → Int → List Int → Option Res) → Nat → Int → List Int → Int → List Int → Option Res) (X6 : LoopS) (d : sh105_1_l6.den) (K : KL) : (fun (v3 : List Int) (K0 : (List Int → Int → List Int → Option Res)) (k : Nat) (v2 : Int) (v4 : List Int) (v5 : Int) (v6 : List Int) => cond (decide (v2 < 2)) (c51_1 8 v5 v6 (fun x7 => cond (decide ((0 : Int) ≤ v2 ∧ v2 < 2)) (cond (decide (v2.toNat < v4.length)) (l6 v3 K0 k (IntKind.i64.wrap (v2 + 1)) (v4.set v2.toNat 0) x7 v6) none) none) (fun x8 x9 => cond (decide ((0 : Int) ≤ v2 ∧ v2 < 2)) (cond (decide (v2.toNat < v4.length)) (l6 v3 K0 k (IntKind.i64.wrap (v2 + 1)) (v4.set v2.toNat x8) v5 x9) none) none) ) (K0 v4 v5 v6)) d.2.1.2.1 (fun (y1 : List Int) (y2 : Int) (y3 : List Int) => K (.exit 0) [.tv (.lf (.ptr 0 0)), .tv (.lf (.ptr 1 0))] [some ⟨false, [.seq (.int .u64) 2 d.2.1.2.1]⟩, some ⟨false, [.seq (.int .u64) 2 y1]⟩, some ⟨false, [.full 3, .int .i64 y2]⟩, some ⟨false, [.seq (.int .u8) 0 y3]⟩]) k d.1.2.2.2.1 d.2.2.1.2.1 d.2.2.2.1.2.2.1 d.2.2.2.2.1.2.1 = roundOf Tryd.prog (tab [(49, (mkS sh49_1 (fun d K => c49_1 d.2.1.2.1 (fun (y2 : List Int) => K [.lf (.ptr 1 0)] [some ⟨d.2.1.1, [.seq (.int .u8) 0 d.2.1.2.1]⟩, some ⟨false, [.full 2, .int .i64 0]⟩, some ⟨false, [.seq (.int .u8) 0 y2]⟩])) noS)), (51, (mkS sh51_1 (fun d K => c51_1 d.1.2.1 d.2.1.2.2.1 d.2.2.1.2.1 (fun (y1 : Int) => K [.lf (.int .u64 0)] [some ⟨false, [.full 1, .int .i64 y1]⟩, some ⟨false, [.seq (.int .u8) 0 d.2.2.1.2.1]⟩]) (fun (y0 : Int) (y2 : List Int) => K [.lf (.int .u64 y0)] [some ⟨false, [.full 2, .int .i64 d.2.1.2.2.1]⟩, none, some ⟨false, [.seq (.int .u8) 0 y2]⟩])) noS))]) (xw []) 23 0 (ltab [(6, X6)]) (mkG sh105_1_l6 [2, 4, 5, 14] (outT [(.exit 0, [2, 4])]) (fun d K => l6 d.2.1.2.1 (fun (y1 : List Int) (y2 : Int) (y3 : List Int) => K (.exit 0) [.tv (.lf (.ptr 0 0)), .tv (.lf (.ptr 1 0))] [some ⟨false, [.seq (.int .u64) 2 d.2.1.2.1]⟩, some ⟨false, [.seq (.int .u64) 2 y1]⟩, some ⟨false, [.full 3, .int .i64 y2]⟩, some ⟨false, [.seq (.int .u8) 0 y3]⟩]) k d.1.2.2.2.1 d.2.2.1.2.1 d.2.2.2.1.2.2.1 d.2.2.2.2.1.2.1) []) b105_0 (encT sh105_1_l6.vs d.1) (encH sh105_1_l6.h d.2) K := by kernel_rfl
theorem L105_1_6 (F : Nat) : LoopOK Tryd.prog (T105_1 F) (xw []) 23 0 (LT105_1 F) (G105_1_6 F F) b105_0 :=
  loopOK_of (s := sh105_1_l6) (live := [2, 4, 5, 14]) (out := (outT [(.exit 0, [2, 4])])) (mv := []) (fun k d K => f105_1_l6 F d.2.1.2.1 (fun (y1 : List Int) (y2 : Int) (y3 : List Int) => K (.exit 0) [.tv (.lf (.ptr 0 0)), .tv (.lf (.ptr 1 0))] [some ⟨false, [.seq (.int .u64) 2 d.2.1.2.1]⟩, some ⟨false, [.seq (.int .u64) 2 y1]⟩, some ⟨false, [.full 3, .int .i64 y2]⟩, some ⟨false, [.seq (.int .u8) 0 y3]⟩]) k d.1.2.2.2.1 d.2.2.1.2.1 d.2.2.2.1.2.2.1 d.2.2.2.2.1.2.1) F (fun d K => by kernel_rfl)  (fun k d K => Eq.mp (by kernel_rfl) (L105_1_l6g F k (f49_1 F) (f51_1 F)  (f105_1_l6 F) (G105_1_6 F F) d K))
theorem E105_1g (F : Nat) (c49_1 : List Int → (List Int → Option Res) → Option Res) (c51_1 : Int → Int → List Int → (Int → Option Res) → (Int → List Int → Option Res) → Option Res) (l6 : List Int → (List Int → Int → List Int → Option Res) → Nat → Int → List Int → Int → List Int → Option Res)  (d : sh105_1.den) (K : KF) : evBody Tryd.prog (tab [(49, (mkS sh49_1 (fun d K => c49_1 d.2.1.2.1 (fun (y2 : List Int) => K [.lf (.ptr 1 0)] [some ⟨d.2.1.1, [.seq (.int .u8) 0 d.2.1.2.1]⟩, some ⟨false, [.full 2, .int .i64 0]⟩, some ⟨false, [.seq (.int .u8) 0 y2]⟩])) noS)), (51, (mkS sh51_1 (fun d K => c51_1 d.1.2.1 d.2.1.2.2.1 d.2.2.1.2.1 (fun (y1 : Int) => K [.lf (.int .u64 0)] [some ⟨false, [.full 1, .int .i64 y1]⟩, some ⟨false, [.seq (.int .u8) 0 d.2.2.1.2.1]⟩]) (fun (y0 : Int) (y2 : List Int) => K [.lf (.int .u64 y0)] [some ⟨false, [.full 2, .int .i64 d.2.1.2.2.1]⟩, none, some ⟨false, [.seq (.int .u8) 0 y2]⟩])) noS))]) (xw []) 23 0 (ltab [(6, mkG sh105_1_l6 [2, 4, 5, 14] (outT [(.exit 0, [2, 4])]) (fun d K => l6 d.2.1.2.1 (fun (y1 : List Int) (y2 : Int) (y3 : List Int) => K (.exit 0) [.tv (.lf (.ptr 0 0)), .tv (.lf (.ptr 1 0))] [some ⟨false, [.seq (.int .u64) 2 d.2.1.2.1]⟩, some ⟨false, [.seq (.int .u64) 2 y1]⟩, some ⟨false, [.full 3, .int .i64 y2]⟩, some ⟨false, [.seq (.int .u8) 0 y3]⟩]) F d.1.2.2.2.1 d.2.2.1.2.1 d.2.2.2.1.2.2.1 d.2.2.2.2.1.2.1) [])]) code105 Tryd.f105.results.toList (encT sh105_1.vs d.1) (encH sh105_1.h d.2) K = (fun (a1 : ByteArray) (K0 : (List Int → Int → Option Res)) => cond ((a1.size : Int) != 16) (K0 [0, 0] 4) (c49_1 (toInts a1) (fun x1 => l6 [0, 0] (fun x10 x11 x12 => K0 x10 0) F 0 [0, 0] 0 x1) )) d.1.1 (fun (y0 : List Int) (y1 : Int) => K [.agg [.seq (.int .u64) 2 y0], .lf (.int .i64 y1)] []) := by kernel_rfl
theorem E105_1 (F : Nat) (d : sh105_1.den) (K : KF) : evBody Tryd.prog (T105_1 F) (xw []) 23 0 (LT105_1 F) code105 Tryd.f105.results.toList (encT sh105_1.vs d.1) (encH sh105_1.h d.2) K = f105_1 F d.1.1 (fun (y0 : List Int) (y1 : Int) => K [.agg [.seq (.int .u64) 2 y0], .lf (.int .i64 y1)] []) := Eq.mp (by kernel_rfl) (E105_1g F (f49_1 F) (f51_1 F) (f105_1_l6 F)  d K)
theorem S105_1_ok (F : Nat) (o : Summ) (ho : SoundFn Tryd.prog 105 o) : SoundFn Tryd.prog 105 (S105_1 F o) :=
  soundFn_of (fn := Tryd.f105) (c := code105) rfl rfl (by kernel_rfl) (tab_cons (S49_1_ok F _ (noS_sound enter49)) (tab_cons (S51_1_ok F _ (noS_sound enter51)) tab_nil)) (by kernel_rfl) (by kernel_rfl) ho (by rw [loops105]; exact (loopsOK_cons (by kernel_rfl) (L105_1_6 F) loopsOK_nil)) (by rw [scopes105]; exact scopesOK_nil) (by rw [ranges105]; exact rangesOK_nil) (E105_1 F)
end Go.Proofs.YtillbabmlfjegaaDoor.X
end

section
namespace Go.Proofs.YtillbabmlfjegaaDoor.X
open Go Go.Proofs.YtillbabmlfjegaaDoor.Ev Go.Proofs
set_option linter.unusedVariables false
set_option linter.unusedSectionVars false
/-! word.Reader).Bytes -/
noncomputable def f106_1_l1000000 {β : Type} (F : Nat) (v1 : Int) (v2 : Int) (v3 : List Int) (K0 : Option β) : Nat → Option β
  | 0 => none
  | k + 1 => K0
noncomputable def f106_1 {β : Type} (F : Nat) (a1 : Int) (a2 : Int) (a3 : List Int) (K0 : Int → List Int → Option β) (K1 : List Int → List Int → Option β) : Option β := cond (a2 != 0) (K0 a2 []) (cond (decide (a1 < 0)) (f106_1_l1000000 F 2 a2 a3 (K0 2 []) F) (cond (decide (a1 > ((a3.length : Nat) : Int))) (f106_1_l1000000 F 7 a2 a3 (K0 7 []) F) (cond (decide ((0 : Int) ≤ (0 : Int) ∧ (0 : Int) ≤ a1 ∧ a1 ≤ ((a3.length : Nat) : Int))) (amb (cond (decide ((((a3.drop 0).take ((a1 - 0).toNat)).length) * 1 ≤ 70368744177664)) (cond (decide ((0 : Int) ≤ a1 ∧ a1 ≤ ((a3.length : Nat) : Int) ∧ ((a3.length : Nat) : Int) ≤ ((a3.length : Nat) : Int))) (K1 ((a3.drop (0 + a1.toNat)).take ((((a3.length : Nat) : Int) - a1).toNat)) ((a3.drop 0).take ((a1 - 0).toNat))) none) none) (cond (decide ((0 : Int) ≤ a1 ∧ a1 ≤ ((a3.length : Nat) : Int) ∧ ((a3.length : Nat) : Int) ≤ ((a3.length : Nat) : Int))) (cond (decide ((((a3.drop 0).take ((a1 - 0).toNat)).length) * 1 ≤ 70368744177664)) (K1 ((a3.drop (0 + a1.toNat)).take ((((a3.length : Nat) : Int) - a1).toNat)) ((a3.drop 0).take ((a1 - 0).toNat))) none) none)) none)))
variable [FZ]
def sh106_1 : Sh := ⟨[.lf (.ptr 0 0), .lf (.int .i64)], [some ⟨some false, [.full 1, .int .i64]⟩, some ⟨some false, [.seq (.int .u8) 0]⟩]⟩
noncomputable def S106_1 (F : Nat) (o : Summ) : Summ := mkS sh106_1 (fun d K => f106_1 F d.1.2.1 d.2.1.2.2.1 d.2.2.1.2.1 (fun (y0 : Int) (y2 : List Int) => K [.lf (.full 2)] [some ⟨false, [.full 1, .int .i64 y0]⟩, some ⟨false, [.seq (.int .u8) 0 d.2.2.1.2.1]⟩, some ⟨false, [.seq (.int .u8) 0 y2]⟩]) (fun (y1 : List Int) (y2 : List Int) => K [.lf (.full 3)] [some ⟨false, [.full 2, .int .i64 d.2.1.2.2.1]⟩, none, some ⟨false, [.seq (.int .u8) 0 y1]⟩, some ⟨false, [.seq (.int .u8) 0 y2]⟩])) o
noncomputable def code106 : Code := bodyOf Tryd.f106
noncomputable def s106_0 : Code := cB (cR (code106))
noncomputable def r106_0 : Code := match findLabel s106_0 0 with | some c => c | none => .skip
theorem find106_0 : findLabel s106_0 0 = some r106_0 := by kernel_rfl
theorem rloops106_0 : loopsOf r106_0 = [] := by kernel_rfl
theorem rscopes106_0 : scopesOf r106_0 = [] := by kernel_rfl
theorem rranges106_0 : rangesOf r106_0 = [] := by kernel_rfl
theorem scopes106 : scopesOf code106 = [s106_0] := by kernel_rfl
theorem ranges106 : rangesOf code106 = [] := by kernel_rfl
theorem loops106 : loopsOf code106 = [] := by kernel_rfl
theorem enter106 : ∀ args w, (callFunc 106 args).run Tryd.prog w = .ok (.enter 106 args) w := enter_of (fn := Tryd.f106) (by kernel_rfl) (by kernel_rfl) (by kernel_rfl)
noncomputable def T106_1 (F : Nat) : FuncId → Option Summ := tab []
def sh106_1_l1000000 : Sh := ⟨[.lf (.ptr 0 0), .lf (.int .i64)], [some ⟨some false, [.full 1, .int .i64]⟩, some ⟨some false, [.seq (.int .u8) 0]⟩]⟩
noncomputable def G106_1_1000000 (F k : Nat) : LoopS := mkG sh106_1_l1000000 [0, 6] (outT [(.ret, [4])]) (fun d K => f106_1_l1000000 F d.1.2.1 d.2.1.2.2.1 d.2.2.1.2.1 (K .ret [.tv (.lf (.nils (some (.int .u8))))] [some ⟨false, [.full 1, .int .i64 d.1.2.1]⟩, some ⟨false, [.seq (.int .u8) 0 d.2.2.1.2.1]⟩]) k) []
noncomputable def LT106_1 (F : Nat) : Nat → Option LoopS := ltab [(1000000, G106_1_1000000 F F)]
theorem L106_1_l1000000g (F k : Nat)   (l1000000 : Int → Int → List Int → (Option Res) → Nat → Option Res) (X1000000 : LoopS) (d : sh106_1_l1000000.den) (K : KL) : (fun (v1 : Int) (v2 : Int) (v3 : List Int) (K0 : (Option Res)) (k : Nat)  => K0) d.1.2.1 d.2.1.2.2.1 d.2.2.1.2.1 (K .ret [.tv (.lf (.nils (some (.int .u8))))] [some ⟨false, [.full 1, .int .i64 d.1.2.1]⟩, some ⟨false, [.seq (.int .u8) 0 d.2.2.1.2.1]⟩]) k = passOf Tryd.prog (tab []) (xw []) 47 2 (ltab [(1000000, X1000000)]) (mkG sh106_1_l1000000 [0, 6] (outT [(.ret, [4])]) (fun d K => l1000000 d.1.2.1 d.2.1.2.2.1 d.2.2.1.2.1 (K .ret [.tv (.lf (.nils (some (.int .u8))))] [some ⟨false, [.full 1, .int .i64 d.1.2.1]⟩, some ⟨false, [.seq (.int .u8) 0 d.2.2.1.2.1]⟩]) k) []) 0 r106_0 (encT sh106_1_l1000000.vs d.1) (encH sh106_1_l1000000.h d.2) K := by kernel_rfl
theorem L106_1_1000000 (F : Nat) : LabelOK Tryd.prog (T106_1 F) (xw []) 47 2 (LT106_1 F) (G106_1_1000000 F F) 0 s106_0 :=
  labelOK_of rfl (by kernel_rfl) tab_nil (s := sh106_1_l1000000) (live := [0, 6]) (out := (outT [(.ret, [4])])) (mv := []) (fun k d K => f106_1_l1000000 F d.1.2.1 d.2.1.2.2.1 d.2.2.1.2.1 (K .ret [.tv (.lf (.nils (some (.int .u8))))] [some ⟨false, [.full 1, .int .i64 d.1.2.1]⟩, some ⟨false, [.seq (.int .u8) 0 d.2.2.1.2.1]⟩]) k) F find106_0 (fun d K => by kernel_rfl)  (fun k d K => Eq.mp (by kernel_rfl) (L106_1_l1000000g F k   (f106_1_l1000000 F) (G106_1_1000000 F F) d K)) (by rw [rloops106_0]; exact loopsOK_nil) (by rw [rscopes106_0]; exact scopesOK_nil) (by rw [rranges106_0]; exact rangesOK_nil)
theorem E106_1g (F : Nat)  (l1000000 : Int → Int → List Int → (Option Res) → Nat → Option Res)  (d : sh106_1.den) (K : KF) : evBody Tryd.prog (tab []) (xw []) 47 2 (ltab [(1000000, mkG sh106_1_l1000000 [0, 6] (outT [(.ret, [4])]) (fun d K => l1000000 d.1.2.1 d.2.1.2.2.1 d.2.2.1.2.1 (K .ret [.tv (.lf (.nils (some (.int .u8))))] [some ⟨false, [.full 1, .int .i64 d.1.2.1]⟩, some ⟨false, [.seq (.int .u8) 0 d.2.2.1.2.1]⟩]) F) [])]) code106 Tryd.f106.results.toList (encT sh106_1.vs d.1) (encH sh106_1.h d.2) K = (fun (a1 : Int) (a2 : Int) (a3 : List Int) (K0 : (Int → List Int → Option Res)) (K1 : (List Int → List Int → Option Res)) => cond (a2 != 0) (K0 a2 []) (cond (decide (a1 < 0)) (l1000000 2 a2 a3 (K0 2 []) F) (cond (decide (a1 > ((a3.length : Nat) : Int))) (l1000000 7 a2 a3 (K0 7 []) F) (cond (decide ((0 : Int) ≤ (0 : Int) ∧ (0 : Int) ≤ a1 ∧ a1 ≤ ((a3.length : Nat) : Int))) (amb (cond (decide ((((a3.drop 0).take ((a1 - 0).toNat)).length) * 1 ≤ 70368744177664)) (cond (decide ((0 : Int) ≤ a1 ∧ a1 ≤ ((a3.length : Nat) : Int) ∧ ((a3.length : Nat) : Int) ≤ ((a3.length : Nat) : Int))) (K1 ((a3.drop (0 + a1.toNat)).take ((((a3.length : Nat) : Int) - a1).toNat)) ((a3.drop 0).take ((a1 - 0).toNat))) none) none) (cond (decide ((0 : Int) ≤ a1 ∧ a1 ≤ ((a3.length : Nat) : Int) ∧ ((a3.length : Nat) : Int) ≤ ((a3.length : Nat) : Int))) (cond (decide ((((a3.drop 0).take ((a1 - 0).toNat)).length) * 1 ≤ 70368744177664)) (K1 ((a3.drop (0 + a1.toNat)).take ((((a3.length : Nat) : Int) - a1).toNat)) ((a3.drop 0).take ((a1 - 0).toNat))) none) none)) none)))) d.1.2.1 d.2.1.2.2.1 d.2.2.1.2.1 (fun (y0 : Int) (y2 : List Int) => K [.lf (.full 2)] [some ⟨false, [.full 1, .int .i64 y0]⟩, some ⟨false, [.seq (.int .u8) 0 d.2.2.1.2.1]⟩, some ⟨false, [.seq (.int .u8) 0 y2]⟩]) (fun (y1 : List Int) (y2 : List Int) => K [.lf (.full 3)] [some ⟨false, [.full 2, .int .i64 d.2.1.2.2.1]⟩, none, some ⟨false, [.seq (.int .u8) 0 y1]⟩, some ⟨false, [.seq (.int .u8) 0 y2]⟩]) := by kernel_rfl
theorem E106_1 (F : Nat) (d : sh106_1.den) (K : KF) : evBody Tryd.prog (T106_1 F) (xw []) 47 2 (LT106_1 F) code106 Tryd.f106.results.toList (encT sh106_1.vs d.1) (encH sh106_1.h d.2) K = f106_1 F d.1.2.1 d.2.1.2.2.1 d.2.2.1.2.1 (fun (y0 : Int) (y2 : List Int) => K [.lf (.full 2)] [some ⟨false, [.full 1, .int .i64 y0]⟩, some ⟨false, [.seq (.int .u8) 0 d.2.2.1.2.1]⟩, some ⟨false, [.seq (.int .u8) 0 y2]⟩]) (fun (y1 : List Int) (y2 : List Int) => K [.lf (.full 3)] [some ⟨false, [.full 2, .int .i64 d.2.1.2.2.1]⟩, none, some ⟨false, [.seq (.int .u8) 0 y1]⟩, some ⟨false, [.seq (.int .u8) 0 y2]⟩]) := Eq.mp (by kernel_rfl) (E106_1g F  (f106_1_l1000000 F)  d K)
theorem S106_1_ok (F : Nat) (o : Summ) (ho : SoundFn Tryd.prog 106 o) : SoundFn Tryd.prog 106 (S106_1 F o) :=
  soundFn_of (fn := Tryd.f106) (c := code106) rfl rfl (by kernel_rfl) tab_nil (by kernel_rfl) (by kernel_rfl) ho (by rw [loops106]; exact loopsOK_nil) (by rw [scopes106]; exact (scopesOK_cons (by kernel_rfl) (by kernel_rfl) (L106_1_1000000 F) scopesOK_nil)) (by rw [ranges106]; exact rangesOK_nil) (E106_1 F)
end Go.Proofs.YtillbabmlfjegaaDoor.X
end
