/- Merged: EvF17, EvF81, EvF40, EvF82, EvF41, EvF113, EvF83, EvF42, EvF11, EvF48, EvF18, EvF49, EvF93, EvF51, EvF50v2906, EvF19, EvF45, EvF16, EvF14, EvF94, EvF52, EvF20, EvF6, PureW, RecA, RecB, RecC, NumA, NumC. -/
import Derived.Test.YtillbabmlfjegaaDoorMRecVolumesCard3
import Derived.Test.YtillbabmlfjegaaDoorProg
import Derived.KernelRfl
section
namespace Go.Proofs.YtillbabmlfjegaaDoor.X
open Go Go.Proofs.YtillbabmlfjegaaDoor.Ev Go.Proofs
set_option linter.unusedVariables false
set_option linter.unusedSectionVars false
/-! rec.Volume -/
noncomputable def f17_1_l6 {β : Type} (F : Nat) (v2 : Int) (v5 : List (Int × Int)) (K0 : List Int → Option β) : Nat → Int → List Int → Option β
  | 0, _, _ => none
  | k + 1, v3, v4 => cond (decide (v3 < v2)) (cond (decide ((0 : Int) ≤ v3 ∧ v3 < ((v5.length : Nat) : Int))) (cond (decide (0 + v3.toNat < v5.length)) (f47_1 F ((v5.getD (0 + v3.toNat) (0, 0)).1) ((v5.getD (0 + v3.toNat) (0, 0)).2) v4 (fun x6 => f17_1_l6 F v2 v5 K0 k (IntKind.i64.wrap (v3 + 1)) x6) ) none) none) (K0 v4)
noncomputable def f17_1 {β : Type} (F : Nat) (a1 : Int) (a2 : Int) (a3 : Int) (a4 : Int) (a5 : Int) (a6 : Int) (a7 : Int) (K0 : ByteArray → Int → Option β) : Option β := f46_1 F a1 a2 a3 a4 a5 a6 a7 (fun x1 => cond (x1 != 0) (K0 ByteArray.empty x1) (f17_1_l6 F 7 [(1, IntKind.u64.wrap a1), (4, IntKind.u64.wrap a2), (2, IntKind.u64.wrap a3), (1, IntKind.u64.wrap a4), (2, IntKind.u64.wrap a5), (2, IntKind.u64.wrap a6), (8, a7)] (fun x7 => f10_1 F 1 (ofInts x7) (fun x8 x9 => K0 x8 x9) ) F 0 [])) 
variable [FZ]
def sh17_1 : Sh := ⟨[.lf (.int .i64), .agg [.int .u32, .int .i64, .int .i64, .int .i64, .int .i64, .int .u64]], []⟩
noncomputable def S17_1 (F : Nat) (o : Summ) : Summ := mkS sh17_1 (fun d K => f17_1 F d.1.1 d.1.2.1.1 d.1.2.1.2.1 d.1.2.1.2.2.1 d.1.2.1.2.2.2.1 d.1.2.1.2.2.2.2.1 d.1.2.1.2.2.2.2.2.1 (fun (y0 : ByteArray) (y1 : Int) => K [.lf (.str y0), .lf (.int .i64 y1)] [])) o
noncomputable def code17 : Code := bodyOf Tryd.f17
noncomputable def b17_0 : Code := cB (cB (cR (cL (cR (cR (cR (code17)))))))
theorem scopes17 : scopesOf code17 = [] := by kernel_rfl
theorem ranges17 : rangesOf code17 = [] := by kernel_rfl
theorem loops17 : loopsOf code17 = [b17_0] := by kernel_rfl
theorem enter17 : ∀ args w, (callFunc 17 args).run Tryd.prog w = .ok (.enter 17 args) w := enter_of (fn := Tryd.f17) (by kernel_rfl) (by kernel_rfl) (by kernel_rfl)
noncomputable def T17_1 (F : Nat) : FuncId → Option Summ := tab [(10, (S10_1 F noS)), (46, (S46_1 F noS)), (47, (S47_1 F noS))]
def sh17_1_l6 : Sh := ⟨[.lf (.full 0), .lf (.full 1), .lf (.int .i64), .lf (.int .i64)], [some ⟨some false, [.seq (.int .u8) 0]⟩, some ⟨some false, [.seq (.pair (.int .i64) (.int .u64)) 0]⟩]⟩
noncomputable def G17_1_6 (F k : Nat) : LoopS := mkG sh17_1_l6 [7, 46, 47, 48] (outT [(.exit 0, [7])]) (fun d K => f17_1_l6 F d.1.2.2.1 d.2.2.1.2.1 (fun (y0 : List Int) => K (.exit 0) [.tv (.lf (.full 0))] [some ⟨false, [.seq (.int .u8) 0 y0]⟩, some ⟨false, [.seq (.pair (.int .i64) (.int .u64)) 0 d.2.2.1.2.1]⟩]) k d.1.2.2.2.1 d.2.1.2.1) []
noncomputable def LT17_1 (F : Nat) : Nat → Option LoopS := ltab [(6, G17_1_6 F F)]
theorem L17_1_l6g (F k : Nat) (c10_1 : Int → ByteArray → (ByteArray → Int → Option Res) → Option Res) (c46_1 : Int → Int → Int → Int → Int → Int → Int → (Int → Option Res) → Option Res) (c47_1 : Int → Int → List Int → (List Int → Option Res) → Option Res)  (l6 : Int → List (Int × Int) → (List Int → Option Res) → Nat → Int → List Int → Option Res) (X6 : LoopS) (d : sh17_1_l6.den) (K : KL) : (fun (v2 : Int) (v5 : List (Int × Int)) (K0 : (List Int → Option Res)) (k : Nat) (v3 : Int) (v4 : List Int) => cond (decide (v3 < v2)) (cond (decide ((0 : Int) ≤ v3 ∧ v3 < ((v5.length : Nat) : Int))) (cond (decide (0 + v3.toNat < v5.length)) (c47_1 ((v5.getD (0 + v3.toNat) (0, 0)).1) ((v5.getD (0 + v3.toNat) (0, 0)).2) v4 (fun x6 => l6 v2 v5 K0 k (IntKind.i64.wrap (v3 + 1)) x6) ) none) none) (K0 v4)) d.1.2.2.1 d.2.2.1.2.1 (fun (y0 : List Int) => K (.exit 0) [.tv (.lf (.full 0))] [some ⟨false, [.seq (.int .u8) 0 y0]⟩, some ⟨false, [.seq (.pair (.int .i64) (.int .u64)) 0 d.2.2.1.2.1]⟩]) k d.1.2.2.2.1 d.2.1.2.1 = roundOf Tryd.prog (tab [(10, (mkS sh10_1 (fun d K => c10_1 d.1.1 d.1.2.1 (fun (y0 : ByteArray) (y1 : Int) => K [.lf (.str y0), .lf (.int .i64 y1)] [])) noS)), (46, (mkS sh46_1 (fun d K => c46_1 d.1.1 d.1.2.1.1 d.1.2.1.2.1 d.1.2.1.2.2.1 d.1.2.1.2.2.2.1 d.1.2.1.2.2.2.2.1 d.1.2.1.2.2.2.2.2.1 (fun (y0 : Int) => K [.lf (.int .i64 y0)] [])) noS)), (47, (mkS sh47_1 (fun d K => c47_1 d.1.2.1 d.1.2.2.1 d.2.1.2.1 (fun (y1 : List Int) => K [.lf (.full 1)] [some ⟨d.2.1.1, [.seq (.int .u8) 0 d.2.1.2.1]⟩, some ⟨false, [.seq (.int .u8) 0 y1]⟩])) noS))]) (xw []) 64 0 (ltab [(6, X6)]) (mkG sh17_1_l6 [7, 46, 47, 48] (outT [(.exit 0, [7])]) (fun d K => l6 d.1.2.2.1 d.2.2.1.2.1 (fun (y0 : List Int) => K (.exit 0) [.tv (.lf (.full 0))] [some ⟨false, [.seq (.int .u8) 0 y0]⟩, some ⟨false, [.seq (.pair (.int .i64) (.int .u64)) 0 d.2.2.1.2.1]⟩]) k d.1.2.2.2.1 d.2.1.2.1) []) b17_0 (encT sh17_1_l6.vs d.1) (encH sh17_1_l6.h d.2) K := by kernel_rfl
theorem L17_1_6 (F : Nat) : LoopOK Tryd.prog (T17_1 F) (xw []) 64 0 (LT17_1 F) (G17_1_6 F F) b17_0 :=
  loopOK_of (s := sh17_1_l6) (live := [7, 46, 47, 48]) (out := (outT [(.exit 0, [7])])) (mv := []) (fun k d K => f17_1_l6 F d.1.2.2.1 d.2.2.1.2.1 (fun (y0 : List Int) => K (.exit 0) [.tv (.lf (.full 0))] [some ⟨false, [.seq (.int .u8) 0 y0]⟩, some ⟨false, [.seq (.pair (.int .i64) (.int .u64)) 0 d.2.2.1.2.1]⟩]) k d.1.2.2.2.1 d.2.1.2.1) F (fun d K => by kernel_rfl)  (fun k d K => Eq.mp (by kernel_rfl) (L17_1_l6g F k (f10_1 F) (f46_1 F) (f47_1 F)  (f17_1_l6 F) (G17_1_6 F F) d K))
theorem E17_1g (F : Nat) (c10_1 : Int → ByteArray → (ByteArray → Int → Option Res) → Option Res) (c46_1 : Int → Int → Int → Int → Int → Int → Int → (Int → Option Res) → Option Res) (c47_1 : Int → Int → List Int → (List Int → Option Res) → Option Res) (l6 : Int → List (Int × Int) → (List Int → Option Res) → Nat → Int → List Int → Option Res)  (d : sh17_1.den) (K : KF) : evBody Tryd.prog (tab [(10, (mkS sh10_1 (fun d K => c10_1 d.1.1 d.1.2.1 (fun (y0 : ByteArray) (y1 : Int) => K [.lf (.str y0), .lf (.int .i64 y1)] [])) noS)), (46, (mkS sh46_1 (fun d K => c46_1 d.1.1 d.1.2.1.1 d.1.2.1.2.1 d.1.2.1.2.2.1 d.1.2.1.2.2.2.1 d.1.2.1.2.2.2.2.1 d.1.2.1.2.2.2.2.2.1 (fun (y0 : Int) => K [.lf (.int .i64 y0)] [])) noS)), (47, (mkS sh47_1 (fun d K => c47_1 d.1.2.1 d.1.2.2.1 d.2.1.2.1 (fun (y1 : List Int) => K [.lf (.full 1)] [some ⟨d.2.1.1, [.seq (.int .u8) 0 d.2.1.2.1]⟩, some ⟨false, [.seq (.int .u8) 0 y1]⟩])) noS))]) (xw []) 64 0 (ltab [(6, mkG sh17_1_l6 [7, 46, 47, 48] (outT [(.exit 0, [7])]) (fun d K => l6 d.1.2.2.1 d.2.2.1.2.1 (fun (y0 : List Int) => K (.exit 0) [.tv (.lf (.full 0))] [some ⟨false, [.seq (.int .u8) 0 y0]⟩, some ⟨false, [.seq (.pair (.int .i64) (.int .u64)) 0 d.2.2.1.2.1]⟩]) F d.1.2.2.2.1 d.2.1.2.1) [])]) [] code17 Tryd.f17.results.toList (encT sh17_1.vs d.1) (encH sh17_1.h d.2) K = (fun (a1 : Int) (a2 : Int) (a3 : Int) (a4 : Int) (a5 : Int) (a6 : Int) (a7 : Int) (K0 : (ByteArray → Int → Option Res)) => c46_1 a1 a2 a3 a4 a5 a6 a7 (fun x1 => cond (x1 != 0) (K0 ByteArray.empty x1) (l6 7 [(1, IntKind.u64.wrap a1), (4, IntKind.u64.wrap a2), (2, IntKind.u64.wrap a3), (1, IntKind.u64.wrap a4), (2, IntKind.u64.wrap a5), (2, IntKind.u64.wrap a6), (8, a7)] (fun x7 => c10_1 1 (ofInts x7) (fun x8 x9 => K0 x8 x9) ) F 0 [])) ) d.1.1 d.1.2.1.1 d.1.2.1.2.1 d.1.2.1.2.2.1 d.1.2.1.2.2.2.1 d.1.2.1.2.2.2.2.1 d.1.2.1.2.2.2.2.2.1 (fun (y0 : ByteArray) (y1 : Int) => K [.lf (.str y0), .lf (.int .i64 y1)] []) := by kernel_rfl
theorem E17_1 (F : Nat) (d : sh17_1.den) (K : KF) : evBody Tryd.prog (T17_1 F) (xw []) 64 0 (LT17_1 F) [] code17 Tryd.f17.results.toList (encT sh17_1.vs d.1) (encH sh17_1.h d.2) K = f17_1 F d.1.1 d.1.2.1.1 d.1.2.1.2.1 d.1.2.1.2.2.1 d.1.2.1.2.2.2.1 d.1.2.1.2.2.2.2.1 d.1.2.1.2.2.2.2.2.1 (fun (y0 : ByteArray) (y1 : Int) => K [.lf (.str y0), .lf (.int .i64 y1)] []) := Eq.mp (by kernel_rfl) (E17_1g F (f10_1 F) (f46_1 F) (f47_1 F) (f17_1_l6 F)  d K)
theorem S17_1_ok (F : Nat) (o : Summ) (ho : SoundFn Tryd.prog 17 o) : SoundFn Tryd.prog 17 (S17_1 F o) :=
  soundFn_of (fn := Tryd.f17) (c := code17) rfl rfl (by kernel_rfl) (tab_cons (S10_1_ok F _ (noS_sound enter10)) (tab_cons (S46_1_ok F _ (noS_sound enter46)) (tab_cons (S47_1_ok F _ (noS_sound enter47)) tab_nil))) (by kernel_rfl) (by kernel_rfl) ho (by rw [loops17]; exact (loopsOK_cons (by kernel_rfl) (L17_1_6 F) loopsOK_nil)) (by rw [scopes17]; exact scopesOK_nil) (by rw [ranges17]; exact rangesOK_nil) (E17_1 F)
end Go.Proofs.YtillbabmlfjegaaDoor.X
end

section
namespace Go.Proofs.YtillbabmlfjegaaDoor.X
open Go Go.Proofs.YtillbabmlfjegaaDoor.Ev Go.Proofs
set_option linter.unusedVariables false
set_option linter.unusedSectionVars false
/-! pentimentoref01.Put -/
noncomputable def f81_1_l6 {β : Type} (F : Nat) (v1 : Int) (v3 : List Int) (K0 : List Int → Option β) : Nat → Int → List Int → Option β
  | 0, _, _ => none
  | k + 1, v2, v4 => cond (decide (v2 ≥ 0)) (cond (decide (IntKind.u64.wrap (IntKind.i64.wrap (8 * v2)) < 0)) none (cond (decide ((v4.length + 1) * 1 ≤ 70368744177664)) (f81_1_l6 F v1 v3 K0 k (IntKind.i64.wrap (v2 - 1)) (v4 ++ [IntKind.u8.wrap (ishr .u64 v1 (IntKind.u64.wrap (IntKind.i64.wrap (8 * v2))))])) none)) (K0 v4)
noncomputable def f81_1 {β : Type} (F : Nat) (a1 : Int) (a2 : Int) (a3 : List Int) (K0 : List Int → Option β) : Option β := cond (decide (a3.length * 1 ≤ 70368744177664)) (cond (decide (a1 < 1)) (K0 a3) (cond (decide (a1 > 8)) (K0 a3) (f81_1_l6 F a2 a3 (fun x5 => K0 x5) F (IntKind.i64.wrap (a1 - 1)) a3))) none
variable [FZ]
def sh81_1 : Sh := ⟨[.lf (.full 0), .lf (.int .i64), .lf (.int .u64)], [some ⟨none, [.seq (.int .u8) 0]⟩]⟩
noncomputable def S81_1 (F : Nat) (o : Summ) : Summ := mkS sh81_1 (fun d K => f81_1 F d.1.2.1 d.1.2.2.1 d.2.1.2.1 (fun (y1 : List Int) => K [.lf (.full 1)] [some ⟨d.2.1.1, [.seq (.int .u8) 0 d.2.1.2.1]⟩, some ⟨false, [.seq (.int .u8) 0 y1]⟩])) o
noncomputable def code81 : Code := bodyOf Tryd.f81
noncomputable def b81_0 : Code := cB (cB (cR (cL (cR (cR (cR (cR (code81))))))))
theorem scopes81 : scopesOf code81 = [] := by kernel_rfl
theorem ranges81 : rangesOf code81 = [] := by kernel_rfl
theorem loops81 : loopsOf code81 = [b81_0] := by kernel_rfl
theorem enter81 : ∀ args w, (callFunc 81 args).run Tryd.prog w = .ok (.enter 81 args) w := enter_of (fn := Tryd.f81) (by kernel_rfl) (by kernel_rfl) (by kernel_rfl)
noncomputable def T81_1 (F : Nat) : FuncId → Option Summ := tab []
def sh81_1_l6 : Sh := ⟨[.lf (.int .u64), .lf (.full 1), .lf (.int .i64)], [some ⟨none, [.seq (.int .u8) 0]⟩, some ⟨some false, [.seq (.int .u8) 0]⟩]⟩
noncomputable def G81_1_6 (F k : Nat) : LoopS := mkG sh81_1_l6 [2, 7, 8] (outT [(.exit 0, [7])]) (fun d K => f81_1_l6 F d.1.1 d.2.1.2.1 (fun (y1 : List Int) => K (.exit 0) [.tv (.lf (.full 1))] [some ⟨d.2.1.1, [.seq (.int .u8) 0 d.2.1.2.1]⟩, some ⟨false, [.seq (.int .u8) 0 y1]⟩]) k d.1.2.2.1 d.2.2.1.2.1) []
noncomputable def LT81_1 (F : Nat) : Nat → Option LoopS := ltab [(6, G81_1_6 F F)]
theorem L81_1_l6g (F k : Nat)   (l6 : Int → List Int → (List Int → Option Res) → Nat → Int → List Int → Option Res) (X6 : LoopS) (d : sh81_1_l6.den) (K : KL) : (fun (v1 : Int) (v3 : List Int) (K0 : (List Int → Option Res)) (k : Nat) (v2 : Int) (v4 : List Int) => cond (decide (v2 ≥ 0)) (cond (decide (IntKind.u64.wrap (IntKind.i64.wrap (8 * v2)) < 0)) none (cond (decide ((v4.length + 1) * 1 ≤ 70368744177664)) (l6 v1 v3 K0 k (IntKind.i64.wrap (v2 - 1)) (v4 ++ [IntKind.u8.wrap (ishr .u64 v1 (IntKind.u64.wrap (IntKind.i64.wrap (8 * v2))))])) none)) (K0 v4)) d.1.1 d.2.1.2.1 (fun (y1 : List Int) => K (.exit 0) [.tv (.lf (.full 1))] [some ⟨d.2.1.1, [.seq (.int .u8) 0 d.2.1.2.1]⟩, some ⟨false, [.seq (.int .u8) 0 y1]⟩]) k d.1.2.2.1 d.2.2.1.2.1 = roundOf Tryd.prog (tab []) (xw []) 35 1 (ltab [(6, X6)]) (mkG sh81_1_l6 [2, 7, 8] (outT [(.exit 0, [7])]) (fun d K => l6 d.1.1 d.2.1.2.1 (fun (y1 : List Int) => K (.exit 0) [.tv (.lf (.full 1))] [some ⟨d.2.1.1, [.seq (.int .u8) 0 d.2.1.2.1]⟩, some ⟨false, [.seq (.int .u8) 0 y1]⟩]) k d.1.2.2.1 d.2.2.1.2.1) []) b81_0 (encT sh81_1_l6.vs d.1) (encH sh81_1_l6.h d.2) K := by kernel_rfl
theorem L81_1_6 (F : Nat) : LoopOK Tryd.prog (T81_1 F) (xw []) 35 1 (LT81_1 F) (G81_1_6 F F) b81_0 :=
  loopOK_of (s := sh81_1_l6) (live := [2, 7, 8]) (out := (outT [(.exit 0, [7])])) (mv := []) (fun k d K => f81_1_l6 F d.1.1 d.2.1.2.1 (fun (y1 : List Int) => K (.exit 0) [.tv (.lf (.full 1))] [some ⟨d.2.1.1, [.seq (.int .u8) 0 d.2.1.2.1]⟩, some ⟨false, [.seq (.int .u8) 0 y1]⟩]) k d.1.2.2.1 d.2.2.1.2.1) F (fun d K => by kernel_rfl)  (fun k d K => Eq.mp (by kernel_rfl) (L81_1_l6g F k   (f81_1_l6 F) (G81_1_6 F F) d K))
theorem E81_1g (F : Nat)  (l6 : Int → List Int → (List Int → Option Res) → Nat → Int → List Int → Option Res)  (d : sh81_1.den) (K : KF) : evBody Tryd.prog (tab []) (xw []) 35 1 (ltab [(6, mkG sh81_1_l6 [2, 7, 8] (outT [(.exit 0, [7])]) (fun d K => l6 d.1.1 d.2.1.2.1 (fun (y1 : List Int) => K (.exit 0) [.tv (.lf (.full 1))] [some ⟨d.2.1.1, [.seq (.int .u8) 0 d.2.1.2.1]⟩, some ⟨false, [.seq (.int .u8) 0 y1]⟩]) F d.1.2.2.1 d.2.2.1.2.1) [])]) [] code81 Tryd.f81.results.toList (encT sh81_1.vs d.1) (encH sh81_1.h d.2) K = (fun (a1 : Int) (a2 : Int) (a3 : List Int) (K0 : (List Int → Option Res)) => cond (decide (a3.length * 1 ≤ 70368744177664)) (cond (decide (a1 < 1)) (K0 a3) (cond (decide (a1 > 8)) (K0 a3) (l6 a2 a3 (fun x5 => K0 x5) F (IntKind.i64.wrap (a1 - 1)) a3))) none) d.1.2.1 d.1.2.2.1 d.2.1.2.1 (fun (y1 : List Int) => K [.lf (.full 1)] [some ⟨d.2.1.1, [.seq (.int .u8) 0 d.2.1.2.1]⟩, some ⟨false, [.seq (.int .u8) 0 y1]⟩]) := by kernel_rfl
theorem E81_1 (F : Nat) (d : sh81_1.den) (K : KF) : evBody Tryd.prog (T81_1 F) (xw []) 35 1 (LT81_1 F) [] code81 Tryd.f81.results.toList (encT sh81_1.vs d.1) (encH sh81_1.h d.2) K = f81_1 F d.1.2.1 d.1.2.2.1 d.2.1.2.1 (fun (y1 : List Int) => K [.lf (.full 1)] [some ⟨d.2.1.1, [.seq (.int .u8) 0 d.2.1.2.1]⟩, some ⟨false, [.seq (.int .u8) 0 y1]⟩]) := Eq.mp (by kernel_rfl) (E81_1g F  (f81_1_l6 F)  d K)
theorem S81_1_ok (F : Nat) (o : Summ) (ho : SoundFn Tryd.prog 81 o) : SoundFn Tryd.prog 81 (S81_1 F o) :=
  soundFn_of (fn := Tryd.f81) (c := code81) rfl rfl (by kernel_rfl) tab_nil (by kernel_rfl) (by kernel_rfl) ho (by rw [loops81]; exact (loopsOK_cons (by kernel_rfl) (L81_1_6 F) loopsOK_nil)) (by rw [scopes81]; exact scopesOK_nil) (by rw [ranges81]; exact rangesOK_nil) (E81_1 F)
end Go.Proofs.YtillbabmlfjegaaDoor.X
end

section
namespace Go.Proofs.YtillbabmlfjegaaDoor.X
open Go Go.Proofs.YtillbabmlfjegaaDoor.Ev Go.Proofs
set_option linter.unusedVariables false
set_option linter.unusedSectionVars false
/-! pentimentoref01.Text -/
noncomputable def f40_1 {β : Type} (F : Nat) (a1 : Int) (a2 : Int) (K0 : ByteArray → Option β) : Option β := f81_1 F a1 a2 [] (fun x1 => K0 (ofInts x1)) 
variable [FZ]
def sh40_1 : Sh := ⟨[.lf (.int .i64), .lf (.int .u64)], []⟩
noncomputable def S40_1 (F : Nat) (o : Summ) : Summ := mkS sh40_1 (fun d K => f40_1 F d.1.1 d.1.2.1 (fun (y0 : ByteArray) => K [.lf (.str y0)] [])) o
noncomputable def code40 : Code := bodyOf Tryd.f40
theorem scopes40 : scopesOf code40 = [] := by kernel_rfl
theorem ranges40 : rangesOf code40 = [] := by kernel_rfl
theorem loops40 : loopsOf code40 = [] := by kernel_rfl
theorem enter40 : ∀ args w, (callFunc 40 args).run Tryd.prog w = .ok (.enter 40 args) w := enter_of (fn := Tryd.f40) (by kernel_rfl) (by kernel_rfl) (by kernel_rfl)
noncomputable def T40_1 (F : Nat) : FuncId → Option Summ := tab [(81, (S81_1 F noS))]
noncomputable def LT40_1 (F : Nat) : Nat → Option LoopS := ltab []
theorem E40_1g (F : Nat) (c81_1 : Int → Int → List Int → (List Int → Option Res) → Option Res)   (d : sh40_1.den) (K : KF) : evBody Tryd.prog (tab [(81, (mkS sh81_1 (fun d K => c81_1 d.1.2.1 d.1.2.2.1 d.2.1.2.1 (fun (y1 : List Int) => K [.lf (.full 1)] [some ⟨d.2.1.1, [.seq (.int .u8) 0 d.2.1.2.1]⟩, some ⟨false, [.seq (.int .u8) 0 y1]⟩])) noS))]) (xw []) 9 0 (ltab []) [] code40 Tryd.f40.results.toList (encT sh40_1.vs d.1) (encH sh40_1.h d.2) K = (fun (a1 : Int) (a2 : Int) (K0 : (ByteArray → Option Res)) => c81_1 a1 a2 [] (fun x1 => K0 (ofInts x1)) ) d.1.1 d.1.2.1 (fun (y0 : ByteArray) => K [.lf (.str y0)] []) := by kernel_rfl
theorem E40_1 (F : Nat) (d : sh40_1.den) (K : KF) : evBody Tryd.prog (T40_1 F) (xw []) 9 0 (LT40_1 F) [] code40 Tryd.f40.results.toList (encT sh40_1.vs d.1) (encH sh40_1.h d.2) K = f40_1 F d.1.1 d.1.2.1 (fun (y0 : ByteArray) => K [.lf (.str y0)] []) := Eq.mp (by kernel_rfl) (E40_1g F (f81_1 F)   d K)
theorem S40_1_ok (F : Nat) (o : Summ) (ho : SoundFn Tryd.prog 40 o) : SoundFn Tryd.prog 40 (S40_1 F o) :=
  soundFn_of (fn := Tryd.f40) (c := code40) rfl rfl (by kernel_rfl) (tab_cons (S81_1_ok F _ (noS_sound enter81)) tab_nil) (by kernel_rfl) (by kernel_rfl) ho (by rw [loops40]; exact loopsOK_nil) (by rw [scopes40]; exact scopesOK_nil) (by rw [ranges40]; exact rangesOK_nil) (E40_1 F)
end Go.Proofs.YtillbabmlfjegaaDoor.X
end

section
namespace Go.Proofs.YtillbabmlfjegaaDoor.X
open Go Go.Proofs.YtillbabmlfjegaaDoor.Ev Go.Proofs
set_option linter.unusedVariables false
set_option linter.unusedSectionVars false
/-! pentimentoref05.Fill -/
noncomputable def f82_1_l3 {β : Type} (F : Nat) (v1 : Int) (K0 : List Int → Option β) : Nat → Int → List Int → Option β
  | 0, _, _ => none
  | k + 1, v2, v3 => cond (decide (v2 < 64)) (cond (decide ((v3.length + 1) * 1 ≤ 70368744177664)) (f82_1_l3 F v1 K0 k (IntKind.i64.wrap (v2 + 1)) (v3 ++ [v1])) none) (K0 v3)
noncomputable def f82_1 {β : Type} (F : Nat) (a1 : Int) (K0 : ByteArray → Option β) : Option β := f82_1_l3 F a1 (fun x4 => K0 (ofInts x4)) F 0 []
variable [FZ]
def sh82_1 : Sh := ⟨[.lf (.int .u8)], []⟩
noncomputable def S82_1 (F : Nat) (o : Summ) : Summ := mkS sh82_1 (fun d K => f82_1 F d.1.1 (fun (y0 : ByteArray) => K [.lf (.str y0)] [])) o
noncomputable def code82 : Code := bodyOf Tryd.f82
noncomputable def b82_0 : Code := cB (cB (cR (cL (cR (cR (code82))))))
theorem scopes82 : scopesOf code82 = [] := by kernel_rfl
theorem ranges82 : rangesOf code82 = [] := by kernel_rfl
theorem loops82 : loopsOf code82 = [b82_0] := by kernel_rfl
theorem enter82 : ∀ args w, (callFunc 82 args).run Tryd.prog w = .ok (.enter 82 args) w := enter_of (fn := Tryd.f82) (by kernel_rfl) (by kernel_rfl) (by kernel_rfl)
noncomputable def T82_1 (F : Nat) : FuncId → Option Summ := tab []
def sh82_1_l3 : Sh := ⟨[.lf (.int .u8), .lf (.full 0), .lf (.int .i64)], [some ⟨some false, [.seq (.int .u8) 0]⟩]⟩
noncomputable def G82_1_3 (F k : Nat) : LoopS := mkG sh82_1_l3 [0, 3, 4] (outT [(.exit 0, [3])]) (fun d K => f82_1_l3 F d.1.1 (fun (y0 : List Int) => K (.exit 0) [.tv (.lf (.full 0))] [some ⟨false, [.seq (.int .u8) 0 y0]⟩]) k d.1.2.2.1 d.2.1.2.1) []
noncomputable def LT82_1 (F : Nat) : Nat → Option LoopS := ltab [(3, G82_1_3 F F)]
theorem L82_1_l3g (F k : Nat)   (l3 : Int → (List Int → Option Res) → Nat → Int → List Int → Option Res) (X3 : LoopS) (d : sh82_1_l3.den) (K : KL) : (fun (v1 : Int) (K0 : (List Int → Option Res)) (k : Nat) (v2 : Int) (v3 : List Int) => cond (decide (v2 < 64)) (cond (decide ((v3.length + 1) * 1 ≤ 70368744177664)) (l3 v1 K0 k (IntKind.i64.wrap (v2 + 1)) (v3 ++ [v1])) none) (K0 v3)) d.1.1 (fun (y0 : List Int) => K (.exit 0) [.tv (.lf (.full 0))] [some ⟨false, [.seq (.int .u8) 0 y0]⟩]) k d.1.2.2.1 d.2.1.2.1 = roundOf Tryd.prog (tab []) (xw []) 15 0 (ltab [(3, X3)]) (mkG sh82_1_l3 [0, 3, 4] (outT [(.exit 0, [3])]) (fun d K => l3 d.1.1 (fun (y0 : List Int) => K (.exit 0) [.tv (.lf (.full 0))] [some ⟨false, [.seq (.int .u8) 0 y0]⟩]) k d.1.2.2.1 d.2.1.2.1) []) b82_0 (encT sh82_1_l3.vs d.1) (encH sh82_1_l3.h d.2) K := by kernel_rfl
theorem L82_1_3 (F : Nat) : LoopOK Tryd.prog (T82_1 F) (xw []) 15 0 (LT82_1 F) (G82_1_3 F F) b82_0 :=
  loopOK_of (s := sh82_1_l3) (live := [0, 3, 4]) (out := (outT [(.exit 0, [3])])) (mv := []) (fun k d K => f82_1_l3 F d.1.1 (fun (y0 : List Int) => K (.exit 0) [.tv (.lf (.full 0))] [some ⟨false, [.seq (.int .u8) 0 y0]⟩]) k d.1.2.2.1 d.2.1.2.1) F (fun d K => by kernel_rfl)  (fun k d K => Eq.mp (by kernel_rfl) (L82_1_l3g F k   (f82_1_l3 F) (G82_1_3 F F) d K))
theorem E82_1g (F : Nat)  (l3 : Int → (List Int → Option Res) → Nat → Int → List Int → Option Res)  (d : sh82_1.den) (K : KF) : evBody Tryd.prog (tab []) (xw []) 15 0 (ltab [(3, mkG sh82_1_l3 [0, 3, 4] (outT [(.exit 0, [3])]) (fun d K => l3 d.1.1 (fun (y0 : List Int) => K (.exit 0) [.tv (.lf (.full 0))] [some ⟨false, [.seq (.int .u8) 0 y0]⟩]) F d.1.2.2.1 d.2.1.2.1) [])]) [] code82 Tryd.f82.results.toList (encT sh82_1.vs d.1) (encH sh82_1.h d.2) K = (fun (a1 : Int) (K0 : (ByteArray → Option Res)) => l3 a1 (fun x4 => K0 (ofInts x4)) F 0 []) d.1.1 (fun (y0 : ByteArray) => K [.lf (.str y0)] []) := by kernel_rfl
theorem E82_1 (F : Nat) (d : sh82_1.den) (K : KF) : evBody Tryd.prog (T82_1 F) (xw []) 15 0 (LT82_1 F) [] code82 Tryd.f82.results.toList (encT sh82_1.vs d.1) (encH sh82_1.h d.2) K = f82_1 F d.1.1 (fun (y0 : ByteArray) => K [.lf (.str y0)] []) := Eq.mp (by kernel_rfl) (E82_1g F  (f82_1_l3 F)  d K)
theorem S82_1_ok (F : Nat) (o : Summ) (ho : SoundFn Tryd.prog 82 o) : SoundFn Tryd.prog 82 (S82_1 F o) :=
  soundFn_of (fn := Tryd.f82) (c := code82) rfl rfl (by kernel_rfl) tab_nil (by kernel_rfl) (by kernel_rfl) ho (by rw [loops82]; exact (loopsOK_cons (by kernel_rfl) (L82_1_3 F) loopsOK_nil)) (by rw [scopes82]; exact scopesOK_nil) (by rw [ranges82]; exact rangesOK_nil) (E82_1 F)
end Go.Proofs.YtillbabmlfjegaaDoor.X
end

section
namespace Go.Proofs.YtillbabmlfjegaaDoor.X
open Go Go.Proofs.YtillbabmlfjegaaDoor.Ev Go.Proofs
set_option linter.unusedVariables false
set_option linter.unusedSectionVars false
/-! pentimentoref05.Zero -/
noncomputable def f41_1 {β : Type} (F : Nat)  (K0 : ByteArray → Option β) : Option β := f82_1 F 0 (fun x1 => K0 x1) 
variable [FZ]
def sh41_1 : Sh := ⟨[], []⟩
noncomputable def S41_1 (F : Nat) (o : Summ) : Summ := mkS sh41_1 (fun d K => f41_1 F (fun (y0 : ByteArray) => K [.lf (.str y0)] [])) o
noncomputable def code41 : Code := bodyOf Tryd.f41
theorem scopes41 : scopesOf code41 = [] := by kernel_rfl
theorem ranges41 : rangesOf code41 = [] := by kernel_rfl
theorem loops41 : loopsOf code41 = [] := by kernel_rfl
theorem enter41 : ∀ args w, (callFunc 41 args).run Tryd.prog w = .ok (.enter 41 args) w := enter_of (fn := Tryd.f41) (by kernel_rfl) (by kernel_rfl) (by kernel_rfl)
noncomputable def T41_1 (F : Nat) : FuncId → Option Summ := tab [(82, (S82_1 F noS))]
noncomputable def LT41_1 (F : Nat) : Nat → Option LoopS := ltab []
theorem E41_1g (F : Nat) (c82_1 : Int → (ByteArray → Option Res) → Option Res)   (d : sh41_1.den) (K : KF) : evBody Tryd.prog (tab [(82, (mkS sh82_1 (fun d K => c82_1 d.1.1 (fun (y0 : ByteArray) => K [.lf (.str y0)] [])) noS))]) (xw []) 2 0 (ltab []) [] code41 Tryd.f41.results.toList (encT sh41_1.vs d.1) (encH sh41_1.h d.2) K = (fun (K0 : (ByteArray → Option Res)) => c82_1 0 (fun x1 => K0 x1) ) (fun (y0 : ByteArray) => K [.lf (.str y0)] []) := by kernel_rfl
theorem E41_1 (F : Nat) (d : sh41_1.den) (K : KF) : evBody Tryd.prog (T41_1 F) (xw []) 2 0 (LT41_1 F) [] code41 Tryd.f41.results.toList (encT sh41_1.vs d.1) (encH sh41_1.h d.2) K = f41_1 F (fun (y0 : ByteArray) => K [.lf (.str y0)] []) := Eq.mp (by kernel_rfl) (E41_1g F (f82_1 F)   d K)
theorem S41_1_ok (F : Nat) (o : Summ) (ho : SoundFn Tryd.prog 41 o) : SoundFn Tryd.prog 41 (S41_1 F o) :=
  soundFn_of (fn := Tryd.f41) (c := code41) rfl rfl (by kernel_rfl) (tab_cons (S82_1_ok F _ (noS_sound enter82)) tab_nil) (by kernel_rfl) (by kernel_rfl) ho (by rw [loops41]; exact loopsOK_nil) (by rw [scopes41]; exact scopesOK_nil) (by rw [ranges41]; exact rangesOK_nil) (E41_1 F)
end Go.Proofs.YtillbabmlfjegaaDoor.X
end

section
namespace Go.Proofs.YtillbabmlfjegaaDoor.X
open Go Go.Proofs.YtillbabmlfjegaaDoor.Ev Go.Proofs
set_option linter.unusedVariables false
set_option linter.unusedSectionVars false
/-! pentimentoref02.Entry -/
noncomputable def f113_1_l3 {β : Type} (F : Nat)  (K0 : Int → Option β) : Nat → Int → Int → Option β
  | 0, _, _ => none
  | k + 1, v1, v2 => cond (decide (v2 < 8)) (cond ((v1.tmod 2) == 1) (f113_1_l3 F K0 k (ixor .u32 (IntKind.u32.wrap (v1.tdiv 2)) 2197175160) (IntKind.i64.wrap (v2 + 1))) (f113_1_l3 F K0 k (IntKind.u32.wrap (v1.tdiv 2)) (IntKind.i64.wrap (v2 + 1)))) (K0 v1)
noncomputable def f113_1 {β : Type} (F : Nat) (a1 : Int) (K0 : Int → Option β) : Option β := f113_1_l3 F  (fun x3 => K0 x3) F (IntKind.u32.wrap a1) 0
variable [FZ]
def sh113_1 : Sh := ⟨[.lf (.int .u8)], []⟩
noncomputable def S113_1 (F : Nat) (o : Summ) : Summ := mkS sh113_1 (fun d K => f113_1 F d.1.1 (fun (y0 : Int) => K [.lf (.int .u32 y0)] [])) o
noncomputable def code113 : Code := bodyOf Tryd.f113
noncomputable def b113_0 : Code := cB (cB (cR (cL (cR (cR (code113))))))
theorem scopes113 : scopesOf code113 = [] := by kernel_rfl
theorem ranges113 : rangesOf code113 = [] := by kernel_rfl
theorem loops113 : loopsOf code113 = [b113_0] := by kernel_rfl
theorem enter113 : ∀ args w, (callFunc 113 args).run Tryd.prog w = .ok (.enter 113 args) w := enter_of (fn := Tryd.f113) (by kernel_rfl) (by kernel_rfl) (by kernel_rfl)
noncomputable def T113_1 (F : Nat) : FuncId → Option Summ := tab []
def sh113_1_l3 : Sh := ⟨[.lf (.int .u32), .lf (.int .i64)], []⟩
noncomputable def G113_1_3 (F k : Nat) : LoopS := mkG sh113_1_l3 [3, 4] (outT [(.exit 0, [3])]) (fun d K => f113_1_l3 F (fun (y0 : Int) => K (.exit 0) [.tv (.lf (.int .u32 y0))] []) k d.1.1 d.1.2.1) []
noncomputable def LT113_1 (F : Nat) : Nat → Option LoopS := ltab [(3, G113_1_3 F F)]
theorem L113_1_l3g (F k : Nat)   (l3 : (Int → Option Res) → Nat → Int → Int → Option Res) (X3 : LoopS) (d : sh113_1_l3.den) (K : KL) : (fun (K0 : (Int → Option Res)) (k : Nat) (v1 : Int) (v2 : Int) => cond (decide (v2 < 8)) (cond ((v1.tmod 2) == 1) (l3 K0 k (ixor .u32 (IntKind.u32.wrap (v1.tdiv 2)) 2197175160) (IntKind.i64.wrap (v2 + 1))) (l3 K0 k (IntKind.u32.wrap (v1.tdiv 2)) (IntKind.i64.wrap (v2 + 1)))) (K0 v1)) (fun (y0 : Int) => K (.exit 0) [.tv (.lf (.int .u32 y0))] []) k d.1.1 d.1.2.1 = roundOf Tryd.prog (tab []) (xw []) 20 0 (ltab [(3, X3)]) (mkG sh113_1_l3 [3, 4] (outT [(.exit 0, [3])]) (fun d K => l3 (fun (y0 : Int) => K (.exit 0) [.tv (.lf (.int .u32 y0))] []) k d.1.1 d.1.2.1) []) b113_0 (encT sh113_1_l3.vs d.1) (encH sh113_1_l3.h d.2) K := by kernel_rfl
theorem L113_1_3 (F : Nat) : LoopOK Tryd.prog (T113_1 F) (xw []) 20 0 (LT113_1 F) (G113_1_3 F F) b113_0 :=
  loopOK_of (s := sh113_1_l3) (live := [3, 4]) (out := (outT [(.exit 0, [3])])) (mv := []) (fun k d K => f113_1_l3 F (fun (y0 : Int) => K (.exit 0) [.tv (.lf (.int .u32 y0))] []) k d.1.1 d.1.2.1) F (fun d K => by kernel_rfl)  (fun k d K => Eq.mp (by kernel_rfl) (L113_1_l3g F k   (f113_1_l3 F) (G113_1_3 F F) d K))
theorem E113_1g (F : Nat)  (l3 : (Int → Option Res) → Nat → Int → Int → Option Res)  (d : sh113_1.den) (K : KF) : evBody Tryd.prog (tab []) (xw []) 20 0 (ltab [(3, mkG sh113_1_l3 [3, 4] (outT [(.exit 0, [3])]) (fun d K => l3 (fun (y0 : Int) => K (.exit 0) [.tv (.lf (.int .u32 y0))] []) F d.1.1 d.1.2.1) [])]) [] code113 Tryd.f113.results.toList (encT sh113_1.vs d.1) (encH sh113_1.h d.2) K = (fun (a1 : Int) (K0 : (Int → Option Res)) => l3  (fun x3 => K0 x3) F (IntKind.u32.wrap a1) 0) d.1.1 (fun (y0 : Int) => K [.lf (.int .u32 y0)] []) := by kernel_rfl
theorem E113_1 (F : Nat) (d : sh113_1.den) (K : KF) : evBody Tryd.prog (T113_1 F) (xw []) 20 0 (LT113_1 F) [] code113 Tryd.f113.results.toList (encT sh113_1.vs d.1) (encH sh113_1.h d.2) K = f113_1 F d.1.1 (fun (y0 : Int) => K [.lf (.int .u32 y0)] []) := Eq.mp (by kernel_rfl) (E113_1g F  (f113_1_l3 F)  d K)
theorem S113_1_ok (F : Nat) (o : Summ) (ho : SoundFn Tryd.prog 113 o) : SoundFn Tryd.prog 113 (S113_1 F o) :=
  soundFn_of (fn := Tryd.f113) (c := code113) rfl rfl (by kernel_rfl) tab_nil (by kernel_rfl) (by kernel_rfl) ho (by rw [loops113]; exact (loopsOK_cons (by kernel_rfl) (L113_1_3 F) loopsOK_nil)) (by rw [scopes113]; exact scopesOK_nil) (by rw [ranges113]; exact rangesOK_nil) (E113_1 F)
end Go.Proofs.YtillbabmlfjegaaDoor.X
end

section
namespace Go.Proofs.YtillbabmlfjegaaDoor.X
open Go Go.Proofs.YtillbabmlfjegaaDoor.Ev Go.Proofs
set_option linter.unusedVariables false
set_option linter.unusedSectionVars false
/-! pentimentoref02.Add -/
noncomputable def f83_1_l3 {β : Type} (F : Nat) (v3 : List Int) (K0 : Int → Option β) : Nat → Int → Int → Option β
  | 0, _, _ => none
  | k + 1, v1, v2 => cond (decide (v2 < ((v3.length : Nat) : Int))) (cond (decide ((0 : Int) ≤ v2 ∧ v2 < ((v3.length : Nat) : Int))) (cond (decide (0 + v2.toNat < v3.length)) (f113_1 F (ixor .u8 (IntKind.u8.wrap v1) (v3.getD (0 + v2.toNat) 0)) (fun x4 => f83_1_l3 F v3 K0 k (ixor .u32 (IntKind.u32.wrap (v1.tdiv 256)) x4) (IntKind.i64.wrap (v2 + 1))) ) none) none) (K0 v1)
noncomputable def f83_1 {β : Type} (F : Nat) (a1 : Int) (a2 : List Int) (K0 : Int → Option β) : Option β := f83_1_l3 F a2 (fun x5 => K0 (ixor .u32 4294967295 x5)) F (ixor .u32 4294967295 a1) 0
variable [FZ]
def sh83_1 : Sh := ⟨[.lf (.int .u32), .lf (.full 0)], [some ⟨none, [.seq (.int .u8) 0]⟩]⟩
noncomputable def S83_1 (F : Nat) (o : Summ) : Summ := mkS sh83_1 (fun d K => f83_1 F d.1.1 d.2.1.2.1 (fun (y0 : Int) => K [.lf (.int .u32 y0)] [some ⟨d.2.1.1, [.seq (.int .u8) 0 d.2.1.2.1]⟩])) o
noncomputable def code83 : Code := bodyOf Tryd.f83
noncomputable def b83_0 : Code := cB (cB (cR (cL (cR (cR (code83))))))
theorem scopes83 : scopesOf code83 = [] := by kernel_rfl
theorem ranges83 : rangesOf code83 = [] := by kernel_rfl
theorem loops83 : loopsOf code83 = [b83_0] := by kernel_rfl
theorem enter83 : ∀ args w, (callFunc 83 args).run Tryd.prog w = .ok (.enter 83 args) w := enter_of (fn := Tryd.f83) (by kernel_rfl) (by kernel_rfl) (by kernel_rfl)
noncomputable def T83_1 (F : Nat) : FuncId → Option Summ := tab [(113, (S113_1 F noS))]
def sh83_1_l3 : Sh := ⟨[.lf (.full 0), .lf (.int .u32), .lf (.int .i64)], [some ⟨none, [.seq (.int .u8) 0]⟩]⟩
noncomputable def G83_1_3 (F k : Nat) : LoopS := mkG sh83_1_l3 [1, 5, 6] (outT [(.exit 0, [5])]) (fun d K => f83_1_l3 F d.2.1.2.1 (fun (y0 : Int) => K (.exit 0) [.tv (.lf (.int .u32 y0))] [some ⟨d.2.1.1, [.seq (.int .u8) 0 d.2.1.2.1]⟩]) k d.1.2.1 d.1.2.2.1) []
noncomputable def LT83_1 (F : Nat) : Nat → Option LoopS := ltab [(3, G83_1_3 F F)]
theorem L83_1_l3g (F k : Nat) (c113_1 : Int → (Int → Option Res) → Option Res)  (l3 : List Int → (Int → Option Res) → Nat → Int → Int → Option Res) (X3 : LoopS) (d : sh83_1_l3.den) (K : KL) : (fun (v3 : List Int) (K0 : (Int → Option Res)) (k : Nat) (v1 : Int) (v2 : Int) => cond (decide (v2 < ((v3.length : Nat) : Int))) (cond (decide ((0 : Int) ≤ v2 ∧ v2 < ((v3.length : Nat) : Int))) (cond (decide (0 + v2.toNat < v3.length)) (c113_1 (ixor .u8 (IntKind.u8.wrap v1) (v3.getD (0 + v2.toNat) 0)) (fun x4 => l3 v3 K0 k (ixor .u32 (IntKind.u32.wrap (v1.tdiv 256)) x4) (IntKind.i64.wrap (v2 + 1))) ) none) none) (K0 v1)) d.2.1.2.1 (fun (y0 : Int) => K (.exit 0) [.tv (.lf (.int .u32 y0))] [some ⟨d.2.1.1, [.seq (.int .u8) 0 d.2.1.2.1]⟩]) k d.1.2.1 d.1.2.2.1 = roundOf Tryd.prog (tab [(113, (mkS sh113_1 (fun d K => c113_1 d.1.1 (fun (y0 : Int) => K [.lf (.int .u32 y0)] [])) noS))]) (xw []) 28 1 (ltab [(3, X3)]) (mkG sh83_1_l3 [1, 5, 6] (outT [(.exit 0, [5])]) (fun d K => l3 d.2.1.2.1 (fun (y0 : Int) => K (.exit 0) [.tv (.lf (.int .u32 y0))] [some ⟨d.2.1.1, [.seq (.int .u8) 0 d.2.1.2.1]⟩]) k d.1.2.1 d.1.2.2.1) []) b83_0 (encT sh83_1_l3.vs d.1) (encH sh83_1_l3.h d.2) K := by kernel_rfl
theorem L83_1_3 (F : Nat) : LoopOK Tryd.prog (T83_1 F) (xw []) 28 1 (LT83_1 F) (G83_1_3 F F) b83_0 :=
  loopOK_of (s := sh83_1_l3) (live := [1, 5, 6]) (out := (outT [(.exit 0, [5])])) (mv := []) (fun k d K => f83_1_l3 F d.2.1.2.1 (fun (y0 : Int) => K (.exit 0) [.tv (.lf (.int .u32 y0))] [some ⟨d.2.1.1, [.seq (.int .u8) 0 d.2.1.2.1]⟩]) k d.1.2.1 d.1.2.2.1) F (fun d K => by kernel_rfl)  (fun k d K => Eq.mp (by kernel_rfl) (L83_1_l3g F k (f113_1 F)  (f83_1_l3 F) (G83_1_3 F F) d K))
theorem E83_1g (F : Nat) (c113_1 : Int → (Int → Option Res) → Option Res) (l3 : List Int → (Int → Option Res) → Nat → Int → Int → Option Res)  (d : sh83_1.den) (K : KF) : evBody Tryd.prog (tab [(113, (mkS sh113_1 (fun d K => c113_1 d.1.1 (fun (y0 : Int) => K [.lf (.int .u32 y0)] [])) noS))]) (xw []) 28 1 (ltab [(3, mkG sh83_1_l3 [1, 5, 6] (outT [(.exit 0, [5])]) (fun d K => l3 d.2.1.2.1 (fun (y0 : Int) => K (.exit 0) [.tv (.lf (.int .u32 y0))] [some ⟨d.2.1.1, [.seq (.int .u8) 0 d.2.1.2.1]⟩]) F d.1.2.1 d.1.2.2.1) [])]) [] code83 Tryd.f83.results.toList (encT sh83_1.vs d.1) (encH sh83_1.h d.2) K = (fun (a1 : Int) (a2 : List Int) (K0 : (Int → Option Res)) => l3 a2 (fun x5 => K0 (ixor .u32 4294967295 x5)) F (ixor .u32 4294967295 a1) 0) d.1.1 d.2.1.2.1 (fun (y0 : Int) => K [.lf (.int .u32 y0)] [some ⟨d.2.1.1, [.seq (.int .u8) 0 d.2.1.2.1]⟩]) := by kernel_rfl
theorem E83_1 (F : Nat) (d : sh83_1.den) (K : KF) : evBody Tryd.prog (T83_1 F) (xw []) 28 1 (LT83_1 F) [] code83 Tryd.f83.results.toList (encT sh83_1.vs d.1) (encH sh83_1.h d.2) K = f83_1 F d.1.1 d.2.1.2.1 (fun (y0 : Int) => K [.lf (.int .u32 y0)] [some ⟨d.2.1.1, [.seq (.int .u8) 0 d.2.1.2.1]⟩]) := Eq.mp (by kernel_rfl) (E83_1g F (f113_1 F) (f83_1_l3 F)  d K)
theorem S83_1_ok (F : Nat) (o : Summ) (ho : SoundFn Tryd.prog 83 o) : SoundFn Tryd.prog 83 (S83_1 F o) :=
  soundFn_of (fn := Tryd.f83) (c := code83) rfl rfl (by kernel_rfl) (tab_cons (S113_1_ok F _ (noS_sound enter113)) tab_nil) (by kernel_rfl) (by kernel_rfl) ho (by rw [loops83]; exact (loopsOK_cons (by kernel_rfl) (L83_1_3 F) loopsOK_nil)) (by rw [scopes83]; exact scopesOK_nil) (by rw [ranges83]; exact rangesOK_nil) (E83_1 F)
end Go.Proofs.YtillbabmlfjegaaDoor.X
end

section
namespace Go.Proofs.YtillbabmlfjegaaDoor.X
open Go Go.Proofs.YtillbabmlfjegaaDoor.Ev Go.Proofs
set_option linter.unusedVariables false
set_option linter.unusedSectionVars false
/-! pentimentoref02.Sum -/
noncomputable def f42_1 {β : Type} (F : Nat) (a1 : List Int) (K0 : Int → Option β) : Option β := f83_1 F 0 a1 (fun x1 => K0 x1) 
variable [FZ]
def sh42_1 : Sh := ⟨[.lf (.full 0)], [some ⟨none, [.seq (.int .u8) 0]⟩]⟩
noncomputable def S42_1 (F : Nat) (o : Summ) : Summ := mkS sh42_1 (fun d K => f42_1 F d.2.1.2.1 (fun (y0 : Int) => K [.lf (.int .u32 y0)] [some ⟨d.2.1.1, [.seq (.int .u8) 0 d.2.1.2.1]⟩])) o
noncomputable def code42 : Code := bodyOf Tryd.f42
theorem scopes42 : scopesOf code42 = [] := by kernel_rfl
theorem ranges42 : rangesOf code42 = [] := by kernel_rfl
theorem loops42 : loopsOf code42 = [] := by kernel_rfl
theorem enter42 : ∀ args w, (callFunc 42 args).run Tryd.prog w = .ok (.enter 42 args) w := enter_of (fn := Tryd.f42) (by kernel_rfl) (by kernel_rfl) (by kernel_rfl)
noncomputable def T42_1 (F : Nat) : FuncId → Option Summ := tab [(83, (S83_1 F noS))]
noncomputable def LT42_1 (F : Nat) : Nat → Option LoopS := ltab []
theorem E42_1g (F : Nat) (c83_1 : Int → List Int → (Int → Option Res) → Option Res)   (d : sh42_1.den) (K : KF) : evBody Tryd.prog (tab [(83, (mkS sh83_1 (fun d K => c83_1 d.1.1 d.2.1.2.1 (fun (y0 : Int) => K [.lf (.int .u32 y0)] [some ⟨d.2.1.1, [.seq (.int .u8) 0 d.2.1.2.1]⟩])) noS))]) (xw []) 5 1 (ltab []) [] code42 Tryd.f42.results.toList (encT sh42_1.vs d.1) (encH sh42_1.h d.2) K = (fun (a1 : List Int) (K0 : (Int → Option Res)) => c83_1 0 a1 (fun x1 => K0 x1) ) d.2.1.2.1 (fun (y0 : Int) => K [.lf (.int .u32 y0)] [some ⟨d.2.1.1, [.seq (.int .u8) 0 d.2.1.2.1]⟩]) := by kernel_rfl
theorem E42_1 (F : Nat) (d : sh42_1.den) (K : KF) : evBody Tryd.prog (T42_1 F) (xw []) 5 1 (LT42_1 F) [] code42 Tryd.f42.results.toList (encT sh42_1.vs d.1) (encH sh42_1.h d.2) K = f42_1 F d.2.1.2.1 (fun (y0 : Int) => K [.lf (.int .u32 y0)] [some ⟨d.2.1.1, [.seq (.int .u8) 0 d.2.1.2.1]⟩]) := Eq.mp (by kernel_rfl) (E42_1g F (f83_1 F)   d K)
theorem S42_1_ok (F : Nat) (o : Summ) (ho : SoundFn Tryd.prog 42 o) : SoundFn Tryd.prog 42 (S42_1 F o) :=
  soundFn_of (fn := Tryd.f42) (c := code42) rfl rfl (by kernel_rfl) (tab_cons (S83_1_ok F _ (noS_sound enter83)) tab_nil) (by kernel_rfl) (by kernel_rfl) ho (by rw [loops42]; exact loopsOK_nil) (by rw [scopes42]; exact scopesOK_nil) (by rw [ranges42]; exact rangesOK_nil) (E42_1 F)
end Go.Proofs.YtillbabmlfjegaaDoor.X
end

section
namespace Go.Proofs.YtillbabmlfjegaaDoor.X
open Go Go.Proofs.YtillbabmlfjegaaDoor.Ev Go.Proofs
set_option linter.unusedVariables false
set_option linter.unusedSectionVars false
/-! pentimentoref08.Make -/
noncomputable def f11_1 {β : Type} (F : Nat) (a1 : Int) (a2 : ByteArray) (K0 : ByteArray → Int → Option β) : Option β := cond (decide (a1 < 1)) (K0 ByteArray.empty 22) (cond (decide (a1 > 8)) (K0 ByteArray.empty 22) (cond (decide ((a2.size : Int) > 58)) (K0 ByteArray.empty 8) (f40_1 F 1 (IntKind.u64.wrap a1) (fun x1 => f40_1 F 1 (IntKind.u64.wrap (a2.size : Int)) (fun x2 => cond (decide (x1.size + x2.size ≤ 4611686018427387904)) (cond (decide ((x1 ++ x2).size + a2.size ≤ 4611686018427387904)) (f41_1 F  (fun x3 => cond (decide ((0 : Int) ≤ (((x1 ++ x2) ++ a2).size : Int) ∧ (((x1 ++ x2) ++ a2).size : Int) ≤ (60 : Int) ∧ (60 : Int) ≤ (x3.size : Int))) (cond (decide (((x1 ++ x2) ++ a2).size + (x3.extract ((((x1 ++ x2) ++ a2).size : Int).toNat) 60).size ≤ 4611686018427387904)) (f42_1 F (toInts (((x1 ++ x2) ++ a2) ++ (x3.extract ((((x1 ++ x2) ++ a2).size : Int).toNat) 60))) (fun x4 => f40_1 F 4 (IntKind.u64.wrap x4) (fun x5 => cond (decide ((((x1 ++ x2) ++ a2) ++ (x3.extract ((((x1 ++ x2) ++ a2).size : Int).toNat) 60)).size + x5.size ≤ 4611686018427387904)) (K0 ((((x1 ++ x2) ++ a2) ++ (x3.extract ((((x1 ++ x2) ++ a2).size : Int).toNat) 60)) ++ x5) 0) none) ) ) none) none) ) none) none) ) )))
variable [FZ]
def sh11_1 : Sh := ⟨[.lf (.int .i64), .lf (.str)], []⟩
noncomputable def S11_1 (F : Nat) (o : Summ) : Summ := mkS sh11_1 (fun d K => f11_1 F d.1.1 d.1.2.1 (fun (y0 : ByteArray) (y1 : Int) => K [.lf (.str y0), .lf (.int .i64 y1)] [])) o
noncomputable def code11 : Code := bodyOf Tryd.f11
theorem scopes11 : scopesOf code11 = [] := by kernel_rfl
theorem ranges11 : rangesOf code11 = [] := by kernel_rfl
theorem loops11 : loopsOf code11 = [] := by kernel_rfl
theorem enter11 : ∀ args w, (callFunc 11 args).run Tryd.prog w = .ok (.enter 11 args) w := enter_of (fn := Tryd.f11) (by kernel_rfl) (by kernel_rfl) (by kernel_rfl)
noncomputable def T11_1 (F : Nat) : FuncId → Option Summ := tab [(40, (S40_1 F noS)), (41, (S41_1 F noS)), (42, (S42_1 F noS))]
noncomputable def LT11_1 (F : Nat) : Nat → Option LoopS := ltab []
theorem E11_1g (F : Nat) (c40_1 : Int → Int → (ByteArray → Option Res) → Option Res) (c41_1 : (ByteArray → Option Res) → Option Res) (c42_1 : List Int → (Int → Option Res) → Option Res)   (d : sh11_1.den) (K : KF) : evBody Tryd.prog (tab [(40, (mkS sh40_1 (fun d K => c40_1 d.1.1 d.1.2.1 (fun (y0 : ByteArray) => K [.lf (.str y0)] [])) noS)), (41, (mkS sh41_1 (fun d K => c41_1 (fun (y0 : ByteArray) => K [.lf (.str y0)] [])) noS)), (42, (mkS sh42_1 (fun d K => c42_1 d.2.1.2.1 (fun (y0 : Int) => K [.lf (.int .u32 y0)] [some ⟨d.2.1.1, [.seq (.int .u8) 0 d.2.1.2.1]⟩])) noS))]) (xw []) 41 0 (ltab []) [] code11 Tryd.f11.results.toList (encT sh11_1.vs d.1) (encH sh11_1.h d.2) K = (fun (a1 : Int) (a2 : ByteArray) (K0 : (ByteArray → Int → Option Res)) => cond (decide (a1 < 1)) (K0 ByteArray.empty 22) (cond (decide (a1 > 8)) (K0 ByteArray.empty 22) (cond (decide ((a2.size : Int) > 58)) (K0 ByteArray.empty 8) (c40_1 1 (IntKind.u64.wrap a1) (fun x1 => c40_1 1 (IntKind.u64.wrap (a2.size : Int)) (fun x2 => cond (decide (x1.size + x2.size ≤ 4611686018427387904)) (cond (decide ((x1 ++ x2).size + a2.size ≤ 4611686018427387904)) (c41_1  (fun x3 => cond (decide ((0 : Int) ≤ (((x1 ++ x2) ++ a2).size : Int) ∧ (((x1 ++ x2) ++ a2).size : Int) ≤ (60 : Int) ∧ (60 : Int) ≤ (x3.size : Int))) (cond (decide (((x1 ++ x2) ++ a2).size + (x3.extract ((((x1 ++ x2) ++ a2).size : Int).toNat) 60).size ≤ 4611686018427387904)) (c42_1 (toInts (((x1 ++ x2) ++ a2) ++ (x3.extract ((((x1 ++ x2) ++ a2).size : Int).toNat) 60))) (fun x4 => c40_1 4 (IntKind.u64.wrap x4) (fun x5 => cond (decide ((((x1 ++ x2) ++ a2) ++ (x3.extract ((((x1 ++ x2) ++ a2).size : Int).toNat) 60)).size + x5.size ≤ 4611686018427387904)) (K0 ((((x1 ++ x2) ++ a2) ++ (x3.extract ((((x1 ++ x2) ++ a2).size : Int).toNat) 60)) ++ x5) 0) none) ) ) none) none) ) none) none) ) )))) d.1.1 d.1.2.1 (fun (y0 : ByteArray) (y1 : Int) => K [.lf (.str y0), .lf (.int .i64 y1)] []) := by kernel_rfl
theorem E11_1 (F : Nat) (d : sh11_1.den) (K : KF) : evBody Tryd.prog (T11_1 F) (xw []) 41 0 (LT11_1 F) [] code11 Tryd.f11.results.toList (encT sh11_1.vs d.1) (encH sh11_1.h d.2) K = f11_1 F d.1.1 d.1.2.1 (fun (y0 : ByteArray) (y1 : Int) => K [.lf (.str y0), .lf (.int .i64 y1)] []) := Eq.mp (by kernel_rfl) (E11_1g F (f40_1 F) (f41_1 F) (f42_1 F)   d K)
theorem S11_1_ok (F : Nat) (o : Summ) (ho : SoundFn Tryd.prog 11 o) : SoundFn Tryd.prog 11 (S11_1 F o) :=
  soundFn_of (fn := Tryd.f11) (c := code11) rfl rfl (by kernel_rfl) (tab_cons (S40_1_ok F _ (noS_sound enter40)) (tab_cons (S41_1_ok F _ (noS_sound enter41)) (tab_cons (S42_1_ok F _ (noS_sound enter42)) tab_nil))) (by kernel_rfl) (by kernel_rfl) ho (by rw [loops11]; exact loopsOK_nil) (by rw [scopes11]; exact scopesOK_nil) (by rw [ranges11]; exact rangesOK_nil) (E11_1 F)
end Go.Proofs.YtillbabmlfjegaaDoor.X
end

section
namespace Go.Proofs.YtillbabmlfjegaaDoor.X
open Go Go.Proofs.YtillbabmlfjegaaDoor.Ev Go.Proofs
set_option linter.unusedVariables false
set_option linter.unusedSectionVars false
/-! pentimentoref07.Right -/
noncomputable def f48_1 {β : Type} (F : Nat) (a1 : Int) (a2 : Int) (a3 : Int) (a4 : Int) (K0 : Bool → Option β) : Option β := cond (decide (a1 ≥ 1)) (cond (decide (a1 ≤ 128)) (cond (decide (a2 ≥ 2)) (cond (decide (a2 ≤ 4)) (cond (decide (a3 ≥ 0)) (cond (decide (a3 ≤ 64)) (cond (decide (a4 ≥ 1)) (K0 (decide (a4 ≤ 320))) (K0 false)) (K0 false)) (K0 false)) (K0 false)) (K0 false)) (K0 false)) (K0 false)
variable [FZ]
def sh48_1 : Sh := ⟨[.agg [.int .i64, .int .i64, .int .i64, .int .i64]], []⟩
noncomputable def S48_1 (F : Nat) (o : Summ) : Summ := mkS sh48_1 (fun d K => f48_1 F d.1.1.1 d.1.1.2.1 d.1.1.2.2.1 d.1.1.2.2.2.1 (fun (y0 : Bool) => K [.lf (.bool y0)] [])) o
noncomputable def code48 : Code := bodyOf Tryd.f48
theorem scopes48 : scopesOf code48 = [] := by kernel_rfl
theorem ranges48 : rangesOf code48 = [] := by kernel_rfl
theorem loops48 : loopsOf code48 = [] := by kernel_rfl
theorem enter48 : ∀ args w, (callFunc 48 args).run Tryd.prog w = .ok (.enter 48 args) w := enter_of (fn := Tryd.f48) (by kernel_rfl) (by kernel_rfl) (by kernel_rfl)
noncomputable def T48_1 (F : Nat) : FuncId → Option Summ := tab []
noncomputable def LT48_1 (F : Nat) : Nat → Option LoopS := ltab []
theorem E48_1g (F : Nat)    (d : sh48_1.den) (K : KF) : evBody Tryd.prog (tab []) (xw []) 41 0 (ltab []) [] code48 Tryd.f48.results.toList (encT sh48_1.vs d.1) (encH sh48_1.h d.2) K = (fun (a1 : Int) (a2 : Int) (a3 : Int) (a4 : Int) (K0 : (Bool → Option Res)) => cond (decide (a1 ≥ 1)) (cond (decide (a1 ≤ 128)) (cond (decide (a2 ≥ 2)) (cond (decide (a2 ≤ 4)) (cond (decide (a3 ≥ 0)) (cond (decide (a3 ≤ 64)) (cond (decide (a4 ≥ 1)) (K0 (decide (a4 ≤ 320))) (K0 false)) (K0 false)) (K0 false)) (K0 false)) (K0 false)) (K0 false)) (K0 false)) d.1.1.1 d.1.1.2.1 d.1.1.2.2.1 d.1.1.2.2.2.1 (fun (y0 : Bool) => K [.lf (.bool y0)] []) := by kernel_rfl
theorem E48_1 (F : Nat) (d : sh48_1.den) (K : KF) : evBody Tryd.prog (T48_1 F) (xw []) 41 0 (LT48_1 F) [] code48 Tryd.f48.results.toList (encT sh48_1.vs d.1) (encH sh48_1.h d.2) K = f48_1 F d.1.1.1 d.1.1.2.1 d.1.1.2.2.1 d.1.1.2.2.2.1 (fun (y0 : Bool) => K [.lf (.bool y0)] []) := Eq.mp (by kernel_rfl) (E48_1g F    d K)
theorem S48_1_ok (F : Nat) (o : Summ) (ho : SoundFn Tryd.prog 48 o) : SoundFn Tryd.prog 48 (S48_1 F o) :=
  soundFn_of (fn := Tryd.f48) (c := code48) rfl rfl (by kernel_rfl) tab_nil (by kernel_rfl) (by kernel_rfl) ho (by rw [loops48]; exact loopsOK_nil) (by rw [scopes48]; exact scopesOK_nil) (by rw [ranges48]; exact rangesOK_nil) (E48_1 F)
end Go.Proofs.YtillbabmlfjegaaDoor.X
end

section
namespace Go.Proofs.YtillbabmlfjegaaDoor.X
open Go Go.Proofs.YtillbabmlfjegaaDoor.Ev Go.Proofs
set_option linter.unusedVariables false
set_option linter.unusedSectionVars false
/-! pentimentoref08.Volume -/
noncomputable def f18_1 {β : Type} (F : Nat) (a1 : Int) (a2 : Int) (a3 : Int) (a4 : Int) (a5 : Int) (a6 : Int) (a7 : Int) (K0 : ByteArray → Int → Option β) : Option β := cond (a1 != 0) (cond (a1 != 1) (K0 ByteArray.empty 2) (f48_1 F a3 a4 a5 a6 (fun x1 => cond (!x1) (K0 ByteArray.empty 12) (cond (decide (a7 < 1)) (K0 ByteArray.empty 14) (cond (decide (a7 > 281474976710656)) (K0 ByteArray.empty 14) (f40_1 F 1 (IntKind.u64.wrap a1) (fun x2 => f40_1 F 4 (IntKind.u64.wrap a2) (fun x3 => cond (decide (x2.size + x3.size ≤ 4611686018427387904)) (f40_1 F 2 (IntKind.u64.wrap a3) (fun x4 => cond (decide ((x2 ++ x3).size + x4.size ≤ 4611686018427387904)) (f40_1 F 1 (IntKind.u64.wrap a4) (fun x5 => cond (decide (((x2 ++ x3) ++ x4).size + x5.size ≤ 4611686018427387904)) (f40_1 F 2 (IntKind.u64.wrap a5) (fun x6 => cond (decide ((((x2 ++ x3) ++ x4) ++ x5).size + x6.size ≤ 4611686018427387904)) (f40_1 F 2 (IntKind.u64.wrap a6) (fun x7 => cond (decide (((((x2 ++ x3) ++ x4) ++ x5) ++ x6).size + x7.size ≤ 4611686018427387904)) (f40_1 F 8 a7 (fun x8 => cond (decide ((((((x2 ++ x3) ++ x4) ++ x5) ++ x6) ++ x7).size + x8.size ≤ 4611686018427387904)) (f11_1 F 1 ((((((x2 ++ x3) ++ x4) ++ x5) ++ x6) ++ x7) ++ x8) (fun x9 x10 => K0 x9 x10) ) none) ) none) ) none) ) none) ) none) ) none) ) )))) )) (f48_1 F a3 a4 a5 a6 (fun x11 => cond (!x11) (K0 ByteArray.empty 12) (cond (decide (a7 < 1)) (K0 ByteArray.empty 14) (cond (decide (a7 > 281474976710656)) (K0 ByteArray.empty 14) (f40_1 F 1 (IntKind.u64.wrap a1) (fun x12 => f40_1 F 4 (IntKind.u64.wrap a2) (fun x13 => cond (decide (x12.size + x13.size ≤ 4611686018427387904)) (f40_1 F 2 (IntKind.u64.wrap a3) (fun x14 => cond (decide ((x12 ++ x13).size + x14.size ≤ 4611686018427387904)) (f40_1 F 1 (IntKind.u64.wrap a4) (fun x15 => cond (decide (((x12 ++ x13) ++ x14).size + x15.size ≤ 4611686018427387904)) (f40_1 F 2 (IntKind.u64.wrap a5) (fun x16 => cond (decide ((((x12 ++ x13) ++ x14) ++ x15).size + x16.size ≤ 4611686018427387904)) (f40_1 F 2 (IntKind.u64.wrap a6) (fun x17 => cond (decide (((((x12 ++ x13) ++ x14) ++ x15) ++ x16).size + x17.size ≤ 4611686018427387904)) (f40_1 F 8 a7 (fun x18 => cond (decide ((((((x12 ++ x13) ++ x14) ++ x15) ++ x16) ++ x17).size + x18.size ≤ 4611686018427387904)) (f11_1 F 1 ((((((x12 ++ x13) ++ x14) ++ x15) ++ x16) ++ x17) ++ x18) (fun x19 x20 => K0 x19 x20) ) none) ) none) ) none) ) none) ) none) ) none) ) )))) )
variable [FZ]
def sh18_1 : Sh := ⟨[.lf (.int .i64), .agg [.int .u32, .int .i64, .int .i64, .int .i64, .int .i64, .int .u64]], []⟩
noncomputable def S18_1 (F : Nat) (o : Summ) : Summ := mkS sh18_1 (fun d K => f18_1 F d.1.1 d.1.2.1.1 d.1.2.1.2.1 d.1.2.1.2.2.1 d.1.2.1.2.2.2.1 d.1.2.1.2.2.2.2.1 d.1.2.1.2.2.2.2.2.1 (fun (y0 : ByteArray) (y1 : Int) => K [.lf (.str y0), .lf (.int .i64 y1)] [])) o
noncomputable def code18 : Code := bodyOf Tryd.f18
theorem scopes18 : scopesOf code18 = [] := by kernel_rfl
theorem ranges18 : rangesOf code18 = [] := by kernel_rfl
theorem loops18 : loopsOf code18 = [] := by kernel_rfl
theorem enter18 : ∀ args w, (callFunc 18 args).run Tryd.prog w = .ok (.enter 18 args) w := enter_of (fn := Tryd.f18) (by kernel_rfl) (by kernel_rfl) (by kernel_rfl)
noncomputable def T18_1 (F : Nat) : FuncId → Option Summ := tab [(11, (S11_1 F noS)), (40, (S40_1 F noS)), (48, (S48_1 F noS))]
noncomputable def LT18_1 (F : Nat) : Nat → Option LoopS := ltab []
theorem E18_1g (F : Nat) (c11_1 : Int → ByteArray → (ByteArray → Int → Option Res) → Option Res) (c40_1 : Int → Int → (ByteArray → Option Res) → Option Res) (c48_1 : Int → Int → Int → Int → (Bool → Option Res) → Option Res)   (d : sh18_1.den) (K : KF) : evBody Tryd.prog (tab [(11, (mkS sh11_1 (fun d K => c11_1 d.1.1 d.1.2.1 (fun (y0 : ByteArray) (y1 : Int) => K [.lf (.str y0), .lf (.int .i64 y1)] [])) noS)), (40, (mkS sh40_1 (fun d K => c40_1 d.1.1 d.1.2.1 (fun (y0 : ByteArray) => K [.lf (.str y0)] [])) noS)), (48, (mkS sh48_1 (fun d K => c48_1 d.1.1.1 d.1.1.2.1 d.1.1.2.2.1 d.1.1.2.2.2.1 (fun (y0 : Bool) => K [.lf (.bool y0)] [])) noS))]) (xw []) 65 0 (ltab []) [] code18 Tryd.f18.results.toList (encT sh18_1.vs d.1) (encH sh18_1.h d.2) K = (fun (a1 : Int) (a2 : Int) (a3 : Int) (a4 : Int) (a5 : Int) (a6 : Int) (a7 : Int) (K0 : (ByteArray → Int → Option Res)) => cond (a1 != 0) (cond (a1 != 1) (K0 ByteArray.empty 2) (c48_1 a3 a4 a5 a6 (fun x1 => cond (!x1) (K0 ByteArray.empty 12) (cond (decide (a7 < 1)) (K0 ByteArray.empty 14) (cond (decide (a7 > 281474976710656)) (K0 ByteArray.empty 14) (c40_1 1 (IntKind.u64.wrap a1) (fun x2 => c40_1 4 (IntKind.u64.wrap a2) (fun x3 => cond (decide (x2.size + x3.size ≤ 4611686018427387904)) (c40_1 2 (IntKind.u64.wrap a3) (fun x4 => cond (decide ((x2 ++ x3).size + x4.size ≤ 4611686018427387904)) (c40_1 1 (IntKind.u64.wrap a4) (fun x5 => cond (decide (((x2 ++ x3) ++ x4).size + x5.size ≤ 4611686018427387904)) (c40_1 2 (IntKind.u64.wrap a5) (fun x6 => cond (decide ((((x2 ++ x3) ++ x4) ++ x5).size + x6.size ≤ 4611686018427387904)) (c40_1 2 (IntKind.u64.wrap a6) (fun x7 => cond (decide (((((x2 ++ x3) ++ x4) ++ x5) ++ x6).size + x7.size ≤ 4611686018427387904)) (c40_1 8 a7 (fun x8 => cond (decide ((((((x2 ++ x3) ++ x4) ++ x5) ++ x6) ++ x7).size + x8.size ≤ 4611686018427387904)) (c11_1 1 ((((((x2 ++ x3) ++ x4) ++ x5) ++ x6) ++ x7) ++ x8) (fun x9 x10 => K0 x9 x10) ) none) ) none) ) none) ) none) ) none) ) none) ) )))) )) (c48_1 a3 a4 a5 a6 (fun x11 => cond (!x11) (K0 ByteArray.empty 12) (cond (decide (a7 < 1)) (K0 ByteArray.empty 14) (cond (decide (a7 > 281474976710656)) (K0 ByteArray.empty 14) (c40_1 1 (IntKind.u64.wrap a1) (fun x12 => c40_1 4 (IntKind.u64.wrap a2) (fun x13 => cond (decide (x12.size + x13.size ≤ 4611686018427387904)) (c40_1 2 (IntKind.u64.wrap a3) (fun x14 => cond (decide ((x12 ++ x13).size + x14.size ≤ 4611686018427387904)) (c40_1 1 (IntKind.u64.wrap a4) (fun x15 => cond (decide (((x12 ++ x13) ++ x14).size + x15.size ≤ 4611686018427387904)) (c40_1 2 (IntKind.u64.wrap a5) (fun x16 => cond (decide ((((x12 ++ x13) ++ x14) ++ x15).size + x16.size ≤ 4611686018427387904)) (c40_1 2 (IntKind.u64.wrap a6) (fun x17 => cond (decide (((((x12 ++ x13) ++ x14) ++ x15) ++ x16).size + x17.size ≤ 4611686018427387904)) (c40_1 8 a7 (fun x18 => cond (decide ((((((x12 ++ x13) ++ x14) ++ x15) ++ x16) ++ x17).size + x18.size ≤ 4611686018427387904)) (c11_1 1 ((((((x12 ++ x13) ++ x14) ++ x15) ++ x16) ++ x17) ++ x18) (fun x19 x20 => K0 x19 x20) ) none) ) none) ) none) ) none) ) none) ) none) ) )))) )) d.1.1 d.1.2.1.1 d.1.2.1.2.1 d.1.2.1.2.2.1 d.1.2.1.2.2.2.1 d.1.2.1.2.2.2.2.1 d.1.2.1.2.2.2.2.2.1 (fun (y0 : ByteArray) (y1 : Int) => K [.lf (.str y0), .lf (.int .i64 y1)] []) := by kernel_rfl
theorem E18_1 (F : Nat) (d : sh18_1.den) (K : KF) : evBody Tryd.prog (T18_1 F) (xw []) 65 0 (LT18_1 F) [] code18 Tryd.f18.results.toList (encT sh18_1.vs d.1) (encH sh18_1.h d.2) K = f18_1 F d.1.1 d.1.2.1.1 d.1.2.1.2.1 d.1.2.1.2.2.1 d.1.2.1.2.2.2.1 d.1.2.1.2.2.2.2.1 d.1.2.1.2.2.2.2.2.1 (fun (y0 : ByteArray) (y1 : Int) => K [.lf (.str y0), .lf (.int .i64 y1)] []) := Eq.mp (by kernel_rfl) (E18_1g F (f11_1 F) (f40_1 F) (f48_1 F)   d K)
theorem S18_1_ok (F : Nat) (o : Summ) (ho : SoundFn Tryd.prog 18 o) : SoundFn Tryd.prog 18 (S18_1 F o) :=
  soundFn_of (fn := Tryd.f18) (c := code18) rfl rfl (by kernel_rfl) (tab_cons (S11_1_ok F _ (noS_sound enter11)) (tab_cons (S40_1_ok F _ (noS_sound enter40)) (tab_cons (S48_1_ok F _ (noS_sound enter48)) tab_nil))) (by kernel_rfl) (by kernel_rfl) ho (by rw [loops18]; exact loopsOK_nil) (by rw [scopes18]; exact scopesOK_nil) (by rw [ranges18]; exact rangesOK_nil) (E18_1 F)
end Go.Proofs.YtillbabmlfjegaaDoor.X
end

section
namespace Go.Proofs.YtillbabmlfjegaaDoor.X
open Go Go.Proofs.YtillbabmlfjegaaDoor.Ev Go.Proofs
set_option linter.unusedVariables false
set_option linter.unusedSectionVars false
/-! word.New -/
noncomputable def f49_1 {β : Type} (F : Nat) (a1 : List Int) (K0 : List Int → Option β) : Option β := cond (decide ((0 + a1.length) * 1 ≤ 70368744177664)) (K0 ([] ++ a1)) none
variable [FZ]
def sh49_1 : Sh := ⟨[.lf (.full 0)], [some ⟨none, [.seq (.int .u8) 0]⟩]⟩
noncomputable def S49_1 (F : Nat) (o : Summ) : Summ := mkS sh49_1 (fun d K => f49_1 F d.2.1.2.1 (fun (y2 : List Int) => K [.lf (.ptr 1 0)] [some ⟨d.2.1.1, [.seq (.int .u8) 0 d.2.1.2.1]⟩, some ⟨false, [.full 2, .int .i64 0]⟩, some ⟨false, [.seq (.int .u8) 0 y2]⟩])) o
noncomputable def code49 : Code := bodyOf Tryd.f49
theorem scopes49 : scopesOf code49 = [] := by kernel_rfl
theorem ranges49 : rangesOf code49 = [] := by kernel_rfl
theorem loops49 : loopsOf code49 = [] := by kernel_rfl
theorem enter49 : ∀ args w, (callFunc 49 args).run Tryd.prog w = .ok (.enter 49 args) w := enter_of (fn := Tryd.f49) (by kernel_rfl) (by kernel_rfl) (by kernel_rfl)
noncomputable def T49_1 (F : Nat) : FuncId → Option Summ := tab []
noncomputable def LT49_1 (F : Nat) : Nat → Option LoopS := ltab []
theorem E49_1g (F : Nat)    (d : sh49_1.den) (K : KF) : evBody Tryd.prog (tab []) (xw []) 8 1 (ltab []) [] code49 Tryd.f49.results.toList (encT sh49_1.vs d.1) (encH sh49_1.h d.2) K = (fun (a1 : List Int) (K0 : (List Int → Option Res)) => cond (decide ((0 + a1.length) * 1 ≤ 70368744177664)) (K0 ([] ++ a1)) none) d.2.1.2.1 (fun (y2 : List Int) => K [.lf (.ptr 1 0)] [some ⟨d.2.1.1, [.seq (.int .u8) 0 d.2.1.2.1]⟩, some ⟨false, [.full 2, .int .i64 0]⟩, some ⟨false, [.seq (.int .u8) 0 y2]⟩]) := by kernel_rfl
theorem E49_1 (F : Nat) (d : sh49_1.den) (K : KF) : evBody Tryd.prog (T49_1 F) (xw []) 8 1 (LT49_1 F) [] code49 Tryd.f49.results.toList (encT sh49_1.vs d.1) (encH sh49_1.h d.2) K = f49_1 F d.2.1.2.1 (fun (y2 : List Int) => K [.lf (.ptr 1 0)] [some ⟨d.2.1.1, [.seq (.int .u8) 0 d.2.1.2.1]⟩, some ⟨false, [.full 2, .int .i64 0]⟩, some ⟨false, [.seq (.int .u8) 0 y2]⟩]) := Eq.mp (by kernel_rfl) (E49_1g F    d K)
theorem S49_1_ok (F : Nat) (o : Summ) (ho : SoundFn Tryd.prog 49 o) : SoundFn Tryd.prog 49 (S49_1 F o) :=
  soundFn_of (fn := Tryd.f49) (c := code49) rfl rfl (by kernel_rfl) tab_nil (by kernel_rfl) (by kernel_rfl) ho (by rw [loops49]; exact loopsOK_nil) (by rw [scopes49]; exact scopesOK_nil) (by rw [ranges49]; exact rangesOK_nil) (E49_1 F)
end Go.Proofs.YtillbabmlfjegaaDoor.X
end

section
namespace Go.Proofs.YtillbabmlfjegaaDoor.X
open Go Go.Proofs.YtillbabmlfjegaaDoor.Ev Go.Proofs
set_option linter.unusedVariables false
set_option linter.unusedSectionVars false
/-! word.Get -/
noncomputable def f93_1_l7 {β : Type} (F : Nat) (v3 : Nat) (v4 : Nat) (v5 : Int) (v7 : List Int) (K0 : Int → Option β) : Nat → Int → Int → Option β
  | 0, _, _ => none
  | k + 1, v2, v6 => cond (decide (v6 < v5)) (cond (decide ((0 : Int) ≤ v6 ∧ v6 < ((v4 : Nat) : Int))) (cond (decide (v3 + v6.toNat < v7.length)) (f93_1_l7 F v3 v4 v5 v7 K0 k (ior .u64 (ishl .u64 v2 8) (IntKind.u64.wrap (v7.getD (v3 + v6.toNat) 0))) (IntKind.i64.wrap (v6 + 1))) none) none) (K0 v2)
noncomputable def f93_1 {β : Type} (F : Nat) (a1 : Int) (a2 : Int) (a3 : List Int) (K0 : Int → Int → Option β) : Option β := f92_1 F a2 (fun x1 => cond (!x1) (K0 0 2) (cond (decide (a1 < 0)) (K0 0 2) (cond (decide (a1 > ((a3.length : Nat) : Int))) (K0 0 7) (cond (decide (IntKind.i64.wrap (((a3.length : Nat) : Int) - a1) < a2)) (K0 0 7) (cond (decide ((0 : Int) ≤ a1 ∧ a1 ≤ IntKind.i64.wrap (a1 + a2) ∧ IntKind.i64.wrap (a1 + a2) ≤ ((a3.length : Nat) : Int))) (f93_1_l7 F (0 + a1.toNat) ((IntKind.i64.wrap (a1 + a2) - a1).toNat) (((IntKind.i64.wrap (a1 + a2) - a1).toNat : Nat) : Int) a3 (fun x8 => K0 x8 0) F 0 0) none))))) 
variable [FZ]
def sh93_1 : Sh := ⟨[.lf (.full 0), .lf (.int .i64), .lf (.int .i64)], [some ⟨none, [.seq (.int .u8) 0]⟩]⟩
noncomputable def S93_1 (F : Nat) (o : Summ) : Summ := mkS sh93_1 (fun d K => f93_1 F d.1.2.1 d.1.2.2.1 d.2.1.2.1 (fun (y0 : Int) (y1 : Int) => K [.lf (.int .u64 y0), .lf (.int .i64 y1)] [some ⟨d.2.1.1, [.seq (.int .u8) 0 d.2.1.2.1]⟩])) o
noncomputable def code93 : Code := bodyOf Tryd.f93
noncomputable def b93_0 : Code := cB (cB (cR (cL (cR (cR (cR (code93)))))))
theorem scopes93 : scopesOf code93 = [] := by kernel_rfl
theorem ranges93 : rangesOf code93 = [] := by kernel_rfl
theorem loops93 : loopsOf code93 = [b93_0] := by kernel_rfl
theorem enter93 : ∀ args w, (callFunc 93 args).run Tryd.prog w = .ok (.enter 93 args) w := enter_of (fn := Tryd.f93) (by kernel_rfl) (by kernel_rfl) (by kernel_rfl)
noncomputable def T93_1 (F : Nat) : FuncId → Option Summ := tab [(92, (S92_1 F noS))]
def sh93_1_l7 : Sh := ⟨[.lf (.int .u64), .lf (.slice 0 0), .lf (.int .i64), .lf (.int .i64)], [some ⟨none, [.seq (.int .u8) 0]⟩]⟩
noncomputable def G93_1_7 (F k : Nat) : LoopS := mkG sh93_1_l7 [8, 37, 38, 39] (outT [(.exit 1, [8])]) (fun d K => f93_1_l7 F d.1.2.1.1 d.1.2.1.2 d.1.2.2.1 d.2.1.2.1 (fun (y0 : Int) => K (.exit 1) [.tv (.lf (.int .u64 y0))] [some ⟨d.2.1.1, [.seq (.int .u8) 0 d.2.1.2.1]⟩]) k d.1.1 d.1.2.2.2.1) []
noncomputable def LT93_1 (F : Nat) : Nat → Option LoopS := ltab [(7, G93_1_7 F F)]
theorem L93_1_l7g (F k : Nat) (c92_1 : Int → (Bool → Option Res) → Option Res)  (l7 : Nat → Nat → Int → List Int → (Int → Option Res) → Nat → Int → Int → Option Res) (X7 : LoopS) (d : sh93_1_l7.den) (K : KL) : (fun (v3 : Nat) (v4 : Nat) (v5 : Int) (v7 : List Int) (K0 : (Int → Option Res)) (k : Nat) (v2 : Int) (v6 : Int) => cond (decide (v6 < v5)) (cond (decide ((0 : Int) ≤ v6 ∧ v6 < ((v4 : Nat) : Int))) (cond (decide (v3 + v6.toNat < v7.length)) (l7 v3 v4 v5 v7 K0 k (ior .u64 (ishl .u64 v2 8) (IntKind.u64.wrap (v7.getD (v3 + v6.toNat) 0))) (IntKind.i64.wrap (v6 + 1))) none) none) (K0 v2)) d.1.2.1.1 d.1.2.1.2 d.1.2.2.1 d.2.1.2.1 (fun (y0 : Int) => K (.exit 1) [.tv (.lf (.int .u64 y0))] [some ⟨d.2.1.1, [.seq (.int .u8) 0 d.2.1.2.1]⟩]) k d.1.1 d.1.2.2.2.1 = roundOf Tryd.prog (tab [(92, (mkS sh92_1 (fun d K => c92_1 d.1.1 (fun (y0 : Bool) => K [.lf (.bool y0)] [])) noS))]) (xw []) 50 1 (ltab [(7, X7)]) (mkG sh93_1_l7 [8, 37, 38, 39] (outT [(.exit 1, [8])]) (fun d K => l7 d.1.2.1.1 d.1.2.1.2 d.1.2.2.1 d.2.1.2.1 (fun (y0 : Int) => K (.exit 1) [.tv (.lf (.int .u64 y0))] [some ⟨d.2.1.1, [.seq (.int .u8) 0 d.2.1.2.1]⟩]) k d.1.1 d.1.2.2.2.1) []) b93_0 (encT sh93_1_l7.vs d.1) (encH sh93_1_l7.h d.2) K := by kernel_rfl
theorem L93_1_7 (F : Nat) : LoopOK Tryd.prog (T93_1 F) (xw []) 50 1 (LT93_1 F) (G93_1_7 F F) b93_0 :=
  loopOK_of (s := sh93_1_l7) (live := [8, 37, 38, 39]) (out := (outT [(.exit 1, [8])])) (mv := []) (fun k d K => f93_1_l7 F d.1.2.1.1 d.1.2.1.2 d.1.2.2.1 d.2.1.2.1 (fun (y0 : Int) => K (.exit 1) [.tv (.lf (.int .u64 y0))] [some ⟨d.2.1.1, [.seq (.int .u8) 0 d.2.1.2.1]⟩]) k d.1.1 d.1.2.2.2.1) F (fun d K => by kernel_rfl)  (fun k d K => Eq.mp (by kernel_rfl) (L93_1_l7g F k (f92_1 F)  (f93_1_l7 F) (G93_1_7 F F) d K))
theorem E93_1g (F : Nat) (c92_1 : Int → (Bool → Option Res) → Option Res) (l7 : Nat → Nat → Int → List Int → (Int → Option Res) → Nat → Int → Int → Option Res)  (d : sh93_1.den) (K : KF) : evBody Tryd.prog (tab [(92, (mkS sh92_1 (fun d K => c92_1 d.1.1 (fun (y0 : Bool) => K [.lf (.bool y0)] [])) noS))]) (xw []) 50 1 (ltab [(7, mkG sh93_1_l7 [8, 37, 38, 39] (outT [(.exit 1, [8])]) (fun d K => l7 d.1.2.1.1 d.1.2.1.2 d.1.2.2.1 d.2.1.2.1 (fun (y0 : Int) => K (.exit 1) [.tv (.lf (.int .u64 y0))] [some ⟨d.2.1.1, [.seq (.int .u8) 0 d.2.1.2.1]⟩]) F d.1.1 d.1.2.2.2.1) [])]) [] code93 Tryd.f93.results.toList (encT sh93_1.vs d.1) (encH sh93_1.h d.2) K = (fun (a1 : Int) (a2 : Int) (a3 : List Int) (K0 : (Int → Int → Option Res)) => c92_1 a2 (fun x1 => cond (!x1) (K0 0 2) (cond (decide (a1 < 0)) (K0 0 2) (cond (decide (a1 > ((a3.length : Nat) : Int))) (K0 0 7) (cond (decide (IntKind.i64.wrap (((a3.length : Nat) : Int) - a1) < a2)) (K0 0 7) (cond (decide ((0 : Int) ≤ a1 ∧ a1 ≤ IntKind.i64.wrap (a1 + a2) ∧ IntKind.i64.wrap (a1 + a2) ≤ ((a3.length : Nat) : Int))) (l7 (0 + a1.toNat) ((IntKind.i64.wrap (a1 + a2) - a1).toNat) (((IntKind.i64.wrap (a1 + a2) - a1).toNat : Nat) : Int) a3 (fun x8 => K0 x8 0) F 0 0) none))))) ) d.1.2.1 d.1.2.2.1 d.2.1.2.1 (fun (y0 : Int) (y1 : Int) => K [.lf (.int .u64 y0), .lf (.int .i64 y1)] [some ⟨d.2.1.1, [.seq (.int .u8) 0 d.2.1.2.1]⟩]) := by kernel_rfl
theorem E93_1 (F : Nat) (d : sh93_1.den) (K : KF) : evBody Tryd.prog (T93_1 F) (xw []) 50 1 (LT93_1 F) [] code93 Tryd.f93.results.toList (encT sh93_1.vs d.1) (encH sh93_1.h d.2) K = f93_1 F d.1.2.1 d.1.2.2.1 d.2.1.2.1 (fun (y0 : Int) (y1 : Int) => K [.lf (.int .u64 y0), .lf (.int .i64 y1)] [some ⟨d.2.1.1, [.seq (.int .u8) 0 d.2.1.2.1]⟩]) := Eq.mp (by kernel_rfl) (E93_1g F (f92_1 F) (f93_1_l7 F)  d K)
theorem S93_1_ok (F : Nat) (o : Summ) (ho : SoundFn Tryd.prog 93 o) : SoundFn Tryd.prog 93 (S93_1 F o) :=
  soundFn_of (fn := Tryd.f93) (c := code93) rfl rfl (by kernel_rfl) (tab_cons (S92_1_ok F _ (noS_sound enter92)) tab_nil) (by kernel_rfl) (by kernel_rfl) ho (by rw [loops93]; exact (loopsOK_cons (by kernel_rfl) (L93_1_7 F) loopsOK_nil)) (by rw [scopes93]; exact scopesOK_nil) (by rw [ranges93]; exact rangesOK_nil) (E93_1 F)
end Go.Proofs.YtillbabmlfjegaaDoor.X
end

section
namespace Go.Proofs.YtillbabmlfjegaaDoor.X
open Go Go.Proofs.YtillbabmlfjegaaDoor.Ev Go.Proofs
set_option linter.unusedVariables false
set_option linter.unusedSectionVars false
/-! word.Reader).Num -/
noncomputable def f51_1_l1000000 {β : Type} (F : Nat) (v3 : Int) (v4 : Int) (v5 : List Int) (K0 : Option β) : Nat → Option β
  | 0 => none
  | k + 1 => K0
noncomputable def f51_1 {β : Type} (F : Nat) (a1 : Int) (a2 : Int) (a3 : List Int) (K0 : Int → Int → List Int → Option β) : Option β := cond (a2 != 0) (K0 0 a2 a3) (f93_1 F 0 a1 a3 (fun x1 x2 => cond (x2 != 0) (f51_1_l1000000 F x2 a2 a3 (K0 0 x2 a3) F) (cond (decide ((0 : Int) ≤ a1 ∧ a1 ≤ ((a3.length : Nat) : Int) ∧ ((a3.length : Nat) : Int) ≤ ((a3.length : Nat) : Int))) (K0 x1 a2 ((a3.drop (0 + a1.toNat)).take ((((a3.length : Nat) : Int) - a1).toNat))) none)) )
variable [FZ]
def sh51_1 : Sh := ⟨[.lf (.ptr 0 0), .lf (.int .i64)], [some ⟨some false, [.full 1, .int .i64]⟩, some ⟨some false, [.seq (.int .u8) 0]⟩]⟩
noncomputable def S51_1 (F : Nat) (o : Summ) : Summ := mkS sh51_1 (fun d K => f51_1 F d.1.2.1 d.2.1.2.2.1 d.2.2.1.2.1 (fun (y0 : Int) (y1 : Int) (y2 : List Int) => K [.lf (.int .u64 y0)] [some ⟨false, [.full 2, .int .i64 y1]⟩, none, some ⟨false, [.seq (.int .u8) 0 y2]⟩])) o
noncomputable def code51 : Code := bodyOf Tryd.f51
noncomputable def s51_0 : Code := cB (cR (code51))
noncomputable def r51_0 : Code := match findLabel s51_0 0 with | some c => c | none => .skip
theorem find51_0 : findLabel s51_0 0 = some r51_0 := by kernel_rfl
theorem rloops51_0 : loopsOf r51_0 = [] := by kernel_rfl
theorem rscopes51_0 : scopesOf r51_0 = [] := by kernel_rfl
theorem rranges51_0 : rangesOf r51_0 = [] := by kernel_rfl
theorem scopes51 : scopesOf code51 = [s51_0] := by kernel_rfl
theorem ranges51 : rangesOf code51 = [] := by kernel_rfl
theorem loops51 : loopsOf code51 = [] := by kernel_rfl
theorem enter51 : ∀ args w, (callFunc 51 args).run Tryd.prog w = .ok (.enter 51 args) w := enter_of (fn := Tryd.f51) (by kernel_rfl) (by kernel_rfl) (by kernel_rfl)
noncomputable def T51_1 (F : Nat) : FuncId → Option Summ := tab [(93, (S93_1 F noS))]
def sh51_1_l1000000 : Sh := ⟨[.lf (.ptr 0 0), .lf (.int .i64)], [some ⟨some false, [.full 1, .int .i64]⟩, some ⟨some false, [.seq (.int .u8) 0]⟩]⟩
noncomputable def G51_1_1000000 (F k : Nat) : LoopS := mkG sh51_1_l1000000 [0, 6] (outT [(.ret, [4])]) (fun d K => f51_1_l1000000 F d.1.2.1 d.2.1.2.2.1 d.2.2.1.2.1 (K .ret [.tv (.lf (.int .u64 0))] [some ⟨false, [.full 1, .int .i64 d.1.2.1]⟩, some ⟨false, [.seq (.int .u8) 0 d.2.2.1.2.1]⟩]) k) []
noncomputable def LT51_1 (F : Nat) : Nat → Option LoopS := ltab [(1000000, G51_1_1000000 F F)]
theorem L51_1_l1000000g (F k : Nat) (c93_1 : Int → Int → List Int → (Int → Int → Option Res) → Option Res)  (l1000000 : Int → Int → List Int → (Option Res) → Nat → Option Res) (X1000000 : LoopS) (d : sh51_1_l1000000.den) (K : KL) : (fun (v3 : Int) (v4 : Int) (v5 : List Int) (K0 : (Option Res)) (k : Nat)  => K0) d.1.2.1 d.2.1.2.2.1 d.2.2.1.2.1 (K .ret [.tv (.lf (.int .u64 0))] [some ⟨false, [.full 1, .int .i64 d.1.2.1]⟩, some ⟨false, [.seq (.int .u8) 0 d.2.2.1.2.1]⟩]) k = passOf Tryd.prog (tab [(93, (mkS sh93_1 (fun d K => c93_1 d.1.2.1 d.1.2.2.1 d.2.1.2.1 (fun (y0 : Int) (y1 : Int) => K [.lf (.int .u64 y0), .lf (.int .i64 y1)] [some ⟨d.2.1.1, [.seq (.int .u8) 0 d.2.1.2.1]⟩])) noS))]) (xw []) 41 2 (ltab [(1000000, X1000000)]) (mkG sh51_1_l1000000 [0, 6] (outT [(.ret, [4])]) (fun d K => l1000000 d.1.2.1 d.2.1.2.2.1 d.2.2.1.2.1 (K .ret [.tv (.lf (.int .u64 0))] [some ⟨false, [.full 1, .int .i64 d.1.2.1]⟩, some ⟨false, [.seq (.int .u8) 0 d.2.2.1.2.1]⟩]) k) []) 0 r51_0 (encT sh51_1_l1000000.vs d.1) (encH sh51_1_l1000000.h d.2) K := by kernel_rfl
theorem L51_1_1000000 (F : Nat) : LabelOK Tryd.prog (T51_1 F) (xw []) 41 2 (LT51_1 F) (G51_1_1000000 F F) 0 s51_0 :=
  labelOK_of rfl (by kernel_rfl) (tab_cons (S93_1_ok F _ (noS_sound enter93)) tab_nil) (s := sh51_1_l1000000) (live := [0, 6]) (out := (outT [(.ret, [4])])) (mv := []) (fun k d K => f51_1_l1000000 F d.1.2.1 d.2.1.2.2.1 d.2.2.1.2.1 (K .ret [.tv (.lf (.int .u64 0))] [some ⟨false, [.full 1, .int .i64 d.1.2.1]⟩, some ⟨false, [.seq (.int .u8) 0 d.2.2.1.2.1]⟩]) k) F find51_0 (fun d K => by kernel_rfl)  (fun k d K => Eq.mp (by kernel_rfl) (L51_1_l1000000g F k (f93_1 F)  (f51_1_l1000000 F) (G51_1_1000000 F F) d K)) (by rw [rloops51_0]; exact loopsOK_nil) (by rw [rscopes51_0]; exact scopesOK_nil) (by rw [rranges51_0]; exact rangesOK_nil)
theorem E51_1g (F : Nat) (c93_1 : Int → Int → List Int → (Int → Int → Option Res) → Option Res) (l1000000 : Int → Int → List Int → (Option Res) → Nat → Option Res)  (d : sh51_1.den) (K : KF) : evBody Tryd.prog (tab [(93, (mkS sh93_1 (fun d K => c93_1 d.1.2.1 d.1.2.2.1 d.2.1.2.1 (fun (y0 : Int) (y1 : Int) => K [.lf (.int .u64 y0), .lf (.int .i64 y1)] [some ⟨d.2.1.1, [.seq (.int .u8) 0 d.2.1.2.1]⟩])) noS))]) (xw []) 41 2 (ltab [(1000000, mkG sh51_1_l1000000 [0, 6] (outT [(.ret, [4])]) (fun d K => l1000000 d.1.2.1 d.2.1.2.2.1 d.2.2.1.2.1 (K .ret [.tv (.lf (.int .u64 0))] [some ⟨false, [.full 1, .int .i64 d.1.2.1]⟩, some ⟨false, [.seq (.int .u8) 0 d.2.2.1.2.1]⟩]) F) [])]) [1] code51 Tryd.f51.results.toList (encT sh51_1.vs d.1) (encH sh51_1.h d.2) K = (fun (a1 : Int) (a2 : Int) (a3 : List Int) (K0 : (Int → Int → List Int → Option Res)) => cond (a2 != 0) (K0 0 a2 a3) (c93_1 0 a1 a3 (fun x1 x2 => cond (x2 != 0) (l1000000 x2 a2 a3 (K0 0 x2 a3) F) (cond (decide ((0 : Int) ≤ a1 ∧ a1 ≤ ((a3.length : Nat) : Int) ∧ ((a3.length : Nat) : Int) ≤ ((a3.length : Nat) : Int))) (K0 x1 a2 ((a3.drop (0 + a1.toNat)).take ((((a3.length : Nat) : Int) - a1).toNat))) none)) )) d.1.2.1 d.2.1.2.2.1 d.2.2.1.2.1 (fun (y0 : Int) (y1 : Int) (y2 : List Int) => K [.lf (.int .u64 y0)] [some ⟨false, [.full 2, .int .i64 y1]⟩, none, some ⟨false, [.seq (.int .u8) 0 y2]⟩]) := by kernel_rfl
theorem E51_1 (F : Nat) (d : sh51_1.den) (K : KF) : evBody Tryd.prog (T51_1 F) (xw []) 41 2 (LT51_1 F) [1] code51 Tryd.f51.results.toList (encT sh51_1.vs d.1) (encH sh51_1.h d.2) K = f51_1 F d.1.2.1 d.2.1.2.2.1 d.2.2.1.2.1 (fun (y0 : Int) (y1 : Int) (y2 : List Int) => K [.lf (.int .u64 y0)] [some ⟨false, [.full 2, .int .i64 y1]⟩, none, some ⟨false, [.seq (.int .u8) 0 y2]⟩]) := Eq.mp (by kernel_rfl) (E51_1g F (f93_1 F) (f51_1_l1000000 F)  d K)
theorem S51_1_ok (F : Nat) (o : Summ) (ho : SoundFn Tryd.prog 51 o) : SoundFn Tryd.prog 51 (S51_1 F o) :=
  soundFn_of (fn := Tryd.f51) (c := code51) rfl rfl (by kernel_rfl) (tab_cons (S93_1_ok F _ (noS_sound enter93)) tab_nil) (by kernel_rfl) (by kernel_rfl) ho (by rw [loops51]; exact loopsOK_nil) (by rw [scopes51]; exact (scopesOK_cons (by kernel_rfl) (by kernel_rfl) (L51_1_1000000 F) scopesOK_nil)) (by rw [ranges51]; exact rangesOK_nil) (E51_1 F)
end Go.Proofs.YtillbabmlfjegaaDoor.X
end

section
namespace Go.Proofs.YtillbabmlfjegaaDoor.X
open Go Go.Proofs.YtillbabmlfjegaaDoor.Ev Go.Proofs
set_option linter.unusedVariables false
set_option linter.unusedSectionVars false
/-! rec.Config$1 -/
noncomputable def f50_2906 {β : Type} (F : Nat) (a1 : Int) (a2 : Int) (a3 : List Int) (K0 : Int → Int → List Int → Option β) : Option β := f51_1 F a1 a2 a3 (fun x1 x2 x3 => K0 (IntKind.i64.wrap x1) x2 x3) 
variable [FZ]
def sh50_2906 : Sh := ⟨[.lf (.int .i64), .lf (.ptr 0 0)], [some ⟨none, [.ptr 1 0]⟩, some ⟨some false, [.full 2, .int .i64]⟩, some ⟨some false, [.seq (.int .u8) 0]⟩]⟩
noncomputable def S50_2906 (F : Nat) (o : Summ) : Summ := mkS sh50_2906 (fun d K => f50_2906 F d.1.1 d.2.2.1.2.2.1 d.2.2.2.1.2.1 (fun (y0 : Int) (y1 : Int) (y2 : List Int) => K [.lf (.int .i64 y0)] [some ⟨d.2.1.1, [.ptr 1 0]⟩, some ⟨false, [.full 3, .int .i64 y1]⟩, none, some ⟨false, [.seq (.int .u8) 0 y2]⟩])) o
noncomputable def code50 : Code := bodyOf Tryd.f50
theorem scopes50 : scopesOf code50 = [] := by kernel_rfl
theorem ranges50 : rangesOf code50 = [] := by kernel_rfl
theorem loops50 : loopsOf code50 = [] := by kernel_rfl
theorem enter50 : ∀ args w, (callFunc 50 args).run Tryd.prog w = .ok (.enter 50 args) w := enter_of (fn := Tryd.f50) (by kernel_rfl) (by kernel_rfl) (by kernel_rfl)
noncomputable def T50_2906 (F : Nat) : FuncId → Option Summ := tab [(51, (S51_1 F noS))]
noncomputable def LT50_2906 (F : Nat) : Nat → Option LoopS := ltab []
theorem E50_2906g (F : Nat) (c51_1 : Int → Int → List Int → (Int → Int → List Int → Option Res) → Option Res)   (d : sh50_2906.den) (K : KF) : evBody Tryd.prog (tab [(51, (mkS sh51_1 (fun d K => c51_1 d.1.2.1 d.2.1.2.2.1 d.2.2.1.2.1 (fun (y0 : Int) (y1 : Int) (y2 : List Int) => K [.lf (.int .u64 y0)] [some ⟨false, [.full 2, .int .i64 y1]⟩, none, some ⟨false, [.seq (.int .u8) 0 y2]⟩])) noS))]) (xw []) 8 3 (ltab []) [2] code50 Tryd.f50.results.toList (encT sh50_2906.vs d.1) (encH sh50_2906.h d.2) K = (fun (a1 : Int) (a2 : Int) (a3 : List Int) (K0 : (Int → Int → List Int → Option Res)) => c51_1 a1 a2 a3 (fun x1 x2 x3 => K0 (IntKind.i64.wrap x1) x2 x3) ) d.1.1 d.2.2.1.2.2.1 d.2.2.2.1.2.1 (fun (y0 : Int) (y1 : Int) (y2 : List Int) => K [.lf (.int .i64 y0)] [some ⟨d.2.1.1, [.ptr 1 0]⟩, some ⟨false, [.full 3, .int .i64 y1]⟩, none, some ⟨false, [.seq (.int .u8) 0 y2]⟩]) := by kernel_rfl
theorem E50_2906 (F : Nat) (d : sh50_2906.den) (K : KF) : evBody Tryd.prog (T50_2906 F) (xw []) 8 3 (LT50_2906 F) [2] code50 Tryd.f50.results.toList (encT sh50_2906.vs d.1) (encH sh50_2906.h d.2) K = f50_2906 F d.1.1 d.2.2.1.2.2.1 d.2.2.2.1.2.1 (fun (y0 : Int) (y1 : Int) (y2 : List Int) => K [.lf (.int .i64 y0)] [some ⟨d.2.1.1, [.ptr 1 0]⟩, some ⟨false, [.full 3, .int .i64 y1]⟩, none, some ⟨false, [.seq (.int .u8) 0 y2]⟩]) := Eq.mp (by kernel_rfl) (E50_2906g F (f51_1 F)   d K)
theorem S50_2906_ok (F : Nat) (o : Summ) (ho : SoundFn Tryd.prog 50 o) : SoundFn Tryd.prog 50 (S50_2906 F o) :=
  soundFn_of (fn := Tryd.f50) (c := code50) rfl rfl (by kernel_rfl) (tab_cons (S51_1_ok F _ (noS_sound enter51)) tab_nil) (by kernel_rfl) (by kernel_rfl) ho (by rw [loops50]; exact loopsOK_nil) (by rw [scopes50]; exact scopesOK_nil) (by rw [ranges50]; exact rangesOK_nil) (E50_2906 F)
end Go.Proofs.YtillbabmlfjegaaDoor.X
end

section
namespace Go.Proofs.YtillbabmlfjegaaDoor.X
open Go Go.Proofs.YtillbabmlfjegaaDoor.Ev Go.Proofs
set_option linter.unusedVariables false
set_option linter.unusedSectionVars false
/-! rec.Config -/
noncomputable def f19_1 {β : Type} (F : Nat) (a1 : ByteArray) (K0 : Int → Int → Int → Int → Int → Int → Int → Int → Option β) : Option β := f13_1 F 1 a1 (fun x1 x2 => cond (x2 != 0) (K0 0 0 0 0 0 0 0 x2) (f49_1 F (toInts x1) (fun x3 => f50_2906 F 1 0 x3 (fun x4 x5 x6 => (fun z1 z2 z3 z4 => amb z1 (amb (amb z2 z3) (amb z4 z3))) (f51_1 F 4 x5 x6 (fun x7 x8 x9 => (fun z1 z2 z3 z4 => amb z1 (amb (amb z2 z3) (amb z4 z3))) (f50_2906 F 2 x8 x9 (fun x10 x11 x12 => (fun z1 z2 z3 z4 => amb z1 (amb (amb z2 z3) (amb z4 z3))) (f50_2906 F 1 x11 x12 (fun x13 x14 x15 => (fun z1 z2 z3 z4 => amb z1 (amb (amb z2 z3) (amb z4 z3))) (f50_2906 F 2 x14 x15 (fun x16 x17 x18 => (fun z1 z2 => amb z1 (amb (amb z1 z2) (amb z2 z2))) (f50_2906 F 2 x17 x18 (fun x19 x20 x21 => (fun z1 => amb z1 z1) (f51_1 F 8 x20 x21 (fun x22 x23 x24 => cond ((x1.size : Int) != 20) (K0 0 0 0 0 0 0 0 6) (f46_1 F x4 (IntKind.u32.wrap x7) x10 x13 x16 x19 x22 (fun x25 => cond (x25 != 0) (K0 0 0 0 0 0 0 0 6) (K0 x4 (IntKind.u32.wrap x7) x10 x13 x16 x19 x22 0)) )) )) ) (f50_2906 F 2 x17 x18 (fun x41 x42 x43 => f51_1 F 8 x42 x43 (fun x44 x45 x46 => cond ((x1.size : Int) != 20) (K0 0 0 0 0 0 0 0 6) (f46_1 F x4 (IntKind.u32.wrap x7) x10 x13 x16 x41 x44 (fun x47 => cond (x47 != 0) (K0 0 0 0 0 0 0 0 6) (K0 x4 (IntKind.u32.wrap x7) x10 x13 x16 x41 x44 0)) )) ) )) ) (f50_2906 F 2 x14 x15 (fun x62 x63 x64 => amb (f50_2906 F 2 x63 x64 (fun x65 x66 x67 => (fun z1 => amb z1 z1) (f51_1 F 8 x66 x67 (fun x68 x69 x70 => cond ((x1.size : Int) != 20) (K0 0 0 0 0 0 0 0 6) (f46_1 F x4 (IntKind.u32.wrap x7) x10 x13 x62 x65 x68 (fun x71 => cond (x71 != 0) (K0 0 0 0 0 0 0 0 6) (K0 x4 (IntKind.u32.wrap x7) x10 x13 x62 x65 x68 0)) )) )) ) (f50_2906 F 2 x63 x64 (fun x76 x77 x78 => f51_1 F 8 x77 x78 (fun x79 x80 x81 => cond ((x1.size : Int) != 20) (K0 0 0 0 0 0 0 0 6) (f46_1 F x4 (IntKind.u32.wrap x7) x10 x13 x62 x76 x79 (fun x82 => cond (x82 != 0) (K0 0 0 0 0 0 0 0 6) (K0 x4 (IntKind.u32.wrap x7) x10 x13 x62 x76 x79 0)) )) ) )) ) (f50_2906 F 2 x14 x15 (fun x83 x84 x85 => f50_2906 F 2 x84 x85 (fun x86 x87 x88 => f51_1 F 8 x87 x88 (fun x89 x90 x91 => cond ((x1.size : Int) != 20) (K0 0 0 0 0 0 0 0 6) (f46_1 F x4 (IntKind.u32.wrap x7) x10 x13 x83 x86 x89 (fun x92 => cond (x92 != 0) (K0 0 0 0 0 0 0 0 6) (K0 x4 (IntKind.u32.wrap x7) x10 x13 x83 x86 x89 0)) )) ) ) ) (f50_2906 F 2 x14 x15 (fun x93 x94 x95 => (fun z1 => amb z1 z1) (f50_2906 F 2 x94 x95 (fun x96 x97 x98 => f51_1 F 8 x97 x98 (fun x99 x100 x101 => cond ((x1.size : Int) != 20) (K0 0 0 0 0 0 0 0 6) (f46_1 F x4 (IntKind.u32.wrap x7) x10 x13 x93 x96 x99 (fun x102 => cond (x102 != 0) (K0 0 0 0 0 0 0 0 6) (K0 x4 (IntKind.u32.wrap x7) x10 x13 x93 x96 x99 0)) )) ) )) )) ) (f50_2906 F 1 x11 x12 (fun x120 x121 x122 => amb (f50_2906 F 2 x121 x122 (fun x123 x124 x125 => amb (f50_2906 F 2 x124 x125 (fun x126 x127 x128 => (fun z1 => amb z1 z1) (f51_1 F 8 x127 x128 (fun x129 x130 x131 => cond ((x1.size : Int) != 20) (K0 0 0 0 0 0 0 0 6) (f46_1 F x4 (IntKind.u32.wrap x7) x10 x120 x123 x126 x129 (fun x132 => cond (x132 != 0) (K0 0 0 0 0 0 0 0 6) (K0 x4 (IntKind.u32.wrap x7) x10 x120 x123 x126 x129 0)) )) )) ) (f50_2906 F 2 x124 x125 (fun x137 x138 x139 => f51_1 F 8 x138 x139 (fun x140 x141 x142 => cond ((x1.size : Int) != 20) (K0 0 0 0 0 0 0 0 6) (f46_1 F x4 (IntKind.u32.wrap x7) x10 x120 x123 x137 x140 (fun x143 => cond (x143 != 0) (K0 0 0 0 0 0 0 0 6) (K0 x4 (IntKind.u32.wrap x7) x10 x120 x123 x137 x140 0)) )) ) )) ) (f50_2906 F 2 x121 x122 (fun x144 x145 x146 => f50_2906 F 2 x145 x146 (fun x147 x148 x149 => f51_1 F 8 x148 x149 (fun x150 x151 x152 => cond ((x1.size : Int) != 20) (K0 0 0 0 0 0 0 0 6) (f46_1 F x4 (IntKind.u32.wrap x7) x10 x120 x144 x147 x150 (fun x153 => cond (x153 != 0) (K0 0 0 0 0 0 0 0 6) (K0 x4 (IntKind.u32.wrap x7) x10 x120 x144 x147 x150 0)) )) ) ) )) ) (f50_2906 F 1 x11 x12 (fun x154 x155 x156 => f50_2906 F 2 x155 x156 (fun x157 x158 x159 => f50_2906 F 2 x158 x159 (fun x160 x161 x162 => f51_1 F 8 x161 x162 (fun x163 x164 x165 => cond ((x1.size : Int) != 20) (K0 0 0 0 0 0 0 0 6) (f46_1 F x4 (IntKind.u32.wrap x7) x10 x154 x157 x160 x163 (fun x166 => cond (x166 != 0) (K0 0 0 0 0 0 0 0 6) (K0 x4 (IntKind.u32.wrap x7) x10 x154 x157 x160 x163 0)) )) ) ) ) ) (f50_2906 F 1 x11 x12 (fun x167 x168 x169 => amb (f50_2906 F 2 x168 x169 (fun x170 x171 x172 => (fun z1 => amb z1 z1) (f50_2906 F 2 x171 x172 (fun x173 x174 x175 => f51_1 F 8 x174 x175 (fun x176 x177 x178 => cond ((x1.size : Int) != 20) (K0 0 0 0 0 0 0 0 6) (f46_1 F x4 (IntKind.u32.wrap x7) x10 x167 x170 x173 x176 (fun x179 => cond (x179 != 0) (K0 0 0 0 0 0 0 0 6) (K0 x4 (IntKind.u32.wrap x7) x10 x167 x170 x173 x176 0)) )) ) )) ) (f50_2906 F 2 x168 x169 (fun x187 x188 x189 => f50_2906 F 2 x188 x189 (fun x190 x191 x192 => f51_1 F 8 x191 x192 (fun x193 x194 x195 => cond ((x1.size : Int) != 20) (K0 0 0 0 0 0 0 0 6) (f46_1 F x4 (IntKind.u32.wrap x7) x10 x167 x187 x190 x193 (fun x196 => cond (x196 != 0) (K0 0 0 0 0 0 0 0 6) (K0 x4 (IntKind.u32.wrap x7) x10 x167 x187 x190 x193 0)) )) ) ) )) )) ) (f50_2906 F 2 x8 x9 (fun x210 x211 x212 => amb (f50_2906 F 1 x211 x212 (fun x213 x214 x215 => amb (f50_2906 F 2 x214 x215 (fun x216 x217 x218 => amb (f50_2906 F 2 x217 x218 (fun x219 x220 x221 => (fun z1 => amb z1 z1) (f51_1 F 8 x220 x221 (fun x222 x223 x224 => cond ((x1.size : Int) != 20) (K0 0 0 0 0 0 0 0 6) (f46_1 F x4 (IntKind.u32.wrap x7) x210 x213 x216 x219 x222 (fun x225 => cond (x225 != 0) (K0 0 0 0 0 0 0 0 6) (K0 x4 (IntKind.u32.wrap x7) x210 x213 x216 x219 x222 0)) )) )) ) (f50_2906 F 2 x217 x218 (fun x230 x231 x232 => f51_1 F 8 x231 x232 (fun x233 x234 x235 => cond ((x1.size : Int) != 20) (K0 0 0 0 0 0 0 0 6) (f46_1 F x4 (IntKind.u32.wrap x7) x210 x213 x216 x230 x233 (fun x236 => cond (x236 != 0) (K0 0 0 0 0 0 0 0 6) (K0 x4 (IntKind.u32.wrap x7) x210 x213 x216 x230 x233 0)) )) ) )) ) (f50_2906 F 2 x214 x215 (fun x237 x238 x239 => f50_2906 F 2 x238 x239 (fun x240 x241 x242 => f51_1 F 8 x241 x242 (fun x243 x244 x245 => cond ((x1.size : Int) != 20) (K0 0 0 0 0 0 0 0 6) (f46_1 F x4 (IntKind.u32.wrap x7) x210 x213 x237 x240 x243 (fun x246 => cond (x246 != 0) (K0 0 0 0 0 0 0 0 6) (K0 x4 (IntKind.u32.wrap x7) x210 x213 x237 x240 x243 0)) )) ) ) )) ) (f50_2906 F 1 x211 x212 (fun x247 x248 x249 => f50_2906 F 2 x248 x249 (fun x250 x251 x252 => f50_2906 F 2 x251 x252 (fun x253 x254 x255 => f51_1 F 8 x254 x255 (fun x256 x257 x258 => cond ((x1.size : Int) != 20) (K0 0 0 0 0 0 0 0 6) (f46_1 F x4 (IntKind.u32.wrap x7) x210 x247 x250 x253 x256 (fun x259 => cond (x259 != 0) (K0 0 0 0 0 0 0 0 6) (K0 x4 (IntKind.u32.wrap x7) x210 x247 x250 x253 x256 0)) )) ) ) ) )) ) (f50_2906 F 2 x8 x9 (fun x260 x261 x262 => f50_2906 F 1 x261 x262 (fun x263 x264 x265 => f50_2906 F 2 x264 x265 (fun x266 x267 x268 => f50_2906 F 2 x267 x268 (fun x269 x270 x271 => f51_1 F 8 x270 x271 (fun x272 x273 x274 => cond ((x1.size : Int) != 20) (K0 0 0 0 0 0 0 0 6) (f46_1 F x4 (IntKind.u32.wrap x7) x260 x263 x266 x269 x272 (fun x275 => cond (x275 != 0) (K0 0 0 0 0 0 0 0 6) (K0 x4 (IntKind.u32.wrap x7) x260 x263 x266 x269 x272 0)) )) ) ) ) ) ) (f50_2906 F 2 x8 x9 (fun x276 x277 x278 => amb (f50_2906 F 1 x277 x278 (fun x279 x280 x281 => amb (f50_2906 F 2 x280 x281 (fun x282 x283 x284 => (fun z1 => amb z1 z1) (f50_2906 F 2 x283 x284 (fun x285 x286 x287 => f51_1 F 8 x286 x287 (fun x288 x289 x290 => cond ((x1.size : Int) != 20) (K0 0 0 0 0 0 0 0 6) (f46_1 F x4 (IntKind.u32.wrap x7) x276 x279 x282 x285 x288 (fun x291 => cond (x291 != 0) (K0 0 0 0 0 0 0 0 6) (K0 x4 (IntKind.u32.wrap x7) x276 x279 x282 x285 x288 0)) )) ) )) ) (f50_2906 F 2 x280 x281 (fun x299 x300 x301 => f50_2906 F 2 x300 x301 (fun x302 x303 x304 => f51_1 F 8 x303 x304 (fun x305 x306 x307 => cond ((x1.size : Int) != 20) (K0 0 0 0 0 0 0 0 6) (f46_1 F x4 (IntKind.u32.wrap x7) x276 x279 x299 x302 x305 (fun x308 => cond (x308 != 0) (K0 0 0 0 0 0 0 0 6) (K0 x4 (IntKind.u32.wrap x7) x276 x279 x299 x302 x305 0)) )) ) ) )) ) (f50_2906 F 1 x277 x278 (fun x309 x310 x311 => f50_2906 F 2 x310 x311 (fun x312 x313 x314 => f50_2906 F 2 x313 x314 (fun x315 x316 x317 => f51_1 F 8 x316 x317 (fun x318 x319 x320 => cond ((x1.size : Int) != 20) (K0 0 0 0 0 0 0 0 6) (f46_1 F x4 (IntKind.u32.wrap x7) x276 x309 x312 x315 x318 (fun x321 => cond (x321 != 0) (K0 0 0 0 0 0 0 0 6) (K0 x4 (IntKind.u32.wrap x7) x276 x309 x312 x315 x318 0)) )) ) ) ) )) )) ) (f51_1 F 4 x5 x6 (fun x338 x339 x340 => amb (f50_2906 F 2 x339 x340 (fun x341 x342 x343 => amb (f50_2906 F 1 x342 x343 (fun x344 x345 x346 => amb (f50_2906 F 2 x345 x346 (fun x347 x348 x349 => amb (f50_2906 F 2 x348 x349 (fun x350 x351 x352 => (fun z1 => amb z1 z1) (f51_1 F 8 x351 x352 (fun x353 x354 x355 => cond ((x1.size : Int) != 20) (K0 0 0 0 0 0 0 0 6) (f46_1 F x4 (IntKind.u32.wrap x338) x341 x344 x347 x350 x353 (fun x356 => cond (x356 != 0) (K0 0 0 0 0 0 0 0 6) (K0 x4 (IntKind.u32.wrap x338) x341 x344 x347 x350 x353 0)) )) )) ) (f50_2906 F 2 x348 x349 (fun x361 x362 x363 => f51_1 F 8 x362 x363 (fun x364 x365 x366 => cond ((x1.size : Int) != 20) (K0 0 0 0 0 0 0 0 6) (f46_1 F x4 (IntKind.u32.wrap x338) x341 x344 x347 x361 x364 (fun x367 => cond (x367 != 0) (K0 0 0 0 0 0 0 0 6) (K0 x4 (IntKind.u32.wrap x338) x341 x344 x347 x361 x364 0)) )) ) )) ) (f50_2906 F 2 x345 x346 (fun x368 x369 x370 => f50_2906 F 2 x369 x370 (fun x371 x372 x373 => f51_1 F 8 x372 x373 (fun x374 x375 x376 => cond ((x1.size : Int) != 20) (K0 0 0 0 0 0 0 0 6) (f46_1 F x4 (IntKind.u32.wrap x338) x341 x344 x368 x371 x374 (fun x377 => cond (x377 != 0) (K0 0 0 0 0 0 0 0 6) (K0 x4 (IntKind.u32.wrap x338) x341 x344 x368 x371 x374 0)) )) ) ) )) ) (f50_2906 F 1 x342 x343 (fun x378 x379 x380 => f50_2906 F 2 x379 x380 (fun x381 x382 x383 => f50_2906 F 2 x382 x383 (fun x384 x385 x386 => f51_1 F 8 x385 x386 (fun x387 x388 x389 => cond ((x1.size : Int) != 20) (K0 0 0 0 0 0 0 0 6) (f46_1 F x4 (IntKind.u32.wrap x338) x341 x378 x381 x384 x387 (fun x390 => cond (x390 != 0) (K0 0 0 0 0 0 0 0 6) (K0 x4 (IntKind.u32.wrap x338) x341 x378 x381 x384 x387 0)) )) ) ) ) )) ) (f50_2906 F 2 x339 x340 (fun x391 x392 x393 => f50_2906 F 1 x392 x393 (fun x394 x395 x396 => f50_2906 F 2 x395 x396 (fun x397 x398 x399 => f50_2906 F 2 x398 x399 (fun x400 x401 x402 => f51_1 F 8 x401 x402 (fun x403 x404 x405 => cond ((x1.size : Int) != 20) (K0 0 0 0 0 0 0 0 6) (f46_1 F x4 (IntKind.u32.wrap x338) x391 x394 x397 x400 x403 (fun x406 => cond (x406 != 0) (K0 0 0 0 0 0 0 0 6) (K0 x4 (IntKind.u32.wrap x338) x391 x394 x397 x400 x403 0)) )) ) ) ) ) )) ) (f51_1 F 4 x5 x6 (fun x407 x408 x409 => f50_2906 F 2 x408 x409 (fun x410 x411 x412 => f50_2906 F 1 x411 x412 (fun x413 x414 x415 => f50_2906 F 2 x414 x415 (fun x416 x417 x418 => f50_2906 F 2 x417 x418 (fun x419 x420 x421 => f51_1 F 8 x420 x421 (fun x422 x423 x424 => cond ((x1.size : Int) != 20) (K0 0 0 0 0 0 0 0 6) (f46_1 F x4 (IntKind.u32.wrap x407) x410 x413 x416 x419 x422 (fun x425 => cond (x425 != 0) (K0 0 0 0 0 0 0 0 6) (K0 x4 (IntKind.u32.wrap x407) x410 x413 x416 x419 x422 0)) )) ) ) ) ) ) ) (f51_1 F 4 x5 x6 (fun x426 x427 x428 => amb (f50_2906 F 2 x427 x428 (fun x429 x430 x431 => amb (f50_2906 F 1 x430 x431 (fun x432 x433 x434 => amb (f50_2906 F 2 x433 x434 (fun x435 x436 x437 => (fun z1 => amb z1 z1) (f50_2906 F 2 x436 x437 (fun x438 x439 x440 => f51_1 F 8 x439 x440 (fun x441 x442 x443 => cond ((x1.size : Int) != 20) (K0 0 0 0 0 0 0 0 6) (f46_1 F x4 (IntKind.u32.wrap x426) x429 x432 x435 x438 x441 (fun x444 => cond (x444 != 0) (K0 0 0 0 0 0 0 0 6) (K0 x4 (IntKind.u32.wrap x426) x429 x432 x435 x438 x441 0)) )) ) )) ) (f50_2906 F 2 x433 x434 (fun x452 x453 x454 => f50_2906 F 2 x453 x454 (fun x455 x456 x457 => f51_1 F 8 x456 x457 (fun x458 x459 x460 => cond ((x1.size : Int) != 20) (K0 0 0 0 0 0 0 0 6) (f46_1 F x4 (IntKind.u32.wrap x426) x429 x432 x452 x455 x458 (fun x461 => cond (x461 != 0) (K0 0 0 0 0 0 0 0 6) (K0 x4 (IntKind.u32.wrap x426) x429 x432 x452 x455 x458 0)) )) ) ) )) ) (f50_2906 F 1 x430 x431 (fun x462 x463 x464 => f50_2906 F 2 x463 x464 (fun x465 x466 x467 => f50_2906 F 2 x466 x467 (fun x468 x469 x470 => f51_1 F 8 x469 x470 (fun x471 x472 x473 => cond ((x1.size : Int) != 20) (K0 0 0 0 0 0 0 0 6) (f46_1 F x4 (IntKind.u32.wrap x426) x429 x462 x465 x468 x471 (fun x474 => cond (x474 != 0) (K0 0 0 0 0 0 0 0 6) (K0 x4 (IntKind.u32.wrap x426) x429 x462 x465 x468 x471 0)) )) ) ) ) )) ) (f50_2906 F 2 x427 x428 (fun x475 x476 x477 => f50_2906 F 1 x476 x477 (fun x478 x479 x480 => f50_2906 F 2 x479 x480 (fun x481 x482 x483 => f50_2906 F 2 x482 x483 (fun x484 x485 x486 => f51_1 F 8 x485 x486 (fun x487 x488 x489 => cond ((x1.size : Int) != 20) (K0 0 0 0 0 0 0 0 6) (f46_1 F x4 (IntKind.u32.wrap x426) x475 x478 x481 x484 x487 (fun x490 => cond (x490 != 0) (K0 0 0 0 0 0 0 0 6) (K0 x4 (IntKind.u32.wrap x426) x475 x478 x481 x484 x487 0)) )) ) ) ) ) )) )) ) )) 
variable [FZ]
def sh19_1 : Sh := ⟨[.lf (.str)], []⟩
noncomputable def S19_1 (F : Nat) (o : Summ) : Summ := mkS sh19_1 (fun d K => f19_1 F d.1.1 (fun (y0 : Int) (y1 : Int) (y2 : Int) (y3 : Int) (y4 : Int) (y5 : Int) (y6 : Int) (y7 : Int) => K [.lf (.int .i64 y0), .agg [.int .u32 y1, .int .i64 y2, .int .i64 y3, .int .i64 y4, .int .i64 y5, .int .u64 y6], .lf (.int .i64 y7)] [])) o
noncomputable def code19 : Code := bodyOf Tryd.f19
theorem scopes19 : scopesOf code19 = [] := by kernel_rfl
theorem ranges19 : rangesOf code19 = [] := by kernel_rfl
theorem loops19 : loopsOf code19 = [] := by kernel_rfl
theorem enter19 : ∀ args w, (callFunc 19 args).run Tryd.prog w = .ok (.enter 19 args) w := enter_of (fn := Tryd.f19) (by kernel_rfl) (by kernel_rfl) (by kernel_rfl)
noncomputable def T19_1 (F : Nat) : FuncId → Option Summ := tab [(13, (S13_1 F noS)), (46, (S46_1 F noS)), (49, (S49_1 F noS)), (50, (S50_2906 F noS)), (51, (S51_1 F noS))]
noncomputable def LT19_1 (F : Nat) : Nat → Option LoopS := ltab []
theorem E19_1g (F : Nat) (c13_1 : Int → ByteArray → (ByteArray → Int → Option Res) → Option Res) (c46_1 : Int → Int → Int → Int → Int → Int → Int → (Int → Option Res) → Option Res) (c49_1 : List Int → (List Int → Option Res) → Option Res) (c50_2906 : Int → Int → List Int → (Int → Int → List Int → Option Res) → Option Res) (c51_1 : Int → Int → List Int → (Int → Int → List Int → Option Res) → Option Res)   (d : sh19_1.den) (K : KF) : evBody Tryd.prog (tab [(13, (mkS sh13_1 (fun d K => c13_1 d.1.1 d.1.2.1 (fun (y0 : ByteArray) (y1 : Int) => K [.lf (.str y0), .lf (.int .i64 y1)] [])) noS)), (46, (mkS sh46_1 (fun d K => c46_1 d.1.1 d.1.2.1.1 d.1.2.1.2.1 d.1.2.1.2.2.1 d.1.2.1.2.2.2.1 d.1.2.1.2.2.2.2.1 d.1.2.1.2.2.2.2.2.1 (fun (y0 : Int) => K [.lf (.int .i64 y0)] [])) noS)), (49, (mkS sh49_1 (fun d K => c49_1 d.2.1.2.1 (fun (y2 : List Int) => K [.lf (.ptr 1 0)] [some ⟨d.2.1.1, [.seq (.int .u8) 0 d.2.1.2.1]⟩, some ⟨false, [.full 2, .int .i64 0]⟩, some ⟨false, [.seq (.int .u8) 0 y2]⟩])) noS)), (50, (mkS sh50_2906 (fun d K => c50_2906 d.1.1 d.2.2.1.2.2.1 d.2.2.2.1.2.1 (fun (y0 : Int) (y1 : Int) (y2 : List Int) => K [.lf (.int .i64 y0)] [some ⟨d.2.1.1, [.ptr 1 0]⟩, some ⟨false, [.full 3, .int .i64 y1]⟩, none, some ⟨false, [.seq (.int .u8) 0 y2]⟩])) noS)), (51, (mkS sh51_1 (fun d K => c51_1 d.1.2.1 d.2.1.2.2.1 d.2.2.1.2.1 (fun (y0 : Int) (y1 : Int) (y2 : List Int) => K [.lf (.int .u64 y0)] [some ⟨false, [.full 2, .int .i64 y1]⟩, none, some ⟨false, [.seq (.int .u8) 0 y2]⟩])) noS))]) (xw [7]) 53 0 (ltab []) [] code19 Tryd.f19.results.toList (encT sh19_1.vs d.1) (encH sh19_1.h d.2) K = (fun (a1 : ByteArray) (K0 : (Int → Int → Int → Int → Int → Int → Int → Int → Option Res)) => c13_1 1 a1 (fun x1 x2 => cond (x2 != 0) (K0 0 0 0 0 0 0 0 x2) (c49_1 (toInts x1) (fun x3 => c50_2906 1 0 x3 (fun x4 x5 x6 => (fun z1 z2 z3 z4 => amb z1 (amb (amb z2 z3) (amb z4 z3))) (c51_1 4 x5 x6 (fun x7 x8 x9 => (fun z1 z2 z3 z4 => amb z1 (amb (amb z2 z3) (amb z4 z3))) (c50_2906 2 x8 x9 (fun x10 x11 x12 => (fun z1 z2 z3 z4 => amb z1 (amb (amb z2 z3) (amb z4 z3))) (c50_2906 1 x11 x12 (fun x13 x14 x15 => (fun z1 z2 z3 z4 => amb z1 (amb (amb z2 z3) (amb z4 z3))) (c50_2906 2 x14 x15 (fun x16 x17 x18 => (fun z1 z2 => amb z1 (amb (amb z1 z2) (amb z2 z2))) (c50_2906 2 x17 x18 (fun x19 x20 x21 => (fun z1 => amb z1 z1) (c51_1 8 x20 x21 (fun x22 x23 x24 => cond ((x1.size : Int) != 20) (K0 0 0 0 0 0 0 0 6) (c46_1 x4 (IntKind.u32.wrap x7) x10 x13 x16 x19 x22 (fun x25 => cond (x25 != 0) (K0 0 0 0 0 0 0 0 6) (K0 x4 (IntKind.u32.wrap x7) x10 x13 x16 x19 x22 0)) )) )) ) (c50_2906 2 x17 x18 (fun x41 x42 x43 => c51_1 8 x42 x43 (fun x44 x45 x46 => cond ((x1.size : Int) != 20) (K0 0 0 0 0 0 0 0 6) (c46_1 x4 (IntKind.u32.wrap x7) x10 x13 x16 x41 x44 (fun x47 => cond (x47 != 0) (K0 0 0 0 0 0 0 0 6) (K0 x4 (IntKind.u32.wrap x7) x10 x13 x16 x41 x44 0)) )) ) )) ) (c50_2906 2 x14 x15 (fun x62 x63 x64 => amb (c50_2906 2 x63 x64 (fun x65 x66 x67 => (fun z1 => amb z1 z1) (c51_1 8 x66 x67 (fun x68 x69 x70 => cond ((x1.size : Int) != 20) (K0 0 0 0 0 0 0 0 6) (c46_1 x4 (IntKind.u32.wrap x7) x10 x13 x62 x65 x68 (fun x71 => cond (x71 != 0) (K0 0 0 0 0 0 0 0 6) (K0 x4 (IntKind.u32.wrap x7) x10 x13 x62 x65 x68 0)) )) )) ) (c50_2906 2 x63 x64 (fun x76 x77 x78 => c51_1 8 x77 x78 (fun x79 x80 x81 => cond ((x1.size : Int) != 20) (K0 0 0 0 0 0 0 0 6) (c46_1 x4 (IntKind.u32.wrap x7) x10 x13 x62 x76 x79 (fun x82 => cond (x82 != 0) (K0 0 0 0 0 0 0 0 6) (K0 x4 (IntKind.u32.wrap x7) x10 x13 x62 x76 x79 0)) )) ) )) ) (c50_2906 2 x14 x15 (fun x83 x84 x85 => c50_2906 2 x84 x85 (fun x86 x87 x88 => c51_1 8 x87 x88 (fun x89 x90 x91 => cond ((x1.size : Int) != 20) (K0 0 0 0 0 0 0 0 6) (c46_1 x4 (IntKind.u32.wrap x7) x10 x13 x83 x86 x89 (fun x92 => cond (x92 != 0) (K0 0 0 0 0 0 0 0 6) (K0 x4 (IntKind.u32.wrap x7) x10 x13 x83 x86 x89 0)) )) ) ) ) (c50_2906 2 x14 x15 (fun x93 x94 x95 => (fun z1 => amb z1 z1) (c50_2906 2 x94 x95 (fun x96 x97 x98 => c51_1 8 x97 x98 (fun x99 x100 x101 => cond ((x1.size : Int) != 20) (K0 0 0 0 0 0 0 0 6) (c46_1 x4 (IntKind.u32.wrap x7) x10 x13 x93 x96 x99 (fun x102 => cond (x102 != 0) (K0 0 0 0 0 0 0 0 6) (K0 x4 (IntKind.u32.wrap x7) x10 x13 x93 x96 x99 0)) )) ) )) )) ) (c50_2906 1 x11 x12 (fun x120 x121 x122 => amb (c50_2906 2 x121 x122 (fun x123 x124 x125 => amb (c50_2906 2 x124 x125 (fun x126 x127 x128 => (fun z1 => amb z1 z1) (c51_1 8 x127 x128 (fun x129 x130 x131 => cond ((x1.size : Int) != 20) (K0 0 0 0 0 0 0 0 6) (c46_1 x4 (IntKind.u32.wrap x7) x10 x120 x123 x126 x129 (fun x132 => cond (x132 != 0) (K0 0 0 0 0 0 0 0 6) (K0 x4 (IntKind.u32.wrap x7) x10 x120 x123 x126 x129 0)) )) )) ) (c50_2906 2 x124 x125 (fun x137 x138 x139 => c51_1 8 x138 x139 (fun x140 x141 x142 => cond ((x1.size : Int) != 20) (K0 0 0 0 0 0 0 0 6) (c46_1 x4 (IntKind.u32.wrap x7) x10 x120 x123 x137 x140 (fun x143 => cond (x143 != 0) (K0 0 0 0 0 0 0 0 6) (K0 x4 (IntKind.u32.wrap x7) x10 x120 x123 x137 x140 0)) )) ) )) ) (c50_2906 2 x121 x122 (fun x144 x145 x146 => c50_2906 2 x145 x146 (fun x147 x148 x149 => c51_1 8 x148 x149 (fun x150 x151 x152 => cond ((x1.size : Int) != 20) (K0 0 0 0 0 0 0 0 6) (c46_1 x4 (IntKind.u32.wrap x7) x10 x120 x144 x147 x150 (fun x153 => cond (x153 != 0) (K0 0 0 0 0 0 0 0 6) (K0 x4 (IntKind.u32.wrap x7) x10 x120 x144 x147 x150 0)) )) ) ) )) ) (c50_2906 1 x11 x12 (fun x154 x155 x156 => c50_2906 2 x155 x156 (fun x157 x158 x159 => c50_2906 2 x158 x159 (fun x160 x161 x162 => c51_1 8 x161 x162 (fun x163 x164 x165 => cond ((x1.size : Int) != 20) (K0 0 0 0 0 0 0 0 6) (c46_1 x4 (IntKind.u32.wrap x7) x10 x154 x157 x160 x163 (fun x166 => cond (x166 != 0) (K0 0 0 0 0 0 0 0 6) (K0 x4 (IntKind.u32.wrap x7) x10 x154 x157 x160 x163 0)) )) ) ) ) ) (c50_2906 1 x11 x12 (fun x167 x168 x169 => amb (c50_2906 2 x168 x169 (fun x170 x171 x172 => (fun z1 => amb z1 z1) (c50_2906 2 x171 x172 (fun x173 x174 x175 => c51_1 8 x174 x175 (fun x176 x177 x178 => cond ((x1.size : Int) != 20) (K0 0 0 0 0 0 0 0 6) (c46_1 x4 (IntKind.u32.wrap x7) x10 x167 x170 x173 x176 (fun x179 => cond (x179 != 0) (K0 0 0 0 0 0 0 0 6) (K0 x4 (IntKind.u32.wrap x7) x10 x167 x170 x173 x176 0)) )) ) )) ) (c50_2906 2 x168 x169 (fun x187 x188 x189 => c50_2906 2 x188 x189 (fun x190 x191 x192 => c51_1 8 x191 x192 (fun x193 x194 x195 => cond ((x1.size : Int) != 20) (K0 0 0 0 0 0 0 0 6) (c46_1 x4 (IntKind.u32.wrap x7) x10 x167 x187 x190 x193 (fun x196 => cond (x196 != 0) (K0 0 0 0 0 0 0 0 6) (K0 x4 (IntKind.u32.wrap x7) x10 x167 x187 x190 x193 0)) )) ) ) )) )) ) (c50_2906 2 x8 x9 (fun x210 x211 x212 => amb (c50_2906 1 x211 x212 (fun x213 x214 x215 => amb (c50_2906 2 x214 x215 (fun x216 x217 x218 => amb (c50_2906 2 x217 x218 (fun x219 x220 x221 => (fun z1 => amb z1 z1) (c51_1 8 x220 x221 (fun x222 x223 x224 => cond ((x1.size : Int) != 20) (K0 0 0 0 0 0 0 0 6) (c46_1 x4 (IntKind.u32.wrap x7) x210 x213 x216 x219 x222 (fun x225 => cond (x225 != 0) (K0 0 0 0 0 0 0 0 6) (K0 x4 (IntKind.u32.wrap x7) x210 x213 x216 x219 x222 0)) )) )) ) (c50_2906 2 x217 x218 (fun x230 x231 x232 => c51_1 8 x231 x232 (fun x233 x234 x235 => cond ((x1.size : Int) != 20) (K0 0 0 0 0 0 0 0 6) (c46_1 x4 (IntKind.u32.wrap x7) x210 x213 x216 x230 x233 (fun x236 => cond (x236 != 0) (K0 0 0 0 0 0 0 0 6) (K0 x4 (IntKind.u32.wrap x7) x210 x213 x216 x230 x233 0)) )) ) )) ) (c50_2906 2 x214 x215 (fun x237 x238 x239 => c50_2906 2 x238 x239 (fun x240 x241 x242 => c51_1 8 x241 x242 (fun x243 x244 x245 => cond ((x1.size : Int) != 20) (K0 0 0 0 0 0 0 0 6) (c46_1 x4 (IntKind.u32.wrap x7) x210 x213 x237 x240 x243 (fun x246 => cond (x246 != 0) (K0 0 0 0 0 0 0 0 6) (K0 x4 (IntKind.u32.wrap x7) x210 x213 x237 x240 x243 0)) )) ) ) )) ) (c50_2906 1 x211 x212 (fun x247 x248 x249 => c50_2906 2 x248 x249 (fun x250 x251 x252 => c50_2906 2 x251 x252 (fun x253 x254 x255 => c51_1 8 x254 x255 (fun x256 x257 x258 => cond ((x1.size : Int) != 20) (K0 0 0 0 0 0 0 0 6) (c46_1 x4 (IntKind.u32.wrap x7) x210 x247 x250 x253 x256 (fun x259 => cond (x259 != 0) (K0 0 0 0 0 0 0 0 6) (K0 x4 (IntKind.u32.wrap x7) x210 x247 x250 x253 x256 0)) )) ) ) ) )) ) (c50_2906 2 x8 x9 (fun x260 x261 x262 => c50_2906 1 x261 x262 (fun x263 x264 x265 => c50_2906 2 x264 x265 (fun x266 x267 x268 => c50_2906 2 x267 x268 (fun x269 x270 x271 => c51_1 8 x270 x271 (fun x272 x273 x274 => cond ((x1.size : Int) != 20) (K0 0 0 0 0 0 0 0 6) (c46_1 x4 (IntKind.u32.wrap x7) x260 x263 x266 x269 x272 (fun x275 => cond (x275 != 0) (K0 0 0 0 0 0 0 0 6) (K0 x4 (IntKind.u32.wrap x7) x260 x263 x266 x269 x272 0)) )) ) ) ) ) ) (c50_2906 2 x8 x9 (fun x276 x277 x278 => amb (c50_2906 1 x277 x278 (fun x279 x280 x281 => amb (c50_2906 2 x280 x281 (fun x282 x283 x284 => (fun z1 => amb z1 z1) (c50_2906 2 x283 x284 (fun x285 x286 x287 => c51_1 8 x286 x287 (fun x288 x289 x290 => cond ((x1.size : Int) != 20) (K0 0 0 0 0 0 0 0 6) (c46_1 x4 (IntKind.u32.wrap x7) x276 x279 x282 x285 x288 (fun x291 => cond (x291 != 0) (K0 0 0 0 0 0 0 0 6) (K0 x4 (IntKind.u32.wrap x7) x276 x279 x282 x285 x288 0)) )) ) )) ) (c50_2906 2 x280 x281 (fun x299 x300 x301 => c50_2906 2 x300 x301 (fun x302 x303 x304 => c51_1 8 x303 x304 (fun x305 x306 x307 => cond ((x1.size : Int) != 20) (K0 0 0 0 0 0 0 0 6) (c46_1 x4 (IntKind.u32.wrap x7) x276 x279 x299 x302 x305 (fun x308 => cond (x308 != 0) (K0 0 0 0 0 0 0 0 6) (K0 x4 (IntKind.u32.wrap x7) x276 x279 x299 x302 x305 0)) )) ) ) )) ) (c50_2906 1 x277 x278 (fun x309 x310 x311 => c50_2906 2 x310 x311 (fun x312 x313 x314 => c50_2906 2 x313 x314 (fun x315 x316 x317 => c51_1 8 x316 x317 (fun x318 x319 x320 => cond ((x1.size : Int) != 20) (K0 0 0 0 0 0 0 0 6) (c46_1 x4 (IntKind.u32.wrap x7) x276 x309 x312 x315 x318 (fun x321 => cond (x321 != 0) (K0 0 0 0 0 0 0 0 6) (K0 x4 (IntKind.u32.wrap x7) x276 x309 x312 x315 x318 0)) )) ) ) ) )) )) ) (c51_1 4 x5 x6 (fun x338 x339 x340 => amb (c50_2906 2 x339 x340 (fun x341 x342 x343 => amb (c50_2906 1 x342 x343 (fun x344 x345 x346 => amb (c50_2906 2 x345 x346 (fun x347 x348 x349 => amb (c50_2906 2 x348 x349 (fun x350 x351 x352 => (fun z1 => amb z1 z1) (c51_1 8 x351 x352 (fun x353 x354 x355 => cond ((x1.size : Int) != 20) (K0 0 0 0 0 0 0 0 6) (c46_1 x4 (IntKind.u32.wrap x338) x341 x344 x347 x350 x353 (fun x356 => cond (x356 != 0) (K0 0 0 0 0 0 0 0 6) (K0 x4 (IntKind.u32.wrap x338) x341 x344 x347 x350 x353 0)) )) )) ) (c50_2906 2 x348 x349 (fun x361 x362 x363 => c51_1 8 x362 x363 (fun x364 x365 x366 => cond ((x1.size : Int) != 20) (K0 0 0 0 0 0 0 0 6) (c46_1 x4 (IntKind.u32.wrap x338) x341 x344 x347 x361 x364 (fun x367 => cond (x367 != 0) (K0 0 0 0 0 0 0 0 6) (K0 x4 (IntKind.u32.wrap x338) x341 x344 x347 x361 x364 0)) )) ) )) ) (c50_2906 2 x345 x346 (fun x368 x369 x370 => c50_2906 2 x369 x370 (fun x371 x372 x373 => c51_1 8 x372 x373 (fun x374 x375 x376 => cond ((x1.size : Int) != 20) (K0 0 0 0 0 0 0 0 6) (c46_1 x4 (IntKind.u32.wrap x338) x341 x344 x368 x371 x374 (fun x377 => cond (x377 != 0) (K0 0 0 0 0 0 0 0 6) (K0 x4 (IntKind.u32.wrap x338) x341 x344 x368 x371 x374 0)) )) ) ) )) ) (c50_2906 1 x342 x343 (fun x378 x379 x380 => c50_2906 2 x379 x380 (fun x381 x382 x383 => c50_2906 2 x382 x383 (fun x384 x385 x386 => c51_1 8 x385 x386 (fun x387 x388 x389 => cond ((x1.size : Int) != 20) (K0 0 0 0 0 0 0 0 6) (c46_1 x4 (IntKind.u32.wrap x338) x341 x378 x381 x384 x387 (fun x390 => cond (x390 != 0) (K0 0 0 0 0 0 0 0 6) (K0 x4 (IntKind.u32.wrap x338) x341 x378 x381 x384 x387 0)) )) ) ) ) )) ) (c50_2906 2 x339 x340 (fun x391 x392 x393 => c50_2906 1 x392 x393 (fun x394 x395 x396 => c50_2906 2 x395 x396 (fun x397 x398 x399 => c50_2906 2 x398 x399 (fun x400 x401 x402 => c51_1 8 x401 x402 (fun x403 x404 x405 => cond ((x1.size : Int) != 20) (K0 0 0 0 0 0 0 0 6) (c46_1 x4 (IntKind.u32.wrap x338) x391 x394 x397 x400 x403 (fun x406 => cond (x406 != 0) (K0 0 0 0 0 0 0 0 6) (K0 x4 (IntKind.u32.wrap x338) x391 x394 x397 x400 x403 0)) )) ) ) ) ) )) ) (c51_1 4 x5 x6 (fun x407 x408 x409 => c50_2906 2 x408 x409 (fun x410 x411 x412 => c50_2906 1 x411 x412 (fun x413 x414 x415 => c50_2906 2 x414 x415 (fun x416 x417 x418 => c50_2906 2 x417 x418 (fun x419 x420 x421 => c51_1 8 x420 x421 (fun x422 x423 x424 => cond ((x1.size : Int) != 20) (K0 0 0 0 0 0 0 0 6) (c46_1 x4 (IntKind.u32.wrap x407) x410 x413 x416 x419 x422 (fun x425 => cond (x425 != 0) (K0 0 0 0 0 0 0 0 6) (K0 x4 (IntKind.u32.wrap x407) x410 x413 x416 x419 x422 0)) )) ) ) ) ) ) ) (c51_1 4 x5 x6 (fun x426 x427 x428 => amb (c50_2906 2 x427 x428 (fun x429 x430 x431 => amb (c50_2906 1 x430 x431 (fun x432 x433 x434 => amb (c50_2906 2 x433 x434 (fun x435 x436 x437 => (fun z1 => amb z1 z1) (c50_2906 2 x436 x437 (fun x438 x439 x440 => c51_1 8 x439 x440 (fun x441 x442 x443 => cond ((x1.size : Int) != 20) (K0 0 0 0 0 0 0 0 6) (c46_1 x4 (IntKind.u32.wrap x426) x429 x432 x435 x438 x441 (fun x444 => cond (x444 != 0) (K0 0 0 0 0 0 0 0 6) (K0 x4 (IntKind.u32.wrap x426) x429 x432 x435 x438 x441 0)) )) ) )) ) (c50_2906 2 x433 x434 (fun x452 x453 x454 => c50_2906 2 x453 x454 (fun x455 x456 x457 => c51_1 8 x456 x457 (fun x458 x459 x460 => cond ((x1.size : Int) != 20) (K0 0 0 0 0 0 0 0 6) (c46_1 x4 (IntKind.u32.wrap x426) x429 x432 x452 x455 x458 (fun x461 => cond (x461 != 0) (K0 0 0 0 0 0 0 0 6) (K0 x4 (IntKind.u32.wrap x426) x429 x432 x452 x455 x458 0)) )) ) ) )) ) (c50_2906 1 x430 x431 (fun x462 x463 x464 => c50_2906 2 x463 x464 (fun x465 x466 x467 => c50_2906 2 x466 x467 (fun x468 x469 x470 => c51_1 8 x469 x470 (fun x471 x472 x473 => cond ((x1.size : Int) != 20) (K0 0 0 0 0 0 0 0 6) (c46_1 x4 (IntKind.u32.wrap x426) x429 x462 x465 x468 x471 (fun x474 => cond (x474 != 0) (K0 0 0 0 0 0 0 0 6) (K0 x4 (IntKind.u32.wrap x426) x429 x462 x465 x468 x471 0)) )) ) ) ) )) ) (c50_2906 2 x427 x428 (fun x475 x476 x477 => c50_2906 1 x476 x477 (fun x478 x479 x480 => c50_2906 2 x479 x480 (fun x481 x482 x483 => c50_2906 2 x482 x483 (fun x484 x485 x486 => c51_1 8 x485 x486 (fun x487 x488 x489 => cond ((x1.size : Int) != 20) (K0 0 0 0 0 0 0 0 6) (c46_1 x4 (IntKind.u32.wrap x426) x475 x478 x481 x484 x487 (fun x490 => cond (x490 != 0) (K0 0 0 0 0 0 0 0 6) (K0 x4 (IntKind.u32.wrap x426) x475 x478 x481 x484 x487 0)) )) ) ) ) ) )) )) ) )) ) d.1.1 (fun (y0 : Int) (y1 : Int) (y2 : Int) (y3 : Int) (y4 : Int) (y5 : Int) (y6 : Int) (y7 : Int) => K [.lf (.int .i64 y0), .agg [.int .u32 y1, .int .i64 y2, .int .i64 y3, .int .i64 y4, .int .i64 y5, .int .u64 y6], .lf (.int .i64 y7)] []) := by kernel_rfl
theorem E19_1 (F : Nat) (d : sh19_1.den) (K : KF) : evBody Tryd.prog (T19_1 F) (xw [7]) 53 0 (LT19_1 F) [] code19 Tryd.f19.results.toList (encT sh19_1.vs d.1) (encH sh19_1.h d.2) K = f19_1 F d.1.1 (fun (y0 : Int) (y1 : Int) (y2 : Int) (y3 : Int) (y4 : Int) (y5 : Int) (y6 : Int) (y7 : Int) => K [.lf (.int .i64 y0), .agg [.int .u32 y1, .int .i64 y2, .int .i64 y3, .int .i64 y4, .int .i64 y5, .int .u64 y6], .lf (.int .i64 y7)] []) := Eq.mp (by kernel_rfl) (E19_1g F (f13_1 F) (f46_1 F) (f49_1 F) (f50_2906 F) (f51_1 F)   d K)
theorem S19_1_ok (F : Nat) (o : Summ) (ho : SoundFn Tryd.prog 19 o) : SoundFn Tryd.prog 19 (S19_1 F o) :=
  soundFn_of (fn := Tryd.f19) (c := code19) rfl rfl (by kernel_rfl) (tab_cons (S13_1_ok F _ (noS_sound enter13)) (tab_cons (S46_1_ok F _ (noS_sound enter46)) (tab_cons (S49_1_ok F _ (noS_sound enter49)) (tab_cons (S50_2906_ok F _ (noS_sound enter50)) (tab_cons (S51_1_ok F _ (noS_sound enter51)) tab_nil))))) (by kernel_rfl) (by kernel_rfl) ho (by rw [loops19]; exact loopsOK_nil) (by rw [scopes19]; exact scopesOK_nil) (by rw [ranges19]; exact rangesOK_nil) (E19_1 F)
end Go.Proofs.YtillbabmlfjegaaDoor.X
end

section
namespace Go.Proofs.YtillbabmlfjegaaDoor.X
open Go Go.Proofs.YtillbabmlfjegaaDoor.Ev Go.Proofs
set_option linter.unusedVariables false
set_option linter.unusedSectionVars false
/-! pentimentoref05.Right -/
noncomputable def f45_1 {β : Type} (F : Nat) (a1 : ByteArray) (K0 : Bool → Option β) : Option β := K0 ((a1.size : Int) == 64)
variable [FZ]
def sh45_1 : Sh := ⟨[.lf (.str)], []⟩
noncomputable def S45_1 (F : Nat) (o : Summ) : Summ := mkS sh45_1 (fun d K => f45_1 F d.1.1 (fun (y0 : Bool) => K [.lf (.bool y0)] [])) o
noncomputable def code45 : Code := bodyOf Tryd.f45
theorem scopes45 : scopesOf code45 = [] := by kernel_rfl
theorem ranges45 : rangesOf code45 = [] := by kernel_rfl
theorem loops45 : loopsOf code45 = [] := by kernel_rfl
theorem enter45 : ∀ args w, (callFunc 45 args).run Tryd.prog w = .ok (.enter 45 args) w := enter_of (fn := Tryd.f45) (by kernel_rfl) (by kernel_rfl) (by kernel_rfl)
noncomputable def T45_1 (F : Nat) : FuncId → Option Summ := tab []
noncomputable def LT45_1 (F : Nat) : Nat → Option LoopS := ltab []
theorem E45_1g (F : Nat)    (d : sh45_1.den) (K : KF) : evBody Tryd.prog (tab []) (xw []) 6 0 (ltab []) [] code45 Tryd.f45.results.toList (encT sh45_1.vs d.1) (encH sh45_1.h d.2) K = (fun (a1 : ByteArray) (K0 : (Bool → Option Res)) => K0 ((a1.size : Int) == 64)) d.1.1 (fun (y0 : Bool) => K [.lf (.bool y0)] []) := by kernel_rfl
theorem E45_1 (F : Nat) (d : sh45_1.den) (K : KF) : evBody Tryd.prog (T45_1 F) (xw []) 6 0 (LT45_1 F) [] code45 Tryd.f45.results.toList (encT sh45_1.vs d.1) (encH sh45_1.h d.2) K = f45_1 F d.1.1 (fun (y0 : Bool) => K [.lf (.bool y0)] []) := Eq.mp (by kernel_rfl) (E45_1g F    d K)
theorem S45_1_ok (F : Nat) (o : Summ) (ho : SoundFn Tryd.prog 45 o) : SoundFn Tryd.prog 45 (S45_1 F o) :=
  soundFn_of (fn := Tryd.f45) (c := code45) rfl rfl (by kernel_rfl) tab_nil (by kernel_rfl) (by kernel_rfl) ho (by rw [loops45]; exact loopsOK_nil) (by rw [scopes45]; exact scopesOK_nil) (by rw [ranges45]; exact rangesOK_nil) (E45_1 F)
end Go.Proofs.YtillbabmlfjegaaDoor.X
end

section
namespace Go.Proofs.YtillbabmlfjegaaDoor.X
open Go Go.Proofs.YtillbabmlfjegaaDoor.Ev Go.Proofs
set_option linter.unusedVariables false
set_option linter.unusedSectionVars false
/-! pentimentoref08.Kind -/
noncomputable def f16_1_l8 {β : Type} (F : Nat) (v4 : ByteArray) (K0 : Option β) (K1 : Option β) : Nat → Int → Option β
  | 0, _ => none
  | k + 1, v5 => cond (decide (v5 < 60)) (cond (decide ((0 : Int) ≤ v5 ∧ v5 < (v4.size : Int))) (cond (((v4.data.getD v5.toNat 0).toNat : Int) != 0) (K0) (f16_1_l8 F v4 K0 K1 k (IntKind.i64.wrap (v5 + 1)))) none) (K1)
noncomputable def f16_1 {β : Type} (F : Nat) (a1 : ByteArray) (K0 : Int → Int → Option β) : Option β := f45_1 F a1 (fun x1 => cond (!x1) (K0 0 4) (cond (decide ((0 : Int) ≤ (0 : Int) ∧ (0 : Int) ≤ (60 : Int) ∧ (60 : Int) ≤ (a1.size : Int))) (cond (decide ((0 : Int) ≤ (60 : Int) ∧ (60 : Int) ≤ (a1.size : Int) ∧ (a1.size : Int) ≤ (a1.size : Int))) (f42_1 F (toInts (a1.extract 0 60)) (fun x2 => f40_1 F 4 (IntKind.u64.wrap x2) (fun x3 => cond (!(x3.toList == (a1.extract 60 ((a1.size : Int).toNat)).toList)) (K0 0 9) (cond (decide ((0 : Int) ≤ (0 : Int) ∧ (0 : Int) < (a1.size : Int))) (cond (decide (((a1.data.getD 0 0).toNat : Int) < 1)) (K0 0 6) (cond (decide ((0 : Int) ≤ (0 : Int) ∧ (0 : Int) < (a1.size : Int))) (cond (decide (((a1.data.getD 0 0).toNat : Int) > 8)) (K0 0 6) (cond (decide ((0 : Int) ≤ (1 : Int) ∧ (1 : Int) < (a1.size : Int))) (cond (decide (((a1.data.getD 1 0).toNat : Int) > 58)) (K0 0 6) (cond (decide ((0 : Int) ≤ (1 : Int) ∧ (1 : Int) < (a1.size : Int))) (f16_1_l8 F a1 (K0 0 6) (cond (decide ((0 : Int) ≤ (0 : Int) ∧ (0 : Int) < (a1.size : Int))) (K0 (IntKind.i64.wrap ((a1.data.getD 0 0).toNat : Int)) 0) none) F (IntKind.i64.wrap (2 + (IntKind.i64.wrap ((a1.data.getD 1 0).toNat : Int))))) none)) none)) none)) none)) ) ) none) none)) 
variable [FZ]
def sh16_1 : Sh := ⟨[.lf (.str)], []⟩
noncomputable def S16_1 (F : Nat) (o : Summ) : Summ := mkS sh16_1 (fun d K => f16_1 F d.1.1 (fun (y0 : Int) (y1 : Int) => K [.lf (.int .i64 y0), .lf (.int .i64 y1)] [])) o
noncomputable def code16 : Code := bodyOf Tryd.f16
noncomputable def b16_0 : Code := cB (cB (cR (cL (cR (cR (cR (cR (code16))))))))
theorem scopes16 : scopesOf code16 = [] := by kernel_rfl
theorem ranges16 : rangesOf code16 = [] := by kernel_rfl
theorem loops16 : loopsOf code16 = [b16_0] := by kernel_rfl
theorem enter16 : ∀ args w, (callFunc 16 args).run Tryd.prog w = .ok (.enter 16 args) w := enter_of (fn := Tryd.f16) (by kernel_rfl) (by kernel_rfl) (by kernel_rfl)
noncomputable def T16_1 (F : Nat) : FuncId → Option Summ := tab [(40, (S40_1 F noS)), (42, (S42_1 F noS)), (45, (S45_1 F noS))]
def sh16_1_l8 : Sh := ⟨[.lf (.str), .lf (.int .i64)], []⟩
noncomputable def G16_1_8 (F k : Nat) : LoopS := mkG sh16_1_l8 [0, 4] (outT [(.exit 0, [0]), (.ret, [2, 3])]) (fun d K => f16_1_l8 F d.1.1 (K .ret [.tv (.lf (.int .i64 0)), .tv (.lf (.int .i64 6))] []) (K (.exit 0) [.tv (.lf (.str d.1.1))] []) k d.1.2.1) []
noncomputable def LT16_1 (F : Nat) : Nat → Option LoopS := ltab [(8, G16_1_8 F F)]
theorem L16_1_l8g (F k : Nat) (c40_1 : Int → Int → (ByteArray → Option Res) → Option Res) (c42_1 : List Int → (Int → Option Res) → Option Res) (c45_1 : ByteArray → (Bool → Option Res) → Option Res)  (l8 : ByteArray → (Option Res) → (Option Res) → Nat → Int → Option Res) (X8 : LoopS) (d : sh16_1_l8.den) (K : KL) : (fun (v4 : ByteArray) (K0 : (Option Res)) (K1 : (Option Res)) (k : Nat) (v5 : Int) => cond (decide (v5 < 60)) (cond (decide ((0 : Int) ≤ v5 ∧ v5 < (v4.size : Int))) (cond (((v4.data.getD v5.toNat 0).toNat : Int) != 0) (K0) (l8 v4 K0 K1 k (IntKind.i64.wrap (v5 + 1)))) none) (K1)) d.1.1 (K .ret [.tv (.lf (.int .i64 0)), .tv (.lf (.int .i64 6))] []) (K (.exit 0) [.tv (.lf (.str d.1.1))] []) k d.1.2.1 = roundOf Tryd.prog (tab [(40, (mkS sh40_1 (fun d K => c40_1 d.1.1 d.1.2.1 (fun (y0 : ByteArray) => K [.lf (.str y0)] [])) noS)), (42, (mkS sh42_1 (fun d K => c42_1 d.2.1.2.1 (fun (y0 : Int) => K [.lf (.int .u32 y0)] [some ⟨d.2.1.1, [.seq (.int .u8) 0 d.2.1.2.1]⟩])) noS)), (45, (mkS sh45_1 (fun d K => c45_1 d.1.1 (fun (y0 : Bool) => K [.lf (.bool y0)] [])) noS))]) (xw []) 45 0 (ltab [(8, X8)]) (mkG sh16_1_l8 [0, 4] (outT [(.exit 0, [0]), (.ret, [2, 3])]) (fun d K => l8 d.1.1 (K .ret [.tv (.lf (.int .i64 0)), .tv (.lf (.int .i64 6))] []) (K (.exit 0) [.tv (.lf (.str d.1.1))] []) k d.1.2.1) []) b16_0 (encT sh16_1_l8.vs d.1) (encH sh16_1_l8.h d.2) K := by kernel_rfl
theorem L16_1_8 (F : Nat) : LoopOK Tryd.prog (T16_1 F) (xw []) 45 0 (LT16_1 F) (G16_1_8 F F) b16_0 :=
  loopOK_of (s := sh16_1_l8) (live := [0, 4]) (out := (outT [(.exit 0, [0]), (.ret, [2, 3])])) (mv := []) (fun k d K => f16_1_l8 F d.1.1 (K .ret [.tv (.lf (.int .i64 0)), .tv (.lf (.int .i64 6))] []) (K (.exit 0) [.tv (.lf (.str d.1.1))] []) k d.1.2.1) F (fun d K => by kernel_rfl)  (fun k d K => Eq.mp (by kernel_rfl) (L16_1_l8g F k (f40_1 F) (f42_1 F) (f45_1 F)  (f16_1_l8 F) (G16_1_8 F F) d K))
theorem E16_1g (F : Nat) (c40_1 : Int → Int → (ByteArray → Option Res) → Option Res) (c42_1 : List Int → (Int → Option Res) → Option Res) (c45_1 : ByteArray → (Bool → Option Res) → Option Res) (l8 : ByteArray → (Option Res) → (Option Res) → Nat → Int → Option Res)  (d : sh16_1.den) (K : KF) : evBody Tryd.prog (tab [(40, (mkS sh40_1 (fun d K => c40_1 d.1.1 d.1.2.1 (fun (y0 : ByteArray) => K [.lf (.str y0)] [])) noS)), (42, (mkS sh42_1 (fun d K => c42_1 d.2.1.2.1 (fun (y0 : Int) => K [.lf (.int .u32 y0)] [some ⟨d.2.1.1, [.seq (.int .u8) 0 d.2.1.2.1]⟩])) noS)), (45, (mkS sh45_1 (fun d K => c45_1 d.1.1 (fun (y0 : Bool) => K [.lf (.bool y0)] [])) noS))]) (xw []) 45 0 (ltab [(8, mkG sh16_1_l8 [0, 4] (outT [(.exit 0, [0]), (.ret, [2, 3])]) (fun d K => l8 d.1.1 (K .ret [.tv (.lf (.int .i64 0)), .tv (.lf (.int .i64 6))] []) (K (.exit 0) [.tv (.lf (.str d.1.1))] []) F d.1.2.1) [])]) [] code16 Tryd.f16.results.toList (encT sh16_1.vs d.1) (encH sh16_1.h d.2) K = (fun (a1 : ByteArray) (K0 : (Int → Int → Option Res)) => c45_1 a1 (fun x1 => cond (!x1) (K0 0 4) (cond (decide ((0 : Int) ≤ (0 : Int) ∧ (0 : Int) ≤ (60 : Int) ∧ (60 : Int) ≤ (a1.size : Int))) (cond (decide ((0 : Int) ≤ (60 : Int) ∧ (60 : Int) ≤ (a1.size : Int) ∧ (a1.size : Int) ≤ (a1.size : Int))) (c42_1 (toInts (a1.extract 0 60)) (fun x2 => c40_1 4 (IntKind.u64.wrap x2) (fun x3 => cond (!(x3.toList == (a1.extract 60 ((a1.size : Int).toNat)).toList)) (K0 0 9) (cond (decide ((0 : Int) ≤ (0 : Int) ∧ (0 : Int) < (a1.size : Int))) (cond (decide (((a1.data.getD 0 0).toNat : Int) < 1)) (K0 0 6) (cond (decide ((0 : Int) ≤ (0 : Int) ∧ (0 : Int) < (a1.size : Int))) (cond (decide (((a1.data.getD 0 0).toNat : Int) > 8)) (K0 0 6) (cond (decide ((0 : Int) ≤ (1 : Int) ∧ (1 : Int) < (a1.size : Int))) (cond (decide (((a1.data.getD 1 0).toNat : Int) > 58)) (K0 0 6) (cond (decide ((0 : Int) ≤ (1 : Int) ∧ (1 : Int) < (a1.size : Int))) (l8 a1 (K0 0 6) (cond (decide ((0 : Int) ≤ (0 : Int) ∧ (0 : Int) < (a1.size : Int))) (K0 (IntKind.i64.wrap ((a1.data.getD 0 0).toNat : Int)) 0) none) F (IntKind.i64.wrap (2 + (IntKind.i64.wrap ((a1.data.getD 1 0).toNat : Int))))) none)) none)) none)) none)) ) ) none) none)) ) d.1.1 (fun (y0 : Int) (y1 : Int) => K [.lf (.int .i64 y0), .lf (.int .i64 y1)] []) := by kernel_rfl
theorem E16_1 (F : Nat) (d : sh16_1.den) (K : KF) : evBody Tryd.prog (T16_1 F) (xw []) 45 0 (LT16_1 F) [] code16 Tryd.f16.results.toList (encT sh16_1.vs d.1) (encH sh16_1.h d.2) K = f16_1 F d.1.1 (fun (y0 : Int) (y1 : Int) => K [.lf (.int .i64 y0), .lf (.int .i64 y1)] []) := Eq.mp (by kernel_rfl) (E16_1g F (f40_1 F) (f42_1 F) (f45_1 F) (f16_1_l8 F)  d K)
theorem S16_1_ok (F : Nat) (o : Summ) (ho : SoundFn Tryd.prog 16 o) : SoundFn Tryd.prog 16 (S16_1 F o) :=
  soundFn_of (fn := Tryd.f16) (c := code16) rfl rfl (by kernel_rfl) (tab_cons (S40_1_ok F _ (noS_sound enter40)) (tab_cons (S42_1_ok F _ (noS_sound enter42)) (tab_cons (S45_1_ok F _ (noS_sound enter45)) tab_nil))) (by kernel_rfl) (by kernel_rfl) ho (by rw [loops16]; exact (loopsOK_cons (by kernel_rfl) (L16_1_8 F) loopsOK_nil)) (by rw [scopes16]; exact scopesOK_nil) (by rw [ranges16]; exact rangesOK_nil) (E16_1 F)
end Go.Proofs.YtillbabmlfjegaaDoor.X
end

section
namespace Go.Proofs.YtillbabmlfjegaaDoor.X
open Go Go.Proofs.YtillbabmlfjegaaDoor.Ev Go.Proofs
set_option linter.unusedVariables false
set_option linter.unusedSectionVars false
/-! pentimentoref08.Open -/
noncomputable def f14_1 {β : Type} (F : Nat) (a1 : Int) (a2 : ByteArray) (K0 : ByteArray → Int → Option β) : Option β := f16_1 F a2 (fun x1 x2 => cond (x2 != 0) (K0 ByteArray.empty x2) (cond (x1 != a1) (K0 ByteArray.empty 22) (cond (decide ((0 : Int) ≤ (1 : Int) ∧ (1 : Int) < (a2.size : Int))) (cond (decide ((0 : Int) ≤ (2 : Int) ∧ (2 : Int) ≤ IntKind.i64.wrap (2 + (IntKind.i64.wrap ((a2.data.getD 1 0).toNat : Int))) ∧ IntKind.i64.wrap (2 + (IntKind.i64.wrap ((a2.data.getD 1 0).toNat : Int))) ≤ (a2.size : Int))) (K0 (a2.extract 2 ((IntKind.i64.wrap (2 + (IntKind.i64.wrap ((a2.data.getD 1 0).toNat : Int)))).toNat)) 0) none) none))) 
variable [FZ]
def sh14_1 : Sh := ⟨[.lf (.int .i64), .lf (.str)], []⟩
noncomputable def S14_1 (F : Nat) (o : Summ) : Summ := mkS sh14_1 (fun d K => f14_1 F d.1.1 d.1.2.1 (fun (y0 : ByteArray) (y1 : Int) => K [.lf (.str y0), .lf (.int .i64 y1)] [])) o
noncomputable def code14 : Code := bodyOf Tryd.f14
theorem scopes14 : scopesOf code14 = [] := by kernel_rfl
theorem ranges14 : rangesOf code14 = [] := by kernel_rfl
theorem loops14 : loopsOf code14 = [] := by kernel_rfl
theorem enter14 : ∀ args w, (callFunc 14 args).run Tryd.prog w = .ok (.enter 14 args) w := enter_of (fn := Tryd.f14) (by kernel_rfl) (by kernel_rfl) (by kernel_rfl)
noncomputable def T14_1 (F : Nat) : FuncId → Option Summ := tab [(16, (S16_1 F noS))]
noncomputable def LT14_1 (F : Nat) : Nat → Option LoopS := ltab []
theorem E14_1g (F : Nat) (c16_1 : ByteArray → (Int → Int → Option Res) → Option Res)   (d : sh14_1.den) (K : KF) : evBody Tryd.prog (tab [(16, (mkS sh16_1 (fun d K => c16_1 d.1.1 (fun (y0 : Int) (y1 : Int) => K [.lf (.int .i64 y0), .lf (.int .i64 y1)] [])) noS))]) (xw []) 25 0 (ltab []) [] code14 Tryd.f14.results.toList (encT sh14_1.vs d.1) (encH sh14_1.h d.2) K = (fun (a1 : Int) (a2 : ByteArray) (K0 : (ByteArray → Int → Option Res)) => c16_1 a2 (fun x1 x2 => cond (x2 != 0) (K0 ByteArray.empty x2) (cond (x1 != a1) (K0 ByteArray.empty 22) (cond (decide ((0 : Int) ≤ (1 : Int) ∧ (1 : Int) < (a2.size : Int))) (cond (decide ((0 : Int) ≤ (2 : Int) ∧ (2 : Int) ≤ IntKind.i64.wrap (2 + (IntKind.i64.wrap ((a2.data.getD 1 0).toNat : Int))) ∧ IntKind.i64.wrap (2 + (IntKind.i64.wrap ((a2.data.getD 1 0).toNat : Int))) ≤ (a2.size : Int))) (K0 (a2.extract 2 ((IntKind.i64.wrap (2 + (IntKind.i64.wrap ((a2.data.getD 1 0).toNat : Int)))).toNat)) 0) none) none))) ) d.1.1 d.1.2.1 (fun (y0 : ByteArray) (y1 : Int) => K [.lf (.str y0), .lf (.int .i64 y1)] []) := by kernel_rfl
theorem E14_1 (F : Nat) (d : sh14_1.den) (K : KF) : evBody Tryd.prog (T14_1 F) (xw []) 25 0 (LT14_1 F) [] code14 Tryd.f14.results.toList (encT sh14_1.vs d.1) (encH sh14_1.h d.2) K = f14_1 F d.1.1 d.1.2.1 (fun (y0 : ByteArray) (y1 : Int) => K [.lf (.str y0), .lf (.int .i64 y1)] []) := Eq.mp (by kernel_rfl) (E14_1g F (f16_1 F)   d K)
theorem S14_1_ok (F : Nat) (o : Summ) (ho : SoundFn Tryd.prog 14 o) : SoundFn Tryd.prog 14 (S14_1 F o) :=
  soundFn_of (fn := Tryd.f14) (c := code14) rfl rfl (by kernel_rfl) (tab_cons (S16_1_ok F _ (noS_sound enter16)) tab_nil) (by kernel_rfl) (by kernel_rfl) ho (by rw [loops14]; exact loopsOK_nil) (by rw [scopes14]; exact scopesOK_nil) (by rw [ranges14]; exact rangesOK_nil) (E14_1 F)
end Go.Proofs.YtillbabmlfjegaaDoor.X
end

section
namespace Go.Proofs.YtillbabmlfjegaaDoor.X
open Go Go.Proofs.YtillbabmlfjegaaDoor.Ev Go.Proofs
set_option linter.unusedVariables false
set_option linter.unusedSectionVars false
/-! pentimentoref01.Get -/
noncomputable def f94_1_l7 {β : Type} (F : Nat) (v1 : Int) (v2 : Int) (v5 : List Int) (K0 : Int → Option β) : Nat → Int → Int → Option β
  | 0, _, _ => none
  | k + 1, v3, v4 => cond (decide (v4 < v2)) (cond (decide ((0 : Int) ≤ IntKind.i64.wrap (v1 + v4) ∧ IntKind.i64.wrap (v1 + v4) < ((v5.length : Nat) : Int))) (cond (decide (0 + ((IntKind.i64.wrap (v1 + v4)).toNat) < v5.length)) (f94_1_l7 F v1 v2 v5 K0 k (IntKind.u64.wrap ((IntKind.u64.wrap (v3 * 256)) + (IntKind.u64.wrap (v5.getD (0 + ((IntKind.i64.wrap (v1 + v4)).toNat)) 0)))) (IntKind.i64.wrap (v4 + 1))) none) none) (K0 v3)
noncomputable def f94_1 {β : Type} (F : Nat) (a1 : Int) (a2 : Int) (a3 : List Int) (K0 : Int → Int → Option β) : Option β := cond (decide (a2 < 1)) (K0 0 2) (cond (decide (a2 > 8)) (K0 0 2) (cond (decide (a1 < 0)) (K0 0 2) (cond (decide (a1 > ((a3.length : Nat) : Int))) (K0 0 7) (cond (decide (IntKind.i64.wrap (((a3.length : Nat) : Int) - a1) < a2)) (K0 0 7) (f94_1_l7 F a1 a2 a3 (fun x6 => K0 x6 0) F 0 0)))))
variable [FZ]
def sh94_1 : Sh := ⟨[.lf (.full 0), .lf (.int .i64), .lf (.int .i64)], [some ⟨none, [.seq (.int .u8) 0]⟩]⟩
noncomputable def S94_1 (F : Nat) (o : Summ) : Summ := mkS sh94_1 (fun d K => f94_1 F d.1.2.1 d.1.2.2.1 d.2.1.2.1 (fun (y0 : Int) (y1 : Int) => K [.lf (.int .u64 y0), .lf (.int .i64 y1)] [some ⟨d.2.1.1, [.seq (.int .u8) 0 d.2.1.2.1]⟩])) o
noncomputable def code94 : Code := bodyOf Tryd.f94
noncomputable def b94_0 : Code := cB (cB (cR (cL (cR (cR (cR (cR (code94))))))))
theorem scopes94 : scopesOf code94 = [] := by kernel_rfl
theorem ranges94 : rangesOf code94 = [] := by kernel_rfl
theorem loops94 : loopsOf code94 = [b94_0] := by kernel_rfl
theorem enter94 : ∀ args w, (callFunc 94 args).run Tryd.prog w = .ok (.enter 94 args) w := enter_of (fn := Tryd.f94) (by kernel_rfl) (by kernel_rfl) (by kernel_rfl)
noncomputable def T94_1 (F : Nat) : FuncId → Option Summ := tab []
def sh94_1_l7 : Sh := ⟨[.lf (.full 0), .lf (.int .i64), .lf (.int .i64), .lf (.int .u64), .lf (.int .i64)], [some ⟨none, [.seq (.int .u8) 0]⟩]⟩
noncomputable def G94_1_7 (F k : Nat) : LoopS := mkG sh94_1_l7 [0, 1, 2, 8, 9] (outT [(.exit 0, [8])]) (fun d K => f94_1_l7 F d.1.2.1 d.1.2.2.1 d.2.1.2.1 (fun (y0 : Int) => K (.exit 0) [.tv (.lf (.int .u64 y0))] [some ⟨d.2.1.1, [.seq (.int .u8) 0 d.2.1.2.1]⟩]) k d.1.2.2.2.1 d.1.2.2.2.2.1) []
noncomputable def LT94_1 (F : Nat) : Nat → Option LoopS := ltab [(7, G94_1_7 F F)]
theorem L94_1_l7g (F k : Nat)   (l7 : Int → Int → List Int → (Int → Option Res) → Nat → Int → Int → Option Res) (X7 : LoopS) (d : sh94_1_l7.den) (K : KL) : (fun (v1 : Int) (v2 : Int) (v5 : List Int) (K0 : (Int → Option Res)) (k : Nat) (v3 : Int) (v4 : Int) => cond (decide (v4 < v2)) (cond (decide ((0 : Int) ≤ IntKind.i64.wrap (v1 + v4) ∧ IntKind.i64.wrap (v1 + v4) < ((v5.length : Nat) : Int))) (cond (decide (0 + ((IntKind.i64.wrap (v1 + v4)).toNat) < v5.length)) (l7 v1 v2 v5 K0 k (IntKind.u64.wrap ((IntKind.u64.wrap (v3 * 256)) + (IntKind.u64.wrap (v5.getD (0 + ((IntKind.i64.wrap (v1 + v4)).toNat)) 0)))) (IntKind.i64.wrap (v4 + 1))) none) none) (K0 v3)) d.1.2.1 d.1.2.2.1 d.2.1.2.1 (fun (y0 : Int) => K (.exit 0) [.tv (.lf (.int .u64 y0))] [some ⟨d.2.1.1, [.seq (.int .u8) 0 d.2.1.2.1]⟩]) k d.1.2.2.2.1 d.1.2.2.2.2.1 = roundOf Tryd.prog (tab []) (xw []) 48 1 (ltab [(7, X7)]) (mkG sh94_1_l7 [0, 1, 2, 8, 9] (outT [(.exit 0, [8])]) (fun d K => l7 d.1.2.1 d.1.2.2.1 d.2.1.2.1 (fun (y0 : Int) => K (.exit 0) [.tv (.lf (.int .u64 y0))] [some ⟨d.2.1.1, [.seq (.int .u8) 0 d.2.1.2.1]⟩]) k d.1.2.2.2.1 d.1.2.2.2.2.1) []) b94_0 (encT sh94_1_l7.vs d.1) (encH sh94_1_l7.h d.2) K := by kernel_rfl
theorem L94_1_7 (F : Nat) : LoopOK Tryd.prog (T94_1 F) (xw []) 48 1 (LT94_1 F) (G94_1_7 F F) b94_0 :=
  loopOK_of (s := sh94_1_l7) (live := [0, 1, 2, 8, 9]) (out := (outT [(.exit 0, [8])])) (mv := []) (fun k d K => f94_1_l7 F d.1.2.1 d.1.2.2.1 d.2.1.2.1 (fun (y0 : Int) => K (.exit 0) [.tv (.lf (.int .u64 y0))] [some ⟨d.2.1.1, [.seq (.int .u8) 0 d.2.1.2.1]⟩]) k d.1.2.2.2.1 d.1.2.2.2.2.1) F (fun d K => by kernel_rfl)  (fun k d K => Eq.mp (by kernel_rfl) (L94_1_l7g F k   (f94_1_l7 F) (G94_1_7 F F) d K))
theorem E94_1g (F : Nat)  (l7 : Int → Int → List Int → (Int → Option Res) → Nat → Int → Int → Option Res)  (d : sh94_1.den) (K : KF) : evBody Tryd.prog (tab []) (xw []) 48 1 (ltab [(7, mkG sh94_1_l7 [0, 1, 2, 8, 9] (outT [(.exit 0, [8])]) (fun d K => l7 d.1.2.1 d.1.2.2.1 d.2.1.2.1 (fun (y0 : Int) => K (.exit 0) [.tv (.lf (.int .u64 y0))] [some ⟨d.2.1.1, [.seq (.int .u8) 0 d.2.1.2.1]⟩]) F d.1.2.2.2.1 d.1.2.2.2.2.1) [])]) [] code94 Tryd.f94.results.toList (encT sh94_1.vs d.1) (encH sh94_1.h d.2) K = (fun (a1 : Int) (a2 : Int) (a3 : List Int) (K0 : (Int → Int → Option Res)) => cond (decide (a2 < 1)) (K0 0 2) (cond (decide (a2 > 8)) (K0 0 2) (cond (decide (a1 < 0)) (K0 0 2) (cond (decide (a1 > ((a3.length : Nat) : Int))) (K0 0 7) (cond (decide (IntKind.i64.wrap (((a3.length : Nat) : Int) - a1) < a2)) (K0 0 7) (l7 a1 a2 a3 (fun x6 => K0 x6 0) F 0 0)))))) d.1.2.1 d.1.2.2.1 d.2.1.2.1 (fun (y0 : Int) (y1 : Int) => K [.lf (.int .u64 y0), .lf (.int .i64 y1)] [some ⟨d.2.1.1, [.seq (.int .u8) 0 d.2.1.2.1]⟩]) := by kernel_rfl
theorem E94_1 (F : Nat) (d : sh94_1.den) (K : KF) : evBody Tryd.prog (T94_1 F) (xw []) 48 1 (LT94_1 F) [] code94 Tryd.f94.results.toList (encT sh94_1.vs d.1) (encH sh94_1.h d.2) K = f94_1 F d.1.2.1 d.1.2.2.1 d.2.1.2.1 (fun (y0 : Int) (y1 : Int) => K [.lf (.int .u64 y0), .lf (.int .i64 y1)] [some ⟨d.2.1.1, [.seq (.int .u8) 0 d.2.1.2.1]⟩]) := Eq.mp (by kernel_rfl) (E94_1g F  (f94_1_l7 F)  d K)
theorem S94_1_ok (F : Nat) (o : Summ) (ho : SoundFn Tryd.prog 94 o) : SoundFn Tryd.prog 94 (S94_1 F o) :=
  soundFn_of (fn := Tryd.f94) (c := code94) rfl rfl (by kernel_rfl) tab_nil (by kernel_rfl) (by kernel_rfl) ho (by rw [loops94]; exact (loopsOK_cons (by kernel_rfl) (L94_1_7 F) loopsOK_nil)) (by rw [scopes94]; exact scopesOK_nil) (by rw [ranges94]; exact rangesOK_nil) (E94_1 F)
end Go.Proofs.YtillbabmlfjegaaDoor.X
end

section
namespace Go.Proofs.YtillbabmlfjegaaDoor.X
open Go Go.Proofs.YtillbabmlfjegaaDoor.Ev Go.Proofs
set_option linter.unusedVariables false
set_option linter.unusedSectionVars false
/-! pentimentoref01.Reader).Num -/
noncomputable def f52_1 {β : Type} (F : Nat) (a1 : Int) (a2 : Int) (a3 : Int) (a4 : List Int) (K0 : Int → Int → Int → Option β) : Option β := cond (a3 != 0) (K0 0 a2 a3) (f94_1 F a2 a1 a4 (fun x1 x2 => cond (x2 == 0) (K0 x1 (IntKind.i64.wrap (a2 + a1)) x2) (K0 x1 a2 x2)) )
variable [FZ]
def sh52_1 : Sh := ⟨[.lf (.ptr 0 0), .lf (.int .i64)], [some ⟨some false, [.full 1, .int .i64, .int .i64]⟩, some ⟨none, [.seq (.int .u8) 0]⟩]⟩
noncomputable def S52_1 (F : Nat) (o : Summ) : Summ := mkS sh52_1 (fun d K => f52_1 F d.1.2.1 d.2.1.2.2.1 d.2.1.2.2.2.1 d.2.2.1.2.1 (fun (y0 : Int) (y1 : Int) (y2 : Int) => K [.lf (.int .u64 y0)] [some ⟨false, [.full 1, .int .i64 y1, .int .i64 y2]⟩, some ⟨d.2.2.1.1, [.seq (.int .u8) 0 d.2.2.1.2.1]⟩])) o
noncomputable def code52 : Code := bodyOf Tryd.f52
theorem scopes52 : scopesOf code52 = [] := by kernel_rfl
theorem ranges52 : rangesOf code52 = [] := by kernel_rfl
theorem loops52 : loopsOf code52 = [] := by kernel_rfl
theorem enter52 : ∀ args w, (callFunc 52 args).run Tryd.prog w = .ok (.enter 52 args) w := enter_of (fn := Tryd.f52) (by kernel_rfl) (by kernel_rfl) (by kernel_rfl)
noncomputable def T52_1 (F : Nat) : FuncId → Option Summ := tab [(94, (S94_1 F noS))]
noncomputable def LT52_1 (F : Nat) : Nat → Option LoopS := ltab []
theorem E52_1g (F : Nat) (c94_1 : Int → Int → List Int → (Int → Int → Option Res) → Option Res)   (d : sh52_1.den) (K : KF) : evBody Tryd.prog (tab [(94, (mkS sh94_1 (fun d K => c94_1 d.1.2.1 d.1.2.2.1 d.2.1.2.1 (fun (y0 : Int) (y1 : Int) => K [.lf (.int .u64 y0), .lf (.int .i64 y1)] [some ⟨d.2.1.1, [.seq (.int .u8) 0 d.2.1.2.1]⟩])) noS))]) (xw []) 41 2 (ltab []) [] code52 Tryd.f52.results.toList (encT sh52_1.vs d.1) (encH sh52_1.h d.2) K = (fun (a1 : Int) (a2 : Int) (a3 : Int) (a4 : List Int) (K0 : (Int → Int → Int → Option Res)) => cond (a3 != 0) (K0 0 a2 a3) (c94_1 a2 a1 a4 (fun x1 x2 => cond (x2 == 0) (K0 x1 (IntKind.i64.wrap (a2 + a1)) x2) (K0 x1 a2 x2)) )) d.1.2.1 d.2.1.2.2.1 d.2.1.2.2.2.1 d.2.2.1.2.1 (fun (y0 : Int) (y1 : Int) (y2 : Int) => K [.lf (.int .u64 y0)] [some ⟨false, [.full 1, .int .i64 y1, .int .i64 y2]⟩, some ⟨d.2.2.1.1, [.seq (.int .u8) 0 d.2.2.1.2.1]⟩]) := by kernel_rfl
theorem E52_1 (F : Nat) (d : sh52_1.den) (K : KF) : evBody Tryd.prog (T52_1 F) (xw []) 41 2 (LT52_1 F) [] code52 Tryd.f52.results.toList (encT sh52_1.vs d.1) (encH sh52_1.h d.2) K = f52_1 F d.1.2.1 d.2.1.2.2.1 d.2.1.2.2.2.1 d.2.2.1.2.1 (fun (y0 : Int) (y1 : Int) (y2 : Int) => K [.lf (.int .u64 y0)] [some ⟨false, [.full 1, .int .i64 y1, .int .i64 y2]⟩, some ⟨d.2.2.1.1, [.seq (.int .u8) 0 d.2.2.1.2.1]⟩]) := Eq.mp (by kernel_rfl) (E52_1g F (f94_1 F)   d K)
theorem S52_1_ok (F : Nat) (o : Summ) (ho : SoundFn Tryd.prog 52 o) : SoundFn Tryd.prog 52 (S52_1 F o) :=
  soundFn_of (fn := Tryd.f52) (c := code52) rfl rfl (by kernel_rfl) (tab_cons (S94_1_ok F _ (noS_sound enter94)) tab_nil) (by kernel_rfl) (by kernel_rfl) ho (by rw [loops52]; exact loopsOK_nil) (by rw [scopes52]; exact scopesOK_nil) (by rw [ranges52]; exact rangesOK_nil) (E52_1 F)
end Go.Proofs.YtillbabmlfjegaaDoor.X
end

section
namespace Go.Proofs.YtillbabmlfjegaaDoor.X
open Go Go.Proofs.YtillbabmlfjegaaDoor.Ev Go.Proofs
set_option linter.unusedVariables false
set_option linter.unusedSectionVars false
/-! pentimentoref08.Config -/
noncomputable def f20_1 {β : Type} (F : Nat) (a1 : ByteArray) (K0 : Int → Int → Int → Int → Int → Int → Int → Int → Option β) : Option β := f14_1 F 1 a1 (fun x1 x2 => cond (x2 != 0) (K0 0 0 0 0 0 0 0 x2) (cond ((x1.size : Int) != 20) (K0 0 0 0 0 0 0 0 6) (f52_1 F 1 0 0 (toInts x1) (fun x3 x4 x5 => f52_1 F 4 x4 x5 (toInts x1) (fun x6 x7 x8 => f52_1 F 2 x7 x8 (toInts x1) (fun x9 x10 x11 => f52_1 F 1 x10 x11 (toInts x1) (fun x12 x13 x14 => f52_1 F 2 x13 x14 (toInts x1) (fun x15 x16 x17 => f52_1 F 2 x16 x17 (toInts x1) (fun x18 x19 x20 => f52_1 F 8 x19 x20 (toInts x1) (fun x21 x22 x23 => f18_1 F (IntKind.i64.wrap x3) (IntKind.u32.wrap x6) (IntKind.i64.wrap x9) (IntKind.i64.wrap x12) (IntKind.i64.wrap x15) (IntKind.i64.wrap x18) x21 (fun x24 x25 => cond (x25 != 0) (K0 0 0 0 0 0 0 0 6) (K0 (IntKind.i64.wrap x3) (IntKind.u32.wrap x6) (IntKind.i64.wrap x9) (IntKind.i64.wrap x12) (IntKind.i64.wrap x15) (IntKind.i64.wrap x18) x21 0)) ) ) ) ) ) ) ) ))) 
variable [FZ]
def sh20_1 : Sh := ⟨[.lf (.str)], []⟩
noncomputable def S20_1 (F : Nat) (o : Summ) : Summ := mkS sh20_1 (fun d K => f20_1 F d.1.1 (fun (y0 : Int) (y1 : Int) (y2 : Int) (y3 : Int) (y4 : Int) (y5 : Int) (y6 : Int) (y7 : Int) => K [.lf (.int .i64 y0), .agg [.int .u32 y1, .int .i64 y2, .int .i64 y3, .int .i64 y4, .int .i64 y5, .int .u64 y6], .lf (.int .i64 y7)] [])) o
noncomputable def code20 : Code := bodyOf Tryd.f20
theorem scopes20 : scopesOf code20 = [] := by kernel_rfl
theorem ranges20 : rangesOf code20 = [] := by kernel_rfl
theorem loops20 : loopsOf code20 = [] := by kernel_rfl
theorem enter20 : ∀ args w, (callFunc 20 args).run Tryd.prog w = .ok (.enter 20 args) w := enter_of (fn := Tryd.f20) (by kernel_rfl) (by kernel_rfl) (by kernel_rfl)
noncomputable def T20_1 (F : Nat) : FuncId → Option Summ := tab [(14, (S14_1 F noS)), (18, (S18_1 F noS)), (52, (S52_1 F noS))]
noncomputable def LT20_1 (F : Nat) : Nat → Option LoopS := ltab []
theorem E20_1g (F : Nat) (c14_1 : Int → ByteArray → (ByteArray → Int → Option Res) → Option Res) (c18_1 : Int → Int → Int → Int → Int → Int → Int → (ByteArray → Int → Option Res) → Option Res) (c52_1 : Int → Int → Int → List Int → (Int → Int → Int → Option Res) → Option Res)   (d : sh20_1.den) (K : KF) : evBody Tryd.prog (tab [(14, (mkS sh14_1 (fun d K => c14_1 d.1.1 d.1.2.1 (fun (y0 : ByteArray) (y1 : Int) => K [.lf (.str y0), .lf (.int .i64 y1)] [])) noS)), (18, (mkS sh18_1 (fun d K => c18_1 d.1.1 d.1.2.1.1 d.1.2.1.2.1 d.1.2.1.2.2.1 d.1.2.1.2.2.2.1 d.1.2.1.2.2.2.2.1 d.1.2.1.2.2.2.2.2.1 (fun (y0 : ByteArray) (y1 : Int) => K [.lf (.str y0), .lf (.int .i64 y1)] [])) noS)), (52, (mkS sh52_1 (fun d K => c52_1 d.1.2.1 d.2.1.2.2.1 d.2.1.2.2.2.1 d.2.2.1.2.1 (fun (y0 : Int) (y1 : Int) (y2 : Int) => K [.lf (.int .u64 y0)] [some ⟨false, [.full 1, .int .i64 y1, .int .i64 y2]⟩, some ⟨d.2.2.1.1, [.seq (.int .u8) 0 d.2.2.1.2.1]⟩])) noS))]) (xw []) 68 0 (ltab []) [] code20 Tryd.f20.results.toList (encT sh20_1.vs d.1) (encH sh20_1.h d.2) K = (fun (a1 : ByteArray) (K0 : (Int → Int → Int → Int → Int → Int → Int → Int → Option Res)) => c14_1 1 a1 (fun x1 x2 => cond (x2 != 0) (K0 0 0 0 0 0 0 0 x2) (cond ((x1.size : Int) != 20) (K0 0 0 0 0 0 0 0 6) (c52_1 1 0 0 (toInts x1) (fun x3 x4 x5 => c52_1 4 x4 x5 (toInts x1) (fun x6 x7 x8 => c52_1 2 x7 x8 (toInts x1) (fun x9 x10 x11 => c52_1 1 x10 x11 (toInts x1) (fun x12 x13 x14 => c52_1 2 x13 x14 (toInts x1) (fun x15 x16 x17 => c52_1 2 x16 x17 (toInts x1) (fun x18 x19 x20 => c52_1 8 x19 x20 (toInts x1) (fun x21 x22 x23 => c18_1 (IntKind.i64.wrap x3) (IntKind.u32.wrap x6) (IntKind.i64.wrap x9) (IntKind.i64.wrap x12) (IntKind.i64.wrap x15) (IntKind.i64.wrap x18) x21 (fun x24 x25 => cond (x25 != 0) (K0 0 0 0 0 0 0 0 6) (K0 (IntKind.i64.wrap x3) (IntKind.u32.wrap x6) (IntKind.i64.wrap x9) (IntKind.i64.wrap x12) (IntKind.i64.wrap x15) (IntKind.i64.wrap x18) x21 0)) ) ) ) ) ) ) ) ))) ) d.1.1 (fun (y0 : Int) (y1 : Int) (y2 : Int) (y3 : Int) (y4 : Int) (y5 : Int) (y6 : Int) (y7 : Int) => K [.lf (.int .i64 y0), .agg [.int .u32 y1, .int .i64 y2, .int .i64 y3, .int .i64 y4, .int .i64 y5, .int .u64 y6], .lf (.int .i64 y7)] []) := by kernel_rfl
theorem E20_1 (F : Nat) (d : sh20_1.den) (K : KF) : evBody Tryd.prog (T20_1 F) (xw []) 68 0 (LT20_1 F) [] code20 Tryd.f20.results.toList (encT sh20_1.vs d.1) (encH sh20_1.h d.2) K = f20_1 F d.1.1 (fun (y0 : Int) (y1 : Int) (y2 : Int) (y3 : Int) (y4 : Int) (y5 : Int) (y6 : Int) (y7 : Int) => K [.lf (.int .i64 y0), .agg [.int .u32 y1, .int .i64 y2, .int .i64 y3, .int .i64 y4, .int .i64 y5, .int .u64 y6], .lf (.int .i64 y7)] []) := Eq.mp (by kernel_rfl) (E20_1g F (f14_1 F) (f18_1 F) (f52_1 F)   d K)
theorem S20_1_ok (F : Nat) (o : Summ) (ho : SoundFn Tryd.prog 20 o) : SoundFn Tryd.prog 20 (S20_1 F o) :=
  soundFn_of (fn := Tryd.f20) (c := code20) rfl rfl (by kernel_rfl) (tab_cons (S14_1_ok F _ (noS_sound enter14)) (tab_cons (S18_1_ok F _ (noS_sound enter18)) (tab_cons (S52_1_ok F _ (noS_sound enter52)) tab_nil))) (by kernel_rfl) (by kernel_rfl) ho (by rw [loops20]; exact loopsOK_nil) (by rw [scopes20]; exact scopesOK_nil) (by rw [ranges20]; exact rangesOK_nil) (E20_1 F)
end Go.Proofs.YtillbabmlfjegaaDoor.X
end

section
namespace Go.Proofs.YtillbabmlfjegaaDoor.X
open Go Go.Proofs.YtillbabmlfjegaaDoor.Ev Go.Proofs
set_option linter.unusedVariables false
set_option linter.unusedSectionVars false
/-! pentimentolaw08.RecVolumes -/
noncomputable def f6_1 {β : Type} (F : Nat) (a1 : Int) (a2 : Int) (a3 : Int) (a4 : Int) (a5 : Int) (a6 : Int) (a7 : Int) (a8 : ByteArray) (K0 : Bool → Option β) : Option β := f17_1 F a1 a2 a3 a4 a5 a6 a7 (fun x1 x2 => f18_1 F a1 a2 a3 a4 a5 a6 a7 (fun x3 x4 => f19_1 F a8 (fun x5 x6 x7 x8 x9 x10 x11 x12 => f20_1 F a8 (fun x13 x14 x15 x16 x17 x18 x19 x20 => cond (!(x1.toList == x3.toList)) (K0 false) (cond (x2 != x4) (K0 false) (cond (x5 != x13) (K0 false) (cond (!((x6 == x14) && (((x7 == x15) && ((x8 == x16) && ((x9 == x17) && (x10 == x18)))) && (x11 == x19)))) (K0 false) (cond (x12 != x20) (K0 false) (f19_1 F x1 (fun x21 x22 x23 x24 x25 x26 x27 x28 => cond (x4 != 0) (f12_1 F  (fun x29 => K0 x29) ) (cond (x21 == a1) (cond ((x22 == a2) && (((x23 == a3) && ((x24 == a4) && ((x25 == a5) && (x26 == a6)))) && (x27 == a7))) (cond (x28 == 0) (f12_1 F  (fun x30 => K0 x30) ) (K0 false)) (K0 false)) (K0 false))) )))))) ) ) ) 
variable [FZ]
def sh6_1 : Sh := ⟨[.lf (.int .i64), .agg [.int .u32, .int .i64, .int .i64, .int .i64, .int .i64, .int .u64], .lf (.str)], []⟩
noncomputable def S6_1 (F : Nat) (o : Summ) : Summ := mkS sh6_1 (fun d K => f6_1 F d.1.1 d.1.2.1.1 d.1.2.1.2.1 d.1.2.1.2.2.1 d.1.2.1.2.2.2.1 d.1.2.1.2.2.2.2.1 d.1.2.1.2.2.2.2.2.1 d.1.2.2.1 (fun (y0 : Bool) => K [.lf (.bool y0)] [])) o
noncomputable def code6 : Code := bodyOf Tryd.f6
theorem scopes6 : scopesOf code6 = [] := by kernel_rfl
theorem ranges6 : rangesOf code6 = [] := by kernel_rfl
theorem loops6 : loopsOf code6 = [] := by kernel_rfl
theorem enter6 : ∀ args w, (callFunc 6 args).run Tryd.prog w = .ok (.enter 6 args) w := enter_of (fn := Tryd.f6) (by kernel_rfl) (by kernel_rfl) (by kernel_rfl)
noncomputable def T6_1 (F : Nat) : FuncId → Option Summ := tab [(12, (S12_1 F noS)), (17, (S17_1 F noS)), (18, (S18_1 F noS)), (19, (S19_1 F noS)), (20, (S20_1 F noS))]
noncomputable def LT6_1 (F : Nat) : Nat → Option LoopS := ltab []
theorem E6_1g (F : Nat) (c12_1 : (Bool → Option Res) → Option Res) (c17_1 : Int → Int → Int → Int → Int → Int → Int → (ByteArray → Int → Option Res) → Option Res) (c18_1 : Int → Int → Int → Int → Int → Int → Int → (ByteArray → Int → Option Res) → Option Res) (c19_1 : ByteArray → (Int → Int → Int → Int → Int → Int → Int → Int → Option Res) → Option Res) (c20_1 : ByteArray → (Int → Int → Int → Int → Int → Int → Int → Int → Option Res) → Option Res)   (d : sh6_1.den) (K : KF) : evBody Tryd.prog (tab [(12, (mkS sh12_1 (fun d K => c12_1 (fun (y0 : Bool) => K [.lf (.bool y0)] [])) noS)), (17, (mkS sh17_1 (fun d K => c17_1 d.1.1 d.1.2.1.1 d.1.2.1.2.1 d.1.2.1.2.2.1 d.1.2.1.2.2.2.1 d.1.2.1.2.2.2.2.1 d.1.2.1.2.2.2.2.2.1 (fun (y0 : ByteArray) (y1 : Int) => K [.lf (.str y0), .lf (.int .i64 y1)] [])) noS)), (18, (mkS sh18_1 (fun d K => c18_1 d.1.1 d.1.2.1.1 d.1.2.1.2.1 d.1.2.1.2.2.1 d.1.2.1.2.2.2.1 d.1.2.1.2.2.2.2.1 d.1.2.1.2.2.2.2.2.1 (fun (y0 : ByteArray) (y1 : Int) => K [.lf (.str y0), .lf (.int .i64 y1)] [])) noS)), (19, (mkS sh19_1 (fun d K => c19_1 d.1.1 (fun (y0 : Int) (y1 : Int) (y2 : Int) (y3 : Int) (y4 : Int) (y5 : Int) (y6 : Int) (y7 : Int) => K [.lf (.int .i64 y0), .agg [.int .u32 y1, .int .i64 y2, .int .i64 y3, .int .i64 y4, .int .i64 y5, .int .u64 y6], .lf (.int .i64 y7)] [])) noS)), (20, (mkS sh20_1 (fun d K => c20_1 d.1.1 (fun (y0 : Int) (y1 : Int) (y2 : Int) (y3 : Int) (y4 : Int) (y5 : Int) (y6 : Int) (y7 : Int) => K [.lf (.int .i64 y0), .agg [.int .u32 y1, .int .i64 y2, .int .i64 y3, .int .i64 y4, .int .i64 y5, .int .u64 y6], .lf (.int .i64 y7)] [])) noS))]) (xw []) 92 0 (ltab []) [] code6 Tryd.f6.results.toList (encT sh6_1.vs d.1) (encH sh6_1.h d.2) K = (fun (a1 : Int) (a2 : Int) (a3 : Int) (a4 : Int) (a5 : Int) (a6 : Int) (a7 : Int) (a8 : ByteArray) (K0 : (Bool → Option Res)) => c17_1 a1 a2 a3 a4 a5 a6 a7 (fun x1 x2 => c18_1 a1 a2 a3 a4 a5 a6 a7 (fun x3 x4 => c19_1 a8 (fun x5 x6 x7 x8 x9 x10 x11 x12 => c20_1 a8 (fun x13 x14 x15 x16 x17 x18 x19 x20 => cond (!(x1.toList == x3.toList)) (K0 false) (cond (x2 != x4) (K0 false) (cond (x5 != x13) (K0 false) (cond (!((x6 == x14) && (((x7 == x15) && ((x8 == x16) && ((x9 == x17) && (x10 == x18)))) && (x11 == x19)))) (K0 false) (cond (x12 != x20) (K0 false) (c19_1 x1 (fun x21 x22 x23 x24 x25 x26 x27 x28 => cond (x4 != 0) (c12_1  (fun x29 => K0 x29) ) (cond (x21 == a1) (cond ((x22 == a2) && (((x23 == a3) && ((x24 == a4) && ((x25 == a5) && (x26 == a6)))) && (x27 == a7))) (cond (x28 == 0) (c12_1  (fun x30 => K0 x30) ) (K0 false)) (K0 false)) (K0 false))) )))))) ) ) ) ) d.1.1 d.1.2.1.1 d.1.2.1.2.1 d.1.2.1.2.2.1 d.1.2.1.2.2.2.1 d.1.2.1.2.2.2.2.1 d.1.2.1.2.2.2.2.2.1 d.1.2.2.1 (fun (y0 : Bool) => K [.lf (.bool y0)] []) := by kernel_rfl
theorem E6_1 (F : Nat) (d : sh6_1.den) (K : KF) : evBody Tryd.prog (T6_1 F) (xw []) 92 0 (LT6_1 F) [] code6 Tryd.f6.results.toList (encT sh6_1.vs d.1) (encH sh6_1.h d.2) K = f6_1 F d.1.1 d.1.2.1.1 d.1.2.1.2.1 d.1.2.1.2.2.1 d.1.2.1.2.2.2.1 d.1.2.1.2.2.2.2.1 d.1.2.1.2.2.2.2.2.1 d.1.2.2.1 (fun (y0 : Bool) => K [.lf (.bool y0)] []) := Eq.mp (by kernel_rfl) (E6_1g F (f12_1 F) (f17_1 F) (f18_1 F) (f19_1 F) (f20_1 F)   d K)
theorem S6_1_ok (F : Nat) (o : Summ) (ho : SoundFn Tryd.prog 6 o) : SoundFn Tryd.prog 6 (S6_1 F o) :=
  soundFn_of (fn := Tryd.f6) (c := code6) rfl rfl (by kernel_rfl) (tab_cons (S12_1_ok F _ (noS_sound enter12)) (tab_cons (S17_1_ok F _ (noS_sound enter17)) (tab_cons (S18_1_ok F _ (noS_sound enter18)) (tab_cons (S19_1_ok F _ (noS_sound enter19)) (tab_cons (S20_1_ok F _ (noS_sound enter20)) tab_nil))))) (by kernel_rfl) (by kernel_rfl) ho (by rw [loops6]; exact loopsOK_nil) (by rw [scopes6]; exact scopesOK_nil) (by rw [ranges6]; exact rangesOK_nil) (E6_1 F)
end Go.Proofs.YtillbabmlfjegaaDoor.X
end

section
/- Numbers of a fixed width: what wrapping and the bits' operations come to where nothing is lost. -/
namespace Go.Proofs.YtillbabmlfjegaaDoor.X
open Go Go.Proofs.YtillbabmlfjegaaDoor.Ev
set_option linter.unusedSectionVars false
variable [FZ]
set_option linter.unusedVariables false
set_option linter.unusedSimpArgs false

theorem w64 {x : Int} (h : -9223372036854775808 ≤ x) (h' : x ≤ 9223372036854775807) : IntKind.i64.wrap x = x := by
  simp only [IntKind.wrap, IntKind.bits, IntKind.signed, Bool.true_and]
  split <;> (rename_i hq; simp at hq; omega)

theorem wu64 {x : Int} (h : 0 ≤ x) (h' : x < 18446744073709551616) : IntKind.u64.wrap x = x := by
  simp only [IntKind.wrap, IntKind.bits, IntKind.signed, Bool.false_and]
  simp; omega

theorem wu32 {x : Int} (h : 0 ≤ x) (h' : x < 4294967296) : IntKind.u32.wrap x = x := by
  simp only [IntKind.wrap, IntKind.bits, IntKind.signed, Bool.false_and]
  simp; omega

theorem wu8 {x : Int} (h : 0 ≤ x) (h' : x < 256) : IntKind.u8.wrap x = x := by
  simp only [IntKind.wrap, IntKind.bits, IntKind.signed, Bool.false_and]
  simp; omega

theorem wu64m (x : Int) : IntKind.u64.wrap x = x % 18446744073709551616 := by
  simp only [IntKind.wrap, IntKind.bits, IntKind.signed, Bool.false_and]
  simp
theorem wu32m (x : Int) : IntKind.u32.wrap x = x % 4294967296 := by
  simp only [IntKind.wrap, IntKind.bits, IntKind.signed, Bool.false_and]
  simp
theorem wu8m (x : Int) : IntKind.u8.wrap x = x % 256 := by
  simp only [IntKind.wrap, IntKind.bits, IntKind.signed, Bool.false_and]
  simp

theorem i64_of_wf {n : Int} (h : (Lit.int .i64 n).wf = true) : -9223372036854775808 ≤ n ∧ n ≤ 9223372036854775807 := by
  simp [Lit.wf, IntKind.min, IntKind.max, IntKind.bits, IntKind.signed] at h; omega
theorem u64_of_wf {n : Int} (h : (Lit.int .u64 n).wf = true) : 0 ≤ n ∧ n < 18446744073709551616 := by
  simp [Lit.wf, IntKind.min, IntKind.max, IntKind.bits, IntKind.signed] at h; omega
theorem u8_of_wf {n : Int} (h : (Lit.int .u8 n).wf = true) : 0 ≤ n ∧ n < 256 := by
  simp [Lit.wf, IntKind.min, IntKind.max, IntKind.bits, IntKind.signed] at h; omega
theorem u32_of_wf {n : Int} (h : (Lit.int .u32 n).wf = true) : 0 ≤ n ∧ n < 4294967296 := by
  simp [Lit.wf, IntKind.min, IntKind.max, IntKind.bits, IntKind.signed] at h; omega

theorem or64 {A B : Nat} (hA : A < 2 ^ 64) (hB : B < 2 ^ 64) : ior .u64 (A : Int) (B : Int) = ((A ||| B : Nat) : Int) := by
  have h : (BitVec.ofInt 64 (A : Int) ||| BitVec.ofInt 64 (B : Int)).toNat = A ||| B := by
    simp [BitVec.toNat_or, BitVec.ofInt_natCast, BitVec.toNat_ofNat, Nat.mod_eq_of_lt hA, Nat.mod_eq_of_lt hB]
  have hl := Nat.or_lt_two_pow hA hB
  show IntKind.u64.wrap ((BitVec.ofInt 64 (A : Int) ||| BitVec.ofInt 64 (B : Int)).toNat : Int) = _
  rw [h, wu64 (by omega) (by omega)]
theorem and64 {A B : Nat} (hA : A < 2 ^ 64) (hB : B < 2 ^ 64) : iand .u64 (A : Int) (B : Int) = ((A &&& B : Nat) : Int) := by
  have h : (BitVec.ofInt 64 (A : Int) &&& BitVec.ofInt 64 (B : Int)).toNat = A &&& B := by
    simp [BitVec.toNat_and, BitVec.ofInt_natCast, BitVec.toNat_ofNat, Nat.mod_eq_of_lt hA, Nat.mod_eq_of_lt hB]
  have hl : A &&& B < 2 ^ 64 := Nat.and_lt_two_pow A hB
  show IntKind.u64.wrap ((BitVec.ofInt 64 (A : Int) &&& BitVec.ofInt 64 (B : Int)).toNat : Int) = _
  rw [h, wu64 (by omega) (by omega)]
theorem shl64 {i : Nat} (hi : i < 64) : ishl .u64 1 (i : Int) = ((2 ^ i : Nat) : Int) := by
  have h2 : (2 : Nat) ^ i < 2 ^ 64 := Nat.pow_lt_pow_right (by omega) hi
  have : (1 : Int) * 2 ^ (min i 64) = ((2 ^ i : Nat) : Int) := by
    rw [Nat.min_eq_left (by omega), Int.one_mul]; push_cast; rfl
  simp only [ishl, IntKind.bits, Int.toNat_natCast]
  rw [this, wu64 (Int.natCast_nonneg _) (Int.ofNat_lt.2 h2)]
theorem shr64 {A i : Nat} (hi : i < 64) : ishr .u64 (A : Int) (i : Int) = ((A >>> i : Nat) : Int) := by
  have : ((2 : Int) ^ i) = ((2 ^ i : Nat) : Int) := by push_cast; rfl
  simp only [ishr, IntKind.bits, Int.toNat_natCast]
  rw [Nat.min_eq_left (by omega), Int.fdiv_eq_ediv_of_nonneg _ (by rw [this]; exact Int.natCast_nonneg _), this, Nat.shiftRight_eq_div_pow]
  push_cast; rfl

/-- The number with given bits, below n. -/
def mk (f : Nat → Bool) : Nat → Nat
  | 0 => 0
  | n + 1 => if f n then mk f n ||| 2 ^ n else mk f n

theorem mk_lt (f : Nat → Bool) : ∀ n, mk f n < 2 ^ n
  | 0 => by simp [mk]
  | n + 1 => by
    have := mk_lt f n
    have h2 : (2 : Nat) ^ n < 2 ^ (n + 1) := Nat.pow_lt_pow_right (by omega) (by omega)
    simp only [mk]
    split
    · exact Nat.or_lt_two_pow (by omega) h2
    · omega

theorem mk_bit (f : Nat → Bool) : ∀ n j, (mk f n).testBit j = (decide (j < n) && f j)
  | 0, j => by simp [mk]
  | n + 1, j => by
    simp only [mk]
    split
    · rename_i h
      rw [Nat.testBit_or, mk_bit f n, Nat.testBit_two_pow]
      by_cases hj : j = n
      · subst hj; simp [h]
      · have h1 : decide (j < n) = decide (j < n + 1) := decide_eq_decide.2 (by omega)
        simp [Ne.symm hj, h1]
    · rename_i h
      rw [mk_bit f n]
      by_cases hj : j = n
      · subst hj; simp at h; simp [h]
      · have h1 : decide (j < n) = decide (j < n + 1) := decide_eq_decide.2 (by omega)
        rw [h1]

theorem mk_eq {A n : Nat} {f : Nat → Bool} (hA : A < 2 ^ n) (h : ∀ j, j < n → f j = A.testBit j) : mk f n = A := by
  apply Nat.eq_of_testBit_eq
  intro j
  rw [mk_bit]
  by_cases hj : j < n
  · simp [hj, h j hj]
  · simp [hj]
    exact Nat.testBit_lt_two_pow (Nat.lt_of_lt_of_le hA (Nat.pow_le_pow_right (by omega) (by omega)))

theorem bit_test {A i : Nat} : ((A >>> i &&& 1 : Nat) == 1) = A.testBit i := by
  simp [Nat.testBit, Nat.and_comm]

theorem natbeq {a b : Nat} : (((a : Int) == ((b : Nat) : Int)) : Bool) = (a == b) := by
  rw [Bool.eq_iff_iff]; simp; omega

theorem tdiv_nn {a b : Nat} : ((a : Int).tdiv (b : Int)) = ((a / b : Nat) : Int) := by
  rw [Int.tdiv_eq_ediv_of_nonneg (by omega)]; rfl
theorem tmod_nn {a b : Nat} : ((a : Int).tmod (b : Int)) = ((a % b : Nat) : Int) := by
  rw [Int.tmod_eq_emod_of_nonneg (by omega)]; rfl

theorem lbeq_refl (k : EK) (hr : ∀ x : k.den, k.beq x x = true) : ∀ l : List k.den, lbeq k l l = true
  | [] => rfl
  | x :: r => by simp [lbeq, hr x, lbeq_refl k hr r]
theorem lbeq_int (k : IntKind) (l : List Int) : lbeq (.int k) l l = true := lbeq_refl (.int k) (fun x => by simp [EK.beq]) l
theorem lbeq_int_iff (k : IntKind) : ∀ (l r : List Int), lbeq (.int k) l r = true ↔ l = r
  | [], [] => by simp [lbeq]
  | [], _ :: _ => by simp [lbeq]
  | _ :: _, [] => by simp [lbeq]
  | x :: l, y :: r => by simp [lbeq, EK.beq, lbeq_int_iff k l r]

theorem ct {α : Sort _} {p : Prop} [Decidable p] {a b : α} (h : p) : cond (decide p) a b = a := by simp [h]
theorem cf {α : Sort _} {p : Prop} [Decidable p] {a b : α} (h : ¬ p) : cond (decide p) a b = b := by simp [h]

end Go.Proofs.YtillbabmlfjegaaDoor.X
end

section
/- Records: sums, numbers as bytes; the code's and the document's, in one form. -/
namespace Go.Proofs.YtillbabmlfjegaaDoor.X
open Go Go.Proofs.YtillbabmlfjegaaDoor.Ev
set_option linter.unusedSectionVars false
variable [FZ]
set_option linter.unusedVariables false
set_option linter.unusedSimpArgs false

theorem x32 (x y : Int) : 0 ≤ ixor .u32 x y ∧ ixor .u32 x y < 4294967296 := by
  unfold ixor; rw [wu32m]; omega
theorem x8 (x y : Int) : 0 ≤ ixor .u8 x y ∧ ixor .u8 x y < 256 := by
  unfold ixor; rw [wu8m]; omega

theorem sh8 {n : Int} (h : 0 ≤ n ∧ n < 4294967296) : IntKind.u32.wrap (n.tdiv 256) = ishr .u32 n 8 := by
  have e : (2 : Int) ^ (min (8 : Int).toNat IntKind.u32.bits) = 256 := by decide
  rw [ishr, e, Int.fdiv_eq_ediv_of_nonneg _ (by omega), Int.tdiv_eq_ediv_of_nonneg h.1, wu32 (by omega) (by omega)]

/-- The table: each byte's step. -/
def eStep (x : Int) : Int := if (iand .u32 x 1) == 1 then ixor .u32 (ishr .u32 x 1) 2197175160 else ishr .u32 x 1
def ent (x : Int) : Int := eStep (eStep (eStep (eStep (eStep (eStep (eStep (eStep x)))))))
def tb : List Int := (List.range 256).map fun (i : Nat) => ent (i : Int)
theorem tb_len : tb.length = 256 := by simp [tb]

set_option maxRecDepth 100000 in
theorem tableP {β : Type} {K : List Int → Option β} : f124_1 20000 K = K tb := by kernel_rfl

theorem entNat {β : Type} {F : Nat} {K : Int → Option β} : ∀ (k : Nat) (v i : Int), f113_1_l3 F K k v i = (f113_1_l3 F some k v i).bind K
  | 0, v, i => rfl
  | k + 1, v, i => by
    rw [f113_1_l3, f113_1_l3]
    cases decide (i < 8) with
    | false => rfl
    | true =>
      cases (v.tmod 2 == 1) with
      | true => exact entNat k _ _
      | false => exact entNat k _ _

set_option maxRecDepth 100000 in
theorem entAll : ((List.range 256).all fun (i : Nat) => f113_1 20000 (i : Int) some == some (tb.getD i 0)) = true := by kernel_rfl

theorem entR {β : Type} {x : Int} (h : 0 ≤ x ∧ x < 256) {K : Int → Option β} : f113_1 20000 x K = K (tb.getD x.toNat 0) := by
  have h1 := List.all_eq_true.1 entAll x.toNat (List.mem_range.2 (by omega))
  rw [beq_iff_eq, show ((x.toNat : Nat) : Int) = x by omega, f113_1] at h1
  rw [f113_1, entNat, h1]; rfl

def crcS : Int → List Int → Int
  | n, [] => n
  | n, c :: r => crcS (ixor .u32 (ishr .u32 n 8) (tb.getD (ixor .u8 (IntKind.u8.wrap n) c).toNat 0)) r
def crc (b : List Int) : Int := ixor .u32 4294967295 (crcS (ixor .u32 4294967295 0) b)

theorem atL {α : Type} {l r : List α} {x d : α} {i : Nat} (hd : l.drop i = x :: r) : i < l.length ∧ l.getD (0 + (i : Int).toNat) d = x ∧ l.drop (i + 1) = r := by
  have h1 : i < l.length := by
    rcases Nat.lt_or_ge i l.length with h1 | h1
    · exact h1
    · rw [List.drop_eq_nil_of_le h1] at hd; cases hd
  rw [List.drop_eq_getElem_cons h1] at hd
  injection hd with h2 h3
  refine ⟨h1, ?_, h3⟩
  simp [h1, h2]

theorem nilL {α : Type} {l : List α} {i : Nat} (h : l.drop i = []) (hi : i ≤ l.length) : i = l.length := by
  have := congrArg List.length h
  simp at this; omega

theorem crcPl {β : Type} {F : Nat} {b : List Int} {K : Int → Option β} (hb : b.length ≤ 100000) : ∀ (r : List Int) (i k : Nat) (n : Int), b.drop i = r → i ≤ b.length → r.length < k →
    f112_1_l4 F ((b.length : Nat) : Int) b tb K k n (i : Int) = K (crcS n r)
  | [], i, 0, _, _, _, hk => by simp at hk
  | _ :: _, i, 0, _, _, _, hk => by simp at hk
  | [], i, k + 1, n, hd, hi, _ => by
    have := nilL hd hi
    rw [f112_1_l4, cf (by omega)]; rfl
  | c :: r, i, k + 1, n, hd, hi, hk => by
    obtain ⟨h1, h2, h3⟩ := atL (d := (0 : Int)) hd
    have hx := x8 (IntKind.u8.wrap n) c
    rw [f112_1_l4, ct (by omega), ct (by omega), ct (by omega), h2, ct hx, ct (by rw [tb_len]; omega), w64 (by omega) (by omega), crcS]
    exact crcPl hb r (i + 1) k _ h3 (by omega) (by simp at hk; omega)

theorem crcP {β : Type} {b : List Int} {K : Int → Option β} (hb : b.length ≤ 10000) : f80_1 20000 b K = K (crc b) := by
  rw [f80_1, f112_1, tableP]
  exact crcPl (K := fun x7 => K (ixor .u32 4294967295 x7)) (by omega) b 0 20000 _ rfl (by omega) (by omega)

theorem crcRl {β : Type} {b : List Int} {K : Int → Option β} (hb : b.length ≤ 100000) : ∀ (r : List Int) (i k : Nat) (n : Int), b.drop i = r → i ≤ b.length → r.length < k → 0 ≤ n ∧ n < 4294967296 →
    f83_1_l3 20000 b K k n (i : Int) = K (crcS n r)
  | [], i, 0, _, _, _, hk, _ => by simp at hk
  | _ :: _, i, 0, _, _, _, hk, _ => by simp at hk
  | [], i, k + 1, n, hd, hi, _, _ => by
    have := nilL hd hi
    rw [f83_1_l3, cf (by omega)]; rfl
  | c :: r, i, k + 1, n, hd, hi, hk, hn => by
    obtain ⟨h1, h2, h3⟩ := atL (d := (0 : Int)) hd
    have hx := x8 (IntKind.u8.wrap n) c
    rw [f83_1_l3, ct (by omega), ct (by omega), ct (by omega), h2, entR hx, w64 (by omega) (by omega), sh8 hn, crcS]
    exact crcRl hb r (i + 1) k _ h3 (by omega) (by simp at hk; omega) (x32 _ _)

theorem crcR {β : Type} {b : List Int} {K : Int → Option β} (hb : b.length ≤ 10000) : f42_1 20000 b K = K (crc b) := by
  rw [f42_1, f83_1]
  exact crcRl (K := fun x7 => K (ixor .u32 4294967295 x7)) (by omega) b 0 20000 _ rfl (by omega) (by omega) (x32 _ _)

/-! ### Numbers as bytes -/

def b4 (n : Int) : List Int := [IntKind.u8.wrap (ishr .u64 n 24), IntKind.u8.wrap (ishr .u64 n 16), IntKind.u8.wrap (ishr .u64 n 8), IntKind.u8.wrap (ishr .u64 n 0)]
theorem put4 {β : Type} {n : Int} {K : List Int → Option β} : f47_1 20000 4 n [] K = K (b4 n) := by kernel_rfl
theorem text4 {β : Type} {n : Int} {K : ByteArray → Option β} : f40_1 20000 4 n K = K (ofInts (b4 n)) := by kernel_rfl
theorem text1 {β : Type} {n : Int} {K : ByteArray → Option β} : f40_1 20000 1 n K = K (ofInts [IntKind.u8.wrap (ishr .u64 n 0)]) := by kernel_rfl

end Go.Proofs.YtillbabmlfjegaaDoor.X
end

section
/- Records: made, opened; the code's and the document's, in one form. -/
namespace Go.Proofs.YtillbabmlfjegaaDoor.X
open Go Go.Proofs.YtillbabmlfjegaaDoor.Ev
set_option linter.unusedSectionVars false
variable [FZ]
set_option linter.unusedVariables false
set_option linter.unusedSimpArgs false

/-! ### Bytes -/

abbrev D (s : ByteArray) : List UInt8 := s.data.toList

theorem extB {s t : ByteArray} (h : D s = D t) : s = t := by
  cases s; cases t
  congr
  exact Array.toList_inj.1 h

theorem D_app (s t : ByteArray) : D (s ++ t) = D s ++ D t := by simp [D]
theorem D_ext (s : ByteArray) (a b : Nat) : D (s.extract a b) = ((D s).drop a).take (b - a) := by
  simp only [D, ByteArray.data_extract, Array.toList_extract, List.extract_eq_take_drop]
theorem D_size (s : ByteArray) : s.size = (D s).length := Array.length_toList.symm
theorem D_ofInts (l : List Int) : D (ofInts l) = l.map fun n => UInt8.ofNat n.toNat := by simp [D, ofInts]
theorem toInts_D (s : ByteArray) : toInts s = (D s).map fun c => (c.toNat : Int) := rfl

theorem loopB (s : ByteArray) : ∀ (m i : Nat) (r : List UInt8), i + m = s.size → ByteArray.toList.loop s i r = r.reverse ++ (D s).drop i
  | 0, i, r, h => by
    rw [ByteArray.toList.loop, if_neg (by omega), List.drop_eq_nil_of_le (by rw [← D_size]; omega), List.append_nil]
  | m + 1, i, r, h => by
    have h1 : i < (D s).length := by rw [← D_size]; omega
    rw [ByteArray.toList.loop, if_pos (by omega), loopB s m (i + 1) _ (by omega), List.drop_eq_getElem_cons h1]
    have : s.get! i = (D s)[i] := by
      have h2 : i < s.data.size := by have := h1; simpa [D] using this
      simp only [ByteArray.get!, D, Array.getElem_toList]
      exact getElem!_pos s.data i h2
    rw [this]; simp

theorem toList_D (s : ByteArray) : s.toList = D s := by
  rw [ByteArray.toList, loopB s s.size 0 [] (by omega)]; rfl

theorem beqB {s t : ByteArray} : (s.toList == t.toList) = decide (s = t) := by
  rw [toList_D, toList_D, Bool.eq_iff_iff]
  simp only [beq_iff_eq, decide_eq_true_eq]
  exact ⟨extB, fun h => by rw [h]⟩

/-! ### A record -/

def front (k : Int) (b : ByteArray) : ByteArray := ⟨(UInt8.ofNat k.toNat :: UInt8.ofNat b.size :: (D b ++ List.replicate (58 - b.size) 0)).toArray⟩
def mkB (k : Int) (b : ByteArray) : ByteArray := front k b ++ ofInts (b4 (crc (toInts (front k b))))
def mkR (k : Int) (b : ByteArray) : ByteArray × Int := if k < 1 ∨ k > 8 then (ByteArray.empty, 22) else if b.size > 58 then (ByteArray.empty, 8) else (mkB k b, 0)

theorem front_D (k : Int) (b : ByteArray) : D (front k b) = UInt8.ofNat k.toNat :: UInt8.ofNat b.size :: (D b ++ List.replicate (58 - b.size) 0) := by simp [D, front]
theorem front_size {k : Int} {b : ByteArray} (h : b.size ≤ 58) : (front k b).size = 60 := by
  rw [D_size, front_D]; simp [← D_size]
  have := D_size b
  simp [D] at this
  omega

theorem crc_r (b : List Int) : 0 ≤ crc b ∧ crc b < 4294967296 := x32 _ _

theorem sumP {β : Type} {s : ByteArray} (h : 60 ≤ s.size) {K : ByteArray → Option β} : f39_1 20000 s K = K (ofInts (b4 (crc (toInts (s.extract 0 60))))) := by
  have hc := crc_r (toInts (s.extract 0 60))
  have hl : (toInts (s.extract 0 60)).length ≤ 60 := by
    rw [toInts_D, D_ext]; simp; omega
  rw [f39_1, ct (by omega), crcP (by omega), wu64 (by omega) (by omega), put4]

theorem ext_all {s : ByteArray} {n : Nat} (h : s.size = n) : s.extract 0 n = s := by
  apply extB
  rw [D_ext, List.drop_zero, List.take_of_length_le (by rw [← D_size]; omega)]

theorem rep0 (n : Nat) : D (rep ⟨#[0]⟩ n) = List.replicate n 0 := by
  show D ⟨(Lib.repeatL [0] n).toArray⟩ = _
  have : ∀ n, Lib.repeatL [(0 : UInt8)] n = List.replicate n 0 := fun n => by
    induction n with
    | zero => rfl
    | succ n ih => simp [Lib.repeatL, ih, List.replicate_succ]
  simp [D, this]

theorem u8n {n : Int} (h : 0 ≤ n ∧ n < 256) : IntKind.u8.wrap n = n := wu8 h.1 h.2

theorem shr0 {n : Int} (h : 0 ≤ n) : ishr .u64 n 0 = n := by
  have e : (2 : Int) ^ (min (0 : Int).toNat IntKind.u64.bits) = 1 := by decide
  rw [ishr, e, Int.fdiv_eq_ediv_of_nonneg _ (by omega), Int.ediv_one]

theorem makeP {β : Type} {k : Int} {b : ByteArray} (hb : b.size ≤ maxLen) {K : ByteArray → Int → Option β} : f10_1 20000 k b K = K (mkR k b).1 (mkR k b).2 := by
  rw [f10_1, mkR]
  by_cases h1 : k < 1
  · rw [ct h1, if_pos (.inl h1)]
  · by_cases h2 : k > 8
    · rw [cf h1, ct h2, if_pos (.inr h2)]
    · rw [cf h1, cf h2, if_neg (by omega)]
      by_cases h3 : b.size > 58
      · rw [ct (by omega), if_pos h3]
      · have hs2 : (ofInts [IntKind.u8.wrap k, IntKind.u8.wrap (b.size : Int)]).size = 2 := by rw [D_size, D_ofInts]; rfl
        have hs : (ofInts [IntKind.u8.wrap k, IntKind.u8.wrap (b.size : Int)] ++ b).size = 2 + b.size := by rw [D_size, D_app, List.length_append, ← D_size, ← D_size, hs2]
        rw [cf (by omega), if_neg h3, ct (by omega), f38_1, hs, w64 (by omega) (by omega), ct ⟨by omega, by omega, by
          have : (⟨#[0]⟩ : ByteArray).size = 1 := rfl
          rw [this]; omega⟩]
        have hf : ofInts [IntKind.u8.wrap k, IntKind.u8.wrap (b.size : Int)] ++ b ++ rep ⟨#[0]⟩ (60 - ((2 + b.size : Nat) : Int)).toNat = front k b := by
          apply extB
          rw [D_app, D_app, rep0, D_ofInts, front_D, u8n (by omega), u8n (by omega), show (60 - ((2 + b.size : Nat) : Int)).toNat = 58 - b.size by omega]
          simp
        have hfs := front_size (k := k) (b := b) (by omega)
        have hr : (rep ⟨#[0]⟩ (60 - ((2 + b.size : Nat) : Int)).toNat).size ≤ 60 := by rw [D_size, rep0]; simp; omega
        rw [ct (by omega), hf, sumP (by omega), ext_all hfs, ct (by
          rw [hfs, D_size, D_ofInts]; simp [b4])]
        rfl

noncomputable def Z64 : ByteArray := ofInts (List.replicate 64 0)
theorem zero64 {β : Type} {K : ByteArray → Option β} : f41_1 20000 K = K Z64 := by kernel_rfl
theorem Z64_D : D Z64 = List.replicate 64 0 := by rw [Z64, D_ofInts]; rfl

theorem makeR {β : Type} {k : Int} {b : ByteArray} (hb : b.size ≤ maxLen) {K : ByteArray → Int → Option β} : f11_1 20000 k b K = K (mkR k b).1 (mkR k b).2 := by
  rw [f11_1, mkR]
  by_cases h1 : k < 1
  · rw [ct h1, if_pos (.inl h1)]
  · by_cases h2 : k > 8
    · rw [cf h1, ct h2, if_pos (.inr h2)]
    · rw [cf h1, cf h2, if_neg (by omega)]
      by_cases h3 : b.size > 58
      · rw [ct (by omega), if_pos h3]
      · have hz : Z64.size = 64 := by rw [D_size, Z64_D]; simp
        have hs2 : (ofInts [k] ++ ofInts [(b.size : Int)]).size = 2 := by rw [D_size, D_app, D_ofInts, D_ofInts]; rfl
        have hs : (ofInts [k] ++ ofInts [(b.size : Int)] ++ b).size = 2 + b.size := by rw [D_size, D_app, List.length_append, ← D_size, ← D_size, hs2]
        rw [cf (by omega), if_neg h3, text1, text1, wu64 (by omega) (by omega), wu64 (by omega) (by omega), shr0 (by omega), shr0 (by omega), u8n (by omega), u8n (by omega)]
        have h11 : ∀ n : Int, (ofInts [n]).size = 1 := fun n => by rw [D_size, D_ofInts]; rfl
        rw [ct (by rw [h11, h11]; omega), ct (by rw [hs2]; omega), zero64, hs, ct (by omega)]
        have hf : ofInts [k] ++ ofInts [(b.size : Int)] ++ b ++ Z64.extract ((2 + b.size : Nat) : Int).toNat 60 = front k b := by
          apply extB
          rw [D_app, D_app, D_app, D_ext, D_ofInts, D_ofInts, front_D, Z64_D, show ((2 + b.size : Nat) : Int).toNat = 2 + b.size by omega, List.drop_replicate, List.take_replicate, show min (60 - (2 + b.size)) (64 - (2 + b.size)) = 58 - b.size by omega]
          simp
        have hfs := front_size (k := k) (b := b) (by omega)
        have hext : (Z64.extract ((2 + b.size : Nat) : Int).toNat 60).size ≤ 60 := by rw [D_size, D_ext]; simp; omega
        have hc := crc_r (toInts (front k b))
        have hl : (toInts (front k b)).length = 60 := by rw [toInts_D, List.length_map, ← D_size]; exact hfs
        rw [ct (by omega), hf, crcR (by omega), wu64 (by omega) (by omega), text4, ct (by
          rw [hfs, D_size, D_ofInts]; simp [b4])]
        rfl

/-! ### What a sector is -/

def byt (s : ByteArray) (i : Nat) : Int := ((s.data.getD i 0).toNat : Int)
theorem byt_r (s : ByteArray) (i : Nat) : 0 ≤ byt s i ∧ byt s i < 256 := by
  have := (s.data.getD i 0).toNat_lt
  unfold byt; omega
def sm (s : ByteArray) : ByteArray := ofInts (b4 (crc (toInts (s.extract 0 60))))
def zer (s : ByteArray) (n : Nat) : Bool := (((D s).drop n).take (60 - n)).all (· == 0)
def kd (s : ByteArray) : Int × Int := if s.size ≠ 64 then (0, 4) else if ((sm s).toList == (s.extract 60 64).toList) = false then (0, 9) else
  if byt s 0 < 1 ∨ byt s 0 > 8 ∨ byt s 1 > 58 ∨ zer s (2 + (byt s 1).toNat) = false then (0, 6) else (byt s 0, 0)

theorem dropW_nil {p : UInt8 → Bool} : ∀ l : List UInt8, l.dropWhile p = [] ↔ l.all p = true
  | [] => by simp
  | x :: r => by
    rw [List.dropWhile_cons, List.all_cons]
    cases h : p x with
    | true => simpa using dropW_nil r
    | false => simp

theorem dropW_head {p : UInt8 → Bool} : ∀ (l : List UInt8) {y : UInt8} {r : List UInt8}, l.dropWhile p = y :: r → p y = false
  | [], y, r, h => by cases h
  | x :: l, y, r, h => by
    rw [List.dropWhile_cons] at h
    cases hx : p x with
    | true => rw [hx, if_pos rfl] at h; exact dropW_head l h
    | false => rw [hx, if_neg (by simp)] at h; injection h with h1 h2; rw [← h1]; exact hx

theorem trim_nil (l : List UInt8) : Lib.trimS l [0] = [] ↔ l.all (· == 0) = true := by
  have hp : ∀ x : UInt8, [(0 : UInt8)].contains x = (x == 0) := fun x => by rw [Bool.eq_iff_iff]; simp
  rw [Lib.trimS, Lib.trimLeftS, Lib.trimRightS, dropW_nil]
  constructor
  · intro h
    cases hq : l.reverse.dropWhile ([(0 : UInt8)].contains ·) with
    | nil =>
      have := (dropW_nil _).1 hq
      rw [List.all_reverse] at this
      simpa [hp] using this
    | cons y r =>
      have h1 := dropW_head _ hq
      rw [hq, List.all_reverse, List.all_cons, h1] at h
      cases h
  · intro h
    have : l.reverse.dropWhile ([(0 : UInt8)].contains ·) = [] := (dropW_nil _).2 (by rw [List.all_reverse]; simpa [hp] using h)
    rw [this]; rfl

theorem trm0 (x : ByteArray) : ((trm x ⟨#[0]⟩).toList == ByteArray.empty.toList) = (D x).all (· == 0) := by
  rw [beqB, Bool.eq_iff_iff, decide_eq_true_eq, ← trim_nil]
  constructor
  · intro h
    have : D (trm x ⟨#[0]⟩) = [] := by rw [h]; rfl
    simpa [D, trm] using this
  · intro h
    apply extB
    show D (trm x ⟨#[0]⟩) = []
    simpa [D, trm] using h

theorem kindP {β : Type} {s : ByteArray} {K : Int → Int → Option β} : f15_1 20000 s K = K (kd s).1 (kd s).2 := by
  rw [f15_1, f43_1, kd]
  by_cases h1 : s.size = 64
  · have b0 := byt_r s 0
    have b1 := byt_r s 1
    have e0 : ((s.data.getD 0 0).toNat : Int) = byt s 0 := rfl
    have e1 : ((s.data.getD 1 0).toNat : Int) = byt s 1 := rfl
    rw [show ((s.size : Int) == 64) = true by simp; omega, Bool.not_true, cond_false, if_neg (by omega), ct (by omega), sumP (by omega), show ((s.size : Int).toNat) = 64 by omega, e0, e1, w64 (x := byt s 0) (by omega) (by omega), w64 (x := byt s 1) (by omega) (by omega), ← sm]
    cases h2 : ((sm s).toList == (s.extract 60 64).toList) with
    | false => rfl
    | true =>
      rw [Bool.not_true, cond_false, if_neg (by simp), ct (by omega), ct (by omega)]
      by_cases h3 : byt s 0 < 1
      · rw [ct h3, if_pos (.inl h3)]
      · by_cases h4 : byt s 0 > 8
        · rw [cf h3, ct h4, if_pos (.inr (.inl h4))]
        · by_cases h5 : byt s 1 > 58
          · rw [cf h3, cf h4, ct h5, if_pos (.inr (.inr (.inl h5)))]
          · have hn : (2 + byt s 1).toNat = 2 + (byt s 1).toNat := by omega
            have hx : D (s.extract (2 + byt s 1).toNat 60) = ((D s).drop (2 + (byt s 1).toNat)).take (60 - (2 + (byt s 1).toNat)) := by rw [D_ext, hn]
            have hxs : (s.extract (2 + byt s 1).toNat 60).size ≤ 64 := by rw [D_size, hx]; simp; omega
            rw [cf h3, cf h4, cf h5, w64 (x := 2 + byt s 1) (by omega) (by omega), ct (by omega), f44_1, ct ⟨by omega, by decide, by decide⟩, trm0, hx, ← zer]
            cases h6 : zer s (2 + (byt s 1).toNat) with
            | true => rw [Bool.not_true, cond_false, if_neg (by simp; omega)]
            | false => rw [Bool.not_false, cond_true, if_pos (.inr (.inr (.inr rfl)))]
  · rw [show ((s.size : Int) == 64) = false by simp; omega, Bool.not_false, cond_true, if_pos h1]

theorem zerL {β : Type} {s : ByteArray} {K0 K1 : Option β} (hs : s.size = 64) : ∀ (m i k : Nat), i + m = 60 → m < k → f16_1_l8 20000 s K0 K1 k (i : Int) = if zer s i then K1 else K0
  | _, _, 0, _, h => by omega
  | 0, i, k + 1, hi, _ => by rw [f16_1_l8, cf (by omega), zer, show 60 - i = 0 by omega]; simp
  | m + 1, i, k + 1, hi, hk => by
    have hl : i < (D s).length := by rw [← D_size]; omega
    have hg : s.data.getD i 0 = (D s)[i] := by
      have h2 : i < s.data.size := by have := hl; simpa [D] using this
      simp only [Array.getD_eq_getD_getElem?, Array.getElem?_eq_getElem h2, Option.getD_some, D, Array.getElem_toList]
    rw [f16_1_l8, ct (by omega), ct (by omega), show ((i : Int)).toNat = i from rfl, hg, w64 (by omega) (by omega), zer, List.drop_eq_getElem_cons hl, show 60 - i = (60 - (i + 1)) + 1 by omega, List.take_succ_cons, List.all_cons, ← zer]
    have ih := zerL (K0 := K0) (K1 := K1) hs m (i + 1) k (by omega) (by omega)
    push_cast at ih
    by_cases h0 : (D s)[i] = 0
    · rw [h0, show (((0 : UInt8).toNat : Int) != 0) = false from rfl, cond_false, ih]; simp
    · have : (((D s)[i].toNat : Int) != 0) = true := by
        simp only [bne_iff_ne, ne_eq]
        intro h
        exact h0 (UInt8.toNat_inj.1 (by simpa using h))
      rw [this, cond_true, beq_eq_false_iff_ne.2 h0]; simp

theorem kindR {β : Type} {s : ByteArray} {K : Int → Int → Option β} : f16_1 20000 s K = K (kd s).1 (kd s).2 := by
  rw [f16_1, f45_1, kd]
  by_cases h1 : s.size = 64
  · have b0 := byt_r s 0
    have b1 := byt_r s 1
    have e0 : ((s.data.getD 0 0).toNat : Int) = byt s 0 := rfl
    have e1 : ((s.data.getD 1 0).toNat : Int) = byt s 1 := rfl
    have hc := crc_r (toInts (s.extract 0 60))
    have hl : (toInts (s.extract 0 60)).length ≤ 60 := by
      rw [toInts_D, D_ext]; simp; omega
    rw [show ((s.size : Int) == 64) = true by simp; omega, Bool.not_true, cond_false, if_neg (by omega), ct (by omega), ct (by omega), crcR (by omega), wu64 (by omega) (by omega), text4, show ((s.size : Int).toNat) = 64 by omega, e0, e1, w64 (x := byt s 0) (by omega) (by omega), w64 (x := byt s 1) (by omega) (by omega), ← sm]
    cases h2 : ((sm s).toList == (s.extract 60 64).toList) with
    | false => rfl
    | true =>
      rw [Bool.not_true, cond_false, if_neg (by simp), ct (by omega)]
      by_cases h3 : byt s 0 < 1
      · rw [ct h3, if_pos (.inl h3)]
      · by_cases h4 : byt s 0 > 8
        · rw [cf h3, ct (by omega), ct h4, if_pos (.inr (.inl h4))]
        · by_cases h5 : byt s 1 > 58
          · rw [cf h3, ct (by omega), cf h4, ct (by omega), ct h5, if_pos (.inr (.inr (.inl h5)))]
          · rw [cf h3, ct (by omega), cf h4, ct (by omega), cf h5, ct (by omega), w64 (x := 2 + byt s 1) (by omega) (by omega), ct (by omega), show (2 + byt s 1) = ((2 + (byt s 1).toNat : Nat) : Int) by omega, zerL h1 (60 - (2 + (byt s 1).toNat)) (2 + (byt s 1).toNat) 20000 (by omega) (by omega)]
            cases h6 : zer s (2 + (byt s 1).toNat) with
            | true => rw [if_pos rfl, if_neg (by simp; omega)]
            | false => rw [if_neg (by simp), if_pos (.inr (.inr (.inr rfl)))]
  · rw [show ((s.size : Int) == 64) = false by simp; omega, Bool.not_false, cond_true, if_pos h1]

theorem kd_size {s : ByteArray} (h : (kd s).2 = 0) : s.size = 64 ∧ byt s 1 ≤ 58 ∧ zer s (2 + (byt s 1).toNat) = true ∧ (kd s).1 = byt s 0 ∧ 1 ≤ byt s 0 ∧ byt s 0 ≤ 8 ∧ ((sm s).toList == (s.extract 60 64).toList) = true := by
  unfold kd at h ⊢
  split at h
  · cases h
  · rename_i h1
    split at h
    · cases h
    · rename_i h2
      split at h
      · cases h
      · rename_i h3
        rw [if_neg h1, if_neg h2, if_neg h3]
        refine ⟨by omega, by omega, ?_, rfl, by omega, by omega, by simpa using h2⟩
        cases hz : zer s (2 + (byt s 1).toNat) with
        | true => rfl
        | false => exact (h3 (.inr (.inr (.inr hz)))).elim

def opn (k : Int) (s : ByteArray) : ByteArray × Int := if (kd s).2 ≠ 0 then (ByteArray.empty, (kd s).2) else if (kd s).1 ≠ k then (ByteArray.empty, 22) else (s.extract 2 (2 + (byt s 1).toNat), 0)

theorem openP {β : Type} {k : Int} {s : ByteArray} {K : ByteArray → Int → Option β} : f13_1 20000 k s K = K (opn k s).1 (opn k s).2 := by
  rw [f13_1, kindP, opn]
  have e1 : ((s.data.getD 1 0).toNat : Int) = byt s 1 := rfl
  have b1 := byt_r s 1
  by_cases h1 : (kd s).2 = 0
  · obtain ⟨q1, q2, _⟩ := kd_size h1
    rw [h1, show ((0 : Int) != 0) = false from rfl, cond_false, if_neg (by simp), e1, w64 (x := byt s 1) (by omega) (by omega), w64 (x := 2 + byt s 1) (by omega) (by omega)]
    by_cases h2 : (kd s).1 = k
    · rw [h2, show (k != k) = false by simp, cond_false, if_neg (by simp), ct (by omega), ct (by omega), show (2 + byt s 1).toNat = 2 + (byt s 1).toNat by omega]
    · rw [show ((kd s).1 != k) = true by simp [h2], cond_true, if_pos h2]
  · rw [show ((kd s).2 != 0) = true by simp [h1], cond_true, if_pos h1]

theorem openR {β : Type} {k : Int} {s : ByteArray} {K : ByteArray → Int → Option β} : f14_1 20000 k s K = K (opn k s).1 (opn k s).2 := by
  rw [f14_1, kindR, opn]
  have e1 : ((s.data.getD 1 0).toNat : Int) = byt s 1 := rfl
  have b1 := byt_r s 1
  by_cases h1 : (kd s).2 = 0
  · obtain ⟨q1, q2, _⟩ := kd_size h1
    rw [h1, show ((0 : Int) != 0) = false from rfl, cond_false, if_neg (by simp), e1, w64 (x := byt s 1) (by omega) (by omega), w64 (x := 2 + byt s 1) (by omega) (by omega)]
    by_cases h2 : (kd s).1 = k
    · rw [h2, show (k != k) = false by simp, cond_false, if_neg (by simp), ct (by omega), ct (by omega), show (2 + byt s 1).toNat = 2 + (byt s 1).toNat by omega]
    · rw [show ((kd s).1 != k) = true by simp [h2], cond_true, if_pos h2]
  · rw [show ((kd s).2 != 0) = true by simp [h1], cond_true, if_pos h1]

end Go.Proofs.YtillbabmlfjegaaDoor.X
end

section
/- Records: what is made is opened again, and the other way round. -/
namespace Go.Proofs.YtillbabmlfjegaaDoor.X
open Go Go.Proofs.YtillbabmlfjegaaDoor.Ev
set_option linter.unusedSectionVars false
variable [FZ]
set_option linter.unusedVariables false
set_option linter.unusedSimpArgs false

theorem mkB_D (k : Int) (b : ByteArray) : D (mkB k b) = UInt8.ofNat k.toNat :: UInt8.ofNat b.size :: (D b ++ (List.replicate (58 - b.size) 0 ++ D (ofInts (b4 (crc (toInts (front k b))))))) := by
  rw [mkB, D_app, front_D]; simp

theorem b4_size (n : Int) : (ofInts (b4 n)).size = 4 := by rw [D_size, D_ofInts]; rfl

theorem mkB_size {k : Int} {b : ByteArray} (h : b.size ≤ 58) : (mkB k b).size = 64 := by
  have hf := front_size (k := k) h
  have hc := b4_size (crc (toInts (front k b)))
  rw [D_size] at hf hc
  rw [D_size, mkB, D_app, List.length_append, hf, hc]

theorem mkB_front {k : Int} {b : ByteArray} (h : b.size ≤ 58) : (mkB k b).extract 0 60 = front k b := by
  have hf := front_size (k := k) h
  rw [D_size] at hf
  apply extB
  rw [D_ext, mkB, D_app, List.drop_zero, List.take_append_of_le_length (by omega), List.take_of_length_le (by omega)]

theorem mkB_sum {k : Int} {b : ByteArray} (h : b.size ≤ 58) : (mkB k b).extract 60 64 = sm (mkB k b) := by
  have hf := front_size (k := k) h
  have hc := b4_size (crc (toInts (front k b)))
  rw [D_size] at hf hc
  rw [sm, mkB_front h]
  apply extB
  rw [D_ext, mkB, D_app, List.drop_append_of_le_length (by omega), List.drop_eq_nil_of_le (by omega), List.nil_append, List.take_of_length_le (by omega)]

theorem getD_D (s : ByteArray) (i : Nat) : s.data.getD i 0 = (D s).getD i 0 := by simp [D]

theorem mkB_b0 {k : Int} {b : ByteArray} (h1 : 1 ≤ k) (h2 : k ≤ 8) : byt (mkB k b) 0 = k := by
  rw [byt, getD_D, mkB_D]
  show ((UInt8.ofNat k.toNat).toNat : Int) = k
  rw [UInt8.toNat_ofNat']; omega

theorem mkB_b1 {k : Int} {b : ByteArray} (h : b.size ≤ 58) : byt (mkB k b) 1 = (b.size : Int) := by
  rw [byt, getD_D, mkB_D]
  show ((UInt8.ofNat b.size).toNat : Int) = b.size
  rw [UInt8.toNat_ofNat']; omega

theorem mkB_drop {k : Int} {b : ByteArray} : (D (mkB k b)).drop (2 + b.size) = List.replicate (58 - b.size) 0 ++ D (ofInts (b4 (crc (toInts (front k b))))) := by
  have h := D_size b
  rw [mkB_D, show 2 + b.size = b.size + 1 + 1 by omega, List.drop_succ_cons, List.drop_succ_cons, List.drop_append_of_le_length (by omega), List.drop_eq_nil_of_le (by omega), List.nil_append]

theorem mkB_kd {k : Int} {b : ByteArray} (h1 : 1 ≤ k) (h2 : k ≤ 8) (h : b.size ≤ 58) : kd (mkB k b) = (k, 0) := by
  rw [kd, mkB_size h, if_neg (by omega), mkB_sum h, if_neg (by simp), mkB_b0 h1 h2, mkB_b1 h, if_neg]
  rw [show (2 + ((b.size : Nat) : Int).toNat) = 2 + b.size by omega, zer, mkB_drop, List.take_append_of_le_length (by simp; omega), List.take_of_length_le (by simp; omega)]
  simp; omega

theorem mkB_open {k : Int} {b : ByteArray} (h1 : 1 ≤ k) (h2 : k ≤ 8) (h : b.size ≤ 58) : opn k (mkB k b) = (b, 0) := by
  have hs := D_size b
  rw [opn, mkB_kd h1 h2 h, if_neg (by simp), if_neg (by simp), mkB_b1 h, show (2 + ((b.size : Nat) : Int).toNat) = 2 + b.size by omega]
  congr 1
  apply extB
  rw [D_ext, mkB_D, show (2 : Nat) = 1 + 1 from rfl, List.drop_succ_cons, List.drop_succ_cons, List.drop_zero, show 1 + 1 + b.size - (1 + 1) = b.size by omega, List.take_append_of_le_length (by omega), List.take_of_length_le (by omega)]

theorem all0 : ∀ (l : List UInt8), l.all (· == 0) = true → l = List.replicate l.length 0
  | [], _ => rfl
  | x :: r, h => by
    rw [List.all_cons, Bool.and_eq_true, beq_iff_eq] at h
    rw [List.length_cons, List.replicate_succ, ← all0 r h.2, h.1]

theorem opn_mk {k : Int} {s b : ByteArray} (h : opn k s = (b, 0)) : mkR k b = (s, 0) := by
  unfold opn at h
  split at h
  · rename_i h1
    injection h with _ h2
    exact (h1 h2).elim
  · rename_i h1
    split at h
    · injection h with _ h2; cases h2
    · rename_i h2
      injection h with h3 _
      have h1' : (kd s).2 = 0 := Classical.not_not.1 h1
      obtain ⟨q1, q2, q3, q4, q5, q6, q7⟩ := kd_size h1'
      have hk : byt s 0 = k := q4.symm.trans (Classical.not_not.1 h2)
      have hsz : (D s).length = 64 := by rw [← D_size]; exact q1
      have hb1 := byt_r s 1
      have hDb : D b = ((D s).drop 2).take (byt s 1).toNat := by rw [← h3, D_ext]; congr 1; omega
      have hbs : b.size = (byt s 1).toNat := by rw [D_size, hDb]; simp; omega
      have hmem : ∀ i, i < 64 → ∃ x, (D s)[i]? = some x := fun i hi => ⟨_, List.getElem?_eq_getElem (by omega)⟩
      have hf : front k b = s.extract 0 60 := by
        apply extB
        rw [front_D, D_ext, List.drop_zero, hbs, hDb, ← hk, byt, getD_D, byt, getD_D]
        rw [byt, getD_D] at q3 q2 hb1
        generalize hn : (((D s).getD 1 0).toNat : Int) = n at q3 q2 hb1
        match hq : D s, hsz with
        | x :: y :: r, hsz =>
          rw [hq] at hn
          have hx : UInt8.ofNat ((((x :: y :: r).getD 0 0).toNat : Int).toNat) = x := by simp
          have hy : UInt8.ofNat n.toNat = y := by rw [← hn]; simp
          rw [hx, hy]
          rw [zer, hq] at q3
          have hz := all0 _ q3
          rw [show 2 + n.toNat = n.toNat + 1 + 1 by omega, List.drop_succ_cons, List.drop_succ_cons] at hz
          simp only [List.length_cons] at hsz
          have hlen : (List.take (60 - (n.toNat + 1 + 1)) (List.drop n.toNat r)).length = 58 - n.toNat := by simp; omega
          rw [hlen] at hz
          rw [← hz, show (2 : Nat) = 1 + 1 from rfl, List.drop_succ_cons, List.drop_succ_cons, List.drop_zero, show 60 - 0 = 58 + 1 + 1 from rfl, List.take_succ_cons, List.take_succ_cons, show 60 - (n.toNat + 1 + 1) = 58 - n.toNat by omega]
          congr 2
          have := List.take_append_drop n.toNat (r.take 58)
          rw [List.take_take, List.drop_take, Nat.min_eq_left (by omega)] at this
          exact this
      rw [mkR, if_neg (by omega), if_neg (by omega)]
      congr 1
      have q8 : sm s = s.extract 60 64 := by
        rw [beqB] at q7; exact of_decide_eq_true q7
      rw [mkB, hf, ← sm, q8]
      apply extB
      rw [D_app, D_ext, D_ext, List.drop_zero, show 64 - 60 = 4 from rfl, List.take_of_length_le (l := (D s).drop 60) (by simp; omega)]
      exact List.take_append_drop 60 (D s)

end Go.Proofs.YtillbabmlfjegaaDoor.X
end

section
/- Numbers read from bytes; the code's and the document's, in one form. -/
namespace Go.Proofs.YtillbabmlfjegaaDoor.X
open Go Go.Proofs.YtillbabmlfjegaaDoor.Ev
set_option linter.unusedSectionVars false
variable [FZ]
set_option linter.unusedVariables false
set_option linter.unusedSimpArgs false

def num (v : Int) (l : List Int) : Int := l.foldl (fun v b => v * 256 + b) v

theorem shlor {v b : Int} (hv : 0 ≤ v ∧ v < 72057594037927936) (hb : 0 ≤ b ∧ b < 256) : ior .u64 (ishl .u64 v 8) b = v * 256 + b := by
  obtain ⟨V, rfl⟩ : ∃ V : Nat, v = (V : Int) := ⟨v.toNat, by omega⟩
  obtain ⟨B, rfl⟩ : ∃ B : Nat, b = (B : Int) := ⟨b.toNat, by omega⟩
  have e : (2 : Int) ^ (min (8 : Int).toNat IntKind.u64.bits) = 256 := by decide
  have e1 : ishl .u64 (V : Int) 8 = ((V * 256 : Nat) : Int) := by
    rw [ishl, e, wu64 (by omega) (by omega)]; omega
  rw [e1, or64 (by omega) (by omega)]
  have := Nat.two_pow_add_eq_or_of_lt (i := 8) (b := B) (by omega) V
  have h2 : 2 ^ 8 * V = V * 256 := by omega
  rw [h2] at this
  rw [← this]; omega

theorem getPl {β : Type} {F at_ w : Nat} {l : List Int} {K : Int → Option β} (hw : w ≤ 8) (hl : at_ + w ≤ l.length) (hb : ∀ x ∈ l, 0 ≤ x ∧ x < 256) : ∀ (m i k : Nat) (v : Int), m + i = w → m < k → 0 ≤ v ∧ v < 256 ^ i →
    f93_1_l7 F at_ w (w : Int) l K k v (i : Int) = K (num v ((l.drop (at_ + i)).take m))
  | _, _, 0, _, _, h, _ => by omega
  | 0, i, k + 1, v, hi, _, _ => by rw [f93_1_l7, cf (by omega)]; rfl
  | m + 1, i, k + 1, v, hi, hk, hv => by
    have h1 : at_ + i < l.length := by omega
    have hx := hb _ (List.getElem_mem h1)
    have hg : l.getD (at_ + (i : Int).toNat) 0 = l[at_ + i] := by simp [h1]
    have hp : (256 : Int) ^ i ≤ 256 ^ 7 := by
      have : (256 : Nat) ^ i ≤ 256 ^ 7 := Nat.pow_le_pow_right (by decide) (by omega)
      have h := Int.ofNat_le.2 this
      rw [Int.natCast_pow, Int.natCast_pow] at h
      exact h
    have hv2 : v * 256 + l[at_ + i] < 256 ^ (i + 1) := by rw [Int.pow_succ]; omega
    rw [f93_1_l7, ct (by omega), ct (by omega), ct (by omega), hg, wu64 (by omega) (by omega), shlor ⟨hv.1, by omega⟩ hx, w64 (by omega) (by omega), List.drop_eq_getElem_cons h1, List.take_succ_cons, num, List.foldl_cons, ← num]
    exact getPl hw hl hb m (i + 1) k _ (by omega) (by omega) ⟨by omega, hv2⟩

theorem getRl {β : Type} {F at_ w : Nat} {l : List Int} {K : Int → Option β} (hw : w ≤ 8) (hl : at_ + w ≤ l.length) (hll : l.length ≤ 100000) (hb : ∀ x ∈ l, 0 ≤ x ∧ x < 256) : ∀ (m i k : Nat) (v : Int), m + i = w → m < k → 0 ≤ v ∧ v < 256 ^ i →
    f94_1_l7 F (at_ : Int) (w : Int) l K k v (i : Int) = K (num v ((l.drop (at_ + i)).take m))
  | _, _, 0, _, _, h, _ => by omega
  | 0, i, k + 1, v, hi, _, _ => by rw [f94_1_l7, cf (by omega)]; rfl
  | m + 1, i, k + 1, v, hi, hk, hv => by
    have h1 : at_ + i < l.length := by omega
    have hx := hb _ (List.getElem_mem h1)
    have hg : l.getD (0 + ((at_ : Int) + (i : Int)).toNat) 0 = l[at_ + i] := by
      rw [show 0 + ((at_ : Int) + (i : Int)).toNat = at_ + i by omega]; simp [h1]
    have hp : (256 : Int) ^ i ≤ 256 ^ 7 := by
      have : (256 : Nat) ^ i ≤ 256 ^ 7 := Nat.pow_le_pow_right (by decide) (by omega)
      have h := Int.ofNat_le.2 this
      rw [Int.natCast_pow, Int.natCast_pow] at h
      exact h
    have hv2 : v * 256 + l[at_ + i] < 256 ^ (i + 1) := by rw [Int.pow_succ]; omega
    rw [f94_1_l7, ct (by omega), w64 (x := (at_ : Int) + (i : Int)) (by omega) (by omega), ct (by omega), ct (by omega), hg, wu64 (x := l[at_ + i]) (by omega) (by omega), wu64 (x := v * 256) (by omega) (by omega), wu64 (by omega) (by omega), w64 (by omega) (by omega), List.drop_eq_getElem_cons h1, List.take_succ_cons, num, List.foldl_cons, ← num]
    exact getRl hw hl hll hb m (i + 1) k _ (by omega) (by omega) ⟨by omega, hv2⟩

/-- A number of w bytes from a place on, or that there are not so many. -/
def gt (at_ w : Nat) (l : List Int) : Int × Int := if at_ + w ≤ l.length then (num 0 ((l.drop at_).take w), 0) else (0, 7)

theorem getP {β : Type} {at_ w : Nat} {l : List Int} {K : Int → Int → Option β} (h1 : 1 ≤ w) (hw : w ≤ 8) (hat : at_ ≤ 100000) (hll : l.length ≤ 100000) (hb : ∀ x ∈ l, 0 ≤ x ∧ x < 256) : f93_1 20000 (at_ : Int) (w : Int) l K = K (gt at_ w l).1 (gt at_ w l).2 := by
  rw [f93_1, f92_1, ct (by omega), decide_eq_true (show (w : Int) ≤ 8 by omega), Bool.not_true, cond_false, cf (by omega), gt]
  by_cases h2 : (at_ : Int) > ((l.length : Nat) : Int)
  · rw [ct h2, if_neg (by omega)]
  · rw [cf h2, w64 (by omega) (by omega)]
    by_cases h3 : ((l.length : Nat) : Int) - (at_ : Int) < (w : Int)
    · rw [ct h3, if_neg (by omega)]
    · rw [cf h3, w64 (by omega) (by omega), ct (by omega), if_pos (by omega), show ((at_ : Int) + (w : Int) - (at_ : Int)).toNat = w by omega, show 0 + ((at_ : Int)).toNat = at_ by omega]
      exact getPl (K := fun x8 => K x8 0) hw (by omega) hb w 0 20000 0 (by omega) (by omega) (by simp)

theorem getR {β : Type} {at_ w : Nat} {l : List Int} {K : Int → Int → Option β} (h1 : 1 ≤ w) (hw : w ≤ 8) (hat : at_ ≤ 100000) (hll : l.length ≤ 100000) (hb : ∀ x ∈ l, 0 ≤ x ∧ x < 256) : f94_1 20000 (at_ : Int) (w : Int) l K = K (gt at_ w l).1 (gt at_ w l).2 := by
  rw [f94_1, cf (by omega), cf (by omega), cf (by omega), gt]
  by_cases h2 : (at_ : Int) > ((l.length : Nat) : Int)
  · rw [ct h2, if_neg (by omega)]
  · rw [cf h2, w64 (by omega) (by omega)]
    by_cases h3 : ((l.length : Nat) : Int) - (at_ : Int) < (w : Int)
    · rw [ct h3, if_neg (by omega)]
    · rw [cf h3, if_pos (by omega)]
      exact getRl (K := fun x6 => K x6 0) hw (by omega) hll hb w 0 20000 0 (by omega) (by omega) (by simp)

end Go.Proofs.YtillbabmlfjegaaDoor.X
end

section
/- Numbers of eight bytes; reading them. -/
namespace Go.Proofs.YtillbabmlfjegaaDoor.X
open Go Go.Proofs.YtillbabmlfjegaaDoor.Ev
set_option linter.unusedSectionVars false
variable [FZ]
set_option linter.unusedVariables false
set_option linter.unusedSimpArgs false

theorem bnf {a b : Int} (h : a = b) : (a != b) = false := by simp [h]
theorem bnt {a b : Int} (h : a ≠ b) : (a != b) = true := by simp [h]

/-! ### Numbers of eight bytes -/

def b8 (n : Int) : List Int := [IntKind.u8.wrap (ishr .u64 n 56), IntKind.u8.wrap (ishr .u64 n 48), IntKind.u8.wrap (ishr .u64 n 40), IntKind.u8.wrap (ishr .u64 n 32), IntKind.u8.wrap (ishr .u64 n 24), IntKind.u8.wrap (ishr .u64 n 16), IntKind.u8.wrap (ishr .u64 n 8), IntKind.u8.wrap (ishr .u64 n 0)]
theorem put8 {β : Type} {n : Int} {K : List Int → Option β} : f47_1 20000 8 n [] K = K (b8 n) := by kernel_rfl
theorem text8 {β : Type} {n : Int} {K : ByteArray → Option β} : f40_1 20000 8 n K = K (ofInts (b8 n)) := by kernel_rfl

theorem b8_r (n : Int) : ∀ x ∈ b8 n, 0 ≤ x ∧ x < 256 := by
  intro x hx
  simp only [b8, List.mem_cons, List.not_mem_nil, or_false] at hx
  rcases hx with rfl | rfl | rfl | rfl | rfl | rfl | rfl | rfl <;> (rw [wu8m]; omega)

theorem shrN {n : Int} (h : 0 ≤ n) : ishr .u64 n 56 = n / 72057594037927936 ∧ ishr .u64 n 48 = n / 281474976710656 ∧ ishr .u64 n 40 = n / 1099511627776 ∧ ishr .u64 n 32 = n / 4294967296 ∧ ishr .u64 n 24 = n / 16777216 ∧ ishr .u64 n 16 = n / 65536 ∧ ishr .u64 n 8 = n / 256 ∧ ishr .u64 n 0 = n := by
  have e : ∀ (s : Int) (d : Int), (2 : Int) ^ (min s.toNat IntKind.u64.bits) = d → 0 < d → ishr .u64 n s = n / d := fun s d h1 h2 => by
    rw [ishr, h1, Int.fdiv_eq_ediv_of_nonneg _ (by omega)]
  refine ⟨e 56 _ (by decide) (by decide), e 48 _ (by decide) (by decide), e 40 _ (by decide) (by decide), e 32 _ (by decide) (by decide), e 24 _ (by decide) (by decide), e 16 _ (by decide) (by decide), e 8 _ (by decide) (by decide), ?_⟩
  rw [e 0 1 (by decide) (by decide)]; omega

theorem num8 {n : Int} (h : 0 ≤ n ∧ n < 18446744073709551616) : num 0 (b8 n) = n := by
  obtain ⟨e1, e2, e3, e4, e5, e6, e7, e8⟩ := shrN h.1
  simp only [num, b8, List.foldl_cons, List.foldl_nil, wu8m, e1, e2, e3, e4, e5, e6, e7, e8]
  omega

theorem toInts_ofInts {l : List Int} (h : ∀ x ∈ l, 0 ≤ x ∧ x < 256) : toInts (ofInts l) = l := by
  rw [toInts_D, D_ofInts, List.map_map]
  conv => rhs; rw [← List.map_id l]
  apply List.map_congr_left
  intro x hx
  have := h x hx
  simp only [Function.comp, id, UInt8.toNat_ofNat']
  omega

theorem toInts_r (s : ByteArray) : ∀ x ∈ toInts s, 0 ≤ x ∧ x < 256 := by
  intro x hx
  rw [toInts_D] at hx
  obtain ⟨c, _, rfl⟩ := List.mem_map.1 hx
  have := c.toNat_lt
  omega

theorem b8_size (n : Int) : (ofInts (b8 n)).size = 8 := by rw [D_size, D_ofInts]; rfl
theorem app_size (s t : ByteArray) : (s ++ t).size = s.size + t.size := by rw [D_size, D_app, List.length_append, ← D_size, ← D_size]
theorem toInts_size (s : ByteArray) : (toInts s).length = s.size := by rw [toInts_D, List.length_map, ← D_size]

/-- The next number of a reader: what it is, why there is none, what is left. -/
def nm (w : Nat) (e : Int) (l : List Int) : Int × Int × List Int := if e ≠ 0 then (0, e, l) else if w ≤ l.length then (num 0 (l.take w), 0, l.drop w) else (0, 7, l)

theorem numC {β : Type} {w : Nat} {e : Int} {l : List Int} {K : Int → Int → List Int → Option β} (h1 : 1 ≤ w) (hw : w ≤ 8) (hll : l.length ≤ 100000) (hb : ∀ x ∈ l, 0 ≤ x ∧ x < 256) :
    f51_1 20000 (w : Int) e l K = K (nm w e l).1 (nm w e l).2.1 (nm w e l).2.2 := by
  have hg := fun K => getP (β := β) (at_ := 0) (w := w) (l := l) (K := K) h1 hw (by omega) hll hb
  rw [f51_1, nm]
  by_cases he : e = 0
  · subst he
    rw [show ((0 : Int) != 0) = false from rfl, cond_false, if_neg (by simp)]
    refine (hg _).trans ?_
    rw [gt]
    by_cases h2 : w ≤ l.length
    · rw [if_pos (by omega), if_pos h2, List.drop_zero]
      show cond ((0 : Int) != 0) _ _ = _
      rw [bnf rfl, cond_false, ct ⟨by omega, by omega, by omega⟩, show 0 + (w : Int).toNat = w by omega, List.take_of_length_le (l := l.drop w) (by simp)]
    · rw [if_neg (by omega), if_neg h2]
      rfl
  · rw [bnt he, cond_true, if_pos he]

theorem opn_size (k : Int) (s : ByteArray) : (opn k s).1.size ≤ 58 := by
  unfold opn
  split
  · show ByteArray.empty.size ≤ 58; decide
  · rename_i h1
    split
    · show ByteArray.empty.size ≤ 58; decide
    · obtain ⟨q1, q2, _⟩ := kd_size (Classical.not_not.1 h1)
      have := byt_r s 1
      show (s.extract 2 (2 + (byt s 1).toNat)).size ≤ 58
      rw [D_size, D_ext]; simp; omega

theorem big60 : 60 ≤ maxLen := by decide

theorem cond_ff' {α : Sort _} {a b : α} : cond (!true) a b = b := rfl
theorem Z64_b0 : byt Z64 0 = 0 := by rw [byt, getD_D, Z64_D]; rfl

theorem opn_zero (k : Int) : (opn k Z64).2 ≠ 0 := by
  unfold opn
  split
  · assumption
  · rename_i h
    obtain ⟨_, _, _, _, q5, _⟩ := kd_size (Classical.not_not.1 h)
    rw [Z64_b0] at q5; omega

end Go.Proofs.YtillbabmlfjegaaDoor.X
end
