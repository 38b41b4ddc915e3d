/- Merged: EvF38, EvF21, EvF54, EvF88, EvF56, EvF58, EvF62, EvF64, EvF66, EvF68, EvF11, EvS18, EvS19, PureW, EvF47, EvF49, EvF51, EvF89, EvF63, EvF65, EvF67, EvF69, EvF10, PureGeom0, EvF52, EvF53, EvF55, EvF59, EvF57. -/
import Derived.Test.YtlokielmpdjedaaMGeomApart2
import Derived.Test.YtlokielmpdjedaaProg
import Derived.KernelRfl
import Derived.ChangeArms
import Derived.OpenShut
import Derived.Below
import Derived.Carry
import Derived.ChangeShapes
import Derived.WideShapes
section
namespace Go.Proofs.Ytlokielmpdjedaa.X
open Go Go.Proofs.Ytlokielmpdjedaa.Ev Go.Proofs
set_option linter.unusedVariables false
/-! geom.Size -/
noncomputable def f38_1 {β : Type} (F : Nat) (a1 : Int) (a2 : Int) (a3 : Int) (a4 : Int) (a5 : Int) (K0 : Int → Option β) : Option β := f86_1 F a1 a2 a3 a4 a5 (fun x1 x2 => cond (!x2) (K0 0) (f50_1 F a1 a2 a3 a4 (fun x3 => K0 (IntKind.i64.wrap ((IntKind.i64.wrap ((IntKind.i64.wrap (6 + a1)) + x3)) + x1))) )) 
def sh38_1 : Sh := ⟨[.agg [.int .i64, .int .i64, .int .i64, .int .i64], .lf (.int .i64)], []⟩
noncomputable def S38_1 (F : Nat) (o : Summ) : Summ := mkS sh38_1 (fun d K => f38_1 F d.1.1.1 d.1.1.2.1 d.1.1.2.2.1 d.1.1.2.2.2.1 d.1.2.1 (fun (y0 : Int) => K [.lf (.int .i64 y0)] [])) o
noncomputable def code38 : Code := bodyOf Try.f38
theorem scopes38 : scopesOf code38 = [] := by kernel_rfl
theorem loops38 : loopsOf code38 = [] := by kernel_rfl
theorem enter38 : ∀ args w, (callFunc 38 args).run Try.prog w = .ok (.enter 38 args) w := enter_of (fn := Try.f38) (by kernel_rfl) (by kernel_rfl) (by kernel_rfl)
noncomputable def T38_1 (F : Nat) : FuncId → Option Summ := tab [(50, (S50_1 F noS)), (86, (S86_1 F noS))]
noncomputable def LT38_1 (F : Nat) : Nat → Option LoopS := ltab []
theorem E38_1g (F : Nat) (c50_1 : Int → Int → Int → Int → (Int → Option Res) → Option Res) (c86_1 : Int → Int → Int → Int → Int → (Int → Bool → Option Res) → Option Res)   (d : sh38_1.den) (K : KF) : evBody Try.prog (tab [(50, (mkS sh50_1 (fun d K => c50_1 d.1.1.1 d.1.1.2.1 d.1.1.2.2.1 d.1.1.2.2.2.1 (fun (y0 : Int) => K [.lf (.int .i64 y0)] [])) noS)), (86, (mkS sh86_1 (fun d K => c86_1 d.1.1.1 d.1.1.2.1 d.1.1.2.2.1 d.1.1.2.2.2.1 d.1.2.1 (fun (y0 : Int) (y1 : Bool) => K [.lf (.int .i64 y0), .lf (.bool y1)] [])) noS))]) 23 0 (ltab []) code38 Try.f38.results.toList (encT sh38_1.vs d.1) (encH sh38_1.h d.2) K = (fun (a1 : Int) (a2 : Int) (a3 : Int) (a4 : Int) (a5 : Int) (K0 : (Int → Option Res)) => c86_1 a1 a2 a3 a4 a5 (fun x1 x2 => cond (!x2) (K0 0) (c50_1 a1 a2 a3 a4 (fun x3 => K0 (IntKind.i64.wrap ((IntKind.i64.wrap ((IntKind.i64.wrap (6 + a1)) + x3)) + x1))) )) ) d.1.1.1 d.1.1.2.1 d.1.1.2.2.1 d.1.1.2.2.2.1 d.1.2.1 (fun (y0 : Int) => K [.lf (.int .i64 y0)] []) := by kernel_rfl
theorem E38_1 (F : Nat) (d : sh38_1.den) (K : KF) : evBody Try.prog (T38_1 F) 23 0 (LT38_1 F) code38 Try.f38.results.toList (encT sh38_1.vs d.1) (encH sh38_1.h d.2) K = f38_1 F d.1.1.1 d.1.1.2.1 d.1.1.2.2.1 d.1.1.2.2.2.1 d.1.2.1 (fun (y0 : Int) => K [.lf (.int .i64 y0)] []) := Eq.mp (by kernel_rfl) (E38_1g F (f50_1 F) (f86_1 F)   d K)
theorem S38_1_ok (F : Nat) (o : Summ) (ho : SoundFn Try.prog 38 o) : SoundFn Try.prog 38 (S38_1 F o) :=
  soundFn_of (fn := Try.f38) (c := code38) (by kernel_rfl) (tab_cons (S50_1_ok F _ (noS_sound enter50)) (tab_cons (S86_1_ok F _ (noS_sound enter86)) tab_nil)) (by kernel_rfl) (by kernel_rfl) ho (by rw [loops38]; exact loopsOK_nil) (by rw [scopes38]; exact scopesOK_nil) (E38_1 F)
end Go.Proofs.Ytlokielmpdjedaa.X
end

section
namespace Go.Proofs.Ytlokielmpdjedaa.X
open Go Go.Proofs.Ytlokielmpdjedaa.Ev Go.Proofs
set_option linter.unusedVariables false
/-! pentimentoref07.Ints -/
noncomputable def f21_1_l4 {β : Type} (F : Nat) (v2 : List Int) (v3 : List Int) (K0 : Option β) (K1 : Option β) : Nat → Int → Option β
  | 0, _ => none
  | k + 1, v1 => cond (decide (v1 < ((v2.length : Nat) : Int))) (cond (decide ((0 : Int) ≤ v1 ∧ v1 < ((v2.length : Nat) : Int))) (cond (decide (0 + v1.toNat < v2.length)) (cond (decide ((0 : Int) ≤ v1 ∧ v1 < ((v3.length : Nat) : Int))) (cond (decide (0 + v1.toNat < v3.length)) (cond ((v2.getD (0 + v1.toNat) 0) != (v3.getD (0 + v1.toNat) 0)) (K0) (f21_1_l4 F v2 v3 K0 K1 k (IntKind.i64.wrap (v1 + 1)))) none) none) none) none) (K1)
noncomputable def f21_1 {β : Type} (F : Nat) (a1 : List Int) (a2 : List Int) (K0 : Bool → Option β) : Option β := cond (((a1.length : Nat) : Int) != ((a2.length : Nat) : Int)) (K0 false) (f21_1_l4 F a1 a2 (K0 false) (K0 true) F 0)
def sh21_1 : Sh := ⟨[.lf (.full 0), .lf (.full 1)], [some ⟨none, [.seq (.int .i64) 0]⟩, some ⟨none, [.seq (.int .i64) 0]⟩]⟩
noncomputable def S21_1 (F : Nat) (o : Summ) : Summ := mkS sh21_1 (fun d K => f21_1 F d.2.1.2.1 d.2.2.1.2.1 (fun (y0 : Bool) => K [.lf (.bool y0)] [some ⟨d.2.1.1, [.seq (.int .i64) 0 d.2.1.2.1]⟩, some ⟨d.2.2.1.1, [.seq (.int .i64) 0 d.2.2.1.2.1]⟩])) o
noncomputable def code21 : Code := bodyOf Try.f21
noncomputable def b21_0 : Code := cB (cB (cR (cL (cR (cR (code21))))))
theorem scopes21 : scopesOf code21 = [] := by kernel_rfl
theorem loops21 : loopsOf code21 = [b21_0] := by kernel_rfl
theorem enter21 : ∀ args w, (callFunc 21 args).run Try.prog w = .ok (.enter 21 args) w := enter_of (fn := Try.f21) (by kernel_rfl) (by kernel_rfl) (by kernel_rfl)
noncomputable def T21_1 (F : Nat) : FuncId → Option Summ := tab []
def sh21_1_l4 : Sh := ⟨[.lf (.full 0), .lf (.full 1), .lf (.int .i64)], [some ⟨none, [.seq (.int .i64) 0]⟩, some ⟨none, [.seq (.int .i64) 0]⟩]⟩
noncomputable def G21_1_4 (F k : Nat) : LoopS := mkG sh21_1_l4 [0, 1, 5] (outT [(.exit 0, []), (.ret, [4])]) (fun d K => f21_1_l4 F d.2.1.2.1 d.2.2.1.2.1 (K .ret [.tv (.lf (.bool false))] [some ⟨d.2.1.1, [.seq (.int .i64) 0 d.2.1.2.1]⟩, some ⟨d.2.2.1.1, [.seq (.int .i64) 0 d.2.2.1.2.1]⟩]) (K (.exit 0) [] [some ⟨d.2.1.1, [.seq (.int .i64) 0 d.2.1.2.1]⟩, some ⟨d.2.2.1.1, [.seq (.int .i64) 0 d.2.2.1.2.1]⟩]) k d.1.2.2.1)
noncomputable def LT21_1 (F : Nat) : Nat → Option LoopS := ltab [(4, G21_1_4 F F)]
theorem L21_1_4g (F k : Nat)   (l4 : List Int → List Int → (Option Res) → (Option Res) → Nat → Int → Option Res) (X4 : LoopS) (d : sh21_1_l4.den) (K : KL) : (fun (v2 : List Int) (v3 : List Int) (K0 : (Option Res)) (K1 : (Option Res)) (k : Nat) (v1 : Int) => cond (decide (v1 < ((v2.length : Nat) : Int))) (cond (decide ((0 : Int) ≤ v1 ∧ v1 < ((v2.length : Nat) : Int))) (cond (decide (0 + v1.toNat < v2.length)) (cond (decide ((0 : Int) ≤ v1 ∧ v1 < ((v3.length : Nat) : Int))) (cond (decide (0 + v1.toNat < v3.length)) (cond ((v2.getD (0 + v1.toNat) 0) != (v3.getD (0 + v1.toNat) 0)) (K0) (l4 v2 v3 K0 K1 k (IntKind.i64.wrap (v1 + 1)))) none) none) none) none) (K1)) d.2.1.2.1 d.2.2.1.2.1 (K .ret [.tv (.lf (.bool false))] [some ⟨d.2.1.1, [.seq (.int .i64) 0 d.2.1.2.1]⟩, some ⟨d.2.2.1.1, [.seq (.int .i64) 0 d.2.2.1.2.1]⟩]) (K (.exit 0) [] [some ⟨d.2.1.1, [.seq (.int .i64) 0 d.2.1.2.1]⟩, some ⟨d.2.2.1.1, [.seq (.int .i64) 0 d.2.2.1.2.1]⟩]) k d.1.2.2.1 = roundOf Try.prog (tab []) 26 2 (ltab [(4, X4)]) (mkG sh21_1_l4 [0, 1, 5] (outT [(.exit 0, []), (.ret, [4])]) (fun d K => l4 d.2.1.2.1 d.2.2.1.2.1 (K .ret [.tv (.lf (.bool false))] [some ⟨d.2.1.1, [.seq (.int .i64) 0 d.2.1.2.1]⟩, some ⟨d.2.2.1.1, [.seq (.int .i64) 0 d.2.2.1.2.1]⟩]) (K (.exit 0) [] [some ⟨d.2.1.1, [.seq (.int .i64) 0 d.2.1.2.1]⟩, some ⟨d.2.2.1.1, [.seq (.int .i64) 0 d.2.2.1.2.1]⟩]) k d.1.2.2.1)) b21_0 (encT sh21_1_l4.vs d.1) (encH sh21_1_l4.h d.2) K := by kernel_rfl
theorem L21_1_4 (F : Nat) : LoopOK Try.prog (T21_1 F) 26 2 (LT21_1 F) (G21_1_4 F F) b21_0 :=
  loopOK_of (s := sh21_1_l4) (live := [0, 1, 5]) (out := (outT [(.exit 0, []), (.ret, [4])])) (fun k d K => f21_1_l4 F d.2.1.2.1 d.2.2.1.2.1 (K .ret [.tv (.lf (.bool false))] [some ⟨d.2.1.1, [.seq (.int .i64) 0 d.2.1.2.1]⟩, some ⟨d.2.2.1.1, [.seq (.int .i64) 0 d.2.2.1.2.1]⟩]) (K (.exit 0) [] [some ⟨d.2.1.1, [.seq (.int .i64) 0 d.2.1.2.1]⟩, some ⟨d.2.2.1.1, [.seq (.int .i64) 0 d.2.2.1.2.1]⟩]) k d.1.2.2.1) F (fun d K => by kernel_rfl)  (fun k d K => Eq.mp (by kernel_rfl) (L21_1_4g F k   (f21_1_l4 F) (G21_1_4 F F) d K))
theorem E21_1g (F : Nat)  (l4 : List Int → List Int → (Option Res) → (Option Res) → Nat → Int → Option Res)  (d : sh21_1.den) (K : KF) : evBody Try.prog (tab []) 26 2 (ltab [(4, mkG sh21_1_l4 [0, 1, 5] (outT [(.exit 0, []), (.ret, [4])]) (fun d K => l4 d.2.1.2.1 d.2.2.1.2.1 (K .ret [.tv (.lf (.bool false))] [some ⟨d.2.1.1, [.seq (.int .i64) 0 d.2.1.2.1]⟩, some ⟨d.2.2.1.1, [.seq (.int .i64) 0 d.2.2.1.2.1]⟩]) (K (.exit 0) [] [some ⟨d.2.1.1, [.seq (.int .i64) 0 d.2.1.2.1]⟩, some ⟨d.2.2.1.1, [.seq (.int .i64) 0 d.2.2.1.2.1]⟩]) F d.1.2.2.1))]) code21 Try.f21.results.toList (encT sh21_1.vs d.1) (encH sh21_1.h d.2) K = (fun (a1 : List Int) (a2 : List Int) (K0 : (Bool → Option Res)) => cond (((a1.length : Nat) : Int) != ((a2.length : Nat) : Int)) (K0 false) (l4 a1 a2 (K0 false) (K0 true) F 0)) d.2.1.2.1 d.2.2.1.2.1 (fun (y0 : Bool) => K [.lf (.bool y0)] [some ⟨d.2.1.1, [.seq (.int .i64) 0 d.2.1.2.1]⟩, some ⟨d.2.2.1.1, [.seq (.int .i64) 0 d.2.2.1.2.1]⟩]) := by kernel_rfl
theorem E21_1 (F : Nat) (d : sh21_1.den) (K : KF) : evBody Try.prog (T21_1 F) 26 2 (LT21_1 F) code21 Try.f21.results.toList (encT sh21_1.vs d.1) (encH sh21_1.h d.2) K = f21_1 F d.2.1.2.1 d.2.2.1.2.1 (fun (y0 : Bool) => K [.lf (.bool y0)] [some ⟨d.2.1.1, [.seq (.int .i64) 0 d.2.1.2.1]⟩, some ⟨d.2.2.1.1, [.seq (.int .i64) 0 d.2.2.1.2.1]⟩]) := Eq.mp (by kernel_rfl) (E21_1g F  (f21_1_l4 F)  d K)
theorem S21_1_ok (F : Nat) (o : Summ) (ho : SoundFn Try.prog 21 o) : SoundFn Try.prog 21 (S21_1 F o) :=
  soundFn_of (fn := Try.f21) (c := code21) (by kernel_rfl) tab_nil (by kernel_rfl) (by kernel_rfl) ho (by rw [loops21]; exact (loopsOK_cons (by kernel_rfl) (L21_1_4 F) loopsOK_nil)) (by rw [scopes21]; exact scopesOK_nil) (E21_1 F)
end Go.Proofs.Ytlokielmpdjedaa.X
end

section
namespace Go.Proofs.Ytlokielmpdjedaa.X
open Go Go.Proofs.Ytlokielmpdjedaa.Ev Go.Proofs
set_option linter.unusedVariables false
/-! geom.Root -/
noncomputable def f54_1 {β : Type} (F : Nat) (a1 : Int) (a2 : Int) (a3 : Int) (a4 : Int) (K0 : Int → Option β) : Option β := f50_1 F a1 a2 a3 a4 (fun x1 => K0 (if IntKind.i64.wrap (x1 - 1) > 0 then IntKind.i64.wrap (x1 - 1) else 0)) 
def sh54_1 : Sh := ⟨[.agg [.int .i64, .int .i64, .int .i64, .int .i64]], []⟩
noncomputable def S54_1 (F : Nat) (o : Summ) : Summ := mkS sh54_1 (fun d K => f54_1 F d.1.1.1 d.1.1.2.1 d.1.1.2.2.1 d.1.1.2.2.2.1 (fun (y0 : Int) => K [.lf (.int .i64 y0)] [])) o
noncomputable def code54 : Code := bodyOf Try.f54
theorem scopes54 : scopesOf code54 = [] := by kernel_rfl
theorem loops54 : loopsOf code54 = [] := by kernel_rfl
theorem enter54 : ∀ args w, (callFunc 54 args).run Try.prog w = .ok (.enter 54 args) w := enter_of (fn := Try.f54) (by kernel_rfl) (by kernel_rfl) (by kernel_rfl)
noncomputable def T54_1 (F : Nat) : FuncId → Option Summ := tab [(50, (S50_1 F noS))]
noncomputable def LT54_1 (F : Nat) : Nat → Option LoopS := ltab []
theorem E54_1g (F : Nat) (c50_1 : Int → Int → Int → Int → (Int → Option Res) → Option Res)   (d : sh54_1.den) (K : KF) : evBody Try.prog (tab [(50, (mkS sh50_1 (fun d K => c50_1 d.1.1.1 d.1.1.2.1 d.1.1.2.2.1 d.1.1.2.2.2.1 (fun (y0 : Int) => K [.lf (.int .i64 y0)] [])) noS))]) 7 0 (ltab []) code54 Try.f54.results.toList (encT sh54_1.vs d.1) (encH sh54_1.h d.2) K = (fun (a1 : Int) (a2 : Int) (a3 : Int) (a4 : Int) (K0 : (Int → Option Res)) => c50_1 a1 a2 a3 a4 (fun x1 => K0 (if IntKind.i64.wrap (x1 - 1) > 0 then IntKind.i64.wrap (x1 - 1) else 0)) ) d.1.1.1 d.1.1.2.1 d.1.1.2.2.1 d.1.1.2.2.2.1 (fun (y0 : Int) => K [.lf (.int .i64 y0)] []) := by kernel_rfl
theorem E54_1 (F : Nat) (d : sh54_1.den) (K : KF) : evBody Try.prog (T54_1 F) 7 0 (LT54_1 F) code54 Try.f54.results.toList (encT sh54_1.vs d.1) (encH sh54_1.h d.2) K = f54_1 F d.1.1.1 d.1.1.2.1 d.1.1.2.2.1 d.1.1.2.2.2.1 (fun (y0 : Int) => K [.lf (.int .i64 y0)] []) := Eq.mp (by kernel_rfl) (E54_1g F (f50_1 F)   d K)
theorem S54_1_ok (F : Nat) (o : Summ) (ho : SoundFn Try.prog 54 o) : SoundFn Try.prog 54 (S54_1 F o) :=
  soundFn_of (fn := Try.f54) (c := code54) (by kernel_rfl) (tab_cons (S50_1_ok F _ (noS_sound enter50)) tab_nil) (by kernel_rfl) (by kernel_rfl) ho (by rw [loops54]; exact loopsOK_nil) (by rw [scopes54]; exact scopesOK_nil) (E54_1 F)
end Go.Proofs.Ytlokielmpdjedaa.X
end

section
namespace Go.Proofs.Ytlokielmpdjedaa.X
open Go Go.Proofs.Ytlokielmpdjedaa.Ev Go.Proofs
set_option linter.unusedVariables false
/-! geom.level -/
noncomputable def f88_1_l3 {β : Type} (F : Nat) (v2 : Int) (v4 : Int) (v6 : List Int) (K0 : Int → Int → Option β) (K1 : Option β) : Nat → Int → Int → Option β
  | 0, _, _ => none
  | k + 1, v3, v5 => cond (decide (v5 < v4)) (cond (decide ((0 : Int) ≤ v5 ∧ v5 < ((v6.length : Nat) : Int))) (cond (decide (0 + v5.toNat < v6.length)) (f87_1 F v2 v3 (IntKind.i64.wrap ((IntKind.i64.wrap (v3 + (v6.getD (0 + v5.toNat) 0))) - 1)) (fun x7 => cond x7 (K0 v5 v3) (f88_1_l3 F v2 v4 v6 K0 K1 k (IntKind.i64.wrap (v3 + (v6.getD (0 + v5.toNat) 0))) (IntKind.i64.wrap (v5 + 1)))) ) none) none) (K1)
noncomputable def f88_1 {β : Type} (F : Nat) (a1 : Int) (a2 : Int) (a3 : Int) (a4 : Int) (a5 : Int) (K0 : Int → Int → Bool → Option β) : Option β := f48_1 F a1 a2 a3 a4 (fun x1 => f88_1_l3 F a5 ((x1.length : Nat) : Int) x1 (fun x8 x9 => K0 x8 x9 true) (K0 0 0 false) F 0 0) 
def sh88_1 : Sh := ⟨[.agg [.int .i64, .int .i64, .int .i64, .int .i64], .lf (.int .i64)], []⟩
noncomputable def S88_1 (F : Nat) (o : Summ) : Summ := mkS sh88_1 (fun d K => f88_1 F d.1.1.1 d.1.1.2.1 d.1.1.2.2.1 d.1.1.2.2.2.1 d.1.2.1 (fun (y0 : Int) (y1 : Int) (y2 : Bool) => K [.lf (.int .i64 y0), .lf (.int .i64 y1), .lf (.bool y2)] [])) o
noncomputable def code88 : Code := bodyOf Try.f88
noncomputable def b88_0 : Code := cB (cB (cR (cL (cR (cR (code88))))))
theorem scopes88 : scopesOf code88 = [] := by kernel_rfl
theorem loops88 : loopsOf code88 = [b88_0] := by kernel_rfl
theorem enter88 : ∀ args w, (callFunc 88 args).run Try.prog w = .ok (.enter 88 args) w := enter_of (fn := Try.f88) (by kernel_rfl) (by kernel_rfl) (by kernel_rfl)
noncomputable def T88_1 (F : Nat) : FuncId → Option Summ := tab [(48, (S48_1 F noS)), (87, (S87_1 F noS))]
def sh88_1_l3 : Sh := ⟨[.lf (.int .i64), .lf (.int .i64), .lf (.full 0), .lf (.int .i64), .lf (.int .i64)], [some ⟨some false, [.seq (.int .i64) 0]⟩]⟩
noncomputable def G88_1_3 (F k : Nat) : LoopS := mkG sh88_1_l3 [1, 7, 11, 12, 13] (outT [(.exit 0, []), (.ret, [4, 5, 6])]) (fun d K => f88_1_l3 F d.1.1 d.1.2.2.2.1 d.2.1.2.1 (fun (y0 : Int) (y1 : Int) => K .ret [.tv (.lf (.int .i64 y0)), .tv (.lf (.int .i64 y1)), .tv (.lf (.bool true))] [some ⟨false, [.seq (.int .i64) 0 d.2.1.2.1]⟩]) (K (.exit 0) [] [some ⟨false, [.seq (.int .i64) 0 d.2.1.2.1]⟩]) k d.1.2.1 d.1.2.2.2.2.1)
noncomputable def LT88_1 (F : Nat) : Nat → Option LoopS := ltab [(3, G88_1_3 F F)]
theorem L88_1_3g (F k : Nat) (c48_1 : Int → Int → Int → Int → (List Int → Option Res) → Option Res) (c87_1 : Int → Int → Int → (Bool → Option Res) → Option Res)  (l3 : Int → Int → List Int → (Int → Int → Option Res) → (Option Res) → Nat → Int → Int → Option Res) (X3 : LoopS) (d : sh88_1_l3.den) (K : KL) : (fun (v2 : Int) (v4 : Int) (v6 : List Int) (K0 : (Int → Int → Option Res)) (K1 : (Option Res)) (k : Nat) (v3 : Int) (v5 : Int) => cond (decide (v5 < v4)) (cond (decide ((0 : Int) ≤ v5 ∧ v5 < ((v6.length : Nat) : Int))) (cond (decide (0 + v5.toNat < v6.length)) (c87_1 v2 v3 (IntKind.i64.wrap ((IntKind.i64.wrap (v3 + (v6.getD (0 + v5.toNat) 0))) - 1)) (fun x7 => cond x7 (K0 v5 v3) (l3 v2 v4 v6 K0 K1 k (IntKind.i64.wrap (v3 + (v6.getD (0 + v5.toNat) 0))) (IntKind.i64.wrap (v5 + 1)))) ) none) none) (K1)) d.1.1 d.1.2.2.2.1 d.2.1.2.1 (fun (y0 : Int) (y1 : Int) => K .ret [.tv (.lf (.int .i64 y0)), .tv (.lf (.int .i64 y1)), .tv (.lf (.bool true))] [some ⟨false, [.seq (.int .i64) 0 d.2.1.2.1]⟩]) (K (.exit 0) [] [some ⟨false, [.seq (.int .i64) 0 d.2.1.2.1]⟩]) k d.1.2.1 d.1.2.2.2.2.1 = roundOf Try.prog (tab [(48, (mkS sh48_1 (fun d K => c48_1 d.1.1.1 d.1.1.2.1 d.1.1.2.2.1 d.1.1.2.2.2.1 (fun (y0 : List Int) => K [.lf (.full 0)] [some ⟨false, [.seq (.int .i64) 0 y0]⟩])) noS)), (87, (mkS sh87_1 (fun d K => c87_1 d.1.1 d.1.2.1 d.1.2.2.1 (fun (y0 : Bool) => K [.lf (.bool y0)] [])) noS))]) 31 0 (ltab [(3, X3)]) (mkG sh88_1_l3 [1, 7, 11, 12, 13] (outT [(.exit 0, []), (.ret, [4, 5, 6])]) (fun d K => l3 d.1.1 d.1.2.2.2.1 d.2.1.2.1 (fun (y0 : Int) (y1 : Int) => K .ret [.tv (.lf (.int .i64 y0)), .tv (.lf (.int .i64 y1)), .tv (.lf (.bool true))] [some ⟨false, [.seq (.int .i64) 0 d.2.1.2.1]⟩]) (K (.exit 0) [] [some ⟨false, [.seq (.int .i64) 0 d.2.1.2.1]⟩]) k d.1.2.1 d.1.2.2.2.2.1)) b88_0 (encT sh88_1_l3.vs d.1) (encH sh88_1_l3.h d.2) K := by kernel_rfl
theorem L88_1_3 (F : Nat) : LoopOK Try.prog (T88_1 F) 31 0 (LT88_1 F) (G88_1_3 F F) b88_0 :=
  loopOK_of (s := sh88_1_l3) (live := [1, 7, 11, 12, 13]) (out := (outT [(.exit 0, []), (.ret, [4, 5, 6])])) (fun k d K => f88_1_l3 F d.1.1 d.1.2.2.2.1 d.2.1.2.1 (fun (y0 : Int) (y1 : Int) => K .ret [.tv (.lf (.int .i64 y0)), .tv (.lf (.int .i64 y1)), .tv (.lf (.bool true))] [some ⟨false, [.seq (.int .i64) 0 d.2.1.2.1]⟩]) (K (.exit 0) [] [some ⟨false, [.seq (.int .i64) 0 d.2.1.2.1]⟩]) k d.1.2.1 d.1.2.2.2.2.1) F (fun d K => by kernel_rfl)  (fun k d K => Eq.mp (by kernel_rfl) (L88_1_3g F k (f48_1 F) (f87_1 F)  (f88_1_l3 F) (G88_1_3 F F) d K))
theorem E88_1g (F : Nat) (c48_1 : Int → Int → Int → Int → (List Int → Option Res) → Option Res) (c87_1 : Int → Int → Int → (Bool → Option Res) → Option Res) (l3 : Int → Int → List Int → (Int → Int → Option Res) → (Option Res) → Nat → Int → Int → Option Res)  (d : sh88_1.den) (K : KF) : evBody Try.prog (tab [(48, (mkS sh48_1 (fun d K => c48_1 d.1.1.1 d.1.1.2.1 d.1.1.2.2.1 d.1.1.2.2.2.1 (fun (y0 : List Int) => K [.lf (.full 0)] [some ⟨false, [.seq (.int .i64) 0 y0]⟩])) noS)), (87, (mkS sh87_1 (fun d K => c87_1 d.1.1 d.1.2.1 d.1.2.2.1 (fun (y0 : Bool) => K [.lf (.bool y0)] [])) noS))]) 31 0 (ltab [(3, mkG sh88_1_l3 [1, 7, 11, 12, 13] (outT [(.exit 0, []), (.ret, [4, 5, 6])]) (fun d K => l3 d.1.1 d.1.2.2.2.1 d.2.1.2.1 (fun (y0 : Int) (y1 : Int) => K .ret [.tv (.lf (.int .i64 y0)), .tv (.lf (.int .i64 y1)), .tv (.lf (.bool true))] [some ⟨false, [.seq (.int .i64) 0 d.2.1.2.1]⟩]) (K (.exit 0) [] [some ⟨false, [.seq (.int .i64) 0 d.2.1.2.1]⟩]) F d.1.2.1 d.1.2.2.2.2.1))]) code88 Try.f88.results.toList (encT sh88_1.vs d.1) (encH sh88_1.h d.2) K = (fun (a1 : Int) (a2 : Int) (a3 : Int) (a4 : Int) (a5 : Int) (K0 : (Int → Int → Bool → Option Res)) => c48_1 a1 a2 a3 a4 (fun x1 => l3 a5 ((x1.length : Nat) : Int) x1 (fun x8 x9 => K0 x8 x9 true) (K0 0 0 false) F 0 0) ) d.1.1.1 d.1.1.2.1 d.1.1.2.2.1 d.1.1.2.2.2.1 d.1.2.1 (fun (y0 : Int) (y1 : Int) (y2 : Bool) => K [.lf (.int .i64 y0), .lf (.int .i64 y1), .lf (.bool y2)] []) := by kernel_rfl
theorem E88_1 (F : Nat) (d : sh88_1.den) (K : KF) : evBody Try.prog (T88_1 F) 31 0 (LT88_1 F) code88 Try.f88.results.toList (encT sh88_1.vs d.1) (encH sh88_1.h d.2) K = f88_1 F d.1.1.1 d.1.1.2.1 d.1.1.2.2.1 d.1.1.2.2.2.1 d.1.2.1 (fun (y0 : Int) (y1 : Int) (y2 : Bool) => K [.lf (.int .i64 y0), .lf (.int .i64 y1), .lf (.bool y2)] []) := Eq.mp (by kernel_rfl) (E88_1g F (f48_1 F) (f87_1 F) (f88_1_l3 F)  d K)
theorem S88_1_ok (F : Nat) (o : Summ) (ho : SoundFn Try.prog 88 o) : SoundFn Try.prog 88 (S88_1 F o) :=
  soundFn_of (fn := Try.f88) (c := code88) (by kernel_rfl) (tab_cons (S48_1_ok F _ (noS_sound enter48)) (tab_cons (S87_1_ok F _ (noS_sound enter87)) tab_nil)) (by kernel_rfl) (by kernel_rfl) ho (by rw [loops88]; exact (loopsOK_cons (by kernel_rfl) (L88_1_3 F) loopsOK_nil)) (by rw [scopes88]; exact scopesOK_nil) (E88_1 F)
end Go.Proofs.Ytlokielmpdjedaa.X
end

section
namespace Go.Proofs.Ytlokielmpdjedaa.X
open Go Go.Proofs.Ytlokielmpdjedaa.Ev Go.Proofs
set_option linter.unusedVariables false
/-! geom.Parent -/
noncomputable def f56_1 {β : Type} (F : Nat) (a1 : Int) (a2 : Int) (a3 : Int) (a4 : Int) (a5 : Int) (K0 : Int → Option β) : Option β := f88_1 F a1 a2 a3 a4 a5 (fun x1 x2 x3 => cond (!x3) (K0 (-1)) (f54_1 F a1 a2 a3 a4 (fun x4 => cond (a5 == x4) (K0 (-1)) (cond (decide (a2 = 0)) none (f48_1 F a1 a2 a3 a4 (fun x5 => cond (decide ((0 : Int) ≤ x1 ∧ x1 < ((x5.length : Nat) : Int))) (cond (decide (0 + x1.toNat < x5.length)) (K0 (IntKind.i64.wrap ((IntKind.i64.wrap (x2 + (x5.getD (0 + x1.toNat) 0))) + (IntKind.i64.wrap ((IntKind.i64.wrap (a5 - x2)).tdiv a2))))) none) none) ))) )) 
def sh56_1 : Sh := ⟨[.agg [.int .i64, .int .i64, .int .i64, .int .i64], .lf (.int .i64)], []⟩
noncomputable def S56_1 (F : Nat) (o : Summ) : Summ := mkS sh56_1 (fun d K => f56_1 F d.1.1.1 d.1.1.2.1 d.1.1.2.2.1 d.1.1.2.2.2.1 d.1.2.1 (fun (y0 : Int) => K [.lf (.int .i64 y0)] [])) o
noncomputable def code56 : Code := bodyOf Try.f56
theorem scopes56 : scopesOf code56 = [] := by kernel_rfl
theorem loops56 : loopsOf code56 = [] := by kernel_rfl
theorem enter56 : ∀ args w, (callFunc 56 args).run Try.prog w = .ok (.enter 56 args) w := enter_of (fn := Try.f56) (by kernel_rfl) (by kernel_rfl) (by kernel_rfl)
noncomputable def T56_1 (F : Nat) : FuncId → Option Summ := tab [(48, (S48_1 F noS)), (54, (S54_1 F noS)), (88, (S88_1 F noS))]
noncomputable def LT56_1 (F : Nat) : Nat → Option LoopS := ltab []
theorem E56_1g (F : Nat) (c48_1 : Int → Int → Int → Int → (List Int → Option Res) → Option Res) (c54_1 : Int → Int → Int → Int → (Int → Option Res) → Option Res) (c88_1 : Int → Int → Int → Int → Int → (Int → Int → Bool → Option Res) → Option Res)   (d : sh56_1.den) (K : KF) : evBody Try.prog (tab [(48, (mkS sh48_1 (fun d K => c48_1 d.1.1.1 d.1.1.2.1 d.1.1.2.2.1 d.1.1.2.2.2.1 (fun (y0 : List Int) => K [.lf (.full 0)] [some ⟨false, [.seq (.int .i64) 0 y0]⟩])) noS)), (54, (mkS sh54_1 (fun d K => c54_1 d.1.1.1 d.1.1.2.1 d.1.1.2.2.1 d.1.1.2.2.2.1 (fun (y0 : Int) => K [.lf (.int .i64 y0)] [])) noS)), (88, (mkS sh88_1 (fun d K => c88_1 d.1.1.1 d.1.1.2.1 d.1.1.2.2.1 d.1.1.2.2.2.1 d.1.2.1 (fun (y0 : Int) (y1 : Int) (y2 : Bool) => K [.lf (.int .i64 y0), .lf (.int .i64 y1), .lf (.bool y2)] [])) noS))]) 37 0 (ltab []) code56 Try.f56.results.toList (encT sh56_1.vs d.1) (encH sh56_1.h d.2) K = (fun (a1 : Int) (a2 : Int) (a3 : Int) (a4 : Int) (a5 : Int) (K0 : (Int → Option Res)) => c88_1 a1 a2 a3 a4 a5 (fun x1 x2 x3 => cond (!x3) (K0 (-1)) (c54_1 a1 a2 a3 a4 (fun x4 => cond (a5 == x4) (K0 (-1)) (cond (decide (a2 = 0)) none (c48_1 a1 a2 a3 a4 (fun x5 => cond (decide ((0 : Int) ≤ x1 ∧ x1 < ((x5.length : Nat) : Int))) (cond (decide (0 + x1.toNat < x5.length)) (K0 (IntKind.i64.wrap ((IntKind.i64.wrap (x2 + (x5.getD (0 + x1.toNat) 0))) + (IntKind.i64.wrap ((IntKind.i64.wrap (a5 - x2)).tdiv a2))))) none) none) ))) )) ) d.1.1.1 d.1.1.2.1 d.1.1.2.2.1 d.1.1.2.2.2.1 d.1.2.1 (fun (y0 : Int) => K [.lf (.int .i64 y0)] []) := by kernel_rfl
theorem E56_1 (F : Nat) (d : sh56_1.den) (K : KF) : evBody Try.prog (T56_1 F) 37 0 (LT56_1 F) code56 Try.f56.results.toList (encT sh56_1.vs d.1) (encH sh56_1.h d.2) K = f56_1 F d.1.1.1 d.1.1.2.1 d.1.1.2.2.1 d.1.1.2.2.2.1 d.1.2.1 (fun (y0 : Int) => K [.lf (.int .i64 y0)] []) := Eq.mp (by kernel_rfl) (E56_1g F (f48_1 F) (f54_1 F) (f88_1 F)   d K)
theorem S56_1_ok (F : Nat) (o : Summ) (ho : SoundFn Try.prog 56 o) : SoundFn Try.prog 56 (S56_1 F o) :=
  soundFn_of (fn := Try.f56) (c := code56) (by kernel_rfl) (tab_cons (S48_1_ok F _ (noS_sound enter48)) (tab_cons (S54_1_ok F _ (noS_sound enter54)) (tab_cons (S88_1_ok F _ (noS_sound enter88)) tab_nil))) (by kernel_rfl) (by kernel_rfl) ho (by rw [loops56]; exact loopsOK_nil) (by rw [scopes56]; exact scopesOK_nil) (E56_1 F)
end Go.Proofs.Ytlokielmpdjedaa.X
end

section
namespace Go.Proofs.Ytlokielmpdjedaa.X
open Go Go.Proofs.Ytlokielmpdjedaa.Ev Go.Proofs
set_option linter.unusedVariables false
/-! geom.Children -/
noncomputable def f58_1_l7 {β : Type} (F : Nat) (v5 : Int) (v6 : Int) (v7 : Int) (v8 : Int) (v10 : Int) (v11 : Int) (v12 : Int) (v13 : Int) (K0 : List Int → Option β) : Nat → Int → List Int → Option β
  | 0, _, _ => none
  | k + 1, v9, v14 => cond (decide (v9 < v8)) (cond (decide (IntKind.i64.wrap ((IntKind.i64.wrap ((IntKind.i64.wrap (v5 - v6)) * v11)) + v9) < v7)) (cond (decide ((v14.length + 1) * 8 ≤ 70368744177664)) (f58_1_l7 F v5 v6 v7 v8 v10 v11 v12 v13 K0 k (IntKind.i64.wrap (v9 + 1)) (v14 ++ [IntKind.i64.wrap ((IntKind.i64.wrap (v6 - v7)) + (IntKind.i64.wrap ((IntKind.i64.wrap ((IntKind.i64.wrap (v5 - v6)) * v11)) + v9)))])) none) (f58_1_l7 F v5 v6 v7 v8 v10 v11 v12 v13 K0 k (IntKind.i64.wrap (v9 + 1)) v14)) (K0 v14)
noncomputable def f58_1 {β : Type} (F : Nat) (a1 : Int) (a2 : Int) (a3 : Int) (a4 : Int) (a5 : Int) (K0 : List Int → Option β) : Option β := f88_1 F a1 a2 a3 a4 a5 (fun x1 x2 x3 => cond (!x3) (K0 []) (cond (x1 == 0) (K0 []) (f48_1 F a1 a2 a3 a4 (fun x4 => cond (decide ((0 : Int) ≤ IntKind.i64.wrap (x1 - 1) ∧ IntKind.i64.wrap (x1 - 1) < ((x4.length : Nat) : Int))) (cond (decide (0 + ((IntKind.i64.wrap (x1 - 1)).toNat) < x4.length)) (f58_1_l7 F a5 x2 (x4.getD (0 + ((IntKind.i64.wrap (x1 - 1)).toNat)) 0) a2 a1 a2 a3 a4 (fun x15 => K0 x15) F 0 []) none) none) ))) 
def sh58_1 : Sh := ⟨[.agg [.int .i64, .int .i64, .int .i64, .int .i64], .lf (.int .i64)], []⟩
noncomputable def S58_1 (F : Nat) (o : Summ) : Summ := mkS sh58_1 (fun d K => f58_1 F d.1.1.1 d.1.1.2.1 d.1.1.2.2.1 d.1.1.2.2.2.1 d.1.2.1 (fun (y0 : List Int) => K [.lf (.full 0)] [some ⟨false, [.seq (.int .i64) 0 y0]⟩])) o
noncomputable def code58 : Code := bodyOf Try.f58
noncomputable def b58_0 : Code := cB (cB (cR (cL (cR (cR (cR (cR (cR (code58)))))))))
theorem scopes58 : scopesOf code58 = [] := by kernel_rfl
theorem loops58 : loopsOf code58 = [b58_0] := by kernel_rfl
theorem enter58 : ∀ args w, (callFunc 58 args).run Try.prog w = .ok (.enter 58 args) w := enter_of (fn := Try.f58) (by kernel_rfl) (by kernel_rfl) (by kernel_rfl)
noncomputable def T58_1 (F : Nat) : FuncId → Option Summ := tab [(48, (S48_1 F noS)), (88, (S88_1 F noS))]
def sh58_1_l7 : Sh := ⟨[.lf (.int .i64), .lf (.ptr 0 0), .lf (.int .i64), .lf (.int .i64), .lf (.full 1), .lf (.int .i64), .lf (.int .i64)], [some ⟨some false, [.int .i64, .int .i64, .int .i64, .int .i64]⟩, some ⟨some false, [.seq (.int .i64) 0]⟩]⟩
noncomputable def G58_1_7 (F k : Nat) : LoopS := mkG sh58_1_l7 [1, 2, 6, 8, 9, 32, 33] (outT [(.exit 0, [9])]) (fun d K => f58_1_l7 F d.1.1 d.1.2.2.1 d.1.2.2.2.1 d.1.2.2.2.2.2.1 d.2.1.2.1 d.2.1.2.2.1 d.2.1.2.2.2.1 d.2.1.2.2.2.2.1 (fun (y4 : List Int) => K (.exit 0) [.tv (.lf (.full 1))] [some ⟨false, [.int .i64 d.2.1.2.1, .int .i64 d.2.1.2.2.1, .int .i64 d.2.1.2.2.2.1, .int .i64 d.2.1.2.2.2.2.1]⟩, some ⟨false, [.seq (.int .i64) 0 y4]⟩]) k d.1.2.2.2.2.2.2.1 d.2.2.1.2.1)
noncomputable def LT58_1 (F : Nat) : Nat → Option LoopS := ltab [(7, G58_1_7 F F)]
theorem L58_1_7g (F k : Nat) (c48_1 : Int → Int → Int → Int → (List Int → Option Res) → Option Res) (c88_1 : Int → Int → Int → Int → Int → (Int → Int → Bool → Option Res) → Option Res)  (l7 : Int → Int → Int → Int → Int → Int → Int → Int → (List Int → Option Res) → Nat → Int → List Int → Option Res) (X7 : LoopS) (d : sh58_1_l7.den) (K : KL) : (fun (v5 : Int) (v6 : Int) (v7 : Int) (v8 : Int) (v10 : Int) (v11 : Int) (v12 : Int) (v13 : Int) (K0 : (List Int → Option Res)) (k : Nat) (v9 : Int) (v14 : List Int) => cond (decide (v9 < v8)) (cond (decide (IntKind.i64.wrap ((IntKind.i64.wrap ((IntKind.i64.wrap (v5 - v6)) * v11)) + v9) < v7)) (cond (decide ((v14.length + 1) * 8 ≤ 70368744177664)) (l7 v5 v6 v7 v8 v10 v11 v12 v13 K0 k (IntKind.i64.wrap (v9 + 1)) (v14 ++ [IntKind.i64.wrap ((IntKind.i64.wrap (v6 - v7)) + (IntKind.i64.wrap ((IntKind.i64.wrap ((IntKind.i64.wrap (v5 - v6)) * v11)) + v9)))])) none) (l7 v5 v6 v7 v8 v10 v11 v12 v13 K0 k (IntKind.i64.wrap (v9 + 1)) v14)) (K0 v14)) d.1.1 d.1.2.2.1 d.1.2.2.2.1 d.1.2.2.2.2.2.1 d.2.1.2.1 d.2.1.2.2.1 d.2.1.2.2.2.1 d.2.1.2.2.2.2.1 (fun (y4 : List Int) => K (.exit 0) [.tv (.lf (.full 1))] [some ⟨false, [.int .i64 d.2.1.2.1, .int .i64 d.2.1.2.2.1, .int .i64 d.2.1.2.2.2.1, .int .i64 d.2.1.2.2.2.2.1]⟩, some ⟨false, [.seq (.int .i64) 0 y4]⟩]) k d.1.2.2.2.2.2.2.1 d.2.2.1.2.1 = roundOf Try.prog (tab [(48, (mkS sh48_1 (fun d K => c48_1 d.1.1.1 d.1.1.2.1 d.1.1.2.2.1 d.1.1.2.2.2.1 (fun (y0 : List Int) => K [.lf (.full 0)] [some ⟨false, [.seq (.int .i64) 0 y0]⟩])) noS)), (88, (mkS sh88_1 (fun d K => c88_1 d.1.1.1 d.1.1.2.1 d.1.1.2.2.1 d.1.1.2.2.2.1 d.1.2.1 (fun (y0 : Int) (y1 : Int) (y2 : Bool) => K [.lf (.int .i64 y0), .lf (.int .i64 y1), .lf (.bool y2)] [])) noS))]) 57 0 (ltab [(7, X7)]) (mkG sh58_1_l7 [1, 2, 6, 8, 9, 32, 33] (outT [(.exit 0, [9])]) (fun d K => l7 d.1.1 d.1.2.2.1 d.1.2.2.2.1 d.1.2.2.2.2.2.1 d.2.1.2.1 d.2.1.2.2.1 d.2.1.2.2.2.1 d.2.1.2.2.2.2.1 (fun (y4 : List Int) => K (.exit 0) [.tv (.lf (.full 1))] [some ⟨false, [.int .i64 d.2.1.2.1, .int .i64 d.2.1.2.2.1, .int .i64 d.2.1.2.2.2.1, .int .i64 d.2.1.2.2.2.2.1]⟩, some ⟨false, [.seq (.int .i64) 0 y4]⟩]) k d.1.2.2.2.2.2.2.1 d.2.2.1.2.1)) b58_0 (encT sh58_1_l7.vs d.1) (encH sh58_1_l7.h d.2) K := by kernel_rfl
theorem L58_1_7 (F : Nat) : LoopOK Try.prog (T58_1 F) 57 0 (LT58_1 F) (G58_1_7 F F) b58_0 :=
  loopOK_of (s := sh58_1_l7) (live := [1, 2, 6, 8, 9, 32, 33]) (out := (outT [(.exit 0, [9])])) (fun k d K => f58_1_l7 F d.1.1 d.1.2.2.1 d.1.2.2.2.1 d.1.2.2.2.2.2.1 d.2.1.2.1 d.2.1.2.2.1 d.2.1.2.2.2.1 d.2.1.2.2.2.2.1 (fun (y4 : List Int) => K (.exit 0) [.tv (.lf (.full 1))] [some ⟨false, [.int .i64 d.2.1.2.1, .int .i64 d.2.1.2.2.1, .int .i64 d.2.1.2.2.2.1, .int .i64 d.2.1.2.2.2.2.1]⟩, some ⟨false, [.seq (.int .i64) 0 y4]⟩]) k d.1.2.2.2.2.2.2.1 d.2.2.1.2.1) F (fun d K => by kernel_rfl)  (fun k d K => Eq.mp (by kernel_rfl) (L58_1_7g F k (f48_1 F) (f88_1 F)  (f58_1_l7 F) (G58_1_7 F F) d K))
theorem E58_1g (F : Nat) (c48_1 : Int → Int → Int → Int → (List Int → Option Res) → Option Res) (c88_1 : Int → Int → Int → Int → Int → (Int → Int → Bool → Option Res) → Option Res) (l7 : Int → Int → Int → Int → Int → Int → Int → Int → (List Int → Option Res) → Nat → Int → List Int → Option Res)  (d : sh58_1.den) (K : KF) : evBody Try.prog (tab [(48, (mkS sh48_1 (fun d K => c48_1 d.1.1.1 d.1.1.2.1 d.1.1.2.2.1 d.1.1.2.2.2.1 (fun (y0 : List Int) => K [.lf (.full 0)] [some ⟨false, [.seq (.int .i64) 0 y0]⟩])) noS)), (88, (mkS sh88_1 (fun d K => c88_1 d.1.1.1 d.1.1.2.1 d.1.1.2.2.1 d.1.1.2.2.2.1 d.1.2.1 (fun (y0 : Int) (y1 : Int) (y2 : Bool) => K [.lf (.int .i64 y0), .lf (.int .i64 y1), .lf (.bool y2)] [])) noS))]) 57 0 (ltab [(7, mkG sh58_1_l7 [1, 2, 6, 8, 9, 32, 33] (outT [(.exit 0, [9])]) (fun d K => l7 d.1.1 d.1.2.2.1 d.1.2.2.2.1 d.1.2.2.2.2.2.1 d.2.1.2.1 d.2.1.2.2.1 d.2.1.2.2.2.1 d.2.1.2.2.2.2.1 (fun (y4 : List Int) => K (.exit 0) [.tv (.lf (.full 1))] [some ⟨false, [.int .i64 d.2.1.2.1, .int .i64 d.2.1.2.2.1, .int .i64 d.2.1.2.2.2.1, .int .i64 d.2.1.2.2.2.2.1]⟩, some ⟨false, [.seq (.int .i64) 0 y4]⟩]) F d.1.2.2.2.2.2.2.1 d.2.2.1.2.1))]) code58 Try.f58.results.toList (encT sh58_1.vs d.1) (encH sh58_1.h d.2) K = (fun (a1 : Int) (a2 : Int) (a3 : Int) (a4 : Int) (a5 : Int) (K0 : (List Int → Option Res)) => c88_1 a1 a2 a3 a4 a5 (fun x1 x2 x3 => cond (!x3) (K0 []) (cond (x1 == 0) (K0 []) (c48_1 a1 a2 a3 a4 (fun x4 => cond (decide ((0 : Int) ≤ IntKind.i64.wrap (x1 - 1) ∧ IntKind.i64.wrap (x1 - 1) < ((x4.length : Nat) : Int))) (cond (decide (0 + ((IntKind.i64.wrap (x1 - 1)).toNat) < x4.length)) (l7 a5 x2 (x4.getD (0 + ((IntKind.i64.wrap (x1 - 1)).toNat)) 0) a2 a1 a2 a3 a4 (fun x15 => K0 x15) F 0 []) none) none) ))) ) d.1.1.1 d.1.1.2.1 d.1.1.2.2.1 d.1.1.2.2.2.1 d.1.2.1 (fun (y0 : List Int) => K [.lf (.full 0)] [some ⟨false, [.seq (.int .i64) 0 y0]⟩]) := by kernel_rfl
theorem E58_1 (F : Nat) (d : sh58_1.den) (K : KF) : evBody Try.prog (T58_1 F) 57 0 (LT58_1 F) code58 Try.f58.results.toList (encT sh58_1.vs d.1) (encH sh58_1.h d.2) K = f58_1 F d.1.1.1 d.1.1.2.1 d.1.1.2.2.1 d.1.1.2.2.2.1 d.1.2.1 (fun (y0 : List Int) => K [.lf (.full 0)] [some ⟨false, [.seq (.int .i64) 0 y0]⟩]) := Eq.mp (by kernel_rfl) (E58_1g F (f48_1 F) (f88_1 F) (f58_1_l7 F)  d K)
theorem S58_1_ok (F : Nat) (o : Summ) (ho : SoundFn Try.prog 58 o) : SoundFn Try.prog 58 (S58_1 F o) :=
  soundFn_of (fn := Try.f58) (c := code58) (by kernel_rfl) (tab_cons (S48_1_ok F _ (noS_sound enter48)) (tab_cons (S88_1_ok F _ (noS_sound enter88)) tab_nil)) (by kernel_rfl) (by kernel_rfl) ho (by rw [loops58]; exact (loopsOK_cons (by kernel_rfl) (L58_1_7 F) loopsOK_nil)) (by rw [scopes58]; exact scopesOK_nil) (E58_1 F)
end Go.Proofs.Ytlokielmpdjedaa.X
end

section
namespace Go.Proofs.Ytlokielmpdjedaa.X
open Go Go.Proofs.Ytlokielmpdjedaa.Ev Go.Proofs
set_option linter.unusedVariables false
/-! pentimentolaw07.known -/
noncomputable def f62_1 {β : Type} (F : Nat)  (K0 : Bool → Option β) : Option β := f46_1 F 5 2 1 3 (fun x1 => cond x1 (f48_1 F 5 2 1 3 (fun x2 => f21_1 F x2 [5, 3, 2, 1] (fun x3 => cond x3 (f58_1 F 5 2 1 3 7 (fun x4 => f21_1 F x4 [4] (fun x5 => cond x5 (f56_1 F 5 2 1 3 7 (fun x6 => cond (x6 == 9) (f38_1 F 5 2 1 3 0 (fun x7 => cond (x7 == 24) (f54_1 F 5 2 1 3 (fun x8 => K0 (x8 == 10)) ) (K0 false)) ) (K0 false)) ) (K0 false)) ) ) (K0 false)) ) ) (K0 false)) 
def sh62_1 : Sh := ⟨[], []⟩
noncomputable def S62_1 (F : Nat) (o : Summ) : Summ := mkS sh62_1 (fun d K => f62_1 F (fun (y0 : Bool) => K [.lf (.bool y0)] [])) o
noncomputable def code62 : Code := bodyOf Try.f62
theorem scopes62 : scopesOf code62 = [] := by kernel_rfl
theorem loops62 : loopsOf code62 = [] := by kernel_rfl
theorem enter62 : ∀ args w, (callFunc 62 args).run Try.prog w = .ok (.enter 62 args) w := enter_of (fn := Try.f62) (by kernel_rfl) (by kernel_rfl) (by kernel_rfl)
noncomputable def T62_1 (F : Nat) : FuncId → Option Summ := tab [(21, (S21_1 F noS)), (38, (S38_1 F noS)), (46, (S46_1 F noS)), (48, (S48_1 F noS)), (54, (S54_1 F noS)), (56, (S56_1 F noS)), (58, (S58_1 F noS))]
noncomputable def LT62_1 (F : Nat) : Nat → Option LoopS := ltab []
theorem E62_1g (F : Nat) (c21_1 : List Int → List Int → (Bool → Option Res) → Option Res) (c38_1 : Int → Int → Int → Int → Int → (Int → Option Res) → Option Res) (c46_1 : Int → Int → Int → Int → (Bool → Option Res) → Option Res) (c48_1 : Int → Int → Int → Int → (List Int → Option Res) → Option Res) (c54_1 : Int → Int → Int → Int → (Int → Option Res) → Option Res) (c56_1 : Int → Int → Int → Int → Int → (Int → Option Res) → Option Res) (c58_1 : Int → Int → Int → Int → Int → (List Int → Option Res) → Option Res)   (d : sh62_1.den) (K : KF) : evBody Try.prog (tab [(21, (mkS sh21_1 (fun d K => c21_1 d.2.1.2.1 d.2.2.1.2.1 (fun (y0 : Bool) => K [.lf (.bool y0)] [some ⟨d.2.1.1, [.seq (.int .i64) 0 d.2.1.2.1]⟩, some ⟨d.2.2.1.1, [.seq (.int .i64) 0 d.2.2.1.2.1]⟩])) noS)), (38, (mkS sh38_1 (fun d K => c38_1 d.1.1.1 d.1.1.2.1 d.1.1.2.2.1 d.1.1.2.2.2.1 d.1.2.1 (fun (y0 : Int) => K [.lf (.int .i64 y0)] [])) noS)), (46, (mkS sh46_1 (fun d K => c46_1 d.1.1.1 d.1.1.2.1 d.1.1.2.2.1 d.1.1.2.2.2.1 (fun (y0 : Bool) => K [.lf (.bool y0)] [])) noS)), (48, (mkS sh48_1 (fun d K => c48_1 d.1.1.1 d.1.1.2.1 d.1.1.2.2.1 d.1.1.2.2.2.1 (fun (y0 : List Int) => K [.lf (.full 0)] [some ⟨false, [.seq (.int .i64) 0 y0]⟩])) noS)), (54, (mkS sh54_1 (fun d K => c54_1 d.1.1.1 d.1.1.2.1 d.1.1.2.2.1 d.1.1.2.2.2.1 (fun (y0 : Int) => K [.lf (.int .i64 y0)] [])) noS)), (56, (mkS sh56_1 (fun d K => c56_1 d.1.1.1 d.1.1.2.1 d.1.1.2.2.1 d.1.1.2.2.2.1 d.1.2.1 (fun (y0 : Int) => K [.lf (.int .i64 y0)] [])) noS)), (58, (mkS sh58_1 (fun d K => c58_1 d.1.1.1 d.1.1.2.1 d.1.1.2.2.1 d.1.1.2.2.2.1 d.1.2.1 (fun (y0 : List Int) => K [.lf (.full 0)] [some ⟨false, [.seq (.int .i64) 0 y0]⟩])) noS))]) 32 0 (ltab []) code62 Try.f62.results.toList (encT sh62_1.vs d.1) (encH sh62_1.h d.2) K = (fun (K0 : (Bool → Option Res)) => c46_1 5 2 1 3 (fun x1 => cond x1 (c48_1 5 2 1 3 (fun x2 => c21_1 x2 [5, 3, 2, 1] (fun x3 => cond x3 (c58_1 5 2 1 3 7 (fun x4 => c21_1 x4 [4] (fun x5 => cond x5 (c56_1 5 2 1 3 7 (fun x6 => cond (x6 == 9) (c38_1 5 2 1 3 0 (fun x7 => cond (x7 == 24) (c54_1 5 2 1 3 (fun x8 => K0 (x8 == 10)) ) (K0 false)) ) (K0 false)) ) (K0 false)) ) ) (K0 false)) ) ) (K0 false)) ) (fun (y0 : Bool) => K [.lf (.bool y0)] []) := by kernel_rfl
theorem E62_1 (F : Nat) (d : sh62_1.den) (K : KF) : evBody Try.prog (T62_1 F) 32 0 (LT62_1 F) code62 Try.f62.results.toList (encT sh62_1.vs d.1) (encH sh62_1.h d.2) K = f62_1 F (fun (y0 : Bool) => K [.lf (.bool y0)] []) := Eq.mp (by kernel_rfl) (E62_1g F (f21_1 F) (f38_1 F) (f46_1 F) (f48_1 F) (f54_1 F) (f56_1 F) (f58_1 F)   d K)
theorem S62_1_ok (F : Nat) (o : Summ) (ho : SoundFn Try.prog 62 o) : SoundFn Try.prog 62 (S62_1 F o) :=
  soundFn_of (fn := Try.f62) (c := code62) (by kernel_rfl) (tab_cons (S21_1_ok F _ (noS_sound enter21)) (tab_cons (S38_1_ok F _ (noS_sound enter38)) (tab_cons (S46_1_ok F _ (noS_sound enter46)) (tab_cons (S48_1_ok F _ (noS_sound enter48)) (tab_cons (S54_1_ok F _ (noS_sound enter54)) (tab_cons (S56_1_ok F _ (noS_sound enter56)) (tab_cons (S58_1_ok F _ (noS_sound enter58)) tab_nil))))))) (by kernel_rfl) (by kernel_rfl) ho (by rw [loops62]; exact loopsOK_nil) (by rw [scopes62]; exact scopesOK_nil) (E62_1 F)
end Go.Proofs.Ytlokielmpdjedaa.X
end

section
namespace Go.Proofs.Ytlokielmpdjedaa.X
open Go Go.Proofs.Ytlokielmpdjedaa.Ev Go.Proofs
set_option linter.unusedVariables false
/-! geom.Data -/
noncomputable def f64_1 {β : Type} (F : Nat) (a1 : Int) (a2 : Int) (a3 : Int) (a4 : Int) (a5 : Int) (K0 : Int → Option β) : Option β := f46_1 F a1 a2 a3 a4 (fun x1 => cond (!x1) (K0 (-1)) (f87_1 F a5 0 (IntKind.i64.wrap (a1 - 1)) (fun x2 => cond (!x2) (K0 (-1)) (K0 (IntKind.i64.wrap (6 + a5)))) )) 
def sh64_1 : Sh := ⟨[.agg [.int .i64, .int .i64, .int .i64, .int .i64], .lf (.int .i64)], []⟩
noncomputable def S64_1 (F : Nat) (o : Summ) : Summ := mkS sh64_1 (fun d K => f64_1 F d.1.1.1 d.1.1.2.1 d.1.1.2.2.1 d.1.1.2.2.2.1 d.1.2.1 (fun (y0 : Int) => K [.lf (.int .i64 y0)] [])) o
noncomputable def code64 : Code := bodyOf Try.f64
theorem scopes64 : scopesOf code64 = [] := by kernel_rfl
theorem loops64 : loopsOf code64 = [] := by kernel_rfl
theorem enter64 : ∀ args w, (callFunc 64 args).run Try.prog w = .ok (.enter 64 args) w := enter_of (fn := Try.f64) (by kernel_rfl) (by kernel_rfl) (by kernel_rfl)
noncomputable def T64_1 (F : Nat) : FuncId → Option Summ := tab [(46, (S46_1 F noS)), (87, (S87_1 F noS))]
noncomputable def LT64_1 (F : Nat) : Nat → Option LoopS := ltab []
theorem E64_1g (F : Nat) (c46_1 : Int → Int → Int → Int → (Bool → Option Res) → Option Res) (c87_1 : Int → Int → Int → (Bool → Option Res) → Option Res)   (d : sh64_1.den) (K : KF) : evBody Try.prog (tab [(46, (mkS sh46_1 (fun d K => c46_1 d.1.1.1 d.1.1.2.1 d.1.1.2.2.1 d.1.1.2.2.2.1 (fun (y0 : Bool) => K [.lf (.bool y0)] [])) noS)), (87, (mkS sh87_1 (fun d K => c87_1 d.1.1 d.1.2.1 d.1.2.2.1 (fun (y0 : Bool) => K [.lf (.bool y0)] [])) noS))]) 18 0 (ltab []) code64 Try.f64.results.toList (encT sh64_1.vs d.1) (encH sh64_1.h d.2) K = (fun (a1 : Int) (a2 : Int) (a3 : Int) (a4 : Int) (a5 : Int) (K0 : (Int → Option Res)) => c46_1 a1 a2 a3 a4 (fun x1 => cond (!x1) (K0 (-1)) (c87_1 a5 0 (IntKind.i64.wrap (a1 - 1)) (fun x2 => cond (!x2) (K0 (-1)) (K0 (IntKind.i64.wrap (6 + a5)))) )) ) d.1.1.1 d.1.1.2.1 d.1.1.2.2.1 d.1.1.2.2.2.1 d.1.2.1 (fun (y0 : Int) => K [.lf (.int .i64 y0)] []) := by kernel_rfl
theorem E64_1 (F : Nat) (d : sh64_1.den) (K : KF) : evBody Try.prog (T64_1 F) 18 0 (LT64_1 F) code64 Try.f64.results.toList (encT sh64_1.vs d.1) (encH sh64_1.h d.2) K = f64_1 F d.1.1.1 d.1.1.2.1 d.1.1.2.2.1 d.1.1.2.2.2.1 d.1.2.1 (fun (y0 : Int) => K [.lf (.int .i64 y0)] []) := Eq.mp (by kernel_rfl) (E64_1g F (f46_1 F) (f87_1 F)   d K)
theorem S64_1_ok (F : Nat) (o : Summ) (ho : SoundFn Try.prog 64 o) : SoundFn Try.prog 64 (S64_1 F o) :=
  soundFn_of (fn := Try.f64) (c := code64) (by kernel_rfl) (tab_cons (S46_1_ok F _ (noS_sound enter46)) (tab_cons (S87_1_ok F _ (noS_sound enter87)) tab_nil)) (by kernel_rfl) (by kernel_rfl) ho (by rw [loops64]; exact loopsOK_nil) (by rw [scopes64]; exact scopesOK_nil) (E64_1 F)
end Go.Proofs.Ytlokielmpdjedaa.X
end

section
namespace Go.Proofs.Ytlokielmpdjedaa.X
open Go Go.Proofs.Ytlokielmpdjedaa.Ev Go.Proofs
set_option linter.unusedVariables false
/-! geom.Node -/
noncomputable def f66_1 {β : Type} (F : Nat) (a1 : Int) (a2 : Int) (a3 : Int) (a4 : Int) (a5 : Int) (K0 : Int → Option β) : Option β := f46_1 F a1 a2 a3 a4 (fun x1 => cond (!x1) (K0 (-1)) (f54_1 F a1 a2 a3 a4 (fun x2 => f87_1 F a5 0 x2 (fun x3 => cond (!x3) (K0 (-1)) (K0 (IntKind.i64.wrap ((IntKind.i64.wrap (6 + a1)) + a5)))) ) )) 
def sh66_1 : Sh := ⟨[.agg [.int .i64, .int .i64, .int .i64, .int .i64], .lf (.int .i64)], []⟩
noncomputable def S66_1 (F : Nat) (o : Summ) : Summ := mkS sh66_1 (fun d K => f66_1 F d.1.1.1 d.1.1.2.1 d.1.1.2.2.1 d.1.1.2.2.2.1 d.1.2.1 (fun (y0 : Int) => K [.lf (.int .i64 y0)] [])) o
noncomputable def code66 : Code := bodyOf Try.f66
theorem scopes66 : scopesOf code66 = [] := by kernel_rfl
theorem loops66 : loopsOf code66 = [] := by kernel_rfl
theorem enter66 : ∀ args w, (callFunc 66 args).run Try.prog w = .ok (.enter 66 args) w := enter_of (fn := Try.f66) (by kernel_rfl) (by kernel_rfl) (by kernel_rfl)
noncomputable def T66_1 (F : Nat) : FuncId → Option Summ := tab [(46, (S46_1 F noS)), (54, (S54_1 F noS)), (87, (S87_1 F noS))]
noncomputable def LT66_1 (F : Nat) : Nat → Option LoopS := ltab []
theorem E66_1g (F : Nat) (c46_1 : Int → Int → Int → Int → (Bool → Option Res) → Option Res) (c54_1 : Int → Int → Int → Int → (Int → Option Res) → Option Res) (c87_1 : Int → Int → Int → (Bool → Option Res) → Option Res)   (d : sh66_1.den) (K : KF) : evBody Try.prog (tab [(46, (mkS sh46_1 (fun d K => c46_1 d.1.1.1 d.1.1.2.1 d.1.1.2.2.1 d.1.1.2.2.2.1 (fun (y0 : Bool) => K [.lf (.bool y0)] [])) noS)), (54, (mkS sh54_1 (fun d K => c54_1 d.1.1.1 d.1.1.2.1 d.1.1.2.2.1 d.1.1.2.2.2.1 (fun (y0 : Int) => K [.lf (.int .i64 y0)] [])) noS)), (87, (mkS sh87_1 (fun d K => c87_1 d.1.1 d.1.2.1 d.1.2.2.1 (fun (y0 : Bool) => K [.lf (.bool y0)] [])) noS))]) 20 0 (ltab []) code66 Try.f66.results.toList (encT sh66_1.vs d.1) (encH sh66_1.h d.2) K = (fun (a1 : Int) (a2 : Int) (a3 : Int) (a4 : Int) (a5 : Int) (K0 : (Int → Option Res)) => c46_1 a1 a2 a3 a4 (fun x1 => cond (!x1) (K0 (-1)) (c54_1 a1 a2 a3 a4 (fun x2 => c87_1 a5 0 x2 (fun x3 => cond (!x3) (K0 (-1)) (K0 (IntKind.i64.wrap ((IntKind.i64.wrap (6 + a1)) + a5)))) ) )) ) d.1.1.1 d.1.1.2.1 d.1.1.2.2.1 d.1.1.2.2.2.1 d.1.2.1 (fun (y0 : Int) => K [.lf (.int .i64 y0)] []) := by kernel_rfl
theorem E66_1 (F : Nat) (d : sh66_1.den) (K : KF) : evBody Try.prog (T66_1 F) 20 0 (LT66_1 F) code66 Try.f66.results.toList (encT sh66_1.vs d.1) (encH sh66_1.h d.2) K = f66_1 F d.1.1.1 d.1.1.2.1 d.1.1.2.2.1 d.1.1.2.2.2.1 d.1.2.1 (fun (y0 : Int) => K [.lf (.int .i64 y0)] []) := Eq.mp (by kernel_rfl) (E66_1g F (f46_1 F) (f54_1 F) (f87_1 F)   d K)
theorem S66_1_ok (F : Nat) (o : Summ) (ho : SoundFn Try.prog 66 o) : SoundFn Try.prog 66 (S66_1 F o) :=
  soundFn_of (fn := Try.f66) (c := code66) (by kernel_rfl) (tab_cons (S46_1_ok F _ (noS_sound enter46)) (tab_cons (S54_1_ok F _ (noS_sound enter54)) (tab_cons (S87_1_ok F _ (noS_sound enter87)) tab_nil))) (by kernel_rfl) (by kernel_rfl) ho (by rw [loops66]; exact loopsOK_nil) (by rw [scopes66]; exact scopesOK_nil) (E66_1 F)
end Go.Proofs.Ytlokielmpdjedaa.X
end

section
namespace Go.Proofs.Ytlokielmpdjedaa.X
open Go Go.Proofs.Ytlokielmpdjedaa.Ev Go.Proofs
set_option linter.unusedVariables false
/-! geom.Area -/
noncomputable def f68_1 {β : Type} (F : Nat) (a1 : Int) (a2 : Int) (a3 : Int) (a4 : Int) (a5 : Int) (a6 : Int) (K0 : Int → Option β) : Option β := f86_1 F a1 a2 a3 a4 a5 (fun x1 x2 => cond (!x2) (K0 (-1)) (f87_1 F a6 0 (IntKind.i64.wrap (x1 - 1)) (fun x3 => cond (!x3) (K0 (-1)) (f50_1 F a1 a2 a3 a4 (fun x4 => K0 (IntKind.i64.wrap ((IntKind.i64.wrap ((IntKind.i64.wrap (6 + a1)) + x4)) + a6))) )) )) 
def sh68_1 : Sh := ⟨[.agg [.int .i64, .int .i64, .int .i64, .int .i64], .lf (.int .i64), .lf (.int .i64)], []⟩
noncomputable def S68_1 (F : Nat) (o : Summ) : Summ := mkS sh68_1 (fun d K => f68_1 F d.1.1.1 d.1.1.2.1 d.1.1.2.2.1 d.1.1.2.2.2.1 d.1.2.1 d.1.2.2.1 (fun (y0 : Int) => K [.lf (.int .i64 y0)] [])) o
noncomputable def code68 : Code := bodyOf Try.f68
theorem scopes68 : scopesOf code68 = [] := by kernel_rfl
theorem loops68 : loopsOf code68 = [] := by kernel_rfl
theorem enter68 : ∀ args w, (callFunc 68 args).run Try.prog w = .ok (.enter 68 args) w := enter_of (fn := Try.f68) (by kernel_rfl) (by kernel_rfl) (by kernel_rfl)
noncomputable def T68_1 (F : Nat) : FuncId → Option Summ := tab [(50, (S50_1 F noS)), (86, (S86_1 F noS)), (87, (S87_1 F noS))]
noncomputable def LT68_1 (F : Nat) : Nat → Option LoopS := ltab []
theorem E68_1g (F : Nat) (c50_1 : Int → Int → Int → Int → (Int → Option Res) → Option Res) (c86_1 : Int → Int → Int → Int → Int → (Int → Bool → Option Res) → Option Res) (c87_1 : Int → Int → Int → (Bool → Option Res) → Option Res)   (d : sh68_1.den) (K : KF) : evBody Try.prog (tab [(50, (mkS sh50_1 (fun d K => c50_1 d.1.1.1 d.1.1.2.1 d.1.1.2.2.1 d.1.1.2.2.2.1 (fun (y0 : Int) => K [.lf (.int .i64 y0)] [])) noS)), (86, (mkS sh86_1 (fun d K => c86_1 d.1.1.1 d.1.1.2.1 d.1.1.2.2.1 d.1.1.2.2.2.1 d.1.2.1 (fun (y0 : Int) (y1 : Bool) => K [.lf (.int .i64 y0), .lf (.bool y1)] [])) noS)), (87, (mkS sh87_1 (fun d K => c87_1 d.1.1 d.1.2.1 d.1.2.2.1 (fun (y0 : Bool) => K [.lf (.bool y0)] [])) noS))]) 32 0 (ltab []) code68 Try.f68.results.toList (encT sh68_1.vs d.1) (encH sh68_1.h d.2) K = (fun (a1 : Int) (a2 : Int) (a3 : Int) (a4 : Int) (a5 : Int) (a6 : Int) (K0 : (Int → Option Res)) => c86_1 a1 a2 a3 a4 a5 (fun x1 x2 => cond (!x2) (K0 (-1)) (c87_1 a6 0 (IntKind.i64.wrap (x1 - 1)) (fun x3 => cond (!x3) (K0 (-1)) (c50_1 a1 a2 a3 a4 (fun x4 => K0 (IntKind.i64.wrap ((IntKind.i64.wrap ((IntKind.i64.wrap (6 + a1)) + x4)) + a6))) )) )) ) d.1.1.1 d.1.1.2.1 d.1.1.2.2.1 d.1.1.2.2.2.1 d.1.2.1 d.1.2.2.1 (fun (y0 : Int) => K [.lf (.int .i64 y0)] []) := by kernel_rfl
theorem E68_1 (F : Nat) (d : sh68_1.den) (K : KF) : evBody Try.prog (T68_1 F) 32 0 (LT68_1 F) code68 Try.f68.results.toList (encT sh68_1.vs d.1) (encH sh68_1.h d.2) K = f68_1 F d.1.1.1 d.1.1.2.1 d.1.1.2.2.1 d.1.1.2.2.2.1 d.1.2.1 d.1.2.2.1 (fun (y0 : Int) => K [.lf (.int .i64 y0)] []) := Eq.mp (by kernel_rfl) (E68_1g F (f50_1 F) (f86_1 F) (f87_1 F)   d K)
theorem S68_1_ok (F : Nat) (o : Summ) (ho : SoundFn Try.prog 68 o) : SoundFn Try.prog 68 (S68_1 F o) :=
  soundFn_of (fn := Try.f68) (c := code68) (by kernel_rfl) (tab_cons (S50_1_ok F _ (noS_sound enter50)) (tab_cons (S86_1_ok F _ (noS_sound enter86)) (tab_cons (S87_1_ok F _ (noS_sound enter87)) tab_nil))) (by kernel_rfl) (by kernel_rfl) ho (by rw [loops68]; exact loopsOK_nil) (by rw [scopes68]; exact scopesOK_nil) (E68_1 F)
end Go.Proofs.Ytlokielmpdjedaa.X
end

section
namespace Go.Proofs.Ytlokielmpdjedaa.X
open Go Go.Proofs.Ytlokielmpdjedaa.Ev Go.Proofs
set_option linter.unusedVariables false
/-! pentimentolaw07.GeomApart -/
noncomputable def f11_1_l11 {β : Type} (F : Nat) (v18 : Int) (v19 : Int) (v21 : Int) (v23 : Int) (v24 : Int) (v25 : Int) (v26 : Int) (v28 : List Int) (K0 : List Bool → Option β) (K1 : Int → List Bool → Option β) : Nat → Int → Int → List Bool → Option β
  | 0, _, _, _ => none
  | k + 1, v20, v22, v27 => cond (decide (v22 < ((v28.length : Nat) : Int))) (cond (decide ((0 : Int) ≤ v22 ∧ v22 < ((v28.length : Nat) : Int))) (cond (decide (0 + v22.toNat < v28.length)) (cond (decide (v28.getD (0 + v22.toNat) 0 < 0)) (f11_1_l11 F v18 v19 v21 v23 v24 v25 v26 v28 K0 K1 k v20 (IntKind.i64.wrap (v22 + 1)) v27) (cond (decide (v28.getD (0 + v22.toNat) 0 < 6)) (K0 v27) (cond (decide (v28.getD (0 + v22.toNat) 0 ≥ v19)) (K0 v27) (cond (decide (v28.getD (0 + v22.toNat) 0 ≥ 2000)) (K0 v27) (cond (decide ((0 : Int) ≤ v28.getD (0 + v22.toNat) 0 ∧ v28.getD (0 + v22.toNat) 0 < ((v27.length : Nat) : Int))) (cond (decide (0 + ((v28.getD (0 + v22.toNat) 0).toNat) < v27.length)) (cond (v27.getD (0 + ((v28.getD (0 + v22.toNat) 0).toNat)) false) (K0 v27) (cond (decide ((0 : Int) ≤ v28.getD (0 + v22.toNat) 0 ∧ v28.getD (0 + v22.toNat) 0 < ((v27.length : Nat) : Int))) (cond (decide (0 + ((v28.getD (0 + v22.toNat) 0).toNat) < v27.length)) (f11_1_l11 F v18 v19 v21 v23 v24 v25 v26 v28 K0 K1 k (IntKind.i64.wrap (v20 + 1)) (IntKind.i64.wrap (v22 + 1)) (v27.set (0 + ((v28.getD (0 + v22.toNat) 0).toNat)) true)) none) none)) none) none))))) none) none) (K1 v20 v27)
noncomputable def f11_1_l7 {β : Type} (F : Nat) (v6 : Int) (v7 : Int) (v10 : Int) (v11 : Int) (v12 : Int) (v13 : Int) (K0 : List Bool → List Int → Option β) (K1 : Int → List Bool → Option β) : Nat → Int → Int → List Bool → Option β
  | 0, _, _, _ => none
  | k + 1, v8, v9, v14 => cond (decide (v9 < 2000)) (f64_1 F v10 v11 v12 v13 v9 (fun x15 => f66_1 F v10 v11 v12 v13 v9 (fun x16 => f68_1 F v10 v11 v12 v13 v6 v9 (fun x17 => f11_1_l11 F v6 v7 v9 v10 v11 v12 v13 [x15, x16, x17] (fun x29 => K0 x29 [x15, x16, x17]) (fun x30 x31 => f11_1_l7 F v6 v7 v10 v11 v12 v13 K0 K1 k x30 (IntKind.i64.wrap (v9 + 1)) x31) F v8 0 v14) ) ) ) (K1 v8 v14)
noncomputable def f11_1 {β : Type} (F : Nat) (a1 : Int) (a2 : Int) (a3 : Int) (a4 : Int) (a5 : Int) (K0 : Bool → Option β) : Option β := f46_1 F a1 a2 a3 a4 (fun x1 => cond (!x1) (f62_1 F  (fun x2 => K0 x2) ) (cond (decide (a5 < 0)) (f62_1 F  (fun x3 => K0 x3) ) (cond (decide (a5 > 1)) (f62_1 F  (fun x4 => K0 x4) ) (f38_1 F a1 a2 a3 a4 a5 (fun x5 => f11_1_l7 F a5 x5 a1 a2 a3 a4 (fun x32 x33 => K0 false) (fun x34 x35 => cond (x34 == (IntKind.i64.wrap (x5 - 6))) (f62_1 F  (fun x36 => K0 x36) ) (K0 false)) F 0 0 (List.replicate 2000 false)) )))) 
def sh11_1 : Sh := ⟨[.agg [.int .i64, .int .i64, .int .i64, .int .i64], .lf (.int .i64)], []⟩
noncomputable def S11_1 (F : Nat) (o : Summ) : Summ := mkS sh11_1 (fun d K => f11_1 F d.1.1.1 d.1.1.2.1 d.1.1.2.2.1 d.1.1.2.2.2.1 d.1.2.1 (fun (y0 : Bool) => K [.lf (.bool y0)] [])) o
noncomputable def code11 : Code := bodyOf Try.f11
noncomputable def b11_0 : Code := cB (cB (cR (cL (cR (cR (cR (cR (cR (code11)))))))))
noncomputable def b11_1 : Code := cB (cB (cR (cR (cB (cL (cR (cB (cB (cR (cL (cR (cR (cR (cR (cR (code11))))))))))))))))
theorem scopes11 : scopesOf code11 = [] := by kernel_rfl
theorem loops11 : loopsOf code11 = [b11_0, b11_1] := by kernel_rfl
theorem enter11 : ∀ args w, (callFunc 11 args).run Try.prog w = .ok (.enter 11 args) w := enter_of (fn := Try.f11) (by kernel_rfl) (by kernel_rfl) (by kernel_rfl)
noncomputable def T11_1 (F : Nat) : FuncId → Option Summ := tab [(38, (S38_1 F noS)), (46, (S46_1 F noS)), (62, (S62_1 F noS)), (64, (S64_1 F noS)), (66, (S66_1 F noS)), (68, (S68_1 F noS))]
def sh11_1_l11 : Sh := ⟨[.lf (.int .i64), .lf (.ptr 0 0), .lf (.int .i64), .lf (.full 1), .lf (.int .i64), .lf (.int .i64), .lf (.full 2), .lf (.int .i64)], [some ⟨some false, [.int .i64, .int .i64, .int .i64, .int .i64]⟩, some ⟨some false, [.seq .bool 0]⟩, some ⟨some false, [.seq (.int .i64) 0]⟩]⟩
noncomputable def G11_1_11 (F k : Nat) : LoopS := mkG sh11_1_l11 [1, 2, 5, 6, 7, 8, 9, 10] (outT [(.exit 2, [1, 2, 5, 6, 7, 8]), (.ret, [4])]) (fun d K => f11_1_l11 F d.1.1 d.1.2.2.1 d.1.2.2.2.2.2.1 d.2.1.2.1 d.2.1.2.2.1 d.2.1.2.2.2.1 d.2.1.2.2.2.2.1 d.2.2.2.1.2.1 (fun (y5 : List Bool) => K .ret [.tv (.lf (.bool false))] [some ⟨false, [.int .i64 d.2.1.2.1, .int .i64 d.2.1.2.2.1, .int .i64 d.2.1.2.2.2.1, .int .i64 d.2.1.2.2.2.2.1]⟩, some ⟨false, [.seq .bool 0 y5]⟩, some ⟨false, [.seq (.int .i64) 0 d.2.2.2.1.2.1]⟩]) (fun (y2 : Int) (y8 : List Bool) => K (.exit 2) [.tv (.lf (.int .i64 d.1.1)), .tv (.lf (.ptr 0 0)), .tv (.lf (.int .i64 d.1.2.2.1)), .tv (.lf (.full 1)), .tv (.lf (.int .i64 y2)), .tv (.lf (.int .i64 d.1.2.2.2.2.2.1))] [some ⟨false, [.int .i64 d.2.1.2.1, .int .i64 d.2.1.2.2.1, .int .i64 d.2.1.2.2.2.1, .int .i64 d.2.1.2.2.2.2.1]⟩, some ⟨false, [.seq .bool 0 y8]⟩, some ⟨false, [.seq (.int .i64) 0 d.2.2.2.1.2.1]⟩]) k d.1.2.2.2.2.1 d.1.2.2.2.2.2.2.2.1 d.2.2.1.2.1)
def sh11_1_l7 : Sh := ⟨[.lf (.int .i64), .lf (.ptr 0 0), .lf (.int .i64), .lf (.full 1), .lf (.int .i64), .lf (.int .i64)], [some ⟨some false, [.int .i64, .int .i64, .int .i64, .int .i64]⟩, some ⟨some false, [.seq .bool 0]⟩]⟩
noncomputable def G11_1_7 (F k : Nat) : LoopS := mkG sh11_1_l7 [1, 2, 5, 6, 7, 8] (outT [(.exit 0, [5, 7]), (.ret, [4])]) (fun d K => f11_1_l7 F d.1.1 d.1.2.2.1 d.2.1.2.1 d.2.1.2.2.1 d.2.1.2.2.2.1 d.2.1.2.2.2.2.1 (fun (y5 : List Bool) (y6 : List Int) => K .ret [.tv (.lf (.bool false))] [some ⟨false, [.int .i64 d.2.1.2.1, .int .i64 d.2.1.2.2.1, .int .i64 d.2.1.2.2.2.1, .int .i64 d.2.1.2.2.2.2.1]⟩, some ⟨false, [.seq .bool 0 y5]⟩, some ⟨false, [.seq (.int .i64) 0 y6]⟩]) (fun (y1 : Int) (y6 : List Bool) => K (.exit 0) [.tv (.lf (.int .i64 d.1.2.2.1)), .tv (.lf (.int .i64 y1))] [some ⟨false, [.int .i64 d.2.1.2.1, .int .i64 d.2.1.2.2.1, .int .i64 d.2.1.2.2.2.1, .int .i64 d.2.1.2.2.2.2.1]⟩, some ⟨false, [.seq .bool 0 y6]⟩]) k d.1.2.2.2.2.1 d.1.2.2.2.2.2.1 d.2.2.1.2.1)
noncomputable def LT11_1 (F : Nat) : Nat → Option LoopS := ltab [(11, G11_1_11 F F), (7, G11_1_7 F F)]
theorem L11_1_11g (F k : Nat) (c38_1 : Int → Int → Int → Int → Int → (Int → Option Res) → Option Res) (c46_1 : Int → Int → Int → Int → (Bool → Option Res) → Option Res) (c62_1 : (Bool → Option Res) → Option Res) (c64_1 : Int → Int → Int → Int → Int → (Int → Option Res) → Option Res) (c66_1 : Int → Int → Int → Int → Int → (Int → Option Res) → Option Res) (c68_1 : Int → Int → Int → Int → Int → Int → (Int → Option Res) → Option Res)  (l11 : Int → Int → Int → Int → Int → Int → Int → List Int → (List Bool → Option Res) → (Int → List Bool → Option Res) → Nat → Int → Int → List Bool → Option Res) (X11 : LoopS) (X7 : LoopS) (d : sh11_1_l11.den) (K : KL) : (fun (v18 : Int) (v19 : Int) (v21 : Int) (v23 : Int) (v24 : Int) (v25 : Int) (v26 : Int) (v28 : List Int) (K0 : (List Bool → Option Res)) (K1 : (Int → List Bool → Option Res)) (k : Nat) (v20 : Int) (v22 : Int) (v27 : List Bool) => cond (decide (v22 < ((v28.length : Nat) : Int))) (cond (decide ((0 : Int) ≤ v22 ∧ v22 < ((v28.length : Nat) : Int))) (cond (decide (0 + v22.toNat < v28.length)) (cond (decide (v28.getD (0 + v22.toNat) 0 < 0)) (l11 v18 v19 v21 v23 v24 v25 v26 v28 K0 K1 k v20 (IntKind.i64.wrap (v22 + 1)) v27) (cond (decide (v28.getD (0 + v22.toNat) 0 < 6)) (K0 v27) (cond (decide (v28.getD (0 + v22.toNat) 0 ≥ v19)) (K0 v27) (cond (decide (v28.getD (0 + v22.toNat) 0 ≥ 2000)) (K0 v27) (cond (decide ((0 : Int) ≤ v28.getD (0 + v22.toNat) 0 ∧ v28.getD (0 + v22.toNat) 0 < ((v27.length : Nat) : Int))) (cond (decide (0 + ((v28.getD (0 + v22.toNat) 0).toNat) < v27.length)) (cond (v27.getD (0 + ((v28.getD (0 + v22.toNat) 0).toNat)) false) (K0 v27) (cond (decide ((0 : Int) ≤ v28.getD (0 + v22.toNat) 0 ∧ v28.getD (0 + v22.toNat) 0 < ((v27.length : Nat) : Int))) (cond (decide (0 + ((v28.getD (0 + v22.toNat) 0).toNat) < v27.length)) (l11 v18 v19 v21 v23 v24 v25 v26 v28 K0 K1 k (IntKind.i64.wrap (v20 + 1)) (IntKind.i64.wrap (v22 + 1)) (v27.set (0 + ((v28.getD (0 + v22.toNat) 0).toNat)) true)) none) none)) none) none))))) none) none) (K1 v20 v27)) d.1.1 d.1.2.2.1 d.1.2.2.2.2.2.1 d.2.1.2.1 d.2.1.2.2.1 d.2.1.2.2.2.1 d.2.1.2.2.2.2.1 d.2.2.2.1.2.1 (fun (y5 : List Bool) => K .ret [.tv (.lf (.bool false))] [some ⟨false, [.int .i64 d.2.1.2.1, .int .i64 d.2.1.2.2.1, .int .i64 d.2.1.2.2.2.1, .int .i64 d.2.1.2.2.2.2.1]⟩, some ⟨false, [.seq .bool 0 y5]⟩, some ⟨false, [.seq (.int .i64) 0 d.2.2.2.1.2.1]⟩]) (fun (y2 : Int) (y8 : List Bool) => K (.exit 2) [.tv (.lf (.int .i64 d.1.1)), .tv (.lf (.ptr 0 0)), .tv (.lf (.int .i64 d.1.2.2.1)), .tv (.lf (.full 1)), .tv (.lf (.int .i64 y2)), .tv (.lf (.int .i64 d.1.2.2.2.2.2.1))] [some ⟨false, [.int .i64 d.2.1.2.1, .int .i64 d.2.1.2.2.1, .int .i64 d.2.1.2.2.2.1, .int .i64 d.2.1.2.2.2.2.1]⟩, some ⟨false, [.seq .bool 0 y8]⟩, some ⟨false, [.seq (.int .i64) 0 d.2.2.2.1.2.1]⟩]) k d.1.2.2.2.2.1 d.1.2.2.2.2.2.2.2.1 d.2.2.1.2.1 = roundOf Try.prog (tab [(38, (mkS sh38_1 (fun d K => c38_1 d.1.1.1 d.1.1.2.1 d.1.1.2.2.1 d.1.1.2.2.2.1 d.1.2.1 (fun (y0 : Int) => K [.lf (.int .i64 y0)] [])) noS)), (46, (mkS sh46_1 (fun d K => c46_1 d.1.1.1 d.1.1.2.1 d.1.1.2.2.1 d.1.1.2.2.2.1 (fun (y0 : Bool) => K [.lf (.bool y0)] [])) noS)), (62, (mkS sh62_1 (fun d K => c62_1 (fun (y0 : Bool) => K [.lf (.bool y0)] [])) noS)), (64, (mkS sh64_1 (fun d K => c64_1 d.1.1.1 d.1.1.2.1 d.1.1.2.2.1 d.1.1.2.2.2.1 d.1.2.1 (fun (y0 : Int) => K [.lf (.int .i64 y0)] [])) noS)), (66, (mkS sh66_1 (fun d K => c66_1 d.1.1.1 d.1.1.2.1 d.1.1.2.2.1 d.1.1.2.2.2.1 d.1.2.1 (fun (y0 : Int) => K [.lf (.int .i64 y0)] [])) noS)), (68, (mkS sh68_1 (fun d K => c68_1 d.1.1.1 d.1.1.2.1 d.1.1.2.2.1 d.1.1.2.2.2.1 d.1.2.1 d.1.2.2.1 (fun (y0 : Int) => K [.lf (.int .i64 y0)] [])) noS))]) 84 0 (ltab [(11, X11), (7, X7)]) (mkG sh11_1_l11 [1, 2, 5, 6, 7, 8, 9, 10] (outT [(.exit 2, [1, 2, 5, 6, 7, 8]), (.ret, [4])]) (fun d K => l11 d.1.1 d.1.2.2.1 d.1.2.2.2.2.2.1 d.2.1.2.1 d.2.1.2.2.1 d.2.1.2.2.2.1 d.2.1.2.2.2.2.1 d.2.2.2.1.2.1 (fun (y5 : List Bool) => K .ret [.tv (.lf (.bool false))] [some ⟨false, [.int .i64 d.2.1.2.1, .int .i64 d.2.1.2.2.1, .int .i64 d.2.1.2.2.2.1, .int .i64 d.2.1.2.2.2.2.1]⟩, some ⟨false, [.seq .bool 0 y5]⟩, some ⟨false, [.seq (.int .i64) 0 d.2.2.2.1.2.1]⟩]) (fun (y2 : Int) (y8 : List Bool) => K (.exit 2) [.tv (.lf (.int .i64 d.1.1)), .tv (.lf (.ptr 0 0)), .tv (.lf (.int .i64 d.1.2.2.1)), .tv (.lf (.full 1)), .tv (.lf (.int .i64 y2)), .tv (.lf (.int .i64 d.1.2.2.2.2.2.1))] [some ⟨false, [.int .i64 d.2.1.2.1, .int .i64 d.2.1.2.2.1, .int .i64 d.2.1.2.2.2.1, .int .i64 d.2.1.2.2.2.2.1]⟩, some ⟨false, [.seq .bool 0 y8]⟩, some ⟨false, [.seq (.int .i64) 0 d.2.2.2.1.2.1]⟩]) k d.1.2.2.2.2.1 d.1.2.2.2.2.2.2.2.1 d.2.2.1.2.1)) b11_1 (encT sh11_1_l11.vs d.1) (encH sh11_1_l11.h d.2) K := by kernel_rfl
theorem L11_1_11 (F : Nat) : LoopOK Try.prog (T11_1 F) 84 0 (LT11_1 F) (G11_1_11 F F) b11_1 :=
  loopOK_of (s := sh11_1_l11) (live := [1, 2, 5, 6, 7, 8, 9, 10]) (out := (outT [(.exit 2, [1, 2, 5, 6, 7, 8]), (.ret, [4])])) (fun k d K => f11_1_l11 F d.1.1 d.1.2.2.1 d.1.2.2.2.2.2.1 d.2.1.2.1 d.2.1.2.2.1 d.2.1.2.2.2.1 d.2.1.2.2.2.2.1 d.2.2.2.1.2.1 (fun (y5 : List Bool) => K .ret [.tv (.lf (.bool false))] [some ⟨false, [.int .i64 d.2.1.2.1, .int .i64 d.2.1.2.2.1, .int .i64 d.2.1.2.2.2.1, .int .i64 d.2.1.2.2.2.2.1]⟩, some ⟨false, [.seq .bool 0 y5]⟩, some ⟨false, [.seq (.int .i64) 0 d.2.2.2.1.2.1]⟩]) (fun (y2 : Int) (y8 : List Bool) => K (.exit 2) [.tv (.lf (.int .i64 d.1.1)), .tv (.lf (.ptr 0 0)), .tv (.lf (.int .i64 d.1.2.2.1)), .tv (.lf (.full 1)), .tv (.lf (.int .i64 y2)), .tv (.lf (.int .i64 d.1.2.2.2.2.2.1))] [some ⟨false, [.int .i64 d.2.1.2.1, .int .i64 d.2.1.2.2.1, .int .i64 d.2.1.2.2.2.1, .int .i64 d.2.1.2.2.2.2.1]⟩, some ⟨false, [.seq .bool 0 y8]⟩, some ⟨false, [.seq (.int .i64) 0 d.2.2.2.1.2.1]⟩]) k d.1.2.2.2.2.1 d.1.2.2.2.2.2.2.2.1 d.2.2.1.2.1) F (fun d K => by kernel_rfl)  (fun k d K => Eq.mp (by kernel_rfl) (L11_1_11g F k (f38_1 F) (f46_1 F) (f62_1 F) (f64_1 F) (f66_1 F) (f68_1 F)  (f11_1_l11 F) (G11_1_11 F F) (G11_1_7 F F) d K))
theorem L11_1_7g (F k : Nat) (c38_1 : Int → Int → Int → Int → Int → (Int → Option Res) → Option Res) (c46_1 : Int → Int → Int → Int → (Bool → Option Res) → Option Res) (c62_1 : (Bool → Option Res) → Option Res) (c64_1 : Int → Int → Int → Int → Int → (Int → Option Res) → Option Res) (c66_1 : Int → Int → Int → Int → Int → (Int → Option Res) → Option Res) (c68_1 : Int → Int → Int → Int → Int → Int → (Int → Option Res) → Option Res) (l11 : Int → Int → Int → Int → Int → Int → Int → List Int → (List Bool → Option Res) → (Int → List Bool → Option Res) → Nat → Int → Int → List Bool → Option Res) (l7 : Int → Int → Int → Int → Int → Int → (List Bool → List Int → Option Res) → (Int → List Bool → Option Res) → Nat → Int → Int → List Bool → Option Res) (X7 : LoopS) (d : sh11_1_l7.den) (K : KL) : (fun (v6 : Int) (v7 : Int) (v10 : Int) (v11 : Int) (v12 : Int) (v13 : Int) (K0 : (List Bool → List Int → Option Res)) (K1 : (Int → List Bool → Option Res)) (k : Nat) (v8 : Int) (v9 : Int) (v14 : List Bool) => cond (decide (v9 < 2000)) (c64_1 v10 v11 v12 v13 v9 (fun x15 => c66_1 v10 v11 v12 v13 v9 (fun x16 => c68_1 v10 v11 v12 v13 v6 v9 (fun x17 => l11 v6 v7 v9 v10 v11 v12 v13 [x15, x16, x17] (fun x29 => K0 x29 [x15, x16, x17]) (fun x30 x31 => l7 v6 v7 v10 v11 v12 v13 K0 K1 k x30 (IntKind.i64.wrap (v9 + 1)) x31) F v8 0 v14) ) ) ) (K1 v8 v14)) d.1.1 d.1.2.2.1 d.2.1.2.1 d.2.1.2.2.1 d.2.1.2.2.2.1 d.2.1.2.2.2.2.1 (fun (y5 : List Bool) (y6 : List Int) => K .ret [.tv (.lf (.bool false))] [some ⟨false, [.int .i64 d.2.1.2.1, .int .i64 d.2.1.2.2.1, .int .i64 d.2.1.2.2.2.1, .int .i64 d.2.1.2.2.2.2.1]⟩, some ⟨false, [.seq .bool 0 y5]⟩, some ⟨false, [.seq (.int .i64) 0 y6]⟩]) (fun (y1 : Int) (y6 : List Bool) => K (.exit 0) [.tv (.lf (.int .i64 d.1.2.2.1)), .tv (.lf (.int .i64 y1))] [some ⟨false, [.int .i64 d.2.1.2.1, .int .i64 d.2.1.2.2.1, .int .i64 d.2.1.2.2.2.1, .int .i64 d.2.1.2.2.2.2.1]⟩, some ⟨false, [.seq .bool 0 y6]⟩]) k d.1.2.2.2.2.1 d.1.2.2.2.2.2.1 d.2.2.1.2.1 = roundOf Try.prog (tab [(38, (mkS sh38_1 (fun d K => c38_1 d.1.1.1 d.1.1.2.1 d.1.1.2.2.1 d.1.1.2.2.2.1 d.1.2.1 (fun (y0 : Int) => K [.lf (.int .i64 y0)] [])) noS)), (46, (mkS sh46_1 (fun d K => c46_1 d.1.1.1 d.1.1.2.1 d.1.1.2.2.1 d.1.1.2.2.2.1 (fun (y0 : Bool) => K [.lf (.bool y0)] [])) noS)), (62, (mkS sh62_1 (fun d K => c62_1 (fun (y0 : Bool) => K [.lf (.bool y0)] [])) noS)), (64, (mkS sh64_1 (fun d K => c64_1 d.1.1.1 d.1.1.2.1 d.1.1.2.2.1 d.1.1.2.2.2.1 d.1.2.1 (fun (y0 : Int) => K [.lf (.int .i64 y0)] [])) noS)), (66, (mkS sh66_1 (fun d K => c66_1 d.1.1.1 d.1.1.2.1 d.1.1.2.2.1 d.1.1.2.2.2.1 d.1.2.1 (fun (y0 : Int) => K [.lf (.int .i64 y0)] [])) noS)), (68, (mkS sh68_1 (fun d K => c68_1 d.1.1.1 d.1.1.2.1 d.1.1.2.2.1 d.1.1.2.2.2.1 d.1.2.1 d.1.2.2.1 (fun (y0 : Int) => K [.lf (.int .i64 y0)] [])) noS))]) 84 0 (ltab [(11, mkG sh11_1_l11 [1, 2, 5, 6, 7, 8, 9, 10] (outT [(.exit 2, [1, 2, 5, 6, 7, 8]), (.ret, [4])]) (fun d K => l11 d.1.1 d.1.2.2.1 d.1.2.2.2.2.2.1 d.2.1.2.1 d.2.1.2.2.1 d.2.1.2.2.2.1 d.2.1.2.2.2.2.1 d.2.2.2.1.2.1 (fun (y5 : List Bool) => K .ret [.tv (.lf (.bool false))] [some ⟨false, [.int .i64 d.2.1.2.1, .int .i64 d.2.1.2.2.1, .int .i64 d.2.1.2.2.2.1, .int .i64 d.2.1.2.2.2.2.1]⟩, some ⟨false, [.seq .bool 0 y5]⟩, some ⟨false, [.seq (.int .i64) 0 d.2.2.2.1.2.1]⟩]) (fun (y2 : Int) (y8 : List Bool) => K (.exit 2) [.tv (.lf (.int .i64 d.1.1)), .tv (.lf (.ptr 0 0)), .tv (.lf (.int .i64 d.1.2.2.1)), .tv (.lf (.full 1)), .tv (.lf (.int .i64 y2)), .tv (.lf (.int .i64 d.1.2.2.2.2.2.1))] [some ⟨false, [.int .i64 d.2.1.2.1, .int .i64 d.2.1.2.2.1, .int .i64 d.2.1.2.2.2.1, .int .i64 d.2.1.2.2.2.2.1]⟩, some ⟨false, [.seq .bool 0 y8]⟩, some ⟨false, [.seq (.int .i64) 0 d.2.2.2.1.2.1]⟩]) F d.1.2.2.2.2.1 d.1.2.2.2.2.2.2.2.1 d.2.2.1.2.1)), (7, X7)]) (mkG sh11_1_l7 [1, 2, 5, 6, 7, 8] (outT [(.exit 0, [5, 7]), (.ret, [4])]) (fun d K => l7 d.1.1 d.1.2.2.1 d.2.1.2.1 d.2.1.2.2.1 d.2.1.2.2.2.1 d.2.1.2.2.2.2.1 (fun (y5 : List Bool) (y6 : List Int) => K .ret [.tv (.lf (.bool false))] [some ⟨false, [.int .i64 d.2.1.2.1, .int .i64 d.2.1.2.2.1, .int .i64 d.2.1.2.2.2.1, .int .i64 d.2.1.2.2.2.2.1]⟩, some ⟨false, [.seq .bool 0 y5]⟩, some ⟨false, [.seq (.int .i64) 0 y6]⟩]) (fun (y1 : Int) (y6 : List Bool) => K (.exit 0) [.tv (.lf (.int .i64 d.1.2.2.1)), .tv (.lf (.int .i64 y1))] [some ⟨false, [.int .i64 d.2.1.2.1, .int .i64 d.2.1.2.2.1, .int .i64 d.2.1.2.2.2.1, .int .i64 d.2.1.2.2.2.2.1]⟩, some ⟨false, [.seq .bool 0 y6]⟩]) k d.1.2.2.2.2.1 d.1.2.2.2.2.2.1 d.2.2.1.2.1)) b11_0 (encT sh11_1_l7.vs d.1) (encH sh11_1_l7.h d.2) K := by kernel_rfl
theorem L11_1_7 (F : Nat) : LoopOK Try.prog (T11_1 F) 84 0 (LT11_1 F) (G11_1_7 F F) b11_0 :=
  loopOK_of (s := sh11_1_l7) (live := [1, 2, 5, 6, 7, 8]) (out := (outT [(.exit 0, [5, 7]), (.ret, [4])])) (fun k d K => f11_1_l7 F d.1.1 d.1.2.2.1 d.2.1.2.1 d.2.1.2.2.1 d.2.1.2.2.2.1 d.2.1.2.2.2.2.1 (fun (y5 : List Bool) (y6 : List Int) => K .ret [.tv (.lf (.bool false))] [some ⟨false, [.int .i64 d.2.1.2.1, .int .i64 d.2.1.2.2.1, .int .i64 d.2.1.2.2.2.1, .int .i64 d.2.1.2.2.2.2.1]⟩, some ⟨false, [.seq .bool 0 y5]⟩, some ⟨false, [.seq (.int .i64) 0 y6]⟩]) (fun (y1 : Int) (y6 : List Bool) => K (.exit 0) [.tv (.lf (.int .i64 d.1.2.2.1)), .tv (.lf (.int .i64 y1))] [some ⟨false, [.int .i64 d.2.1.2.1, .int .i64 d.2.1.2.2.1, .int .i64 d.2.1.2.2.2.1, .int .i64 d.2.1.2.2.2.2.1]⟩, some ⟨false, [.seq .bool 0 y6]⟩]) k d.1.2.2.2.2.1 d.1.2.2.2.2.2.1 d.2.2.1.2.1) F (fun d K => by kernel_rfl)  (fun k d K => Eq.mp (by kernel_rfl) (L11_1_7g F k (f38_1 F) (f46_1 F) (f62_1 F) (f64_1 F) (f66_1 F) (f68_1 F) (f11_1_l11 F) (f11_1_l7 F) (G11_1_7 F F) d K))
theorem E11_1g (F : Nat) (c38_1 : Int → Int → Int → Int → Int → (Int → Option Res) → Option Res) (c46_1 : Int → Int → Int → Int → (Bool → Option Res) → Option Res) (c62_1 : (Bool → Option Res) → Option Res) (c64_1 : Int → Int → Int → Int → Int → (Int → Option Res) → Option Res) (c66_1 : Int → Int → Int → Int → Int → (Int → Option Res) → Option Res) (c68_1 : Int → Int → Int → Int → Int → Int → (Int → Option Res) → Option Res) (l7 : Int → Int → Int → Int → Int → Int → (List Bool → List Int → Option Res) → (Int → List Bool → Option Res) → Nat → Int → Int → List Bool → Option Res) (X11 : LoopS) (d : sh11_1.den) (K : KF) : evBody Try.prog (tab [(38, (mkS sh38_1 (fun d K => c38_1 d.1.1.1 d.1.1.2.1 d.1.1.2.2.1 d.1.1.2.2.2.1 d.1.2.1 (fun (y0 : Int) => K [.lf (.int .i64 y0)] [])) noS)), (46, (mkS sh46_1 (fun d K => c46_1 d.1.1.1 d.1.1.2.1 d.1.1.2.2.1 d.1.1.2.2.2.1 (fun (y0 : Bool) => K [.lf (.bool y0)] [])) noS)), (62, (mkS sh62_1 (fun d K => c62_1 (fun (y0 : Bool) => K [.lf (.bool y0)] [])) noS)), (64, (mkS sh64_1 (fun d K => c64_1 d.1.1.1 d.1.1.2.1 d.1.1.2.2.1 d.1.1.2.2.2.1 d.1.2.1 (fun (y0 : Int) => K [.lf (.int .i64 y0)] [])) noS)), (66, (mkS sh66_1 (fun d K => c66_1 d.1.1.1 d.1.1.2.1 d.1.1.2.2.1 d.1.1.2.2.2.1 d.1.2.1 (fun (y0 : Int) => K [.lf (.int .i64 y0)] [])) noS)), (68, (mkS sh68_1 (fun d K => c68_1 d.1.1.1 d.1.1.2.1 d.1.1.2.2.1 d.1.1.2.2.2.1 d.1.2.1 d.1.2.2.1 (fun (y0 : Int) => K [.lf (.int .i64 y0)] [])) noS))]) 84 0 (ltab [(11, X11), (7, mkG sh11_1_l7 [1, 2, 5, 6, 7, 8] (outT [(.exit 0, [5, 7]), (.ret, [4])]) (fun d K => l7 d.1.1 d.1.2.2.1 d.2.1.2.1 d.2.1.2.2.1 d.2.1.2.2.2.1 d.2.1.2.2.2.2.1 (fun (y5 : List Bool) (y6 : List Int) => K .ret [.tv (.lf (.bool false))] [some ⟨false, [.int .i64 d.2.1.2.1, .int .i64 d.2.1.2.2.1, .int .i64 d.2.1.2.2.2.1, .int .i64 d.2.1.2.2.2.2.1]⟩, some ⟨false, [.seq .bool 0 y5]⟩, some ⟨false, [.seq (.int .i64) 0 y6]⟩]) (fun (y1 : Int) (y6 : List Bool) => K (.exit 0) [.tv (.lf (.int .i64 d.1.2.2.1)), .tv (.lf (.int .i64 y1))] [some ⟨false, [.int .i64 d.2.1.2.1, .int .i64 d.2.1.2.2.1, .int .i64 d.2.1.2.2.2.1, .int .i64 d.2.1.2.2.2.2.1]⟩, some ⟨false, [.seq .bool 0 y6]⟩]) F d.1.2.2.2.2.1 d.1.2.2.2.2.2.1 d.2.2.1.2.1))]) code11 Try.f11.results.toList (encT sh11_1.vs d.1) (encH sh11_1.h d.2) K = (fun (a1 : Int) (a2 : Int) (a3 : Int) (a4 : Int) (a5 : Int) (K0 : (Bool → Option Res)) => c46_1 a1 a2 a3 a4 (fun x1 => cond (!x1) (c62_1  (fun x2 => K0 x2) ) (cond (decide (a5 < 0)) (c62_1  (fun x3 => K0 x3) ) (cond (decide (a5 > 1)) (c62_1  (fun x4 => K0 x4) ) (c38_1 a1 a2 a3 a4 a5 (fun x5 => l7 a5 x5 a1 a2 a3 a4 (fun x32 x33 => K0 false) (fun x34 x35 => cond (x34 == (IntKind.i64.wrap (x5 - 6))) (c62_1  (fun x36 => K0 x36) ) (K0 false)) F 0 0 (List.replicate 2000 false)) )))) ) d.1.1.1 d.1.1.2.1 d.1.1.2.2.1 d.1.1.2.2.2.1 d.1.2.1 (fun (y0 : Bool) => K [.lf (.bool y0)] []) := by kernel_rfl
theorem E11_1 (F : Nat) (d : sh11_1.den) (K : KF) : evBody Try.prog (T11_1 F) 84 0 (LT11_1 F) code11 Try.f11.results.toList (encT sh11_1.vs d.1) (encH sh11_1.h d.2) K = f11_1 F d.1.1.1 d.1.1.2.1 d.1.1.2.2.1 d.1.1.2.2.2.1 d.1.2.1 (fun (y0 : Bool) => K [.lf (.bool y0)] []) := Eq.mp (by kernel_rfl) (E11_1g F (f38_1 F) (f46_1 F) (f62_1 F) (f64_1 F) (f66_1 F) (f68_1 F) (f11_1_l7 F) (G11_1_11 F F) d K)
theorem S11_1_ok (F : Nat) (o : Summ) (ho : SoundFn Try.prog 11 o) : SoundFn Try.prog 11 (S11_1 F o) :=
  soundFn_of (fn := Try.f11) (c := code11) (by kernel_rfl) (tab_cons (S38_1_ok F _ (noS_sound enter38)) (tab_cons (S46_1_ok F _ (noS_sound enter46)) (tab_cons (S62_1_ok F _ (noS_sound enter62)) (tab_cons (S64_1_ok F _ (noS_sound enter64)) (tab_cons (S66_1_ok F _ (noS_sound enter66)) (tab_cons (S68_1_ok F _ (noS_sound enter68)) tab_nil)))))) (by kernel_rfl) (by kernel_rfl) ho (by rw [loops11]; exact (loopsOK_cons (by kernel_rfl) (L11_1_7 F) (loopsOK_cons (by kernel_rfl) (L11_1_11 F) loopsOK_nil))) (by rw [scopes11]; exact scopesOK_nil) (E11_1 F)
end Go.Proofs.Ytlokielmpdjedaa.X
end

section
/- A row's arguments, opened as typed values. -/
namespace Go.Proofs.Ytlokielmpdjedaa.Ev
open Go Go.RowKit
set_option linter.unusedVariables false

def scK (P : Program) (e : TypeId) : Option EK := match P.underlying e with
  | some (.int k) => some (.int k)
  | some .bool => some .bool
  | some .string => some .str
  | _ => none

def wfE : (k : EK) → k.den → Prop
  | .int k, n => (Lit.int k n).wf = true
  | .bool, _ => True
  | .str, s => s.size ≤ maxLen
  | .pair a b, p => wfE a p.1 ∧ wfE b p.2

def wfD : (s : SL) → s.den → Prop
  | .int k, n => (Lit.int k n).wf = true
  | .str, s => s.size ≤ maxLen
  | .seq k n, l => l.length = n ∧ ∀ x ∈ l, wfE k x
  | _, _ => True

def wfL : (l : List SL) → denL l → Prop
  | [], _ => True
  | s :: r, d => wfD s d.1 ∧ wfL r d.2

def appD : (a b : List SL) → denL a → denL b → denL (a ++ b)
  | [], _, _, y => y
  | _ :: r, b, x, y => (x.1, appD r b x.2 y)

theorem encL_app : ∀ (a b : List SL) (x : denL a) (y : denL b), encL (a ++ b) (appD a b x y) = encL a x ++ encL b y
  | [], _, _, _ => rfl
  | s :: r, b, x, y => by
    show s.enc x.1 :: encL (r ++ b) (appD r b x.2 y) = s.enc x.1 :: (encL r x.2 ++ encL b y)
    rw [encL_app r b]

theorem wfL_app : ∀ (a b : List SL) (x : denL a) (y : denL b), wfL a x → wfL b y → wfL (a ++ b) (appD a b x y)
  | [], _, _, _, _, h => h
  | s :: r, b, x, y, hx, hy => ⟨hx.1, wfL_app r b x.2 y hx.2 hy⟩

section
variable (P : Program)

def slFs (g : TypeId → Option (List SL)) : Nat → List Field → Option (List SL × Nat)
  | off, [] => some ([], off)
  | off, f :: r => if f.offset = off then (match g f.type, slFs g (off + P.cellsOf f.type) r with
    | some a, some (b, n) => some (a ++ b, n)
    | _, _ => none) else none

def slOf : Nat → TypeId → Option (List SL)
  | 0, _ => none
  | f + 1, t => match P.underlying t with
    | some (.int k) => some [.int k]
    | some .bool => some [.bool]
    | some .string => some [.str]
    | some (.array n e) => match scK P e with
      | some k => if P.cellsOf e = 1 ∧ P.cellsOf t = n then some [.seq k n] else none
      | none => none
    | some (.struct fs) => match slFs P (slOf f) 0 fs.toList with
      | some (l, n) => if n = P.cellsOf t then some l else none
      | none => none
    | _ => none
end

section
variable {P : Program} {H : Type} {enc : TypeId × Value → H} {w : World} {base : Nat} {spare : Nat → Bool} {held : Bool}

def Opn (m : GM) (sl : List SL) (cs : List Value) (ps : List MemPlace) : Prop := ∃ d : denL sl, OCells m (encL sl d) cs ∧ wfL sl d ∧ ps = []

theorem sc_open {e : TypeId} {k : EK} {fuel : Nat} {c : List Value} {x : DataW H × List MemPlace} (hk : scK P e = some k) (h : DataW.trod enc P w base spare held fuel e c = some x) :
    ∃ z : k.den, c = k.cv z ∧ wfE k z ∧ x.2 = [] := by
  unfold scK at hk
  split at hk
  · rename_i k' ht
    cases hk
    obtain ⟨n, rfl, rfl, hw⟩ := DataW.trod_int ht h
    exact ⟨n, rfl, hw, rfl⟩
  · rename_i ht
    cases hk
    obtain ⟨b, rfl, rfl⟩ := DataW.trod_bool ht h
    exact ⟨b, rfl, trivial, rfl⟩
  · rename_i ht
    cases hk
    obtain ⟨s, rfl, rfl, hs⟩ := DataW.trod_string ht h
    exact ⟨s, rfl, hs, rfl⟩
  · cases hk

theorem sc_list {e : TypeId} {k : EK} {fuel : Nat} (hk : scK P e = some k) : ∀ (n : Nat) (cs : List Value) (xs : List (DataW H × List MemPlace)), cs.length = n → xs.length = n →
    (∀ i, i < n → DataW.trod enc P w base spare held fuel e ((cs.drop i).take 1) = xs[i]?) → ∃ l : List k.den, cs = cvs k l ∧ l.length = n ∧ (∀ x ∈ l, wfE k x) ∧ xs.flatMap (·.2) = []
  | 0, cs, xs, hc, hx, _ => by
    have := List.eq_nil_of_length_eq_zero hc
    have h2 := List.eq_nil_of_length_eq_zero hx
    subst this; subst h2
    exact ⟨[], rfl, rfl, fun x hx => (by cases hx), rfl⟩
  | n + 1, [], xs, hc, hx, _ => by simp at hc
  | n + 1, c :: cs, [], hc, hx, _ => by simp at hx
  | n + 1, c :: cs, x :: xs, hc, hx, h => by
    have h0 := h 0 (by omega)
    simp only [List.drop_zero, List.take_succ_cons, List.take_zero, List.getElem?_cons_zero] at h0
    obtain ⟨z, hz, hw, hp⟩ := sc_open hk h0
    obtain ⟨l, h1, h2, h3, h4⟩ := sc_list hk n cs xs (by simpa using hc) (by simpa using hx) fun i hi => by simpa using h (i + 1) (by omega)
    refine ⟨z :: l, ?_, by simp [h2], fun y hy => ?_, by simp [hp, h4]⟩
    · rw [h1] ; simp only [cvs, ← hz]; rfl
    · rcases List.mem_cons.1 hy with rfl | hy
      · exact hw
      · exact h3 y hy

theorem slFs_open {m : GM} {g : TypeId → Option (List SL)} {fuel : Nat} (ih : ∀ t sl cs (x : DataW H × List MemPlace), g t = some sl → DataW.trod enc P w base spare held fuel t cs = some x → Opn m sl cs x.2) :
    ∀ (fs : List Field) (off : Nat) (sl : List SL) (n : Nat) (cs : List Value) (xs : List (DataW H × List MemPlace)), slFs P g off fs = some (sl, n) → cs.length = n → xs.length = fs.length →
      (∀ (i : Nat) f, fs[i]? = some f → DataW.trod enc P w base spare held fuel f.type ((cs.drop f.offset).take (P.cellsOf f.type)) = xs[i]?) → Opn m sl (cs.drop off) (xs.flatMap (·.2))
  | [], off, sl, n, cs, xs, hs, hn, hx, _ => by
    simp only [slFs, Option.some.injEq, Prod.mk.injEq] at hs
    obtain ⟨rfl, rfl⟩ := hs
    have := List.eq_nil_of_length_eq_zero hx
    subst this
    exact ⟨(), by simp [encL, OCells, hn], trivial, rfl⟩
  | f :: fs, off, sl, n, cs, xs, hs, hn, hx, h => by
    simp only [slFs] at hs
    split at hs
    · rename_i hoff
      split at hs
      · rename_i a b n' ha hb
        simp only [Option.some.injEq, Prod.mk.injEq] at hs
        obtain ⟨rfl, rfl⟩ := hs
        cases xs with
        | nil => simp at hx
        | cons x xs =>
          have h0 := h 0 f rfl
          rw [hoff] at h0
          obtain ⟨d1, o1, w1, p1⟩ := ih _ _ _ _ ha h0
          obtain ⟨d2, o2, w2, p2⟩ := slFs_open ih fs _ _ _ cs xs hb hn (by simpa using hx) fun i f' hf => by simpa using h (i + 1) f' (by simpa using hf)
          refine ⟨appD _ _ d1 d2, ?_, wfL_app _ _ _ _ w1 w2, by simp [p1, p2]⟩
          rw [encL_app]
          refine ocells_append.2 ⟨_, _, ?_, o1, o2⟩
          rw [← List.drop_drop, List.take_append_drop]
      · cases hs
    · cases hs

theorem slOf_open {m : GM} : ∀ (f : Nat) (t : TypeId) (sl : List SL) (fuel : Nat) (cs : List Value) (x : DataW H × List MemPlace), slOf P f t = some sl →
    DataW.trod enc P w base spare held fuel t cs = some x → Opn m sl cs x.2
  | 0, t, sl, fuel, cs, x, hs, h => by simp [slOf] at hs
  | f + 1, t, sl, fuel, cs, x, hs, h => by
    simp only [slOf] at hs
    split at hs
    · rename_i k ht
      cases hs
      obtain ⟨n, rfl, rfl, hw⟩ := DataW.trod_int ht h
      exact ⟨(n, ()), ⟨[_], [], rfl, ⟨_, rfl, rfl⟩, rfl⟩, ⟨hw, trivial⟩, rfl⟩
    · rename_i ht
      cases hs
      obtain ⟨b, rfl, rfl⟩ := DataW.trod_bool ht h
      exact ⟨(b, ()), ⟨[_], [], rfl, ⟨_, rfl, rfl⟩, rfl⟩, ⟨trivial, trivial⟩, rfl⟩
    · rename_i ht
      cases hs
      obtain ⟨s, rfl, rfl, hw⟩ := DataW.trod_string ht h
      exact ⟨(s, ()), ⟨[_], [], rfl, ⟨_, rfl, rfl⟩, rfl⟩, ⟨hw, trivial⟩, rfl⟩
    · rename_i n e ht
      split at hs
      · rename_i k hk
        split at hs
        · rename_i h1
          cases hs
          obtain ⟨xs, mm, rfl, rfl, hc, hl, hall⟩ := DataW.trod_array ht h
          have hcn : cs.length = n := hc.trans h1.2
          obtain ⟨l, q1, q2, q3, q4⟩ := sc_list hk n cs xs hcn hl fun i hi => by
            have := hall i hi
            rw [h1.1, Nat.mul_one] at this
            exact this
          exact ⟨(l, ()), ⟨cs, [], by simp, ⟨.inr q2, q1⟩, rfl⟩, ⟨⟨q2, q3⟩, trivial⟩, q4⟩
        · cases hs
      · cases hs
    · rename_i fs ht
      split at hs
      · rename_i l n hl
        split at hs
        · rename_i hn
          cases hs
          obtain ⟨xs, mm, rfl, rfl, hc, hx, hall⟩ := DataW.trod_struct ht h
          have := slFs_open (m := m) (fun t sl cs x hs h => slOf_open f t sl mm cs x hs h) fs.toList 0 _ _ cs xs hl (hc.trans hn.symm) (by simpa using hx) fun i f' hf => hall i f' (by simpa using hf)
          simpa using this
        · cases hs
      · cases hs
    · cases hs

/-- One argument without memory of its own, of several cells. -/
theorem arg_agg {m : GM} {r : Reach} {b0 : Nat} {t : TypeId} {v : Value} {d : DataW H} {ps : List MemPlace} {sl : List SL} (hs : slOf P 8 t = some sl) (hag : isAggT P t = true) (hv : Value.okWide P w r b0 t v)
    (h : DataW.Trod enc P w base spare held t v d ps) : ∃ y : denL sl, TVRel m (.agg (encL sl y)) v ∧ wfL sl y ∧ ps = [] := by
  obtain ⟨fuel, hf⟩ := h
  obtain ⟨y, h1, h2, h3⟩ := slOf_open (m := m) _ _ _ _ _ _ hs hf
  have : ∃ cs, v = .agg cs := by
    unfold isAggT at hag
    unfold Value.okWide at hv
    split at hag
    · rename_i fs ht
      rw [ht] at hv
      obtain ⟨cs, h, _⟩ := hv
      exact ⟨cs, h⟩
    · rename_i n e ht
      rw [ht] at hv
      obtain ⟨cs, h, _⟩ := hv
      exact ⟨cs, h⟩
    · cases hag
  obtain ⟨cs, rfl⟩ := this
  exact ⟨y, ⟨cs, rfl, h1⟩, h2, h3⟩

theorem arg_int {r : Reach} {b0 : Nat} {t : TypeId} {k : IntKind} {v : Value} {d : DataW H} {ps : List MemPlace} (ht : P.underlying t = some (.int k)) (hv : Value.okWide P w r b0 t v)
    (h : DataW.Trod enc P w base spare held t v d ps) : ∃ n, v = .int k n ∧ (Lit.int k n).wf = true ∧ ps = [] := by
  obtain ⟨n, rfl⟩ := Go.WideShapes.okWide_int ht hv
  obtain ⟨fuel, hf⟩ := h
  obtain ⟨n', h1, h2, h3⟩ := DataW.trod_int ht hf
  simp [Value.cells] at h1
  subst h1
  exact ⟨n, rfl, h3, congrArg (·.2) h2⟩

theorem arg_bool {r : Reach} {b0 : Nat} {t : TypeId} {v : Value} {d : DataW H} {ps : List MemPlace} (ht : P.underlying t = some .bool) (hv : Value.okWide P w r b0 t v)
    (h : DataW.Trod enc P w base spare held t v d ps) : ∃ b, v = .bool b ∧ ps = [] := by
  obtain ⟨b, rfl⟩ := Go.WideShapes.okWide_bool ht hv
  obtain ⟨fuel, hf⟩ := h
  obtain ⟨b', h1, h2⟩ := DataW.trod_bool ht hf
  exact ⟨b, rfl, congrArg (·.2) h2⟩

theorem arg_str {r : Reach} {b0 : Nat} {t : TypeId} {v : Value} {d : DataW H} {ps : List MemPlace} (ht : P.underlying t = some .string) (hv : Value.okWide P w r b0 t v)
    (h : DataW.Trod enc P w base spare held t v d ps) : ∃ s, v = .string s ∧ s.size ≤ maxLen ∧ ps = [] := by
  obtain ⟨s, rfl⟩ := Go.WideShapes.okWide_string ht hv
  obtain ⟨fuel, hf⟩ := h
  obtain ⟨s', h1, h2, h3⟩ := DataW.trod_string ht hf
  simp [Value.cells] at h1
  subst h1
  exact ⟨s, rfl, h3, congrArg (·.2) h2⟩

theorem trodAll_below (hl : laidOutB P = true) {W W' : World} (hb : Below W.heap.size W W') : ∀ {ts : List TypeId} {vs : List Value} {ds : List (DataW H)} {ps : List MemPlace},
    (∀ t ∈ ts, P.readableRec t = true ∧ t < P.types.size) → DataW.TrodAll enc P W 0 (fun _ => true) true ts vs ds ps → (∀ x ∈ ps, x.block < W.heap.size) →
    DataW.TrodAll enc P W' 0 (fun b => decide (b < W.heap.size)) true ts vs ds ps
  | [], [], [], ps, _, h, _ => h
  | t :: ts, v :: vs, d :: ds, ps, hr, ⟨p, q, h1, h2, h3⟩, hlt => by
    subst h3
    exact ⟨p, q, Go.RowKit.Below.trod hl (hr t (by simp)).1 (hr t (by simp)).2 h1 hb (fun x hx => hlt x (by simp [hx])), trodAll_below hl hb (fun t ht => hr t (by simp [ht])) h2 (fun x hx => hlt x (by simp [hx])), rfl⟩
  | [], _ :: _, _, _, _, h, _ => h.elim
  | [], [], _ :: _, _, _, h, _ => h.elim
  | _ :: _, [], _, _, _, h, _ => h.elim
  | _ :: _, _ :: _, [], _, _, h, _ => h.elim

theorem Ext.below {w w' : World} (h : Ext w w') : Below w.heap.size w w' := ⟨h.str.1, h.str.2.1, h.str.2.2, h.size, fun k hk => h.block k hk⟩

/-- No objects. -/
theorem inv_nil (w : World) (O : Nat → Prop) : Inv ⟨w, O⟩ [] [] w :=
  ⟨rfl, fun id ob g h => by simp [hget] at h, fun id ob g b h => by simp [hget] at h, fun i j oi oj gi gj b c _ h => by simp [hget] at h, Str.refl w, Nat.le_refl _, fun _ _ _ => rfl⟩

end
end Go.Proofs.Ytlokielmpdjedaa.Ev
end

section
/- A row's arguments, opened as typed values: slices, which are lent for reading. -/
namespace Go.Proofs.Ytlokielmpdjedaa.Ev
open Go Go.RowKit
set_option linter.unusedVariables false

theorem pick_list {α : Type} {n : Nat} {R : Nat → α → Prop} (h : ∀ i, i < n → ∃ z, R i z) : ∃ l : List α, l.length = n ∧ ∀ i z, l[i]? = some z → R i z := by
  induction n with
  | zero => exact ⟨[], rfl, fun i z h => by simp at h⟩
  | succ n ih =>
    obtain ⟨l, h1, h2⟩ := ih fun i hi => h i (by omega)
    obtain ⟨z, hz⟩ := h n (by omega)
    refine ⟨l ++ [z], by simp [h1], fun i y hy => ?_⟩
    by_cases hi : i < n
    · rw [List.getElem?_append_left (by omega)] at hy; exact h2 i y hy
    · rw [List.getElem?_append_right (by omega)] at hy
      have : i = n := by
        have := (List.getElem?_eq_some_iff.1 hy).1
        simp at this; omega
      subst this
      rw [h1, Nat.sub_self] at hy
      cases hy; exact hz

theorem addr_add2 (a : Addr) (x y : Nat) : (a.add x).add y = a.add (x + y) := by
  unfold Addr.add
  by_cases hx : x = 0
  · subst hx; simp
  · by_cases hy : y = 0
    · subst hy; simp
    · simp [hx, hy, Nat.add_assoc]
theorem addr_add {a : Addr} (h : a.spot = none) (q : Nat) : a.add q = ⟨a.block, a.off + q, none⟩ := by
  cases a; simp only at h; subst h
  unfold Addr.add
  split
  · rename_i h; subst h; simp
  · simp

/-- What is known of an object that an argument shows. -/
structure Shown (w : World) (k : EK) (l : List k.den) (g : Gh) (v : Value) : Prop where
  len : l.length ≤ maxLen
  wf : ∀ x ∈ l, wfE k x
  obj : ∀ m, ObRel m g w ⟨true, [.seq k 0 l]⟩
  blk : ∀ b, g.addr = some b → b.1 < w.heap.size
  rel : ∀ (m : GM) id, m[id]? = some g → LRel m (.full id) v

theorem ghOf_ln (b : Option (Nat × Nat)) (sz : Nat) (k : EK) (l : List k.den) : (ghOf b sz [.seq k 0 l]).ln 0 = l.length ∧ (ghOf b sz [.seq k 0 l]).ew 0 = k.w := by
  obtain ⟨h1, h2⟩ := ghOf_seq b sz [.seq k 0 l] 0 k 0 l [] (drop0 _)
  exact ⟨h1.symm, h2.symm⟩

theorem shown_none (w : World) (k : EK) {a : Option Addr} : Shown w k [] (ghOf none 0 [.seq k 0 []]) (.slice a 0 0) := by
  refine ⟨Nat.zero_le _, fun x hx => (by cases hx), fun m => ⟨ghOf_seq _ _ _, [], ⟨[], [], rfl, ⟨.inl rfl, rfl⟩, rfl⟩, .inl ⟨rfl, rfl⟩⟩, fun b hb => (by cases hb), fun m id hid => ?_⟩
  exact ⟨_, hid, _, a, 0, hid, by rw [(ghOf_ln none 0 k []).1]; rfl, by rw [(ghOf_ln none 0 k []).1]; simp, fun c h => (by cases h), by rw [(ghOf_ln none 0 k []).1]; simp, .inl rfl⟩

section
variable {P : Program} {H : Type} {enc : TypeId × Value → H} {w : World} {held : Bool}

theorem open_slice {e t : TypeId} {sl : List SL} {k : EK} (conv : denL sl → k.den) (ht : P.underlying t = some (.slice e)) (hs : slOf P 8 e = some sl) (hc : P.cellsOf e = k.w) (hconv : ∀ y, k.of1 (encL sl y) = some (conv y))
    (hwf : ∀ y, wfL sl y → wfE k (conv y)) {r : Reach} {b0 : Nat} {v : Value} {d : DataW H} {ps : List MemPlace} (hv : Value.okWide P w r b0 t v) (h : DataW.Trod enc P w 0 (fun _ => true) held t v d ps) :
    ∃ (l : List k.den) (g : Gh), Shown w k l g v := by
  obtain ⟨a0, n0, c0, rfl⟩ := Go.WideShapes.okWide_slice ht hv
  obtain ⟨fuel, hf⟩ := h
  have hcells : (Value.slice a0 n0 c0).cells.toList = [.slice a0 n0 c0] := rfl
  rw [hcells] at hf
  rcases DataW.trod_slice ht hf with ⟨h1, _⟩ | ⟨a, len, cap, elems, rest, n, _, h1, hx, hb, hle, hmax, hlen, hel, hsp, _⟩
  · cases h1
    exact ⟨[], _, shown_none w k⟩
  · simp only [List.cons.injEq, Value.slice.injEq, and_true] at h1
    obtain ⟨rfl, rfl, rfl⟩ := h1
    obtain ⟨hrl, hr⟩ := hsp rfl
    by_cases hcap : c0 = 0
    · subst hcap
      have : n0 = 0 := by omega
      subst this
      exact ⟨[], _, shown_none w k⟩
    have each : ∀ i, i < c0 → ∃ z : k.den, wfE k z ∧ ∀ j, j < k.w → w.cell? (a.add (i * k.w + j)) = (k.cv z)[j]? := by
      intro i hi
      obtain ⟨y, hy⟩ : ∃ y, (w.cells? 0 (a.add (i * P.cellsOf e)) (P.cellsOf e)).bind (DataW.trod enc P w 0 (fun _ => true) held n e) = some y := by
        by_cases hil : i < n0
        · exact ⟨_, (hel i hil).trans (List.getElem?_eq_getElem (by omega))⟩
        · have h2 := hr (i - n0) (by omega)
          rw [show n0 + (i - n0) = i by omega] at h2
          exact ⟨_, h2.trans (List.getElem?_eq_getElem (by omega))⟩
      rw [hc, Option.bind_eq_some_iff] at hy
      obtain ⟨cs, hcs, hy⟩ := hy
      obtain ⟨d', o1, o2, _⟩ := slOf_open (m := []) 8 e sl n cs _ hs hy
      have hcv := of1_cells k (hconv d') o1
      obtain ⟨_, _, hget⟩ := World.cells?_some hcs
      refine ⟨conv d', hwf d' o2, fun j hj => ?_⟩
      have := hget j hj
      rw [hcv] at this
      rw [← this]
      have e9 : (a.add (i * k.w)).add j = a.add (i * k.w + j) := addr_add2 a _ _
      first | rw [e9] | rw [hc, e9]
    obtain ⟨l, hl1, hl2⟩ := pick_list (n := n0) (R := fun i z => wfE k z ∧ ∀ j, j < k.w → w.cell? (a.add (i * k.w + j)) = (k.cv z)[j]?) fun i hi => each i (by omega)
    have hwp := EK.w_pos k
    have cellOf : ∀ q, q < c0 * k.w → ∃ u, w.cell? (a.add q) = some u := by
      intro q hq
      have hdiv : q / k.w < c0 := Nat.div_lt_of_lt_mul (by rw [Nat.mul_comm]; exact hq)
      obtain ⟨z, _, hz⟩ := each (q / k.w) hdiv
      have h3 := hz (q % k.w) (Nat.mod_lt _ hwp)
      rw [Nat.mul_comm, Nat.div_add_mod] at h3
      have : q % k.w < (k.cv z).length := by rw [cv_length]; exact Nat.mod_lt _ hwp
      rw [List.getElem?_eq_getElem this] at h3
      exact ⟨_, h3⟩
    have hpos : 0 < c0 * k.w := Nat.mul_pos (by omega) hwp
    obtain ⟨blk, ty, fr, hblk, hspot, hget⟩ : ∃ blk ty fr, w.heap[a.block]? = some (.cells blk ty fr) ∧ a.spot = none ∧ ∀ q, w.cell? (a.add q) = blk[a.off + q]? := by
      obtain ⟨u, hu⟩ := cellOf 0 hpos
      rw [show a.add 0 = a by simp [Addr.add]] at hu
      unfold World.cell? at hu
      split at hu
      · rename_i c ty fr hh
        have hh' : w.heap[a.block]? = some (.cells c ty fr) := hh
        split at hu
        · cases hu
        · rename_i hsn
          have hsn' : a.spot = none := by
            cases hq : a.spot with
            | none => rfl
            | some _ => exact absurd (by simp [hq]) hsn
          refine ⟨c, ty, fr, hh', hsn', fun q => ?_⟩
          rw [addr_add hsn' q]
          unfold World.cell?
          simp only [hh']
          rfl
      · cases hu
    have hsize : a.off + c0 * k.w ≤ blk.size := by
      obtain ⟨u, hu⟩ := cellOf (c0 * k.w - 1) (by omega)
      rw [hget] at hu
      have := (Array.getElem?_eq_some_iff.1 hu).1
      omega
    obtain ⟨g1, g2⟩ := ghOf_ln (some (a.block, a.off)) blk.size k l
    have haddr : a = at_ (a.block, a.off) 0 := by
      cases a; simp only at hspot; subst hspot; simp [at_]
    have hcl : (cvs k l).length = n0 * k.w := by rw [cvs_length, hl1]
    have hmul : n0 * k.w ≤ c0 * k.w := Nat.mul_le_mul_right _ hle
    refine ⟨l, ghOf (some (a.block, a.off)) blk.size [.seq k 0 l], by omega, fun x hx => ?_, fun m => ⟨ghOf_seq _ _ _, cvs k l, ⟨cvs k l, [], (List.append_nil _).symm, ⟨.inl rfl, rfl⟩, rfl⟩, .inr ⟨(a.block, a.off), blk, ty, fr, rfl, hblk, rfl, ?_, fun j hj => ?_, fun h0 => by cases h0⟩⟩, fun b hb => ?_, fun m id hid => ?_⟩
    · obtain ⟨i, hi⟩ := List.getElem?_of_mem hx
      exact (hl2 i x hi).1
    · rw [hcl]; simp only [ghOf]; omega
    · rw [hcl] at hj
      have hdiv : j / k.w < n0 := Nat.div_lt_of_lt_mul (by rw [Nat.mul_comm]; exact hj)
      have hmod := Nat.mod_lt j hwp
      have h4 := (hl2 (j / k.w) (l.getD (j / k.w) k.zero) (by rw [List.getD_eq_getElem?_getD, List.getElem?_eq_getElem (by omega)]; rfl)).2 (j % k.w) hmod
      have h5 := cvs_getD k l (j / k.w) (by omega) (j % k.w) hmod
      rw [Nat.mul_comm, Nat.div_add_mod] at h4 h5
      rw [hget] at h4
      rw [h5]; exact h4
    · cases hb; exact (Array.getElem?_eq_some_iff.1 hblk).1
    · refine ⟨_, hid, _, some a, c0, hid, by rw [g1, hl1], by rw [g1]; omega, fun c h => (by cases h), by rw [g1]; simp, .inr ⟨(a.block, a.off), rfl, ?_, ?_⟩⟩
      · simp only [Nat.zero_mul, Nat.add_zero]; rw [← haddr]
      · rw [g2]; simp only [ghOf, Nat.zero_add, Nat.add_zero]; omega

/-- Arguments that are lent. -/
theorem inv_shown {m : GM} {h : Heap} (hl : m.length = h.length) (hq : ∀ (i : Nat) ob g, hget h i = some ob → m[i]? = some g → ob.ro = true ∧ ObRel m g w ob ∧ ∀ b, g.addr = some b → b.1 < w.heap.size) :
    Inv ⟨w, fun _ => False⟩ m h w :=
  ⟨hl, fun id ob g h1 h2 => (hq id ob g h1 h2).2.1, fun id ob g b h1 h2 h3 => by rw [(hq id ob g h1 h2).1]; exact ⟨fun h => h, (hq id ob g h1 h2).2.2 b h3⟩,
   fun i j oi oj gi gj b c _ h1 h2 h3 _ h5 h6 => (by rw [(hq i oi gi h1 h5).1] at h3; cases h3), Str.refl w, Nat.le_refl _, fun _ _ _ => rfl⟩

theorem inv_cons {m : GM} {h : Heap} {k : EK} {l : List k.den} {g : Gh} {v : Value} (hi : Inv ⟨w, fun _ => False⟩ m h w) (hro : ∀ (i : Nat) ob, hget h i = some ob → ob.ro = true) (hs : Shown w k l g v) :
    Inv ⟨w, fun _ => False⟩ (m ++ [g]) (h ++ [some ⟨true, [.seq k 0 l]⟩]) w ∧ (∀ (i : Nat) ob, hget (h ++ [some ⟨true, [.seq k 0 l]⟩]) i = some ob → ob.ro = true) ∧ LRel (m ++ [g]) (.full h.length) v := by
  have hro' : ∀ (i : Nat) ob, hget (h ++ [some ⟨true, [.seq k 0 l]⟩]) i = some ob → ob.ro = true := by
    intro i ob h1
    rcases hget_app h1 with ⟨_, h2⟩ | ⟨_, h2⟩
    · exact hro i ob h2
    · cases h2; rfl
  refine ⟨inv_shown (by simp [hi.len]) fun i ob g' h1 h2 => ⟨hro' i ob h1, ?_⟩, hro', ?_⟩
  · rcases hget_app h1 with ⟨hlt, h3⟩ | ⟨rfl, h3⟩
    · have h4 := gm_app_old (by rw [hi.len]; exact hlt) h2
      obtain ⟨o1, cs, o2, o3⟩ := hi.obs i ob g' h3 h4
      exact ⟨⟨o1, cs, o2.mono (pre_append _ _), o3⟩, fun b hb => hi.block_lt h3 h4 hb⟩
    · cases h3
      have : (m ++ [g])[h.length]? = some g := by rw [← hi.len]; exact gm_app_new
      rw [this] at h2; cases h2
      exact ⟨hs.obj _, hs.blk⟩
  · exact hs.rel _ _ (by rw [← hi.len]; exact gm_app_new)

end
end Go.Proofs.Ytlokielmpdjedaa.Ev
end

section
/- Numbers of a fixed width: what wrapping and the bits' operations come to where nothing is lost. -/
namespace Go.Proofs.Ytlokielmpdjedaa.X
open Go Go.Proofs.Ytlokielmpdjedaa.Ev
set_option linter.unusedVariables false

theorem w64 {x : Int} (h : -9223372036854775808 ≤ x) (h' : x ≤ 9223372036854775807) : IntKind.i64.wrap x = x := by
  simp only [IntKind.wrap, IntKind.bits, IntKind.signed, Bool.true_and]
  split <;> (rename_i hq; simp at hq; omega)

theorem wu64 {x : Int} (h : 0 ≤ x) (h' : x < 18446744073709551616) : IntKind.u64.wrap x = x := by
  simp only [IntKind.wrap, IntKind.bits, IntKind.signed, Bool.false_and]
  simp; omega

theorem wu32 {x : Int} (h : 0 ≤ x) (h' : x < 4294967296) : IntKind.u32.wrap x = x := by
  simp only [IntKind.wrap, IntKind.bits, IntKind.signed, Bool.false_and]
  simp; omega

theorem wu8 {x : Int} (h : 0 ≤ x) (h' : x < 256) : IntKind.u8.wrap x = x := by
  simp only [IntKind.wrap, IntKind.bits, IntKind.signed, Bool.false_and]
  simp; omega

theorem wu64m (x : Int) : IntKind.u64.wrap x = x % 18446744073709551616 := by
  simp only [IntKind.wrap, IntKind.bits, IntKind.signed, Bool.false_and]
  simp
theorem wu32m (x : Int) : IntKind.u32.wrap x = x % 4294967296 := by
  simp only [IntKind.wrap, IntKind.bits, IntKind.signed, Bool.false_and]
  simp
theorem wu8m (x : Int) : IntKind.u8.wrap x = x % 256 := by
  simp only [IntKind.wrap, IntKind.bits, IntKind.signed, Bool.false_and]
  simp

theorem i64_of_wf {n : Int} (h : (Lit.int .i64 n).wf = true) : -9223372036854775808 ≤ n ∧ n ≤ 9223372036854775807 := by
  simp [Lit.wf, IntKind.min, IntKind.max, IntKind.bits, IntKind.signed] at h; omega
theorem u64_of_wf {n : Int} (h : (Lit.int .u64 n).wf = true) : 0 ≤ n ∧ n < 18446744073709551616 := by
  simp [Lit.wf, IntKind.min, IntKind.max, IntKind.bits, IntKind.signed] at h; omega
theorem u8_of_wf {n : Int} (h : (Lit.int .u8 n).wf = true) : 0 ≤ n ∧ n < 256 := by
  simp [Lit.wf, IntKind.min, IntKind.max, IntKind.bits, IntKind.signed] at h; omega
theorem u32_of_wf {n : Int} (h : (Lit.int .u32 n).wf = true) : 0 ≤ n ∧ n < 4294967296 := by
  simp [Lit.wf, IntKind.min, IntKind.max, IntKind.bits, IntKind.signed] at h; omega

theorem or64 {A B : Nat} (hA : A < 2 ^ 64) (hB : B < 2 ^ 64) : ior .u64 (A : Int) (B : Int) = ((A ||| B : Nat) : Int) := by
  have h : (BitVec.ofInt 64 (A : Int) ||| BitVec.ofInt 64 (B : Int)).toNat = A ||| B := by
    simp [BitVec.toNat_or, BitVec.ofInt_natCast, BitVec.toNat_ofNat, Nat.mod_eq_of_lt hA, Nat.mod_eq_of_lt hB]
  have hl := Nat.or_lt_two_pow hA hB
  show IntKind.u64.wrap ((BitVec.ofInt 64 (A : Int) ||| BitVec.ofInt 64 (B : Int)).toNat : Int) = _
  rw [h, wu64 (by omega) (by omega)]
theorem and64 {A B : Nat} (hA : A < 2 ^ 64) (hB : B < 2 ^ 64) : iand .u64 (A : Int) (B : Int) = ((A &&& B : Nat) : Int) := by
  have h : (BitVec.ofInt 64 (A : Int) &&& BitVec.ofInt 64 (B : Int)).toNat = A &&& B := by
    simp [BitVec.toNat_and, BitVec.ofInt_natCast, BitVec.toNat_ofNat, Nat.mod_eq_of_lt hA, Nat.mod_eq_of_lt hB]
  have hl : A &&& B < 2 ^ 64 := Nat.and_lt_two_pow A hB
  show IntKind.u64.wrap ((BitVec.ofInt 64 (A : Int) &&& BitVec.ofInt 64 (B : Int)).toNat : Int) = _
  rw [h, wu64 (by omega) (by omega)]
theorem shl64 {i : Nat} (hi : i < 64) : ishl .u64 1 (i : Int) = ((2 ^ i : Nat) : Int) := by
  have h2 : (2 : Nat) ^ i < 2 ^ 64 := Nat.pow_lt_pow_right (by omega) hi
  have : (1 : Int) * 2 ^ (min i 64) = ((2 ^ i : Nat) : Int) := by
    rw [Nat.min_eq_left (by omega), Int.one_mul]; push_cast; rfl
  simp only [ishl, IntKind.bits, Int.toNat_natCast]
  rw [this, wu64 (Int.natCast_nonneg _) (Int.ofNat_lt.2 h2)]
theorem shr64 {A i : Nat} (hi : i < 64) : ishr .u64 (A : Int) (i : Int) = ((A >>> i : Nat) : Int) := by
  have : ((2 : Int) ^ i) = ((2 ^ i : Nat) : Int) := by push_cast; rfl
  simp only [ishr, IntKind.bits, Int.toNat_natCast]
  rw [Nat.min_eq_left (by omega), Int.fdiv_eq_ediv_of_nonneg _ (by rw [this]; exact Int.natCast_nonneg _), this, Nat.shiftRight_eq_div_pow]
  push_cast; rfl

/-- The number with given bits, below n. -/
def mk (f : Nat → Bool) : Nat → Nat
  | 0 => 0
  | n + 1 => if f n then mk f n ||| 2 ^ n else mk f n

theorem mk_lt (f : Nat → Bool) : ∀ n, mk f n < 2 ^ n
  | 0 => by simp [mk]
  | n + 1 => by
    have := mk_lt f n
    have h2 : (2 : Nat) ^ n < 2 ^ (n + 1) := Nat.pow_lt_pow_right (by omega) (by omega)
    simp only [mk]
    split
    · exact Nat.or_lt_two_pow (by omega) h2
    · omega

theorem mk_bit (f : Nat → Bool) : ∀ n j, (mk f n).testBit j = (decide (j < n) && f j)
  | 0, j => by simp [mk]
  | n + 1, j => by
    simp only [mk]
    split
    · rename_i h
      rw [Nat.testBit_or, mk_bit f n, Nat.testBit_two_pow]
      by_cases hj : j = n
      · subst hj; simp [h]
      · have h1 : decide (j < n) = decide (j < n + 1) := decide_eq_decide.2 (by omega)
        simp [Ne.symm hj, h1]
    · rename_i h
      rw [mk_bit f n]
      by_cases hj : j = n
      · subst hj; simp at h; simp [h]
      · have h1 : decide (j < n) = decide (j < n + 1) := decide_eq_decide.2 (by omega)
        rw [h1]

theorem mk_eq {A n : Nat} {f : Nat → Bool} (hA : A < 2 ^ n) (h : ∀ j, j < n → f j = A.testBit j) : mk f n = A := by
  apply Nat.eq_of_testBit_eq
  intro j
  rw [mk_bit]
  by_cases hj : j < n
  · simp [hj, h j hj]
  · simp [hj]
    exact Nat.testBit_lt_two_pow (Nat.lt_of_lt_of_le hA (Nat.pow_le_pow_right (by omega) (by omega)))

theorem bit_test {A i : Nat} : ((A >>> i &&& 1 : Nat) == 1) = A.testBit i := by
  simp [Nat.testBit, Nat.and_comm]

theorem natbeq {a b : Nat} : (((a : Int) == ((b : Nat) : Int)) : Bool) = (a == b) := by
  rw [Bool.eq_iff_iff]; simp; omega

theorem tdiv_nn {a b : Nat} : ((a : Int).tdiv (b : Int)) = ((a / b : Nat) : Int) := by
  rw [Int.tdiv_eq_ediv_of_nonneg (by omega)]; rfl
theorem tmod_nn {a b : Nat} : ((a : Int).tmod (b : Int)) = ((a % b : Nat) : Int) := by
  rw [Int.tmod_eq_emod_of_nonneg (by omega)]; rfl

theorem lbeq_refl (k : EK) (hr : ∀ x : k.den, k.beq x x = true) : ∀ l : List k.den, lbeq k l l = true
  | [] => rfl
  | x :: r => by simp [lbeq, hr x, lbeq_refl k hr r]
theorem lbeq_int (k : IntKind) (l : List Int) : lbeq (.int k) l l = true := lbeq_refl (.int k) (fun x => by simp [EK.beq]) l
theorem lbeq_int_iff (k : IntKind) : ∀ (l r : List Int), lbeq (.int k) l r = true ↔ l = r
  | [], [] => by simp [lbeq]
  | [], _ :: _ => by simp [lbeq]
  | _ :: _, [] => by simp [lbeq]
  | x :: l, y :: r => by simp [lbeq, EK.beq, lbeq_int_iff k l r]

theorem ct {α : Sort _} {p : Prop} [Decidable p] {a b : α} (h : p) : cond (decide p) a b = a := by simp [h]
theorem cf {α : Sort _} {p : Prop} [Decidable p] {a b : α} (h : ¬ p) : cond (decide p) a b = b := by simp [h]

end Go.Proofs.Ytlokielmpdjedaa.X
end

section
namespace Go.Proofs.Ytlokielmpdjedaa.X
open Go Go.Proofs.Ytlokielmpdjedaa.Ev Go.Proofs
set_option linter.unusedVariables false
/-! pentimentoref07.Right -/
noncomputable def f47_1 {β : Type} (F : Nat) (a1 : Int) (a2 : Int) (a3 : Int) (a4 : Int) (K0 : Bool → Option β) : Option β := cond (decide (a1 ≥ 1)) (cond (decide (a1 ≤ 128)) (cond (decide (a2 ≥ 2)) (cond (decide (a2 ≤ 4)) (cond (decide (a3 ≥ 0)) (cond (decide (a3 ≤ 64)) (cond (decide (a4 ≥ 1)) (K0 (decide (a4 ≤ 320))) (K0 false)) (K0 false)) (K0 false)) (K0 false)) (K0 false)) (K0 false)) (K0 false)
def sh47_1 : Sh := ⟨[.agg [.int .i64, .int .i64, .int .i64, .int .i64]], []⟩
noncomputable def S47_1 (F : Nat) (o : Summ) : Summ := mkS sh47_1 (fun d K => f47_1 F d.1.1.1 d.1.1.2.1 d.1.1.2.2.1 d.1.1.2.2.2.1 (fun (y0 : Bool) => K [.lf (.bool y0)] [])) o
noncomputable def code47 : Code := bodyOf Try.f47
theorem scopes47 : scopesOf code47 = [] := by kernel_rfl
theorem loops47 : loopsOf code47 = [] := by kernel_rfl
theorem enter47 : ∀ args w, (callFunc 47 args).run Try.prog w = .ok (.enter 47 args) w := enter_of (fn := Try.f47) (by kernel_rfl) (by kernel_rfl) (by kernel_rfl)
noncomputable def T47_1 (F : Nat) : FuncId → Option Summ := tab []
noncomputable def LT47_1 (F : Nat) : Nat → Option LoopS := ltab []
theorem E47_1g (F : Nat)    (d : sh47_1.den) (K : KF) : evBody Try.prog (tab []) 41 0 (ltab []) code47 Try.f47.results.toList (encT sh47_1.vs d.1) (encH sh47_1.h d.2) K = (fun (a1 : Int) (a2 : Int) (a3 : Int) (a4 : Int) (K0 : (Bool → Option Res)) => cond (decide (a1 ≥ 1)) (cond (decide (a1 ≤ 128)) (cond (decide (a2 ≥ 2)) (cond (decide (a2 ≤ 4)) (cond (decide (a3 ≥ 0)) (cond (decide (a3 ≤ 64)) (cond (decide (a4 ≥ 1)) (K0 (decide (a4 ≤ 320))) (K0 false)) (K0 false)) (K0 false)) (K0 false)) (K0 false)) (K0 false)) (K0 false)) d.1.1.1 d.1.1.2.1 d.1.1.2.2.1 d.1.1.2.2.2.1 (fun (y0 : Bool) => K [.lf (.bool y0)] []) := by kernel_rfl
theorem E47_1 (F : Nat) (d : sh47_1.den) (K : KF) : evBody Try.prog (T47_1 F) 41 0 (LT47_1 F) code47 Try.f47.results.toList (encT sh47_1.vs d.1) (encH sh47_1.h d.2) K = f47_1 F d.1.1.1 d.1.1.2.1 d.1.1.2.2.1 d.1.1.2.2.2.1 (fun (y0 : Bool) => K [.lf (.bool y0)] []) := Eq.mp (by kernel_rfl) (E47_1g F    d K)
theorem S47_1_ok (F : Nat) (o : Summ) (ho : SoundFn Try.prog 47 o) : SoundFn Try.prog 47 (S47_1 F o) :=
  soundFn_of (fn := Try.f47) (c := code47) (by kernel_rfl) tab_nil (by kernel_rfl) (by kernel_rfl) ho (by rw [loops47]; exact loopsOK_nil) (by rw [scopes47]; exact scopesOK_nil) (E47_1 F)
end Go.Proofs.Ytlokielmpdjedaa.X
end

section
namespace Go.Proofs.Ytlokielmpdjedaa.X
open Go Go.Proofs.Ytlokielmpdjedaa.Ev Go.Proofs
set_option linter.unusedVariables false
/-! pentimentoref07.Levels -/
noncomputable def f49_1_l5 {β : Type} (F : Nat) (v3 : Int) (v4 : Int) (v5 : Int) (v6 : Int) (K0 : List Int → Option β) : Nat → Int → List Int → Option β
  | 0, _, _ => none
  | k + 1, v2, v7 => cond (decide (v2 > 1)) (cond (decide (v4 = 0)) none (cond (decide ((v7.length + 1) * 8 ≤ 70368744177664)) (f49_1_l5 F v3 v4 v5 v6 K0 k (IntKind.i64.wrap ((IntKind.i64.wrap ((IntKind.i64.wrap (v2 + v4)) - 1)).tdiv v4)) (v7 ++ [IntKind.i64.wrap ((IntKind.i64.wrap ((IntKind.i64.wrap (v2 + v4)) - 1)).tdiv v4)])) none)) (K0 v7)
noncomputable def f49_1 {β : Type} (F : Nat) (a1 : Int) (a2 : Int) (a3 : Int) (a4 : Int) (K0 : List Int → Option β) : Option β := f47_1 F a1 a2 a3 a4 (fun x1 => cond (!x1) (K0 []) (f49_1_l5 F a1 a2 a3 a4 (fun x8 => K0 x8) F a1 [a1])) 
def sh49_1 : Sh := ⟨[.agg [.int .i64, .int .i64, .int .i64, .int .i64]], []⟩
noncomputable def S49_1 (F : Nat) (o : Summ) : Summ := mkS sh49_1 (fun d K => f49_1 F d.1.1.1 d.1.1.2.1 d.1.1.2.2.1 d.1.1.2.2.2.1 (fun (y0 : List Int) => K [.lf (.full 0)] [some ⟨false, [.seq (.int .i64) 0 y0]⟩])) o
noncomputable def code49 : Code := bodyOf Try.f49
noncomputable def b49_0 : Code := cB (cB (cR (cL (cR (cR (cR (code49)))))))
theorem scopes49 : scopesOf code49 = [] := by kernel_rfl
theorem loops49 : loopsOf code49 = [b49_0] := by kernel_rfl
theorem enter49 : ∀ args w, (callFunc 49 args).run Try.prog w = .ok (.enter 49 args) w := enter_of (fn := Try.f49) (by kernel_rfl) (by kernel_rfl) (by kernel_rfl)
noncomputable def T49_1 (F : Nat) : FuncId → Option Summ := tab [(47, (S47_1 F noS))]
def sh49_1_l5 : Sh := ⟨[.lf (.ptr 0 0), .lf (.full 1), .lf (.int .i64)], [some ⟨some false, [.int .i64, .int .i64, .int .i64, .int .i64]⟩, some ⟨some false, [.seq (.int .i64) 0]⟩]⟩
noncomputable def G49_1_5 (F k : Nat) : LoopS := mkG sh49_1_l5 [1, 3, 4] (outT [(.exit 0, [3])]) (fun d K => f49_1_l5 F d.2.1.2.1 d.2.1.2.2.1 d.2.1.2.2.2.1 d.2.1.2.2.2.2.1 (fun (y4 : List Int) => K (.exit 0) [.tv (.lf (.full 1))] [some ⟨false, [.int .i64 d.2.1.2.1, .int .i64 d.2.1.2.2.1, .int .i64 d.2.1.2.2.2.1, .int .i64 d.2.1.2.2.2.2.1]⟩, some ⟨false, [.seq (.int .i64) 0 y4]⟩]) k d.1.2.2.1 d.2.2.1.2.1)
noncomputable def LT49_1 (F : Nat) : Nat → Option LoopS := ltab [(5, G49_1_5 F F)]
theorem L49_1_5g (F k : Nat) (c47_1 : Int → Int → Int → Int → (Bool → Option Res) → Option Res)  (l5 : Int → Int → Int → Int → (List Int → Option Res) → Nat → Int → List Int → Option Res) (X5 : LoopS) (d : sh49_1_l5.den) (K : KL) : (fun (v3 : Int) (v4 : Int) (v5 : Int) (v6 : Int) (K0 : (List Int → Option Res)) (k : Nat) (v2 : Int) (v7 : List Int) => cond (decide (v2 > 1)) (cond (decide (v4 = 0)) none (cond (decide ((v7.length + 1) * 8 ≤ 70368744177664)) (l5 v3 v4 v5 v6 K0 k (IntKind.i64.wrap ((IntKind.i64.wrap ((IntKind.i64.wrap (v2 + v4)) - 1)).tdiv v4)) (v7 ++ [IntKind.i64.wrap ((IntKind.i64.wrap ((IntKind.i64.wrap (v2 + v4)) - 1)).tdiv v4)])) none)) (K0 v7)) d.2.1.2.1 d.2.1.2.2.1 d.2.1.2.2.2.1 d.2.1.2.2.2.2.1 (fun (y4 : List Int) => K (.exit 0) [.tv (.lf (.full 1))] [some ⟨false, [.int .i64 d.2.1.2.1, .int .i64 d.2.1.2.2.1, .int .i64 d.2.1.2.2.2.1, .int .i64 d.2.1.2.2.2.2.1]⟩, some ⟨false, [.seq (.int .i64) 0 y4]⟩]) k d.1.2.2.1 d.2.2.1.2.1 = roundOf Try.prog (tab [(47, (mkS sh47_1 (fun d K => c47_1 d.1.1.1 d.1.1.2.1 d.1.1.2.2.1 d.1.1.2.2.2.1 (fun (y0 : Bool) => K [.lf (.bool y0)] [])) noS))]) 28 0 (ltab [(5, X5)]) (mkG sh49_1_l5 [1, 3, 4] (outT [(.exit 0, [3])]) (fun d K => l5 d.2.1.2.1 d.2.1.2.2.1 d.2.1.2.2.2.1 d.2.1.2.2.2.2.1 (fun (y4 : List Int) => K (.exit 0) [.tv (.lf (.full 1))] [some ⟨false, [.int .i64 d.2.1.2.1, .int .i64 d.2.1.2.2.1, .int .i64 d.2.1.2.2.2.1, .int .i64 d.2.1.2.2.2.2.1]⟩, some ⟨false, [.seq (.int .i64) 0 y4]⟩]) k d.1.2.2.1 d.2.2.1.2.1)) b49_0 (encT sh49_1_l5.vs d.1) (encH sh49_1_l5.h d.2) K := by kernel_rfl
theorem L49_1_5 (F : Nat) : LoopOK Try.prog (T49_1 F) 28 0 (LT49_1 F) (G49_1_5 F F) b49_0 :=
  loopOK_of (s := sh49_1_l5) (live := [1, 3, 4]) (out := (outT [(.exit 0, [3])])) (fun k d K => f49_1_l5 F d.2.1.2.1 d.2.1.2.2.1 d.2.1.2.2.2.1 d.2.1.2.2.2.2.1 (fun (y4 : List Int) => K (.exit 0) [.tv (.lf (.full 1))] [some ⟨false, [.int .i64 d.2.1.2.1, .int .i64 d.2.1.2.2.1, .int .i64 d.2.1.2.2.2.1, .int .i64 d.2.1.2.2.2.2.1]⟩, some ⟨false, [.seq (.int .i64) 0 y4]⟩]) k d.1.2.2.1 d.2.2.1.2.1) F (fun d K => by kernel_rfl)  (fun k d K => Eq.mp (by kernel_rfl) (L49_1_5g F k (f47_1 F)  (f49_1_l5 F) (G49_1_5 F F) d K))
theorem E49_1g (F : Nat) (c47_1 : Int → Int → Int → Int → (Bool → Option Res) → Option Res) (l5 : Int → Int → Int → Int → (List Int → Option Res) → Nat → Int → List Int → Option Res)  (d : sh49_1.den) (K : KF) : evBody Try.prog (tab [(47, (mkS sh47_1 (fun d K => c47_1 d.1.1.1 d.1.1.2.1 d.1.1.2.2.1 d.1.1.2.2.2.1 (fun (y0 : Bool) => K [.lf (.bool y0)] [])) noS))]) 28 0 (ltab [(5, mkG sh49_1_l5 [1, 3, 4] (outT [(.exit 0, [3])]) (fun d K => l5 d.2.1.2.1 d.2.1.2.2.1 d.2.1.2.2.2.1 d.2.1.2.2.2.2.1 (fun (y4 : List Int) => K (.exit 0) [.tv (.lf (.full 1))] [some ⟨false, [.int .i64 d.2.1.2.1, .int .i64 d.2.1.2.2.1, .int .i64 d.2.1.2.2.2.1, .int .i64 d.2.1.2.2.2.2.1]⟩, some ⟨false, [.seq (.int .i64) 0 y4]⟩]) F d.1.2.2.1 d.2.2.1.2.1))]) code49 Try.f49.results.toList (encT sh49_1.vs d.1) (encH sh49_1.h d.2) K = (fun (a1 : Int) (a2 : Int) (a3 : Int) (a4 : Int) (K0 : (List Int → Option Res)) => c47_1 a1 a2 a3 a4 (fun x1 => cond (!x1) (K0 []) (l5 a1 a2 a3 a4 (fun x8 => K0 x8) F a1 [a1])) ) d.1.1.1 d.1.1.2.1 d.1.1.2.2.1 d.1.1.2.2.2.1 (fun (y0 : List Int) => K [.lf (.full 0)] [some ⟨false, [.seq (.int .i64) 0 y0]⟩]) := by kernel_rfl
theorem E49_1 (F : Nat) (d : sh49_1.den) (K : KF) : evBody Try.prog (T49_1 F) 28 0 (LT49_1 F) code49 Try.f49.results.toList (encT sh49_1.vs d.1) (encH sh49_1.h d.2) K = f49_1 F d.1.1.1 d.1.1.2.1 d.1.1.2.2.1 d.1.1.2.2.2.1 (fun (y0 : List Int) => K [.lf (.full 0)] [some ⟨false, [.seq (.int .i64) 0 y0]⟩]) := Eq.mp (by kernel_rfl) (E49_1g F (f47_1 F) (f49_1_l5 F)  d K)
theorem S49_1_ok (F : Nat) (o : Summ) (ho : SoundFn Try.prog 49 o) : SoundFn Try.prog 49 (S49_1 F o) :=
  soundFn_of (fn := Try.f49) (c := code49) (by kernel_rfl) (tab_cons (S47_1_ok F _ (noS_sound enter47)) tab_nil) (by kernel_rfl) (by kernel_rfl) ho (by rw [loops49]; exact (loopsOK_cons (by kernel_rfl) (L49_1_5 F) loopsOK_nil)) (by rw [scopes49]; exact scopesOK_nil) (E49_1 F)
end Go.Proofs.Ytlokielmpdjedaa.X
end

section
namespace Go.Proofs.Ytlokielmpdjedaa.X
open Go Go.Proofs.Ytlokielmpdjedaa.Ev Go.Proofs
set_option linter.unusedVariables false
/-! pentimentoref07.Nodes -/
noncomputable def f51_1_l4 {β : Type} (F : Nat) (v4 : List Int) (K0 : Int → Option β) : Nat → Int → Int → Option β
  | 0, _, _ => none
  | k + 1, v2, v3 => cond (decide (v3 < ((v4.length : Nat) : Int))) (cond (decide ((0 : Int) ≤ v3 ∧ v3 < ((v4.length : Nat) : Int))) (cond (decide (0 + v3.toNat < v4.length)) (f51_1_l4 F v4 K0 k (IntKind.i64.wrap (v2 + (v4.getD (0 + v3.toNat) 0))) (IntKind.i64.wrap (v3 + 1))) none) none) (K0 v2)
noncomputable def f51_1 {β : Type} (F : Nat) (a1 : Int) (a2 : Int) (a3 : Int) (a4 : Int) (K0 : Int → Option β) : Option β := f49_1 F a1 a2 a3 a4 (fun x1 => f51_1_l4 F x1 (fun x5 => K0 x5) F 0 0) 
def sh51_1 : Sh := ⟨[.agg [.int .i64, .int .i64, .int .i64, .int .i64]], []⟩
noncomputable def S51_1 (F : Nat) (o : Summ) : Summ := mkS sh51_1 (fun d K => f51_1 F d.1.1.1 d.1.1.2.1 d.1.1.2.2.1 d.1.1.2.2.2.1 (fun (y0 : Int) => K [.lf (.int .i64 y0)] [])) o
noncomputable def code51 : Code := bodyOf Try.f51
noncomputable def b51_0 : Code := cB (cB (cR (cL (cR (cR (cR (code51)))))))
theorem scopes51 : scopesOf code51 = [] := by kernel_rfl
theorem loops51 : loopsOf code51 = [b51_0] := by kernel_rfl
theorem enter51 : ∀ args w, (callFunc 51 args).run Try.prog w = .ok (.enter 51 args) w := enter_of (fn := Try.f51) (by kernel_rfl) (by kernel_rfl) (by kernel_rfl)
noncomputable def T51_1 (F : Nat) : FuncId → Option Summ := tab [(49, (S49_1 F noS))]
def sh51_1_l4 : Sh := ⟨[.lf (.int .i64), .lf (.full 0), .lf (.int .i64)], [some ⟨some false, [.seq (.int .i64) 0]⟩]⟩
noncomputable def G51_1_4 (F k : Nat) : LoopS := mkG sh51_1_l4 [3, 4, 5] (outT [(.exit 0, [3])]) (fun d K => f51_1_l4 F d.2.1.2.1 (fun (y0 : Int) => K (.exit 0) [.tv (.lf (.int .i64 y0))] [some ⟨false, [.seq (.int .i64) 0 d.2.1.2.1]⟩]) k d.1.1 d.1.2.2.1)
noncomputable def LT51_1 (F : Nat) : Nat → Option LoopS := ltab [(4, G51_1_4 F F)]
theorem L51_1_4g (F k : Nat) (c49_1 : Int → Int → Int → Int → (List Int → Option Res) → Option Res)  (l4 : List Int → (Int → Option Res) → Nat → Int → Int → Option Res) (X4 : LoopS) (d : sh51_1_l4.den) (K : KL) : (fun (v4 : List Int) (K0 : (Int → Option Res)) (k : Nat) (v2 : Int) (v3 : Int) => cond (decide (v3 < ((v4.length : Nat) : Int))) (cond (decide ((0 : Int) ≤ v3 ∧ v3 < ((v4.length : Nat) : Int))) (cond (decide (0 + v3.toNat < v4.length)) (l4 v4 K0 k (IntKind.i64.wrap (v2 + (v4.getD (0 + v3.toNat) 0))) (IntKind.i64.wrap (v3 + 1))) none) none) (K0 v2)) d.2.1.2.1 (fun (y0 : Int) => K (.exit 0) [.tv (.lf (.int .i64 y0))] [some ⟨false, [.seq (.int .i64) 0 d.2.1.2.1]⟩]) k d.1.1 d.1.2.2.1 = roundOf Try.prog (tab [(49, (mkS sh49_1 (fun d K => c49_1 d.1.1.1 d.1.1.2.1 d.1.1.2.2.1 d.1.1.2.2.2.1 (fun (y0 : List Int) => K [.lf (.full 0)] [some ⟨false, [.seq (.int .i64) 0 y0]⟩])) noS))]) 21 0 (ltab [(4, X4)]) (mkG sh51_1_l4 [3, 4, 5] (outT [(.exit 0, [3])]) (fun d K => l4 d.2.1.2.1 (fun (y0 : Int) => K (.exit 0) [.tv (.lf (.int .i64 y0))] [some ⟨false, [.seq (.int .i64) 0 d.2.1.2.1]⟩]) k d.1.1 d.1.2.2.1)) b51_0 (encT sh51_1_l4.vs d.1) (encH sh51_1_l4.h d.2) K := by kernel_rfl
theorem L51_1_4 (F : Nat) : LoopOK Try.prog (T51_1 F) 21 0 (LT51_1 F) (G51_1_4 F F) b51_0 :=
  loopOK_of (s := sh51_1_l4) (live := [3, 4, 5]) (out := (outT [(.exit 0, [3])])) (fun k d K => f51_1_l4 F d.2.1.2.1 (fun (y0 : Int) => K (.exit 0) [.tv (.lf (.int .i64 y0))] [some ⟨false, [.seq (.int .i64) 0 d.2.1.2.1]⟩]) k d.1.1 d.1.2.2.1) F (fun d K => by kernel_rfl)  (fun k d K => Eq.mp (by kernel_rfl) (L51_1_4g F k (f49_1 F)  (f51_1_l4 F) (G51_1_4 F F) d K))
theorem E51_1g (F : Nat) (c49_1 : Int → Int → Int → Int → (List Int → Option Res) → Option Res) (l4 : List Int → (Int → Option Res) → Nat → Int → Int → Option Res)  (d : sh51_1.den) (K : KF) : evBody Try.prog (tab [(49, (mkS sh49_1 (fun d K => c49_1 d.1.1.1 d.1.1.2.1 d.1.1.2.2.1 d.1.1.2.2.2.1 (fun (y0 : List Int) => K [.lf (.full 0)] [some ⟨false, [.seq (.int .i64) 0 y0]⟩])) noS))]) 21 0 (ltab [(4, mkG sh51_1_l4 [3, 4, 5] (outT [(.exit 0, [3])]) (fun d K => l4 d.2.1.2.1 (fun (y0 : Int) => K (.exit 0) [.tv (.lf (.int .i64 y0))] [some ⟨false, [.seq (.int .i64) 0 d.2.1.2.1]⟩]) F d.1.1 d.1.2.2.1))]) code51 Try.f51.results.toList (encT sh51_1.vs d.1) (encH sh51_1.h d.2) K = (fun (a1 : Int) (a2 : Int) (a3 : Int) (a4 : Int) (K0 : (Int → Option Res)) => c49_1 a1 a2 a3 a4 (fun x1 => l4 x1 (fun x5 => K0 x5) F 0 0) ) d.1.1.1 d.1.1.2.1 d.1.1.2.2.1 d.1.1.2.2.2.1 (fun (y0 : Int) => K [.lf (.int .i64 y0)] []) := by kernel_rfl
theorem E51_1 (F : Nat) (d : sh51_1.den) (K : KF) : evBody Try.prog (T51_1 F) 21 0 (LT51_1 F) code51 Try.f51.results.toList (encT sh51_1.vs d.1) (encH sh51_1.h d.2) K = f51_1 F d.1.1.1 d.1.1.2.1 d.1.1.2.2.1 d.1.1.2.2.2.1 (fun (y0 : Int) => K [.lf (.int .i64 y0)] []) := Eq.mp (by kernel_rfl) (E51_1g F (f49_1 F) (f51_1_l4 F)  d K)
theorem S51_1_ok (F : Nat) (o : Summ) (ho : SoundFn Try.prog 51 o) : SoundFn Try.prog 51 (S51_1 F o) :=
  soundFn_of (fn := Try.f51) (c := code51) (by kernel_rfl) (tab_cons (S49_1_ok F _ (noS_sound enter49)) tab_nil) (by kernel_rfl) (by kernel_rfl) ho (by rw [loops51]; exact (loopsOK_cons (by kernel_rfl) (L51_1_4 F) loopsOK_nil)) (by rw [scopes51]; exact scopesOK_nil) (E51_1 F)
end Go.Proofs.Ytlokielmpdjedaa.X
end

section
namespace Go.Proofs.Ytlokielmpdjedaa.X
open Go Go.Proofs.Ytlokielmpdjedaa.Ev Go.Proofs
set_option linter.unusedVariables false
/-! pentimentoref07.area -/
noncomputable def f89_1 {β : Type} (F : Nat) (a1 : Int) (a2 : Int) (a3 : Int) (a4 : Int) (a5 : Int) (K0 : Int → Option β) : Option β := cond (a5 == 0) (K0 (IntKind.i64.wrap (2 * a3))) (cond (a5 == 1) (K0 (IntKind.i64.wrap (2 * a4))) (K0 (-1)))
def sh89_1 : Sh := ⟨[.agg [.int .i64, .int .i64, .int .i64, .int .i64], .lf (.int .i64)], []⟩
noncomputable def S89_1 (F : Nat) (o : Summ) : Summ := mkS sh89_1 (fun d K => f89_1 F d.1.1.1 d.1.1.2.1 d.1.1.2.2.1 d.1.1.2.2.2.1 d.1.2.1 (fun (y0 : Int) => K [.lf (.int .i64 y0)] [])) o
noncomputable def code89 : Code := bodyOf Try.f89
theorem scopes89 : scopesOf code89 = [] := by kernel_rfl
theorem loops89 : loopsOf code89 = [] := by kernel_rfl
theorem enter89 : ∀ args w, (callFunc 89 args).run Try.prog w = .ok (.enter 89 args) w := enter_of (fn := Try.f89) (by kernel_rfl) (by kernel_rfl) (by kernel_rfl)
noncomputable def T89_1 (F : Nat) : FuncId → Option Summ := tab []
noncomputable def LT89_1 (F : Nat) : Nat → Option LoopS := ltab []
theorem E89_1g (F : Nat)    (d : sh89_1.den) (K : KF) : evBody Try.prog (tab []) 15 0 (ltab []) code89 Try.f89.results.toList (encT sh89_1.vs d.1) (encH sh89_1.h d.2) K = (fun (a1 : Int) (a2 : Int) (a3 : Int) (a4 : Int) (a5 : Int) (K0 : (Int → Option Res)) => cond (a5 == 0) (K0 (IntKind.i64.wrap (2 * a3))) (cond (a5 == 1) (K0 (IntKind.i64.wrap (2 * a4))) (K0 (-1)))) d.1.1.1 d.1.1.2.1 d.1.1.2.2.1 d.1.1.2.2.2.1 d.1.2.1 (fun (y0 : Int) => K [.lf (.int .i64 y0)] []) := by kernel_rfl
theorem E89_1 (F : Nat) (d : sh89_1.den) (K : KF) : evBody Try.prog (T89_1 F) 15 0 (LT89_1 F) code89 Try.f89.results.toList (encT sh89_1.vs d.1) (encH sh89_1.h d.2) K = f89_1 F d.1.1.1 d.1.1.2.1 d.1.1.2.2.1 d.1.1.2.2.2.1 d.1.2.1 (fun (y0 : Int) => K [.lf (.int .i64 y0)] []) := Eq.mp (by kernel_rfl) (E89_1g F    d K)
theorem S89_1_ok (F : Nat) (o : Summ) (ho : SoundFn Try.prog 89 o) : SoundFn Try.prog 89 (S89_1 F o) :=
  soundFn_of (fn := Try.f89) (c := code89) (by kernel_rfl) tab_nil (by kernel_rfl) (by kernel_rfl) ho (by rw [loops89]; exact loopsOK_nil) (by rw [scopes89]; exact scopesOK_nil) (E89_1 F)
end Go.Proofs.Ytlokielmpdjedaa.X
end

section
namespace Go.Proofs.Ytlokielmpdjedaa.X
open Go Go.Proofs.Ytlokielmpdjedaa.Ev Go.Proofs
set_option linter.unusedVariables false
/-! pentimentoref07.Size -/
noncomputable def f63_1 {β : Type} (F : Nat) (a1 : Int) (a2 : Int) (a3 : Int) (a4 : Int) (a5 : Int) (K0 : Int → Option β) : Option β := f89_1 F a1 a2 a3 a4 a5 (fun x1 => f47_1 F a1 a2 a3 a4 (fun x2 => cond (!x2) (K0 0) (cond (decide (x1 < 0)) (K0 0) (f51_1 F a1 a2 a3 a4 (fun x3 => K0 (IntKind.i64.wrap ((IntKind.i64.wrap ((IntKind.i64.wrap (6 + a1)) + x3)) + x1))) ))) ) 
def sh63_1 : Sh := ⟨[.agg [.int .i64, .int .i64, .int .i64, .int .i64], .lf (.int .i64)], []⟩
noncomputable def S63_1 (F : Nat) (o : Summ) : Summ := mkS sh63_1 (fun d K => f63_1 F d.1.1.1 d.1.1.2.1 d.1.1.2.2.1 d.1.1.2.2.2.1 d.1.2.1 (fun (y0 : Int) => K [.lf (.int .i64 y0)] [])) o
noncomputable def code63 : Code := bodyOf Try.f63
theorem scopes63 : scopesOf code63 = [] := by kernel_rfl
theorem loops63 : loopsOf code63 = [] := by kernel_rfl
theorem enter63 : ∀ args w, (callFunc 63 args).run Try.prog w = .ok (.enter 63 args) w := enter_of (fn := Try.f63) (by kernel_rfl) (by kernel_rfl) (by kernel_rfl)
noncomputable def T63_1 (F : Nat) : FuncId → Option Summ := tab [(47, (S47_1 F noS)), (51, (S51_1 F noS)), (89, (S89_1 F noS))]
noncomputable def LT63_1 (F : Nat) : Nat → Option LoopS := ltab []
theorem E63_1g (F : Nat) (c47_1 : Int → Int → Int → Int → (Bool → Option Res) → Option Res) (c51_1 : Int → Int → Int → Int → (Int → Option Res) → Option Res) (c89_1 : Int → Int → Int → Int → Int → (Int → Option Res) → Option Res)   (d : sh63_1.den) (K : KF) : evBody Try.prog (tab [(47, (mkS sh47_1 (fun d K => c47_1 d.1.1.1 d.1.1.2.1 d.1.1.2.2.1 d.1.1.2.2.2.1 (fun (y0 : Bool) => K [.lf (.bool y0)] [])) noS)), (51, (mkS sh51_1 (fun d K => c51_1 d.1.1.1 d.1.1.2.1 d.1.1.2.2.1 d.1.1.2.2.2.1 (fun (y0 : Int) => K [.lf (.int .i64 y0)] [])) noS)), (89, (mkS sh89_1 (fun d K => c89_1 d.1.1.1 d.1.1.2.1 d.1.1.2.2.1 d.1.1.2.2.2.1 d.1.2.1 (fun (y0 : Int) => K [.lf (.int .i64 y0)] [])) noS))]) 24 0 (ltab []) code63 Try.f63.results.toList (encT sh63_1.vs d.1) (encH sh63_1.h d.2) K = (fun (a1 : Int) (a2 : Int) (a3 : Int) (a4 : Int) (a5 : Int) (K0 : (Int → Option Res)) => c89_1 a1 a2 a3 a4 a5 (fun x1 => c47_1 a1 a2 a3 a4 (fun x2 => cond (!x2) (K0 0) (cond (decide (x1 < 0)) (K0 0) (c51_1 a1 a2 a3 a4 (fun x3 => K0 (IntKind.i64.wrap ((IntKind.i64.wrap ((IntKind.i64.wrap (6 + a1)) + x3)) + x1))) ))) ) ) d.1.1.1 d.1.1.2.1 d.1.1.2.2.1 d.1.1.2.2.2.1 d.1.2.1 (fun (y0 : Int) => K [.lf (.int .i64 y0)] []) := by kernel_rfl
theorem E63_1 (F : Nat) (d : sh63_1.den) (K : KF) : evBody Try.prog (T63_1 F) 24 0 (LT63_1 F) code63 Try.f63.results.toList (encT sh63_1.vs d.1) (encH sh63_1.h d.2) K = f63_1 F d.1.1.1 d.1.1.2.1 d.1.1.2.2.1 d.1.1.2.2.2.1 d.1.2.1 (fun (y0 : Int) => K [.lf (.int .i64 y0)] []) := Eq.mp (by kernel_rfl) (E63_1g F (f47_1 F) (f51_1 F) (f89_1 F)   d K)
theorem S63_1_ok (F : Nat) (o : Summ) (ho : SoundFn Try.prog 63 o) : SoundFn Try.prog 63 (S63_1 F o) :=
  soundFn_of (fn := Try.f63) (c := code63) (by kernel_rfl) (tab_cons (S47_1_ok F _ (noS_sound enter47)) (tab_cons (S51_1_ok F _ (noS_sound enter51)) (tab_cons (S89_1_ok F _ (noS_sound enter89)) tab_nil))) (by kernel_rfl) (by kernel_rfl) ho (by rw [loops63]; exact loopsOK_nil) (by rw [scopes63]; exact scopesOK_nil) (E63_1 F)
end Go.Proofs.Ytlokielmpdjedaa.X
end

section
namespace Go.Proofs.Ytlokielmpdjedaa.X
open Go Go.Proofs.Ytlokielmpdjedaa.Ev Go.Proofs
set_option linter.unusedVariables false
/-! pentimentoref07.Data -/
noncomputable def f65_1 {β : Type} (F : Nat) (a1 : Int) (a2 : Int) (a3 : Int) (a4 : Int) (a5 : Int) (K0 : Int → Option β) : Option β := f47_1 F a1 a2 a3 a4 (fun x1 => cond (!x1) (K0 (-1)) (cond (decide (a5 < 0)) (K0 (-1)) (cond (decide (a5 ≥ a1)) (K0 (-1)) (K0 (IntKind.i64.wrap (6 + a5)))))) 
def sh65_1 : Sh := ⟨[.agg [.int .i64, .int .i64, .int .i64, .int .i64], .lf (.int .i64)], []⟩
noncomputable def S65_1 (F : Nat) (o : Summ) : Summ := mkS sh65_1 (fun d K => f65_1 F d.1.1.1 d.1.1.2.1 d.1.1.2.2.1 d.1.1.2.2.2.1 d.1.2.1 (fun (y0 : Int) => K [.lf (.int .i64 y0)] [])) o
noncomputable def code65 : Code := bodyOf Try.f65
theorem scopes65 : scopesOf code65 = [] := by kernel_rfl
theorem loops65 : loopsOf code65 = [] := by kernel_rfl
theorem enter65 : ∀ args w, (callFunc 65 args).run Try.prog w = .ok (.enter 65 args) w := enter_of (fn := Try.f65) (by kernel_rfl) (by kernel_rfl) (by kernel_rfl)
noncomputable def T65_1 (F : Nat) : FuncId → Option Summ := tab [(47, (S47_1 F noS))]
noncomputable def LT65_1 (F : Nat) : Nat → Option LoopS := ltab []
theorem E65_1g (F : Nat) (c47_1 : Int → Int → Int → Int → (Bool → Option Res) → Option Res)   (d : sh65_1.den) (K : KF) : evBody Try.prog (tab [(47, (mkS sh47_1 (fun d K => c47_1 d.1.1.1 d.1.1.2.1 d.1.1.2.2.1 d.1.1.2.2.2.1 (fun (y0 : Bool) => K [.lf (.bool y0)] [])) noS))]) 20 0 (ltab []) code65 Try.f65.results.toList (encT sh65_1.vs d.1) (encH sh65_1.h d.2) K = (fun (a1 : Int) (a2 : Int) (a3 : Int) (a4 : Int) (a5 : Int) (K0 : (Int → Option Res)) => c47_1 a1 a2 a3 a4 (fun x1 => cond (!x1) (K0 (-1)) (cond (decide (a5 < 0)) (K0 (-1)) (cond (decide (a5 ≥ a1)) (K0 (-1)) (K0 (IntKind.i64.wrap (6 + a5)))))) ) d.1.1.1 d.1.1.2.1 d.1.1.2.2.1 d.1.1.2.2.2.1 d.1.2.1 (fun (y0 : Int) => K [.lf (.int .i64 y0)] []) := by kernel_rfl
theorem E65_1 (F : Nat) (d : sh65_1.den) (K : KF) : evBody Try.prog (T65_1 F) 20 0 (LT65_1 F) code65 Try.f65.results.toList (encT sh65_1.vs d.1) (encH sh65_1.h d.2) K = f65_1 F d.1.1.1 d.1.1.2.1 d.1.1.2.2.1 d.1.1.2.2.2.1 d.1.2.1 (fun (y0 : Int) => K [.lf (.int .i64 y0)] []) := Eq.mp (by kernel_rfl) (E65_1g F (f47_1 F)   d K)
theorem S65_1_ok (F : Nat) (o : Summ) (ho : SoundFn Try.prog 65 o) : SoundFn Try.prog 65 (S65_1 F o) :=
  soundFn_of (fn := Try.f65) (c := code65) (by kernel_rfl) (tab_cons (S47_1_ok F _ (noS_sound enter47)) tab_nil) (by kernel_rfl) (by kernel_rfl) ho (by rw [loops65]; exact loopsOK_nil) (by rw [scopes65]; exact scopesOK_nil) (E65_1 F)
end Go.Proofs.Ytlokielmpdjedaa.X
end

section
namespace Go.Proofs.Ytlokielmpdjedaa.X
open Go Go.Proofs.Ytlokielmpdjedaa.Ev Go.Proofs
set_option linter.unusedVariables false
/-! pentimentoref07.Node -/
noncomputable def f67_1 {β : Type} (F : Nat) (a1 : Int) (a2 : Int) (a3 : Int) (a4 : Int) (a5 : Int) (K0 : Int → Option β) : Option β := cond (decide (a5 < 0)) (K0 (-1)) (f51_1 F a1 a2 a3 a4 (fun x1 => cond (decide (a5 ≥ x1)) (K0 (-1)) (K0 (IntKind.i64.wrap ((IntKind.i64.wrap (6 + a1)) + a5)))) )
def sh67_1 : Sh := ⟨[.agg [.int .i64, .int .i64, .int .i64, .int .i64], .lf (.int .i64)], []⟩
noncomputable def S67_1 (F : Nat) (o : Summ) : Summ := mkS sh67_1 (fun d K => f67_1 F d.1.1.1 d.1.1.2.1 d.1.1.2.2.1 d.1.1.2.2.2.1 d.1.2.1 (fun (y0 : Int) => K [.lf (.int .i64 y0)] [])) o
noncomputable def code67 : Code := bodyOf Try.f67
theorem scopes67 : scopesOf code67 = [] := by kernel_rfl
theorem loops67 : loopsOf code67 = [] := by kernel_rfl
theorem enter67 : ∀ args w, (callFunc 67 args).run Try.prog w = .ok (.enter 67 args) w := enter_of (fn := Try.f67) (by kernel_rfl) (by kernel_rfl) (by kernel_rfl)
noncomputable def T67_1 (F : Nat) : FuncId → Option Summ := tab [(51, (S51_1 F noS))]
noncomputable def LT67_1 (F : Nat) : Nat → Option LoopS := ltab []
theorem E67_1g (F : Nat) (c51_1 : Int → Int → Int → Int → (Int → Option Res) → Option Res)   (d : sh67_1.den) (K : KF) : evBody Try.prog (tab [(51, (mkS sh51_1 (fun d K => c51_1 d.1.1.1 d.1.1.2.1 d.1.1.2.2.1 d.1.1.2.2.2.1 (fun (y0 : Int) => K [.lf (.int .i64 y0)] [])) noS))]) 18 0 (ltab []) code67 Try.f67.results.toList (encT sh67_1.vs d.1) (encH sh67_1.h d.2) K = (fun (a1 : Int) (a2 : Int) (a3 : Int) (a4 : Int) (a5 : Int) (K0 : (Int → Option Res)) => cond (decide (a5 < 0)) (K0 (-1)) (c51_1 a1 a2 a3 a4 (fun x1 => cond (decide (a5 ≥ x1)) (K0 (-1)) (K0 (IntKind.i64.wrap ((IntKind.i64.wrap (6 + a1)) + a5)))) )) d.1.1.1 d.1.1.2.1 d.1.1.2.2.1 d.1.1.2.2.2.1 d.1.2.1 (fun (y0 : Int) => K [.lf (.int .i64 y0)] []) := by kernel_rfl
theorem E67_1 (F : Nat) (d : sh67_1.den) (K : KF) : evBody Try.prog (T67_1 F) 18 0 (LT67_1 F) code67 Try.f67.results.toList (encT sh67_1.vs d.1) (encH sh67_1.h d.2) K = f67_1 F d.1.1.1 d.1.1.2.1 d.1.1.2.2.1 d.1.1.2.2.2.1 d.1.2.1 (fun (y0 : Int) => K [.lf (.int .i64 y0)] []) := Eq.mp (by kernel_rfl) (E67_1g F (f51_1 F)   d K)
theorem S67_1_ok (F : Nat) (o : Summ) (ho : SoundFn Try.prog 67 o) : SoundFn Try.prog 67 (S67_1 F o) :=
  soundFn_of (fn := Try.f67) (c := code67) (by kernel_rfl) (tab_cons (S51_1_ok F _ (noS_sound enter51)) tab_nil) (by kernel_rfl) (by kernel_rfl) ho (by rw [loops67]; exact loopsOK_nil) (by rw [scopes67]; exact scopesOK_nil) (E67_1 F)
end Go.Proofs.Ytlokielmpdjedaa.X
end

section
namespace Go.Proofs.Ytlokielmpdjedaa.X
open Go Go.Proofs.Ytlokielmpdjedaa.Ev Go.Proofs
set_option linter.unusedVariables false
/-! pentimentoref07.Area -/
noncomputable def f69_1 {β : Type} (F : Nat) (a1 : Int) (a2 : Int) (a3 : Int) (a4 : Int) (a5 : Int) (a6 : Int) (K0 : Int → Option β) : Option β := f47_1 F a1 a2 a3 a4 (fun x1 => cond (!x1) (K0 (-1)) (cond (decide (a6 < 0)) (K0 (-1)) (f89_1 F a1 a2 a3 a4 a5 (fun x2 => cond (decide (a6 ≥ x2)) (K0 (-1)) (f51_1 F a1 a2 a3 a4 (fun x3 => K0 (IntKind.i64.wrap ((IntKind.i64.wrap ((IntKind.i64.wrap (6 + a1)) + x3)) + a6))) )) ))) 
def sh69_1 : Sh := ⟨[.agg [.int .i64, .int .i64, .int .i64, .int .i64], .lf (.int .i64), .lf (.int .i64)], []⟩
noncomputable def S69_1 (F : Nat) (o : Summ) : Summ := mkS sh69_1 (fun d K => f69_1 F d.1.1.1 d.1.1.2.1 d.1.1.2.2.1 d.1.1.2.2.2.1 d.1.2.1 d.1.2.2.1 (fun (y0 : Int) => K [.lf (.int .i64 y0)] [])) o
noncomputable def code69 : Code := bodyOf Try.f69
theorem scopes69 : scopesOf code69 = [] := by kernel_rfl
theorem loops69 : loopsOf code69 = [] := by kernel_rfl
theorem enter69 : ∀ args w, (callFunc 69 args).run Try.prog w = .ok (.enter 69 args) w := enter_of (fn := Try.f69) (by kernel_rfl) (by kernel_rfl) (by kernel_rfl)
noncomputable def T69_1 (F : Nat) : FuncId → Option Summ := tab [(47, (S47_1 F noS)), (51, (S51_1 F noS)), (89, (S89_1 F noS))]
noncomputable def LT69_1 (F : Nat) : Nat → Option LoopS := ltab []
theorem E69_1g (F : Nat) (c47_1 : Int → Int → Int → Int → (Bool → Option Res) → Option Res) (c51_1 : Int → Int → Int → Int → (Int → Option Res) → Option Res) (c89_1 : Int → Int → Int → Int → Int → (Int → Option Res) → Option Res)   (d : sh69_1.den) (K : KF) : evBody Try.prog (tab [(47, (mkS sh47_1 (fun d K => c47_1 d.1.1.1 d.1.1.2.1 d.1.1.2.2.1 d.1.1.2.2.2.1 (fun (y0 : Bool) => K [.lf (.bool y0)] [])) noS)), (51, (mkS sh51_1 (fun d K => c51_1 d.1.1.1 d.1.1.2.1 d.1.1.2.2.1 d.1.1.2.2.2.1 (fun (y0 : Int) => K [.lf (.int .i64 y0)] [])) noS)), (89, (mkS sh89_1 (fun d K => c89_1 d.1.1.1 d.1.1.2.1 d.1.1.2.2.1 d.1.1.2.2.2.1 d.1.2.1 (fun (y0 : Int) => K [.lf (.int .i64 y0)] [])) noS))]) 29 0 (ltab []) code69 Try.f69.results.toList (encT sh69_1.vs d.1) (encH sh69_1.h d.2) K = (fun (a1 : Int) (a2 : Int) (a3 : Int) (a4 : Int) (a5 : Int) (a6 : Int) (K0 : (Int → Option Res)) => c47_1 a1 a2 a3 a4 (fun x1 => cond (!x1) (K0 (-1)) (cond (decide (a6 < 0)) (K0 (-1)) (c89_1 a1 a2 a3 a4 a5 (fun x2 => cond (decide (a6 ≥ x2)) (K0 (-1)) (c51_1 a1 a2 a3 a4 (fun x3 => K0 (IntKind.i64.wrap ((IntKind.i64.wrap ((IntKind.i64.wrap (6 + a1)) + x3)) + a6))) )) ))) ) d.1.1.1 d.1.1.2.1 d.1.1.2.2.1 d.1.1.2.2.2.1 d.1.2.1 d.1.2.2.1 (fun (y0 : Int) => K [.lf (.int .i64 y0)] []) := by kernel_rfl
theorem E69_1 (F : Nat) (d : sh69_1.den) (K : KF) : evBody Try.prog (T69_1 F) 29 0 (LT69_1 F) code69 Try.f69.results.toList (encT sh69_1.vs d.1) (encH sh69_1.h d.2) K = f69_1 F d.1.1.1 d.1.1.2.1 d.1.1.2.2.1 d.1.1.2.2.2.1 d.1.2.1 d.1.2.2.1 (fun (y0 : Int) => K [.lf (.int .i64 y0)] []) := Eq.mp (by kernel_rfl) (E69_1g F (f47_1 F) (f51_1 F) (f89_1 F)   d K)
theorem S69_1_ok (F : Nat) (o : Summ) (ho : SoundFn Try.prog 69 o) : SoundFn Try.prog 69 (S69_1 F o) :=
  soundFn_of (fn := Try.f69) (c := code69) (by kernel_rfl) (tab_cons (S47_1_ok F _ (noS_sound enter47)) (tab_cons (S51_1_ok F _ (noS_sound enter51)) (tab_cons (S89_1_ok F _ (noS_sound enter89)) tab_nil))) (by kernel_rfl) (by kernel_rfl) ho (by rw [loops69]; exact loopsOK_nil) (by rw [scopes69]; exact scopesOK_nil) (E69_1 F)
end Go.Proofs.Ytlokielmpdjedaa.X
end

section
namespace Go.Proofs.Ytlokielmpdjedaa.X
open Go Go.Proofs.Ytlokielmpdjedaa.Ev Go.Proofs
set_option linter.unusedVariables false
/-! pentimentolaw07.GeomPlaces -/
noncomputable def f10_1 {β : Type} (F : Nat) (a1 : Int) (a2 : Int) (a3 : Int) (a4 : Int) (a5 : Int) (a6 : Int) (K0 : Bool → Option β) : Option β := f38_1 F a1 a2 a3 a4 a5 (fun x1 => f63_1 F a1 a2 a3 a4 a5 (fun x2 => cond (x1 == x2) (f64_1 F a1 a2 a3 a4 a6 (fun x3 => f65_1 F a1 a2 a3 a4 a6 (fun x4 => cond (x3 == x4) (f66_1 F a1 a2 a3 a4 a6 (fun x5 => f67_1 F a1 a2 a3 a4 a6 (fun x6 => cond (x5 == x6) (f68_1 F a1 a2 a3 a4 a5 a6 (fun x7 => f69_1 F a1 a2 a3 a4 a5 a6 (fun x8 => cond (x7 == x8) (f62_1 F  (fun x9 => K0 x9) ) (K0 false)) ) ) (K0 false)) ) ) (K0 false)) ) ) (K0 false)) ) 
def sh10_1 : Sh := ⟨[.agg [.int .i64, .int .i64, .int .i64, .int .i64], .lf (.int .i64), .lf (.int .i64)], []⟩
noncomputable def S10_1 (F : Nat) (o : Summ) : Summ := mkS sh10_1 (fun d K => f10_1 F d.1.1.1 d.1.1.2.1 d.1.1.2.2.1 d.1.1.2.2.2.1 d.1.2.1 d.1.2.2.1 (fun (y0 : Bool) => K [.lf (.bool y0)] [])) o
noncomputable def code10 : Code := bodyOf Try.f10
theorem scopes10 : scopesOf code10 = [] := by kernel_rfl
theorem loops10 : loopsOf code10 = [] := by kernel_rfl
theorem enter10 : ∀ args w, (callFunc 10 args).run Try.prog w = .ok (.enter 10 args) w := enter_of (fn := Try.f10) (by kernel_rfl) (by kernel_rfl) (by kernel_rfl)
noncomputable def T10_1 (F : Nat) : FuncId → Option Summ := tab [(38, (S38_1 F noS)), (62, (S62_1 F noS)), (63, (S63_1 F noS)), (64, (S64_1 F noS)), (65, (S65_1 F noS)), (66, (S66_1 F noS)), (67, (S67_1 F noS)), (68, (S68_1 F noS)), (69, (S69_1 F noS))]
noncomputable def LT10_1 (F : Nat) : Nat → Option LoopS := ltab []
theorem E10_1g (F : Nat) (c38_1 : Int → Int → Int → Int → Int → (Int → Option Res) → Option Res) (c62_1 : (Bool → Option Res) → Option Res) (c63_1 : Int → Int → Int → Int → Int → (Int → Option Res) → Option Res) (c64_1 : Int → Int → Int → Int → Int → (Int → Option Res) → Option Res) (c65_1 : Int → Int → Int → Int → Int → (Int → Option Res) → Option Res) (c66_1 : Int → Int → Int → Int → Int → (Int → Option Res) → Option Res) (c67_1 : Int → Int → Int → Int → Int → (Int → Option Res) → Option Res) (c68_1 : Int → Int → Int → Int → Int → Int → (Int → Option Res) → Option Res) (c69_1 : Int → Int → Int → Int → Int → Int → (Int → Option Res) → Option Res)   (d : sh10_1.den) (K : KF) : evBody Try.prog (tab [(38, (mkS sh38_1 (fun d K => c38_1 d.1.1.1 d.1.1.2.1 d.1.1.2.2.1 d.1.1.2.2.2.1 d.1.2.1 (fun (y0 : Int) => K [.lf (.int .i64 y0)] [])) noS)), (62, (mkS sh62_1 (fun d K => c62_1 (fun (y0 : Bool) => K [.lf (.bool y0)] [])) noS)), (63, (mkS sh63_1 (fun d K => c63_1 d.1.1.1 d.1.1.2.1 d.1.1.2.2.1 d.1.1.2.2.2.1 d.1.2.1 (fun (y0 : Int) => K [.lf (.int .i64 y0)] [])) noS)), (64, (mkS sh64_1 (fun d K => c64_1 d.1.1.1 d.1.1.2.1 d.1.1.2.2.1 d.1.1.2.2.2.1 d.1.2.1 (fun (y0 : Int) => K [.lf (.int .i64 y0)] [])) noS)), (65, (mkS sh65_1 (fun d K => c65_1 d.1.1.1 d.1.1.2.1 d.1.1.2.2.1 d.1.1.2.2.2.1 d.1.2.1 (fun (y0 : Int) => K [.lf (.int .i64 y0)] [])) noS)), (66, (mkS sh66_1 (fun d K => c66_1 d.1.1.1 d.1.1.2.1 d.1.1.2.2.1 d.1.1.2.2.2.1 d.1.2.1 (fun (y0 : Int) => K [.lf (.int .i64 y0)] [])) noS)), (67, (mkS sh67_1 (fun d K => c67_1 d.1.1.1 d.1.1.2.1 d.1.1.2.2.1 d.1.1.2.2.2.1 d.1.2.1 (fun (y0 : Int) => K [.lf (.int .i64 y0)] [])) noS)), (68, (mkS sh68_1 (fun d K => c68_1 d.1.1.1 d.1.1.2.1 d.1.1.2.2.1 d.1.1.2.2.2.1 d.1.2.1 d.1.2.2.1 (fun (y0 : Int) => K [.lf (.int .i64 y0)] [])) noS)), (69, (mkS sh69_1 (fun d K => c69_1 d.1.1.1 d.1.1.2.1 d.1.1.2.2.1 d.1.1.2.2.2.1 d.1.2.1 d.1.2.2.1 (fun (y0 : Int) => K [.lf (.int .i64 y0)] [])) noS))]) 46 0 (ltab []) code10 Try.f10.results.toList (encT sh10_1.vs d.1) (encH sh10_1.h d.2) K = (fun (a1 : Int) (a2 : Int) (a3 : Int) (a4 : Int) (a5 : Int) (a6 : Int) (K0 : (Bool → Option Res)) => c38_1 a1 a2 a3 a4 a5 (fun x1 => c63_1 a1 a2 a3 a4 a5 (fun x2 => cond (x1 == x2) (c64_1 a1 a2 a3 a4 a6 (fun x3 => c65_1 a1 a2 a3 a4 a6 (fun x4 => cond (x3 == x4) (c66_1 a1 a2 a3 a4 a6 (fun x5 => c67_1 a1 a2 a3 a4 a6 (fun x6 => cond (x5 == x6) (c68_1 a1 a2 a3 a4 a5 a6 (fun x7 => c69_1 a1 a2 a3 a4 a5 a6 (fun x8 => cond (x7 == x8) (c62_1  (fun x9 => K0 x9) ) (K0 false)) ) ) (K0 false)) ) ) (K0 false)) ) ) (K0 false)) ) ) d.1.1.1 d.1.1.2.1 d.1.1.2.2.1 d.1.1.2.2.2.1 d.1.2.1 d.1.2.2.1 (fun (y0 : Bool) => K [.lf (.bool y0)] []) := by kernel_rfl
theorem E10_1 (F : Nat) (d : sh10_1.den) (K : KF) : evBody Try.prog (T10_1 F) 46 0 (LT10_1 F) code10 Try.f10.results.toList (encT sh10_1.vs d.1) (encH sh10_1.h d.2) K = f10_1 F d.1.1.1 d.1.1.2.1 d.1.1.2.2.1 d.1.1.2.2.2.1 d.1.2.1 d.1.2.2.1 (fun (y0 : Bool) => K [.lf (.bool y0)] []) := Eq.mp (by kernel_rfl) (E10_1g F (f38_1 F) (f62_1 F) (f63_1 F) (f64_1 F) (f65_1 F) (f66_1 F) (f67_1 F) (f68_1 F) (f69_1 F)   d K)
theorem S10_1_ok (F : Nat) (o : Summ) (ho : SoundFn Try.prog 10 o) : SoundFn Try.prog 10 (S10_1 F o) :=
  soundFn_of (fn := Try.f10) (c := code10) (by kernel_rfl) (tab_cons (S38_1_ok F _ (noS_sound enter38)) (tab_cons (S62_1_ok F _ (noS_sound enter62)) (tab_cons (S63_1_ok F _ (noS_sound enter63)) (tab_cons (S64_1_ok F _ (noS_sound enter64)) (tab_cons (S65_1_ok F _ (noS_sound enter65)) (tab_cons (S66_1_ok F _ (noS_sound enter66)) (tab_cons (S67_1_ok F _ (noS_sound enter67)) (tab_cons (S68_1_ok F _ (noS_sound enter68)) (tab_cons (S69_1_ok F _ (noS_sound enter69)) tab_nil))))))))) (by kernel_rfl) (by kernel_rfl) ho (by rw [loops10]; exact loopsOK_nil) (by rw [scopes10]; exact scopesOK_nil) (E10_1 F)
end Go.Proofs.Ytlokielmpdjedaa.X
end

section
/- Places on disks: what the code reckons is what the document's answer reckons. -/
namespace Go.Proofs.Ytlokielmpdjedaa.X
open Go Go.Proofs.Ytlokielmpdjedaa.Ev
set_option linter.unusedVariables false

def lv : Nat → Int → Int → List Int
  | 0, _, _ => []
  | k + 1, n, f => if n > 1 then ((n + f - 1) / f) :: lv k ((n + f - 1) / f) f else []

theorem step_eq {n f : Int} (hf : 2 ≤ f ∧ f ≤ 4) (h1 : 1 < n) (h2 : n ≤ 128) :
    IntKind.i64.wrap ((IntKind.i64.wrap ((IntKind.i64.wrap (n + f)) - 1)).tdiv f) = (n + f - 1) / f ∧ 1 ≤ (n + f - 1) / f ∧ (n + f - 1) / f < n := by
  rw [w64 (x := n + f) (by omega) (by omega), w64 (x := n + f - 1) (by omega) (by omega), Int.tdiv_eq_ediv_of_nonneg (by omega)]
  have : f = 2 ∨ f = 3 ∨ f = 4 := by omega
  rcases this with rfl | rfl | rfl
  · rw [w64 (by omega) (by omega)]; omega
  · rw [w64 (by omega) (by omega)]; omega
  · rw [w64 (by omega) (by omega)]; omega

theorem lev48 {β : Type} {F : Nat} {x f c u : Int} (hf : 2 ≤ f ∧ f ≤ 4) {K : List Int → Option β} : ∀ (k : Nat) (n : Int) (acc : List Int), 1 ≤ n → n ≤ 128 → n < k → (acc.length : Int) + n ≤ 2000 →
    f48_1_l5 F x f c u K k n acc = K (acc ++ lv k n f)
  | 0, n, acc, h1, h2, h3, h4 => by omega
  | k + 1, n, acc, h1, h2, h3, h4 => by
    simp only [f48_1_l5, lv]
    by_cases hn : n > 1
    · obtain ⟨e, g1, g2⟩ := step_eq hf hn h2
      rw [e]
      have h0 : ¬ f = 0 := by omega
      have hl : (acc.length + 1) * 8 ≤ 70368744177664 := by omega
      simp only [hn, h0, hl, decide_true, decide_false, cond_true, cond_false, if_true]
      rw [lev48 hf k _ _ g1 (by omega) (by omega) (by simp; omega)]
      simp
    · simp [hn]

theorem lev49 {β : Type} {F : Nat} {x f c u : Int} (hf : 2 ≤ f ∧ f ≤ 4) {K : List Int → Option β} : ∀ (k : Nat) (n : Int) (acc : List Int), 1 ≤ n → n ≤ 128 → n < k → (acc.length : Int) + n ≤ 2000 →
    f49_1_l5 F x f c u K k n acc = K (acc ++ lv k n f)
  | 0, n, acc, h1, h2, h3, h4 => by omega
  | k + 1, n, acc, h1, h2, h3, h4 => by
    simp only [f49_1_l5, lv]
    by_cases hn : n > 1
    · obtain ⟨e, g1, g2⟩ := step_eq hf hn h2
      rw [e]
      have h0 : ¬ f = 0 := by omega
      have hl : (acc.length + 1) * 8 ≤ 70368744177664 := by omega
      simp only [hn, h0, hl, decide_true, decide_false, cond_true, cond_false, if_true]
      rw [lev49 hf k _ _ g1 (by omega) (by omega) (by simp; omega)]
      simp
    · simp [hn]

theorem lv_ok {f : Int} (hf : 2 ≤ f ∧ f ≤ 4) : ∀ (k : Nat) (n : Int), 1 ≤ n → n ≤ 128 → ((lv k n f).length : Int) < n ∧ ∀ y ∈ lv k n f, 1 ≤ y ∧ y ≤ 128
  | 0, n, h1, h2 => by simp [lv]; omega
  | k + 1, n, h1, h2 => by
    simp only [lv]
    by_cases hn : n > 1
    · obtain ⟨e, g1, g2⟩ := step_eq hf hn h2
      obtain ⟨q1, q2⟩ := lv_ok hf k _ g1 (by omega)
      rw [if_pos hn]
      refine ⟨by simp; omega, fun y hy => ?_⟩
      rcases List.mem_cons.1 hy with rfl | hy
      · omega
      · exact q2 y hy
    · rw [if_neg hn]; simp; omega

/-- The geometry can be. -/
def rt (n f c u : Int) : Prop := (1 ≤ n ∧ n ≤ 128) ∧ (2 ≤ f ∧ f ≤ 4) ∧ (0 ≤ c ∧ c ≤ 64) ∧ (1 ≤ u ∧ u ≤ 320)
instance (n f c u : Int) : Decidable (rt n f c u) := by unfold rt; infer_instance

theorem cnd {β : Type} {p q : Prop} [Decidable p] [Decidable q] {K : Bool → Option β} : cond (decide p) (K (decide q)) (K false) = K (decide (p ∧ q)) := by
  by_cases h : p <;> simp [h]

theorem within87 {β : Type} {F : Nat} {a b c : Int} {K : Bool → Option β} : f87_1 F a b c K = K (decide (a ≥ b ∧ a ≤ c)) := by
  simp only [f87_1, cnd]

theorem right46 {β : Type} {F : Nat} {n f c u : Int} {K : Bool → Option β} : f46_1 F n f c u K = K (decide (rt n f c u)) := by
  simp only [f46_1, within87, cnd]
  congr 1

theorem right47 {β : Type} {F : Nat} {n f c u : Int} {K : Bool → Option β} : f47_1 F n f c u K = K (decide (rt n f c u)) := by
  simp only [f47_1, cnd]
  congr 1
  exact decide_eq_decide.2 (by unfold rt; omega)

def levels (n f c u : Int) : List Int := if rt n f c u then n :: lv 20000 n f else []

theorem levels48 {β : Type} {n f c u : Int} {K : List Int → Option β} : f48_1 20000 n f c u K = K (levels n f c u) := by
  simp only [f48_1, right46, levels]
  by_cases h : rt n f c u
  · simp only [h, decide_true, Bool.not_true, cond_false, if_true]
    rw [lev48 h.2.1 20000 n [n] h.1.1 h.1.2 (by have := h.1.2; omega) (by have := h.1.2; simp; omega)]
    rfl
  · simp [h]

theorem levels49 {β : Type} {n f c u : Int} {K : List Int → Option β} : f49_1 20000 n f c u K = K (levels n f c u) := by
  simp only [f49_1, right47, levels]
  by_cases h : rt n f c u
  · simp only [h, decide_true, Bool.not_true, cond_false, if_true]
    rw [lev49 h.2.1 20000 n [n] h.1.1 h.1.2 (by have := h.1.2; omega) (by have := h.1.2; simp; omega)]
    rfl
  · simp [h]

theorem levels_ok (n f c u : Int) : (levels n f c u).length ≤ 128 ∧ ∀ y ∈ levels n f c u, 1 ≤ y ∧ y ≤ 128 := by
  unfold levels
  split
  · rename_i h
    obtain ⟨q1, q2⟩ := lv_ok h.2.1 20000 n h.1.1 h.1.2
    have := h.1
    refine ⟨by simp; omega, fun y hy => ?_⟩
    rcases List.mem_cons.1 hy with rfl | hy
    · omega
    · exact q2 y hy
  · simp

def sumI : List Int → Int
  | [] => 0
  | x :: r => x + sumI r

theorem sumI_ok : ∀ (l : List Int), (∀ y ∈ l, 1 ≤ y ∧ y ≤ 128) → (l.length : Int) ≤ sumI l ∧ sumI l ≤ 128 * l.length
  | [], _ => by simp [sumI]
  | x :: r, h => by
    obtain ⟨q1, q2⟩ := sumI_ok r fun y hy => h y (by simp [hy])
    have := h x (by simp)
    simp only [sumI, List.length_cons]
    omega

theorem sum50 {β : Type} {F : Nat} {K : Int → Option β} (l : List Int) (hl : l.length ≤ 128) (hy : ∀ y ∈ l, 1 ≤ y ∧ y ≤ 128) : ∀ (r : List Int) (i : Nat) (k : Nat) (s : Int), l.drop i = r → i ≤ l.length → r.length < k → 0 ≤ s → s ≤ 128 * i →
    f50_1_l3 F ((l.length : Nat) : Int) l K k s (i : Int) = K (s + sumI r)
  | [], i, k, s, hd, hi, hk, h0, h1 => by
    cases k with
    | zero => omega
    | succ k =>
      have : i = l.length := by
        have := congrArg List.length hd
        simp at this; omega
      subst this
      simp [f50_1_l3, sumI]
  | x :: r, i, k, s, hd, hi, hk, h0, h1 => by
    cases k with
    | zero => omega
    | succ k =>
      have hlen : l.length - i = r.length + 1 := by
        have := congrArg List.length hd
        simpa using this
      have hlt : i < l.length := by omega
      have hx : l[i]? = some x := by
        have := congrArg (·[0]?) hd
        simpa using this
      have hm := hy x (List.mem_of_getElem? hx)
      have hdr : l.drop (i + 1) = r := by
        rw [← List.drop_drop, hd]; rfl
      simp only [f50_1_l3]
      have e1 : decide ((i : Int) < ((l.length : Nat) : Int)) = true := by simp; omega
      have e2 : decide ((0 : Int) ≤ (i : Int) ∧ (i : Int) < ((l.length : Nat) : Int)) = true := by simp; omega
      have e3 : decide (0 + (i : Int).toNat < l.length) = true := by simp; omega
      have e4 : l.getD (0 + (i : Int).toNat) 0 = x := by
        rw [List.getD_eq_getElem?_getD]; simp [hx]
      rw [e1, e2, e3, e4, cond_true, cond_true, cond_true, w64 (by omega) (by omega), w64 (by omega) (by omega)]
      have := sum50 (F := F) (K := K) l hl hy r (i + 1) k (s + x) hdr (by omega) (by simpa using hk) (by omega) (by omega)
      rw [show ((i : Int) + 1) = ((i + 1 : Nat) : Int) by omega, this]
      congr 1
      simp only [sumI]; omega

theorem sum51 {β : Type} {F : Nat} {K : Int → Option β} (l : List Int) (hl : l.length ≤ 128) (hy : ∀ y ∈ l, 1 ≤ y ∧ y ≤ 128) : ∀ (r : List Int) (i : Nat) (k : Nat) (s : Int), l.drop i = r → i ≤ l.length → r.length < k → 0 ≤ s → s ≤ 128 * i →
    f51_1_l4 F l K k s (i : Int) = K (s + sumI r)
  | [], i, k, s, hd, hi, hk, h0, h1 => by
    cases k with
    | zero => omega
    | succ k =>
      have : i = l.length := by
        have := congrArg List.length hd
        simp at this; omega
      subst this
      simp [f51_1_l4, sumI]
  | x :: r, i, k, s, hd, hi, hk, h0, h1 => by
    cases k with
    | zero => omega
    | succ k =>
      have hlen : l.length - i = r.length + 1 := by
        have := congrArg List.length hd
        simpa using this
      have hlt : i < l.length := by omega
      have hx : l[i]? = some x := by
        have := congrArg (·[0]?) hd
        simpa using this
      have hm := hy x (List.mem_of_getElem? hx)
      have hdr : l.drop (i + 1) = r := by
        rw [← List.drop_drop, hd]; rfl
      simp only [f51_1_l4]
      have e1 : decide ((i : Int) < ((l.length : Nat) : Int)) = true := by simp; omega
      have e2 : decide ((0 : Int) ≤ (i : Int) ∧ (i : Int) < ((l.length : Nat) : Int)) = true := by simp; omega
      have e3 : decide (0 + (i : Int).toNat < l.length) = true := by simp; omega
      have e4 : l.getD (0 + (i : Int).toNat) 0 = x := by
        rw [List.getD_eq_getElem?_getD]; simp [hx]
      rw [e1, e2, e3, e4, cond_true, cond_true, cond_true, w64 (by omega) (by omega), w64 (by omega) (by omega)]
      have := sum51 (F := F) (K := K) l hl hy r (i + 1) k (s + x) hdr (by omega) (by simpa using hk) (by omega) (by omega)
      rw [show ((i : Int) + 1) = ((i + 1 : Nat) : Int) by omega, this]
      congr 1
      simp only [sumI]; omega

def nodes (n f c u : Int) : Int := sumI (levels n f c u)

theorem nodes_ok (n f c u : Int) : 0 ≤ nodes n f c u ∧ nodes n f c u ≤ 16384 ∧ (rt n f c u → 1 ≤ nodes n f c u) ∧ (¬ rt n f c u → nodes n f c u = 0) := by
  obtain ⟨h1, h2⟩ := levels_ok n f c u
  obtain ⟨h3, h4⟩ := sumI_ok _ h2
  unfold nodes
  refine ⟨by omega, by omega, fun h => ?_, fun h => by simp [levels, h, sumI]⟩
  have : 1 ≤ (levels n f c u).length := by simp [levels, h]
  omega

theorem nodes50 {β : Type} {n f c u : Int} {K : Int → Option β} : f50_1 20000 n f c u K = K (nodes n f c u) := by
  obtain ⟨h1, h2⟩ := levels_ok n f c u
  simp only [f50_1, levels48]
  have := sum50 (F := 20000) (K := K) (levels n f c u) h1 h2 _ 0 20000 0 rfl (by omega) (by simp; omega) (by omega) (by omega)
  simp only [List.drop_zero, Int.zero_add] at this
  exact this

theorem nodes51 {β : Type} {n f c u : Int} {K : Int → Option β} : f51_1 20000 n f c u K = K (nodes n f c u) := by
  obtain ⟨h1, h2⟩ := levels_ok n f c u
  simp only [f51_1, levels49]
  have := sum51 (F := 20000) (K := K) (levels n f c u) h1 h2 _ 0 20000 0 rfl (by omega) (by simp; omega) (by omega) (by omega)
  simp only [List.drop_zero, Int.zero_add] at this
  exact this


theorem wrap2 {x : Int} (h : 0 ≤ x ∧ x ≤ 320) : IntKind.i64.wrap (2 * x) = 2 * x := w64 (by omega) (by omega)

def ar (c u s : Int) : Int := if s = 0 then 2 * c else if s = 1 then 2 * u else -1

theorem ar_ok {n f c u s : Int} (h : rt n f c u) : -1 ≤ ar c u s ∧ ar c u s ≤ 640 ∧ ((s = 0 ∨ s = 1) ↔ 0 ≤ ar c u s) := by
  unfold rt at h; unfold ar
  split
  · omega
  · split <;> omega

def sz (n f c u s : Int) : Int := if rt n f c u ∧ 0 ≤ ar c u s then 6 + n + nodes n f c u + ar c u s else 0

theorem area86 {β : Type} {n f c u s : Int} {K : Int → Bool → Option β} (z : Option β) (hK : ∀ x, K x false = z) : f86_1 20000 n f c u s K = if rt n f c u ∧ 0 ≤ ar c u s then K (ar c u s) true else z := by
  simp only [f86_1, right46]
  by_cases hr : rt n f c u
  · have h := hr
    unfold rt at h
    by_cases h0 : s = 0
    · subst h0
      have e3 : ar c u 0 = 2 * c := rfl
      simp only [beq_self_eq_true, cond_true, hr, decide_true, wrap2 (x := c) (by omega), e3, true_and]
      rw [if_pos (by omega)]
    · by_cases h1 : s = 1
      · subst h1
        have e : ((1 : Int) == 0) = false := rfl
        have e3 : ar c u 1 = 2 * u := rfl
        simp only [e, beq_self_eq_true, cond_true, cond_false, hr, decide_true, wrap2 (x := u) (by omega), e3, true_and]
        rw [if_pos (by omega)]
      · have e0 : (s == 0) = false := by simpa using h0
        have e1 : (s == 1) = false := by simpa using h1
        simp only [e0, e1, cond_false, hK]
        rw [if_neg (by simp [ar, h0, h1])]
  · simp only [hr, decide_false, hK, false_and, if_false]
    cases s == 0 <;> cases s == 1 <;> rfl

theorem area89 {β : Type} {n f c u s : Int} {K : Int → Option β} (h : rt n f c u) : f89_1 20000 n f c u s K = K (ar c u s) := by
  unfold rt at h
  simp only [f89_1, ar]
  by_cases h0 : s = 0
  · subst h0; simp [wrap2 (x := c) (by omega)]
  · by_cases h1 : s = 1
    · subst h1; simp [wrap2 (x := u) (by omega)]
    · have e0 : (s == 0) = false := by simpa using h0
      have e1 : (s == 1) = false := by simpa using h1
      simp only [e0, e1, cond_false, h0, h1, if_false]

theorem area89' {β : Type} {n f c u s : Int} {K : Int → Option β} (z : Option β) (hK : ∀ x, K x = z) : f89_1 20000 n f c u s K = z := by
  simp only [f89_1, hK]
  cases s == 0 <;> cases s == 1 <;> rfl

theorem size38 {β : Type} {n f c u s : Int} {K : Int → Option β} : f38_1 20000 n f c u s K = K (sz n f c u s) := by
  obtain ⟨n0, n1, n2, n3⟩ := nodes_ok n f c u
  simp only [f38_1, nodes50]
  rw [area86 (K 0) (fun x => rfl)]
  unfold sz
  split
  · rename_i h
    have h1 := ar_ok (s := s) h.1
    have h2 := h.1
    unfold rt at h2
    simp only [Bool.not_true, cond_false]
    rw [w64 (x := 6 + n) (by omega) (by omega), w64 (x := 6 + n + nodes n f c u) (by omega) (by omega), w64 (by omega) (by omega)]
  · rfl

theorem size63 {β : Type} {n f c u s : Int} {K : Int → Option β} : f63_1 20000 n f c u s K = K (sz n f c u s) := by
  obtain ⟨n0, n1, n2, n3⟩ := nodes_ok n f c u
  simp only [f63_1, nodes51, right47]
  by_cases hr : rt n f c u
  · rw [area89 hr]
    have h1 := ar_ok (s := s) hr
    have h2 := hr
    unfold rt at h2
    simp only [hr, decide_true, Bool.not_true, cond_false]
    unfold sz
    by_cases hz : ar c u s < 0
    · simp only [hz, decide_true, cond_true]
      rw [if_neg (by omega)]
    · simp only [hz, decide_false, cond_false]
      rw [if_pos ⟨hr, by omega⟩, w64 (x := 6 + n) (by omega) (by omega), w64 (x := 6 + n + nodes n f c u) (by omega) (by omega), w64 (by omega) (by omega)]
  · rw [area89' (K 0) (fun x => by simp [hr])]
    simp [sz, hr]

theorem data_eq {β : Type} {n f c u i : Int} {K : Int → Option β} : f64_1 20000 n f c u i K = f65_1 20000 n f c u i K := by
  simp only [f64_1, f65_1, right46, right47, within87]
  by_cases hr : rt n f c u
  · have h2 := hr
    unfold rt at h2
    simp only [hr, decide_true, Bool.not_true, cond_false]
    rw [w64 (x := n - 1) (by omega) (by omega)]
    by_cases h3 : i < 0
    · have e : decide (i ≥ 0 ∧ i ≤ n - 1) = false := by simp; omega
      simp only [e, h3, decide_true, Bool.not_false, cond_true]
    · by_cases h4 : i ≥ n
      · have e : decide (i ≥ 0 ∧ i ≤ n - 1) = false := by simp; omega
        simp only [e, h3, h4, decide_true, decide_false, Bool.not_false, cond_true, cond_false]
      · have e : decide (i ≥ 0 ∧ i ≤ n - 1) = true := by simp; omega
        simp only [e, Bool.not_true, cond_false, h3, h4, decide_false]
  · simp [hr]

theorem data_val {β : Type} {n f c u i : Int} : ∃ v : Int, ∀ K : Int → Option β, f65_1 20000 n f c u i K = K v := by
  simp only [f65_1, right47]
  by_cases hr : rt n f c u <;> by_cases h3 : i < 0 <;> by_cases h4 : i ≥ n <;> simp only [hr, h3, h4, decide_true, decide_false, Bool.not_true, Bool.not_false, cond_true, cond_false] <;> exact ⟨_, fun K => rfl⟩

theorem node_eq {β : Type} {n f c u i : Int} {K : Int → Option β} : f66_1 20000 n f c u i K = f67_1 20000 n f c u i K := by
  obtain ⟨n0, n1, n2, n3⟩ := nodes_ok n f c u
  simp only [f66_1, f67_1, f54_1, right46, nodes50, nodes51, within87]
  by_cases hr : rt n f c u
  · have := n2 hr
    simp only [hr, decide_true, Bool.not_true, cond_false]
    rw [w64 (x := nodes n f c u - 1) (by omega) (by omega)]
    have e : (if nodes n f c u - 1 > 0 then nodes n f c u - 1 else 0) = nodes n f c u - 1 := by split <;> omega
    rw [e]
    by_cases h3 : i < 0
    · have e : decide (i ≥ 0 ∧ i ≤ nodes n f c u - 1) = false := by simp; omega
      simp only [e, h3, decide_true, Bool.not_false, cond_true]
    · by_cases h4 : i ≥ nodes n f c u
      · have e : decide (i ≥ 0 ∧ i ≤ nodes n f c u - 1) = false := by simp; omega
        simp only [e, h3, h4, decide_true, decide_false, Bool.not_false, cond_true, cond_false]
      · have e : decide (i ≥ 0 ∧ i ≤ nodes n f c u - 1) = true := by simp; omega
        simp only [e, Bool.not_true, cond_false, h3, h4, decide_false]
  · have := n3 hr
    simp only [hr, decide_false, Bool.not_false, cond_true]
    by_cases h3 : i < 0
    · simp [h3]
    · have h4 : i ≥ nodes n f c u := by omega
      simp [h3, h4]

theorem node_val {β : Type} {n f c u i : Int} : ∃ v : Int, ∀ K : Int → Option β, f67_1 20000 n f c u i K = K v := by
  simp only [f67_1, nodes51]
  by_cases h3 : i < 0 <;> by_cases h4 : i ≥ nodes n f c u <;> simp only [h3, h4, decide_true, decide_false, cond_true, cond_false] <;> exact ⟨_, fun K => rfl⟩

theorem area_eq {β : Type} {n f c u s i : Int} {K : Int → Option β} : f68_1 20000 n f c u s i K = f69_1 20000 n f c u s i K := by
  obtain ⟨n0, n1, n2, n3⟩ := nodes_ok n f c u
  simp only [f68_1, f69_1, right47, nodes50, nodes51, within87]
  rw [area86 (K (-1)) (fun x => rfl)]
  by_cases hr : rt n f c u
  · have h1 := ar_ok (s := s) hr
    rw [area89 hr]
    simp only [hr, true_and, decide_true, Bool.not_true, cond_false]
    by_cases hz : 0 ≤ ar c u s
    · rw [if_pos hz, w64 (x := ar c u s - 1) (by omega) (by omega)]
      by_cases h3 : i < 0
      · have e : decide (i ≥ 0 ∧ i ≤ ar c u s - 1) = false := by simp; omega
        simp only [e, h3, decide_true, Bool.not_false, cond_true]
      · by_cases h4 : i ≥ ar c u s
        · have e : decide (i ≥ 0 ∧ i ≤ ar c u s - 1) = false := by simp; omega
          simp only [e, h3, h4, decide_true, decide_false, Bool.not_false, cond_true, cond_false]
        · have e : decide (i ≥ 0 ∧ i ≤ ar c u s - 1) = true := by simp; omega
          simp only [e, Bool.not_true, cond_false, h3, h4, decide_false]
    · rw [if_neg hz]
      by_cases h3 : i < 0
      · simp [h3]
      · have h4 : i ≥ ar c u s := by omega
        simp [h3, h4]
  · simp [hr]

theorem area_val {β : Type} {n f c u s i : Int} : ∃ v : Int, ∀ K : Int → Option β, f69_1 20000 n f c u s i K = K v := by
  simp only [f69_1, nodes51, right47]
  by_cases hr : rt n f c u
  · simp only [area89 hr]
    by_cases h3 : i < 0 <;> by_cases h4 : i ≥ ar c u s <;> simp only [hr, h3, h4, decide_true, decide_false, Bool.not_true, cond_true, cond_false] <;> exact ⟨_, fun K => rfl⟩
  · simp only [hr, decide_false, Bool.not_false, cond_true]
    exact ⟨_, fun K => rfl⟩

end Go.Proofs.Ytlokielmpdjedaa.X
end

section
namespace Go.Proofs.Ytlokielmpdjedaa.X
open Go Go.Proofs.Ytlokielmpdjedaa.Ev Go.Proofs
set_option linter.unusedVariables false
/-! geom.Height -/
noncomputable def f52_1 {β : Type} (F : Nat) (a1 : Int) (a2 : Int) (a3 : Int) (a4 : Int) (K0 : Int → Option β) : Option β := f48_1 F a1 a2 a3 a4 (fun x1 => K0 (if IntKind.i64.wrap (((x1.length : Nat) : Int) - 1) > 0 then IntKind.i64.wrap (((x1.length : Nat) : Int) - 1) else 0)) 
def sh52_1 : Sh := ⟨[.agg [.int .i64, .int .i64, .int .i64, .int .i64]], []⟩
noncomputable def S52_1 (F : Nat) (o : Summ) : Summ := mkS sh52_1 (fun d K => f52_1 F d.1.1.1 d.1.1.2.1 d.1.1.2.2.1 d.1.1.2.2.2.1 (fun (y0 : Int) => K [.lf (.int .i64 y0)] [])) o
noncomputable def code52 : Code := bodyOf Try.f52
theorem scopes52 : scopesOf code52 = [] := by kernel_rfl
theorem loops52 : loopsOf code52 = [] := by kernel_rfl
theorem enter52 : ∀ args w, (callFunc 52 args).run Try.prog w = .ok (.enter 52 args) w := enter_of (fn := Try.f52) (by kernel_rfl) (by kernel_rfl) (by kernel_rfl)
noncomputable def T52_1 (F : Nat) : FuncId → Option Summ := tab [(48, (S48_1 F noS))]
noncomputable def LT52_1 (F : Nat) : Nat → Option LoopS := ltab []
theorem E52_1g (F : Nat) (c48_1 : Int → Int → Int → Int → (List Int → Option Res) → Option Res)   (d : sh52_1.den) (K : KF) : evBody Try.prog (tab [(48, (mkS sh48_1 (fun d K => c48_1 d.1.1.1 d.1.1.2.1 d.1.1.2.2.1 d.1.1.2.2.2.1 (fun (y0 : List Int) => K [.lf (.full 0)] [some ⟨false, [.seq (.int .i64) 0 y0]⟩])) noS))]) 8 0 (ltab []) code52 Try.f52.results.toList (encT sh52_1.vs d.1) (encH sh52_1.h d.2) K = (fun (a1 : Int) (a2 : Int) (a3 : Int) (a4 : Int) (K0 : (Int → Option Res)) => c48_1 a1 a2 a3 a4 (fun x1 => K0 (if IntKind.i64.wrap (((x1.length : Nat) : Int) - 1) > 0 then IntKind.i64.wrap (((x1.length : Nat) : Int) - 1) else 0)) ) d.1.1.1 d.1.1.2.1 d.1.1.2.2.1 d.1.1.2.2.2.1 (fun (y0 : Int) => K [.lf (.int .i64 y0)] []) := by kernel_rfl
theorem E52_1 (F : Nat) (d : sh52_1.den) (K : KF) : evBody Try.prog (T52_1 F) 8 0 (LT52_1 F) code52 Try.f52.results.toList (encT sh52_1.vs d.1) (encH sh52_1.h d.2) K = f52_1 F d.1.1.1 d.1.1.2.1 d.1.1.2.2.1 d.1.1.2.2.2.1 (fun (y0 : Int) => K [.lf (.int .i64 y0)] []) := Eq.mp (by kernel_rfl) (E52_1g F (f48_1 F)   d K)
theorem S52_1_ok (F : Nat) (o : Summ) (ho : SoundFn Try.prog 52 o) : SoundFn Try.prog 52 (S52_1 F o) :=
  soundFn_of (fn := Try.f52) (c := code52) (by kernel_rfl) (tab_cons (S48_1_ok F _ (noS_sound enter48)) tab_nil) (by kernel_rfl) (by kernel_rfl) ho (by rw [loops52]; exact loopsOK_nil) (by rw [scopes52]; exact scopesOK_nil) (E52_1 F)
end Go.Proofs.Ytlokielmpdjedaa.X
end

section
namespace Go.Proofs.Ytlokielmpdjedaa.X
open Go Go.Proofs.Ytlokielmpdjedaa.Ev Go.Proofs
set_option linter.unusedVariables false
/-! pentimentoref07.Height -/
noncomputable def f53_1 {β : Type} (F : Nat) (a1 : Int) (a2 : Int) (a3 : Int) (a4 : Int) (K0 : Int → Option β) : Option β := f49_1 F a1 a2 a3 a4 (fun x1 => K0 (if 0 > IntKind.i64.wrap (((x1.length : Nat) : Int) - 1) then 0 else IntKind.i64.wrap (((x1.length : Nat) : Int) - 1))) 
def sh53_1 : Sh := ⟨[.agg [.int .i64, .int .i64, .int .i64, .int .i64]], []⟩
noncomputable def S53_1 (F : Nat) (o : Summ) : Summ := mkS sh53_1 (fun d K => f53_1 F d.1.1.1 d.1.1.2.1 d.1.1.2.2.1 d.1.1.2.2.2.1 (fun (y0 : Int) => K [.lf (.int .i64 y0)] [])) o
noncomputable def code53 : Code := bodyOf Try.f53
theorem scopes53 : scopesOf code53 = [] := by kernel_rfl
theorem loops53 : loopsOf code53 = [] := by kernel_rfl
theorem enter53 : ∀ args w, (callFunc 53 args).run Try.prog w = .ok (.enter 53 args) w := enter_of (fn := Try.f53) (by kernel_rfl) (by kernel_rfl) (by kernel_rfl)
noncomputable def T53_1 (F : Nat) : FuncId → Option Summ := tab [(49, (S49_1 F noS))]
noncomputable def LT53_1 (F : Nat) : Nat → Option LoopS := ltab []
theorem E53_1g (F : Nat) (c49_1 : Int → Int → Int → Int → (List Int → Option Res) → Option Res)   (d : sh53_1.den) (K : KF) : evBody Try.prog (tab [(49, (mkS sh49_1 (fun d K => c49_1 d.1.1.1 d.1.1.2.1 d.1.1.2.2.1 d.1.1.2.2.2.1 (fun (y0 : List Int) => K [.lf (.full 0)] [some ⟨false, [.seq (.int .i64) 0 y0]⟩])) noS))]) 8 0 (ltab []) code53 Try.f53.results.toList (encT sh53_1.vs d.1) (encH sh53_1.h d.2) K = (fun (a1 : Int) (a2 : Int) (a3 : Int) (a4 : Int) (K0 : (Int → Option Res)) => c49_1 a1 a2 a3 a4 (fun x1 => K0 (if 0 > IntKind.i64.wrap (((x1.length : Nat) : Int) - 1) then 0 else IntKind.i64.wrap (((x1.length : Nat) : Int) - 1))) ) d.1.1.1 d.1.1.2.1 d.1.1.2.2.1 d.1.1.2.2.2.1 (fun (y0 : Int) => K [.lf (.int .i64 y0)] []) := by kernel_rfl
theorem E53_1 (F : Nat) (d : sh53_1.den) (K : KF) : evBody Try.prog (T53_1 F) 8 0 (LT53_1 F) code53 Try.f53.results.toList (encT sh53_1.vs d.1) (encH sh53_1.h d.2) K = f53_1 F d.1.1.1 d.1.1.2.1 d.1.1.2.2.1 d.1.1.2.2.2.1 (fun (y0 : Int) => K [.lf (.int .i64 y0)] []) := Eq.mp (by kernel_rfl) (E53_1g F (f49_1 F)   d K)
theorem S53_1_ok (F : Nat) (o : Summ) (ho : SoundFn Try.prog 53 o) : SoundFn Try.prog 53 (S53_1 F o) :=
  soundFn_of (fn := Try.f53) (c := code53) (by kernel_rfl) (tab_cons (S49_1_ok F _ (noS_sound enter49)) tab_nil) (by kernel_rfl) (by kernel_rfl) ho (by rw [loops53]; exact loopsOK_nil) (by rw [scopes53]; exact scopesOK_nil) (E53_1 F)
end Go.Proofs.Ytlokielmpdjedaa.X
end

section
namespace Go.Proofs.Ytlokielmpdjedaa.X
open Go Go.Proofs.Ytlokielmpdjedaa.Ev Go.Proofs
set_option linter.unusedVariables false
/-! pentimentoref07.Root -/
noncomputable def f55_1 {β : Type} (F : Nat) (a1 : Int) (a2 : Int) (a3 : Int) (a4 : Int) (K0 : Int → Option β) : Option β := f51_1 F a1 a2 a3 a4 (fun x1 => K0 (if 0 > IntKind.i64.wrap (x1 - 1) then 0 else IntKind.i64.wrap (x1 - 1))) 
def sh55_1 : Sh := ⟨[.agg [.int .i64, .int .i64, .int .i64, .int .i64]], []⟩
noncomputable def S55_1 (F : Nat) (o : Summ) : Summ := mkS sh55_1 (fun d K => f55_1 F d.1.1.1 d.1.1.2.1 d.1.1.2.2.1 d.1.1.2.2.2.1 (fun (y0 : Int) => K [.lf (.int .i64 y0)] [])) o
noncomputable def code55 : Code := bodyOf Try.f55
theorem scopes55 : scopesOf code55 = [] := by kernel_rfl
theorem loops55 : loopsOf code55 = [] := by kernel_rfl
theorem enter55 : ∀ args w, (callFunc 55 args).run Try.prog w = .ok (.enter 55 args) w := enter_of (fn := Try.f55) (by kernel_rfl) (by kernel_rfl) (by kernel_rfl)
noncomputable def T55_1 (F : Nat) : FuncId → Option Summ := tab [(51, (S51_1 F noS))]
noncomputable def LT55_1 (F : Nat) : Nat → Option LoopS := ltab []
theorem E55_1g (F : Nat) (c51_1 : Int → Int → Int → Int → (Int → Option Res) → Option Res)   (d : sh55_1.den) (K : KF) : evBody Try.prog (tab [(51, (mkS sh51_1 (fun d K => c51_1 d.1.1.1 d.1.1.2.1 d.1.1.2.2.1 d.1.1.2.2.2.1 (fun (y0 : Int) => K [.lf (.int .i64 y0)] [])) noS))]) 7 0 (ltab []) code55 Try.f55.results.toList (encT sh55_1.vs d.1) (encH sh55_1.h d.2) K = (fun (a1 : Int) (a2 : Int) (a3 : Int) (a4 : Int) (K0 : (Int → Option Res)) => c51_1 a1 a2 a3 a4 (fun x1 => K0 (if 0 > IntKind.i64.wrap (x1 - 1) then 0 else IntKind.i64.wrap (x1 - 1))) ) d.1.1.1 d.1.1.2.1 d.1.1.2.2.1 d.1.1.2.2.2.1 (fun (y0 : Int) => K [.lf (.int .i64 y0)] []) := by kernel_rfl
theorem E55_1 (F : Nat) (d : sh55_1.den) (K : KF) : evBody Try.prog (T55_1 F) 7 0 (LT55_1 F) code55 Try.f55.results.toList (encT sh55_1.vs d.1) (encH sh55_1.h d.2) K = f55_1 F d.1.1.1 d.1.1.2.1 d.1.1.2.2.1 d.1.1.2.2.2.1 (fun (y0 : Int) => K [.lf (.int .i64 y0)] []) := Eq.mp (by kernel_rfl) (E55_1g F (f51_1 F)   d K)
theorem S55_1_ok (F : Nat) (o : Summ) (ho : SoundFn Try.prog 55 o) : SoundFn Try.prog 55 (S55_1 F o) :=
  soundFn_of (fn := Try.f55) (c := code55) (by kernel_rfl) (tab_cons (S51_1_ok F _ (noS_sound enter51)) tab_nil) (by kernel_rfl) (by kernel_rfl) ho (by rw [loops55]; exact loopsOK_nil) (by rw [scopes55]; exact scopesOK_nil) (E55_1 F)
end Go.Proofs.Ytlokielmpdjedaa.X
end

section
namespace Go.Proofs.Ytlokielmpdjedaa.X
open Go Go.Proofs.Ytlokielmpdjedaa.Ev Go.Proofs
set_option linter.unusedVariables false
/-! pentimentoref07.Children -/
noncomputable def f59_1_l10 {β : Type} (F : Nat) (v10 : Int) (v11 : Int) (v12 : Int) (v13 : Int) (v15 : Int) (v16 : Int) (v17 : Int) (v18 : Int) (v19 : List Int) (K0 : List Int → Option β) : Nat → Int → List Int → Option β
  | 0, _, _ => none
  | k + 1, v14, v20 => cond (decide (v14 < v16)) (cond (decide ((0 : Int) ≤ v12 ∧ v12 < ((v19.length : Nat) : Int))) (cond (decide (0 + v12.toNat < v19.length)) (cond (decide (IntKind.i64.wrap ((IntKind.i64.wrap ((IntKind.i64.wrap (v10 - v13)) * v16)) + v14) < v19.getD (0 + v12.toNat) 0)) (cond (decide ((v20.length + 1) * 8 ≤ 70368744177664)) (f59_1_l10 F v10 v11 v12 v13 v15 v16 v17 v18 v19 K0 k (IntKind.i64.wrap (v14 + 1)) (v20 ++ [IntKind.i64.wrap (v11 + (IntKind.i64.wrap ((IntKind.i64.wrap ((IntKind.i64.wrap (v10 - v13)) * v16)) + v14)))])) none) (f59_1_l10 F v10 v11 v12 v13 v15 v16 v17 v18 v19 K0 k (IntKind.i64.wrap (v14 + 1)) v20)) none) none) (K0 v20)
noncomputable def f59_1_l4 {β : Type} (F : Nat) (v2 : Int) (v5 : Int) (v6 : Int) (v7 : Int) (v8 : Int) (v9 : List Int) (K0 : List Int → Option β) (K1 : Option β) : Nat → Int → Int → Option β
  | 0, _, _ => none
  | k + 1, v3, v4 => cond (decide (IntKind.i64.wrap (v4 + 1) < ((v9.length : Nat) : Int))) (cond (decide ((0 : Int) ≤ v4 ∧ v4 < ((v9.length : Nat) : Int))) (cond (decide (0 + v4.toNat < v9.length)) (cond (decide (v2 ≥ IntKind.i64.wrap (v3 + (v9.getD (0 + v4.toNat) 0)))) (cond (decide ((0 : Int) ≤ IntKind.i64.wrap (v4 + 1) ∧ IntKind.i64.wrap (v4 + 1) < ((v9.length : Nat) : Int))) (cond (decide (0 + ((IntKind.i64.wrap (v4 + 1)).toNat) < v9.length)) (cond (decide (v2 < IntKind.i64.wrap ((IntKind.i64.wrap (v3 + (v9.getD (0 + v4.toNat) 0))) + (v9.getD (0 + ((IntKind.i64.wrap (v4 + 1)).toNat)) 0)))) (f59_1_l10 F v2 v3 v4 (IntKind.i64.wrap (v3 + (v9.getD (0 + v4.toNat) 0))) v5 v6 v7 v8 v9 (fun x21 => K0 x21) F 0 []) (f59_1_l4 F v2 v5 v6 v7 v8 v9 K0 K1 k (IntKind.i64.wrap (v3 + (v9.getD (0 + v4.toNat) 0))) (IntKind.i64.wrap (v4 + 1)))) none) none) (f59_1_l4 F v2 v5 v6 v7 v8 v9 K0 K1 k (IntKind.i64.wrap (v3 + (v9.getD (0 + v4.toNat) 0))) (IntKind.i64.wrap (v4 + 1)))) none) none) (K1)
noncomputable def f59_1 {β : Type} (F : Nat) (a1 : Int) (a2 : Int) (a3 : Int) (a4 : Int) (a5 : Int) (K0 : List Int → Option β) : Option β := f49_1 F a1 a2 a3 a4 (fun x1 => f59_1_l4 F a5 a1 a2 a3 a4 x1 (fun x22 => K0 x22) (K0 []) F 0 0) 
def sh59_1 : Sh := ⟨[.agg [.int .i64, .int .i64, .int .i64, .int .i64], .lf (.int .i64)], []⟩
noncomputable def S59_1 (F : Nat) (o : Summ) : Summ := mkS sh59_1 (fun d K => f59_1 F d.1.1.1 d.1.1.2.1 d.1.1.2.2.1 d.1.1.2.2.2.1 d.1.2.1 (fun (y0 : List Int) => K [.lf (.full 0)] [some ⟨false, [.seq (.int .i64) 0 y0]⟩])) o
noncomputable def code59 : Code := bodyOf Try.f59
noncomputable def b59_0 : Code := cB (cB (cR (cL (cR (cR (cR (code59)))))))
noncomputable def b59_1 : Code := cB (cB (cR (cL (cR (cT (cR (cL (cR (cB (cL (cR (cB (cB (cR (cL (cR (cR (cR (code59)))))))))))))))))))
theorem scopes59 : scopesOf code59 = [] := by kernel_rfl
theorem loops59 : loopsOf code59 = [b59_0, b59_1] := by kernel_rfl
theorem enter59 : ∀ args w, (callFunc 59 args).run Try.prog w = .ok (.enter 59 args) w := enter_of (fn := Try.f59) (by kernel_rfl) (by kernel_rfl) (by kernel_rfl)
noncomputable def T59_1 (F : Nat) : FuncId → Option Summ := tab [(49, (S49_1 F noS))]
def sh59_1_l10 : Sh := ⟨[.lf (.int .i64), .lf (.ptr 0 0), .lf (.full 1), .lf (.int .i64), .lf (.int .i64), .lf (.int .i64), .lf (.full 2), .lf (.int .i64)], [some ⟨some false, [.int .i64, .int .i64, .int .i64, .int .i64]⟩, some ⟨some false, [.seq (.int .i64) 0]⟩, some ⟨some false, [.seq (.int .i64) 0]⟩]⟩
noncomputable def G59_1_10 (F k : Nat) : LoopS := mkG sh59_1_l10 [1, 2, 5, 6, 7, 8, 9, 10] (outT [(.exit 2, [9])]) (fun d K => f59_1_l10 F d.1.1 d.1.2.2.2.1 d.1.2.2.2.2.1 d.1.2.2.2.2.2.1 d.2.1.2.1 d.2.1.2.2.1 d.2.1.2.2.2.1 d.2.1.2.2.2.2.1 d.2.2.1.2.1 (fun (y5 : List Int) => K (.exit 2) [.tv (.lf (.full 2))] [some ⟨false, [.int .i64 d.2.1.2.1, .int .i64 d.2.1.2.2.1, .int .i64 d.2.1.2.2.2.1, .int .i64 d.2.1.2.2.2.2.1]⟩, some ⟨false, [.seq (.int .i64) 0 d.2.2.1.2.1]⟩, some ⟨false, [.seq (.int .i64) 0 y5]⟩]) k d.1.2.2.2.2.2.2.2.1 d.2.2.2.1.2.1)
def sh59_1_l4 : Sh := ⟨[.lf (.int .i64), .lf (.ptr 0 0), .lf (.full 1), .lf (.int .i64), .lf (.int .i64)], [some ⟨some false, [.int .i64, .int .i64, .int .i64, .int .i64]⟩, some ⟨some false, [.seq (.int .i64) 0]⟩]⟩
noncomputable def G59_1_4 (F k : Nat) : LoopS := mkG sh59_1_l4 [1, 2, 5, 6, 7] (outT [(.exit 0, []), (.ret, [4])]) (fun d K => f59_1_l4 F d.1.1 d.2.1.2.1 d.2.1.2.2.1 d.2.1.2.2.2.1 d.2.1.2.2.2.2.1 d.2.2.1.2.1 (fun (y5 : List Int) => K .ret [.tv (.lf (.full 2))] [some ⟨false, [.int .i64 d.2.1.2.1, .int .i64 d.2.1.2.2.1, .int .i64 d.2.1.2.2.2.1, .int .i64 d.2.1.2.2.2.2.1]⟩, some ⟨false, [.seq (.int .i64) 0 d.2.2.1.2.1]⟩, some ⟨false, [.seq (.int .i64) 0 y5]⟩]) (K (.exit 0) [] [some ⟨false, [.int .i64 d.2.1.2.1, .int .i64 d.2.1.2.2.1, .int .i64 d.2.1.2.2.2.1, .int .i64 d.2.1.2.2.2.2.1]⟩, some ⟨false, [.seq (.int .i64) 0 d.2.2.1.2.1]⟩]) k d.1.2.2.2.1 d.1.2.2.2.2.1)
noncomputable def LT59_1 (F : Nat) : Nat → Option LoopS := ltab [(10, G59_1_10 F F), (4, G59_1_4 F F)]
theorem L59_1_10g (F k : Nat) (c49_1 : Int → Int → Int → Int → (List Int → Option Res) → Option Res)  (l10 : Int → Int → Int → Int → Int → Int → Int → Int → List Int → (List Int → Option Res) → Nat → Int → List Int → Option Res) (X10 : LoopS) (X4 : LoopS) (d : sh59_1_l10.den) (K : KL) : (fun (v10 : Int) (v11 : Int) (v12 : Int) (v13 : Int) (v15 : Int) (v16 : Int) (v17 : Int) (v18 : Int) (v19 : List Int) (K0 : (List Int → Option Res)) (k : Nat) (v14 : Int) (v20 : List Int) => cond (decide (v14 < v16)) (cond (decide ((0 : Int) ≤ v12 ∧ v12 < ((v19.length : Nat) : Int))) (cond (decide (0 + v12.toNat < v19.length)) (cond (decide (IntKind.i64.wrap ((IntKind.i64.wrap ((IntKind.i64.wrap (v10 - v13)) * v16)) + v14) < v19.getD (0 + v12.toNat) 0)) (cond (decide ((v20.length + 1) * 8 ≤ 70368744177664)) (l10 v10 v11 v12 v13 v15 v16 v17 v18 v19 K0 k (IntKind.i64.wrap (v14 + 1)) (v20 ++ [IntKind.i64.wrap (v11 + (IntKind.i64.wrap ((IntKind.i64.wrap ((IntKind.i64.wrap (v10 - v13)) * v16)) + v14)))])) none) (l10 v10 v11 v12 v13 v15 v16 v17 v18 v19 K0 k (IntKind.i64.wrap (v14 + 1)) v20)) none) none) (K0 v20)) d.1.1 d.1.2.2.2.1 d.1.2.2.2.2.1 d.1.2.2.2.2.2.1 d.2.1.2.1 d.2.1.2.2.1 d.2.1.2.2.2.1 d.2.1.2.2.2.2.1 d.2.2.1.2.1 (fun (y5 : List Int) => K (.exit 2) [.tv (.lf (.full 2))] [some ⟨false, [.int .i64 d.2.1.2.1, .int .i64 d.2.1.2.2.1, .int .i64 d.2.1.2.2.2.1, .int .i64 d.2.1.2.2.2.2.1]⟩, some ⟨false, [.seq (.int .i64) 0 d.2.2.1.2.1]⟩, some ⟨false, [.seq (.int .i64) 0 y5]⟩]) k d.1.2.2.2.2.2.2.2.1 d.2.2.2.1.2.1 = roundOf Try.prog (tab [(49, (mkS sh49_1 (fun d K => c49_1 d.1.1.1 d.1.1.2.1 d.1.1.2.2.1 d.1.1.2.2.2.1 (fun (y0 : List Int) => K [.lf (.full 0)] [some ⟨false, [.seq (.int .i64) 0 y0]⟩])) noS))]) 69 0 (ltab [(10, X10), (4, X4)]) (mkG sh59_1_l10 [1, 2, 5, 6, 7, 8, 9, 10] (outT [(.exit 2, [9])]) (fun d K => l10 d.1.1 d.1.2.2.2.1 d.1.2.2.2.2.1 d.1.2.2.2.2.2.1 d.2.1.2.1 d.2.1.2.2.1 d.2.1.2.2.2.1 d.2.1.2.2.2.2.1 d.2.2.1.2.1 (fun (y5 : List Int) => K (.exit 2) [.tv (.lf (.full 2))] [some ⟨false, [.int .i64 d.2.1.2.1, .int .i64 d.2.1.2.2.1, .int .i64 d.2.1.2.2.2.1, .int .i64 d.2.1.2.2.2.2.1]⟩, some ⟨false, [.seq (.int .i64) 0 d.2.2.1.2.1]⟩, some ⟨false, [.seq (.int .i64) 0 y5]⟩]) k d.1.2.2.2.2.2.2.2.1 d.2.2.2.1.2.1)) b59_1 (encT sh59_1_l10.vs d.1) (encH sh59_1_l10.h d.2) K := by kernel_rfl
theorem L59_1_10 (F : Nat) : LoopOK Try.prog (T59_1 F) 69 0 (LT59_1 F) (G59_1_10 F F) b59_1 :=
  loopOK_of (s := sh59_1_l10) (live := [1, 2, 5, 6, 7, 8, 9, 10]) (out := (outT [(.exit 2, [9])])) (fun k d K => f59_1_l10 F d.1.1 d.1.2.2.2.1 d.1.2.2.2.2.1 d.1.2.2.2.2.2.1 d.2.1.2.1 d.2.1.2.2.1 d.2.1.2.2.2.1 d.2.1.2.2.2.2.1 d.2.2.1.2.1 (fun (y5 : List Int) => K (.exit 2) [.tv (.lf (.full 2))] [some ⟨false, [.int .i64 d.2.1.2.1, .int .i64 d.2.1.2.2.1, .int .i64 d.2.1.2.2.2.1, .int .i64 d.2.1.2.2.2.2.1]⟩, some ⟨false, [.seq (.int .i64) 0 d.2.2.1.2.1]⟩, some ⟨false, [.seq (.int .i64) 0 y5]⟩]) k d.1.2.2.2.2.2.2.2.1 d.2.2.2.1.2.1) F (fun d K => by kernel_rfl)  (fun k d K => Eq.mp (by kernel_rfl) (L59_1_10g F k (f49_1 F)  (f59_1_l10 F) (G59_1_10 F F) (G59_1_4 F F) d K))
theorem L59_1_4g (F k : Nat) (c49_1 : Int → Int → Int → Int → (List Int → Option Res) → Option Res) (l10 : Int → Int → Int → Int → Int → Int → Int → Int → List Int → (List Int → Option Res) → Nat → Int → List Int → Option Res) (l4 : Int → Int → Int → Int → Int → List Int → (List Int → Option Res) → (Option Res) → Nat → Int → Int → Option Res) (X4 : LoopS) (d : sh59_1_l4.den) (K : KL) : (fun (v2 : Int) (v5 : Int) (v6 : Int) (v7 : Int) (v8 : Int) (v9 : List Int) (K0 : (List Int → Option Res)) (K1 : (Option Res)) (k : Nat) (v3 : Int) (v4 : Int) => cond (decide (IntKind.i64.wrap (v4 + 1) < ((v9.length : Nat) : Int))) (cond (decide ((0 : Int) ≤ v4 ∧ v4 < ((v9.length : Nat) : Int))) (cond (decide (0 + v4.toNat < v9.length)) (cond (decide (v2 ≥ IntKind.i64.wrap (v3 + (v9.getD (0 + v4.toNat) 0)))) (cond (decide ((0 : Int) ≤ IntKind.i64.wrap (v4 + 1) ∧ IntKind.i64.wrap (v4 + 1) < ((v9.length : Nat) : Int))) (cond (decide (0 + ((IntKind.i64.wrap (v4 + 1)).toNat) < v9.length)) (cond (decide (v2 < IntKind.i64.wrap ((IntKind.i64.wrap (v3 + (v9.getD (0 + v4.toNat) 0))) + (v9.getD (0 + ((IntKind.i64.wrap (v4 + 1)).toNat)) 0)))) (l10 v2 v3 v4 (IntKind.i64.wrap (v3 + (v9.getD (0 + v4.toNat) 0))) v5 v6 v7 v8 v9 (fun x21 => K0 x21) F 0 []) (l4 v2 v5 v6 v7 v8 v9 K0 K1 k (IntKind.i64.wrap (v3 + (v9.getD (0 + v4.toNat) 0))) (IntKind.i64.wrap (v4 + 1)))) none) none) (l4 v2 v5 v6 v7 v8 v9 K0 K1 k (IntKind.i64.wrap (v3 + (v9.getD (0 + v4.toNat) 0))) (IntKind.i64.wrap (v4 + 1)))) none) none) (K1)) d.1.1 d.2.1.2.1 d.2.1.2.2.1 d.2.1.2.2.2.1 d.2.1.2.2.2.2.1 d.2.2.1.2.1 (fun (y5 : List Int) => K .ret [.tv (.lf (.full 2))] [some ⟨false, [.int .i64 d.2.1.2.1, .int .i64 d.2.1.2.2.1, .int .i64 d.2.1.2.2.2.1, .int .i64 d.2.1.2.2.2.2.1]⟩, some ⟨false, [.seq (.int .i64) 0 d.2.2.1.2.1]⟩, some ⟨false, [.seq (.int .i64) 0 y5]⟩]) (K (.exit 0) [] [some ⟨false, [.int .i64 d.2.1.2.1, .int .i64 d.2.1.2.2.1, .int .i64 d.2.1.2.2.2.1, .int .i64 d.2.1.2.2.2.2.1]⟩, some ⟨false, [.seq (.int .i64) 0 d.2.2.1.2.1]⟩]) k d.1.2.2.2.1 d.1.2.2.2.2.1 = roundOf Try.prog (tab [(49, (mkS sh49_1 (fun d K => c49_1 d.1.1.1 d.1.1.2.1 d.1.1.2.2.1 d.1.1.2.2.2.1 (fun (y0 : List Int) => K [.lf (.full 0)] [some ⟨false, [.seq (.int .i64) 0 y0]⟩])) noS))]) 69 0 (ltab [(10, mkG sh59_1_l10 [1, 2, 5, 6, 7, 8, 9, 10] (outT [(.exit 2, [9])]) (fun d K => l10 d.1.1 d.1.2.2.2.1 d.1.2.2.2.2.1 d.1.2.2.2.2.2.1 d.2.1.2.1 d.2.1.2.2.1 d.2.1.2.2.2.1 d.2.1.2.2.2.2.1 d.2.2.1.2.1 (fun (y5 : List Int) => K (.exit 2) [.tv (.lf (.full 2))] [some ⟨false, [.int .i64 d.2.1.2.1, .int .i64 d.2.1.2.2.1, .int .i64 d.2.1.2.2.2.1, .int .i64 d.2.1.2.2.2.2.1]⟩, some ⟨false, [.seq (.int .i64) 0 d.2.2.1.2.1]⟩, some ⟨false, [.seq (.int .i64) 0 y5]⟩]) F d.1.2.2.2.2.2.2.2.1 d.2.2.2.1.2.1)), (4, X4)]) (mkG sh59_1_l4 [1, 2, 5, 6, 7] (outT [(.exit 0, []), (.ret, [4])]) (fun d K => l4 d.1.1 d.2.1.2.1 d.2.1.2.2.1 d.2.1.2.2.2.1 d.2.1.2.2.2.2.1 d.2.2.1.2.1 (fun (y5 : List Int) => K .ret [.tv (.lf (.full 2))] [some ⟨false, [.int .i64 d.2.1.2.1, .int .i64 d.2.1.2.2.1, .int .i64 d.2.1.2.2.2.1, .int .i64 d.2.1.2.2.2.2.1]⟩, some ⟨false, [.seq (.int .i64) 0 d.2.2.1.2.1]⟩, some ⟨false, [.seq (.int .i64) 0 y5]⟩]) (K (.exit 0) [] [some ⟨false, [.int .i64 d.2.1.2.1, .int .i64 d.2.1.2.2.1, .int .i64 d.2.1.2.2.2.1, .int .i64 d.2.1.2.2.2.2.1]⟩, some ⟨false, [.seq (.int .i64) 0 d.2.2.1.2.1]⟩]) k d.1.2.2.2.1 d.1.2.2.2.2.1)) b59_0 (encT sh59_1_l4.vs d.1) (encH sh59_1_l4.h d.2) K := by kernel_rfl
theorem L59_1_4 (F : Nat) : LoopOK Try.prog (T59_1 F) 69 0 (LT59_1 F) (G59_1_4 F F) b59_0 :=
  loopOK_of (s := sh59_1_l4) (live := [1, 2, 5, 6, 7]) (out := (outT [(.exit 0, []), (.ret, [4])])) (fun k d K => f59_1_l4 F d.1.1 d.2.1.2.1 d.2.1.2.2.1 d.2.1.2.2.2.1 d.2.1.2.2.2.2.1 d.2.2.1.2.1 (fun (y5 : List Int) => K .ret [.tv (.lf (.full 2))] [some ⟨false, [.int .i64 d.2.1.2.1, .int .i64 d.2.1.2.2.1, .int .i64 d.2.1.2.2.2.1, .int .i64 d.2.1.2.2.2.2.1]⟩, some ⟨false, [.seq (.int .i64) 0 d.2.2.1.2.1]⟩, some ⟨false, [.seq (.int .i64) 0 y5]⟩]) (K (.exit 0) [] [some ⟨false, [.int .i64 d.2.1.2.1, .int .i64 d.2.1.2.2.1, .int .i64 d.2.1.2.2.2.1, .int .i64 d.2.1.2.2.2.2.1]⟩, some ⟨false, [.seq (.int .i64) 0 d.2.2.1.2.1]⟩]) k d.1.2.2.2.1 d.1.2.2.2.2.1) F (fun d K => by kernel_rfl)  (fun k d K => Eq.mp (by kernel_rfl) (L59_1_4g F k (f49_1 F) (f59_1_l10 F) (f59_1_l4 F) (G59_1_4 F F) d K))
theorem E59_1g (F : Nat) (c49_1 : Int → Int → Int → Int → (List Int → Option Res) → Option Res) (l4 : Int → Int → Int → Int → Int → List Int → (List Int → Option Res) → (Option Res) → Nat → Int → Int → Option Res) (X10 : LoopS) (d : sh59_1.den) (K : KF) : evBody Try.prog (tab [(49, (mkS sh49_1 (fun d K => c49_1 d.1.1.1 d.1.1.2.1 d.1.1.2.2.1 d.1.1.2.2.2.1 (fun (y0 : List Int) => K [.lf (.full 0)] [some ⟨false, [.seq (.int .i64) 0 y0]⟩])) noS))]) 69 0 (ltab [(10, X10), (4, mkG sh59_1_l4 [1, 2, 5, 6, 7] (outT [(.exit 0, []), (.ret, [4])]) (fun d K => l4 d.1.1 d.2.1.2.1 d.2.1.2.2.1 d.2.1.2.2.2.1 d.2.1.2.2.2.2.1 d.2.2.1.2.1 (fun (y5 : List Int) => K .ret [.tv (.lf (.full 2))] [some ⟨false, [.int .i64 d.2.1.2.1, .int .i64 d.2.1.2.2.1, .int .i64 d.2.1.2.2.2.1, .int .i64 d.2.1.2.2.2.2.1]⟩, some ⟨false, [.seq (.int .i64) 0 d.2.2.1.2.1]⟩, some ⟨false, [.seq (.int .i64) 0 y5]⟩]) (K (.exit 0) [] [some ⟨false, [.int .i64 d.2.1.2.1, .int .i64 d.2.1.2.2.1, .int .i64 d.2.1.2.2.2.1, .int .i64 d.2.1.2.2.2.2.1]⟩, some ⟨false, [.seq (.int .i64) 0 d.2.2.1.2.1]⟩]) F d.1.2.2.2.1 d.1.2.2.2.2.1))]) code59 Try.f59.results.toList (encT sh59_1.vs d.1) (encH sh59_1.h d.2) K = (fun (a1 : Int) (a2 : Int) (a3 : Int) (a4 : Int) (a5 : Int) (K0 : (List Int → Option Res)) => c49_1 a1 a2 a3 a4 (fun x1 => l4 a5 a1 a2 a3 a4 x1 (fun x22 => K0 x22) (K0 []) F 0 0) ) d.1.1.1 d.1.1.2.1 d.1.1.2.2.1 d.1.1.2.2.2.1 d.1.2.1 (fun (y0 : List Int) => K [.lf (.full 0)] [some ⟨false, [.seq (.int .i64) 0 y0]⟩]) := by kernel_rfl
theorem E59_1 (F : Nat) (d : sh59_1.den) (K : KF) : evBody Try.prog (T59_1 F) 69 0 (LT59_1 F) code59 Try.f59.results.toList (encT sh59_1.vs d.1) (encH sh59_1.h d.2) K = f59_1 F d.1.1.1 d.1.1.2.1 d.1.1.2.2.1 d.1.1.2.2.2.1 d.1.2.1 (fun (y0 : List Int) => K [.lf (.full 0)] [some ⟨false, [.seq (.int .i64) 0 y0]⟩]) := Eq.mp (by kernel_rfl) (E59_1g F (f49_1 F) (f59_1_l4 F) (G59_1_10 F F) d K)
theorem S59_1_ok (F : Nat) (o : Summ) (ho : SoundFn Try.prog 59 o) : SoundFn Try.prog 59 (S59_1 F o) :=
  soundFn_of (fn := Try.f59) (c := code59) (by kernel_rfl) (tab_cons (S49_1_ok F _ (noS_sound enter49)) tab_nil) (by kernel_rfl) (by kernel_rfl) ho (by rw [loops59]; exact (loopsOK_cons (by kernel_rfl) (L59_1_4 F) (loopsOK_cons (by kernel_rfl) (L59_1_10 F) loopsOK_nil))) (by rw [scopes59]; exact scopesOK_nil) (E59_1 F)
end Go.Proofs.Ytlokielmpdjedaa.X
end

section
namespace Go.Proofs.Ytlokielmpdjedaa.X
open Go Go.Proofs.Ytlokielmpdjedaa.Ev Go.Proofs
set_option linter.unusedVariables false
/-! pentimentoref07.Parent -/
noncomputable def f57_1_l7 {β : Type} (F : Nat) (v10 : Int) (v11 : Int) (v12 : Int) (v14 : Int) (v15 : Int) (v16 : Int) (v17 : Int) (v18 : List Int) (K0 : Option β) (K1 : Option β) : Nat → Int → Option β
  | 0, _ => none
  | k + 1, v13 => cond (decide (v13 < ((v18.length : Nat) : Int))) (cond (decide ((0 : Int) ≤ v13 ∧ v13 < ((v18.length : Nat) : Int))) (cond (decide (0 + v13.toNat < v18.length)) (cond ((v18.getD (0 + v13.toNat) 0) == v10) (K0) (f57_1_l7 F v10 v11 v12 v14 v15 v16 v17 v18 K0 K1 k (IntKind.i64.wrap (v13 + 1)))) none) none) (K1)
noncomputable def f57_1_l3 {β : Type} (F : Nat) (v2 : Int) (v3 : Int) (v5 : Int) (v6 : Int) (v7 : Int) (v8 : Int) (K0 : Int → List Int → Option β) (K1 : Option β) : Nat → Int → Option β
  | 0, _ => none
  | k + 1, v4 => cond (decide (v4 < v3)) (f59_1 F v5 v6 v7 v8 v4 (fun x9 => f57_1_l7 F v2 v3 v4 v5 v6 v7 v8 x9 (K0 v4 x9) (f57_1_l3 F v2 v3 v5 v6 v7 v8 K0 K1 k (IntKind.i64.wrap (v4 + 1))) F 0) ) (K1)
noncomputable def f57_1 {β : Type} (F : Nat) (a1 : Int) (a2 : Int) (a3 : Int) (a4 : Int) (a5 : Int) (K0 : Int → Option β) : Option β := f51_1 F a1 a2 a3 a4 (fun x1 => f57_1_l3 F a5 x1 a1 a2 a3 a4 (fun x19 x20 => K0 x19) (K0 (-1)) F 0) 
def sh57_1 : Sh := ⟨[.agg [.int .i64, .int .i64, .int .i64, .int .i64], .lf (.int .i64)], []⟩
noncomputable def S57_1 (F : Nat) (o : Summ) : Summ := mkS sh57_1 (fun d K => f57_1 F d.1.1.1 d.1.1.2.1 d.1.1.2.2.1 d.1.1.2.2.2.1 d.1.2.1 (fun (y0 : Int) => K [.lf (.int .i64 y0)] [])) o
noncomputable def code57 : Code := bodyOf Try.f57
noncomputable def b57_0 : Code := cB (cB (cR (cL (cR (cR (code57))))))
noncomputable def b57_1 : Code := cB (cB (cR (cR (cB (cL (cR (cB (cB (cR (cL (cR (cR (code57)))))))))))))
theorem scopes57 : scopesOf code57 = [] := by kernel_rfl
theorem loops57 : loopsOf code57 = [b57_0, b57_1] := by kernel_rfl
theorem enter57 : ∀ args w, (callFunc 57 args).run Try.prog w = .ok (.enter 57 args) w := enter_of (fn := Try.f57) (by kernel_rfl) (by kernel_rfl) (by kernel_rfl)
noncomputable def T57_1 (F : Nat) : FuncId → Option Summ := tab [(51, (S51_1 F noS)), (59, (S59_1 F noS))]
def sh57_1_l7 : Sh := ⟨[.lf (.int .i64), .lf (.ptr 0 0), .lf (.int .i64), .lf (.int .i64), .lf (.full 1), .lf (.int .i64)], [some ⟨some false, [.int .i64, .int .i64, .int .i64, .int .i64]⟩, some ⟨some false, [.seq (.int .i64) 0]⟩]⟩
noncomputable def G57_1_7 (F k : Nat) : LoopS := mkG sh57_1_l7 [1, 2, 5, 6, 7, 8] (outT [(.exit 2, [1, 2, 5, 6]), (.ret, [4])]) (fun d K => f57_1_l7 F d.1.1 d.1.2.2.1 d.1.2.2.2.1 d.2.1.2.1 d.2.1.2.2.1 d.2.1.2.2.2.1 d.2.1.2.2.2.2.1 d.2.2.1.2.1 (K .ret [.tv (.lf (.int .i64 d.1.2.2.2.1))] [some ⟨false, [.int .i64 d.2.1.2.1, .int .i64 d.2.1.2.2.1, .int .i64 d.2.1.2.2.2.1, .int .i64 d.2.1.2.2.2.2.1]⟩, some ⟨false, [.seq (.int .i64) 0 d.2.2.1.2.1]⟩]) (K (.exit 2) [.tv (.lf (.int .i64 d.1.1)), .tv (.lf (.ptr 0 0)), .tv (.lf (.int .i64 d.1.2.2.1)), .tv (.lf (.int .i64 d.1.2.2.2.1))] [some ⟨false, [.int .i64 d.2.1.2.1, .int .i64 d.2.1.2.2.1, .int .i64 d.2.1.2.2.2.1, .int .i64 d.2.1.2.2.2.2.1]⟩, some ⟨false, [.seq (.int .i64) 0 d.2.2.1.2.1]⟩]) k d.1.2.2.2.2.2.1)
def sh57_1_l3 : Sh := ⟨[.lf (.int .i64), .lf (.ptr 0 0), .lf (.int .i64), .lf (.int .i64)], [some ⟨some false, [.int .i64, .int .i64, .int .i64, .int .i64]⟩]⟩
noncomputable def G57_1_3 (F k : Nat) : LoopS := mkG sh57_1_l3 [1, 2, 5, 6] (outT [(.exit 0, []), (.ret, [4])]) (fun d K => f57_1_l3 F d.1.1 d.1.2.2.1 d.2.1.2.1 d.2.1.2.2.1 d.2.1.2.2.2.1 d.2.1.2.2.2.2.1 (fun (y0 : Int) (y5 : List Int) => K .ret [.tv (.lf (.int .i64 y0))] [some ⟨false, [.int .i64 d.2.1.2.1, .int .i64 d.2.1.2.2.1, .int .i64 d.2.1.2.2.2.1, .int .i64 d.2.1.2.2.2.2.1]⟩, some ⟨false, [.seq (.int .i64) 0 y5]⟩]) (K (.exit 0) [] [some ⟨false, [.int .i64 d.2.1.2.1, .int .i64 d.2.1.2.2.1, .int .i64 d.2.1.2.2.2.1, .int .i64 d.2.1.2.2.2.2.1]⟩]) k d.1.2.2.2.1)
noncomputable def LT57_1 (F : Nat) : Nat → Option LoopS := ltab [(7, G57_1_7 F F), (3, G57_1_3 F F)]
theorem L57_1_7g (F k : Nat) (c51_1 : Int → Int → Int → Int → (Int → Option Res) → Option Res) (c59_1 : Int → Int → Int → Int → Int → (List Int → Option Res) → Option Res)  (l7 : Int → Int → Int → Int → Int → Int → Int → List Int → (Option Res) → (Option Res) → Nat → Int → Option Res) (X7 : LoopS) (X3 : LoopS) (d : sh57_1_l7.den) (K : KL) : (fun (v10 : Int) (v11 : Int) (v12 : Int) (v14 : Int) (v15 : Int) (v16 : Int) (v17 : Int) (v18 : List Int) (K0 : (Option Res)) (K1 : (Option Res)) (k : Nat) (v13 : Int) => cond (decide (v13 < ((v18.length : Nat) : Int))) (cond (decide ((0 : Int) ≤ v13 ∧ v13 < ((v18.length : Nat) : Int))) (cond (decide (0 + v13.toNat < v18.length)) (cond ((v18.getD (0 + v13.toNat) 0) == v10) (K0) (l7 v10 v11 v12 v14 v15 v16 v17 v18 K0 K1 k (IntKind.i64.wrap (v13 + 1)))) none) none) (K1)) d.1.1 d.1.2.2.1 d.1.2.2.2.1 d.2.1.2.1 d.2.1.2.2.1 d.2.1.2.2.2.1 d.2.1.2.2.2.2.1 d.2.2.1.2.1 (K .ret [.tv (.lf (.int .i64 d.1.2.2.2.1))] [some ⟨false, [.int .i64 d.2.1.2.1, .int .i64 d.2.1.2.2.1, .int .i64 d.2.1.2.2.2.1, .int .i64 d.2.1.2.2.2.2.1]⟩, some ⟨false, [.seq (.int .i64) 0 d.2.2.1.2.1]⟩]) (K (.exit 2) [.tv (.lf (.int .i64 d.1.1)), .tv (.lf (.ptr 0 0)), .tv (.lf (.int .i64 d.1.2.2.1)), .tv (.lf (.int .i64 d.1.2.2.2.1))] [some ⟨false, [.int .i64 d.2.1.2.1, .int .i64 d.2.1.2.2.1, .int .i64 d.2.1.2.2.2.1, .int .i64 d.2.1.2.2.2.2.1]⟩, some ⟨false, [.seq (.int .i64) 0 d.2.2.1.2.1]⟩]) k d.1.2.2.2.2.2.1 = roundOf Try.prog (tab [(51, (mkS sh51_1 (fun d K => c51_1 d.1.1.1 d.1.1.2.1 d.1.1.2.2.1 d.1.1.2.2.2.1 (fun (y0 : Int) => K [.lf (.int .i64 y0)] [])) noS)), (59, (mkS sh59_1 (fun d K => c59_1 d.1.1.1 d.1.1.2.1 d.1.1.2.2.1 d.1.1.2.2.2.1 d.1.2.1 (fun (y0 : List Int) => K [.lf (.full 0)] [some ⟨false, [.seq (.int .i64) 0 y0]⟩])) noS))]) 32 0 (ltab [(7, X7), (3, X3)]) (mkG sh57_1_l7 [1, 2, 5, 6, 7, 8] (outT [(.exit 2, [1, 2, 5, 6]), (.ret, [4])]) (fun d K => l7 d.1.1 d.1.2.2.1 d.1.2.2.2.1 d.2.1.2.1 d.2.1.2.2.1 d.2.1.2.2.2.1 d.2.1.2.2.2.2.1 d.2.2.1.2.1 (K .ret [.tv (.lf (.int .i64 d.1.2.2.2.1))] [some ⟨false, [.int .i64 d.2.1.2.1, .int .i64 d.2.1.2.2.1, .int .i64 d.2.1.2.2.2.1, .int .i64 d.2.1.2.2.2.2.1]⟩, some ⟨false, [.seq (.int .i64) 0 d.2.2.1.2.1]⟩]) (K (.exit 2) [.tv (.lf (.int .i64 d.1.1)), .tv (.lf (.ptr 0 0)), .tv (.lf (.int .i64 d.1.2.2.1)), .tv (.lf (.int .i64 d.1.2.2.2.1))] [some ⟨false, [.int .i64 d.2.1.2.1, .int .i64 d.2.1.2.2.1, .int .i64 d.2.1.2.2.2.1, .int .i64 d.2.1.2.2.2.2.1]⟩, some ⟨false, [.seq (.int .i64) 0 d.2.2.1.2.1]⟩]) k d.1.2.2.2.2.2.1)) b57_1 (encT sh57_1_l7.vs d.1) (encH sh57_1_l7.h d.2) K := by kernel_rfl
theorem L57_1_7 (F : Nat) : LoopOK Try.prog (T57_1 F) 32 0 (LT57_1 F) (G57_1_7 F F) b57_1 :=
  loopOK_of (s := sh57_1_l7) (live := [1, 2, 5, 6, 7, 8]) (out := (outT [(.exit 2, [1, 2, 5, 6]), (.ret, [4])])) (fun k d K => f57_1_l7 F d.1.1 d.1.2.2.1 d.1.2.2.2.1 d.2.1.2.1 d.2.1.2.2.1 d.2.1.2.2.2.1 d.2.1.2.2.2.2.1 d.2.2.1.2.1 (K .ret [.tv (.lf (.int .i64 d.1.2.2.2.1))] [some ⟨false, [.int .i64 d.2.1.2.1, .int .i64 d.2.1.2.2.1, .int .i64 d.2.1.2.2.2.1, .int .i64 d.2.1.2.2.2.2.1]⟩, some ⟨false, [.seq (.int .i64) 0 d.2.2.1.2.1]⟩]) (K (.exit 2) [.tv (.lf (.int .i64 d.1.1)), .tv (.lf (.ptr 0 0)), .tv (.lf (.int .i64 d.1.2.2.1)), .tv (.lf (.int .i64 d.1.2.2.2.1))] [some ⟨false, [.int .i64 d.2.1.2.1, .int .i64 d.2.1.2.2.1, .int .i64 d.2.1.2.2.2.1, .int .i64 d.2.1.2.2.2.2.1]⟩, some ⟨false, [.seq (.int .i64) 0 d.2.2.1.2.1]⟩]) k d.1.2.2.2.2.2.1) F (fun d K => by kernel_rfl)  (fun k d K => Eq.mp (by kernel_rfl) (L57_1_7g F k (f51_1 F) (f59_1 F)  (f57_1_l7 F) (G57_1_7 F F) (G57_1_3 F F) d K))
theorem L57_1_3g (F k : Nat) (c51_1 : Int → Int → Int → Int → (Int → Option Res) → Option Res) (c59_1 : Int → Int → Int → Int → Int → (List Int → Option Res) → Option Res) (l7 : Int → Int → Int → Int → Int → Int → Int → List Int → (Option Res) → (Option Res) → Nat → Int → Option Res) (l3 : Int → Int → Int → Int → Int → Int → (Int → List Int → Option Res) → (Option Res) → Nat → Int → Option Res) (X3 : LoopS) (d : sh57_1_l3.den) (K : KL) : (fun (v2 : Int) (v3 : Int) (v5 : Int) (v6 : Int) (v7 : Int) (v8 : Int) (K0 : (Int → List Int → Option Res)) (K1 : (Option Res)) (k : Nat) (v4 : Int) => cond (decide (v4 < v3)) (c59_1 v5 v6 v7 v8 v4 (fun x9 => l7 v2 v3 v4 v5 v6 v7 v8 x9 (K0 v4 x9) (l3 v2 v3 v5 v6 v7 v8 K0 K1 k (IntKind.i64.wrap (v4 + 1))) F 0) ) (K1)) d.1.1 d.1.2.2.1 d.2.1.2.1 d.2.1.2.2.1 d.2.1.2.2.2.1 d.2.1.2.2.2.2.1 (fun (y0 : Int) (y5 : List Int) => K .ret [.tv (.lf (.int .i64 y0))] [some ⟨false, [.int .i64 d.2.1.2.1, .int .i64 d.2.1.2.2.1, .int .i64 d.2.1.2.2.2.1, .int .i64 d.2.1.2.2.2.2.1]⟩, some ⟨false, [.seq (.int .i64) 0 y5]⟩]) (K (.exit 0) [] [some ⟨false, [.int .i64 d.2.1.2.1, .int .i64 d.2.1.2.2.1, .int .i64 d.2.1.2.2.2.1, .int .i64 d.2.1.2.2.2.2.1]⟩]) k d.1.2.2.2.1 = roundOf Try.prog (tab [(51, (mkS sh51_1 (fun d K => c51_1 d.1.1.1 d.1.1.2.1 d.1.1.2.2.1 d.1.1.2.2.2.1 (fun (y0 : Int) => K [.lf (.int .i64 y0)] [])) noS)), (59, (mkS sh59_1 (fun d K => c59_1 d.1.1.1 d.1.1.2.1 d.1.1.2.2.1 d.1.1.2.2.2.1 d.1.2.1 (fun (y0 : List Int) => K [.lf (.full 0)] [some ⟨false, [.seq (.int .i64) 0 y0]⟩])) noS))]) 32 0 (ltab [(7, mkG sh57_1_l7 [1, 2, 5, 6, 7, 8] (outT [(.exit 2, [1, 2, 5, 6]), (.ret, [4])]) (fun d K => l7 d.1.1 d.1.2.2.1 d.1.2.2.2.1 d.2.1.2.1 d.2.1.2.2.1 d.2.1.2.2.2.1 d.2.1.2.2.2.2.1 d.2.2.1.2.1 (K .ret [.tv (.lf (.int .i64 d.1.2.2.2.1))] [some ⟨false, [.int .i64 d.2.1.2.1, .int .i64 d.2.1.2.2.1, .int .i64 d.2.1.2.2.2.1, .int .i64 d.2.1.2.2.2.2.1]⟩, some ⟨false, [.seq (.int .i64) 0 d.2.2.1.2.1]⟩]) (K (.exit 2) [.tv (.lf (.int .i64 d.1.1)), .tv (.lf (.ptr 0 0)), .tv (.lf (.int .i64 d.1.2.2.1)), .tv (.lf (.int .i64 d.1.2.2.2.1))] [some ⟨false, [.int .i64 d.2.1.2.1, .int .i64 d.2.1.2.2.1, .int .i64 d.2.1.2.2.2.1, .int .i64 d.2.1.2.2.2.2.1]⟩, some ⟨false, [.seq (.int .i64) 0 d.2.2.1.2.1]⟩]) F d.1.2.2.2.2.2.1)), (3, X3)]) (mkG sh57_1_l3 [1, 2, 5, 6] (outT [(.exit 0, []), (.ret, [4])]) (fun d K => l3 d.1.1 d.1.2.2.1 d.2.1.2.1 d.2.1.2.2.1 d.2.1.2.2.2.1 d.2.1.2.2.2.2.1 (fun (y0 : Int) (y5 : List Int) => K .ret [.tv (.lf (.int .i64 y0))] [some ⟨false, [.int .i64 d.2.1.2.1, .int .i64 d.2.1.2.2.1, .int .i64 d.2.1.2.2.2.1, .int .i64 d.2.1.2.2.2.2.1]⟩, some ⟨false, [.seq (.int .i64) 0 y5]⟩]) (K (.exit 0) [] [some ⟨false, [.int .i64 d.2.1.2.1, .int .i64 d.2.1.2.2.1, .int .i64 d.2.1.2.2.2.1, .int .i64 d.2.1.2.2.2.2.1]⟩]) k d.1.2.2.2.1)) b57_0 (encT sh57_1_l3.vs d.1) (encH sh57_1_l3.h d.2) K := by kernel_rfl
theorem L57_1_3 (F : Nat) : LoopOK Try.prog (T57_1 F) 32 0 (LT57_1 F) (G57_1_3 F F) b57_0 :=
  loopOK_of (s := sh57_1_l3) (live := [1, 2, 5, 6]) (out := (outT [(.exit 0, []), (.ret, [4])])) (fun k d K => f57_1_l3 F d.1.1 d.1.2.2.1 d.2.1.2.1 d.2.1.2.2.1 d.2.1.2.2.2.1 d.2.1.2.2.2.2.1 (fun (y0 : Int) (y5 : List Int) => K .ret [.tv (.lf (.int .i64 y0))] [some ⟨false, [.int .i64 d.2.1.2.1, .int .i64 d.2.1.2.2.1, .int .i64 d.2.1.2.2.2.1, .int .i64 d.2.1.2.2.2.2.1]⟩, some ⟨false, [.seq (.int .i64) 0 y5]⟩]) (K (.exit 0) [] [some ⟨false, [.int .i64 d.2.1.2.1, .int .i64 d.2.1.2.2.1, .int .i64 d.2.1.2.2.2.1, .int .i64 d.2.1.2.2.2.2.1]⟩]) k d.1.2.2.2.1) F (fun d K => by kernel_rfl)  (fun k d K => Eq.mp (by kernel_rfl) (L57_1_3g F k (f51_1 F) (f59_1 F) (f57_1_l7 F) (f57_1_l3 F) (G57_1_3 F F) d K))
theorem E57_1g (F : Nat) (c51_1 : Int → Int → Int → Int → (Int → Option Res) → Option Res) (c59_1 : Int → Int → Int → Int → Int → (List Int → Option Res) → Option Res) (l3 : Int → Int → Int → Int → Int → Int → (Int → List Int → Option Res) → (Option Res) → Nat → Int → Option Res) (X7 : LoopS) (d : sh57_1.den) (K : KF) : evBody Try.prog (tab [(51, (mkS sh51_1 (fun d K => c51_1 d.1.1.1 d.1.1.2.1 d.1.1.2.2.1 d.1.1.2.2.2.1 (fun (y0 : Int) => K [.lf (.int .i64 y0)] [])) noS)), (59, (mkS sh59_1 (fun d K => c59_1 d.1.1.1 d.1.1.2.1 d.1.1.2.2.1 d.1.1.2.2.2.1 d.1.2.1 (fun (y0 : List Int) => K [.lf (.full 0)] [some ⟨false, [.seq (.int .i64) 0 y0]⟩])) noS))]) 32 0 (ltab [(7, X7), (3, mkG sh57_1_l3 [1, 2, 5, 6] (outT [(.exit 0, []), (.ret, [4])]) (fun d K => l3 d.1.1 d.1.2.2.1 d.2.1.2.1 d.2.1.2.2.1 d.2.1.2.2.2.1 d.2.1.2.2.2.2.1 (fun (y0 : Int) (y5 : List Int) => K .ret [.tv (.lf (.int .i64 y0))] [some ⟨false, [.int .i64 d.2.1.2.1, .int .i64 d.2.1.2.2.1, .int .i64 d.2.1.2.2.2.1, .int .i64 d.2.1.2.2.2.2.1]⟩, some ⟨false, [.seq (.int .i64) 0 y5]⟩]) (K (.exit 0) [] [some ⟨false, [.int .i64 d.2.1.2.1, .int .i64 d.2.1.2.2.1, .int .i64 d.2.1.2.2.2.1, .int .i64 d.2.1.2.2.2.2.1]⟩]) F d.1.2.2.2.1))]) code57 Try.f57.results.toList (encT sh57_1.vs d.1) (encH sh57_1.h d.2) K = (fun (a1 : Int) (a2 : Int) (a3 : Int) (a4 : Int) (a5 : Int) (K0 : (Int → Option Res)) => c51_1 a1 a2 a3 a4 (fun x1 => l3 a5 x1 a1 a2 a3 a4 (fun x19 x20 => K0 x19) (K0 (-1)) F 0) ) d.1.1.1 d.1.1.2.1 d.1.1.2.2.1 d.1.1.2.2.2.1 d.1.2.1 (fun (y0 : Int) => K [.lf (.int .i64 y0)] []) := by kernel_rfl
theorem E57_1 (F : Nat) (d : sh57_1.den) (K : KF) : evBody Try.prog (T57_1 F) 32 0 (LT57_1 F) code57 Try.f57.results.toList (encT sh57_1.vs d.1) (encH sh57_1.h d.2) K = f57_1 F d.1.1.1 d.1.1.2.1 d.1.1.2.2.1 d.1.1.2.2.2.1 d.1.2.1 (fun (y0 : Int) => K [.lf (.int .i64 y0)] []) := Eq.mp (by kernel_rfl) (E57_1g F (f51_1 F) (f59_1 F) (f57_1_l3 F) (G57_1_7 F F) d K)
theorem S57_1_ok (F : Nat) (o : Summ) (ho : SoundFn Try.prog 57 o) : SoundFn Try.prog 57 (S57_1 F o) :=
  soundFn_of (fn := Try.f57) (c := code57) (by kernel_rfl) (tab_cons (S51_1_ok F _ (noS_sound enter51)) (tab_cons (S59_1_ok F _ (noS_sound enter59)) tab_nil)) (by kernel_rfl) (by kernel_rfl) ho (by rw [loops57]; exact (loopsOK_cons (by kernel_rfl) (L57_1_3 F) (loopsOK_cons (by kernel_rfl) (L57_1_7 F) loopsOK_nil))) (by rw [scopes57]; exact scopesOK_nil) (E57_1 F)
end Go.Proofs.Ytlokielmpdjedaa.X
end
