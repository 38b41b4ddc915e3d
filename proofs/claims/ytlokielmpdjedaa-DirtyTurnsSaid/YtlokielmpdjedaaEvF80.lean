import Derived.Test.YtlokielmpdjedaaEvS17
import Derived.Test.YtlokielmpdjedaaProg
import Derived.KernelRfl
import Derived.Test.YtlokielmpdjedaaEvF98
import Derived.Test.YtlokielmpdjedaaEvF99
namespace Go.Proofs.Ytlokielmpdjedaa.X
open Go Go.Proofs.Ytlokielmpdjedaa.Ev Go.Proofs
set_option linter.unusedVariables false
/-! pentimentoref10.Set).With -/
def f80_1 {β : Type} (F : Nat) (a1 : List Int) (a2 : Int) (K0 : List Int → Int → Option β) : Option β := cond (decide (a2 < 0)) (K0 [0, 0] 3) (cond (decide (a2 > 127)) (K0 [0, 0] 3) (f98_1 F a1 (fun x1 => cond (decide ((0 : Int) ≤ a2 ∧ a2 < ((x1.length : Nat) : Int))) (cond (decide (0 + a2.toNat < x1.length)) (f99_1 F (x1.set (0 + a2.toNat) true) (fun x2 => K0 x2 0) ) none) none) ))
def sh80_1 : Sh := ⟨[.agg [.seq (.int .u64) 2], .lf (.int .i64)], []⟩
def S80_1 (F : Nat) (o : Summ) : Summ := mkS sh80_1 (fun d K => f80_1 F d.1.1.1 d.1.2.1 (fun (y0 : List Int) (y1 : Int) => K [.agg [.seq (.int .u64) 2 y0], .lf (.int .i64 y1)] [])) o
noncomputable def code80 : Code := bodyOf Try.f80
theorem loops80 : loopsOf code80 = [] := by kernel_rfl
theorem enter80 : ∀ args w, (callFunc 80 args).run Try.prog w = .ok (.enter 80 args) w := enter_of (fn := Try.f80) (by kernel_rfl) (by kernel_rfl) (by kernel_rfl)
def T80_1 (F : Nat) : FuncId → Option Summ := tab [(98, (S98_1 F noS)), (99, (S99_1 F noS))]
def LT80_1 (F : Nat) : Nat → Option LoopS := ltab []
theorem E80_1g (F : Nat) (c98_1 : List Int → (List Bool → Option Res) → Option Res) (c99_1 : List Bool → (List Int → Option Res) → Option Res)   (d : sh80_1.den) (K : KF) : evBody Try.prog (tab [(98, (mkS sh98_1 (fun d K => c98_1 d.1.1.1 (fun (y0 : List Bool) => K [.lf (.full 0)] [some ⟨false, [.seq .bool 0 y0]⟩])) noS)), (99, (mkS sh99_1 (fun d K => c99_1 d.2.1.2.1 (fun (y0 : List Int) => K [.agg [.seq (.int .u64) 2 y0]] [some ⟨d.2.1.1, [.seq .bool 0 d.2.1.2.1]⟩])) noS))]) 21 0 (ltab []) code80 Try.f80.results.toList (encT sh80_1.vs d.1) (encH sh80_1.h d.2) K = (fun (a1 : List Int) (a2 : Int) (K0 : (List Int → Int → Option Res)) => cond (decide (a2 < 0)) (K0 [0, 0] 3) (cond (decide (a2 > 127)) (K0 [0, 0] 3) (c98_1 a1 (fun x1 => cond (decide ((0 : Int) ≤ a2 ∧ a2 < ((x1.length : Nat) : Int))) (cond (decide (0 + a2.toNat < x1.length)) (c99_1 (x1.set (0 + a2.toNat) true) (fun x2 => K0 x2 0) ) none) none) ))) d.1.1.1 d.1.2.1 (fun (y0 : List Int) (y1 : Int) => K [.agg [.seq (.int .u64) 2 y0], .lf (.int .i64 y1)] []) := by kernel_rfl
theorem E80_1 (F : Nat) (d : sh80_1.den) (K : KF) : evBody Try.prog (T80_1 F) 21 0 (LT80_1 F) code80 Try.f80.results.toList (encT sh80_1.vs d.1) (encH sh80_1.h d.2) K = f80_1 F d.1.1.1 d.1.2.1 (fun (y0 : List Int) (y1 : Int) => K [.agg [.seq (.int .u64) 2 y0], .lf (.int .i64 y1)] []) := Eq.mp (by kernel_rfl) (E80_1g F (f98_1 F) (f99_1 F)   d K)
theorem S80_1_ok (F : Nat) (o : Summ) (ho : SoundFn Try.prog 80 o) : SoundFn Try.prog 80 (S80_1 F o) :=
  soundFn_of (fn := Try.f80) (c := code80) (by kernel_rfl) (tab_cons (S98_1_ok F _ (noS_sound enter98)) (tab_cons (S99_1_ok F _ (noS_sound enter99)) tab_nil)) (by kernel_rfl) (by kernel_rfl) ho (by rw [loops80]; exact loopsOK_nil) (E80_1 F)
end Go.Proofs.Ytlokielmpdjedaa.X
