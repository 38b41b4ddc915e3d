import Derived.Test.YtlokielmpdjedaaEvS17
import Derived.Test.YtlokielmpdjedaaProg
import Derived.KernelRfl
namespace Go.Proofs.Ytlokielmpdjedaa.X
open Go Go.Proofs.Ytlokielmpdjedaa.Ev Go.Proofs
set_option linter.unusedVariables false
/-! pentimentoref10.Set).Has -/
def f100_1 {β : Type} (F : Nat) (a1 : List Int) (a2 : Int) (K0 : Bool → Option β) : Option β := cond (decide (a2 < 0)) (K0 false) (cond (decide (a2 > 127)) (K0 false) (cond (decide ((0 : Int) ≤ IntKind.i64.wrap (a2.tdiv 64) ∧ IntKind.i64.wrap (a2.tdiv 64) < 2)) (cond (decide ((IntKind.i64.wrap (a2.tdiv 64)).toNat < a1.length)) (cond (decide (IntKind.u64.wrap (a2.tmod 64) < 0)) none (K0 ((iand .u64 (ishr .u64 (a1.getD ((IntKind.i64.wrap (a2.tdiv 64)).toNat) 0) (IntKind.u64.wrap (a2.tmod 64))) 1) == 1))) none) none))
def sh100_1 : Sh := ⟨[.agg [.seq (.int .u64) 2], .lf (.int .i64)], []⟩
def S100_1 (F : Nat) (o : Summ) : Summ := mkS sh100_1 (fun d K => f100_1 F d.1.1.1 d.1.2.1 (fun (y0 : Bool) => K [.lf (.bool y0)] [])) o
noncomputable def code100 : Code := bodyOf Try.f100
theorem loops100 : loopsOf code100 = [] := by kernel_rfl
theorem enter100 : ∀ args w, (callFunc 100 args).run Try.prog w = .ok (.enter 100 args) w := enter_of (fn := Try.f100) (by kernel_rfl) (by kernel_rfl) (by kernel_rfl)
def T100_1 (F : Nat) : FuncId → Option Summ := tab []
def LT100_1 (F : Nat) : Nat → Option LoopS := ltab []
theorem E100_1g (F : Nat)    (d : sh100_1.den) (K : KF) : evBody Try.prog (tab []) 23 0 (ltab []) code100 Try.f100.results.toList (encT sh100_1.vs d.1) (encH sh100_1.h d.2) K = (fun (a1 : List Int) (a2 : Int) (K0 : (Bool → Option Res)) => cond (decide (a2 < 0)) (K0 false) (cond (decide (a2 > 127)) (K0 false) (cond (decide ((0 : Int) ≤ IntKind.i64.wrap (a2.tdiv 64) ∧ IntKind.i64.wrap (a2.tdiv 64) < 2)) (cond (decide ((IntKind.i64.wrap (a2.tdiv 64)).toNat < a1.length)) (cond (decide (IntKind.u64.wrap (a2.tmod 64) < 0)) none (K0 ((iand .u64 (ishr .u64 (a1.getD ((IntKind.i64.wrap (a2.tdiv 64)).toNat) 0) (IntKind.u64.wrap (a2.tmod 64))) 1) == 1))) none) none))) d.1.1.1 d.1.2.1 (fun (y0 : Bool) => K [.lf (.bool y0)] []) := by kernel_rfl
theorem E100_1 (F : Nat) (d : sh100_1.den) (K : KF) : evBody Try.prog (T100_1 F) 23 0 (LT100_1 F) code100 Try.f100.results.toList (encT sh100_1.vs d.1) (encH sh100_1.h d.2) K = f100_1 F d.1.1.1 d.1.2.1 (fun (y0 : Bool) => K [.lf (.bool y0)] []) := Eq.mp (by kernel_rfl) (E100_1g F    d K)
theorem S100_1_ok (F : Nat) (o : Summ) (ho : SoundFn Try.prog 100 o) : SoundFn Try.prog 100 (S100_1 F o) :=
  soundFn_of (fn := Try.f100) (c := code100) (by kernel_rfl) tab_nil (by kernel_rfl) (by kernel_rfl) ho (by rw [loops100]; exact loopsOK_nil) (E100_1 F)
end Go.Proofs.Ytlokielmpdjedaa.X
