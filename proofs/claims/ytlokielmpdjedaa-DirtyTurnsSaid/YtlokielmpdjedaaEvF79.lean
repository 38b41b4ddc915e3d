import Derived.Test.YtlokielmpdjedaaEvS17
import Derived.Test.YtlokielmpdjedaaProg
import Derived.KernelRfl
import Derived.Test.YtlokielmpdjedaaEvF97
namespace Go.Proofs.Ytlokielmpdjedaa.X
open Go Go.Proofs.Ytlokielmpdjedaa.Ev Go.Proofs
set_option linter.unusedVariables false
/-! bits.Set).With -/
def f79_1 {β : Type} (F : Nat) (a1 : List Int) (a2 : Int) (K0 : List Int → Int → Option β) : Option β := f97_1 F a2 (fun x1 => cond (!x1) (K0 [0, 0] 3) (cond (decide ((0 : Int) ≤ IntKind.i64.wrap (a2.tdiv 64) ∧ IntKind.i64.wrap (a2.tdiv 64) < 2)) (cond (decide ((IntKind.i64.wrap (a2.tdiv 64)).toNat < a1.length)) (cond (decide (a2.tmod 64 < 0)) none (cond (decide ((0 : Int) ≤ IntKind.i64.wrap (a2.tdiv 64) ∧ IntKind.i64.wrap (a2.tdiv 64) < 2)) (cond (decide ((IntKind.i64.wrap (a2.tdiv 64)).toNat < a1.length)) (K0 (a1.set ((IntKind.i64.wrap (a2.tdiv 64)).toNat) (ior .u64 (a1.getD ((IntKind.i64.wrap (a2.tdiv 64)).toNat) 0) (ishl .u64 1 (a2.tmod 64)))) 0) none) none)) none) none)) 
def sh79_1 : Sh := ⟨[.agg [.seq (.int .u64) 2], .lf (.int .i64)], []⟩
def S79_1 (F : Nat) (o : Summ) : Summ := mkS sh79_1 (fun d K => f79_1 F d.1.1.1 d.1.2.1 (fun (y0 : List Int) (y1 : Int) => K [.agg [.seq (.int .u64) 2 y0], .lf (.int .i64 y1)] [])) o
noncomputable def code79 : Code := bodyOf Try.f79
theorem loops79 : loopsOf code79 = [] := by kernel_rfl
theorem enter79 : ∀ args w, (callFunc 79 args).run Try.prog w = .ok (.enter 79 args) w := enter_of (fn := Try.f79) (by kernel_rfl) (by kernel_rfl) (by kernel_rfl)
def T79_1 (F : Nat) : FuncId → Option Summ := tab [(97, (S97_1 F noS))]
def LT79_1 (F : Nat) : Nat → Option LoopS := ltab []
theorem E79_1g (F : Nat) (c97_1 : Int → (Bool → Option Res) → Option Res)   (d : sh79_1.den) (K : KF) : evBody Try.prog (tab [(97, (mkS sh97_1 (fun d K => c97_1 d.1.1 (fun (y0 : Bool) => K [.lf (.bool y0)] [])) noS))]) 20 0 (ltab []) code79 Try.f79.results.toList (encT sh79_1.vs d.1) (encH sh79_1.h d.2) K = (fun (a1 : List Int) (a2 : Int) (K0 : (List Int → Int → Option Res)) => c97_1 a2 (fun x1 => cond (!x1) (K0 [0, 0] 3) (cond (decide ((0 : Int) ≤ IntKind.i64.wrap (a2.tdiv 64) ∧ IntKind.i64.wrap (a2.tdiv 64) < 2)) (cond (decide ((IntKind.i64.wrap (a2.tdiv 64)).toNat < a1.length)) (cond (decide (a2.tmod 64 < 0)) none (cond (decide ((0 : Int) ≤ IntKind.i64.wrap (a2.tdiv 64) ∧ IntKind.i64.wrap (a2.tdiv 64) < 2)) (cond (decide ((IntKind.i64.wrap (a2.tdiv 64)).toNat < a1.length)) (K0 (a1.set ((IntKind.i64.wrap (a2.tdiv 64)).toNat) (ior .u64 (a1.getD ((IntKind.i64.wrap (a2.tdiv 64)).toNat) 0) (ishl .u64 1 (a2.tmod 64)))) 0) none) none)) none) none)) ) d.1.1.1 d.1.2.1 (fun (y0 : List Int) (y1 : Int) => K [.agg [.seq (.int .u64) 2 y0], .lf (.int .i64 y1)] []) := by kernel_rfl
theorem E79_1 (F : Nat) (d : sh79_1.den) (K : KF) : evBody Try.prog (T79_1 F) 20 0 (LT79_1 F) code79 Try.f79.results.toList (encT sh79_1.vs d.1) (encH sh79_1.h d.2) K = f79_1 F d.1.1.1 d.1.2.1 (fun (y0 : List Int) (y1 : Int) => K [.agg [.seq (.int .u64) 2 y0], .lf (.int .i64 y1)] []) := Eq.mp (by kernel_rfl) (E79_1g F (f97_1 F)   d K)
theorem S79_1_ok (F : Nat) (o : Summ) (ho : SoundFn Try.prog 79 o) : SoundFn Try.prog 79 (S79_1 F o) :=
  soundFn_of (fn := Try.f79) (c := code79) (by kernel_rfl) (tab_cons (S97_1_ok F _ (noS_sound enter97)) tab_nil) (by kernel_rfl) (by kernel_rfl) ho (by rw [loops79]; exact loopsOK_nil) (E79_1 F)
end Go.Proofs.Ytlokielmpdjedaa.X
