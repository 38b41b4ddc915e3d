/- Merged: EvF62, EvF63, EvF74, EvF64, EvF100v4606, EvF100v9627, EvF99, EvF65, EvF12, EvF12v115, EvF16, EvF67, EvF15, EvF16v568, EvF67v8586, EvF15v568, EvF19v312, EvF55, EvF129, EvF115, EvF140, EvF147, EvF142, EvF141, ShaRest, EvF131, EvF120, PureW, ShaA, EvS18. -/
import Derived.Test.YtillbabmlfjegaaMWalkNil2
import Derived.Test.YtillbabmlfjegaaProg
import Derived.KernelRfl
import Derived.ChangeArms
import Derived.OpenShut
import Derived.Below
import Derived.Carry
import Derived.ChangeShapes
import Derived.WideShapes
section
namespace Go.Proofs.Ytillbabmlfjegaa.X
open Go Go.Proofs.Ytillbabmlfjegaa.Ev Go.Proofs
set_option linter.unusedVariables false
/-! digest.Right -/
noncomputable def f62_1 {β : Type} (F : Nat) (a1 : ByteArray) (K0 : Bool → Option β) : Option β := K0 ((a1.size : Int) == 32)
def sh62_1 : Sh := ⟨[.lf (.str)], []⟩
noncomputable def S62_1 (F : Nat) (o : Summ) : Summ := mkS sh62_1 (fun d K => f62_1 F d.1.1 (fun (y0 : Bool) => K [.lf (.bool y0)] [])) o
noncomputable def code62 : Code := bodyOf Try.f62
theorem scopes62 : scopesOf code62 = [] := by kernel_rfl
theorem loops62 : loopsOf code62 = [] := by kernel_rfl
theorem enter62 : ∀ args w, (callFunc 62 args).run Try.prog w = .ok (.enter 62 args) w := enter_of (fn := Try.f62) (by kernel_rfl) (by kernel_rfl) (by kernel_rfl)
noncomputable def T62_1 (F : Nat) : FuncId → Option Summ := tab []
noncomputable def LT62_1 (F : Nat) : Nat → Option LoopS := ltab []
theorem E62_1g (F : Nat)    (d : sh62_1.den) (K : KF) : evBody Try.prog (tab []) 6 0 (ltab []) code62 Try.f62.results.toList (encT sh62_1.vs d.1) (encH sh62_1.h d.2) K = (fun (a1 : ByteArray) (K0 : (Bool → Option Res)) => K0 ((a1.size : Int) == 32)) d.1.1 (fun (y0 : Bool) => K [.lf (.bool y0)] []) := by kernel_rfl
theorem E62_1 (F : Nat) (d : sh62_1.den) (K : KF) : evBody Try.prog (T62_1 F) 6 0 (LT62_1 F) code62 Try.f62.results.toList (encT sh62_1.vs d.1) (encH sh62_1.h d.2) K = f62_1 F d.1.1 (fun (y0 : Bool) => K [.lf (.bool y0)] []) := Eq.mp (by kernel_rfl) (E62_1g F    d K)
theorem S62_1_ok (F : Nat) (o : Summ) (ho : SoundFn Try.prog 62 o) : SoundFn Try.prog 62 (S62_1 F o) :=
  soundFn_of (fn := Try.f62) (c := code62) (by kernel_rfl) tab_nil (by kernel_rfl) (by kernel_rfl) ho (by rw [loops62]; exact loopsOK_nil) (by rw [scopes62]; exact scopesOK_nil) (E62_1 F)
end Go.Proofs.Ytillbabmlfjegaa.X
end

section
namespace Go.Proofs.Ytillbabmlfjegaa.X
open Go Go.Proofs.Ytillbabmlfjegaa.Ev Go.Proofs
set_option linter.unusedVariables false
/-! tree.Tree).Geom -/
noncomputable def f63_1 {β : Type} (F : Nat) (a1 : Int) (a2 : Int) (a3 : Int) (a4 : Int) (a5 : List ByteArray) (K0 : Option β) : Option β := K0
def sh63_1 : Sh := ⟨[.lf (.ptr 0 0)], [some ⟨none, [.int .i64, .int .i64, .int .i64, .int .i64, .full 1]⟩, some ⟨none, [.seq .str 0]⟩]⟩
noncomputable def S63_1 (F : Nat) (o : Summ) : Summ := mkS sh63_1 (fun d K => f63_1 F d.2.1.2.1 d.2.1.2.2.1 d.2.1.2.2.2.1 d.2.1.2.2.2.2.1 d.2.2.1.2.1 (K [.agg [.int .i64 d.2.1.2.1, .int .i64 d.2.1.2.2.1, .int .i64 d.2.1.2.2.2.1, .int .i64 d.2.1.2.2.2.2.1]] [some ⟨d.2.1.1, [.int .i64 d.2.1.2.1, .int .i64 d.2.1.2.2.1, .int .i64 d.2.1.2.2.2.1, .int .i64 d.2.1.2.2.2.2.1, .full 1]⟩, some ⟨d.2.2.1.1, [.seq .str 0 d.2.2.1.2.1]⟩])) o
noncomputable def code63 : Code := bodyOf Try.f63
theorem scopes63 : scopesOf code63 = [] := by kernel_rfl
theorem loops63 : loopsOf code63 = [] := by kernel_rfl
theorem enter63 : ∀ args w, (callFunc 63 args).run Try.prog w = .ok (.enter 63 args) w := enter_of (fn := Try.f63) (by kernel_rfl) (by kernel_rfl) (by kernel_rfl)
noncomputable def T63_1 (F : Nat) : FuncId → Option Summ := tab []
noncomputable def LT63_1 (F : Nat) : Nat → Option LoopS := ltab []
theorem E63_1g (F : Nat)    (d : sh63_1.den) (K : KF) : evBody Try.prog (tab []) 10 2 (ltab []) code63 Try.f63.results.toList (encT sh63_1.vs d.1) (encH sh63_1.h d.2) K = (fun (a1 : Int) (a2 : Int) (a3 : Int) (a4 : Int) (a5 : List ByteArray) (K0 : (Option Res)) => K0) d.2.1.2.1 d.2.1.2.2.1 d.2.1.2.2.2.1 d.2.1.2.2.2.2.1 d.2.2.1.2.1 (K [.agg [.int .i64 d.2.1.2.1, .int .i64 d.2.1.2.2.1, .int .i64 d.2.1.2.2.2.1, .int .i64 d.2.1.2.2.2.2.1]] [some ⟨d.2.1.1, [.int .i64 d.2.1.2.1, .int .i64 d.2.1.2.2.1, .int .i64 d.2.1.2.2.2.1, .int .i64 d.2.1.2.2.2.2.1, .full 1]⟩, some ⟨d.2.2.1.1, [.seq .str 0 d.2.2.1.2.1]⟩]) := by kernel_rfl
theorem E63_1 (F : Nat) (d : sh63_1.den) (K : KF) : evBody Try.prog (T63_1 F) 10 2 (LT63_1 F) code63 Try.f63.results.toList (encT sh63_1.vs d.1) (encH sh63_1.h d.2) K = f63_1 F d.2.1.2.1 d.2.1.2.2.1 d.2.1.2.2.2.1 d.2.1.2.2.2.2.1 d.2.2.1.2.1 (K [.agg [.int .i64 d.2.1.2.1, .int .i64 d.2.1.2.2.1, .int .i64 d.2.1.2.2.2.1, .int .i64 d.2.1.2.2.2.2.1]] [some ⟨d.2.1.1, [.int .i64 d.2.1.2.1, .int .i64 d.2.1.2.2.1, .int .i64 d.2.1.2.2.2.1, .int .i64 d.2.1.2.2.2.2.1, .full 1]⟩, some ⟨d.2.2.1.1, [.seq .str 0 d.2.2.1.2.1]⟩]) := Eq.mp (by kernel_rfl) (E63_1g F    d K)
theorem S63_1_ok (F : Nat) (o : Summ) (ho : SoundFn Try.prog 63 o) : SoundFn Try.prog 63 (S63_1 F o) :=
  soundFn_of (fn := Try.f63) (c := code63) (by kernel_rfl) tab_nil (by kernel_rfl) (by kernel_rfl) ho (by rw [loops63]; exact loopsOK_nil) (by rw [scopes63]; exact scopesOK_nil) (E63_1 F)
end Go.Proofs.Ytillbabmlfjegaa.X
end

section
namespace Go.Proofs.Ytillbabmlfjegaa.X
open Go Go.Proofs.Ytillbabmlfjegaa.Ev Go.Proofs
set_option linter.unusedVariables false
/-! slices.Clone[[]string,string] -/
noncomputable def f74_1 {β : Type} (F : Nat) (a1 : List ByteArray) (K0 : List ByteArray → Option β) : Option β := cond (decide (0 < a1.length)) (cond (decide ((0 + a1.length) * 16 ≤ 70368744177664)) (K0 ([] ++ a1)) none) (amb (K0 []) (cond (decide ((0 + a1.length) * 16 ≤ 70368744177664)) (K0 ([] ++ a1)) none))
def sh74_1 : Sh := ⟨[.lf (.full 0)], [some ⟨none, [.seq .str 0]⟩]⟩
noncomputable def S74_1 (F : Nat) (o : Summ) : Summ := mkS sh74_1 (fun d K => f74_1 F d.2.1.2.1 (fun (y1 : List ByteArray) => K [.lf (.full 1)] [some ⟨d.2.1.1, [.seq .str 0 d.2.1.2.1]⟩, some ⟨false, [.seq .str 0 y1]⟩])) o
noncomputable def code74 : Code := bodyOf Try.f74
theorem scopes74 : scopesOf code74 = [] := by kernel_rfl
theorem loops74 : loopsOf code74 = [] := by kernel_rfl
theorem enter74 : ∀ args w, (callFunc 74 args).run Try.prog w = .ok (.enter 74 args) w := enter_of (fn := Try.f74) (by kernel_rfl) (by kernel_rfl) (by kernel_rfl)
noncomputable def T74_1 (F : Nat) : FuncId → Option Summ := tab []
noncomputable def LT74_1 (F : Nat) : Nat → Option LoopS := ltab []
theorem E74_1g (F : Nat)    (d : sh74_1.den) (K : KF) : evBody Try.prog (tab []) 8 1 (ltab []) code74 Try.f74.results.toList (encT sh74_1.vs d.1) (encH sh74_1.h d.2) K = (fun (a1 : List ByteArray) (K0 : (List ByteArray → Option Res)) => cond (decide (0 < a1.length)) (cond (decide ((0 + a1.length) * 16 ≤ 70368744177664)) (K0 ([] ++ a1)) none) (amb (K0 []) (cond (decide ((0 + a1.length) * 16 ≤ 70368744177664)) (K0 ([] ++ a1)) none))) d.2.1.2.1 (fun (y1 : List ByteArray) => K [.lf (.full 1)] [some ⟨d.2.1.1, [.seq .str 0 d.2.1.2.1]⟩, some ⟨false, [.seq .str 0 y1]⟩]) := by kernel_rfl
theorem E74_1 (F : Nat) (d : sh74_1.den) (K : KF) : evBody Try.prog (T74_1 F) 8 1 (LT74_1 F) code74 Try.f74.results.toList (encT sh74_1.vs d.1) (encH sh74_1.h d.2) K = f74_1 F d.2.1.2.1 (fun (y1 : List ByteArray) => K [.lf (.full 1)] [some ⟨d.2.1.1, [.seq .str 0 d.2.1.2.1]⟩, some ⟨false, [.seq .str 0 y1]⟩]) := Eq.mp (by kernel_rfl) (E74_1g F    d K)
theorem S74_1_ok (F : Nat) (o : Summ) (ho : SoundFn Try.prog 74 o) : SoundFn Try.prog 74 (S74_1 F o) :=
  soundFn_of (fn := Try.f74) (c := code74) (by kernel_rfl) tab_nil (by kernel_rfl) (by kernel_rfl) ho (by rw [loops74]; exact loopsOK_nil) (by rw [scopes74]; exact scopesOK_nil) (E74_1 F)
end Go.Proofs.Ytillbabmlfjegaa.X
end

section
namespace Go.Proofs.Ytillbabmlfjegaa.X
open Go Go.Proofs.Ytillbabmlfjegaa.Ev Go.Proofs
set_option linter.unusedVariables false
/-! tree.Tree).Copy -/
noncomputable def f64_1 {β : Type} (F : Nat) (a1 : Int) (a2 : Int) (a3 : Int) (a4 : Int) (a5 : List ByteArray) (K0 : List ByteArray → Option β) : Option β := f74_1 F a5 (fun x1 => K0 x1) 
def sh64_1 : Sh := ⟨[.lf (.ptr 0 0)], [some ⟨none, [.int .i64, .int .i64, .int .i64, .int .i64, .full 1]⟩, some ⟨none, [.seq .str 0]⟩]⟩
noncomputable def S64_1 (F : Nat) (o : Summ) : Summ := mkS sh64_1 (fun d K => f64_1 F d.2.1.2.1 d.2.1.2.2.1 d.2.1.2.2.2.1 d.2.1.2.2.2.2.1 d.2.2.1.2.1 (fun (y9 : List ByteArray) => K [.lf (.ptr 2 0)] [some ⟨d.2.1.1, [.int .i64 d.2.1.2.1, .int .i64 d.2.1.2.2.1, .int .i64 d.2.1.2.2.2.1, .int .i64 d.2.1.2.2.2.2.1, .full 1]⟩, some ⟨d.2.2.1.1, [.seq .str 0 d.2.2.1.2.1]⟩, some ⟨false, [.int .i64 d.2.1.2.1, .int .i64 d.2.1.2.2.1, .int .i64 d.2.1.2.2.2.1, .int .i64 d.2.1.2.2.2.2.1, .full 3]⟩, some ⟨false, [.seq .str 0 y9]⟩])) o
noncomputable def code64 : Code := bodyOf Try.f64
theorem scopes64 : scopesOf code64 = [] := by kernel_rfl
theorem loops64 : loopsOf code64 = [] := by kernel_rfl
theorem enter64 : ∀ args w, (callFunc 64 args).run Try.prog w = .ok (.enter 64 args) w := enter_of (fn := Try.f64) (by kernel_rfl) (by kernel_rfl) (by kernel_rfl)
noncomputable def T64_1 (F : Nat) : FuncId → Option Summ := tab [(74, (S74_1 F noS))]
noncomputable def LT64_1 (F : Nat) : Nat → Option LoopS := ltab []
theorem E64_1g (F : Nat) (c74_1 : List ByteArray → (List ByteArray → Option Res) → Option Res)   (d : sh64_1.den) (K : KF) : evBody Try.prog (tab [(74, (mkS sh74_1 (fun d K => c74_1 d.2.1.2.1 (fun (y1 : List ByteArray) => K [.lf (.full 1)] [some ⟨d.2.1.1, [.seq .str 0 d.2.1.2.1]⟩, some ⟨false, [.seq .str 0 y1]⟩])) noS))]) 16 2 (ltab []) code64 Try.f64.results.toList (encT sh64_1.vs d.1) (encH sh64_1.h d.2) K = (fun (a1 : Int) (a2 : Int) (a3 : Int) (a4 : Int) (a5 : List ByteArray) (K0 : (List ByteArray → Option Res)) => c74_1 a5 (fun x1 => K0 x1) ) d.2.1.2.1 d.2.1.2.2.1 d.2.1.2.2.2.1 d.2.1.2.2.2.2.1 d.2.2.1.2.1 (fun (y9 : List ByteArray) => K [.lf (.ptr 2 0)] [some ⟨d.2.1.1, [.int .i64 d.2.1.2.1, .int .i64 d.2.1.2.2.1, .int .i64 d.2.1.2.2.2.1, .int .i64 d.2.1.2.2.2.2.1, .full 1]⟩, some ⟨d.2.2.1.1, [.seq .str 0 d.2.2.1.2.1]⟩, some ⟨false, [.int .i64 d.2.1.2.1, .int .i64 d.2.1.2.2.1, .int .i64 d.2.1.2.2.2.1, .int .i64 d.2.1.2.2.2.2.1, .full 3]⟩, some ⟨false, [.seq .str 0 y9]⟩]) := by kernel_rfl
theorem E64_1 (F : Nat) (d : sh64_1.den) (K : KF) : evBody Try.prog (T64_1 F) 16 2 (LT64_1 F) code64 Try.f64.results.toList (encT sh64_1.vs d.1) (encH sh64_1.h d.2) K = f64_1 F d.2.1.2.1 d.2.1.2.2.1 d.2.1.2.2.2.1 d.2.1.2.2.2.2.1 d.2.2.1.2.1 (fun (y9 : List ByteArray) => K [.lf (.ptr 2 0)] [some ⟨d.2.1.1, [.int .i64 d.2.1.2.1, .int .i64 d.2.1.2.2.1, .int .i64 d.2.1.2.2.2.1, .int .i64 d.2.1.2.2.2.2.1, .full 1]⟩, some ⟨d.2.2.1.1, [.seq .str 0 d.2.2.1.2.1]⟩, some ⟨false, [.int .i64 d.2.1.2.1, .int .i64 d.2.1.2.2.1, .int .i64 d.2.1.2.2.2.1, .int .i64 d.2.1.2.2.2.2.1, .full 3]⟩, some ⟨false, [.seq .str 0 y9]⟩]) := Eq.mp (by kernel_rfl) (E64_1g F (f74_1 F)   d K)
theorem S64_1_ok (F : Nat) (o : Summ) (ho : SoundFn Try.prog 64 o) : SoundFn Try.prog 64 (S64_1 F o) :=
  soundFn_of (fn := Try.f64) (c := code64) (by kernel_rfl) (tab_cons (S74_1_ok F _ (noS_sound enter74)) tab_nil) (by kernel_rfl) (by kernel_rfl) ho (by rw [loops64]; exact loopsOK_nil) (by rw [scopes64]; exact scopesOK_nil) (E64_1 F)
end Go.Proofs.Ytillbabmlfjegaa.X
end

section
namespace Go.Proofs.Ytillbabmlfjegaa.X
open Go Go.Proofs.Ytillbabmlfjegaa.Ev Go.Proofs
set_option linter.unusedVariables false
/-! walk.queue).put -/
noncomputable def f100_4606 {β : Type} (F : Nat) (a1 : Int) (a2 : ByteArray) (a3 : Int) (a4 : Int) (a5 : Int) (a6 : Int) (a7 : Int) (a8 : Int) (a9 : Int) (a10 : Int) (a11 : Int) (a12 : Int) (a13 : Int) (a14 : List ByteArray) (a15 : List (Int × ByteArray)) (a16 : List (Int × ByteArray)) (K0 : List (Int × ByteArray) → Option β) : Option β := cond (decide ((a15.length + 1) * 24 ≤ 70368744177664)) (K0 (a15 ++ [(a1, a2)])) none
def sh100_4606 : Sh := ⟨[.lf (.ptr 0 5), .agg [.int .i64, .str]], [some ⟨some false, [.int .i64, .int .i64, .int .i64, .int .i64, .ptr 1 0, .full 3, .full 4, .int .i64, .int .i64, .int .i64]⟩, some ⟨none, [.int .i64, .int .i64, .int .i64, .int .i64, .full 2]⟩, some ⟨none, [.seq .str 0]⟩, some ⟨some false, [.seq (.pair (.int .i64) .str) 0]⟩, some ⟨none, [.seq (.pair (.int .i64) .str) 0]⟩]⟩
noncomputable def S100_4606 (F : Nat) (o : Summ) : Summ := mkS sh100_4606 (fun d K => f100_4606 F d.1.2.1.1 d.1.2.1.2.1 d.2.1.2.1 d.2.1.2.2.1 d.2.1.2.2.2.1 d.2.1.2.2.2.2.1 d.2.1.2.2.2.2.2.2.2.2.1 d.2.1.2.2.2.2.2.2.2.2.2.1 d.2.1.2.2.2.2.2.2.2.2.2.2.1 d.2.2.1.2.1 d.2.2.1.2.2.1 d.2.2.1.2.2.2.1 d.2.2.1.2.2.2.2.1 d.2.2.2.1.2.1 d.2.2.2.2.1.2.1 d.2.2.2.2.2.1.2.1 (fun (y13 : List (Int × ByteArray)) => K [] [some ⟨false, [.int .i64 d.2.1.2.1, .int .i64 d.2.1.2.2.1, .int .i64 d.2.1.2.2.2.1, .int .i64 d.2.1.2.2.2.2.1, .ptr 1 0, .full 5, .full 4, .int .i64 d.2.1.2.2.2.2.2.2.2.2.1, .int .i64 d.2.1.2.2.2.2.2.2.2.2.2.1, .int .i64 d.2.1.2.2.2.2.2.2.2.2.2.2.1]⟩, some ⟨d.2.2.1.1, [.int .i64 d.2.2.1.2.1, .int .i64 d.2.2.1.2.2.1, .int .i64 d.2.2.1.2.2.2.1, .int .i64 d.2.2.1.2.2.2.2.1, .full 2]⟩, some ⟨d.2.2.2.1.1, [.seq .str 0 d.2.2.2.1.2.1]⟩, none, some ⟨d.2.2.2.2.2.1.1, [.seq (.pair (.int .i64) .str) 0 d.2.2.2.2.2.1.2.1]⟩, some ⟨false, [.seq (.pair (.int .i64) .str) 0 y13]⟩])) o
noncomputable def code100 : Code := bodyOf Try.f100
theorem scopes100 : scopesOf code100 = [] := by kernel_rfl
theorem loops100 : loopsOf code100 = [] := by kernel_rfl
theorem enter100 : ∀ args w, (callFunc 100 args).run Try.prog w = .ok (.enter 100 args) w := enter_of (fn := Try.f100) (by kernel_rfl) (by kernel_rfl) (by kernel_rfl)
noncomputable def T100_4606 (F : Nat) : FuncId → Option Summ := tab []
noncomputable def LT100_4606 (F : Nat) : Nat → Option LoopS := ltab []
theorem E100_4606g (F : Nat)    (d : sh100_4606.den) (K : KF) : evBody Try.prog (tab []) 14 5 (ltab []) code100 Try.f100.results.toList (encT sh100_4606.vs d.1) (encH sh100_4606.h d.2) K = (fun (a1 : Int) (a2 : ByteArray) (a3 : Int) (a4 : Int) (a5 : Int) (a6 : Int) (a7 : Int) (a8 : Int) (a9 : Int) (a10 : Int) (a11 : Int) (a12 : Int) (a13 : Int) (a14 : List ByteArray) (a15 : List (Int × ByteArray)) (a16 : List (Int × ByteArray)) (K0 : (List (Int × ByteArray) → Option Res)) => cond (decide ((a15.length + 1) * 24 ≤ 70368744177664)) (K0 (a15 ++ [(a1, a2)])) none) d.1.2.1.1 d.1.2.1.2.1 d.2.1.2.1 d.2.1.2.2.1 d.2.1.2.2.2.1 d.2.1.2.2.2.2.1 d.2.1.2.2.2.2.2.2.2.2.1 d.2.1.2.2.2.2.2.2.2.2.2.1 d.2.1.2.2.2.2.2.2.2.2.2.2.1 d.2.2.1.2.1 d.2.2.1.2.2.1 d.2.2.1.2.2.2.1 d.2.2.1.2.2.2.2.1 d.2.2.2.1.2.1 d.2.2.2.2.1.2.1 d.2.2.2.2.2.1.2.1 (fun (y13 : List (Int × ByteArray)) => K [] [some ⟨false, [.int .i64 d.2.1.2.1, .int .i64 d.2.1.2.2.1, .int .i64 d.2.1.2.2.2.1, .int .i64 d.2.1.2.2.2.2.1, .ptr 1 0, .full 5, .full 4, .int .i64 d.2.1.2.2.2.2.2.2.2.2.1, .int .i64 d.2.1.2.2.2.2.2.2.2.2.2.1, .int .i64 d.2.1.2.2.2.2.2.2.2.2.2.2.1]⟩, some ⟨d.2.2.1.1, [.int .i64 d.2.2.1.2.1, .int .i64 d.2.2.1.2.2.1, .int .i64 d.2.2.1.2.2.2.1, .int .i64 d.2.2.1.2.2.2.2.1, .full 2]⟩, some ⟨d.2.2.2.1.1, [.seq .str 0 d.2.2.2.1.2.1]⟩, none, some ⟨d.2.2.2.2.2.1.1, [.seq (.pair (.int .i64) .str) 0 d.2.2.2.2.2.1.2.1]⟩, some ⟨false, [.seq (.pair (.int .i64) .str) 0 y13]⟩]) := by kernel_rfl
theorem E100_4606 (F : Nat) (d : sh100_4606.den) (K : KF) : evBody Try.prog (T100_4606 F) 14 5 (LT100_4606 F) code100 Try.f100.results.toList (encT sh100_4606.vs d.1) (encH sh100_4606.h d.2) K = f100_4606 F d.1.2.1.1 d.1.2.1.2.1 d.2.1.2.1 d.2.1.2.2.1 d.2.1.2.2.2.1 d.2.1.2.2.2.2.1 d.2.1.2.2.2.2.2.2.2.2.1 d.2.1.2.2.2.2.2.2.2.2.2.1 d.2.1.2.2.2.2.2.2.2.2.2.2.1 d.2.2.1.2.1 d.2.2.1.2.2.1 d.2.2.1.2.2.2.1 d.2.2.1.2.2.2.2.1 d.2.2.2.1.2.1 d.2.2.2.2.1.2.1 d.2.2.2.2.2.1.2.1 (fun (y13 : List (Int × ByteArray)) => K [] [some ⟨false, [.int .i64 d.2.1.2.1, .int .i64 d.2.1.2.2.1, .int .i64 d.2.1.2.2.2.1, .int .i64 d.2.1.2.2.2.2.1, .ptr 1 0, .full 5, .full 4, .int .i64 d.2.1.2.2.2.2.2.2.2.2.1, .int .i64 d.2.1.2.2.2.2.2.2.2.2.2.1, .int .i64 d.2.1.2.2.2.2.2.2.2.2.2.2.1]⟩, some ⟨d.2.2.1.1, [.int .i64 d.2.2.1.2.1, .int .i64 d.2.2.1.2.2.1, .int .i64 d.2.2.1.2.2.2.1, .int .i64 d.2.2.1.2.2.2.2.1, .full 2]⟩, some ⟨d.2.2.2.1.1, [.seq .str 0 d.2.2.2.1.2.1]⟩, none, some ⟨d.2.2.2.2.2.1.1, [.seq (.pair (.int .i64) .str) 0 d.2.2.2.2.2.1.2.1]⟩, some ⟨false, [.seq (.pair (.int .i64) .str) 0 y13]⟩]) := Eq.mp (by kernel_rfl) (E100_4606g F    d K)
theorem S100_4606_ok (F : Nat) (o : Summ) (ho : SoundFn Try.prog 100 o) : SoundFn Try.prog 100 (S100_4606 F o) :=
  soundFn_of (fn := Try.f100) (c := code100) (by kernel_rfl) tab_nil (by kernel_rfl) (by kernel_rfl) ho (by rw [loops100]; exact loopsOK_nil) (by rw [scopes100]; exact scopesOK_nil) (E100_4606 F)
end Go.Proofs.Ytillbabmlfjegaa.X
end

section
namespace Go.Proofs.Ytillbabmlfjegaa.X
open Go Go.Proofs.Ytillbabmlfjegaa.Ev Go.Proofs
set_option linter.unusedVariables false
/-! walk.queue).put -/
noncomputable def f100_9627 {β : Type} (F : Nat) (a1 : Int) (a2 : ByteArray) (a3 : Int) (a4 : Int) (a5 : Int) (a6 : Int) (a7 : Int) (a8 : Int) (a9 : Int) (a10 : Int) (a11 : Int) (a12 : Int) (a13 : Int) (a14 : List ByteArray) (a15 : List (Int × ByteArray)) (a16 : List (Int × ByteArray)) (K0 : List (Int × ByteArray) → Option β) : Option β := cond (decide ((a16.length + 1) * 24 ≤ 70368744177664)) (K0 (a16 ++ [(a1, a2)])) none
def sh100_9627 : Sh := ⟨[.lf (.ptr 0 6), .agg [.int .i64, .str]], [some ⟨some false, [.int .i64, .int .i64, .int .i64, .int .i64, .ptr 1 0, .full 3, .full 4, .int .i64, .int .i64, .int .i64]⟩, some ⟨none, [.int .i64, .int .i64, .int .i64, .int .i64, .full 2]⟩, some ⟨none, [.seq .str 0]⟩, some ⟨none, [.seq (.pair (.int .i64) .str) 0]⟩, some ⟨some false, [.seq (.pair (.int .i64) .str) 0]⟩]⟩
noncomputable def S100_9627 (F : Nat) (o : Summ) : Summ := mkS sh100_9627 (fun d K => f100_9627 F d.1.2.1.1 d.1.2.1.2.1 d.2.1.2.1 d.2.1.2.2.1 d.2.1.2.2.2.1 d.2.1.2.2.2.2.1 d.2.1.2.2.2.2.2.2.2.2.1 d.2.1.2.2.2.2.2.2.2.2.2.1 d.2.1.2.2.2.2.2.2.2.2.2.2.1 d.2.2.1.2.1 d.2.2.1.2.2.1 d.2.2.1.2.2.2.1 d.2.2.1.2.2.2.2.1 d.2.2.2.1.2.1 d.2.2.2.2.1.2.1 d.2.2.2.2.2.1.2.1 (fun (y13 : List (Int × ByteArray)) => K [] [some ⟨false, [.int .i64 d.2.1.2.1, .int .i64 d.2.1.2.2.1, .int .i64 d.2.1.2.2.2.1, .int .i64 d.2.1.2.2.2.2.1, .ptr 1 0, .full 3, .full 5, .int .i64 d.2.1.2.2.2.2.2.2.2.2.1, .int .i64 d.2.1.2.2.2.2.2.2.2.2.2.1, .int .i64 d.2.1.2.2.2.2.2.2.2.2.2.2.1]⟩, some ⟨d.2.2.1.1, [.int .i64 d.2.2.1.2.1, .int .i64 d.2.2.1.2.2.1, .int .i64 d.2.2.1.2.2.2.1, .int .i64 d.2.2.1.2.2.2.2.1, .full 2]⟩, some ⟨d.2.2.2.1.1, [.seq .str 0 d.2.2.2.1.2.1]⟩, some ⟨d.2.2.2.2.1.1, [.seq (.pair (.int .i64) .str) 0 d.2.2.2.2.1.2.1]⟩, none, some ⟨false, [.seq (.pair (.int .i64) .str) 0 y13]⟩])) o
noncomputable def T100_9627 (F : Nat) : FuncId → Option Summ := tab []
noncomputable def LT100_9627 (F : Nat) : Nat → Option LoopS := ltab []
theorem E100_9627g (F : Nat)    (d : sh100_9627.den) (K : KF) : evBody Try.prog (tab []) 14 5 (ltab []) code100 Try.f100.results.toList (encT sh100_9627.vs d.1) (encH sh100_9627.h d.2) K = (fun (a1 : Int) (a2 : ByteArray) (a3 : Int) (a4 : Int) (a5 : Int) (a6 : Int) (a7 : Int) (a8 : Int) (a9 : Int) (a10 : Int) (a11 : Int) (a12 : Int) (a13 : Int) (a14 : List ByteArray) (a15 : List (Int × ByteArray)) (a16 : List (Int × ByteArray)) (K0 : (List (Int × ByteArray) → Option Res)) => cond (decide ((a16.length + 1) * 24 ≤ 70368744177664)) (K0 (a16 ++ [(a1, a2)])) none) d.1.2.1.1 d.1.2.1.2.1 d.2.1.2.1 d.2.1.2.2.1 d.2.1.2.2.2.1 d.2.1.2.2.2.2.1 d.2.1.2.2.2.2.2.2.2.2.1 d.2.1.2.2.2.2.2.2.2.2.2.1 d.2.1.2.2.2.2.2.2.2.2.2.2.1 d.2.2.1.2.1 d.2.2.1.2.2.1 d.2.2.1.2.2.2.1 d.2.2.1.2.2.2.2.1 d.2.2.2.1.2.1 d.2.2.2.2.1.2.1 d.2.2.2.2.2.1.2.1 (fun (y13 : List (Int × ByteArray)) => K [] [some ⟨false, [.int .i64 d.2.1.2.1, .int .i64 d.2.1.2.2.1, .int .i64 d.2.1.2.2.2.1, .int .i64 d.2.1.2.2.2.2.1, .ptr 1 0, .full 3, .full 5, .int .i64 d.2.1.2.2.2.2.2.2.2.2.1, .int .i64 d.2.1.2.2.2.2.2.2.2.2.2.1, .int .i64 d.2.1.2.2.2.2.2.2.2.2.2.2.1]⟩, some ⟨d.2.2.1.1, [.int .i64 d.2.2.1.2.1, .int .i64 d.2.2.1.2.2.1, .int .i64 d.2.2.1.2.2.2.1, .int .i64 d.2.2.1.2.2.2.2.1, .full 2]⟩, some ⟨d.2.2.2.1.1, [.seq .str 0 d.2.2.2.1.2.1]⟩, some ⟨d.2.2.2.2.1.1, [.seq (.pair (.int .i64) .str) 0 d.2.2.2.2.1.2.1]⟩, none, some ⟨false, [.seq (.pair (.int .i64) .str) 0 y13]⟩]) := by kernel_rfl
theorem E100_9627 (F : Nat) (d : sh100_9627.den) (K : KF) : evBody Try.prog (T100_9627 F) 14 5 (LT100_9627 F) code100 Try.f100.results.toList (encT sh100_9627.vs d.1) (encH sh100_9627.h d.2) K = f100_9627 F d.1.2.1.1 d.1.2.1.2.1 d.2.1.2.1 d.2.1.2.2.1 d.2.1.2.2.2.1 d.2.1.2.2.2.2.1 d.2.1.2.2.2.2.2.2.2.2.1 d.2.1.2.2.2.2.2.2.2.2.2.1 d.2.1.2.2.2.2.2.2.2.2.2.2.1 d.2.2.1.2.1 d.2.2.1.2.2.1 d.2.2.1.2.2.2.1 d.2.2.1.2.2.2.2.1 d.2.2.2.1.2.1 d.2.2.2.2.1.2.1 d.2.2.2.2.2.1.2.1 (fun (y13 : List (Int × ByteArray)) => K [] [some ⟨false, [.int .i64 d.2.1.2.1, .int .i64 d.2.1.2.2.1, .int .i64 d.2.1.2.2.2.1, .int .i64 d.2.1.2.2.2.2.1, .ptr 1 0, .full 3, .full 5, .int .i64 d.2.1.2.2.2.2.2.2.2.2.1, .int .i64 d.2.1.2.2.2.2.2.2.2.2.2.1, .int .i64 d.2.1.2.2.2.2.2.2.2.2.2.2.1]⟩, some ⟨d.2.2.1.1, [.int .i64 d.2.2.1.2.1, .int .i64 d.2.2.1.2.2.1, .int .i64 d.2.2.1.2.2.2.1, .int .i64 d.2.2.1.2.2.2.2.1, .full 2]⟩, some ⟨d.2.2.2.1.1, [.seq .str 0 d.2.2.2.1.2.1]⟩, some ⟨d.2.2.2.2.1.1, [.seq (.pair (.int .i64) .str) 0 d.2.2.2.2.1.2.1]⟩, none, some ⟨false, [.seq (.pair (.int .i64) .str) 0 y13]⟩]) := Eq.mp (by kernel_rfl) (E100_9627g F    d K)
theorem S100_9627_ok (F : Nat) (o : Summ) (ho : SoundFn Try.prog 100 o) : SoundFn Try.prog 100 (S100_9627 F o) :=
  soundFn_of (fn := Try.f100) (c := code100) (by kernel_rfl) tab_nil (by kernel_rfl) (by kernel_rfl) ho (by rw [loops100]; exact loopsOK_nil) (by rw [scopes100]; exact scopesOK_nil) (E100_9627 F)
end Go.Proofs.Ytillbabmlfjegaa.X
end

section
namespace Go.Proofs.Ytillbabmlfjegaa.X
open Go Go.Proofs.Ytillbabmlfjegaa.Ev Go.Proofs
set_option linter.unusedVariables false
/-! tree.Tree).Digest -/
noncomputable def f99_1 {β : Type} (F : Nat) (a1 : Int) (a2 : Int) (a3 : Int) (a4 : Int) (a5 : Int) (a6 : List ByteArray) (K0 : ByteArray → Int → Option β) : Option β := cond (decide (a1 < 0)) (K0 ByteArray.empty 3) (cond (decide (a1 ≥ ((a6.length : Nat) : Int))) (K0 ByteArray.empty 3) (cond (decide ((0 : Int) ≤ a1 ∧ a1 < ((a6.length : Nat) : Int))) (cond (decide (0 + a1.toNat < a6.length)) (K0 (a6.getD (0 + a1.toNat) ByteArray.empty) 0) none) none))
def sh99_1 : Sh := ⟨[.lf (.ptr 0 0), .lf (.int .i64)], [some ⟨none, [.int .i64, .int .i64, .int .i64, .int .i64, .full 1]⟩, some ⟨none, [.seq .str 0]⟩]⟩
noncomputable def S99_1 (F : Nat) (o : Summ) : Summ := mkS sh99_1 (fun d K => f99_1 F d.1.2.1 d.2.1.2.1 d.2.1.2.2.1 d.2.1.2.2.2.1 d.2.1.2.2.2.2.1 d.2.2.1.2.1 (fun (y0 : ByteArray) (y1 : Int) => K [.lf (.str y0), .lf (.int .i64 y1)] [some ⟨d.2.1.1, [.int .i64 d.2.1.2.1, .int .i64 d.2.1.2.2.1, .int .i64 d.2.1.2.2.2.1, .int .i64 d.2.1.2.2.2.2.1, .full 1]⟩, some ⟨d.2.2.1.1, [.seq .str 0 d.2.2.1.2.1]⟩])) o
noncomputable def code99 : Code := bodyOf Try.f99
theorem scopes99 : scopesOf code99 = [] := by kernel_rfl
theorem loops99 : loopsOf code99 = [] := by kernel_rfl
theorem enter99 : ∀ args w, (callFunc 99 args).run Try.prog w = .ok (.enter 99 args) w := enter_of (fn := Try.f99) (by kernel_rfl) (by kernel_rfl) (by kernel_rfl)
noncomputable def T99_1 (F : Nat) : FuncId → Option Summ := tab []
noncomputable def LT99_1 (F : Nat) : Nat → Option LoopS := ltab []
theorem E99_1g (F : Nat)    (d : sh99_1.den) (K : KF) : evBody Try.prog (tab []) 28 2 (ltab []) code99 Try.f99.results.toList (encT sh99_1.vs d.1) (encH sh99_1.h d.2) K = (fun (a1 : Int) (a2 : Int) (a3 : Int) (a4 : Int) (a5 : Int) (a6 : List ByteArray) (K0 : (ByteArray → Int → Option Res)) => cond (decide (a1 < 0)) (K0 ByteArray.empty 3) (cond (decide (a1 ≥ ((a6.length : Nat) : Int))) (K0 ByteArray.empty 3) (cond (decide ((0 : Int) ≤ a1 ∧ a1 < ((a6.length : Nat) : Int))) (cond (decide (0 + a1.toNat < a6.length)) (K0 (a6.getD (0 + a1.toNat) ByteArray.empty) 0) none) none))) d.1.2.1 d.2.1.2.1 d.2.1.2.2.1 d.2.1.2.2.2.1 d.2.1.2.2.2.2.1 d.2.2.1.2.1 (fun (y0 : ByteArray) (y1 : Int) => K [.lf (.str y0), .lf (.int .i64 y1)] [some ⟨d.2.1.1, [.int .i64 d.2.1.2.1, .int .i64 d.2.1.2.2.1, .int .i64 d.2.1.2.2.2.1, .int .i64 d.2.1.2.2.2.2.1, .full 1]⟩, some ⟨d.2.2.1.1, [.seq .str 0 d.2.2.1.2.1]⟩]) := by kernel_rfl
theorem E99_1 (F : Nat) (d : sh99_1.den) (K : KF) : evBody Try.prog (T99_1 F) 28 2 (LT99_1 F) code99 Try.f99.results.toList (encT sh99_1.vs d.1) (encH sh99_1.h d.2) K = f99_1 F d.1.2.1 d.2.1.2.1 d.2.1.2.2.1 d.2.1.2.2.2.1 d.2.1.2.2.2.2.1 d.2.2.1.2.1 (fun (y0 : ByteArray) (y1 : Int) => K [.lf (.str y0), .lf (.int .i64 y1)] [some ⟨d.2.1.1, [.int .i64 d.2.1.2.1, .int .i64 d.2.1.2.2.1, .int .i64 d.2.1.2.2.2.1, .int .i64 d.2.1.2.2.2.2.1, .full 1]⟩, some ⟨d.2.2.1.1, [.seq .str 0 d.2.2.1.2.1]⟩]) := Eq.mp (by kernel_rfl) (E99_1g F    d K)
theorem S99_1_ok (F : Nat) (o : Summ) (ho : SoundFn Try.prog 99 o) : SoundFn Try.prog 99 (S99_1 F o) :=
  soundFn_of (fn := Try.f99) (c := code99) (by kernel_rfl) tab_nil (by kernel_rfl) (by kernel_rfl) ho (by rw [loops99]; exact loopsOK_nil) (by rw [scopes99]; exact scopesOK_nil) (E99_1 F)
end Go.Proofs.Ytillbabmlfjegaa.X
end

section
namespace Go.Proofs.Ytillbabmlfjegaa.X
open Go Go.Proofs.Ytillbabmlfjegaa.Ev Go.Proofs
set_option linter.unusedVariables false
/-! walk.Walk).find -/
noncomputable def f65_1 {β : Type} (F : Nat) (a1 : Int) (a2 : ByteArray) (a3 : Int) (a4 : Int) (a5 : Int) (a6 : Int) (a7 : Int) (a8 : Int) (a9 : Int) (a10 : Int) (a11 : Int) (a12 : Int) (a13 : Int) (a14 : List ByteArray) (a15 : List (Int × ByteArray)) (a16 : List (Int × ByteArray)) (K0 : Option β) (K1 : List (Int × ByteArray) → Option β) (K2 : List (Int × ByteArray) → Option β) : Option β := f99_1 F a1 a10 a11 a12 a13 a14 (fun x1 x2 => cond (x2 != 0) (K0) (cond (x1.toList == a2.toList) (K0) (cond (decide (a1 < a3)) (f100_9627 F a1 a2 a3 a4 a5 a6 a7 a8 a9 a10 a11 a12 a13 a14 a15 a16 (fun x3 => K1 x3) ) (f100_4606 F a1 a2 a3 a4 a5 a6 a7 a8 a9 a10 a11 a12 a13 a14 a15 a16 (fun x4 => K2 x4) )))) 
def sh65_1 : Sh := ⟨[.lf (.ptr 0 0), .lf (.int .i64), .lf (.str)], [some ⟨some false, [.int .i64, .int .i64, .int .i64, .int .i64, .ptr 1 0, .full 3, .full 4, .int .i64, .int .i64, .int .i64]⟩, some ⟨none, [.int .i64, .int .i64, .int .i64, .int .i64, .full 2]⟩, some ⟨none, [.seq .str 0]⟩, some ⟨some false, [.seq (.pair (.int .i64) .str) 0]⟩, some ⟨some false, [.seq (.pair (.int .i64) .str) 0]⟩]⟩
noncomputable def S65_1 (F : Nat) (o : Summ) : Summ := mkS sh65_1 (fun d K => f65_1 F d.1.2.1 d.1.2.2.1 d.2.1.2.1 d.2.1.2.2.1 d.2.1.2.2.2.1 d.2.1.2.2.2.2.1 d.2.1.2.2.2.2.2.2.2.2.1 d.2.1.2.2.2.2.2.2.2.2.2.1 d.2.1.2.2.2.2.2.2.2.2.2.2.1 d.2.2.1.2.1 d.2.2.1.2.2.1 d.2.2.1.2.2.2.1 d.2.2.1.2.2.2.2.1 d.2.2.2.1.2.1 d.2.2.2.2.1.2.1 d.2.2.2.2.2.1.2.1 (K [] [some ⟨false, [.int .i64 d.2.1.2.1, .int .i64 d.2.1.2.2.1, .int .i64 d.2.1.2.2.2.1, .int .i64 d.2.1.2.2.2.2.1, .ptr 1 0, .full 3, .full 4, .int .i64 d.2.1.2.2.2.2.2.2.2.2.1, .int .i64 d.2.1.2.2.2.2.2.2.2.2.2.1, .int .i64 d.2.1.2.2.2.2.2.2.2.2.2.2.1]⟩, some ⟨d.2.2.1.1, [.int .i64 d.2.2.1.2.1, .int .i64 d.2.2.1.2.2.1, .int .i64 d.2.2.1.2.2.2.1, .int .i64 d.2.2.1.2.2.2.2.1, .full 2]⟩, some ⟨d.2.2.2.1.1, [.seq .str 0 d.2.2.2.1.2.1]⟩, some ⟨false, [.seq (.pair (.int .i64) .str) 0 d.2.2.2.2.1.2.1]⟩, some ⟨false, [.seq (.pair (.int .i64) .str) 0 d.2.2.2.2.2.1.2.1]⟩]) (fun (y13 : List (Int × ByteArray)) => K [] [some ⟨false, [.int .i64 d.2.1.2.1, .int .i64 d.2.1.2.2.1, .int .i64 d.2.1.2.2.2.1, .int .i64 d.2.1.2.2.2.2.1, .ptr 1 0, .full 3, .full 5, .int .i64 d.2.1.2.2.2.2.2.2.2.2.1, .int .i64 d.2.1.2.2.2.2.2.2.2.2.2.1, .int .i64 d.2.1.2.2.2.2.2.2.2.2.2.2.1]⟩, some ⟨d.2.2.1.1, [.int .i64 d.2.2.1.2.1, .int .i64 d.2.2.1.2.2.1, .int .i64 d.2.2.1.2.2.2.1, .int .i64 d.2.2.1.2.2.2.2.1, .full 2]⟩, some ⟨d.2.2.2.1.1, [.seq .str 0 d.2.2.2.1.2.1]⟩, some ⟨false, [.seq (.pair (.int .i64) .str) 0 d.2.2.2.2.1.2.1]⟩, none, some ⟨false, [.seq (.pair (.int .i64) .str) 0 y13]⟩]) (fun (y13 : List (Int × ByteArray)) => K [] [some ⟨false, [.int .i64 d.2.1.2.1, .int .i64 d.2.1.2.2.1, .int .i64 d.2.1.2.2.2.1, .int .i64 d.2.1.2.2.2.2.1, .ptr 1 0, .full 5, .full 4, .int .i64 d.2.1.2.2.2.2.2.2.2.2.1, .int .i64 d.2.1.2.2.2.2.2.2.2.2.2.1, .int .i64 d.2.1.2.2.2.2.2.2.2.2.2.2.1]⟩, some ⟨d.2.2.1.1, [.int .i64 d.2.2.1.2.1, .int .i64 d.2.2.1.2.2.1, .int .i64 d.2.2.1.2.2.2.1, .int .i64 d.2.2.1.2.2.2.2.1, .full 2]⟩, some ⟨d.2.2.2.1.1, [.seq .str 0 d.2.2.2.1.2.1]⟩, none, some ⟨false, [.seq (.pair (.int .i64) .str) 0 d.2.2.2.2.2.1.2.1]⟩, some ⟨false, [.seq (.pair (.int .i64) .str) 0 y13]⟩])) o
noncomputable def code65 : Code := bodyOf Try.f65
theorem scopes65 : scopesOf code65 = [] := by kernel_rfl
theorem loops65 : loopsOf code65 = [] := by kernel_rfl
theorem enter65 : ∀ args w, (callFunc 65 args).run Try.prog w = .ok (.enter 65 args) w := enter_of (fn := Try.f65) (by kernel_rfl) (by kernel_rfl) (by kernel_rfl)
noncomputable def T65_1 (F : Nat) : FuncId → Option Summ := tab [(99, (S99_1 F noS)), (100, (S100_4606 F (S100_9627 F noS)))]
noncomputable def LT65_1 (F : Nat) : Nat → Option LoopS := ltab []
theorem E65_1g (F : Nat) (c99_1 : Int → Int → Int → Int → Int → List ByteArray → (ByteArray → Int → Option Res) → Option Res) (c100_4606 : Int → ByteArray → Int → Int → Int → Int → Int → Int → Int → Int → Int → Int → Int → List ByteArray → List (Int × ByteArray) → List (Int × ByteArray) → (List (Int × ByteArray) → Option Res) → Option Res) (c100_9627 : Int → ByteArray → Int → Int → Int → Int → Int → Int → Int → Int → Int → Int → Int → List ByteArray → List (Int × ByteArray) → List (Int × ByteArray) → (List (Int × ByteArray) → Option Res) → Option Res)   (d : sh65_1.den) (K : KF) : evBody Try.prog (tab [(99, (mkS sh99_1 (fun d K => c99_1 d.1.2.1 d.2.1.2.1 d.2.1.2.2.1 d.2.1.2.2.2.1 d.2.1.2.2.2.2.1 d.2.2.1.2.1 (fun (y0 : ByteArray) (y1 : Int) => K [.lf (.str y0), .lf (.int .i64 y1)] [some ⟨d.2.1.1, [.int .i64 d.2.1.2.1, .int .i64 d.2.1.2.2.1, .int .i64 d.2.1.2.2.2.1, .int .i64 d.2.1.2.2.2.2.1, .full 1]⟩, some ⟨d.2.2.1.1, [.seq .str 0 d.2.2.1.2.1]⟩])) noS)), (100, (mkS sh100_4606 (fun d K => c100_4606 d.1.2.1.1 d.1.2.1.2.1 d.2.1.2.1 d.2.1.2.2.1 d.2.1.2.2.2.1 d.2.1.2.2.2.2.1 d.2.1.2.2.2.2.2.2.2.2.1 d.2.1.2.2.2.2.2.2.2.2.2.1 d.2.1.2.2.2.2.2.2.2.2.2.2.1 d.2.2.1.2.1 d.2.2.1.2.2.1 d.2.2.1.2.2.2.1 d.2.2.1.2.2.2.2.1 d.2.2.2.1.2.1 d.2.2.2.2.1.2.1 d.2.2.2.2.2.1.2.1 (fun (y13 : List (Int × ByteArray)) => K [] [some ⟨false, [.int .i64 d.2.1.2.1, .int .i64 d.2.1.2.2.1, .int .i64 d.2.1.2.2.2.1, .int .i64 d.2.1.2.2.2.2.1, .ptr 1 0, .full 5, .full 4, .int .i64 d.2.1.2.2.2.2.2.2.2.2.1, .int .i64 d.2.1.2.2.2.2.2.2.2.2.2.1, .int .i64 d.2.1.2.2.2.2.2.2.2.2.2.2.1]⟩, some ⟨d.2.2.1.1, [.int .i64 d.2.2.1.2.1, .int .i64 d.2.2.1.2.2.1, .int .i64 d.2.2.1.2.2.2.1, .int .i64 d.2.2.1.2.2.2.2.1, .full 2]⟩, some ⟨d.2.2.2.1.1, [.seq .str 0 d.2.2.2.1.2.1]⟩, none, some ⟨d.2.2.2.2.2.1.1, [.seq (.pair (.int .i64) .str) 0 d.2.2.2.2.2.1.2.1]⟩, some ⟨false, [.seq (.pair (.int .i64) .str) 0 y13]⟩])) (mkS sh100_9627 (fun d K => c100_9627 d.1.2.1.1 d.1.2.1.2.1 d.2.1.2.1 d.2.1.2.2.1 d.2.1.2.2.2.1 d.2.1.2.2.2.2.1 d.2.1.2.2.2.2.2.2.2.2.1 d.2.1.2.2.2.2.2.2.2.2.2.1 d.2.1.2.2.2.2.2.2.2.2.2.2.1 d.2.2.1.2.1 d.2.2.1.2.2.1 d.2.2.1.2.2.2.1 d.2.2.1.2.2.2.2.1 d.2.2.2.1.2.1 d.2.2.2.2.1.2.1 d.2.2.2.2.2.1.2.1 (fun (y13 : List (Int × ByteArray)) => K [] [some ⟨false, [.int .i64 d.2.1.2.1, .int .i64 d.2.1.2.2.1, .int .i64 d.2.1.2.2.2.1, .int .i64 d.2.1.2.2.2.2.1, .ptr 1 0, .full 3, .full 5, .int .i64 d.2.1.2.2.2.2.2.2.2.2.1, .int .i64 d.2.1.2.2.2.2.2.2.2.2.2.1, .int .i64 d.2.1.2.2.2.2.2.2.2.2.2.2.1]⟩, some ⟨d.2.2.1.1, [.int .i64 d.2.2.1.2.1, .int .i64 d.2.2.1.2.2.1, .int .i64 d.2.2.1.2.2.2.1, .int .i64 d.2.2.1.2.2.2.2.1, .full 2]⟩, some ⟨d.2.2.2.1.1, [.seq .str 0 d.2.2.2.1.2.1]⟩, some ⟨d.2.2.2.2.1.1, [.seq (.pair (.int .i64) .str) 0 d.2.2.2.2.1.2.1]⟩, none, some ⟨false, [.seq (.pair (.int .i64) .str) 0 y13]⟩])) noS)))]) 47 5 (ltab []) code65 Try.f65.results.toList (encT sh65_1.vs d.1) (encH sh65_1.h d.2) K = (fun (a1 : Int) (a2 : ByteArray) (a3 : Int) (a4 : Int) (a5 : Int) (a6 : Int) (a7 : Int) (a8 : Int) (a9 : Int) (a10 : Int) (a11 : Int) (a12 : Int) (a13 : Int) (a14 : List ByteArray) (a15 : List (Int × ByteArray)) (a16 : List (Int × ByteArray)) (K0 : (Option Res)) (K1 : (List (Int × ByteArray) → Option Res)) (K2 : (List (Int × ByteArray) → Option Res)) => c99_1 a1 a10 a11 a12 a13 a14 (fun x1 x2 => cond (x2 != 0) (K0) (cond (x1.toList == a2.toList) (K0) (cond (decide (a1 < a3)) (c100_9627 a1 a2 a3 a4 a5 a6 a7 a8 a9 a10 a11 a12 a13 a14 a15 a16 (fun x3 => K1 x3) ) (c100_4606 a1 a2 a3 a4 a5 a6 a7 a8 a9 a10 a11 a12 a13 a14 a15 a16 (fun x4 => K2 x4) )))) ) d.1.2.1 d.1.2.2.1 d.2.1.2.1 d.2.1.2.2.1 d.2.1.2.2.2.1 d.2.1.2.2.2.2.1 d.2.1.2.2.2.2.2.2.2.2.1 d.2.1.2.2.2.2.2.2.2.2.2.1 d.2.1.2.2.2.2.2.2.2.2.2.2.1 d.2.2.1.2.1 d.2.2.1.2.2.1 d.2.2.1.2.2.2.1 d.2.2.1.2.2.2.2.1 d.2.2.2.1.2.1 d.2.2.2.2.1.2.1 d.2.2.2.2.2.1.2.1 (K [] [some ⟨false, [.int .i64 d.2.1.2.1, .int .i64 d.2.1.2.2.1, .int .i64 d.2.1.2.2.2.1, .int .i64 d.2.1.2.2.2.2.1, .ptr 1 0, .full 3, .full 4, .int .i64 d.2.1.2.2.2.2.2.2.2.2.1, .int .i64 d.2.1.2.2.2.2.2.2.2.2.2.1, .int .i64 d.2.1.2.2.2.2.2.2.2.2.2.2.1]⟩, some ⟨d.2.2.1.1, [.int .i64 d.2.2.1.2.1, .int .i64 d.2.2.1.2.2.1, .int .i64 d.2.2.1.2.2.2.1, .int .i64 d.2.2.1.2.2.2.2.1, .full 2]⟩, some ⟨d.2.2.2.1.1, [.seq .str 0 d.2.2.2.1.2.1]⟩, some ⟨false, [.seq (.pair (.int .i64) .str) 0 d.2.2.2.2.1.2.1]⟩, some ⟨false, [.seq (.pair (.int .i64) .str) 0 d.2.2.2.2.2.1.2.1]⟩]) (fun (y13 : List (Int × ByteArray)) => K [] [some ⟨false, [.int .i64 d.2.1.2.1, .int .i64 d.2.1.2.2.1, .int .i64 d.2.1.2.2.2.1, .int .i64 d.2.1.2.2.2.2.1, .ptr 1 0, .full 3, .full 5, .int .i64 d.2.1.2.2.2.2.2.2.2.2.1, .int .i64 d.2.1.2.2.2.2.2.2.2.2.2.1, .int .i64 d.2.1.2.2.2.2.2.2.2.2.2.2.1]⟩, some ⟨d.2.2.1.1, [.int .i64 d.2.2.1.2.1, .int .i64 d.2.2.1.2.2.1, .int .i64 d.2.2.1.2.2.2.1, .int .i64 d.2.2.1.2.2.2.2.1, .full 2]⟩, some ⟨d.2.2.2.1.1, [.seq .str 0 d.2.2.2.1.2.1]⟩, some ⟨false, [.seq (.pair (.int .i64) .str) 0 d.2.2.2.2.1.2.1]⟩, none, some ⟨false, [.seq (.pair (.int .i64) .str) 0 y13]⟩]) (fun (y13 : List (Int × ByteArray)) => K [] [some ⟨false, [.int .i64 d.2.1.2.1, .int .i64 d.2.1.2.2.1, .int .i64 d.2.1.2.2.2.1, .int .i64 d.2.1.2.2.2.2.1, .ptr 1 0, .full 5, .full 4, .int .i64 d.2.1.2.2.2.2.2.2.2.2.1, .int .i64 d.2.1.2.2.2.2.2.2.2.2.2.1, .int .i64 d.2.1.2.2.2.2.2.2.2.2.2.2.1]⟩, some ⟨d.2.2.1.1, [.int .i64 d.2.2.1.2.1, .int .i64 d.2.2.1.2.2.1, .int .i64 d.2.2.1.2.2.2.1, .int .i64 d.2.2.1.2.2.2.2.1, .full 2]⟩, some ⟨d.2.2.2.1.1, [.seq .str 0 d.2.2.2.1.2.1]⟩, none, some ⟨false, [.seq (.pair (.int .i64) .str) 0 d.2.2.2.2.2.1.2.1]⟩, some ⟨false, [.seq (.pair (.int .i64) .str) 0 y13]⟩]) := by kernel_rfl
theorem E65_1 (F : Nat) (d : sh65_1.den) (K : KF) : evBody Try.prog (T65_1 F) 47 5 (LT65_1 F) code65 Try.f65.results.toList (encT sh65_1.vs d.1) (encH sh65_1.h d.2) K = f65_1 F d.1.2.1 d.1.2.2.1 d.2.1.2.1 d.2.1.2.2.1 d.2.1.2.2.2.1 d.2.1.2.2.2.2.1 d.2.1.2.2.2.2.2.2.2.2.1 d.2.1.2.2.2.2.2.2.2.2.2.1 d.2.1.2.2.2.2.2.2.2.2.2.2.1 d.2.2.1.2.1 d.2.2.1.2.2.1 d.2.2.1.2.2.2.1 d.2.2.1.2.2.2.2.1 d.2.2.2.1.2.1 d.2.2.2.2.1.2.1 d.2.2.2.2.2.1.2.1 (K [] [some ⟨false, [.int .i64 d.2.1.2.1, .int .i64 d.2.1.2.2.1, .int .i64 d.2.1.2.2.2.1, .int .i64 d.2.1.2.2.2.2.1, .ptr 1 0, .full 3, .full 4, .int .i64 d.2.1.2.2.2.2.2.2.2.2.1, .int .i64 d.2.1.2.2.2.2.2.2.2.2.2.1, .int .i64 d.2.1.2.2.2.2.2.2.2.2.2.2.1]⟩, some ⟨d.2.2.1.1, [.int .i64 d.2.2.1.2.1, .int .i64 d.2.2.1.2.2.1, .int .i64 d.2.2.1.2.2.2.1, .int .i64 d.2.2.1.2.2.2.2.1, .full 2]⟩, some ⟨d.2.2.2.1.1, [.seq .str 0 d.2.2.2.1.2.1]⟩, some ⟨false, [.seq (.pair (.int .i64) .str) 0 d.2.2.2.2.1.2.1]⟩, some ⟨false, [.seq (.pair (.int .i64) .str) 0 d.2.2.2.2.2.1.2.1]⟩]) (fun (y13 : List (Int × ByteArray)) => K [] [some ⟨false, [.int .i64 d.2.1.2.1, .int .i64 d.2.1.2.2.1, .int .i64 d.2.1.2.2.2.1, .int .i64 d.2.1.2.2.2.2.1, .ptr 1 0, .full 3, .full 5, .int .i64 d.2.1.2.2.2.2.2.2.2.2.1, .int .i64 d.2.1.2.2.2.2.2.2.2.2.2.1, .int .i64 d.2.1.2.2.2.2.2.2.2.2.2.2.1]⟩, some ⟨d.2.2.1.1, [.int .i64 d.2.2.1.2.1, .int .i64 d.2.2.1.2.2.1, .int .i64 d.2.2.1.2.2.2.1, .int .i64 d.2.2.1.2.2.2.2.1, .full 2]⟩, some ⟨d.2.2.2.1.1, [.seq .str 0 d.2.2.2.1.2.1]⟩, some ⟨false, [.seq (.pair (.int .i64) .str) 0 d.2.2.2.2.1.2.1]⟩, none, some ⟨false, [.seq (.pair (.int .i64) .str) 0 y13]⟩]) (fun (y13 : List (Int × ByteArray)) => K [] [some ⟨false, [.int .i64 d.2.1.2.1, .int .i64 d.2.1.2.2.1, .int .i64 d.2.1.2.2.2.1, .int .i64 d.2.1.2.2.2.2.1, .ptr 1 0, .full 5, .full 4, .int .i64 d.2.1.2.2.2.2.2.2.2.2.1, .int .i64 d.2.1.2.2.2.2.2.2.2.2.2.1, .int .i64 d.2.1.2.2.2.2.2.2.2.2.2.2.1]⟩, some ⟨d.2.2.1.1, [.int .i64 d.2.2.1.2.1, .int .i64 d.2.2.1.2.2.1, .int .i64 d.2.2.1.2.2.2.1, .int .i64 d.2.2.1.2.2.2.2.1, .full 2]⟩, some ⟨d.2.2.2.1.1, [.seq .str 0 d.2.2.2.1.2.1]⟩, none, some ⟨false, [.seq (.pair (.int .i64) .str) 0 d.2.2.2.2.2.1.2.1]⟩, some ⟨false, [.seq (.pair (.int .i64) .str) 0 y13]⟩]) := Eq.mp (by kernel_rfl) (E65_1g F (f99_1 F) (f100_4606 F) (f100_9627 F)   d K)
theorem S65_1_ok (F : Nat) (o : Summ) (ho : SoundFn Try.prog 65 o) : SoundFn Try.prog 65 (S65_1 F o) :=
  soundFn_of (fn := Try.f65) (c := code65) (by kernel_rfl) (tab_cons (S99_1_ok F _ (noS_sound enter99)) (tab_cons (S100_4606_ok F _ (S100_9627_ok F _ (noS_sound enter100))) tab_nil)) (by kernel_rfl) (by kernel_rfl) ho (by rw [loops65]; exact loopsOK_nil) (by rw [scopes65]; exact scopesOK_nil) (E65_1 F)
end Go.Proofs.Ytillbabmlfjegaa.X
end

section
namespace Go.Proofs.Ytillbabmlfjegaa.X
open Go Go.Proofs.Ytillbabmlfjegaa.Ev Go.Proofs
set_option linter.unusedVariables false
/-! walk.New -/
noncomputable def f12_1 {β : Type} (F : Nat) (a1 : ByteArray) (a2 : Int) (a3 : Int) (a4 : Int) (a5 : Int) (a6 : List ByteArray) (K0 : Option β) (K1 : List ByteArray → List (Int × ByteArray) → List (Int × ByteArray) → Option β) : Option β := f62_1 F a1 (fun x1 => cond (!x1) (K0) (f63_1 F a2 a3 a4 a5 a6 (f64_1 F a2 a3 a4 a5 a6 (fun x2 => f57_1 F a2 a3 a4 a5 (fun x3 => f65_1 F x3 a1 a2 a3 a4 a5 0 0 0 a2 a3 a4 a5 x2 [] [] (K1 x2 [] []) (fun x4 => K1 x2 [] x4) (fun x5 => K1 x2 x5 []) ) ) ) )) 
def sh12_1 : Sh := ⟨[.lf (.ptr 0 0), .lf (.str)], [some ⟨none, [.int .i64, .int .i64, .int .i64, .int .i64, .full 1]⟩, some ⟨none, [.seq .str 0]⟩]⟩
noncomputable def S12_1 (F : Nat) (o : Summ) : Summ := mkS sh12_1 (fun d K => f12_1 F d.1.2.1 d.2.1.2.1 d.2.1.2.2.1 d.2.1.2.2.2.1 d.2.1.2.2.2.2.1 d.2.2.1.2.1 (K [.lf (.nilp), .lf (.int .i64 4)] [some ⟨d.2.1.1, [.int .i64 d.2.1.2.1, .int .i64 d.2.1.2.2.1, .int .i64 d.2.1.2.2.2.1, .int .i64 d.2.1.2.2.2.2.1, .full 1]⟩, some ⟨d.2.2.1.1, [.seq .str 0 d.2.2.1.2.1]⟩]) (fun (y17 : List ByteArray) (y18 : List (Int × ByteArray)) (y19 : List (Int × ByteArray)) => K [.lf (.ptr 2 0), .lf (.int .i64 0)] [some ⟨d.2.1.1, [.int .i64 d.2.1.2.1, .int .i64 d.2.1.2.2.1, .int .i64 d.2.1.2.2.2.1, .int .i64 d.2.1.2.2.2.2.1, .full 1]⟩, some ⟨d.2.2.1.1, [.seq .str 0 d.2.2.1.2.1]⟩, some ⟨false, [.int .i64 d.2.1.2.1, .int .i64 d.2.1.2.2.1, .int .i64 d.2.1.2.2.2.1, .int .i64 d.2.1.2.2.2.2.1, .ptr 3 0, .full 5, .full 6, .int .i64 0, .int .i64 0, .int .i64 0]⟩, some ⟨false, [.int .i64 d.2.1.2.1, .int .i64 d.2.1.2.2.1, .int .i64 d.2.1.2.2.2.1, .int .i64 d.2.1.2.2.2.2.1, .full 4]⟩, some ⟨false, [.seq .str 0 y17]⟩, some ⟨false, [.seq (.pair (.int .i64) .str) 0 y18]⟩, some ⟨false, [.seq (.pair (.int .i64) .str) 0 y19]⟩])) o
noncomputable def code12 : Code := bodyOf Try.f12
theorem scopes12 : scopesOf code12 = [] := by kernel_rfl
theorem loops12 : loopsOf code12 = [] := by kernel_rfl
theorem enter12 : ∀ args w, (callFunc 12 args).run Try.prog w = .ok (.enter 12 args) w := enter_of (fn := Try.f12) (by kernel_rfl) (by kernel_rfl) (by kernel_rfl)
noncomputable def T12_1 (F : Nat) : FuncId → Option Summ := tab [(57, (S57_1 F noS)), (62, (S62_1 F noS)), (63, (S63_1 F noS)), (64, (S64_1 F noS)), (65, (S65_1 F noS))]
noncomputable def LT12_1 (F : Nat) : Nat → Option LoopS := ltab []
theorem E12_1g (F : Nat) (c57_1 : Int → Int → Int → Int → (Int → Option Res) → Option Res) (c62_1 : ByteArray → (Bool → Option Res) → Option Res) (c63_1 : Int → Int → Int → Int → List ByteArray → (Option Res) → Option Res) (c64_1 : Int → Int → Int → Int → List ByteArray → (List ByteArray → Option Res) → Option Res) (c65_1 : Int → ByteArray → Int → Int → Int → Int → Int → Int → Int → Int → Int → Int → Int → List ByteArray → List (Int × ByteArray) → List (Int × ByteArray) → (Option Res) → (List (Int × ByteArray) → Option Res) → (List (Int × ByteArray) → Option Res) → Option Res)   (d : sh12_1.den) (K : KF) : evBody Try.prog (tab [(57, (mkS sh57_1 (fun d K => c57_1 d.1.1.1 d.1.1.2.1 d.1.1.2.2.1 d.1.1.2.2.2.1 (fun (y0 : Int) => K [.lf (.int .i64 y0)] [])) noS)), (62, (mkS sh62_1 (fun d K => c62_1 d.1.1 (fun (y0 : Bool) => K [.lf (.bool y0)] [])) noS)), (63, (mkS sh63_1 (fun d K => c63_1 d.2.1.2.1 d.2.1.2.2.1 d.2.1.2.2.2.1 d.2.1.2.2.2.2.1 d.2.2.1.2.1 (K [.agg [.int .i64 d.2.1.2.1, .int .i64 d.2.1.2.2.1, .int .i64 d.2.1.2.2.2.1, .int .i64 d.2.1.2.2.2.2.1]] [some ⟨d.2.1.1, [.int .i64 d.2.1.2.1, .int .i64 d.2.1.2.2.1, .int .i64 d.2.1.2.2.2.1, .int .i64 d.2.1.2.2.2.2.1, .full 1]⟩, some ⟨d.2.2.1.1, [.seq .str 0 d.2.2.1.2.1]⟩])) noS)), (64, (mkS sh64_1 (fun d K => c64_1 d.2.1.2.1 d.2.1.2.2.1 d.2.1.2.2.2.1 d.2.1.2.2.2.2.1 d.2.2.1.2.1 (fun (y9 : List ByteArray) => K [.lf (.ptr 2 0)] [some ⟨d.2.1.1, [.int .i64 d.2.1.2.1, .int .i64 d.2.1.2.2.1, .int .i64 d.2.1.2.2.2.1, .int .i64 d.2.1.2.2.2.2.1, .full 1]⟩, some ⟨d.2.2.1.1, [.seq .str 0 d.2.2.1.2.1]⟩, some ⟨false, [.int .i64 d.2.1.2.1, .int .i64 d.2.1.2.2.1, .int .i64 d.2.1.2.2.2.1, .int .i64 d.2.1.2.2.2.2.1, .full 3]⟩, some ⟨false, [.seq .str 0 y9]⟩])) noS)), (65, (mkS sh65_1 (fun d K => c65_1 d.1.2.1 d.1.2.2.1 d.2.1.2.1 d.2.1.2.2.1 d.2.1.2.2.2.1 d.2.1.2.2.2.2.1 d.2.1.2.2.2.2.2.2.2.2.1 d.2.1.2.2.2.2.2.2.2.2.2.1 d.2.1.2.2.2.2.2.2.2.2.2.2.1 d.2.2.1.2.1 d.2.2.1.2.2.1 d.2.2.1.2.2.2.1 d.2.2.1.2.2.2.2.1 d.2.2.2.1.2.1 d.2.2.2.2.1.2.1 d.2.2.2.2.2.1.2.1 (K [] [some ⟨false, [.int .i64 d.2.1.2.1, .int .i64 d.2.1.2.2.1, .int .i64 d.2.1.2.2.2.1, .int .i64 d.2.1.2.2.2.2.1, .ptr 1 0, .full 3, .full 4, .int .i64 d.2.1.2.2.2.2.2.2.2.2.1, .int .i64 d.2.1.2.2.2.2.2.2.2.2.2.1, .int .i64 d.2.1.2.2.2.2.2.2.2.2.2.2.1]⟩, some ⟨d.2.2.1.1, [.int .i64 d.2.2.1.2.1, .int .i64 d.2.2.1.2.2.1, .int .i64 d.2.2.1.2.2.2.1, .int .i64 d.2.2.1.2.2.2.2.1, .full 2]⟩, some ⟨d.2.2.2.1.1, [.seq .str 0 d.2.2.2.1.2.1]⟩, some ⟨false, [.seq (.pair (.int .i64) .str) 0 d.2.2.2.2.1.2.1]⟩, some ⟨false, [.seq (.pair (.int .i64) .str) 0 d.2.2.2.2.2.1.2.1]⟩]) (fun (y13 : List (Int × ByteArray)) => K [] [some ⟨false, [.int .i64 d.2.1.2.1, .int .i64 d.2.1.2.2.1, .int .i64 d.2.1.2.2.2.1, .int .i64 d.2.1.2.2.2.2.1, .ptr 1 0, .full 3, .full 5, .int .i64 d.2.1.2.2.2.2.2.2.2.2.1, .int .i64 d.2.1.2.2.2.2.2.2.2.2.2.1, .int .i64 d.2.1.2.2.2.2.2.2.2.2.2.2.1]⟩, some ⟨d.2.2.1.1, [.int .i64 d.2.2.1.2.1, .int .i64 d.2.2.1.2.2.1, .int .i64 d.2.2.1.2.2.2.1, .int .i64 d.2.2.1.2.2.2.2.1, .full 2]⟩, some ⟨d.2.2.2.1.1, [.seq .str 0 d.2.2.2.1.2.1]⟩, some ⟨false, [.seq (.pair (.int .i64) .str) 0 d.2.2.2.2.1.2.1]⟩, none, some ⟨false, [.seq (.pair (.int .i64) .str) 0 y13]⟩]) (fun (y13 : List (Int × ByteArray)) => K [] [some ⟨false, [.int .i64 d.2.1.2.1, .int .i64 d.2.1.2.2.1, .int .i64 d.2.1.2.2.2.1, .int .i64 d.2.1.2.2.2.2.1, .ptr 1 0, .full 5, .full 4, .int .i64 d.2.1.2.2.2.2.2.2.2.2.1, .int .i64 d.2.1.2.2.2.2.2.2.2.2.2.1, .int .i64 d.2.1.2.2.2.2.2.2.2.2.2.2.1]⟩, some ⟨d.2.2.1.1, [.int .i64 d.2.2.1.2.1, .int .i64 d.2.2.1.2.2.1, .int .i64 d.2.2.1.2.2.2.1, .int .i64 d.2.2.1.2.2.2.2.1, .full 2]⟩, some ⟨d.2.2.2.1.1, [.seq .str 0 d.2.2.2.1.2.1]⟩, none, some ⟨false, [.seq (.pair (.int .i64) .str) 0 d.2.2.2.2.2.1.2.1]⟩, some ⟨false, [.seq (.pair (.int .i64) .str) 0 y13]⟩])) noS))]) 28 2 (ltab []) code12 Try.f12.results.toList (encT sh12_1.vs d.1) (encH sh12_1.h d.2) K = (fun (a1 : ByteArray) (a2 : Int) (a3 : Int) (a4 : Int) (a5 : Int) (a6 : List ByteArray) (K0 : (Option Res)) (K1 : (List ByteArray → List (Int × ByteArray) → List (Int × ByteArray) → Option Res)) => c62_1 a1 (fun x1 => cond (!x1) (K0) (c63_1 a2 a3 a4 a5 a6 (c64_1 a2 a3 a4 a5 a6 (fun x2 => c57_1 a2 a3 a4 a5 (fun x3 => c65_1 x3 a1 a2 a3 a4 a5 0 0 0 a2 a3 a4 a5 x2 [] [] (K1 x2 [] []) (fun x4 => K1 x2 [] x4) (fun x5 => K1 x2 x5 []) ) ) ) )) ) d.1.2.1 d.2.1.2.1 d.2.1.2.2.1 d.2.1.2.2.2.1 d.2.1.2.2.2.2.1 d.2.2.1.2.1 (K [.lf (.nilp), .lf (.int .i64 4)] [some ⟨d.2.1.1, [.int .i64 d.2.1.2.1, .int .i64 d.2.1.2.2.1, .int .i64 d.2.1.2.2.2.1, .int .i64 d.2.1.2.2.2.2.1, .full 1]⟩, some ⟨d.2.2.1.1, [.seq .str 0 d.2.2.1.2.1]⟩]) (fun (y17 : List ByteArray) (y18 : List (Int × ByteArray)) (y19 : List (Int × ByteArray)) => K [.lf (.ptr 2 0), .lf (.int .i64 0)] [some ⟨d.2.1.1, [.int .i64 d.2.1.2.1, .int .i64 d.2.1.2.2.1, .int .i64 d.2.1.2.2.2.1, .int .i64 d.2.1.2.2.2.2.1, .full 1]⟩, some ⟨d.2.2.1.1, [.seq .str 0 d.2.2.1.2.1]⟩, some ⟨false, [.int .i64 d.2.1.2.1, .int .i64 d.2.1.2.2.1, .int .i64 d.2.1.2.2.2.1, .int .i64 d.2.1.2.2.2.2.1, .ptr 3 0, .full 5, .full 6, .int .i64 0, .int .i64 0, .int .i64 0]⟩, some ⟨false, [.int .i64 d.2.1.2.1, .int .i64 d.2.1.2.2.1, .int .i64 d.2.1.2.2.2.1, .int .i64 d.2.1.2.2.2.2.1, .full 4]⟩, some ⟨false, [.seq .str 0 y17]⟩, some ⟨false, [.seq (.pair (.int .i64) .str) 0 y18]⟩, some ⟨false, [.seq (.pair (.int .i64) .str) 0 y19]⟩]) := by kernel_rfl
theorem E12_1 (F : Nat) (d : sh12_1.den) (K : KF) : evBody Try.prog (T12_1 F) 28 2 (LT12_1 F) code12 Try.f12.results.toList (encT sh12_1.vs d.1) (encH sh12_1.h d.2) K = f12_1 F d.1.2.1 d.2.1.2.1 d.2.1.2.2.1 d.2.1.2.2.2.1 d.2.1.2.2.2.2.1 d.2.2.1.2.1 (K [.lf (.nilp), .lf (.int .i64 4)] [some ⟨d.2.1.1, [.int .i64 d.2.1.2.1, .int .i64 d.2.1.2.2.1, .int .i64 d.2.1.2.2.2.1, .int .i64 d.2.1.2.2.2.2.1, .full 1]⟩, some ⟨d.2.2.1.1, [.seq .str 0 d.2.2.1.2.1]⟩]) (fun (y17 : List ByteArray) (y18 : List (Int × ByteArray)) (y19 : List (Int × ByteArray)) => K [.lf (.ptr 2 0), .lf (.int .i64 0)] [some ⟨d.2.1.1, [.int .i64 d.2.1.2.1, .int .i64 d.2.1.2.2.1, .int .i64 d.2.1.2.2.2.1, .int .i64 d.2.1.2.2.2.2.1, .full 1]⟩, some ⟨d.2.2.1.1, [.seq .str 0 d.2.2.1.2.1]⟩, some ⟨false, [.int .i64 d.2.1.2.1, .int .i64 d.2.1.2.2.1, .int .i64 d.2.1.2.2.2.1, .int .i64 d.2.1.2.2.2.2.1, .ptr 3 0, .full 5, .full 6, .int .i64 0, .int .i64 0, .int .i64 0]⟩, some ⟨false, [.int .i64 d.2.1.2.1, .int .i64 d.2.1.2.2.1, .int .i64 d.2.1.2.2.2.1, .int .i64 d.2.1.2.2.2.2.1, .full 4]⟩, some ⟨false, [.seq .str 0 y17]⟩, some ⟨false, [.seq (.pair (.int .i64) .str) 0 y18]⟩, some ⟨false, [.seq (.pair (.int .i64) .str) 0 y19]⟩]) := Eq.mp (by kernel_rfl) (E12_1g F (f57_1 F) (f62_1 F) (f63_1 F) (f64_1 F) (f65_1 F)   d K)
theorem S12_1_ok (F : Nat) (o : Summ) (ho : SoundFn Try.prog 12 o) : SoundFn Try.prog 12 (S12_1 F o) :=
  soundFn_of (fn := Try.f12) (c := code12) (by kernel_rfl) (tab_cons (S57_1_ok F _ (noS_sound enter57)) (tab_cons (S62_1_ok F _ (noS_sound enter62)) (tab_cons (S63_1_ok F _ (noS_sound enter63)) (tab_cons (S64_1_ok F _ (noS_sound enter64)) (tab_cons (S65_1_ok F _ (noS_sound enter65)) tab_nil))))) (by kernel_rfl) (by kernel_rfl) ho (by rw [loops12]; exact loopsOK_nil) (by rw [scopes12]; exact scopesOK_nil) (E12_1 F)
end Go.Proofs.Ytillbabmlfjegaa.X
end

section
namespace Go.Proofs.Ytillbabmlfjegaa.X
open Go Go.Proofs.Ytillbabmlfjegaa.Ev Go.Proofs
set_option linter.unusedVariables false
/-! walk.New -/
noncomputable def f12_115 {β : Type} (F : Nat) (a1 : ByteArray) (K0 : Option β) : Option β := K0
def sh12_115 : Sh := ⟨[.lf (.nilp), .lf (.str)], []⟩
noncomputable def S12_115 (F : Nat) (o : Summ) : Summ := mkS sh12_115 (fun d K => f12_115 F d.1.2.1 (K [.lf (.nilp), .lf (.int .i64 1)] [])) o
noncomputable def T12_115 (F : Nat) : FuncId → Option Summ := tab []
noncomputable def LT12_115 (F : Nat) : Nat → Option LoopS := ltab []
theorem E12_115g (F : Nat)    (d : sh12_115.den) (K : KF) : evBody Try.prog (tab []) 28 0 (ltab []) code12 Try.f12.results.toList (encT sh12_115.vs d.1) (encH sh12_115.h d.2) K = (fun (a1 : ByteArray) (K0 : (Option Res)) => K0) d.1.2.1 (K [.lf (.nilp), .lf (.int .i64 1)] []) := by kernel_rfl
theorem E12_115 (F : Nat) (d : sh12_115.den) (K : KF) : evBody Try.prog (T12_115 F) 28 0 (LT12_115 F) code12 Try.f12.results.toList (encT sh12_115.vs d.1) (encH sh12_115.h d.2) K = f12_115 F d.1.2.1 (K [.lf (.nilp), .lf (.int .i64 1)] []) := Eq.mp (by kernel_rfl) (E12_115g F    d K)
theorem S12_115_ok (F : Nat) (o : Summ) (ho : SoundFn Try.prog 12 o) : SoundFn Try.prog 12 (S12_115 F o) :=
  soundFn_of (fn := Try.f12) (c := code12) (by kernel_rfl) tab_nil (by kernel_rfl) (by kernel_rfl) ho (by rw [loops12]; exact loopsOK_nil) (by rw [scopes12]; exact scopesOK_nil) (E12_115 F)
end Go.Proofs.Ytillbabmlfjegaa.X
end

section
namespace Go.Proofs.Ytillbabmlfjegaa.X
open Go Go.Proofs.Ytillbabmlfjegaa.Ev Go.Proofs
set_option linter.unusedVariables false
/-! walk.Walk).Next -/
noncomputable def f16_1 {β : Type} (F : Nat) (a1 : Int) (a2 : Int) (a3 : Int) (a4 : Int) (a5 : Int) (a6 : Int) (a7 : Int) (a8 : Int) (a9 : Int) (a10 : Int) (a11 : Int) (a12 : List ByteArray) (a13 : List (Int × ByteArray)) (a14 : List (Int × ByteArray)) (K0 : Int → Int → Option β) : Option β := cond (decide (((a13.length : Nat) : Int) > 0)) (cond (decide ((0 : Int) ≤ (0 : Int) ∧ (0 : Int) < ((a13.length : Nat) : Int))) (cond (decide (0 < a13.length)) (K0 1 ((a13.getD 0 (0, ByteArray.empty)).1)) none) none) (cond (decide (((a14.length : Nat) : Int) > 0)) (cond (decide ((0 : Int) ≤ (0 : Int) ∧ (0 : Int) < ((a14.length : Nat) : Int))) (cond (decide (0 < a14.length)) (K0 2 ((a14.getD 0 (0, ByteArray.empty)).1)) none) none) (K0 0 0))
def sh16_1 : Sh := ⟨[.lf (.ptr 0 0)], [some ⟨none, [.int .i64, .int .i64, .int .i64, .int .i64, .ptr 1 0, .full 3, .full 4, .int .i64, .int .i64, .int .i64]⟩, some ⟨none, [.int .i64, .int .i64, .int .i64, .int .i64, .full 2]⟩, some ⟨none, [.seq .str 0]⟩, some ⟨none, [.seq (.pair (.int .i64) .str) 0]⟩, some ⟨none, [.seq (.pair (.int .i64) .str) 0]⟩]⟩
noncomputable def S16_1 (F : Nat) (o : Summ) : Summ := mkS sh16_1 (fun d K => f16_1 F d.2.1.2.1 d.2.1.2.2.1 d.2.1.2.2.2.1 d.2.1.2.2.2.2.1 d.2.1.2.2.2.2.2.2.2.2.1 d.2.1.2.2.2.2.2.2.2.2.2.1 d.2.1.2.2.2.2.2.2.2.2.2.2.1 d.2.2.1.2.1 d.2.2.1.2.2.1 d.2.2.1.2.2.2.1 d.2.2.1.2.2.2.2.1 d.2.2.2.1.2.1 d.2.2.2.2.1.2.1 d.2.2.2.2.2.1.2.1 (fun (y0 : Int) (y1 : Int) => K [.lf (.int .i64 y0), .lf (.int .i64 y1)] [some ⟨d.2.1.1, [.int .i64 d.2.1.2.1, .int .i64 d.2.1.2.2.1, .int .i64 d.2.1.2.2.2.1, .int .i64 d.2.1.2.2.2.2.1, .ptr 1 0, .full 3, .full 4, .int .i64 d.2.1.2.2.2.2.2.2.2.2.1, .int .i64 d.2.1.2.2.2.2.2.2.2.2.2.1, .int .i64 d.2.1.2.2.2.2.2.2.2.2.2.2.1]⟩, some ⟨d.2.2.1.1, [.int .i64 d.2.2.1.2.1, .int .i64 d.2.2.1.2.2.1, .int .i64 d.2.2.1.2.2.2.1, .int .i64 d.2.2.1.2.2.2.2.1, .full 2]⟩, some ⟨d.2.2.2.1.1, [.seq .str 0 d.2.2.2.1.2.1]⟩, some ⟨d.2.2.2.2.1.1, [.seq (.pair (.int .i64) .str) 0 d.2.2.2.2.1.2.1]⟩, some ⟨d.2.2.2.2.2.1.1, [.seq (.pair (.int .i64) .str) 0 d.2.2.2.2.2.1.2.1]⟩])) o
noncomputable def code16 : Code := bodyOf Try.f16
theorem scopes16 : scopesOf code16 = [] := by kernel_rfl
theorem loops16 : loopsOf code16 = [] := by kernel_rfl
theorem enter16 : ∀ args w, (callFunc 16 args).run Try.prog w = .ok (.enter 16 args) w := enter_of (fn := Try.f16) (by kernel_rfl) (by kernel_rfl) (by kernel_rfl)
noncomputable def T16_1 (F : Nat) : FuncId → Option Summ := tab []
noncomputable def LT16_1 (F : Nat) : Nat → Option LoopS := ltab []
theorem E16_1g (F : Nat)    (d : sh16_1.den) (K : KF) : evBody Try.prog (tab []) 39 5 (ltab []) code16 Try.f16.results.toList (encT sh16_1.vs d.1) (encH sh16_1.h d.2) K = (fun (a1 : Int) (a2 : Int) (a3 : Int) (a4 : Int) (a5 : Int) (a6 : Int) (a7 : Int) (a8 : Int) (a9 : Int) (a10 : Int) (a11 : Int) (a12 : List ByteArray) (a13 : List (Int × ByteArray)) (a14 : List (Int × ByteArray)) (K0 : (Int → Int → Option Res)) => cond (decide (((a13.length : Nat) : Int) > 0)) (cond (decide ((0 : Int) ≤ (0 : Int) ∧ (0 : Int) < ((a13.length : Nat) : Int))) (cond (decide (0 < a13.length)) (K0 1 ((a13.getD 0 (0, ByteArray.empty)).1)) none) none) (cond (decide (((a14.length : Nat) : Int) > 0)) (cond (decide ((0 : Int) ≤ (0 : Int) ∧ (0 : Int) < ((a14.length : Nat) : Int))) (cond (decide (0 < a14.length)) (K0 2 ((a14.getD 0 (0, ByteArray.empty)).1)) none) none) (K0 0 0))) d.2.1.2.1 d.2.1.2.2.1 d.2.1.2.2.2.1 d.2.1.2.2.2.2.1 d.2.1.2.2.2.2.2.2.2.2.1 d.2.1.2.2.2.2.2.2.2.2.2.1 d.2.1.2.2.2.2.2.2.2.2.2.2.1 d.2.2.1.2.1 d.2.2.1.2.2.1 d.2.2.1.2.2.2.1 d.2.2.1.2.2.2.2.1 d.2.2.2.1.2.1 d.2.2.2.2.1.2.1 d.2.2.2.2.2.1.2.1 (fun (y0 : Int) (y1 : Int) => K [.lf (.int .i64 y0), .lf (.int .i64 y1)] [some ⟨d.2.1.1, [.int .i64 d.2.1.2.1, .int .i64 d.2.1.2.2.1, .int .i64 d.2.1.2.2.2.1, .int .i64 d.2.1.2.2.2.2.1, .ptr 1 0, .full 3, .full 4, .int .i64 d.2.1.2.2.2.2.2.2.2.2.1, .int .i64 d.2.1.2.2.2.2.2.2.2.2.2.1, .int .i64 d.2.1.2.2.2.2.2.2.2.2.2.2.1]⟩, some ⟨d.2.2.1.1, [.int .i64 d.2.2.1.2.1, .int .i64 d.2.2.1.2.2.1, .int .i64 d.2.2.1.2.2.2.1, .int .i64 d.2.2.1.2.2.2.2.1, .full 2]⟩, some ⟨d.2.2.2.1.1, [.seq .str 0 d.2.2.2.1.2.1]⟩, some ⟨d.2.2.2.2.1.1, [.seq (.pair (.int .i64) .str) 0 d.2.2.2.2.1.2.1]⟩, some ⟨d.2.2.2.2.2.1.1, [.seq (.pair (.int .i64) .str) 0 d.2.2.2.2.2.1.2.1]⟩]) := by kernel_rfl
theorem E16_1 (F : Nat) (d : sh16_1.den) (K : KF) : evBody Try.prog (T16_1 F) 39 5 (LT16_1 F) code16 Try.f16.results.toList (encT sh16_1.vs d.1) (encH sh16_1.h d.2) K = f16_1 F d.2.1.2.1 d.2.1.2.2.1 d.2.1.2.2.2.1 d.2.1.2.2.2.2.1 d.2.1.2.2.2.2.2.2.2.2.1 d.2.1.2.2.2.2.2.2.2.2.2.1 d.2.1.2.2.2.2.2.2.2.2.2.2.1 d.2.2.1.2.1 d.2.2.1.2.2.1 d.2.2.1.2.2.2.1 d.2.2.1.2.2.2.2.1 d.2.2.2.1.2.1 d.2.2.2.2.1.2.1 d.2.2.2.2.2.1.2.1 (fun (y0 : Int) (y1 : Int) => K [.lf (.int .i64 y0), .lf (.int .i64 y1)] [some ⟨d.2.1.1, [.int .i64 d.2.1.2.1, .int .i64 d.2.1.2.2.1, .int .i64 d.2.1.2.2.2.1, .int .i64 d.2.1.2.2.2.2.1, .ptr 1 0, .full 3, .full 4, .int .i64 d.2.1.2.2.2.2.2.2.2.2.1, .int .i64 d.2.1.2.2.2.2.2.2.2.2.2.1, .int .i64 d.2.1.2.2.2.2.2.2.2.2.2.2.1]⟩, some ⟨d.2.2.1.1, [.int .i64 d.2.2.1.2.1, .int .i64 d.2.2.1.2.2.1, .int .i64 d.2.2.1.2.2.2.1, .int .i64 d.2.2.1.2.2.2.2.1, .full 2]⟩, some ⟨d.2.2.2.1.1, [.seq .str 0 d.2.2.2.1.2.1]⟩, some ⟨d.2.2.2.2.1.1, [.seq (.pair (.int .i64) .str) 0 d.2.2.2.2.1.2.1]⟩, some ⟨d.2.2.2.2.2.1.1, [.seq (.pair (.int .i64) .str) 0 d.2.2.2.2.2.1.2.1]⟩]) := Eq.mp (by kernel_rfl) (E16_1g F    d K)
theorem S16_1_ok (F : Nat) (o : Summ) (ho : SoundFn Try.prog 16 o) : SoundFn Try.prog 16 (S16_1 F o) :=
  soundFn_of (fn := Try.f16) (c := code16) (by kernel_rfl) tab_nil (by kernel_rfl) (by kernel_rfl) ho (by rw [loops16]; exact loopsOK_nil) (by rw [scopes16]; exact scopesOK_nil) (E16_1 F)
end Go.Proofs.Ytillbabmlfjegaa.X
end

section
namespace Go.Proofs.Ytillbabmlfjegaa.X
open Go Go.Proofs.Ytillbabmlfjegaa.Ev Go.Proofs
set_option linter.unusedVariables false
/-! walk.Walk).waits -/
noncomputable def f67_1 {β : Type} (F : Nat) (a1 : Int) (a2 : Int) (a3 : Int) (a4 : Int) (a5 : Int) (a6 : Int) (a7 : Int) (a8 : Int) (a9 : Int) (a10 : Int) (a11 : Int) (a12 : Int) (a13 : Int) (a14 : List ByteArray) (a15 : List (Int × ByteArray)) (a16 : List (Int × ByteArray)) (K0 : Bool → Option β) : Option β := f16_1 F a3 a4 a5 a6 a7 a8 a9 a10 a11 a12 a13 a14 a15 a16 (fun x1 x2 => cond (x1 == a1) (K0 (x2 == a2)) (K0 false)) 
def sh67_1 : Sh := ⟨[.lf (.ptr 0 0), .lf (.int .i64), .lf (.int .i64)], [some ⟨none, [.int .i64, .int .i64, .int .i64, .int .i64, .ptr 1 0, .full 3, .full 4, .int .i64, .int .i64, .int .i64]⟩, some ⟨none, [.int .i64, .int .i64, .int .i64, .int .i64, .full 2]⟩, some ⟨none, [.seq .str 0]⟩, some ⟨none, [.seq (.pair (.int .i64) .str) 0]⟩, some ⟨none, [.seq (.pair (.int .i64) .str) 0]⟩]⟩
noncomputable def S67_1 (F : Nat) (o : Summ) : Summ := mkS sh67_1 (fun d K => f67_1 F d.1.2.1 d.1.2.2.1 d.2.1.2.1 d.2.1.2.2.1 d.2.1.2.2.2.1 d.2.1.2.2.2.2.1 d.2.1.2.2.2.2.2.2.2.2.1 d.2.1.2.2.2.2.2.2.2.2.2.1 d.2.1.2.2.2.2.2.2.2.2.2.2.1 d.2.2.1.2.1 d.2.2.1.2.2.1 d.2.2.1.2.2.2.1 d.2.2.1.2.2.2.2.1 d.2.2.2.1.2.1 d.2.2.2.2.1.2.1 d.2.2.2.2.2.1.2.1 (fun (y0 : Bool) => K [.lf (.bool y0)] [some ⟨d.2.1.1, [.int .i64 d.2.1.2.1, .int .i64 d.2.1.2.2.1, .int .i64 d.2.1.2.2.2.1, .int .i64 d.2.1.2.2.2.2.1, .ptr 1 0, .full 3, .full 4, .int .i64 d.2.1.2.2.2.2.2.2.2.2.1, .int .i64 d.2.1.2.2.2.2.2.2.2.2.2.1, .int .i64 d.2.1.2.2.2.2.2.2.2.2.2.2.1]⟩, some ⟨d.2.2.1.1, [.int .i64 d.2.2.1.2.1, .int .i64 d.2.2.1.2.2.1, .int .i64 d.2.2.1.2.2.2.1, .int .i64 d.2.2.1.2.2.2.2.1, .full 2]⟩, some ⟨d.2.2.2.1.1, [.seq .str 0 d.2.2.2.1.2.1]⟩, some ⟨d.2.2.2.2.1.1, [.seq (.pair (.int .i64) .str) 0 d.2.2.2.2.1.2.1]⟩, some ⟨d.2.2.2.2.2.1.1, [.seq (.pair (.int .i64) .str) 0 d.2.2.2.2.2.1.2.1]⟩])) o
noncomputable def code67 : Code := bodyOf Try.f67
theorem scopes67 : scopesOf code67 = [] := by kernel_rfl
theorem loops67 : loopsOf code67 = [] := by kernel_rfl
theorem enter67 : ∀ args w, (callFunc 67 args).run Try.prog w = .ok (.enter 67 args) w := enter_of (fn := Try.f67) (by kernel_rfl) (by kernel_rfl) (by kernel_rfl)
noncomputable def T67_1 (F : Nat) : FuncId → Option Summ := tab [(16, (S16_1 F noS))]
noncomputable def LT67_1 (F : Nat) : Nat → Option LoopS := ltab []
theorem E67_1g (F : Nat) (c16_1 : Int → Int → Int → Int → Int → Int → Int → Int → Int → Int → Int → List ByteArray → List (Int × ByteArray) → List (Int × ByteArray) → (Int → Int → Option Res) → Option Res)   (d : sh67_1.den) (K : KF) : evBody Try.prog (tab [(16, (mkS sh16_1 (fun d K => c16_1 d.2.1.2.1 d.2.1.2.2.1 d.2.1.2.2.2.1 d.2.1.2.2.2.2.1 d.2.1.2.2.2.2.2.2.2.2.1 d.2.1.2.2.2.2.2.2.2.2.2.1 d.2.1.2.2.2.2.2.2.2.2.2.2.1 d.2.2.1.2.1 d.2.2.1.2.2.1 d.2.2.1.2.2.2.1 d.2.2.1.2.2.2.2.1 d.2.2.2.1.2.1 d.2.2.2.2.1.2.1 d.2.2.2.2.2.1.2.1 (fun (y0 : Int) (y1 : Int) => K [.lf (.int .i64 y0), .lf (.int .i64 y1)] [some ⟨d.2.1.1, [.int .i64 d.2.1.2.1, .int .i64 d.2.1.2.2.1, .int .i64 d.2.1.2.2.2.1, .int .i64 d.2.1.2.2.2.2.1, .ptr 1 0, .full 3, .full 4, .int .i64 d.2.1.2.2.2.2.2.2.2.2.1, .int .i64 d.2.1.2.2.2.2.2.2.2.2.2.1, .int .i64 d.2.1.2.2.2.2.2.2.2.2.2.2.1]⟩, some ⟨d.2.2.1.1, [.int .i64 d.2.2.1.2.1, .int .i64 d.2.2.1.2.2.1, .int .i64 d.2.2.1.2.2.2.1, .int .i64 d.2.2.1.2.2.2.2.1, .full 2]⟩, some ⟨d.2.2.2.1.1, [.seq .str 0 d.2.2.2.1.2.1]⟩, some ⟨d.2.2.2.2.1.1, [.seq (.pair (.int .i64) .str) 0 d.2.2.2.2.1.2.1]⟩, some ⟨d.2.2.2.2.2.1.1, [.seq (.pair (.int .i64) .str) 0 d.2.2.2.2.2.1.2.1]⟩])) noS))]) 22 5 (ltab []) code67 Try.f67.results.toList (encT sh67_1.vs d.1) (encH sh67_1.h d.2) K = (fun (a1 : Int) (a2 : Int) (a3 : Int) (a4 : Int) (a5 : Int) (a6 : Int) (a7 : Int) (a8 : Int) (a9 : Int) (a10 : Int) (a11 : Int) (a12 : Int) (a13 : Int) (a14 : List ByteArray) (a15 : List (Int × ByteArray)) (a16 : List (Int × ByteArray)) (K0 : (Bool → Option Res)) => c16_1 a3 a4 a5 a6 a7 a8 a9 a10 a11 a12 a13 a14 a15 a16 (fun x1 x2 => cond (x1 == a1) (K0 (x2 == a2)) (K0 false)) ) d.1.2.1 d.1.2.2.1 d.2.1.2.1 d.2.1.2.2.1 d.2.1.2.2.2.1 d.2.1.2.2.2.2.1 d.2.1.2.2.2.2.2.2.2.2.1 d.2.1.2.2.2.2.2.2.2.2.2.1 d.2.1.2.2.2.2.2.2.2.2.2.2.1 d.2.2.1.2.1 d.2.2.1.2.2.1 d.2.2.1.2.2.2.1 d.2.2.1.2.2.2.2.1 d.2.2.2.1.2.1 d.2.2.2.2.1.2.1 d.2.2.2.2.2.1.2.1 (fun (y0 : Bool) => K [.lf (.bool y0)] [some ⟨d.2.1.1, [.int .i64 d.2.1.2.1, .int .i64 d.2.1.2.2.1, .int .i64 d.2.1.2.2.2.1, .int .i64 d.2.1.2.2.2.2.1, .ptr 1 0, .full 3, .full 4, .int .i64 d.2.1.2.2.2.2.2.2.2.2.1, .int .i64 d.2.1.2.2.2.2.2.2.2.2.2.1, .int .i64 d.2.1.2.2.2.2.2.2.2.2.2.2.1]⟩, some ⟨d.2.2.1.1, [.int .i64 d.2.2.1.2.1, .int .i64 d.2.2.1.2.2.1, .int .i64 d.2.2.1.2.2.2.1, .int .i64 d.2.2.1.2.2.2.2.1, .full 2]⟩, some ⟨d.2.2.2.1.1, [.seq .str 0 d.2.2.2.1.2.1]⟩, some ⟨d.2.2.2.2.1.1, [.seq (.pair (.int .i64) .str) 0 d.2.2.2.2.1.2.1]⟩, some ⟨d.2.2.2.2.2.1.1, [.seq (.pair (.int .i64) .str) 0 d.2.2.2.2.2.1.2.1]⟩]) := by kernel_rfl
theorem E67_1 (F : Nat) (d : sh67_1.den) (K : KF) : evBody Try.prog (T67_1 F) 22 5 (LT67_1 F) code67 Try.f67.results.toList (encT sh67_1.vs d.1) (encH sh67_1.h d.2) K = f67_1 F d.1.2.1 d.1.2.2.1 d.2.1.2.1 d.2.1.2.2.1 d.2.1.2.2.2.1 d.2.1.2.2.2.2.1 d.2.1.2.2.2.2.2.2.2.2.1 d.2.1.2.2.2.2.2.2.2.2.2.1 d.2.1.2.2.2.2.2.2.2.2.2.2.1 d.2.2.1.2.1 d.2.2.1.2.2.1 d.2.2.1.2.2.2.1 d.2.2.1.2.2.2.2.1 d.2.2.2.1.2.1 d.2.2.2.2.1.2.1 d.2.2.2.2.2.1.2.1 (fun (y0 : Bool) => K [.lf (.bool y0)] [some ⟨d.2.1.1, [.int .i64 d.2.1.2.1, .int .i64 d.2.1.2.2.1, .int .i64 d.2.1.2.2.2.1, .int .i64 d.2.1.2.2.2.2.1, .ptr 1 0, .full 3, .full 4, .int .i64 d.2.1.2.2.2.2.2.2.2.2.1, .int .i64 d.2.1.2.2.2.2.2.2.2.2.2.1, .int .i64 d.2.1.2.2.2.2.2.2.2.2.2.2.1]⟩, some ⟨d.2.2.1.1, [.int .i64 d.2.2.1.2.1, .int .i64 d.2.2.1.2.2.1, .int .i64 d.2.2.1.2.2.2.1, .int .i64 d.2.2.1.2.2.2.2.1, .full 2]⟩, some ⟨d.2.2.2.1.1, [.seq .str 0 d.2.2.2.1.2.1]⟩, some ⟨d.2.2.2.2.1.1, [.seq (.pair (.int .i64) .str) 0 d.2.2.2.2.1.2.1]⟩, some ⟨d.2.2.2.2.2.1.1, [.seq (.pair (.int .i64) .str) 0 d.2.2.2.2.2.1.2.1]⟩]) := Eq.mp (by kernel_rfl) (E67_1g F (f16_1 F)   d K)
theorem S67_1_ok (F : Nat) (o : Summ) (ho : SoundFn Try.prog 67 o) : SoundFn Try.prog 67 (S67_1 F o) :=
  soundFn_of (fn := Try.f67) (c := code67) (by kernel_rfl) (tab_cons (S16_1_ok F _ (noS_sound enter16)) tab_nil) (by kernel_rfl) (by kernel_rfl) ho (by rw [loops67]; exact loopsOK_nil) (by rw [scopes67]; exact scopesOK_nil) (E67_1 F)
end Go.Proofs.Ytillbabmlfjegaa.X
end

section
namespace Go.Proofs.Ytillbabmlfjegaa.X
open Go Go.Proofs.Ytillbabmlfjegaa.Ev Go.Proofs
set_option linter.unusedVariables false
/-! walk.Walk).Done -/
noncomputable def f15_1 {β : Type} (F : Nat) (a1 : Int) (a2 : Int) (a3 : Int) (a4 : Int) (a5 : Int) (a6 : Int) (a7 : Int) (a8 : Int) (a9 : Int) (a10 : Int) (a11 : Int) (a12 : List ByteArray) (a13 : List (Int × ByteArray)) (a14 : List (Int × ByteArray)) (K0 : Bool → Option β) : Option β := f67_1 F 0 0 a1 a2 a3 a4 a5 a6 a7 a8 a9 a10 a11 a12 a13 a14 (fun x1 => K0 x1) 
def sh15_1 : Sh := ⟨[.lf (.ptr 0 0)], [some ⟨none, [.int .i64, .int .i64, .int .i64, .int .i64, .ptr 1 0, .full 3, .full 4, .int .i64, .int .i64, .int .i64]⟩, some ⟨none, [.int .i64, .int .i64, .int .i64, .int .i64, .full 2]⟩, some ⟨none, [.seq .str 0]⟩, some ⟨none, [.seq (.pair (.int .i64) .str) 0]⟩, some ⟨none, [.seq (.pair (.int .i64) .str) 0]⟩]⟩
noncomputable def S15_1 (F : Nat) (o : Summ) : Summ := mkS sh15_1 (fun d K => f15_1 F d.2.1.2.1 d.2.1.2.2.1 d.2.1.2.2.2.1 d.2.1.2.2.2.2.1 d.2.1.2.2.2.2.2.2.2.2.1 d.2.1.2.2.2.2.2.2.2.2.2.1 d.2.1.2.2.2.2.2.2.2.2.2.2.1 d.2.2.1.2.1 d.2.2.1.2.2.1 d.2.2.1.2.2.2.1 d.2.2.1.2.2.2.2.1 d.2.2.2.1.2.1 d.2.2.2.2.1.2.1 d.2.2.2.2.2.1.2.1 (fun (y0 : Bool) => K [.lf (.bool y0)] [some ⟨d.2.1.1, [.int .i64 d.2.1.2.1, .int .i64 d.2.1.2.2.1, .int .i64 d.2.1.2.2.2.1, .int .i64 d.2.1.2.2.2.2.1, .ptr 1 0, .full 3, .full 4, .int .i64 d.2.1.2.2.2.2.2.2.2.2.1, .int .i64 d.2.1.2.2.2.2.2.2.2.2.2.1, .int .i64 d.2.1.2.2.2.2.2.2.2.2.2.2.1]⟩, some ⟨d.2.2.1.1, [.int .i64 d.2.2.1.2.1, .int .i64 d.2.2.1.2.2.1, .int .i64 d.2.2.1.2.2.2.1, .int .i64 d.2.2.1.2.2.2.2.1, .full 2]⟩, some ⟨d.2.2.2.1.1, [.seq .str 0 d.2.2.2.1.2.1]⟩, some ⟨d.2.2.2.2.1.1, [.seq (.pair (.int .i64) .str) 0 d.2.2.2.2.1.2.1]⟩, some ⟨d.2.2.2.2.2.1.1, [.seq (.pair (.int .i64) .str) 0 d.2.2.2.2.2.1.2.1]⟩])) o
noncomputable def code15 : Code := bodyOf Try.f15
theorem scopes15 : scopesOf code15 = [] := by kernel_rfl
theorem loops15 : loopsOf code15 = [] := by kernel_rfl
theorem enter15 : ∀ args w, (callFunc 15 args).run Try.prog w = .ok (.enter 15 args) w := enter_of (fn := Try.f15) (by kernel_rfl) (by kernel_rfl) (by kernel_rfl)
noncomputable def T15_1 (F : Nat) : FuncId → Option Summ := tab [(67, (S67_1 F noS))]
noncomputable def LT15_1 (F : Nat) : Nat → Option LoopS := ltab []
theorem E15_1g (F : Nat) (c67_1 : Int → Int → Int → Int → Int → Int → Int → Int → Int → Int → Int → Int → Int → List ByteArray → List (Int × ByteArray) → List (Int × ByteArray) → (Bool → Option Res) → Option Res)   (d : sh15_1.den) (K : KF) : evBody Try.prog (tab [(67, (mkS sh67_1 (fun d K => c67_1 d.1.2.1 d.1.2.2.1 d.2.1.2.1 d.2.1.2.2.1 d.2.1.2.2.2.1 d.2.1.2.2.2.2.1 d.2.1.2.2.2.2.2.2.2.2.1 d.2.1.2.2.2.2.2.2.2.2.2.1 d.2.1.2.2.2.2.2.2.2.2.2.2.1 d.2.2.1.2.1 d.2.2.1.2.2.1 d.2.2.1.2.2.2.1 d.2.2.1.2.2.2.2.1 d.2.2.2.1.2.1 d.2.2.2.2.1.2.1 d.2.2.2.2.2.1.2.1 (fun (y0 : Bool) => K [.lf (.bool y0)] [some ⟨d.2.1.1, [.int .i64 d.2.1.2.1, .int .i64 d.2.1.2.2.1, .int .i64 d.2.1.2.2.2.1, .int .i64 d.2.1.2.2.2.2.1, .ptr 1 0, .full 3, .full 4, .int .i64 d.2.1.2.2.2.2.2.2.2.2.1, .int .i64 d.2.1.2.2.2.2.2.2.2.2.2.1, .int .i64 d.2.1.2.2.2.2.2.2.2.2.2.2.1]⟩, some ⟨d.2.2.1.1, [.int .i64 d.2.2.1.2.1, .int .i64 d.2.2.1.2.2.1, .int .i64 d.2.2.1.2.2.2.1, .int .i64 d.2.2.1.2.2.2.2.1, .full 2]⟩, some ⟨d.2.2.2.1.1, [.seq .str 0 d.2.2.2.1.2.1]⟩, some ⟨d.2.2.2.2.1.1, [.seq (.pair (.int .i64) .str) 0 d.2.2.2.2.1.2.1]⟩, some ⟨d.2.2.2.2.2.1.1, [.seq (.pair (.int .i64) .str) 0 d.2.2.2.2.2.1.2.1]⟩])) noS))]) 5 5 (ltab []) code15 Try.f15.results.toList (encT sh15_1.vs d.1) (encH sh15_1.h d.2) K = (fun (a1 : Int) (a2 : Int) (a3 : Int) (a4 : Int) (a5 : Int) (a6 : Int) (a7 : Int) (a8 : Int) (a9 : Int) (a10 : Int) (a11 : Int) (a12 : List ByteArray) (a13 : List (Int × ByteArray)) (a14 : List (Int × ByteArray)) (K0 : (Bool → Option Res)) => c67_1 0 0 a1 a2 a3 a4 a5 a6 a7 a8 a9 a10 a11 a12 a13 a14 (fun x1 => K0 x1) ) d.2.1.2.1 d.2.1.2.2.1 d.2.1.2.2.2.1 d.2.1.2.2.2.2.1 d.2.1.2.2.2.2.2.2.2.2.1 d.2.1.2.2.2.2.2.2.2.2.2.1 d.2.1.2.2.2.2.2.2.2.2.2.2.1 d.2.2.1.2.1 d.2.2.1.2.2.1 d.2.2.1.2.2.2.1 d.2.2.1.2.2.2.2.1 d.2.2.2.1.2.1 d.2.2.2.2.1.2.1 d.2.2.2.2.2.1.2.1 (fun (y0 : Bool) => K [.lf (.bool y0)] [some ⟨d.2.1.1, [.int .i64 d.2.1.2.1, .int .i64 d.2.1.2.2.1, .int .i64 d.2.1.2.2.2.1, .int .i64 d.2.1.2.2.2.2.1, .ptr 1 0, .full 3, .full 4, .int .i64 d.2.1.2.2.2.2.2.2.2.2.1, .int .i64 d.2.1.2.2.2.2.2.2.2.2.2.1, .int .i64 d.2.1.2.2.2.2.2.2.2.2.2.2.1]⟩, some ⟨d.2.2.1.1, [.int .i64 d.2.2.1.2.1, .int .i64 d.2.2.1.2.2.1, .int .i64 d.2.2.1.2.2.2.1, .int .i64 d.2.2.1.2.2.2.2.1, .full 2]⟩, some ⟨d.2.2.2.1.1, [.seq .str 0 d.2.2.2.1.2.1]⟩, some ⟨d.2.2.2.2.1.1, [.seq (.pair (.int .i64) .str) 0 d.2.2.2.2.1.2.1]⟩, some ⟨d.2.2.2.2.2.1.1, [.seq (.pair (.int .i64) .str) 0 d.2.2.2.2.2.1.2.1]⟩]) := by kernel_rfl
theorem E15_1 (F : Nat) (d : sh15_1.den) (K : KF) : evBody Try.prog (T15_1 F) 5 5 (LT15_1 F) code15 Try.f15.results.toList (encT sh15_1.vs d.1) (encH sh15_1.h d.2) K = f15_1 F d.2.1.2.1 d.2.1.2.2.1 d.2.1.2.2.2.1 d.2.1.2.2.2.2.1 d.2.1.2.2.2.2.2.2.2.2.1 d.2.1.2.2.2.2.2.2.2.2.2.1 d.2.1.2.2.2.2.2.2.2.2.2.2.1 d.2.2.1.2.1 d.2.2.1.2.2.1 d.2.2.1.2.2.2.1 d.2.2.1.2.2.2.2.1 d.2.2.2.1.2.1 d.2.2.2.2.1.2.1 d.2.2.2.2.2.1.2.1 (fun (y0 : Bool) => K [.lf (.bool y0)] [some ⟨d.2.1.1, [.int .i64 d.2.1.2.1, .int .i64 d.2.1.2.2.1, .int .i64 d.2.1.2.2.2.1, .int .i64 d.2.1.2.2.2.2.1, .ptr 1 0, .full 3, .full 4, .int .i64 d.2.1.2.2.2.2.2.2.2.2.1, .int .i64 d.2.1.2.2.2.2.2.2.2.2.2.1, .int .i64 d.2.1.2.2.2.2.2.2.2.2.2.2.1]⟩, some ⟨d.2.2.1.1, [.int .i64 d.2.2.1.2.1, .int .i64 d.2.2.1.2.2.1, .int .i64 d.2.2.1.2.2.2.1, .int .i64 d.2.2.1.2.2.2.2.1, .full 2]⟩, some ⟨d.2.2.2.1.1, [.seq .str 0 d.2.2.2.1.2.1]⟩, some ⟨d.2.2.2.2.1.1, [.seq (.pair (.int .i64) .str) 0 d.2.2.2.2.1.2.1]⟩, some ⟨d.2.2.2.2.2.1.1, [.seq (.pair (.int .i64) .str) 0 d.2.2.2.2.2.1.2.1]⟩]) := Eq.mp (by kernel_rfl) (E15_1g F (f67_1 F)   d K)
theorem S15_1_ok (F : Nat) (o : Summ) (ho : SoundFn Try.prog 15 o) : SoundFn Try.prog 15 (S15_1 F o) :=
  soundFn_of (fn := Try.f15) (c := code15) (by kernel_rfl) (tab_cons (S67_1_ok F _ (noS_sound enter67)) tab_nil) (by kernel_rfl) (by kernel_rfl) ho (by rw [loops15]; exact loopsOK_nil) (by rw [scopes15]; exact scopesOK_nil) (E15_1 F)
end Go.Proofs.Ytillbabmlfjegaa.X
end

section
namespace Go.Proofs.Ytillbabmlfjegaa.X
open Go Go.Proofs.Ytillbabmlfjegaa.Ev Go.Proofs
set_option linter.unusedVariables false
/-! walk.Walk).Next -/
noncomputable def f16_568 {β : Type} (F : Nat)  (K0 : Option β) : Option β := K0
def sh16_568 : Sh := ⟨[.lf (.nilp)], []⟩
noncomputable def S16_568 (F : Nat) (o : Summ) : Summ := mkS sh16_568 (fun d K => f16_568 F (K [.lf (.int .i64 0), .lf (.int .i64 0)] [])) o
noncomputable def T16_568 (F : Nat) : FuncId → Option Summ := tab []
noncomputable def LT16_568 (F : Nat) : Nat → Option LoopS := ltab []
theorem E16_568g (F : Nat)    (d : sh16_568.den) (K : KF) : evBody Try.prog (tab []) 39 0 (ltab []) code16 Try.f16.results.toList (encT sh16_568.vs d.1) (encH sh16_568.h d.2) K = (fun (K0 : (Option Res)) => K0) (K [.lf (.int .i64 0), .lf (.int .i64 0)] []) := by kernel_rfl
theorem E16_568 (F : Nat) (d : sh16_568.den) (K : KF) : evBody Try.prog (T16_568 F) 39 0 (LT16_568 F) code16 Try.f16.results.toList (encT sh16_568.vs d.1) (encH sh16_568.h d.2) K = f16_568 F (K [.lf (.int .i64 0), .lf (.int .i64 0)] []) := Eq.mp (by kernel_rfl) (E16_568g F    d K)
theorem S16_568_ok (F : Nat) (o : Summ) (ho : SoundFn Try.prog 16 o) : SoundFn Try.prog 16 (S16_568 F o) :=
  soundFn_of (fn := Try.f16) (c := code16) (by kernel_rfl) tab_nil (by kernel_rfl) (by kernel_rfl) ho (by rw [loops16]; exact loopsOK_nil) (by rw [scopes16]; exact scopesOK_nil) (E16_568 F)
end Go.Proofs.Ytillbabmlfjegaa.X
end

section
namespace Go.Proofs.Ytillbabmlfjegaa.X
open Go Go.Proofs.Ytillbabmlfjegaa.Ev Go.Proofs
set_option linter.unusedVariables false
/-! walk.Walk).waits -/
noncomputable def f67_8586 {β : Type} (F : Nat) (a1 : Int) (a2 : Int) (K0 : Bool → Option β) : Option β := f16_568 F  (cond ((0 : Int) == a1) (K0 ((0 : Int) == a2)) (K0 false)) 
def sh67_8586 : Sh := ⟨[.lf (.nilp), .lf (.int .i64), .lf (.int .i64)], []⟩
noncomputable def S67_8586 (F : Nat) (o : Summ) : Summ := mkS sh67_8586 (fun d K => f67_8586 F d.1.2.1 d.1.2.2.1 (fun (y0 : Bool) => K [.lf (.bool y0)] [])) o
noncomputable def T67_8586 (F : Nat) : FuncId → Option Summ := tab [(16, (S16_568 F noS))]
noncomputable def LT67_8586 (F : Nat) : Nat → Option LoopS := ltab []
theorem E67_8586g (F : Nat) (c16_568 : (Option Res) → Option Res)   (d : sh67_8586.den) (K : KF) : evBody Try.prog (tab [(16, (mkS sh16_568 (fun d K => c16_568 (K [.lf (.int .i64 0), .lf (.int .i64 0)] [])) noS))]) 22 0 (ltab []) code67 Try.f67.results.toList (encT sh67_8586.vs d.1) (encH sh67_8586.h d.2) K = (fun (a1 : Int) (a2 : Int) (K0 : (Bool → Option Res)) => c16_568  (cond ((0 : Int) == a1) (K0 ((0 : Int) == a2)) (K0 false)) ) d.1.2.1 d.1.2.2.1 (fun (y0 : Bool) => K [.lf (.bool y0)] []) := by kernel_rfl
theorem E67_8586 (F : Nat) (d : sh67_8586.den) (K : KF) : evBody Try.prog (T67_8586 F) 22 0 (LT67_8586 F) code67 Try.f67.results.toList (encT sh67_8586.vs d.1) (encH sh67_8586.h d.2) K = f67_8586 F d.1.2.1 d.1.2.2.1 (fun (y0 : Bool) => K [.lf (.bool y0)] []) := Eq.mp (by kernel_rfl) (E67_8586g F (f16_568 F)   d K)
theorem S67_8586_ok (F : Nat) (o : Summ) (ho : SoundFn Try.prog 67 o) : SoundFn Try.prog 67 (S67_8586 F o) :=
  soundFn_of (fn := Try.f67) (c := code67) (by kernel_rfl) (tab_cons (S16_568_ok F _ (noS_sound enter16)) tab_nil) (by kernel_rfl) (by kernel_rfl) ho (by rw [loops67]; exact loopsOK_nil) (by rw [scopes67]; exact scopesOK_nil) (E67_8586 F)
end Go.Proofs.Ytillbabmlfjegaa.X
end

section
namespace Go.Proofs.Ytillbabmlfjegaa.X
open Go Go.Proofs.Ytillbabmlfjegaa.Ev Go.Proofs
set_option linter.unusedVariables false
/-! walk.Walk).Done -/
noncomputable def f15_568 {β : Type} (F : Nat)  (K0 : Bool → Option β) : Option β := f67_8586 F 0 0 (fun x1 => K0 x1) 
def sh15_568 : Sh := ⟨[.lf (.nilp)], []⟩
noncomputable def S15_568 (F : Nat) (o : Summ) : Summ := mkS sh15_568 (fun d K => f15_568 F (fun (y0 : Bool) => K [.lf (.bool y0)] [])) o
noncomputable def T15_568 (F : Nat) : FuncId → Option Summ := tab [(67, (S67_8586 F noS))]
noncomputable def LT15_568 (F : Nat) : Nat → Option LoopS := ltab []
theorem E15_568g (F : Nat) (c67_8586 : Int → Int → (Bool → Option Res) → Option Res)   (d : sh15_568.den) (K : KF) : evBody Try.prog (tab [(67, (mkS sh67_8586 (fun d K => c67_8586 d.1.2.1 d.1.2.2.1 (fun (y0 : Bool) => K [.lf (.bool y0)] [])) noS))]) 5 0 (ltab []) code15 Try.f15.results.toList (encT sh15_568.vs d.1) (encH sh15_568.h d.2) K = (fun (K0 : (Bool → Option Res)) => c67_8586 0 0 (fun x1 => K0 x1) ) (fun (y0 : Bool) => K [.lf (.bool y0)] []) := by kernel_rfl
theorem E15_568 (F : Nat) (d : sh15_568.den) (K : KF) : evBody Try.prog (T15_568 F) 5 0 (LT15_568 F) code15 Try.f15.results.toList (encT sh15_568.vs d.1) (encH sh15_568.h d.2) K = f15_568 F (fun (y0 : Bool) => K [.lf (.bool y0)] []) := Eq.mp (by kernel_rfl) (E15_568g F (f67_8586 F)   d K)
theorem S15_568_ok (F : Nat) (o : Summ) (ho : SoundFn Try.prog 15 o) : SoundFn Try.prog 15 (S15_568 F o) :=
  soundFn_of (fn := Try.f15) (c := code15) (by kernel_rfl) (tab_cons (S67_8586_ok F _ (noS_sound enter67)) tab_nil) (by kernel_rfl) (by kernel_rfl) ho (by rw [loops15]; exact loopsOK_nil) (by rw [scopes15]; exact scopesOK_nil) (E15_568 F)
end Go.Proofs.Ytillbabmlfjegaa.X
end

section
namespace Go.Proofs.Ytillbabmlfjegaa.X
open Go Go.Proofs.Ytillbabmlfjegaa.Ev Go.Proofs
set_option linter.unusedVariables false
/-! walk.Walk).Nodes -/
noncomputable def f19_312 {β : Type} (F : Nat) (a1 : Int) (a2 : List ByteArray) (K0 : Option β) : Option β := K0
def sh19_312 : Sh := ⟨[.lf (.nilp), .lf (.int .i64), .lf (.full 0)], [some ⟨none, [.seq .str 0]⟩]⟩
noncomputable def S19_312 (F : Nat) (o : Summ) : Summ := mkS sh19_312 (fun d K => f19_312 F d.1.2.1 d.2.1.2.1 (K [.lf (.int .i64 1)] [some ⟨d.2.1.1, [.seq .str 0 d.2.1.2.1]⟩])) o
noncomputable def code19 : Code := bodyOf Try.f19
noncomputable def b19_0 : Code := cB (cB (cR (cL (cR (cR (cR (cR (cR (cR (cR (code19)))))))))))
theorem scopes19 : scopesOf code19 = [] := by kernel_rfl
theorem loops19 : loopsOf code19 = [b19_0] := by kernel_rfl
theorem enter19 : ∀ args w, (callFunc 19 args).run Try.prog w = .ok (.enter 19 args) w := enter_of (fn := Try.f19) (by kernel_rfl) (by kernel_rfl) (by kernel_rfl)
noncomputable def T19_312 (F : Nat) : FuncId → Option Summ := tab []
noncomputable def LT19_312 (F : Nat) : Nat → Option LoopS := ltab []
theorem E19_312g (F : Nat)    (d : sh19_312.den) (K : KF) : evBody Try.prog (tab []) 76 1 (ltab []) code19 Try.f19.results.toList (encT sh19_312.vs d.1) (encH sh19_312.h d.2) K = (fun (a1 : Int) (a2 : List ByteArray) (K0 : (Option Res)) => K0) d.1.2.1 d.2.1.2.1 (K [.lf (.int .i64 1)] [some ⟨d.2.1.1, [.seq .str 0 d.2.1.2.1]⟩]) := by kernel_rfl
theorem E19_312 (F : Nat) (d : sh19_312.den) (K : KF) : evBody Try.prog (T19_312 F) 76 1 (LT19_312 F) code19 Try.f19.results.toList (encT sh19_312.vs d.1) (encH sh19_312.h d.2) K = f19_312 F d.1.2.1 d.2.1.2.1 (K [.lf (.int .i64 1)] [some ⟨d.2.1.1, [.seq .str 0 d.2.1.2.1]⟩]) := Eq.mp (by kernel_rfl) (E19_312g F    d K)
theorem S19_312_ok (F : Nat) (o : Summ) (ho : SoundFn Try.prog 19 o) : SoundFn Try.prog 19 (S19_312 F o) :=
  soundFn_of (fn := Try.f19) (c := code19) (by kernel_rfl) tab_nil (by kernel_rfl) (by kernel_rfl) ho (by rw [loops19]; exact (loopsOK_skip (by kernel_rfl) loopsOK_nil)) (by rw [scopes19]; exact scopesOK_nil) (E19_312 F)
end Go.Proofs.Ytillbabmlfjegaa.X
end

section
namespace Go.Proofs.Ytillbabmlfjegaa.X
open Go Go.Proofs.Ytillbabmlfjegaa.Ev Go.Proofs
set_option linter.unusedVariables false
/-! sector.Right -/
noncomputable def f55_1 {β : Type} (F : Nat) (a1 : ByteArray) (K0 : Bool → Option β) : Option β := K0 ((a1.size : Int) == 64)
def sh55_1 : Sh := ⟨[.lf (.str)], []⟩
noncomputable def S55_1 (F : Nat) (o : Summ) : Summ := mkS sh55_1 (fun d K => f55_1 F d.1.1 (fun (y0 : Bool) => K [.lf (.bool y0)] [])) o
noncomputable def code55 : Code := bodyOf Try.f55
theorem scopes55 : scopesOf code55 = [] := by kernel_rfl
theorem loops55 : loopsOf code55 = [] := by kernel_rfl
theorem enter55 : ∀ args w, (callFunc 55 args).run Try.prog w = .ok (.enter 55 args) w := enter_of (fn := Try.f55) (by kernel_rfl) (by kernel_rfl) (by kernel_rfl)
noncomputable def T55_1 (F : Nat) : FuncId → Option Summ := tab []
noncomputable def LT55_1 (F : Nat) : Nat → Option LoopS := ltab []
theorem E55_1g (F : Nat)    (d : sh55_1.den) (K : KF) : evBody Try.prog (tab []) 6 0 (ltab []) code55 Try.f55.results.toList (encT sh55_1.vs d.1) (encH sh55_1.h d.2) K = (fun (a1 : ByteArray) (K0 : (Bool → Option Res)) => K0 ((a1.size : Int) == 64)) d.1.1 (fun (y0 : Bool) => K [.lf (.bool y0)] []) := by kernel_rfl
theorem E55_1 (F : Nat) (d : sh55_1.den) (K : KF) : evBody Try.prog (T55_1 F) 6 0 (LT55_1 F) code55 Try.f55.results.toList (encT sh55_1.vs d.1) (encH sh55_1.h d.2) K = f55_1 F d.1.1 (fun (y0 : Bool) => K [.lf (.bool y0)] []) := Eq.mp (by kernel_rfl) (E55_1g F    d K)
theorem S55_1_ok (F : Nat) (o : Summ) (ho : SoundFn Try.prog 55 o) : SoundFn Try.prog 55 (S55_1 F o) :=
  soundFn_of (fn := Try.f55) (c := code55) (by kernel_rfl) tab_nil (by kernel_rfl) (by kernel_rfl) ho (by rw [loops55]; exact loopsOK_nil) (by rw [scopes55]; exact scopesOK_nil) (E55_1 F)
end Go.Proofs.Ytillbabmlfjegaa.X
end

section
namespace Go.Proofs.Ytillbabmlfjegaa.X
open Go Go.Proofs.Ytillbabmlfjegaa.Ev Go.Proofs
set_option linter.unusedVariables false
/-! sha.begin -/
noncomputable def f129_1 {β : Type} (F : Nat)  (K0 : List Int → Option β) : Option β := K0 [1779033703, 3144134277, 1013904242, 2773480762, 1359893119, 2600822924, 528734635, 1541459225]
def sh129_1 : Sh := ⟨[], []⟩
noncomputable def S129_1 (F : Nat) (o : Summ) : Summ := mkS sh129_1 (fun d K => f129_1 F (fun (y0 : List Int) => K [.agg [.seq (.int .u32) 8 y0]] [])) o
noncomputable def code129 : Code := bodyOf Try.f129
theorem scopes129 : scopesOf code129 = [] := by kernel_rfl
theorem loops129 : loopsOf code129 = [] := by kernel_rfl
theorem enter129 : ∀ args w, (callFunc 129 args).run Try.prog w = .ok (.enter 129 args) w := enter_of (fn := Try.f129) (by kernel_rfl) (by kernel_rfl) (by kernel_rfl)
noncomputable def T129_1 (F : Nat) : FuncId → Option Summ := tab []
noncomputable def LT129_1 (F : Nat) : Nat → Option LoopS := ltab []
theorem E129_1g (F : Nat)    (d : sh129_1.den) (K : KF) : evBody Try.prog (tab []) 2 0 (ltab []) code129 Try.f129.results.toList (encT sh129_1.vs d.1) (encH sh129_1.h d.2) K = (fun (K0 : (List Int → Option Res)) => K0 [1779033703, 3144134277, 1013904242, 2773480762, 1359893119, 2600822924, 528734635, 1541459225]) (fun (y0 : List Int) => K [.agg [.seq (.int .u32) 8 y0]] []) := by kernel_rfl
theorem E129_1 (F : Nat) (d : sh129_1.den) (K : KF) : evBody Try.prog (T129_1 F) 2 0 (LT129_1 F) code129 Try.f129.results.toList (encT sh129_1.vs d.1) (encH sh129_1.h d.2) K = f129_1 F (fun (y0 : List Int) => K [.agg [.seq (.int .u32) 8 y0]] []) := Eq.mp (by kernel_rfl) (E129_1g F    d K)
theorem S129_1_ok (F : Nat) (o : Summ) (ho : SoundFn Try.prog 129 o) : SoundFn Try.prog 129 (S129_1 F o) :=
  soundFn_of (fn := Try.f129) (c := code129) (by kernel_rfl) tab_nil (by kernel_rfl) (by kernel_rfl) ho (by rw [loops129]; exact loopsOK_nil) (by rw [scopes129]; exact scopesOK_nil) (E129_1 F)
end Go.Proofs.Ytillbabmlfjegaa.X
end

section
namespace Go.Proofs.Ytillbabmlfjegaa.X
open Go Go.Proofs.Ytillbabmlfjegaa.Ev Go.Proofs
set_option linter.unusedVariables false
/-! sha.New -/
noncomputable def f115_1 {β : Type} (F : Nat)  (K0 : List Int → List Int → Option β) : Option β := f129_1 F  (fun x1 => K0 x1 []) 
def sh115_1 : Sh := ⟨[], []⟩
noncomputable def S115_1 (F : Nat) (o : Summ) : Summ := mkS sh115_1 (fun d K => f115_1 F (fun (y0 : List Int) (y2 : List Int) => K [.lf (.ptr 0 0)] [some ⟨false, [.seq (.int .u32) 8 y0, .full 1, .int .u64 0]⟩, some ⟨false, [.seq (.int .u8) 0 y2]⟩])) o
noncomputable def code115 : Code := bodyOf Try.f115
theorem scopes115 : scopesOf code115 = [] := by kernel_rfl
theorem loops115 : loopsOf code115 = [] := by kernel_rfl
theorem enter115 : ∀ args w, (callFunc 115 args).run Try.prog w = .ok (.enter 115 args) w := enter_of (fn := Try.f115) (by kernel_rfl) (by kernel_rfl) (by kernel_rfl)
noncomputable def T115_1 (F : Nat) : FuncId → Option Summ := tab [(129, (S129_1 F noS))]
noncomputable def LT115_1 (F : Nat) : Nat → Option LoopS := ltab []
theorem E115_1g (F : Nat) (c129_1 : (List Int → Option Res) → Option Res)   (d : sh115_1.den) (K : KF) : evBody Try.prog (tab [(129, (mkS sh129_1 (fun d K => c129_1 (fun (y0 : List Int) => K [.agg [.seq (.int .u32) 8 y0]] [])) noS))]) 4 0 (ltab []) code115 Try.f115.results.toList (encT sh115_1.vs d.1) (encH sh115_1.h d.2) K = (fun (K0 : (List Int → List Int → Option Res)) => c129_1  (fun x1 => K0 x1 []) ) (fun (y0 : List Int) (y2 : List Int) => K [.lf (.ptr 0 0)] [some ⟨false, [.seq (.int .u32) 8 y0, .full 1, .int .u64 0]⟩, some ⟨false, [.seq (.int .u8) 0 y2]⟩]) := by kernel_rfl
theorem E115_1 (F : Nat) (d : sh115_1.den) (K : KF) : evBody Try.prog (T115_1 F) 4 0 (LT115_1 F) code115 Try.f115.results.toList (encT sh115_1.vs d.1) (encH sh115_1.h d.2) K = f115_1 F (fun (y0 : List Int) (y2 : List Int) => K [.lf (.ptr 0 0)] [some ⟨false, [.seq (.int .u32) 8 y0, .full 1, .int .u64 0]⟩, some ⟨false, [.seq (.int .u8) 0 y2]⟩]) := Eq.mp (by kernel_rfl) (E115_1g F (f129_1 F)   d K)
theorem S115_1_ok (F : Nat) (o : Summ) (ho : SoundFn Try.prog 115 o) : SoundFn Try.prog 115 (S115_1 F o) :=
  soundFn_of (fn := Try.f115) (c := code115) (by kernel_rfl) (tab_cons (S129_1_ok F _ (noS_sound enter129)) tab_nil) (by kernel_rfl) (by kernel_rfl) ho (by rw [loops115]; exact loopsOK_nil) (by rw [scopes115]; exact scopesOK_nil) (E115_1 F)
end Go.Proofs.Ytillbabmlfjegaa.X
end

section
namespace Go.Proofs.Ytillbabmlfjegaa.X
open Go Go.Proofs.Ytillbabmlfjegaa.Ev Go.Proofs
set_option linter.unusedVariables false
/-! sha.rounded -/
noncomputable def f140_1 {β : Type} (F : Nat)  (K0 : List Int → Option β) : Option β := K0 [1116352408, 1899447441, 3049323471, 3921009573, 961987163, 1508970993, 2453635748, 2870763221, 3624381080, 310598401, 607225278, 1426881987, 1925078388, 2162078206, 2614888103, 3248222580, 3835390401, 4022224774, 264347078, 604807628, 770255983, 1249150122, 1555081692, 1996064986, 2554220882, 2821834349, 2952996808, 3210313671, 3336571891, 3584528711, 113926993, 338241895, 666307205, 773529912, 1294757372, 1396182291, 1695183700, 1986661051, 2177026350, 2456956037, 2730485921, 2820302411, 3259730800, 3345764771, 3516065817, 3600352804, 4094571909, 275423344, 430227734, 506948616, 659060556, 883997877, 958139571, 1322822218, 1537002063, 1747873779, 1955562222, 2024104815, 2227730452, 2361852424, 2428436474, 2756734187, 3204031479, 3329325298]
def sh140_1 : Sh := ⟨[], []⟩
noncomputable def S140_1 (F : Nat) (o : Summ) : Summ := mkS sh140_1 (fun d K => f140_1 F (fun (y0 : List Int) => K [.agg [.seq (.int .u32) 64 y0]] [])) o
noncomputable def code140 : Code := bodyOf Try.f140
theorem scopes140 : scopesOf code140 = [] := by kernel_rfl
theorem loops140 : loopsOf code140 = [] := by kernel_rfl
theorem enter140 : ∀ args w, (callFunc 140 args).run Try.prog w = .ok (.enter 140 args) w := enter_of (fn := Try.f140) (by kernel_rfl) (by kernel_rfl) (by kernel_rfl)
noncomputable def T140_1 (F : Nat) : FuncId → Option Summ := tab []
noncomputable def LT140_1 (F : Nat) : Nat → Option LoopS := ltab []
theorem E140_1g (F : Nat)    (d : sh140_1.den) (K : KF) : evBody Try.prog (tab []) 2 0 (ltab []) code140 Try.f140.results.toList (encT sh140_1.vs d.1) (encH sh140_1.h d.2) K = (fun (K0 : (List Int → Option Res)) => K0 [1116352408, 1899447441, 3049323471, 3921009573, 961987163, 1508970993, 2453635748, 2870763221, 3624381080, 310598401, 607225278, 1426881987, 1925078388, 2162078206, 2614888103, 3248222580, 3835390401, 4022224774, 264347078, 604807628, 770255983, 1249150122, 1555081692, 1996064986, 2554220882, 2821834349, 2952996808, 3210313671, 3336571891, 3584528711, 113926993, 338241895, 666307205, 773529912, 1294757372, 1396182291, 1695183700, 1986661051, 2177026350, 2456956037, 2730485921, 2820302411, 3259730800, 3345764771, 3516065817, 3600352804, 4094571909, 275423344, 430227734, 506948616, 659060556, 883997877, 958139571, 1322822218, 1537002063, 1747873779, 1955562222, 2024104815, 2227730452, 2361852424, 2428436474, 2756734187, 3204031479, 3329325298]) (fun (y0 : List Int) => K [.agg [.seq (.int .u32) 64 y0]] []) := by kernel_rfl
theorem E140_1 (F : Nat) (d : sh140_1.den) (K : KF) : evBody Try.prog (T140_1 F) 2 0 (LT140_1 F) code140 Try.f140.results.toList (encT sh140_1.vs d.1) (encH sh140_1.h d.2) K = f140_1 F (fun (y0 : List Int) => K [.agg [.seq (.int .u32) 64 y0]] []) := Eq.mp (by kernel_rfl) (E140_1g F    d K)
theorem S140_1_ok (F : Nat) (o : Summ) (ho : SoundFn Try.prog 140 o) : SoundFn Try.prog 140 (S140_1 F o) :=
  soundFn_of (fn := Try.f140) (c := code140) (by kernel_rfl) tab_nil (by kernel_rfl) (by kernel_rfl) ho (by rw [loops140]; exact loopsOK_nil) (by rw [scopes140]; exact scopesOK_nil) (E140_1 F)
end Go.Proofs.Ytillbabmlfjegaa.X
end

section
namespace Go.Proofs.Ytillbabmlfjegaa.X
open Go Go.Proofs.Ytillbabmlfjegaa.Ev Go.Proofs
set_option linter.unusedVariables false
/-! bits.RotateLeft32 -/
noncomputable def f147_1 {β : Type} (F : Nat) (a1 : Int) (a2 : Int) (K0 : Int → Option β) : Option β := cond (decide (iand .u64 (IntKind.u64.wrap a2) 31 < 0)) none (cond (decide (IntKind.u64.wrap (32 - (iand .u64 (IntKind.u64.wrap a2) 31)) < 0)) none (K0 (ior .u32 (ishl .u32 a1 (iand .u64 (IntKind.u64.wrap a2) 31)) (ishr .u32 a1 (IntKind.u64.wrap (32 - (iand .u64 (IntKind.u64.wrap a2) 31)))))))
def sh147_1 : Sh := ⟨[.lf (.int .u32), .lf (.int .i64)], []⟩
noncomputable def S147_1 (F : Nat) (o : Summ) : Summ := mkS sh147_1 (fun d K => f147_1 F d.1.1 d.1.2.1 (fun (y0 : Int) => K [.lf (.int .u32 y0)] [])) o
noncomputable def code147 : Code := bodyOf Try.f147
theorem scopes147 : scopesOf code147 = [] := by kernel_rfl
theorem loops147 : loopsOf code147 = [] := by kernel_rfl
theorem enter147 : ∀ args w, (callFunc 147 args).run Try.prog w = .ok (.enter 147 args) w := enter_of (fn := Try.f147) (by kernel_rfl) (by kernel_rfl) (by kernel_rfl)
noncomputable def T147_1 (F : Nat) : FuncId → Option Summ := tab []
noncomputable def LT147_1 (F : Nat) : Nat → Option LoopS := ltab []
theorem E147_1g (F : Nat)    (d : sh147_1.den) (K : KF) : evBody Try.prog (tab []) 17 0 (ltab []) code147 Try.f147.results.toList (encT sh147_1.vs d.1) (encH sh147_1.h d.2) K = (fun (a1 : Int) (a2 : Int) (K0 : (Int → Option Res)) => cond (decide (iand .u64 (IntKind.u64.wrap a2) 31 < 0)) none (cond (decide (IntKind.u64.wrap (32 - (iand .u64 (IntKind.u64.wrap a2) 31)) < 0)) none (K0 (ior .u32 (ishl .u32 a1 (iand .u64 (IntKind.u64.wrap a2) 31)) (ishr .u32 a1 (IntKind.u64.wrap (32 - (iand .u64 (IntKind.u64.wrap a2) 31)))))))) d.1.1 d.1.2.1 (fun (y0 : Int) => K [.lf (.int .u32 y0)] []) := by kernel_rfl
theorem E147_1 (F : Nat) (d : sh147_1.den) (K : KF) : evBody Try.prog (T147_1 F) 17 0 (LT147_1 F) code147 Try.f147.results.toList (encT sh147_1.vs d.1) (encH sh147_1.h d.2) K = f147_1 F d.1.1 d.1.2.1 (fun (y0 : Int) => K [.lf (.int .u32 y0)] []) := Eq.mp (by kernel_rfl) (E147_1g F    d K)
theorem S147_1_ok (F : Nat) (o : Summ) (ho : SoundFn Try.prog 147 o) : SoundFn Try.prog 147 (S147_1 F o) :=
  soundFn_of (fn := Try.f147) (c := code147) (by kernel_rfl) tab_nil (by kernel_rfl) (by kernel_rfl) ho (by rw [loops147]; exact loopsOK_nil) (by rw [scopes147]; exact scopesOK_nil) (E147_1 F)
end Go.Proofs.Ytillbabmlfjegaa.X
end

section
namespace Go.Proofs.Ytillbabmlfjegaa.X
open Go Go.Proofs.Ytillbabmlfjegaa.Ev Go.Proofs
set_option linter.unusedVariables false
/-! sha.turn -/
noncomputable def f142_1 {β : Type} (F : Nat) (a1 : Int) (a2 : Int) (K0 : Int → Option β) : Option β := f147_1 F a1 (IntKind.i64.wrap (0 - a2)) (fun x1 => K0 x1) 
def sh142_1 : Sh := ⟨[.lf (.int .u32), .lf (.int .i64)], []⟩
noncomputable def S142_1 (F : Nat) (o : Summ) : Summ := mkS sh142_1 (fun d K => f142_1 F d.1.1 d.1.2.1 (fun (y0 : Int) => K [.lf (.int .u32 y0)] [])) o
noncomputable def code142 : Code := bodyOf Try.f142
theorem scopes142 : scopesOf code142 = [] := by kernel_rfl
theorem loops142 : loopsOf code142 = [] := by kernel_rfl
theorem enter142 : ∀ args w, (callFunc 142 args).run Try.prog w = .ok (.enter 142 args) w := enter_of (fn := Try.f142) (by kernel_rfl) (by kernel_rfl) (by kernel_rfl)
noncomputable def T142_1 (F : Nat) : FuncId → Option Summ := tab [(147, (S147_1 F noS))]
noncomputable def LT142_1 (F : Nat) : Nat → Option LoopS := ltab []
theorem E142_1g (F : Nat) (c147_1 : Int → Int → (Int → Option Res) → Option Res)   (d : sh142_1.den) (K : KF) : evBody Try.prog (tab [(147, (mkS sh147_1 (fun d K => c147_1 d.1.1 d.1.2.1 (fun (y0 : Int) => K [.lf (.int .u32 y0)] [])) noS))]) 9 0 (ltab []) code142 Try.f142.results.toList (encT sh142_1.vs d.1) (encH sh142_1.h d.2) K = (fun (a1 : Int) (a2 : Int) (K0 : (Int → Option Res)) => c147_1 a1 (IntKind.i64.wrap (0 - a2)) (fun x1 => K0 x1) ) d.1.1 d.1.2.1 (fun (y0 : Int) => K [.lf (.int .u32 y0)] []) := by kernel_rfl
theorem E142_1 (F : Nat) (d : sh142_1.den) (K : KF) : evBody Try.prog (T142_1 F) 9 0 (LT142_1 F) code142 Try.f142.results.toList (encT sh142_1.vs d.1) (encH sh142_1.h d.2) K = f142_1 F d.1.1 d.1.2.1 (fun (y0 : Int) => K [.lf (.int .u32 y0)] []) := Eq.mp (by kernel_rfl) (E142_1g F (f147_1 F)   d K)
theorem S142_1_ok (F : Nat) (o : Summ) (ho : SoundFn Try.prog 142 o) : SoundFn Try.prog 142 (S142_1 F o) :=
  soundFn_of (fn := Try.f142) (c := code142) (by kernel_rfl) (tab_cons (S147_1_ok F _ (noS_sound enter147)) tab_nil) (by kernel_rfl) (by kernel_rfl) ho (by rw [loops142]; exact loopsOK_nil) (by rw [scopes142]; exact scopesOK_nil) (E142_1 F)
end Go.Proofs.Ytillbabmlfjegaa.X
end

section
namespace Go.Proofs.Ytillbabmlfjegaa.X
open Go Go.Proofs.Ytillbabmlfjegaa.Ev Go.Proofs
set_option linter.unusedVariables false
/-! sha.spread -/
noncomputable def f141_1_l3 {β : Type} (F : Nat) (v2 : List Int) (v3 : List Int) (K0 : List Int → Option β) : Nat → Int → List Int → Option β
  | 0, _, _ => none
  | k + 1, v1, v4 => cond (decide (v1 < 16)) (cond (decide ((0 : Int) ≤ IntKind.i64.wrap (4 * v1) ∧ IntKind.i64.wrap (4 * v1) ≤ IntKind.i64.wrap ((IntKind.i64.wrap (4 * v1)) + 4) ∧ IntKind.i64.wrap ((IntKind.i64.wrap (4 * v1)) + 4) ≤ ((v2.length : Nat) : Int))) (cond (decide ((0 : Int) ≤ (0 : Int) ∧ (0 : Int) < (((IntKind.i64.wrap ((IntKind.i64.wrap (4 * v1)) + 4) - (IntKind.i64.wrap (4 * v1))).toNat : Nat) : Int))) (cond (decide ((0 + ((IntKind.i64.wrap (4 * v1)).toNat)) + 0 < v2.length)) (cond (decide ((0 : Int) ≤ (1 : Int) ∧ (1 : Int) < (((IntKind.i64.wrap ((IntKind.i64.wrap (4 * v1)) + 4) - (IntKind.i64.wrap (4 * v1))).toNat : Nat) : Int))) (cond (decide ((0 + ((IntKind.i64.wrap (4 * v1)).toNat)) + 1 < v2.length)) (cond (decide ((0 : Int) ≤ (2 : Int) ∧ (2 : Int) < (((IntKind.i64.wrap ((IntKind.i64.wrap (4 * v1)) + 4) - (IntKind.i64.wrap (4 * v1))).toNat : Nat) : Int))) (cond (decide ((0 + ((IntKind.i64.wrap (4 * v1)).toNat)) + 2 < v2.length)) (cond (decide ((0 : Int) ≤ (3 : Int) ∧ (3 : Int) < (((IntKind.i64.wrap ((IntKind.i64.wrap (4 * v1)) + 4) - (IntKind.i64.wrap (4 * v1))).toNat : Nat) : Int))) (cond (decide ((0 + ((IntKind.i64.wrap (4 * v1)).toNat)) + 3 < v2.length)) (cond (decide ((0 : Int) ≤ v1 ∧ v1 < 64)) (cond (decide (v1.toNat < v4.length)) (f141_1_l3 F v2 v3 K0 k (IntKind.i64.wrap (v1 + 1)) (v4.set v1.toNat (ior .u32 (ior .u32 (ior .u32 (ishl .u32 (IntKind.u32.wrap (v2.getD ((0 + ((IntKind.i64.wrap (4 * v1)).toNat)) + 0) 0)) 24) (ishl .u32 (IntKind.u32.wrap (v2.getD ((0 + ((IntKind.i64.wrap (4 * v1)).toNat)) + 1) 0)) 16)) (ishl .u32 (IntKind.u32.wrap (v2.getD ((0 + ((IntKind.i64.wrap (4 * v1)).toNat)) + 2) 0)) 8)) (IntKind.u32.wrap (v2.getD ((0 + ((IntKind.i64.wrap (4 * v1)).toNat)) + 3) 0))))) none) none) none) none) none) none) none) none) none) none) none) (K0 v4)
noncomputable def f141_1_l9 {β : Type} (F : Nat) (v7 : List Int) (v8 : List Int) (K0 : List Int → Option β) : Nat → Int → List Int → Option β
  | 0, _, _ => none
  | k + 1, v6, v9 => cond (decide (v6 < 64)) (cond (decide ((0 : Int) ≤ IntKind.i64.wrap (v6 - 15) ∧ IntKind.i64.wrap (v6 - 15) < 64)) (cond (decide ((IntKind.i64.wrap (v6 - 15)).toNat < v9.length)) (cond (decide ((0 : Int) ≤ IntKind.i64.wrap (v6 - 2) ∧ IntKind.i64.wrap (v6 - 2) < 64)) (cond (decide ((IntKind.i64.wrap (v6 - 2)).toNat < v9.length)) (cond (decide ((0 : Int) ≤ IntKind.i64.wrap (v6 - 16) ∧ IntKind.i64.wrap (v6 - 16) < 64)) (cond (decide ((IntKind.i64.wrap (v6 - 16)).toNat < v9.length)) (cond (decide ((0 : Int) ≤ IntKind.i64.wrap (v6 - 7) ∧ IntKind.i64.wrap (v6 - 7) < 64)) (cond (decide ((IntKind.i64.wrap (v6 - 7)).toNat < v9.length)) (f142_1 F (v9.getD ((IntKind.i64.wrap (v6 - 15)).toNat) 0) 7 (fun x10 => f142_1 F (v9.getD ((IntKind.i64.wrap (v6 - 15)).toNat) 0) 18 (fun x11 => f142_1 F (v9.getD ((IntKind.i64.wrap (v6 - 2)).toNat) 0) 17 (fun x12 => f142_1 F (v9.getD ((IntKind.i64.wrap (v6 - 2)).toNat) 0) 19 (fun x13 => cond (decide ((0 : Int) ≤ v6 ∧ v6 < 64)) (cond (decide (v6.toNat < v9.length)) (f141_1_l9 F v7 v8 K0 k (IntKind.i64.wrap (v6 + 1)) (v9.set v6.toNat (IntKind.u32.wrap ((IntKind.u32.wrap ((IntKind.u32.wrap ((v9.getD ((IntKind.i64.wrap (v6 - 16)).toNat) 0) + (v9.getD ((IntKind.i64.wrap (v6 - 7)).toNat) 0))) + (ixor .u32 (ixor .u32 x10 x11) (ishr .u32 (v9.getD ((IntKind.i64.wrap (v6 - 15)).toNat) 0) 3)))) + (ixor .u32 (ixor .u32 x12 x13) (ishr .u32 (v9.getD ((IntKind.i64.wrap (v6 - 2)).toNat) 0) 10)))))) none) none) ) ) ) ) none) none) none) none) none) none) none) none) (K0 v9)
noncomputable def f141_1 {β : Type} (F : Nat) (a1 : List Int) (K0 : List Int → Option β) : Option β := f141_1_l3 F a1 [0, 0, 0, 0, 0, 0, 0, 0, 0, 0, 0, 0, 0, 0, 0, 0, 0, 0, 0, 0, 0, 0, 0, 0, 0, 0, 0, 0, 0, 0, 0, 0, 0, 0, 0, 0, 0, 0, 0, 0, 0, 0, 0, 0, 0, 0, 0, 0, 0, 0, 0, 0, 0, 0, 0, 0, 0, 0, 0, 0, 0, 0, 0, 0] (fun x5 => f141_1_l9 F a1 [0, 0, 0, 0, 0, 0, 0, 0, 0, 0, 0, 0, 0, 0, 0, 0, 0, 0, 0, 0, 0, 0, 0, 0, 0, 0, 0, 0, 0, 0, 0, 0, 0, 0, 0, 0, 0, 0, 0, 0, 0, 0, 0, 0, 0, 0, 0, 0, 0, 0, 0, 0, 0, 0, 0, 0, 0, 0, 0, 0, 0, 0, 0, 0] (fun x14 => K0 x14) F 16 x5) F 0 [0, 0, 0, 0, 0, 0, 0, 0, 0, 0, 0, 0, 0, 0, 0, 0, 0, 0, 0, 0, 0, 0, 0, 0, 0, 0, 0, 0, 0, 0, 0, 0, 0, 0, 0, 0, 0, 0, 0, 0, 0, 0, 0, 0, 0, 0, 0, 0, 0, 0, 0, 0, 0, 0, 0, 0, 0, 0, 0, 0, 0, 0, 0, 0]
def sh141_1 : Sh := ⟨[.lf (.full 0)], [some ⟨none, [.seq (.int .u8) 0]⟩]⟩
noncomputable def S141_1 (F : Nat) (o : Summ) : Summ := mkS sh141_1 (fun d K => f141_1 F d.2.1.2.1 (fun (y0 : List Int) => K [.agg [.seq (.int .u32) 64 y0]] [some ⟨d.2.1.1, [.seq (.int .u8) 0 d.2.1.2.1]⟩])) o
noncomputable def code141 : Code := bodyOf Try.f141
noncomputable def b141_0 : Code := cB (cB (cR (cL (cR (cR (code141))))))
noncomputable def b141_1 : Code := cB (cB (cR (cL (cR (cR (cR (code141)))))))
theorem scopes141 : scopesOf code141 = [] := by kernel_rfl
theorem loops141 : loopsOf code141 = [b141_0, b141_1] := by kernel_rfl
theorem enter141 : ∀ args w, (callFunc 141 args).run Try.prog w = .ok (.enter 141 args) w := enter_of (fn := Try.f141) (by kernel_rfl) (by kernel_rfl) (by kernel_rfl)
noncomputable def T141_1 (F : Nat) : FuncId → Option Summ := tab [(142, (S142_1 F noS))]
def sh141_1_l3 : Sh := ⟨[.lf (.full 0), .lf (.ptr 1 0), .lf (.ptr 2 0), .lf (.int .i64)], [some ⟨none, [.seq (.int .u8) 0]⟩, some ⟨some false, [.seq (.int .u32) 64]⟩, some ⟨some false, [.seq (.int .u32) 64]⟩]⟩
noncomputable def G141_1_3 (F k : Nat) : LoopS := mkG sh141_1_l3 [0, 2, 3, 9] (outT [(.exit 0, [2, 3])]) (fun d K => f141_1_l3 F d.2.1.2.1 d.2.2.1.2.1 (fun (y2 : List Int) => K (.exit 0) [.tv (.lf (.ptr 1 0)), .tv (.lf (.ptr 2 0))] [some ⟨d.2.1.1, [.seq (.int .u8) 0 d.2.1.2.1]⟩, some ⟨false, [.seq (.int .u32) 64 d.2.2.1.2.1]⟩, some ⟨false, [.seq (.int .u32) 64 y2]⟩]) k d.1.2.2.2.1 d.2.2.2.1.2.1)
def sh141_1_l9 : Sh := ⟨[.lf (.ptr 1 0), .lf (.ptr 2 0), .lf (.int .i64)], [some ⟨none, [.seq (.int .u8) 0]⟩, some ⟨some false, [.seq (.int .u32) 64]⟩, some ⟨some false, [.seq (.int .u32) 64]⟩]⟩
noncomputable def G141_1_9 (F k : Nat) : LoopS := mkG sh141_1_l9 [2, 3, 6] (outT [(.exit 2, [2, 3])]) (fun d K => f141_1_l9 F d.2.1.2.1 d.2.2.1.2.1 (fun (y2 : List Int) => K (.exit 2) [.tv (.lf (.ptr 1 0)), .tv (.lf (.ptr 2 0))] [some ⟨d.2.1.1, [.seq (.int .u8) 0 d.2.1.2.1]⟩, some ⟨false, [.seq (.int .u32) 64 d.2.2.1.2.1]⟩, some ⟨false, [.seq (.int .u32) 64 y2]⟩]) k d.1.2.2.1 d.2.2.2.1.2.1)
noncomputable def LT141_1 (F : Nat) : Nat → Option LoopS := ltab [(3, G141_1_3 F F), (9, G141_1_9 F F)]
theorem L141_1_3g (F k : Nat) (c142_1 : Int → Int → (Int → Option Res) → Option Res)  (l3 : List Int → List Int → (List Int → Option Res) → Nat → Int → List Int → Option Res) (X3 : LoopS) (X9 : LoopS) (d : sh141_1_l3.den) (K : KL) : (fun (v2 : List Int) (v3 : List Int) (K0 : (List Int → Option Res)) (k : Nat) (v1 : Int) (v4 : List Int) => cond (decide (v1 < 16)) (cond (decide ((0 : Int) ≤ IntKind.i64.wrap (4 * v1) ∧ IntKind.i64.wrap (4 * v1) ≤ IntKind.i64.wrap ((IntKind.i64.wrap (4 * v1)) + 4) ∧ IntKind.i64.wrap ((IntKind.i64.wrap (4 * v1)) + 4) ≤ ((v2.length : Nat) : Int))) (cond (decide ((0 : Int) ≤ (0 : Int) ∧ (0 : Int) < (((IntKind.i64.wrap ((IntKind.i64.wrap (4 * v1)) + 4) - (IntKind.i64.wrap (4 * v1))).toNat : Nat) : Int))) (cond (decide ((0 + ((IntKind.i64.wrap (4 * v1)).toNat)) + 0 < v2.length)) (cond (decide ((0 : Int) ≤ (1 : Int) ∧ (1 : Int) < (((IntKind.i64.wrap ((IntKind.i64.wrap (4 * v1)) + 4) - (IntKind.i64.wrap (4 * v1))).toNat : Nat) : Int))) (cond (decide ((0 + ((IntKind.i64.wrap (4 * v1)).toNat)) + 1 < v2.length)) (cond (decide ((0 : Int) ≤ (2 : Int) ∧ (2 : Int) < (((IntKind.i64.wrap ((IntKind.i64.wrap (4 * v1)) + 4) - (IntKind.i64.wrap (4 * v1))).toNat : Nat) : Int))) (cond (decide ((0 + ((IntKind.i64.wrap (4 * v1)).toNat)) + 2 < v2.length)) (cond (decide ((0 : Int) ≤ (3 : Int) ∧ (3 : Int) < (((IntKind.i64.wrap ((IntKind.i64.wrap (4 * v1)) + 4) - (IntKind.i64.wrap (4 * v1))).toNat : Nat) : Int))) (cond (decide ((0 + ((IntKind.i64.wrap (4 * v1)).toNat)) + 3 < v2.length)) (cond (decide ((0 : Int) ≤ v1 ∧ v1 < 64)) (cond (decide (v1.toNat < v4.length)) (l3 v2 v3 K0 k (IntKind.i64.wrap (v1 + 1)) (v4.set v1.toNat (ior .u32 (ior .u32 (ior .u32 (ishl .u32 (IntKind.u32.wrap (v2.getD ((0 + ((IntKind.i64.wrap (4 * v1)).toNat)) + 0) 0)) 24) (ishl .u32 (IntKind.u32.wrap (v2.getD ((0 + ((IntKind.i64.wrap (4 * v1)).toNat)) + 1) 0)) 16)) (ishl .u32 (IntKind.u32.wrap (v2.getD ((0 + ((IntKind.i64.wrap (4 * v1)).toNat)) + 2) 0)) 8)) (IntKind.u32.wrap (v2.getD ((0 + ((IntKind.i64.wrap (4 * v1)).toNat)) + 3) 0))))) none) none) none) none) none) none) none) none) none) none) none) (K0 v4)) d.2.1.2.1 d.2.2.1.2.1 (fun (y2 : List Int) => K (.exit 0) [.tv (.lf (.ptr 1 0)), .tv (.lf (.ptr 2 0))] [some ⟨d.2.1.1, [.seq (.int .u8) 0 d.2.1.2.1]⟩, some ⟨false, [.seq (.int .u32) 64 d.2.2.1.2.1]⟩, some ⟨false, [.seq (.int .u32) 64 y2]⟩]) k d.1.2.2.2.1 d.2.2.2.1.2.1 = roundOf Try.prog (tab [(142, (mkS sh142_1 (fun d K => c142_1 d.1.1 d.1.2.1 (fun (y0 : Int) => K [.lf (.int .u32 y0)] [])) noS))]) 86 1 (ltab [(3, X3), (9, X9)]) (mkG sh141_1_l3 [0, 2, 3, 9] (outT [(.exit 0, [2, 3])]) (fun d K => l3 d.2.1.2.1 d.2.2.1.2.1 (fun (y2 : List Int) => K (.exit 0) [.tv (.lf (.ptr 1 0)), .tv (.lf (.ptr 2 0))] [some ⟨d.2.1.1, [.seq (.int .u8) 0 d.2.1.2.1]⟩, some ⟨false, [.seq (.int .u32) 64 d.2.2.1.2.1]⟩, some ⟨false, [.seq (.int .u32) 64 y2]⟩]) k d.1.2.2.2.1 d.2.2.2.1.2.1)) b141_0 (encT sh141_1_l3.vs d.1) (encH sh141_1_l3.h d.2) K := by kernel_rfl
theorem L141_1_3 (F : Nat) : LoopOK Try.prog (T141_1 F) 86 1 (LT141_1 F) (G141_1_3 F F) b141_0 :=
  loopOK_of (s := sh141_1_l3) (live := [0, 2, 3, 9]) (out := (outT [(.exit 0, [2, 3])])) (fun k d K => f141_1_l3 F d.2.1.2.1 d.2.2.1.2.1 (fun (y2 : List Int) => K (.exit 0) [.tv (.lf (.ptr 1 0)), .tv (.lf (.ptr 2 0))] [some ⟨d.2.1.1, [.seq (.int .u8) 0 d.2.1.2.1]⟩, some ⟨false, [.seq (.int .u32) 64 d.2.2.1.2.1]⟩, some ⟨false, [.seq (.int .u32) 64 y2]⟩]) k d.1.2.2.2.1 d.2.2.2.1.2.1) F (fun d K => by kernel_rfl)  (fun k d K => Eq.mp (by kernel_rfl) (L141_1_3g F k (f142_1 F)  (f141_1_l3 F) (G141_1_3 F F) (G141_1_9 F F) d K))
theorem L141_1_9g (F k : Nat) (c142_1 : Int → Int → (Int → Option Res) → Option Res)  (l9 : List Int → List Int → (List Int → Option Res) → Nat → Int → List Int → Option Res) (X3 : LoopS) (X9 : LoopS) (d : sh141_1_l9.den) (K : KL) : (fun (v7 : List Int) (v8 : List Int) (K0 : (List Int → Option Res)) (k : Nat) (v6 : Int) (v9 : List Int) => cond (decide (v6 < 64)) (cond (decide ((0 : Int) ≤ IntKind.i64.wrap (v6 - 15) ∧ IntKind.i64.wrap (v6 - 15) < 64)) (cond (decide ((IntKind.i64.wrap (v6 - 15)).toNat < v9.length)) (cond (decide ((0 : Int) ≤ IntKind.i64.wrap (v6 - 2) ∧ IntKind.i64.wrap (v6 - 2) < 64)) (cond (decide ((IntKind.i64.wrap (v6 - 2)).toNat < v9.length)) (cond (decide ((0 : Int) ≤ IntKind.i64.wrap (v6 - 16) ∧ IntKind.i64.wrap (v6 - 16) < 64)) (cond (decide ((IntKind.i64.wrap (v6 - 16)).toNat < v9.length)) (cond (decide ((0 : Int) ≤ IntKind.i64.wrap (v6 - 7) ∧ IntKind.i64.wrap (v6 - 7) < 64)) (cond (decide ((IntKind.i64.wrap (v6 - 7)).toNat < v9.length)) (c142_1 (v9.getD ((IntKind.i64.wrap (v6 - 15)).toNat) 0) 7 (fun x10 => c142_1 (v9.getD ((IntKind.i64.wrap (v6 - 15)).toNat) 0) 18 (fun x11 => c142_1 (v9.getD ((IntKind.i64.wrap (v6 - 2)).toNat) 0) 17 (fun x12 => c142_1 (v9.getD ((IntKind.i64.wrap (v6 - 2)).toNat) 0) 19 (fun x13 => cond (decide ((0 : Int) ≤ v6 ∧ v6 < 64)) (cond (decide (v6.toNat < v9.length)) (l9 v7 v8 K0 k (IntKind.i64.wrap (v6 + 1)) (v9.set v6.toNat (IntKind.u32.wrap ((IntKind.u32.wrap ((IntKind.u32.wrap ((v9.getD ((IntKind.i64.wrap (v6 - 16)).toNat) 0) + (v9.getD ((IntKind.i64.wrap (v6 - 7)).toNat) 0))) + (ixor .u32 (ixor .u32 x10 x11) (ishr .u32 (v9.getD ((IntKind.i64.wrap (v6 - 15)).toNat) 0) 3)))) + (ixor .u32 (ixor .u32 x12 x13) (ishr .u32 (v9.getD ((IntKind.i64.wrap (v6 - 2)).toNat) 0) 10)))))) none) none) ) ) ) ) none) none) none) none) none) none) none) none) (K0 v9)) d.2.1.2.1 d.2.2.1.2.1 (fun (y2 : List Int) => K (.exit 2) [.tv (.lf (.ptr 1 0)), .tv (.lf (.ptr 2 0))] [some ⟨d.2.1.1, [.seq (.int .u8) 0 d.2.1.2.1]⟩, some ⟨false, [.seq (.int .u32) 64 d.2.2.1.2.1]⟩, some ⟨false, [.seq (.int .u32) 64 y2]⟩]) k d.1.2.2.1 d.2.2.2.1.2.1 = roundOf Try.prog (tab [(142, (mkS sh142_1 (fun d K => c142_1 d.1.1 d.1.2.1 (fun (y0 : Int) => K [.lf (.int .u32 y0)] [])) noS))]) 86 1 (ltab [(3, X3), (9, X9)]) (mkG sh141_1_l9 [2, 3, 6] (outT [(.exit 2, [2, 3])]) (fun d K => l9 d.2.1.2.1 d.2.2.1.2.1 (fun (y2 : List Int) => K (.exit 2) [.tv (.lf (.ptr 1 0)), .tv (.lf (.ptr 2 0))] [some ⟨d.2.1.1, [.seq (.int .u8) 0 d.2.1.2.1]⟩, some ⟨false, [.seq (.int .u32) 64 d.2.2.1.2.1]⟩, some ⟨false, [.seq (.int .u32) 64 y2]⟩]) k d.1.2.2.1 d.2.2.2.1.2.1)) b141_1 (encT sh141_1_l9.vs d.1) (encH sh141_1_l9.h d.2) K := by kernel_rfl
theorem L141_1_9 (F : Nat) : LoopOK Try.prog (T141_1 F) 86 1 (LT141_1 F) (G141_1_9 F F) b141_1 :=
  loopOK_of (s := sh141_1_l9) (live := [2, 3, 6]) (out := (outT [(.exit 2, [2, 3])])) (fun k d K => f141_1_l9 F d.2.1.2.1 d.2.2.1.2.1 (fun (y2 : List Int) => K (.exit 2) [.tv (.lf (.ptr 1 0)), .tv (.lf (.ptr 2 0))] [some ⟨d.2.1.1, [.seq (.int .u8) 0 d.2.1.2.1]⟩, some ⟨false, [.seq (.int .u32) 64 d.2.2.1.2.1]⟩, some ⟨false, [.seq (.int .u32) 64 y2]⟩]) k d.1.2.2.1 d.2.2.2.1.2.1) F (fun d K => by kernel_rfl)  (fun k d K => Eq.mp (by kernel_rfl) (L141_1_9g F k (f142_1 F)  (f141_1_l9 F) (G141_1_3 F F) (G141_1_9 F F) d K))
theorem E141_1g (F : Nat) (c142_1 : Int → Int → (Int → Option Res) → Option Res) (l3 : List Int → List Int → (List Int → Option Res) → Nat → Int → List Int → Option Res) (l9 : List Int → List Int → (List Int → Option Res) → Nat → Int → List Int → Option Res)  (d : sh141_1.den) (K : KF) : evBody Try.prog (tab [(142, (mkS sh142_1 (fun d K => c142_1 d.1.1 d.1.2.1 (fun (y0 : Int) => K [.lf (.int .u32 y0)] [])) noS))]) 86 1 (ltab [(3, mkG sh141_1_l3 [0, 2, 3, 9] (outT [(.exit 0, [2, 3])]) (fun d K => l3 d.2.1.2.1 d.2.2.1.2.1 (fun (y2 : List Int) => K (.exit 0) [.tv (.lf (.ptr 1 0)), .tv (.lf (.ptr 2 0))] [some ⟨d.2.1.1, [.seq (.int .u8) 0 d.2.1.2.1]⟩, some ⟨false, [.seq (.int .u32) 64 d.2.2.1.2.1]⟩, some ⟨false, [.seq (.int .u32) 64 y2]⟩]) F d.1.2.2.2.1 d.2.2.2.1.2.1)), (9, mkG sh141_1_l9 [2, 3, 6] (outT [(.exit 2, [2, 3])]) (fun d K => l9 d.2.1.2.1 d.2.2.1.2.1 (fun (y2 : List Int) => K (.exit 2) [.tv (.lf (.ptr 1 0)), .tv (.lf (.ptr 2 0))] [some ⟨d.2.1.1, [.seq (.int .u8) 0 d.2.1.2.1]⟩, some ⟨false, [.seq (.int .u32) 64 d.2.2.1.2.1]⟩, some ⟨false, [.seq (.int .u32) 64 y2]⟩]) F d.1.2.2.1 d.2.2.2.1.2.1))]) code141 Try.f141.results.toList (encT sh141_1.vs d.1) (encH sh141_1.h d.2) K = (fun (a1 : List Int) (K0 : (List Int → Option Res)) => l3 a1 [0, 0, 0, 0, 0, 0, 0, 0, 0, 0, 0, 0, 0, 0, 0, 0, 0, 0, 0, 0, 0, 0, 0, 0, 0, 0, 0, 0, 0, 0, 0, 0, 0, 0, 0, 0, 0, 0, 0, 0, 0, 0, 0, 0, 0, 0, 0, 0, 0, 0, 0, 0, 0, 0, 0, 0, 0, 0, 0, 0, 0, 0, 0, 0] (fun x5 => l9 a1 [0, 0, 0, 0, 0, 0, 0, 0, 0, 0, 0, 0, 0, 0, 0, 0, 0, 0, 0, 0, 0, 0, 0, 0, 0, 0, 0, 0, 0, 0, 0, 0, 0, 0, 0, 0, 0, 0, 0, 0, 0, 0, 0, 0, 0, 0, 0, 0, 0, 0, 0, 0, 0, 0, 0, 0, 0, 0, 0, 0, 0, 0, 0, 0] (fun x14 => K0 x14) F 16 x5) F 0 [0, 0, 0, 0, 0, 0, 0, 0, 0, 0, 0, 0, 0, 0, 0, 0, 0, 0, 0, 0, 0, 0, 0, 0, 0, 0, 0, 0, 0, 0, 0, 0, 0, 0, 0, 0, 0, 0, 0, 0, 0, 0, 0, 0, 0, 0, 0, 0, 0, 0, 0, 0, 0, 0, 0, 0, 0, 0, 0, 0, 0, 0, 0, 0]) d.2.1.2.1 (fun (y0 : List Int) => K [.agg [.seq (.int .u32) 64 y0]] [some ⟨d.2.1.1, [.seq (.int .u8) 0 d.2.1.2.1]⟩]) := by kernel_rfl
theorem E141_1 (F : Nat) (d : sh141_1.den) (K : KF) : evBody Try.prog (T141_1 F) 86 1 (LT141_1 F) code141 Try.f141.results.toList (encT sh141_1.vs d.1) (encH sh141_1.h d.2) K = f141_1 F d.2.1.2.1 (fun (y0 : List Int) => K [.agg [.seq (.int .u32) 64 y0]] [some ⟨d.2.1.1, [.seq (.int .u8) 0 d.2.1.2.1]⟩]) := Eq.mp (by kernel_rfl) (E141_1g F (f142_1 F) (f141_1_l3 F) (f141_1_l9 F)  d K)
theorem S141_1_ok (F : Nat) (o : Summ) (ho : SoundFn Try.prog 141 o) : SoundFn Try.prog 141 (S141_1 F o) :=
  soundFn_of (fn := Try.f141) (c := code141) (by kernel_rfl) (tab_cons (S142_1_ok F _ (noS_sound enter142)) tab_nil) (by kernel_rfl) (by kernel_rfl) ho (by rw [loops141]; exact (loopsOK_cons (by kernel_rfl) (L141_1_3 F) (loopsOK_cons (by kernel_rfl) (L141_1_9 F) loopsOK_nil))) (by rw [scopes141]; exact scopesOK_nil) (E141_1 F)
end Go.Proofs.Ytillbabmlfjegaa.X
end

section
namespace Go.Proofs.Ytillbabmlfjegaa.X
open Go Go.Proofs.Ytillbabmlfjegaa.Ev Go.Proofs
set_option linter.unusedVariables false
/-! sha.state).block -/
noncomputable def f130_0_l3 {β : Type} (F : Nat) (v2 : List Int) (v3 : List Int) (v4 : List Int) (v5 : List Int) (v6 : List Int) (K0 : List Int → Option β) : Nat → Int → List Int → Option β
  | 0, _, _ => none
  | k + 1, v1, v7 => cond (decide (v1 < 64)) (cond (decide (0 < v7.length)) (cond (decide (4 < v7.length)) (cond (decide (5 < v7.length)) (cond (decide (6 < v7.length)) (cond (decide (1 < v7.length)) (cond (decide (2 < v7.length)) (cond (decide (1 < v7.length)) (cond (decide (2 < v7.length)) (cond (decide (7 < v7.length)) (cond (decide ((0 : Int) ≤ v1 ∧ v1 < 64)) (cond (decide (v1.toNat < v5.length)) (cond (decide ((0 : Int) ≤ v1 ∧ v1 < 64)) (cond (decide (v1.toNat < v6.length)) (f142_1 F (v7.getD 4 0) 6 (fun x8 => f142_1 F (v7.getD 4 0) 11 (fun x9 => f142_1 F (v7.getD 4 0) 25 (fun x10 => f142_1 F (v7.getD 0 0) 2 (fun x11 => f142_1 F (v7.getD 0 0) 13 (fun x12 => f142_1 F (v7.getD 0 0) 22 (fun x13 => cond (decide (0 < (v7.take 1 ++ (((v7.drop 0).take 7).take 7 ++ v7.drop (1 + (min (((v7.drop 0).take 7).length) 7)))).length)) (cond (decide (4 < ((v7.take 1 ++ (((v7.drop 0).take 7).take 7 ++ v7.drop (1 + (min (((v7.drop 0).take 7).length) 7)))).set 0 (IntKind.u32.wrap ((IntKind.u32.wrap ((IntKind.u32.wrap ((IntKind.u32.wrap ((IntKind.u32.wrap ((v7.getD 7 0) + (ixor .u32 (ixor .u32 x8 x9) x10))) + (ixor .u32 (iand .u32 (v7.getD 4 0) (v7.getD 5 0)) (iand .u32 (ixor .u32 4294967295 (v7.getD 4 0)) (v7.getD 6 0))))) + (v5.getD v1.toNat 0))) + (v6.getD v1.toNat 0))) + (IntKind.u32.wrap ((ixor .u32 (ixor .u32 x11 x12) x13) + (ixor .u32 (ixor .u32 (iand .u32 (v7.getD 0 0) (v7.getD 1 0)) (iand .u32 (v7.getD 0 0) (v7.getD 2 0))) (iand .u32 (v7.getD 1 0) (v7.getD 2 0)))))))).length)) (cond (decide (4 < ((v7.take 1 ++ (((v7.drop 0).take 7).take 7 ++ v7.drop (1 + (min (((v7.drop 0).take 7).length) 7)))).set 0 (IntKind.u32.wrap ((IntKind.u32.wrap ((IntKind.u32.wrap ((IntKind.u32.wrap ((IntKind.u32.wrap ((v7.getD 7 0) + (ixor .u32 (ixor .u32 x8 x9) x10))) + (ixor .u32 (iand .u32 (v7.getD 4 0) (v7.getD 5 0)) (iand .u32 (ixor .u32 4294967295 (v7.getD 4 0)) (v7.getD 6 0))))) + (v5.getD v1.toNat 0))) + (v6.getD v1.toNat 0))) + (IntKind.u32.wrap ((ixor .u32 (ixor .u32 x11 x12) x13) + (ixor .u32 (ixor .u32 (iand .u32 (v7.getD 0 0) (v7.getD 1 0)) (iand .u32 (v7.getD 0 0) (v7.getD 2 0))) (iand .u32 (v7.getD 1 0) (v7.getD 2 0)))))))).length)) (f130_0_l3 F v2 v3 v4 v5 v6 K0 k (IntKind.i64.wrap (v1 + 1)) (((v7.take 1 ++ (((v7.drop 0).take 7).take 7 ++ v7.drop (1 + (min (((v7.drop 0).take 7).length) 7)))).set 0 (IntKind.u32.wrap ((IntKind.u32.wrap ((IntKind.u32.wrap ((IntKind.u32.wrap ((IntKind.u32.wrap ((v7.getD 7 0) + (ixor .u32 (ixor .u32 x8 x9) x10))) + (ixor .u32 (iand .u32 (v7.getD 4 0) (v7.getD 5 0)) (iand .u32 (ixor .u32 4294967295 (v7.getD 4 0)) (v7.getD 6 0))))) + (v5.getD v1.toNat 0))) + (v6.getD v1.toNat 0))) + (IntKind.u32.wrap ((ixor .u32 (ixor .u32 x11 x12) x13) + (ixor .u32 (ixor .u32 (iand .u32 (v7.getD 0 0) (v7.getD 1 0)) (iand .u32 (v7.getD 0 0) (v7.getD 2 0))) (iand .u32 (v7.getD 1 0) (v7.getD 2 0)))))))).set 4 (IntKind.u32.wrap ((((v7.take 1 ++ (((v7.drop 0).take 7).take 7 ++ v7.drop (1 + (min (((v7.drop 0).take 7).length) 7)))).set 0 (IntKind.u32.wrap ((IntKind.u32.wrap ((IntKind.u32.wrap ((IntKind.u32.wrap ((IntKind.u32.wrap ((v7.getD 7 0) + (ixor .u32 (ixor .u32 x8 x9) x10))) + (ixor .u32 (iand .u32 (v7.getD 4 0) (v7.getD 5 0)) (iand .u32 (ixor .u32 4294967295 (v7.getD 4 0)) (v7.getD 6 0))))) + (v5.getD v1.toNat 0))) + (v6.getD v1.toNat 0))) + (IntKind.u32.wrap ((ixor .u32 (ixor .u32 x11 x12) x13) + (ixor .u32 (ixor .u32 (iand .u32 (v7.getD 0 0) (v7.getD 1 0)) (iand .u32 (v7.getD 0 0) (v7.getD 2 0))) (iand .u32 (v7.getD 1 0) (v7.getD 2 0)))))))).getD 4 0) + (IntKind.u32.wrap ((IntKind.u32.wrap ((IntKind.u32.wrap ((IntKind.u32.wrap ((v7.getD 7 0) + (ixor .u32 (ixor .u32 x8 x9) x10))) + (ixor .u32 (iand .u32 (v7.getD 4 0) (v7.getD 5 0)) (iand .u32 (ixor .u32 4294967295 (v7.getD 4 0)) (v7.getD 6 0))))) + (v5.getD v1.toNat 0))) + (v6.getD v1.toNat 0))))))) none) none) none) ) ) ) ) ) ) none) none) none) none) none) none) none) none) none) none) none) none) none) (K0 v7)
noncomputable def f130_0_l14 {β : Type} (F : Nat) (v16 : List Int) (v17 : List Int) (v18 : List Int) (K0 : List Int → Option β) : Nat → Int → List Int → Option β
  | 0, _, _ => none
  | k + 1, v15, v19 => cond (decide (v15 < 8)) (cond (decide ((0 : Int) ≤ v15 ∧ v15 < 8)) (cond (decide (v15.toNat < v19.length)) (cond (decide ((0 : Int) ≤ v15 ∧ v15 < 8)) (cond (decide (v15.toNat < v17.length)) (cond (decide ((0 : Int) ≤ v15 ∧ v15 < 8)) (cond (decide (v15.toNat < v19.length)) (f130_0_l14 F v16 v17 v18 K0 k (IntKind.i64.wrap (v15 + 1)) (v19.set v15.toNat (IntKind.u32.wrap ((v19.getD v15.toNat 0) + (v17.getD v15.toNat 0))))) none) none) none) none) none) none) (K0 v19)
noncomputable def f130_0 {β : Type} (F : Nat) (a1 : List Int) (a2 : List Int) (a3 : List Int) (a4 : List Int) (a5 : List Int) (a6 : List Int) (K0 : List Int → Option β) : Option β := f130_0_l3 F a1 a2 a3 a4 a5 (fun x14 => f130_0_l14 F a1 a2 a3 (fun x20 => K0 x20) F 0 x14) F 0 a6
def sh130_0 : Sh := ⟨[], [some ⟨none, [.seq (.int .u8) 0]⟩, some ⟨some false, [.seq (.int .u32) 8]⟩, some ⟨some false, [.seq (.int .u32) 8]⟩, some ⟨some false, [.seq (.int .u32) 64]⟩, some ⟨some false, [.seq (.int .u32) 64]⟩, some ⟨some false, [.seq (.int .u32) 8]⟩]⟩
noncomputable def S130_0 (F : Nat) (o : Summ) : Summ := mkS sh130_0 (fun d K => f130_0 F d.2.1.2.1 d.2.2.1.2.1 d.2.2.2.1.2.1 d.2.2.2.2.1.2.1 d.2.2.2.2.2.1.2.1 d.2.2.2.2.2.2.1.2.1 (fun (y0 : List Int) => K [.agg [.seq (.int .u32) 8 y0]] [some ⟨d.2.1.1, [.seq (.int .u8) 0 d.2.1.2.1]⟩])) o
noncomputable def code130 : Code := bodyOf Try.f130
noncomputable def b130_0 : Code := cB (cB (cR (cL (cR (cR (code130))))))
noncomputable def b130_1 : Code := cB (cB (cR (cL (cR (cR (cR (code130)))))))
theorem scopes130 : scopesOf code130 = [] := by kernel_rfl
theorem loops130 : loopsOf code130 = [b130_0, b130_1] := by kernel_rfl
theorem enter130 : ∀ args w, (callFunc 130 args).run Try.prog w = .ok (.enter 130 args) w := enter_of (fn := Try.f130) (by kernel_rfl) (by kernel_rfl) (by kernel_rfl)
noncomputable def T130_0 (F : Nat) : FuncId → Option Summ := tab [(142, (S142_1 F noS))]
def sh130_0_l3 : Sh := ⟨[.lf (.ptr 1 0), .lf (.ptr 2 0), .lf (.ptr 3 0), .lf (.ptr 4 0), .lf (.ptr 5 0), .lf (.int .i64)], [some ⟨none, [.seq (.int .u8) 0]⟩, some ⟨some false, [.seq (.int .u32) 8]⟩, some ⟨some false, [.seq (.int .u32) 8]⟩, some ⟨some false, [.seq (.int .u32) 64]⟩, some ⟨some false, [.seq (.int .u32) 64]⟩, some ⟨some false, [.seq (.int .u32) 8]⟩]⟩
noncomputable def G130_0_3 (F k : Nat) : LoopS := mkG sh130_0_l3 [2, 4, 5, 6, 7, 20] (outT [(.exit 0, [2, 4, 7])]) (fun d K => f130_0_l3 F d.2.1.2.1 d.2.2.1.2.1 d.2.2.2.1.2.1 d.2.2.2.2.1.2.1 d.2.2.2.2.2.1.2.1 (fun (y5 : List Int) => K (.exit 0) [.tv (.lf (.ptr 1 0)), .tv (.lf (.ptr 2 0)), .tv (.lf (.ptr 5 0))] [some ⟨d.2.1.1, [.seq (.int .u8) 0 d.2.1.2.1]⟩, some ⟨false, [.seq (.int .u32) 8 d.2.2.1.2.1]⟩, some ⟨false, [.seq (.int .u32) 8 d.2.2.2.1.2.1]⟩, some ⟨false, [.seq (.int .u32) 64 d.2.2.2.2.1.2.1]⟩, some ⟨false, [.seq (.int .u32) 64 d.2.2.2.2.2.1.2.1]⟩, some ⟨false, [.seq (.int .u32) 8 y5]⟩]) k d.1.2.2.2.2.2.1 d.2.2.2.2.2.2.1.2.1)
def sh130_0_l14 : Sh := ⟨[.lf (.ptr 1 0), .lf (.ptr 2 0), .lf (.ptr 3 0), .lf (.int .i64)], [some ⟨none, [.seq (.int .u8) 0]⟩, some ⟨some false, [.seq (.int .u32) 8]⟩, some ⟨some false, [.seq (.int .u32) 8]⟩, some ⟨some false, [.seq (.int .u32) 8]⟩]⟩
noncomputable def G130_0_14 (F k : Nat) : LoopS := mkG sh130_0_l14 [2, 4, 7, 96] (outT [(.exit 2, [4, 7])]) (fun d K => f130_0_l14 F d.2.1.2.1 d.2.2.1.2.1 d.2.2.2.1.2.1 (fun (y3 : List Int) => K (.exit 2) [.tv (.lf (.ptr 2 0)), .tv (.lf (.ptr 3 0))] [some ⟨d.2.1.1, [.seq (.int .u8) 0 d.2.1.2.1]⟩, some ⟨false, [.seq (.int .u32) 8 d.2.2.1.2.1]⟩, some ⟨false, [.seq (.int .u32) 8 d.2.2.2.1.2.1]⟩, some ⟨false, [.seq (.int .u32) 8 y3]⟩]) k d.1.2.2.2.1 d.2.2.2.2.1.2.1)
noncomputable def LT130_0 (F : Nat) : Nat → Option LoopS := ltab [(3, G130_0_3 F F), (14, G130_0_14 F F)]
theorem L130_0_3g (F k : Nat) (c142_1 : Int → Int → (Int → Option Res) → Option Res)  (l3 : List Int → List Int → List Int → List Int → List Int → (List Int → Option Res) → Nat → Int → List Int → Option Res) (X3 : LoopS) (X14 : LoopS) (d : sh130_0_l3.den) (K : KL) : (fun (v2 : List Int) (v3 : List Int) (v4 : List Int) (v5 : List Int) (v6 : List Int) (K0 : (List Int → Option Res)) (k : Nat) (v1 : Int) (v7 : List Int) => cond (decide (v1 < 64)) (cond (decide (0 < v7.length)) (cond (decide (4 < v7.length)) (cond (decide (5 < v7.length)) (cond (decide (6 < v7.length)) (cond (decide (1 < v7.length)) (cond (decide (2 < v7.length)) (cond (decide (1 < v7.length)) (cond (decide (2 < v7.length)) (cond (decide (7 < v7.length)) (cond (decide ((0 : Int) ≤ v1 ∧ v1 < 64)) (cond (decide (v1.toNat < v5.length)) (cond (decide ((0 : Int) ≤ v1 ∧ v1 < 64)) (cond (decide (v1.toNat < v6.length)) (c142_1 (v7.getD 4 0) 6 (fun x8 => c142_1 (v7.getD 4 0) 11 (fun x9 => c142_1 (v7.getD 4 0) 25 (fun x10 => c142_1 (v7.getD 0 0) 2 (fun x11 => c142_1 (v7.getD 0 0) 13 (fun x12 => c142_1 (v7.getD 0 0) 22 (fun x13 => cond (decide (0 < (v7.take 1 ++ (((v7.drop 0).take 7).take 7 ++ v7.drop (1 + (min (((v7.drop 0).take 7).length) 7)))).length)) (cond (decide (4 < ((v7.take 1 ++ (((v7.drop 0).take 7).take 7 ++ v7.drop (1 + (min (((v7.drop 0).take 7).length) 7)))).set 0 (IntKind.u32.wrap ((IntKind.u32.wrap ((IntKind.u32.wrap ((IntKind.u32.wrap ((IntKind.u32.wrap ((v7.getD 7 0) + (ixor .u32 (ixor .u32 x8 x9) x10))) + (ixor .u32 (iand .u32 (v7.getD 4 0) (v7.getD 5 0)) (iand .u32 (ixor .u32 4294967295 (v7.getD 4 0)) (v7.getD 6 0))))) + (v5.getD v1.toNat 0))) + (v6.getD v1.toNat 0))) + (IntKind.u32.wrap ((ixor .u32 (ixor .u32 x11 x12) x13) + (ixor .u32 (ixor .u32 (iand .u32 (v7.getD 0 0) (v7.getD 1 0)) (iand .u32 (v7.getD 0 0) (v7.getD 2 0))) (iand .u32 (v7.getD 1 0) (v7.getD 2 0)))))))).length)) (cond (decide (4 < ((v7.take 1 ++ (((v7.drop 0).take 7).take 7 ++ v7.drop (1 + (min (((v7.drop 0).take 7).length) 7)))).set 0 (IntKind.u32.wrap ((IntKind.u32.wrap ((IntKind.u32.wrap ((IntKind.u32.wrap ((IntKind.u32.wrap ((v7.getD 7 0) + (ixor .u32 (ixor .u32 x8 x9) x10))) + (ixor .u32 (iand .u32 (v7.getD 4 0) (v7.getD 5 0)) (iand .u32 (ixor .u32 4294967295 (v7.getD 4 0)) (v7.getD 6 0))))) + (v5.getD v1.toNat 0))) + (v6.getD v1.toNat 0))) + (IntKind.u32.wrap ((ixor .u32 (ixor .u32 x11 x12) x13) + (ixor .u32 (ixor .u32 (iand .u32 (v7.getD 0 0) (v7.getD 1 0)) (iand .u32 (v7.getD 0 0) (v7.getD 2 0))) (iand .u32 (v7.getD 1 0) (v7.getD 2 0)))))))).length)) (l3 v2 v3 v4 v5 v6 K0 k (IntKind.i64.wrap (v1 + 1)) (((v7.take 1 ++ (((v7.drop 0).take 7).take 7 ++ v7.drop (1 + (min (((v7.drop 0).take 7).length) 7)))).set 0 (IntKind.u32.wrap ((IntKind.u32.wrap ((IntKind.u32.wrap ((IntKind.u32.wrap ((IntKind.u32.wrap ((v7.getD 7 0) + (ixor .u32 (ixor .u32 x8 x9) x10))) + (ixor .u32 (iand .u32 (v7.getD 4 0) (v7.getD 5 0)) (iand .u32 (ixor .u32 4294967295 (v7.getD 4 0)) (v7.getD 6 0))))) + (v5.getD v1.toNat 0))) + (v6.getD v1.toNat 0))) + (IntKind.u32.wrap ((ixor .u32 (ixor .u32 x11 x12) x13) + (ixor .u32 (ixor .u32 (iand .u32 (v7.getD 0 0) (v7.getD 1 0)) (iand .u32 (v7.getD 0 0) (v7.getD 2 0))) (iand .u32 (v7.getD 1 0) (v7.getD 2 0)))))))).set 4 (IntKind.u32.wrap ((((v7.take 1 ++ (((v7.drop 0).take 7).take 7 ++ v7.drop (1 + (min (((v7.drop 0).take 7).length) 7)))).set 0 (IntKind.u32.wrap ((IntKind.u32.wrap ((IntKind.u32.wrap ((IntKind.u32.wrap ((IntKind.u32.wrap ((v7.getD 7 0) + (ixor .u32 (ixor .u32 x8 x9) x10))) + (ixor .u32 (iand .u32 (v7.getD 4 0) (v7.getD 5 0)) (iand .u32 (ixor .u32 4294967295 (v7.getD 4 0)) (v7.getD 6 0))))) + (v5.getD v1.toNat 0))) + (v6.getD v1.toNat 0))) + (IntKind.u32.wrap ((ixor .u32 (ixor .u32 x11 x12) x13) + (ixor .u32 (ixor .u32 (iand .u32 (v7.getD 0 0) (v7.getD 1 0)) (iand .u32 (v7.getD 0 0) (v7.getD 2 0))) (iand .u32 (v7.getD 1 0) (v7.getD 2 0)))))))).getD 4 0) + (IntKind.u32.wrap ((IntKind.u32.wrap ((IntKind.u32.wrap ((IntKind.u32.wrap ((v7.getD 7 0) + (ixor .u32 (ixor .u32 x8 x9) x10))) + (ixor .u32 (iand .u32 (v7.getD 4 0) (v7.getD 5 0)) (iand .u32 (ixor .u32 4294967295 (v7.getD 4 0)) (v7.getD 6 0))))) + (v5.getD v1.toNat 0))) + (v6.getD v1.toNat 0))))))) none) none) none) ) ) ) ) ) ) none) none) none) none) none) none) none) none) none) none) none) none) none) (K0 v7)) d.2.1.2.1 d.2.2.1.2.1 d.2.2.2.1.2.1 d.2.2.2.2.1.2.1 d.2.2.2.2.2.1.2.1 (fun (y5 : List Int) => K (.exit 0) [.tv (.lf (.ptr 1 0)), .tv (.lf (.ptr 2 0)), .tv (.lf (.ptr 5 0))] [some ⟨d.2.1.1, [.seq (.int .u8) 0 d.2.1.2.1]⟩, some ⟨false, [.seq (.int .u32) 8 d.2.2.1.2.1]⟩, some ⟨false, [.seq (.int .u32) 8 d.2.2.2.1.2.1]⟩, some ⟨false, [.seq (.int .u32) 64 d.2.2.2.2.1.2.1]⟩, some ⟨false, [.seq (.int .u32) 64 d.2.2.2.2.2.1.2.1]⟩, some ⟨false, [.seq (.int .u32) 8 y5]⟩]) k d.1.2.2.2.2.2.1 d.2.2.2.2.2.2.1.2.1 = roundOf Try.prog (tab [(142, (mkS sh142_1 (fun d K => c142_1 d.1.1 d.1.2.1 (fun (y0 : Int) => K [.lf (.int .u32 y0)] [])) noS))]) 109 1 (ltab [(3, X3), (14, X14)]) (mkG sh130_0_l3 [2, 4, 5, 6, 7, 20] (outT [(.exit 0, [2, 4, 7])]) (fun d K => l3 d.2.1.2.1 d.2.2.1.2.1 d.2.2.2.1.2.1 d.2.2.2.2.1.2.1 d.2.2.2.2.2.1.2.1 (fun (y5 : List Int) => K (.exit 0) [.tv (.lf (.ptr 1 0)), .tv (.lf (.ptr 2 0)), .tv (.lf (.ptr 5 0))] [some ⟨d.2.1.1, [.seq (.int .u8) 0 d.2.1.2.1]⟩, some ⟨false, [.seq (.int .u32) 8 d.2.2.1.2.1]⟩, some ⟨false, [.seq (.int .u32) 8 d.2.2.2.1.2.1]⟩, some ⟨false, [.seq (.int .u32) 64 d.2.2.2.2.1.2.1]⟩, some ⟨false, [.seq (.int .u32) 64 d.2.2.2.2.2.1.2.1]⟩, some ⟨false, [.seq (.int .u32) 8 y5]⟩]) k d.1.2.2.2.2.2.1 d.2.2.2.2.2.2.1.2.1)) b130_0 (encT sh130_0_l3.vs d.1) (encH sh130_0_l3.h d.2) K := by kernel_rfl
theorem L130_0_3 (F : Nat) : LoopOK Try.prog (T130_0 F) 109 1 (LT130_0 F) (G130_0_3 F F) b130_0 :=
  loopOK_of (s := sh130_0_l3) (live := [2, 4, 5, 6, 7, 20]) (out := (outT [(.exit 0, [2, 4, 7])])) (fun k d K => f130_0_l3 F d.2.1.2.1 d.2.2.1.2.1 d.2.2.2.1.2.1 d.2.2.2.2.1.2.1 d.2.2.2.2.2.1.2.1 (fun (y5 : List Int) => K (.exit 0) [.tv (.lf (.ptr 1 0)), .tv (.lf (.ptr 2 0)), .tv (.lf (.ptr 5 0))] [some ⟨d.2.1.1, [.seq (.int .u8) 0 d.2.1.2.1]⟩, some ⟨false, [.seq (.int .u32) 8 d.2.2.1.2.1]⟩, some ⟨false, [.seq (.int .u32) 8 d.2.2.2.1.2.1]⟩, some ⟨false, [.seq (.int .u32) 64 d.2.2.2.2.1.2.1]⟩, some ⟨false, [.seq (.int .u32) 64 d.2.2.2.2.2.1.2.1]⟩, some ⟨false, [.seq (.int .u32) 8 y5]⟩]) k d.1.2.2.2.2.2.1 d.2.2.2.2.2.2.1.2.1) F (fun d K => by kernel_rfl)  (fun k d K => Eq.mp (by kernel_rfl) (L130_0_3g F k (f142_1 F)  (f130_0_l3 F) (G130_0_3 F F) (G130_0_14 F F) d K))
theorem L130_0_14g (F k : Nat) (c142_1 : Int → Int → (Int → Option Res) → Option Res)  (l14 : List Int → List Int → List Int → (List Int → Option Res) → Nat → Int → List Int → Option Res) (X3 : LoopS) (X14 : LoopS) (d : sh130_0_l14.den) (K : KL) : (fun (v16 : List Int) (v17 : List Int) (v18 : List Int) (K0 : (List Int → Option Res)) (k : Nat) (v15 : Int) (v19 : List Int) => cond (decide (v15 < 8)) (cond (decide ((0 : Int) ≤ v15 ∧ v15 < 8)) (cond (decide (v15.toNat < v19.length)) (cond (decide ((0 : Int) ≤ v15 ∧ v15 < 8)) (cond (decide (v15.toNat < v17.length)) (cond (decide ((0 : Int) ≤ v15 ∧ v15 < 8)) (cond (decide (v15.toNat < v19.length)) (l14 v16 v17 v18 K0 k (IntKind.i64.wrap (v15 + 1)) (v19.set v15.toNat (IntKind.u32.wrap ((v19.getD v15.toNat 0) + (v17.getD v15.toNat 0))))) none) none) none) none) none) none) (K0 v19)) d.2.1.2.1 d.2.2.1.2.1 d.2.2.2.1.2.1 (fun (y3 : List Int) => K (.exit 2) [.tv (.lf (.ptr 2 0)), .tv (.lf (.ptr 3 0))] [some ⟨d.2.1.1, [.seq (.int .u8) 0 d.2.1.2.1]⟩, some ⟨false, [.seq (.int .u32) 8 d.2.2.1.2.1]⟩, some ⟨false, [.seq (.int .u32) 8 d.2.2.2.1.2.1]⟩, some ⟨false, [.seq (.int .u32) 8 y3]⟩]) k d.1.2.2.2.1 d.2.2.2.2.1.2.1 = roundOf Try.prog (tab [(142, (mkS sh142_1 (fun d K => c142_1 d.1.1 d.1.2.1 (fun (y0 : Int) => K [.lf (.int .u32 y0)] [])) noS))]) 109 1 (ltab [(3, X3), (14, X14)]) (mkG sh130_0_l14 [2, 4, 7, 96] (outT [(.exit 2, [4, 7])]) (fun d K => l14 d.2.1.2.1 d.2.2.1.2.1 d.2.2.2.1.2.1 (fun (y3 : List Int) => K (.exit 2) [.tv (.lf (.ptr 2 0)), .tv (.lf (.ptr 3 0))] [some ⟨d.2.1.1, [.seq (.int .u8) 0 d.2.1.2.1]⟩, some ⟨false, [.seq (.int .u32) 8 d.2.2.1.2.1]⟩, some ⟨false, [.seq (.int .u32) 8 d.2.2.2.1.2.1]⟩, some ⟨false, [.seq (.int .u32) 8 y3]⟩]) k d.1.2.2.2.1 d.2.2.2.2.1.2.1)) b130_1 (encT sh130_0_l14.vs d.1) (encH sh130_0_l14.h d.2) K := by kernel_rfl
theorem L130_0_14 (F : Nat) : LoopOK Try.prog (T130_0 F) 109 1 (LT130_0 F) (G130_0_14 F F) b130_1 :=
  loopOK_of (s := sh130_0_l14) (live := [2, 4, 7, 96]) (out := (outT [(.exit 2, [4, 7])])) (fun k d K => f130_0_l14 F d.2.1.2.1 d.2.2.1.2.1 d.2.2.2.1.2.1 (fun (y3 : List Int) => K (.exit 2) [.tv (.lf (.ptr 2 0)), .tv (.lf (.ptr 3 0))] [some ⟨d.2.1.1, [.seq (.int .u8) 0 d.2.1.2.1]⟩, some ⟨false, [.seq (.int .u32) 8 d.2.2.1.2.1]⟩, some ⟨false, [.seq (.int .u32) 8 d.2.2.2.1.2.1]⟩, some ⟨false, [.seq (.int .u32) 8 y3]⟩]) k d.1.2.2.2.1 d.2.2.2.2.1.2.1) F (fun d K => by kernel_rfl)  (fun k d K => Eq.mp (by kernel_rfl) (L130_0_14g F k (f142_1 F)  (f130_0_l14 F) (G130_0_3 F F) (G130_0_14 F F) d K))
noncomputable def rest130 : Code := cR (cR code130)
theorem E130_0g (F : Nat) (c142_1 : Int → Int → (Int → Option Res) → Option Res) (l3 : List Int → List Int → List Int → List Int → List Int → (List Int → Option Res) → Nat → Int → List Int → Option Res) (l14 : List Int → List Int → List Int → (List Int → Option Res) → Nat → Int → List Int → Option Res) (d : sh130_0.den) (K : KF) : evC Try.prog (tab [(142, (mkS sh142_1 (fun d K => c142_1 d.1.1 d.1.2.1 (fun (y0 : Int) => K [.lf (.int .u32 y0)] [])) noS))]) 109 1 (ltab [(3, mkG sh130_0_l3 [2, 4, 5, 6, 7, 20] (outT [(.exit 0, [2, 4, 7])]) (fun d K => l3 d.2.1.2.1 d.2.2.1.2.1 d.2.2.2.1.2.1 d.2.2.2.2.1.2.1 d.2.2.2.2.2.1.2.1 (fun (y5 : List Int) => K (.exit 0) [.tv (.lf (.ptr 1 0)), .tv (.lf (.ptr 2 0)), .tv (.lf (.ptr 5 0))] [some ⟨d.2.1.1, [.seq (.int .u8) 0 d.2.1.2.1]⟩, some ⟨false, [.seq (.int .u32) 8 d.2.2.1.2.1]⟩, some ⟨false, [.seq (.int .u32) 8 d.2.2.2.1.2.1]⟩, some ⟨false, [.seq (.int .u32) 64 d.2.2.2.2.1.2.1]⟩, some ⟨false, [.seq (.int .u32) 64 d.2.2.2.2.2.1.2.1]⟩, some ⟨false, [.seq (.int .u32) 8 y5]⟩]) F d.1.2.2.2.2.2.1 d.2.2.2.2.2.2.1.2.1)), (14, mkG sh130_0_l14 [2, 4, 7, 96] (outT [(.exit 2, [4, 7])]) (fun d K => l14 d.2.1.2.1 d.2.2.1.2.1 d.2.2.2.1.2.1 (fun (y3 : List Int) => K (.exit 2) [.tv (.lf (.ptr 2 0)), .tv (.lf (.ptr 3 0))] [some ⟨d.2.1.1, [.seq (.int .u8) 0 d.2.1.2.1]⟩, some ⟨false, [.seq (.int .u32) 8 d.2.2.1.2.1]⟩, some ⟨false, [.seq (.int .u32) 8 d.2.2.2.1.2.1]⟩, some ⟨false, [.seq (.int .u32) 8 y3]⟩]) F d.1.2.2.2.1 d.2.2.2.2.1.2.1))]) rest130 (mkEnv 109 [2, 4, 5, 6, 7] [.tv (.lf (.ptr 1 0)), .tv (.lf (.ptr 2 0)), .tv (.lf (.ptr 3 0)), .tv (.lf (.ptr 4 0)), .tv (.lf (.ptr 5 0))]) (encH sh130_0.h d.2) (endK Try.prog 1 Try.f130.results.toList K) = (fun (a1 : List Int) (a2 : List Int) (a3 : List Int) (a4 : List Int) (a5 : List Int) (a6 : List Int) (K0 : (List Int → Option Res)) => l3 a1 a2 a3 a4 a5 (fun x14 => l14 a1 a2 a3 (fun x20 => K0 x20) F 0 x14) F 0 a6) d.2.1.2.1 d.2.2.1.2.1 d.2.2.2.1.2.1 d.2.2.2.2.1.2.1 d.2.2.2.2.2.1.2.1 d.2.2.2.2.2.2.1.2.1 (fun (y0 : List Int) => K [.agg [.seq (.int .u32) 8 y0]] [some ⟨d.2.1.1, [.seq (.int .u8) 0 d.2.1.2.1]⟩]) := by kernel_rfl
theorem E130_0 (F : Nat) (d : sh130_0.den) (K : KF) : evC Try.prog (T130_0 F) 109 1 (LT130_0 F) rest130 (mkEnv 109 [2, 4, 5, 6, 7] [.tv (.lf (.ptr 1 0)), .tv (.lf (.ptr 2 0)), .tv (.lf (.ptr 3 0)), .tv (.lf (.ptr 4 0)), .tv (.lf (.ptr 5 0))]) (encH sh130_0.h d.2) (endK Try.prog 1 Try.f130.results.toList K) = f130_0 F d.2.1.2.1 d.2.2.1.2.1 d.2.2.2.1.2.1 d.2.2.2.2.1.2.1 d.2.2.2.2.2.1.2.1 d.2.2.2.2.2.2.1.2.1 (fun (y0 : List Int) => K [.agg [.seq (.int .u32) 8 y0]] [some ⟨d.2.1.1, [.seq (.int .u8) 0 d.2.1.2.1]⟩]) := Eq.mp (by kernel_rfl) (E130_0g F (f142_1 F) (f130_0_l3 F) (f130_0_l14 F) d K)
theorem looped130 (F : Nat) : LoopsOK Try.prog (T130_0 F) 109 1 (LT130_0 F) (loopsOf code130) := by rw [loops130]; exact (loopsOK_cons (by kernel_rfl) (L130_0_3 F) (loopsOK_cons (by kernel_rfl) (L130_0_14 F) loopsOK_nil))
theorem tabled130 (F : Nat) : SoundT Try.prog (T130_0 F) := (tab_cons (S142_1_ok F _ (noS_sound enter142)) tab_nil)
end Go.Proofs.Ytillbabmlfjegaa.X
end

section
namespace Go.Proofs.Ytillbabmlfjegaa.X
open Go Go.Proofs.Ytillbabmlfjegaa.Ev Go.Proofs
set_option linter.unusedVariables false
/-! pentimentoref03.turn -/
noncomputable def f131_1 {β : Type} (F : Nat) (a1 : Int) (a2 : Int) (K0 : Int → Option β) : Option β := cond (decide (a2 < 0)) none (cond (decide (IntKind.u64.wrap (32 - a2) < 0)) none (K0 (ior .u32 (ishr .u32 a1 a2) (ishl .u32 a1 (IntKind.u64.wrap (32 - a2))))))
def sh131_1 : Sh := ⟨[.lf (.int .u32), .lf (.int .u64)], []⟩
noncomputable def S131_1 (F : Nat) (o : Summ) : Summ := mkS sh131_1 (fun d K => f131_1 F d.1.1 d.1.2.1 (fun (y0 : Int) => K [.lf (.int .u32 y0)] [])) o
noncomputable def code131 : Code := bodyOf Try.f131
theorem scopes131 : scopesOf code131 = [] := by kernel_rfl
theorem loops131 : loopsOf code131 = [] := by kernel_rfl
theorem enter131 : ∀ args w, (callFunc 131 args).run Try.prog w = .ok (.enter 131 args) w := enter_of (fn := Try.f131) (by kernel_rfl) (by kernel_rfl) (by kernel_rfl)
noncomputable def T131_1 (F : Nat) : FuncId → Option Summ := tab []
noncomputable def LT131_1 (F : Nat) : Nat → Option LoopS := ltab []
theorem E131_1g (F : Nat)    (d : sh131_1.den) (K : KF) : evBody Try.prog (tab []) 13 0 (ltab []) code131 Try.f131.results.toList (encT sh131_1.vs d.1) (encH sh131_1.h d.2) K = (fun (a1 : Int) (a2 : Int) (K0 : (Int → Option Res)) => cond (decide (a2 < 0)) none (cond (decide (IntKind.u64.wrap (32 - a2) < 0)) none (K0 (ior .u32 (ishr .u32 a1 a2) (ishl .u32 a1 (IntKind.u64.wrap (32 - a2))))))) d.1.1 d.1.2.1 (fun (y0 : Int) => K [.lf (.int .u32 y0)] []) := by kernel_rfl
theorem E131_1 (F : Nat) (d : sh131_1.den) (K : KF) : evBody Try.prog (T131_1 F) 13 0 (LT131_1 F) code131 Try.f131.results.toList (encT sh131_1.vs d.1) (encH sh131_1.h d.2) K = f131_1 F d.1.1 d.1.2.1 (fun (y0 : Int) => K [.lf (.int .u32 y0)] []) := Eq.mp (by kernel_rfl) (E131_1g F    d K)
theorem S131_1_ok (F : Nat) (o : Summ) (ho : SoundFn Try.prog 131 o) : SoundFn Try.prog 131 (S131_1 F o) :=
  soundFn_of (fn := Try.f131) (c := code131) (by kernel_rfl) tab_nil (by kernel_rfl) (by kernel_rfl) ho (by rw [loops131]; exact loopsOK_nil) (by rw [scopes131]; exact scopesOK_nil) (E131_1 F)
end Go.Proofs.Ytillbabmlfjegaa.X
end

section
namespace Go.Proofs.Ytillbabmlfjegaa.X
open Go Go.Proofs.Ytillbabmlfjegaa.Ev Go.Proofs
set_option linter.unusedVariables false
/-! pentimentoref03.block -/
noncomputable def f120_1_l3 {β : Type} (F : Nat) (v2 : List Int) (v3 : List Int) (v4 : List Int) (v5 : List Int) (K0 : List Int → Option β) : Nat → Int → List Int → Option β
  | 0, _, _ => none
  | k + 1, v1, v6 => cond (decide (v1 < 16)) (cond (decide ((0 : Int) ≤ IntKind.i64.wrap (4 * v1) ∧ IntKind.i64.wrap (4 * v1) < ((v3.length : Nat) : Int))) (cond (decide (0 + ((IntKind.i64.wrap (4 * v1)).toNat) < v3.length)) (cond (decide ((0 : Int) ≤ IntKind.i64.wrap ((IntKind.i64.wrap (4 * v1)) + 1) ∧ IntKind.i64.wrap ((IntKind.i64.wrap (4 * v1)) + 1) < ((v3.length : Nat) : Int))) (cond (decide (0 + ((IntKind.i64.wrap ((IntKind.i64.wrap (4 * v1)) + 1)).toNat) < v3.length)) (cond (decide ((0 : Int) ≤ IntKind.i64.wrap ((IntKind.i64.wrap (4 * v1)) + 2) ∧ IntKind.i64.wrap ((IntKind.i64.wrap (4 * v1)) + 2) < ((v3.length : Nat) : Int))) (cond (decide (0 + ((IntKind.i64.wrap ((IntKind.i64.wrap (4 * v1)) + 2)).toNat) < v3.length)) (cond (decide ((0 : Int) ≤ IntKind.i64.wrap ((IntKind.i64.wrap (4 * v1)) + 3) ∧ IntKind.i64.wrap ((IntKind.i64.wrap (4 * v1)) + 3) < ((v3.length : Nat) : Int))) (cond (decide (0 + ((IntKind.i64.wrap ((IntKind.i64.wrap (4 * v1)) + 3)).toNat) < v3.length)) (cond (decide ((0 : Int) ≤ v1 ∧ v1 < 64)) (cond (decide (v1.toNat < v6.length)) (f120_1_l3 F v2 v3 v4 v5 K0 k (IntKind.i64.wrap (v1 + 1)) (v6.set v1.toNat (ior .u32 (ior .u32 (ior .u32 (ishl .u32 (IntKind.u32.wrap (v3.getD (0 + ((IntKind.i64.wrap (4 * v1)).toNat)) 0)) 24) (ishl .u32 (IntKind.u32.wrap (v3.getD (0 + ((IntKind.i64.wrap ((IntKind.i64.wrap (4 * v1)) + 1)).toNat)) 0)) 16)) (ishl .u32 (IntKind.u32.wrap (v3.getD (0 + ((IntKind.i64.wrap ((IntKind.i64.wrap (4 * v1)) + 2)).toNat)) 0)) 8)) (IntKind.u32.wrap (v3.getD (0 + ((IntKind.i64.wrap ((IntKind.i64.wrap (4 * v1)) + 3)).toNat)) 0))))) none) none) none) none) none) none) none) none) none) none) (K0 v6)
noncomputable def f120_1_l7 {β : Type} (F : Nat) (v9 : List Int) (v10 : List Int) (v11 : List Int) (v12 : List Int) (K0 : List Int → Option β) : Nat → Int → List Int → Option β
  | 0, _, _ => none
  | k + 1, v8, v13 => cond (decide (v8 < 64)) (cond (decide ((0 : Int) ≤ IntKind.i64.wrap (v8 - 15) ∧ IntKind.i64.wrap (v8 - 15) < 64)) (cond (decide ((IntKind.i64.wrap (v8 - 15)).toNat < v13.length)) (cond (decide ((0 : Int) ≤ IntKind.i64.wrap (v8 - 2) ∧ IntKind.i64.wrap (v8 - 2) < 64)) (cond (decide ((IntKind.i64.wrap (v8 - 2)).toNat < v13.length)) (cond (decide ((0 : Int) ≤ IntKind.i64.wrap (v8 - 16) ∧ IntKind.i64.wrap (v8 - 16) < 64)) (cond (decide ((IntKind.i64.wrap (v8 - 16)).toNat < v13.length)) (cond (decide ((0 : Int) ≤ IntKind.i64.wrap (v8 - 7) ∧ IntKind.i64.wrap (v8 - 7) < 64)) (cond (decide ((IntKind.i64.wrap (v8 - 7)).toNat < v13.length)) (f131_1 F (v13.getD ((IntKind.i64.wrap (v8 - 15)).toNat) 0) 7 (fun x14 => f131_1 F (v13.getD ((IntKind.i64.wrap (v8 - 15)).toNat) 0) 18 (fun x15 => f131_1 F (v13.getD ((IntKind.i64.wrap (v8 - 2)).toNat) 0) 17 (fun x16 => f131_1 F (v13.getD ((IntKind.i64.wrap (v8 - 2)).toNat) 0) 19 (fun x17 => cond (decide ((0 : Int) ≤ v8 ∧ v8 < 64)) (cond (decide (v8.toNat < v13.length)) (f120_1_l7 F v9 v10 v11 v12 K0 k (IntKind.i64.wrap (v8 + 1)) (v13.set v8.toNat (IntKind.u32.wrap ((IntKind.u32.wrap ((IntKind.u32.wrap ((v13.getD ((IntKind.i64.wrap (v8 - 16)).toNat) 0) + (ixor .u32 (ixor .u32 x14 x15) (ishr .u32 (v13.getD ((IntKind.i64.wrap (v8 - 15)).toNat) 0) 3)))) + (v13.getD ((IntKind.i64.wrap (v8 - 7)).toNat) 0))) + (ixor .u32 (ixor .u32 x16 x17) (ishr .u32 (v13.getD ((IntKind.i64.wrap (v8 - 2)).toNat) 0) 10)))))) none) none) ) ) ) ) none) none) none) none) none) none) none) none) (K0 v13)
noncomputable def f120_1_l21 {β : Type} (F : Nat) (v28 : List Int) (v29 : List Int) (v30 : List Int) (v31 : List Int) (v32 : List Int) (K0 : Int → Int → Int → Int → Int → Int → Int → Int → Option β) : Nat → Int → Int → Int → Int → Int → Int → Int → Int → Int → Option β
  | 0, _, _, _, _, _, _, _, _, _ => none
  | k + 1, v19, v20, v21, v22, v23, v24, v25, v26, v27 => cond (decide (v27 < 64)) (cond (decide ((0 : Int) ≤ v27 ∧ v27 < ((v28.length : Nat) : Int))) (cond (decide (0 + v27.toNat < v28.length)) (cond (decide ((0 : Int) ≤ v27 ∧ v27 < 64)) (cond (decide (v27.toNat < v32.length)) (f131_1 F v23 6 (fun x33 => f131_1 F v23 11 (fun x34 => f131_1 F v23 25 (fun x35 => f131_1 F v19 2 (fun x36 => f131_1 F v19 13 (fun x37 => f131_1 F v19 22 (fun x38 => f120_1_l21 F v28 v29 v30 v31 v32 K0 k (IntKind.u32.wrap ((IntKind.u32.wrap ((IntKind.u32.wrap ((IntKind.u32.wrap ((IntKind.u32.wrap (v26 + (ixor .u32 (ixor .u32 x33 x34) x35))) + (ixor .u32 (iand .u32 v23 v24) (iand .u32 (ixor .u32 4294967295 v23) v25)))) + (v28.getD (0 + v27.toNat) 0))) + (v32.getD v27.toNat 0))) + (IntKind.u32.wrap ((ixor .u32 (ixor .u32 x36 x37) x38) + (ixor .u32 (ixor .u32 (iand .u32 v19 v20) (iand .u32 v19 v21)) (iand .u32 v20 v21)))))) v19 v20 v21 (IntKind.u32.wrap (v22 + (IntKind.u32.wrap ((IntKind.u32.wrap ((IntKind.u32.wrap ((IntKind.u32.wrap (v26 + (ixor .u32 (ixor .u32 x33 x34) x35))) + (ixor .u32 (iand .u32 v23 v24) (iand .u32 (ixor .u32 4294967295 v23) v25)))) + (v28.getD (0 + v27.toNat) 0))) + (v32.getD v27.toNat 0))))) v23 v24 v25 (IntKind.i64.wrap (v27 + 1))) ) ) ) ) ) ) none) none) none) none) (K0 v19 v20 v21 v22 v23 v24 v25 v26)
noncomputable def f120_1 {β : Type} (F : Nat) (a1 : List Int) (a2 : List Int) (a3 : List Int) (K0 : List Int → Option β) : Option β := f120_1_l3 F a2 a3 a1 [0, 0, 0, 0, 0, 0, 0, 0] (fun x7 => f120_1_l7 F a2 a3 a1 [0, 0, 0, 0, 0, 0, 0, 0] (fun x18 => cond (decide (0 < a1.length)) (cond (decide (1 < a1.length)) (cond (decide (2 < a1.length)) (cond (decide (3 < a1.length)) (cond (decide (4 < a1.length)) (cond (decide (5 < a1.length)) (cond (decide (6 < a1.length)) (cond (decide (7 < a1.length)) (f120_1_l21 F a2 a3 a1 [0, 0, 0, 0, 0, 0, 0, 0] x18 (fun x39 x40 x41 x42 x43 x44 x45 x46 => cond (decide (0 < a1.length)) (cond (decide (1 < a1.length)) (cond (decide (2 < a1.length)) (cond (decide (3 < a1.length)) (cond (decide (4 < a1.length)) (cond (decide (5 < a1.length)) (cond (decide (6 < a1.length)) (cond (decide (7 < a1.length)) (K0 [IntKind.u32.wrap ((a1.getD 0 0) + x39), IntKind.u32.wrap ((a1.getD 1 0) + x40), IntKind.u32.wrap ((a1.getD 2 0) + x41), IntKind.u32.wrap ((a1.getD 3 0) + x42), IntKind.u32.wrap ((a1.getD 4 0) + x43), IntKind.u32.wrap ((a1.getD 5 0) + x44), IntKind.u32.wrap ((a1.getD 6 0) + x45), IntKind.u32.wrap ((a1.getD 7 0) + x46)]) none) none) none) none) none) none) none) none) F (a1.getD 0 0) (a1.getD 1 0) (a1.getD 2 0) (a1.getD 3 0) (a1.getD 4 0) (a1.getD 5 0) (a1.getD 6 0) (a1.getD 7 0) 0) none) none) none) none) none) none) none) none) F 16 x7) F 0 [0, 0, 0, 0, 0, 0, 0, 0, 0, 0, 0, 0, 0, 0, 0, 0, 0, 0, 0, 0, 0, 0, 0, 0, 0, 0, 0, 0, 0, 0, 0, 0, 0, 0, 0, 0, 0, 0, 0, 0, 0, 0, 0, 0, 0, 0, 0, 0, 0, 0, 0, 0, 0, 0, 0, 0, 0, 0, 0, 0, 0, 0, 0, 0]
def sh120_1 : Sh := ⟨[.agg [.seq (.int .u32) 8], .lf (.full 0), .lf (.full 1)], [some ⟨none, [.seq (.int .u32) 0]⟩, some ⟨none, [.seq (.int .u8) 0]⟩]⟩
noncomputable def S120_1 (F : Nat) (o : Summ) : Summ := mkS sh120_1 (fun d K => f120_1 F d.1.1.1 d.2.1.2.1 d.2.2.1.2.1 (fun (y0 : List Int) => K [.agg [.seq (.int .u32) 8 y0]] [some ⟨d.2.1.1, [.seq (.int .u32) 0 d.2.1.2.1]⟩, some ⟨d.2.2.1.1, [.seq (.int .u8) 0 d.2.2.1.2.1]⟩])) o
noncomputable def code120 : Code := bodyOf Try.f120
noncomputable def b120_0 : Code := cB (cB (cR (cL (cR (cR (code120))))))
noncomputable def b120_1 : Code := cB (cB (cR (cL (cR (cR (cR (code120)))))))
noncomputable def b120_2 : Code := cB (cB (cR (cL (cR (cR (cR (cR (cR (cR (cR (cR (cR (cR (cR (cR (code120))))))))))))))))
theorem scopes120 : scopesOf code120 = [] := by kernel_rfl
theorem loops120 : loopsOf code120 = [b120_0, b120_1, b120_2] := by kernel_rfl
theorem enter120 : ∀ args w, (callFunc 120 args).run Try.prog w = .ok (.enter 120 args) w := enter_of (fn := Try.f120) (by kernel_rfl) (by kernel_rfl) (by kernel_rfl)
noncomputable def T120_1 (F : Nat) : FuncId → Option Summ := tab [(131, (S131_1 F noS))]
def sh120_1_l3 : Sh := ⟨[.lf (.full 0), .lf (.full 1), .lf (.ptr 2 0), .lf (.ptr 3 0), .lf (.ptr 4 0), .lf (.int .i64)], [some ⟨none, [.seq (.int .u32) 0]⟩, some ⟨none, [.seq (.int .u8) 0]⟩, some ⟨some false, [.seq (.int .u32) 8]⟩, some ⟨some false, [.seq (.int .u32) 8]⟩, some ⟨some false, [.seq (.int .u32) 64]⟩]⟩
noncomputable def G120_1_3 (F k : Nat) : LoopS := mkG sh120_1_l3 [1, 2, 3, 6, 7, 8] (outT [(.exit 0, [1, 3, 6, 7])]) (fun d K => f120_1_l3 F d.2.1.2.1 d.2.2.1.2.1 d.2.2.2.1.2.1 d.2.2.2.2.1.2.1 (fun (y4 : List Int) => K (.exit 0) [.tv (.lf (.full 0)), .tv (.lf (.ptr 2 0)), .tv (.lf (.ptr 3 0)), .tv (.lf (.ptr 4 0))] [some ⟨d.2.1.1, [.seq (.int .u32) 0 d.2.1.2.1]⟩, some ⟨d.2.2.1.1, [.seq (.int .u8) 0 d.2.2.1.2.1]⟩, some ⟨false, [.seq (.int .u32) 8 d.2.2.2.1.2.1]⟩, some ⟨false, [.seq (.int .u32) 8 d.2.2.2.2.1.2.1]⟩, some ⟨false, [.seq (.int .u32) 64 y4]⟩]) k d.1.2.2.2.2.2.1 d.2.2.2.2.2.1.2.1)
def sh120_1_l7 : Sh := ⟨[.lf (.full 0), .lf (.ptr 2 0), .lf (.ptr 3 0), .lf (.ptr 4 0), .lf (.int .i64)], [some ⟨none, [.seq (.int .u32) 0]⟩, some ⟨none, [.seq (.int .u8) 0]⟩, some ⟨some false, [.seq (.int .u32) 8]⟩, some ⟨some false, [.seq (.int .u32) 8]⟩, some ⟨some false, [.seq (.int .u32) 64]⟩]⟩
noncomputable def G120_1_7 (F k : Nat) : LoopS := mkG sh120_1_l7 [1, 3, 6, 7, 9] (outT [(.exit 2, [1, 3, 6, 7])]) (fun d K => f120_1_l7 F d.2.1.2.1 d.2.2.1.2.1 d.2.2.2.1.2.1 d.2.2.2.2.1.2.1 (fun (y4 : List Int) => K (.exit 2) [.tv (.lf (.full 0)), .tv (.lf (.ptr 2 0)), .tv (.lf (.ptr 3 0)), .tv (.lf (.ptr 4 0))] [some ⟨d.2.1.1, [.seq (.int .u32) 0 d.2.1.2.1]⟩, some ⟨d.2.2.1.1, [.seq (.int .u8) 0 d.2.2.1.2.1]⟩, some ⟨false, [.seq (.int .u32) 8 d.2.2.2.1.2.1]⟩, some ⟨false, [.seq (.int .u32) 8 d.2.2.2.2.1.2.1]⟩, some ⟨false, [.seq (.int .u32) 64 y4]⟩]) k d.1.2.2.2.2.1 d.2.2.2.2.2.1.2.1)
def sh120_1_l21 : Sh := ⟨[.lf (.full 0), .lf (.ptr 2 0), .lf (.ptr 3 0), .lf (.ptr 4 0), .lf (.int .u32), .lf (.int .u32), .lf (.int .u32), .lf (.int .u32), .lf (.int .u32), .lf (.int .u32), .lf (.int .u32), .lf (.int .u32), .lf (.int .i64)], [some ⟨none, [.seq (.int .u32) 0]⟩, some ⟨none, [.seq (.int .u8) 0]⟩, some ⟨some false, [.seq (.int .u32) 8]⟩, some ⟨some false, [.seq (.int .u32) 8]⟩, some ⟨some false, [.seq (.int .u32) 64]⟩]⟩
noncomputable def G120_1_21 (F k : Nat) : LoopS := mkG sh120_1_l21 [1, 3, 6, 7, 12, 13, 14, 15, 16, 17, 18, 19, 20] (outT [(.exit 4, [3, 6, 12, 13, 14, 15, 16, 17, 18, 19])]) (fun d K => f120_1_l21 F d.2.1.2.1 d.2.2.1.2.1 d.2.2.2.1.2.1 d.2.2.2.2.1.2.1 d.2.2.2.2.2.1.2.1 (fun (y0 : Int) (y1 : Int) (y2 : Int) (y3 : Int) (y4 : Int) (y5 : Int) (y6 : Int) (y7 : Int) => K (.exit 4) [.tv (.lf (.ptr 2 0)), .tv (.lf (.ptr 3 0)), .tv (.lf (.int .u32 y0)), .tv (.lf (.int .u32 y1)), .tv (.lf (.int .u32 y2)), .tv (.lf (.int .u32 y3)), .tv (.lf (.int .u32 y4)), .tv (.lf (.int .u32 y5)), .tv (.lf (.int .u32 y6)), .tv (.lf (.int .u32 y7))] [some ⟨d.2.1.1, [.seq (.int .u32) 0 d.2.1.2.1]⟩, some ⟨d.2.2.1.1, [.seq (.int .u8) 0 d.2.2.1.2.1]⟩, some ⟨false, [.seq (.int .u32) 8 d.2.2.2.1.2.1]⟩, some ⟨false, [.seq (.int .u32) 8 d.2.2.2.2.1.2.1]⟩, some ⟨false, [.seq (.int .u32) 64 d.2.2.2.2.2.1.2.1]⟩]) k d.1.2.2.2.2.1 d.1.2.2.2.2.2.1 d.1.2.2.2.2.2.2.1 d.1.2.2.2.2.2.2.2.1 d.1.2.2.2.2.2.2.2.2.1 d.1.2.2.2.2.2.2.2.2.2.1 d.1.2.2.2.2.2.2.2.2.2.2.1 d.1.2.2.2.2.2.2.2.2.2.2.2.1 d.1.2.2.2.2.2.2.2.2.2.2.2.2.1)
noncomputable def LT120_1 (F : Nat) : Nat → Option LoopS := ltab [(3, G120_1_3 F F), (7, G120_1_7 F F), (21, G120_1_21 F F)]
theorem L120_1_3g (F k : Nat) (c131_1 : Int → Int → (Int → Option Res) → Option Res)  (l3 : List Int → List Int → List Int → List Int → (List Int → Option Res) → Nat → Int → List Int → Option Res) (X3 : LoopS) (X7 : LoopS) (X21 : LoopS) (d : sh120_1_l3.den) (K : KL) : (fun (v2 : List Int) (v3 : List Int) (v4 : List Int) (v5 : List Int) (K0 : (List Int → Option Res)) (k : Nat) (v1 : Int) (v6 : List Int) => cond (decide (v1 < 16)) (cond (decide ((0 : Int) ≤ IntKind.i64.wrap (4 * v1) ∧ IntKind.i64.wrap (4 * v1) < ((v3.length : Nat) : Int))) (cond (decide (0 + ((IntKind.i64.wrap (4 * v1)).toNat) < v3.length)) (cond (decide ((0 : Int) ≤ IntKind.i64.wrap ((IntKind.i64.wrap (4 * v1)) + 1) ∧ IntKind.i64.wrap ((IntKind.i64.wrap (4 * v1)) + 1) < ((v3.length : Nat) : Int))) (cond (decide (0 + ((IntKind.i64.wrap ((IntKind.i64.wrap (4 * v1)) + 1)).toNat) < v3.length)) (cond (decide ((0 : Int) ≤ IntKind.i64.wrap ((IntKind.i64.wrap (4 * v1)) + 2) ∧ IntKind.i64.wrap ((IntKind.i64.wrap (4 * v1)) + 2) < ((v3.length : Nat) : Int))) (cond (decide (0 + ((IntKind.i64.wrap ((IntKind.i64.wrap (4 * v1)) + 2)).toNat) < v3.length)) (cond (decide ((0 : Int) ≤ IntKind.i64.wrap ((IntKind.i64.wrap (4 * v1)) + 3) ∧ IntKind.i64.wrap ((IntKind.i64.wrap (4 * v1)) + 3) < ((v3.length : Nat) : Int))) (cond (decide (0 + ((IntKind.i64.wrap ((IntKind.i64.wrap (4 * v1)) + 3)).toNat) < v3.length)) (cond (decide ((0 : Int) ≤ v1 ∧ v1 < 64)) (cond (decide (v1.toNat < v6.length)) (l3 v2 v3 v4 v5 K0 k (IntKind.i64.wrap (v1 + 1)) (v6.set v1.toNat (ior .u32 (ior .u32 (ior .u32 (ishl .u32 (IntKind.u32.wrap (v3.getD (0 + ((IntKind.i64.wrap (4 * v1)).toNat)) 0)) 24) (ishl .u32 (IntKind.u32.wrap (v3.getD (0 + ((IntKind.i64.wrap ((IntKind.i64.wrap (4 * v1)) + 1)).toNat)) 0)) 16)) (ishl .u32 (IntKind.u32.wrap (v3.getD (0 + ((IntKind.i64.wrap ((IntKind.i64.wrap (4 * v1)) + 2)).toNat)) 0)) 8)) (IntKind.u32.wrap (v3.getD (0 + ((IntKind.i64.wrap ((IntKind.i64.wrap (4 * v1)) + 3)).toNat)) 0))))) none) none) none) none) none) none) none) none) none) none) (K0 v6)) d.2.1.2.1 d.2.2.1.2.1 d.2.2.2.1.2.1 d.2.2.2.2.1.2.1 (fun (y4 : List Int) => K (.exit 0) [.tv (.lf (.full 0)), .tv (.lf (.ptr 2 0)), .tv (.lf (.ptr 3 0)), .tv (.lf (.ptr 4 0))] [some ⟨d.2.1.1, [.seq (.int .u32) 0 d.2.1.2.1]⟩, some ⟨d.2.2.1.1, [.seq (.int .u8) 0 d.2.2.1.2.1]⟩, some ⟨false, [.seq (.int .u32) 8 d.2.2.2.1.2.1]⟩, some ⟨false, [.seq (.int .u32) 8 d.2.2.2.2.1.2.1]⟩, some ⟨false, [.seq (.int .u32) 64 y4]⟩]) k d.1.2.2.2.2.2.1 d.2.2.2.2.2.1.2.1 = roundOf Try.prog (tab [(131, (mkS sh131_1 (fun d K => c131_1 d.1.1 d.1.2.1 (fun (y0 : Int) => K [.lf (.int .u32 y0)] [])) noS))]) 217 2 (ltab [(3, X3), (7, X7), (21, X21)]) (mkG sh120_1_l3 [1, 2, 3, 6, 7, 8] (outT [(.exit 0, [1, 3, 6, 7])]) (fun d K => l3 d.2.1.2.1 d.2.2.1.2.1 d.2.2.2.1.2.1 d.2.2.2.2.1.2.1 (fun (y4 : List Int) => K (.exit 0) [.tv (.lf (.full 0)), .tv (.lf (.ptr 2 0)), .tv (.lf (.ptr 3 0)), .tv (.lf (.ptr 4 0))] [some ⟨d.2.1.1, [.seq (.int .u32) 0 d.2.1.2.1]⟩, some ⟨d.2.2.1.1, [.seq (.int .u8) 0 d.2.2.1.2.1]⟩, some ⟨false, [.seq (.int .u32) 8 d.2.2.2.1.2.1]⟩, some ⟨false, [.seq (.int .u32) 8 d.2.2.2.2.1.2.1]⟩, some ⟨false, [.seq (.int .u32) 64 y4]⟩]) k d.1.2.2.2.2.2.1 d.2.2.2.2.2.1.2.1)) b120_0 (encT sh120_1_l3.vs d.1) (encH sh120_1_l3.h d.2) K := by kernel_rfl
theorem L120_1_3 (F : Nat) : LoopOK Try.prog (T120_1 F) 217 2 (LT120_1 F) (G120_1_3 F F) b120_0 :=
  loopOK_of (s := sh120_1_l3) (live := [1, 2, 3, 6, 7, 8]) (out := (outT [(.exit 0, [1, 3, 6, 7])])) (fun k d K => f120_1_l3 F d.2.1.2.1 d.2.2.1.2.1 d.2.2.2.1.2.1 d.2.2.2.2.1.2.1 (fun (y4 : List Int) => K (.exit 0) [.tv (.lf (.full 0)), .tv (.lf (.ptr 2 0)), .tv (.lf (.ptr 3 0)), .tv (.lf (.ptr 4 0))] [some ⟨d.2.1.1, [.seq (.int .u32) 0 d.2.1.2.1]⟩, some ⟨d.2.2.1.1, [.seq (.int .u8) 0 d.2.2.1.2.1]⟩, some ⟨false, [.seq (.int .u32) 8 d.2.2.2.1.2.1]⟩, some ⟨false, [.seq (.int .u32) 8 d.2.2.2.2.1.2.1]⟩, some ⟨false, [.seq (.int .u32) 64 y4]⟩]) k d.1.2.2.2.2.2.1 d.2.2.2.2.2.1.2.1) F (fun d K => by kernel_rfl)  (fun k d K => Eq.mp (by kernel_rfl) (L120_1_3g F k (f131_1 F)  (f120_1_l3 F) (G120_1_3 F F) (G120_1_7 F F) (G120_1_21 F F) d K))
theorem L120_1_7g (F k : Nat) (c131_1 : Int → Int → (Int → Option Res) → Option Res)  (l7 : List Int → List Int → List Int → List Int → (List Int → Option Res) → Nat → Int → List Int → Option Res) (X3 : LoopS) (X7 : LoopS) (X21 : LoopS) (d : sh120_1_l7.den) (K : KL) : (fun (v9 : List Int) (v10 : List Int) (v11 : List Int) (v12 : List Int) (K0 : (List Int → Option Res)) (k : Nat) (v8 : Int) (v13 : List Int) => cond (decide (v8 < 64)) (cond (decide ((0 : Int) ≤ IntKind.i64.wrap (v8 - 15) ∧ IntKind.i64.wrap (v8 - 15) < 64)) (cond (decide ((IntKind.i64.wrap (v8 - 15)).toNat < v13.length)) (cond (decide ((0 : Int) ≤ IntKind.i64.wrap (v8 - 2) ∧ IntKind.i64.wrap (v8 - 2) < 64)) (cond (decide ((IntKind.i64.wrap (v8 - 2)).toNat < v13.length)) (cond (decide ((0 : Int) ≤ IntKind.i64.wrap (v8 - 16) ∧ IntKind.i64.wrap (v8 - 16) < 64)) (cond (decide ((IntKind.i64.wrap (v8 - 16)).toNat < v13.length)) (cond (decide ((0 : Int) ≤ IntKind.i64.wrap (v8 - 7) ∧ IntKind.i64.wrap (v8 - 7) < 64)) (cond (decide ((IntKind.i64.wrap (v8 - 7)).toNat < v13.length)) (c131_1 (v13.getD ((IntKind.i64.wrap (v8 - 15)).toNat) 0) 7 (fun x14 => c131_1 (v13.getD ((IntKind.i64.wrap (v8 - 15)).toNat) 0) 18 (fun x15 => c131_1 (v13.getD ((IntKind.i64.wrap (v8 - 2)).toNat) 0) 17 (fun x16 => c131_1 (v13.getD ((IntKind.i64.wrap (v8 - 2)).toNat) 0) 19 (fun x17 => cond (decide ((0 : Int) ≤ v8 ∧ v8 < 64)) (cond (decide (v8.toNat < v13.length)) (l7 v9 v10 v11 v12 K0 k (IntKind.i64.wrap (v8 + 1)) (v13.set v8.toNat (IntKind.u32.wrap ((IntKind.u32.wrap ((IntKind.u32.wrap ((v13.getD ((IntKind.i64.wrap (v8 - 16)).toNat) 0) + (ixor .u32 (ixor .u32 x14 x15) (ishr .u32 (v13.getD ((IntKind.i64.wrap (v8 - 15)).toNat) 0) 3)))) + (v13.getD ((IntKind.i64.wrap (v8 - 7)).toNat) 0))) + (ixor .u32 (ixor .u32 x16 x17) (ishr .u32 (v13.getD ((IntKind.i64.wrap (v8 - 2)).toNat) 0) 10)))))) none) none) ) ) ) ) none) none) none) none) none) none) none) none) (K0 v13)) d.2.1.2.1 d.2.2.1.2.1 d.2.2.2.1.2.1 d.2.2.2.2.1.2.1 (fun (y4 : List Int) => K (.exit 2) [.tv (.lf (.full 0)), .tv (.lf (.ptr 2 0)), .tv (.lf (.ptr 3 0)), .tv (.lf (.ptr 4 0))] [some ⟨d.2.1.1, [.seq (.int .u32) 0 d.2.1.2.1]⟩, some ⟨d.2.2.1.1, [.seq (.int .u8) 0 d.2.2.1.2.1]⟩, some ⟨false, [.seq (.int .u32) 8 d.2.2.2.1.2.1]⟩, some ⟨false, [.seq (.int .u32) 8 d.2.2.2.2.1.2.1]⟩, some ⟨false, [.seq (.int .u32) 64 y4]⟩]) k d.1.2.2.2.2.1 d.2.2.2.2.2.1.2.1 = roundOf Try.prog (tab [(131, (mkS sh131_1 (fun d K => c131_1 d.1.1 d.1.2.1 (fun (y0 : Int) => K [.lf (.int .u32 y0)] [])) noS))]) 217 2 (ltab [(3, X3), (7, X7), (21, X21)]) (mkG sh120_1_l7 [1, 3, 6, 7, 9] (outT [(.exit 2, [1, 3, 6, 7])]) (fun d K => l7 d.2.1.2.1 d.2.2.1.2.1 d.2.2.2.1.2.1 d.2.2.2.2.1.2.1 (fun (y4 : List Int) => K (.exit 2) [.tv (.lf (.full 0)), .tv (.lf (.ptr 2 0)), .tv (.lf (.ptr 3 0)), .tv (.lf (.ptr 4 0))] [some ⟨d.2.1.1, [.seq (.int .u32) 0 d.2.1.2.1]⟩, some ⟨d.2.2.1.1, [.seq (.int .u8) 0 d.2.2.1.2.1]⟩, some ⟨false, [.seq (.int .u32) 8 d.2.2.2.1.2.1]⟩, some ⟨false, [.seq (.int .u32) 8 d.2.2.2.2.1.2.1]⟩, some ⟨false, [.seq (.int .u32) 64 y4]⟩]) k d.1.2.2.2.2.1 d.2.2.2.2.2.1.2.1)) b120_1 (encT sh120_1_l7.vs d.1) (encH sh120_1_l7.h d.2) K := by kernel_rfl
theorem L120_1_7 (F : Nat) : LoopOK Try.prog (T120_1 F) 217 2 (LT120_1 F) (G120_1_7 F F) b120_1 :=
  loopOK_of (s := sh120_1_l7) (live := [1, 3, 6, 7, 9]) (out := (outT [(.exit 2, [1, 3, 6, 7])])) (fun k d K => f120_1_l7 F d.2.1.2.1 d.2.2.1.2.1 d.2.2.2.1.2.1 d.2.2.2.2.1.2.1 (fun (y4 : List Int) => K (.exit 2) [.tv (.lf (.full 0)), .tv (.lf (.ptr 2 0)), .tv (.lf (.ptr 3 0)), .tv (.lf (.ptr 4 0))] [some ⟨d.2.1.1, [.seq (.int .u32) 0 d.2.1.2.1]⟩, some ⟨d.2.2.1.1, [.seq (.int .u8) 0 d.2.2.1.2.1]⟩, some ⟨false, [.seq (.int .u32) 8 d.2.2.2.1.2.1]⟩, some ⟨false, [.seq (.int .u32) 8 d.2.2.2.2.1.2.1]⟩, some ⟨false, [.seq (.int .u32) 64 y4]⟩]) k d.1.2.2.2.2.1 d.2.2.2.2.2.1.2.1) F (fun d K => by kernel_rfl)  (fun k d K => Eq.mp (by kernel_rfl) (L120_1_7g F k (f131_1 F)  (f120_1_l7 F) (G120_1_3 F F) (G120_1_7 F F) (G120_1_21 F F) d K))
theorem L120_1_21g (F k : Nat) (c131_1 : Int → Int → (Int → Option Res) → Option Res)  (l21 : List Int → List Int → List Int → List Int → List Int → (Int → Int → Int → Int → Int → Int → Int → Int → Option Res) → Nat → Int → Int → Int → Int → Int → Int → Int → Int → Int → Option Res) (X3 : LoopS) (X7 : LoopS) (X21 : LoopS) (d : sh120_1_l21.den) (K : KL) : (fun (v28 : List Int) (v29 : List Int) (v30 : List Int) (v31 : List Int) (v32 : List Int) (K0 : (Int → Int → Int → Int → Int → Int → Int → Int → Option Res)) (k : Nat) (v19 : Int) (v20 : Int) (v21 : Int) (v22 : Int) (v23 : Int) (v24 : Int) (v25 : Int) (v26 : Int) (v27 : Int) => cond (decide (v27 < 64)) (cond (decide ((0 : Int) ≤ v27 ∧ v27 < ((v28.length : Nat) : Int))) (cond (decide (0 + v27.toNat < v28.length)) (cond (decide ((0 : Int) ≤ v27 ∧ v27 < 64)) (cond (decide (v27.toNat < v32.length)) (c131_1 v23 6 (fun x33 => c131_1 v23 11 (fun x34 => c131_1 v23 25 (fun x35 => c131_1 v19 2 (fun x36 => c131_1 v19 13 (fun x37 => c131_1 v19 22 (fun x38 => l21 v28 v29 v30 v31 v32 K0 k (IntKind.u32.wrap ((IntKind.u32.wrap ((IntKind.u32.wrap ((IntKind.u32.wrap ((IntKind.u32.wrap (v26 + (ixor .u32 (ixor .u32 x33 x34) x35))) + (ixor .u32 (iand .u32 v23 v24) (iand .u32 (ixor .u32 4294967295 v23) v25)))) + (v28.getD (0 + v27.toNat) 0))) + (v32.getD v27.toNat 0))) + (IntKind.u32.wrap ((ixor .u32 (ixor .u32 x36 x37) x38) + (ixor .u32 (ixor .u32 (iand .u32 v19 v20) (iand .u32 v19 v21)) (iand .u32 v20 v21)))))) v19 v20 v21 (IntKind.u32.wrap (v22 + (IntKind.u32.wrap ((IntKind.u32.wrap ((IntKind.u32.wrap ((IntKind.u32.wrap (v26 + (ixor .u32 (ixor .u32 x33 x34) x35))) + (ixor .u32 (iand .u32 v23 v24) (iand .u32 (ixor .u32 4294967295 v23) v25)))) + (v28.getD (0 + v27.toNat) 0))) + (v32.getD v27.toNat 0))))) v23 v24 v25 (IntKind.i64.wrap (v27 + 1))) ) ) ) ) ) ) none) none) none) none) (K0 v19 v20 v21 v22 v23 v24 v25 v26)) d.2.1.2.1 d.2.2.1.2.1 d.2.2.2.1.2.1 d.2.2.2.2.1.2.1 d.2.2.2.2.2.1.2.1 (fun (y0 : Int) (y1 : Int) (y2 : Int) (y3 : Int) (y4 : Int) (y5 : Int) (y6 : Int) (y7 : Int) => K (.exit 4) [.tv (.lf (.ptr 2 0)), .tv (.lf (.ptr 3 0)), .tv (.lf (.int .u32 y0)), .tv (.lf (.int .u32 y1)), .tv (.lf (.int .u32 y2)), .tv (.lf (.int .u32 y3)), .tv (.lf (.int .u32 y4)), .tv (.lf (.int .u32 y5)), .tv (.lf (.int .u32 y6)), .tv (.lf (.int .u32 y7))] [some ⟨d.2.1.1, [.seq (.int .u32) 0 d.2.1.2.1]⟩, some ⟨d.2.2.1.1, [.seq (.int .u8) 0 d.2.2.1.2.1]⟩, some ⟨false, [.seq (.int .u32) 8 d.2.2.2.1.2.1]⟩, some ⟨false, [.seq (.int .u32) 8 d.2.2.2.2.1.2.1]⟩, some ⟨false, [.seq (.int .u32) 64 d.2.2.2.2.2.1.2.1]⟩]) k d.1.2.2.2.2.1 d.1.2.2.2.2.2.1 d.1.2.2.2.2.2.2.1 d.1.2.2.2.2.2.2.2.1 d.1.2.2.2.2.2.2.2.2.1 d.1.2.2.2.2.2.2.2.2.2.1 d.1.2.2.2.2.2.2.2.2.2.2.1 d.1.2.2.2.2.2.2.2.2.2.2.2.1 d.1.2.2.2.2.2.2.2.2.2.2.2.2.1 = roundOf Try.prog (tab [(131, (mkS sh131_1 (fun d K => c131_1 d.1.1 d.1.2.1 (fun (y0 : Int) => K [.lf (.int .u32 y0)] [])) noS))]) 217 2 (ltab [(3, X3), (7, X7), (21, X21)]) (mkG sh120_1_l21 [1, 3, 6, 7, 12, 13, 14, 15, 16, 17, 18, 19, 20] (outT [(.exit 4, [3, 6, 12, 13, 14, 15, 16, 17, 18, 19])]) (fun d K => l21 d.2.1.2.1 d.2.2.1.2.1 d.2.2.2.1.2.1 d.2.2.2.2.1.2.1 d.2.2.2.2.2.1.2.1 (fun (y0 : Int) (y1 : Int) (y2 : Int) (y3 : Int) (y4 : Int) (y5 : Int) (y6 : Int) (y7 : Int) => K (.exit 4) [.tv (.lf (.ptr 2 0)), .tv (.lf (.ptr 3 0)), .tv (.lf (.int .u32 y0)), .tv (.lf (.int .u32 y1)), .tv (.lf (.int .u32 y2)), .tv (.lf (.int .u32 y3)), .tv (.lf (.int .u32 y4)), .tv (.lf (.int .u32 y5)), .tv (.lf (.int .u32 y6)), .tv (.lf (.int .u32 y7))] [some ⟨d.2.1.1, [.seq (.int .u32) 0 d.2.1.2.1]⟩, some ⟨d.2.2.1.1, [.seq (.int .u8) 0 d.2.2.1.2.1]⟩, some ⟨false, [.seq (.int .u32) 8 d.2.2.2.1.2.1]⟩, some ⟨false, [.seq (.int .u32) 8 d.2.2.2.2.1.2.1]⟩, some ⟨false, [.seq (.int .u32) 64 d.2.2.2.2.2.1.2.1]⟩]) k d.1.2.2.2.2.1 d.1.2.2.2.2.2.1 d.1.2.2.2.2.2.2.1 d.1.2.2.2.2.2.2.2.1 d.1.2.2.2.2.2.2.2.2.1 d.1.2.2.2.2.2.2.2.2.2.1 d.1.2.2.2.2.2.2.2.2.2.2.1 d.1.2.2.2.2.2.2.2.2.2.2.2.1 d.1.2.2.2.2.2.2.2.2.2.2.2.2.1)) b120_2 (encT sh120_1_l21.vs d.1) (encH sh120_1_l21.h d.2) K := by kernel_rfl
theorem L120_1_21 (F : Nat) : LoopOK Try.prog (T120_1 F) 217 2 (LT120_1 F) (G120_1_21 F F) b120_2 :=
  loopOK_of (s := sh120_1_l21) (live := [1, 3, 6, 7, 12, 13, 14, 15, 16, 17, 18, 19, 20]) (out := (outT [(.exit 4, [3, 6, 12, 13, 14, 15, 16, 17, 18, 19])])) (fun k d K => f120_1_l21 F d.2.1.2.1 d.2.2.1.2.1 d.2.2.2.1.2.1 d.2.2.2.2.1.2.1 d.2.2.2.2.2.1.2.1 (fun (y0 : Int) (y1 : Int) (y2 : Int) (y3 : Int) (y4 : Int) (y5 : Int) (y6 : Int) (y7 : Int) => K (.exit 4) [.tv (.lf (.ptr 2 0)), .tv (.lf (.ptr 3 0)), .tv (.lf (.int .u32 y0)), .tv (.lf (.int .u32 y1)), .tv (.lf (.int .u32 y2)), .tv (.lf (.int .u32 y3)), .tv (.lf (.int .u32 y4)), .tv (.lf (.int .u32 y5)), .tv (.lf (.int .u32 y6)), .tv (.lf (.int .u32 y7))] [some ⟨d.2.1.1, [.seq (.int .u32) 0 d.2.1.2.1]⟩, some ⟨d.2.2.1.1, [.seq (.int .u8) 0 d.2.2.1.2.1]⟩, some ⟨false, [.seq (.int .u32) 8 d.2.2.2.1.2.1]⟩, some ⟨false, [.seq (.int .u32) 8 d.2.2.2.2.1.2.1]⟩, some ⟨false, [.seq (.int .u32) 64 d.2.2.2.2.2.1.2.1]⟩]) k d.1.2.2.2.2.1 d.1.2.2.2.2.2.1 d.1.2.2.2.2.2.2.1 d.1.2.2.2.2.2.2.2.1 d.1.2.2.2.2.2.2.2.2.1 d.1.2.2.2.2.2.2.2.2.2.1 d.1.2.2.2.2.2.2.2.2.2.2.1 d.1.2.2.2.2.2.2.2.2.2.2.2.1 d.1.2.2.2.2.2.2.2.2.2.2.2.2.1) F (fun d K => by kernel_rfl)  (fun k d K => Eq.mp (by kernel_rfl) (L120_1_21g F k (f131_1 F)  (f120_1_l21 F) (G120_1_3 F F) (G120_1_7 F F) (G120_1_21 F F) d K))
theorem E120_1g (F : Nat) (c131_1 : Int → Int → (Int → Option Res) → Option Res) (l3 : List Int → List Int → List Int → List Int → (List Int → Option Res) → Nat → Int → List Int → Option Res) (l7 : List Int → List Int → List Int → List Int → (List Int → Option Res) → Nat → Int → List Int → Option Res) (l21 : List Int → List Int → List Int → List Int → List Int → (Int → Int → Int → Int → Int → Int → Int → Int → Option Res) → Nat → Int → Int → Int → Int → Int → Int → Int → Int → Int → Option Res)  (d : sh120_1.den) (K : KF) : evBody Try.prog (tab [(131, (mkS sh131_1 (fun d K => c131_1 d.1.1 d.1.2.1 (fun (y0 : Int) => K [.lf (.int .u32 y0)] [])) noS))]) 217 2 (ltab [(3, mkG sh120_1_l3 [1, 2, 3, 6, 7, 8] (outT [(.exit 0, [1, 3, 6, 7])]) (fun d K => l3 d.2.1.2.1 d.2.2.1.2.1 d.2.2.2.1.2.1 d.2.2.2.2.1.2.1 (fun (y4 : List Int) => K (.exit 0) [.tv (.lf (.full 0)), .tv (.lf (.ptr 2 0)), .tv (.lf (.ptr 3 0)), .tv (.lf (.ptr 4 0))] [some ⟨d.2.1.1, [.seq (.int .u32) 0 d.2.1.2.1]⟩, some ⟨d.2.2.1.1, [.seq (.int .u8) 0 d.2.2.1.2.1]⟩, some ⟨false, [.seq (.int .u32) 8 d.2.2.2.1.2.1]⟩, some ⟨false, [.seq (.int .u32) 8 d.2.2.2.2.1.2.1]⟩, some ⟨false, [.seq (.int .u32) 64 y4]⟩]) F d.1.2.2.2.2.2.1 d.2.2.2.2.2.1.2.1)), (7, mkG sh120_1_l7 [1, 3, 6, 7, 9] (outT [(.exit 2, [1, 3, 6, 7])]) (fun d K => l7 d.2.1.2.1 d.2.2.1.2.1 d.2.2.2.1.2.1 d.2.2.2.2.1.2.1 (fun (y4 : List Int) => K (.exit 2) [.tv (.lf (.full 0)), .tv (.lf (.ptr 2 0)), .tv (.lf (.ptr 3 0)), .tv (.lf (.ptr 4 0))] [some ⟨d.2.1.1, [.seq (.int .u32) 0 d.2.1.2.1]⟩, some ⟨d.2.2.1.1, [.seq (.int .u8) 0 d.2.2.1.2.1]⟩, some ⟨false, [.seq (.int .u32) 8 d.2.2.2.1.2.1]⟩, some ⟨false, [.seq (.int .u32) 8 d.2.2.2.2.1.2.1]⟩, some ⟨false, [.seq (.int .u32) 64 y4]⟩]) F d.1.2.2.2.2.1 d.2.2.2.2.2.1.2.1)), (21, mkG sh120_1_l21 [1, 3, 6, 7, 12, 13, 14, 15, 16, 17, 18, 19, 20] (outT [(.exit 4, [3, 6, 12, 13, 14, 15, 16, 17, 18, 19])]) (fun d K => l21 d.2.1.2.1 d.2.2.1.2.1 d.2.2.2.1.2.1 d.2.2.2.2.1.2.1 d.2.2.2.2.2.1.2.1 (fun (y0 : Int) (y1 : Int) (y2 : Int) (y3 : Int) (y4 : Int) (y5 : Int) (y6 : Int) (y7 : Int) => K (.exit 4) [.tv (.lf (.ptr 2 0)), .tv (.lf (.ptr 3 0)), .tv (.lf (.int .u32 y0)), .tv (.lf (.int .u32 y1)), .tv (.lf (.int .u32 y2)), .tv (.lf (.int .u32 y3)), .tv (.lf (.int .u32 y4)), .tv (.lf (.int .u32 y5)), .tv (.lf (.int .u32 y6)), .tv (.lf (.int .u32 y7))] [some ⟨d.2.1.1, [.seq (.int .u32) 0 d.2.1.2.1]⟩, some ⟨d.2.2.1.1, [.seq (.int .u8) 0 d.2.2.1.2.1]⟩, some ⟨false, [.seq (.int .u32) 8 d.2.2.2.1.2.1]⟩, some ⟨false, [.seq (.int .u32) 8 d.2.2.2.2.1.2.1]⟩, some ⟨false, [.seq (.int .u32) 64 d.2.2.2.2.2.1.2.1]⟩]) F d.1.2.2.2.2.1 d.1.2.2.2.2.2.1 d.1.2.2.2.2.2.2.1 d.1.2.2.2.2.2.2.2.1 d.1.2.2.2.2.2.2.2.2.1 d.1.2.2.2.2.2.2.2.2.2.1 d.1.2.2.2.2.2.2.2.2.2.2.1 d.1.2.2.2.2.2.2.2.2.2.2.2.1 d.1.2.2.2.2.2.2.2.2.2.2.2.2.1))]) code120 Try.f120.results.toList (encT sh120_1.vs d.1) (encH sh120_1.h d.2) K = (fun (a1 : List Int) (a2 : List Int) (a3 : List Int) (K0 : (List Int → Option Res)) => l3 a2 a3 a1 [0, 0, 0, 0, 0, 0, 0, 0] (fun x7 => l7 a2 a3 a1 [0, 0, 0, 0, 0, 0, 0, 0] (fun x18 => cond (decide (0 < a1.length)) (cond (decide (1 < a1.length)) (cond (decide (2 < a1.length)) (cond (decide (3 < a1.length)) (cond (decide (4 < a1.length)) (cond (decide (5 < a1.length)) (cond (decide (6 < a1.length)) (cond (decide (7 < a1.length)) (l21 a2 a3 a1 [0, 0, 0, 0, 0, 0, 0, 0] x18 (fun x39 x40 x41 x42 x43 x44 x45 x46 => cond (decide (0 < a1.length)) (cond (decide (1 < a1.length)) (cond (decide (2 < a1.length)) (cond (decide (3 < a1.length)) (cond (decide (4 < a1.length)) (cond (decide (5 < a1.length)) (cond (decide (6 < a1.length)) (cond (decide (7 < a1.length)) (K0 [IntKind.u32.wrap ((a1.getD 0 0) + x39), IntKind.u32.wrap ((a1.getD 1 0) + x40), IntKind.u32.wrap ((a1.getD 2 0) + x41), IntKind.u32.wrap ((a1.getD 3 0) + x42), IntKind.u32.wrap ((a1.getD 4 0) + x43), IntKind.u32.wrap ((a1.getD 5 0) + x44), IntKind.u32.wrap ((a1.getD 6 0) + x45), IntKind.u32.wrap ((a1.getD 7 0) + x46)]) none) none) none) none) none) none) none) none) F (a1.getD 0 0) (a1.getD 1 0) (a1.getD 2 0) (a1.getD 3 0) (a1.getD 4 0) (a1.getD 5 0) (a1.getD 6 0) (a1.getD 7 0) 0) none) none) none) none) none) none) none) none) F 16 x7) F 0 [0, 0, 0, 0, 0, 0, 0, 0, 0, 0, 0, 0, 0, 0, 0, 0, 0, 0, 0, 0, 0, 0, 0, 0, 0, 0, 0, 0, 0, 0, 0, 0, 0, 0, 0, 0, 0, 0, 0, 0, 0, 0, 0, 0, 0, 0, 0, 0, 0, 0, 0, 0, 0, 0, 0, 0, 0, 0, 0, 0, 0, 0, 0, 0]) d.1.1.1 d.2.1.2.1 d.2.2.1.2.1 (fun (y0 : List Int) => K [.agg [.seq (.int .u32) 8 y0]] [some ⟨d.2.1.1, [.seq (.int .u32) 0 d.2.1.2.1]⟩, some ⟨d.2.2.1.1, [.seq (.int .u8) 0 d.2.2.1.2.1]⟩]) := by kernel_rfl
theorem E120_1 (F : Nat) (d : sh120_1.den) (K : KF) : evBody Try.prog (T120_1 F) 217 2 (LT120_1 F) code120 Try.f120.results.toList (encT sh120_1.vs d.1) (encH sh120_1.h d.2) K = f120_1 F d.1.1.1 d.2.1.2.1 d.2.2.1.2.1 (fun (y0 : List Int) => K [.agg [.seq (.int .u32) 8 y0]] [some ⟨d.2.1.1, [.seq (.int .u32) 0 d.2.1.2.1]⟩, some ⟨d.2.2.1.1, [.seq (.int .u8) 0 d.2.2.1.2.1]⟩]) := Eq.mp (by kernel_rfl) (E120_1g F (f131_1 F) (f120_1_l3 F) (f120_1_l7 F) (f120_1_l21 F)  d K)
theorem S120_1_ok (F : Nat) (o : Summ) (ho : SoundFn Try.prog 120 o) : SoundFn Try.prog 120 (S120_1 F o) :=
  soundFn_of (fn := Try.f120) (c := code120) (by kernel_rfl) (tab_cons (S131_1_ok F _ (noS_sound enter131)) tab_nil) (by kernel_rfl) (by kernel_rfl) ho (by rw [loops120]; exact (loopsOK_cons (by kernel_rfl) (L120_1_3 F) (loopsOK_cons (by kernel_rfl) (L120_1_7 F) (loopsOK_cons (by kernel_rfl) (L120_1_21 F) loopsOK_nil)))) (by rw [scopes120]; exact scopesOK_nil) (E120_1 F)
end Go.Proofs.Ytillbabmlfjegaa.X
end

section
/- Numbers of a fixed width: what wrapping and the bits' operations come to where nothing is lost. -/
namespace Go.Proofs.Ytillbabmlfjegaa.X
open Go Go.Proofs.Ytillbabmlfjegaa.Ev
set_option linter.unusedVariables false

theorem w64 {x : Int} (h : -9223372036854775808 ≤ x) (h' : x ≤ 9223372036854775807) : IntKind.i64.wrap x = x := by
  simp only [IntKind.wrap, IntKind.bits, IntKind.signed, Bool.true_and]
  split <;> (rename_i hq; simp at hq; omega)

theorem wu64 {x : Int} (h : 0 ≤ x) (h' : x < 18446744073709551616) : IntKind.u64.wrap x = x := by
  simp only [IntKind.wrap, IntKind.bits, IntKind.signed, Bool.false_and]
  simp; omega

theorem wu32 {x : Int} (h : 0 ≤ x) (h' : x < 4294967296) : IntKind.u32.wrap x = x := by
  simp only [IntKind.wrap, IntKind.bits, IntKind.signed, Bool.false_and]
  simp; omega

theorem wu8 {x : Int} (h : 0 ≤ x) (h' : x < 256) : IntKind.u8.wrap x = x := by
  simp only [IntKind.wrap, IntKind.bits, IntKind.signed, Bool.false_and]
  simp; omega

theorem wu64m (x : Int) : IntKind.u64.wrap x = x % 18446744073709551616 := by
  simp only [IntKind.wrap, IntKind.bits, IntKind.signed, Bool.false_and]
  simp
theorem wu32m (x : Int) : IntKind.u32.wrap x = x % 4294967296 := by
  simp only [IntKind.wrap, IntKind.bits, IntKind.signed, Bool.false_and]
  simp
theorem wu8m (x : Int) : IntKind.u8.wrap x = x % 256 := by
  simp only [IntKind.wrap, IntKind.bits, IntKind.signed, Bool.false_and]
  simp

theorem i64_of_wf {n : Int} (h : (Lit.int .i64 n).wf = true) : -9223372036854775808 ≤ n ∧ n ≤ 9223372036854775807 := by
  simp [Lit.wf, IntKind.min, IntKind.max, IntKind.bits, IntKind.signed] at h; omega
theorem u64_of_wf {n : Int} (h : (Lit.int .u64 n).wf = true) : 0 ≤ n ∧ n < 18446744073709551616 := by
  simp [Lit.wf, IntKind.min, IntKind.max, IntKind.bits, IntKind.signed] at h; omega
theorem u8_of_wf {n : Int} (h : (Lit.int .u8 n).wf = true) : 0 ≤ n ∧ n < 256 := by
  simp [Lit.wf, IntKind.min, IntKind.max, IntKind.bits, IntKind.signed] at h; omega
theorem u32_of_wf {n : Int} (h : (Lit.int .u32 n).wf = true) : 0 ≤ n ∧ n < 4294967296 := by
  simp [Lit.wf, IntKind.min, IntKind.max, IntKind.bits, IntKind.signed] at h; omega

theorem or64 {A B : Nat} (hA : A < 2 ^ 64) (hB : B < 2 ^ 64) : ior .u64 (A : Int) (B : Int) = ((A ||| B : Nat) : Int) := by
  have h : (BitVec.ofInt 64 (A : Int) ||| BitVec.ofInt 64 (B : Int)).toNat = A ||| B := by
    simp [BitVec.toNat_or, BitVec.ofInt_natCast, BitVec.toNat_ofNat, Nat.mod_eq_of_lt hA, Nat.mod_eq_of_lt hB]
  have hl := Nat.or_lt_two_pow hA hB
  show IntKind.u64.wrap ((BitVec.ofInt 64 (A : Int) ||| BitVec.ofInt 64 (B : Int)).toNat : Int) = _
  rw [h, wu64 (by omega) (by omega)]
theorem and64 {A B : Nat} (hA : A < 2 ^ 64) (hB : B < 2 ^ 64) : iand .u64 (A : Int) (B : Int) = ((A &&& B : Nat) : Int) := by
  have h : (BitVec.ofInt 64 (A : Int) &&& BitVec.ofInt 64 (B : Int)).toNat = A &&& B := by
    simp [BitVec.toNat_and, BitVec.ofInt_natCast, BitVec.toNat_ofNat, Nat.mod_eq_of_lt hA, Nat.mod_eq_of_lt hB]
  have hl : A &&& B < 2 ^ 64 := Nat.and_lt_two_pow A hB
  show IntKind.u64.wrap ((BitVec.ofInt 64 (A : Int) &&& BitVec.ofInt 64 (B : Int)).toNat : Int) = _
  rw [h, wu64 (by omega) (by omega)]
theorem shl64 {i : Nat} (hi : i < 64) : ishl .u64 1 (i : Int) = ((2 ^ i : Nat) : Int) := by
  have h2 : (2 : Nat) ^ i < 2 ^ 64 := Nat.pow_lt_pow_right (by omega) hi
  have : (1 : Int) * 2 ^ (min i 64) = ((2 ^ i : Nat) : Int) := by
    rw [Nat.min_eq_left (by omega), Int.one_mul]; push_cast; rfl
  simp only [ishl, IntKind.bits, Int.toNat_natCast]
  rw [this, wu64 (Int.natCast_nonneg _) (Int.ofNat_lt.2 h2)]
theorem shr64 {A i : Nat} (hi : i < 64) : ishr .u64 (A : Int) (i : Int) = ((A >>> i : Nat) : Int) := by
  have : ((2 : Int) ^ i) = ((2 ^ i : Nat) : Int) := by push_cast; rfl
  simp only [ishr, IntKind.bits, Int.toNat_natCast]
  rw [Nat.min_eq_left (by omega), Int.fdiv_eq_ediv_of_nonneg _ (by rw [this]; exact Int.natCast_nonneg _), this, Nat.shiftRight_eq_div_pow]
  push_cast; rfl

/-- The number with given bits, below n. -/
def mk (f : Nat → Bool) : Nat → Nat
  | 0 => 0
  | n + 1 => if f n then mk f n ||| 2 ^ n else mk f n

theorem mk_lt (f : Nat → Bool) : ∀ n, mk f n < 2 ^ n
  | 0 => by simp [mk]
  | n + 1 => by
    have := mk_lt f n
    have h2 : (2 : Nat) ^ n < 2 ^ (n + 1) := Nat.pow_lt_pow_right (by omega) (by omega)
    simp only [mk]
    split
    · exact Nat.or_lt_two_pow (by omega) h2
    · omega

theorem mk_bit (f : Nat → Bool) : ∀ n j, (mk f n).testBit j = (decide (j < n) && f j)
  | 0, j => by simp [mk]
  | n + 1, j => by
    simp only [mk]
    split
    · rename_i h
      rw [Nat.testBit_or, mk_bit f n, Nat.testBit_two_pow]
      by_cases hj : j = n
      · subst hj; simp [h]
      · have h1 : decide (j < n) = decide (j < n + 1) := decide_eq_decide.2 (by omega)
        simp [Ne.symm hj, h1]
    · rename_i h
      rw [mk_bit f n]
      by_cases hj : j = n
      · subst hj; simp at h; simp [h]
      · have h1 : decide (j < n) = decide (j < n + 1) := decide_eq_decide.2 (by omega)
        rw [h1]

theorem mk_eq {A n : Nat} {f : Nat → Bool} (hA : A < 2 ^ n) (h : ∀ j, j < n → f j = A.testBit j) : mk f n = A := by
  apply Nat.eq_of_testBit_eq
  intro j
  rw [mk_bit]
  by_cases hj : j < n
  · simp [hj, h j hj]
  · simp [hj]
    exact Nat.testBit_lt_two_pow (Nat.lt_of_lt_of_le hA (Nat.pow_le_pow_right (by omega) (by omega)))

theorem bit_test {A i : Nat} : ((A >>> i &&& 1 : Nat) == 1) = A.testBit i := by
  simp [Nat.testBit, Nat.and_comm]

theorem natbeq {a b : Nat} : (((a : Int) == ((b : Nat) : Int)) : Bool) = (a == b) := by
  rw [Bool.eq_iff_iff]; simp; omega

theorem tdiv_nn {a b : Nat} : ((a : Int).tdiv (b : Int)) = ((a / b : Nat) : Int) := by
  rw [Int.tdiv_eq_ediv_of_nonneg (by omega)]; rfl
theorem tmod_nn {a b : Nat} : ((a : Int).tmod (b : Int)) = ((a % b : Nat) : Int) := by
  rw [Int.tmod_eq_emod_of_nonneg (by omega)]; rfl

theorem lbeq_refl (k : EK) (hr : ∀ x : k.den, k.beq x x = true) : ∀ l : List k.den, lbeq k l l = true
  | [] => rfl
  | x :: r => by simp [lbeq, hr x, lbeq_refl k hr r]
theorem lbeq_int (k : IntKind) (l : List Int) : lbeq (.int k) l l = true := lbeq_refl (.int k) (fun x => by simp [EK.beq]) l
theorem lbeq_int_iff (k : IntKind) : ∀ (l r : List Int), lbeq (.int k) l r = true ↔ l = r
  | [], [] => by simp [lbeq]
  | [], _ :: _ => by simp [lbeq]
  | _ :: _, [] => by simp [lbeq]
  | x :: l, y :: r => by simp [lbeq, EK.beq, lbeq_int_iff k l r]

theorem ct {α : Sort _} {p : Prop} [Decidable p] {a b : α} (h : p) : cond (decide p) a b = a := by simp [h]
theorem cf {α : Sort _} {p : Prop} [Decidable p] {a b : α} (h : ¬ p) : cond (decide p) a b = b := by simp [h]

end Go.Proofs.Ytillbabmlfjegaa.X
end

section
/- SHA-256: the words of a block, what the code reckons and what the document's answer reckons. -/
namespace Go.Proofs.Ytillbabmlfjegaa.X
open Go Go.Proofs.Ytillbabmlfjegaa.Ev
set_option linter.unusedVariables false

/-- A number turned to the right. -/
def rot (x n : Int) : Int := ior .u32 (ishl .u32 x (32 - n)) (ishr .u32 x n)

theorem ior_comm (k : IntKind) (x y : Int) : ior k x y = ior k y x := by
  simp only [ior, BitVec.or_comm]

theorem turnP {β : Type} {F : Nat} {x n : Int} {K : Int → Option β} (h0 : 0 < n) (h1 : n < 32) : f142_1 F x n K = K (rot x n) := by
  have e1 : IntKind.i64.wrap (0 - n) = -n := by rw [w64 (by omega) (by omega)]; omega
  have e2 : IntKind.u64.wrap (-n) = ((18446744073709551616 - n.toNat : Nat) : Int) := by rw [wu64m]; omega
  have e3 : iand .u64 ((18446744073709551616 - n.toNat : Nat) : Int) 31 = 32 - n := by
    rw [show (31 : Int) = ((31 : Nat) : Int) from rfl, and64 (by omega) (by omega), show (31 : Nat) = 2 ^ 5 - 1 from rfl, Nat.and_two_pow_sub_one_eq_mod]
    omega
  have e4 : IntKind.u64.wrap (32 - (32 - n)) = n := by rw [wu64 (by omega) (by omega)]; omega
  simp only [f142_1, f147_1, e1, e2, e3, e4]
  rw [cf (by omega), cf (by omega)]
  rfl

theorem turnR {β : Type} {F : Nat} {x n : Int} {K : Int → Option β} (h0 : 0 < n) (h1 : n < 32) : f131_1 F x n K = K (rot x n) := by
  have e4 : IntKind.u64.wrap (32 - n) = 32 - n := wu64 (by omega) (by omega)
  simp only [f131_1, e4]
  rw [cf (by omega), cf (by omega), rot, ior_comm]

def word (b : List Int) (i : Nat) : Int :=
  ior .u32 (ior .u32 (ior .u32 (ishl .u32 (IntKind.u32.wrap (b.getD (4 * i) 0)) 24) (ishl .u32 (IntKind.u32.wrap (b.getD (4 * i + 1) 0)) 16)) (ishl .u32 (IntKind.u32.wrap (b.getD (4 * i + 2) 0)) 8)) (IntKind.u32.wrap (b.getD (4 * i + 3) 0))

def ldr (b : List Int) : Nat → Nat → List Int → List Int
  | 0, _, acc => acc
  | m + 1, i, acc => ldr b m (i + 1) (acc.set i (word b i))

theorem ldr_len (b : List Int) : ∀ m i acc, (ldr b m i acc).length = acc.length
  | 0, _, _ => rfl
  | m + 1, i, acc => by rw [ldr, ldr_len b m]; simp

theorem ldP {β : Type} {F : Nat} {b z : List Int} {K : List Int → Option β} (hb : 64 ≤ b.length) : ∀ (m i k : Nat) (acc : List Int), i + m = 16 → m < k → acc.length = 64 →
    f141_1_l3 F b z K k (i : Int) acc = K (ldr b m i acc)
  | 0, i, k, acc, hi, hk, ha => by
    obtain ⟨k, rfl⟩ : ∃ j, k = j + 1 := ⟨k - 1, by omega⟩
    simp only [f141_1_l3]
    rw [cf (by omega)]; rfl
  | m + 1, i, k, acc, hi, hk, ha => by
    obtain ⟨k, rfl⟩ : ∃ j, k = j + 1 := ⟨k - 1, by omega⟩
    have e1 : IntKind.i64.wrap (4 * (i : Int)) = ((4 * i : Nat) : Int) := by rw [w64 (by omega) (by omega)]; omega
    have e2 : IntKind.i64.wrap (((4 * i : Nat) : Int) + 4) = ((4 * i + 4 : Nat) : Int) := by rw [w64 (by omega) (by omega)]; omega
    have e3 : (((4 * i + 4 : Nat) : Int) - ((4 * i : Nat) : Int)).toNat = 4 := by omega
    have e4 : IntKind.i64.wrap ((i : Int) + 1) = ((i + 1 : Nat) : Int) := by rw [w64 (by omega) (by omega)]; omega
    simp only [f141_1_l3, e1, e2, e3, e4, Int.toNat_natCast, Nat.zero_add, Nat.add_zero, ha]
    rw [ct (by omega), ct (by omega), ct (by omega), ct (by omega), ct (by omega), ct (by omega), ct (by omega), ct (by omega), ct (by omega), ct (by omega), ct (by omega), ct (by omega)]
    exact ldP hb m (i + 1) k _ (by omega) (by omega) (by simp [ha])

theorem ldR {β : Type} {F : Nat} {b z s y : List Int} {K : List Int → Option β} (hb : 64 ≤ b.length) : ∀ (m i k : Nat) (acc : List Int), i + m = 16 → m < k → acc.length = 64 →
    f120_1_l3 F y b s z K k (i : Int) acc = K (ldr b m i acc)
  | 0, i, k, acc, hi, hk, ha => by
    obtain ⟨k, rfl⟩ : ∃ j, k = j + 1 := ⟨k - 1, by omega⟩
    simp only [f120_1_l3]
    rw [cf (by omega)]; rfl
  | m + 1, i, k, acc, hi, hk, ha => by
    obtain ⟨k, rfl⟩ : ∃ j, k = j + 1 := ⟨k - 1, by omega⟩
    have e1 : IntKind.i64.wrap (4 * (i : Int)) = ((4 * i : Nat) : Int) := by rw [w64 (by omega) (by omega)]; omega
    have e2 : IntKind.i64.wrap (((4 * i : Nat) : Int) + 1) = ((4 * i + 1 : Nat) : Int) := by rw [w64 (by omega) (by omega)]; omega
    have e3 : IntKind.i64.wrap (((4 * i : Nat) : Int) + 2) = ((4 * i + 2 : Nat) : Int) := by rw [w64 (by omega) (by omega)]; omega
    have e5 : IntKind.i64.wrap (((4 * i : Nat) : Int) + 3) = ((4 * i + 3 : Nat) : Int) := by rw [w64 (by omega) (by omega)]; omega
    have e4 : IntKind.i64.wrap ((i : Int) + 1) = ((i + 1 : Nat) : Int) := by rw [w64 (by omega) (by omega)]; omega
    simp only [f120_1_l3, e1, e2, e3, e4, e5, Int.toNat_natCast, Nat.zero_add, Nat.add_zero, ha]
    rw [ct (by omega), ct (by omega), ct (by omega), ct (by omega), ct (by omega), ct (by omega), ct (by omega), ct (by omega), ct (by omega), ct (by omega), ct (by omega)]
    exact ldR hb m (i + 1) k _ (by omega) (by omega) (by simp [ha])

def sg0 (x : Int) : Int := ixor .u32 (ixor .u32 (rot x 7) (rot x 18)) (ishr .u32 x 3)
def sg1 (x : Int) : Int := ixor .u32 (ixor .u32 (rot x 17) (rot x 19)) (ishr .u32 x 10)

def nx (l : List Int) (i : Nat) : Int := IntKind.u32.wrap ((IntKind.u32.wrap ((IntKind.u32.wrap (l.getD (i - 16) 0 + l.getD (i - 7) 0)) + sg0 (l.getD (i - 15) 0))) + sg1 (l.getD (i - 2) 0))

def exps : Nat → Nat → List Int → List Int
  | 0, _, acc => acc
  | m + 1, i, acc => exps m (i + 1) (acc.set i (nx acc i))

theorem exps_len : ∀ m i acc, (exps m i acc).length = acc.length
  | 0, _, _ => rfl
  | m + 1, i, acc => by rw [exps, exps_len m]; simp

theorem exP {β : Type} {F : Nat} {b z : List Int} {K : List Int → Option β} : ∀ (m i k : Nat) (acc : List Int), i + m = 64 → 16 ≤ i → m < k → acc.length = 64 →
    f141_1_l9 F b z K k (i : Int) acc = K (exps m i acc)
  | 0, i, k, acc, hi, hj, hk, ha => by
    obtain ⟨k, rfl⟩ : ∃ j, k = j + 1 := ⟨k - 1, by omega⟩
    simp only [f141_1_l9]
    rw [cf (by omega)]; rfl
  | m + 1, i, k, acc, hi, hj, hk, ha => by
    obtain ⟨k, rfl⟩ : ∃ j, k = j + 1 := ⟨k - 1, by omega⟩
    have e1 : IntKind.i64.wrap ((i : Int) - 15) = ((i - 15 : Nat) : Int) := by rw [w64 (by omega) (by omega)]; omega
    have e2 : IntKind.i64.wrap ((i : Int) - 2) = ((i - 2 : Nat) : Int) := by rw [w64 (by omega) (by omega)]; omega
    have e3 : IntKind.i64.wrap ((i : Int) - 16) = ((i - 16 : Nat) : Int) := by rw [w64 (by omega) (by omega)]; omega
    have e5 : IntKind.i64.wrap ((i : Int) - 7) = ((i - 7 : Nat) : Int) := by rw [w64 (by omega) (by omega)]; omega
    have e4 : IntKind.i64.wrap ((i : Int) + 1) = ((i + 1 : Nat) : Int) := by rw [w64 (by omega) (by omega)]; omega
    simp only [f141_1_l9, e1, e2, e3, e4, e5, Int.toNat_natCast, ha]
    rw [ct (by omega), ct (by omega), ct (by omega), ct (by omega), ct (by omega), ct (by omega), ct (by omega), ct (by omega), ct (by omega), turnP (by omega) (by omega), turnP (by omega) (by omega), turnP (by omega) (by omega), turnP (by omega) (by omega),
      ct (by omega), ct (by omega)]
    exact exP m (i + 1) k _ (by omega) (by omega) (by omega) (by simp [ha])

theorem add4 (a b c d : Int) : IntKind.u32.wrap (IntKind.u32.wrap (IntKind.u32.wrap (a + c) + b) + d) = IntKind.u32.wrap (IntKind.u32.wrap (IntKind.u32.wrap (a + b) + c) + d) := by
  simp only [wu32m]; omega

theorem exR {β : Type} {F : Nat} {b z s y : List Int} {K : List Int → Option β} : ∀ (m i k : Nat) (acc : List Int), i + m = 64 → 16 ≤ i → m < k → acc.length = 64 →
    f120_1_l7 F y b s z K k (i : Int) acc = K (exps m i acc)
  | 0, i, k, acc, hi, hj, hk, ha => by
    obtain ⟨k, rfl⟩ : ∃ j, k = j + 1 := ⟨k - 1, by omega⟩
    simp only [f120_1_l7]
    rw [cf (by omega)]; rfl
  | m + 1, i, k, acc, hi, hj, hk, ha => by
    obtain ⟨k, rfl⟩ : ∃ j, k = j + 1 := ⟨k - 1, by omega⟩
    have e1 : IntKind.i64.wrap ((i : Int) - 15) = ((i - 15 : Nat) : Int) := by rw [w64 (by omega) (by omega)]; omega
    have e2 : IntKind.i64.wrap ((i : Int) - 2) = ((i - 2 : Nat) : Int) := by rw [w64 (by omega) (by omega)]; omega
    have e3 : IntKind.i64.wrap ((i : Int) - 16) = ((i - 16 : Nat) : Int) := by rw [w64 (by omega) (by omega)]; omega
    have e5 : IntKind.i64.wrap ((i : Int) - 7) = ((i - 7 : Nat) : Int) := by rw [w64 (by omega) (by omega)]; omega
    have e4 : IntKind.i64.wrap ((i : Int) + 1) = ((i + 1 : Nat) : Int) := by rw [w64 (by omega) (by omega)]; omega
    simp only [f120_1_l7, e1, e2, e3, e4, e5, Int.toNat_natCast, ha]
    rw [ct (by omega), ct (by omega), ct (by omega), ct (by omega), ct (by omega), ct (by omega), ct (by omega), ct (by omega), ct (by omega), turnR (by omega) (by omega), turnR (by omega) (by omega), turnR (by omega) (by omega), turnR (by omega) (by omega),
      ct (by omega), ct (by omega), add4]
    exact exR m (i + 1) k _ (by omega) (by omega) (by omega) (by simp [ha])

/-- The 64 words of a block. -/
def wds (b : List Int) : List Int := exps 48 16 (ldr b 16 0 (List.replicate 64 0))

theorem wds_len (b : List Int) : (wds b).length = 64 := by rw [wds, exps_len, ldr_len]; rfl

theorem spreadP {β : Type} {F : Nat} {b : List Int} {K : List Int → Option β} (hF : 100 ≤ F) (hb : 64 ≤ b.length) : f141_1 F b K = K (wds b) := by
  simp only [f141_1]
  rw [show ([0, 0, 0, 0, 0, 0, 0, 0, 0, 0, 0, 0, 0, 0, 0, 0, 0, 0, 0, 0, 0, 0, 0, 0, 0, 0, 0, 0, 0, 0, 0, 0, 0, 0, 0, 0, 0, 0, 0, 0, 0, 0, 0, 0, 0, 0, 0, 0, 0, 0, 0, 0, 0, 0, 0, 0, 0, 0, 0, 0, 0, 0, 0, 0] : List Int) = List.replicate 64 0 from rfl,
    show (0 : Int) = ((0 : Nat) : Int) from rfl, ldP hb 16 0 F _ (by omega) (by omega) (by simp), show (16 : Int) = ((16 : Nat) : Int) from rfl, exP 48 16 F _ (by omega) (by omega) (by omega) (by rw [ldr_len]; simp)]
  rfl

end Go.Proofs.Ytillbabmlfjegaa.X
end

section
/- A row's arguments, opened as typed values. -/
namespace Go.Proofs.Ytillbabmlfjegaa.Ev
open Go Go.RowKit
set_option linter.unusedVariables false

def scK (P : Program) (e : TypeId) : Option EK := match P.underlying e with
  | some (.int k) => some (.int k)
  | some .bool => some .bool
  | some .string => some .str
  | _ => none

def wfE : (k : EK) → k.den → Prop
  | .int k, n => (Lit.int k n).wf = true
  | .bool, _ => True
  | .str, s => s.size ≤ maxLen
  | .pair a b, p => wfE a p.1 ∧ wfE b p.2

def wfD : (s : SL) → s.den → Prop
  | .int k, n => (Lit.int k n).wf = true
  | .str, s => s.size ≤ maxLen
  | .seq k n, l => l.length = n ∧ ∀ x ∈ l, wfE k x
  | _, _ => True

def wfL : (l : List SL) → denL l → Prop
  | [], _ => True
  | s :: r, d => wfD s d.1 ∧ wfL r d.2

def appD : (a b : List SL) → denL a → denL b → denL (a ++ b)
  | [], _, _, y => y
  | _ :: r, b, x, y => (x.1, appD r b x.2 y)

theorem encL_app : ∀ (a b : List SL) (x : denL a) (y : denL b), encL (a ++ b) (appD a b x y) = encL a x ++ encL b y
  | [], _, _, _ => rfl
  | s :: r, b, x, y => by
    show s.enc x.1 :: encL (r ++ b) (appD r b x.2 y) = s.enc x.1 :: (encL r x.2 ++ encL b y)
    rw [encL_app r b]

theorem wfL_app : ∀ (a b : List SL) (x : denL a) (y : denL b), wfL a x → wfL b y → wfL (a ++ b) (appD a b x y)
  | [], _, _, _, _, h => h
  | s :: r, b, x, y, hx, hy => ⟨hx.1, wfL_app r b x.2 y hx.2 hy⟩

section
variable (P : Program)

def slFs (g : TypeId → Option (List SL)) : Nat → List Field → Option (List SL × Nat)
  | off, [] => some ([], off)
  | off, f :: r => if f.offset = off then (match g f.type, slFs g (off + P.cellsOf f.type) r with
    | some a, some (b, n) => some (a ++ b, n)
    | _, _ => none) else none

def slOf : Nat → TypeId → Option (List SL)
  | 0, _ => none
  | f + 1, t => match P.underlying t with
    | some (.int k) => some [.int k]
    | some .bool => some [.bool]
    | some .string => some [.str]
    | some (.array n e) => match scK P e with
      | some k => if P.cellsOf e = 1 ∧ P.cellsOf t = n then some [.seq k n] else none
      | none => none
    | some (.struct fs) => match slFs P (slOf f) 0 fs.toList with
      | some (l, n) => if n = P.cellsOf t then some l else none
      | none => none
    | _ => none
end

section
variable {P : Program} {H : Type} {enc : TypeId × Value → H} {w : World} {base : Nat} {spare : Nat → Bool} {held : Bool}

def Opn (m : GM) (sl : List SL) (cs : List Value) (ps : List MemPlace) : Prop := ∃ d : denL sl, OCells m (encL sl d) cs ∧ wfL sl d ∧ ps = []

theorem sc_open {e : TypeId} {k : EK} {fuel : Nat} {c : List Value} {x : DataW H × List MemPlace} (hk : scK P e = some k) (h : DataW.trod enc P w base spare held fuel e c = some x) :
    ∃ z : k.den, c = k.cv z ∧ wfE k z ∧ x.2 = [] := by
  unfold scK at hk
  split at hk
  · rename_i k' ht
    cases hk
    obtain ⟨n, rfl, rfl, hw⟩ := DataW.trod_int ht h
    exact ⟨n, rfl, hw, rfl⟩
  · rename_i ht
    cases hk
    obtain ⟨b, rfl, rfl⟩ := DataW.trod_bool ht h
    exact ⟨b, rfl, trivial, rfl⟩
  · rename_i ht
    cases hk
    obtain ⟨s, rfl, rfl, hs⟩ := DataW.trod_string ht h
    exact ⟨s, rfl, hs, rfl⟩
  · cases hk

theorem sc_list {e : TypeId} {k : EK} {fuel : Nat} (hk : scK P e = some k) : ∀ (n : Nat) (cs : List Value) (xs : List (DataW H × List MemPlace)), cs.length = n → xs.length = n →
    (∀ i, i < n → DataW.trod enc P w base spare held fuel e ((cs.drop i).take 1) = xs[i]?) → ∃ l : List k.den, cs = cvs k l ∧ l.length = n ∧ (∀ x ∈ l, wfE k x) ∧ xs.flatMap (·.2) = []
  | 0, cs, xs, hc, hx, _ => by
    have := List.eq_nil_of_length_eq_zero hc
    have h2 := List.eq_nil_of_length_eq_zero hx
    subst this; subst h2
    exact ⟨[], rfl, rfl, fun x hx => (by cases hx), rfl⟩
  | n + 1, [], xs, hc, hx, _ => by simp at hc
  | n + 1, c :: cs, [], hc, hx, _ => by simp at hx
  | n + 1, c :: cs, x :: xs, hc, hx, h => by
    have h0 := h 0 (by omega)
    simp only [List.drop_zero, List.take_succ_cons, List.take_zero, List.getElem?_cons_zero] at h0
    obtain ⟨z, hz, hw, hp⟩ := sc_open hk h0
    obtain ⟨l, h1, h2, h3, h4⟩ := sc_list hk n cs xs (by simpa using hc) (by simpa using hx) fun i hi => by simpa using h (i + 1) (by omega)
    refine ⟨z :: l, ?_, by simp [h2], fun y hy => ?_, by simp [hp, h4]⟩
    · rw [h1] ; simp only [cvs, ← hz]; rfl
    · rcases List.mem_cons.1 hy with rfl | hy
      · exact hw
      · exact h3 y hy

theorem slFs_open {m : GM} {g : TypeId → Option (List SL)} {fuel : Nat} (ih : ∀ t sl cs (x : DataW H × List MemPlace), g t = some sl → DataW.trod enc P w base spare held fuel t cs = some x → Opn m sl cs x.2) :
    ∀ (fs : List Field) (off : Nat) (sl : List SL) (n : Nat) (cs : List Value) (xs : List (DataW H × List MemPlace)), slFs P g off fs = some (sl, n) → cs.length = n → xs.length = fs.length →
      (∀ (i : Nat) f, fs[i]? = some f → DataW.trod enc P w base spare held fuel f.type ((cs.drop f.offset).take (P.cellsOf f.type)) = xs[i]?) → Opn m sl (cs.drop off) (xs.flatMap (·.2))
  | [], off, sl, n, cs, xs, hs, hn, hx, _ => by
    simp only [slFs, Option.some.injEq, Prod.mk.injEq] at hs
    obtain ⟨rfl, rfl⟩ := hs
    have := List.eq_nil_of_length_eq_zero hx
    subst this
    exact ⟨(), by simp [encL, OCells, hn], trivial, rfl⟩
  | f :: fs, off, sl, n, cs, xs, hs, hn, hx, h => by
    simp only [slFs] at hs
    split at hs
    · rename_i hoff
      split at hs
      · rename_i a b n' ha hb
        simp only [Option.some.injEq, Prod.mk.injEq] at hs
        obtain ⟨rfl, rfl⟩ := hs
        cases xs with
        | nil => simp at hx
        | cons x xs =>
          have h0 := h 0 f rfl
          rw [hoff] at h0
          obtain ⟨d1, o1, w1, p1⟩ := ih _ _ _ _ ha h0
          obtain ⟨d2, o2, w2, p2⟩ := slFs_open ih fs _ _ _ cs xs hb hn (by simpa using hx) fun i f' hf => by simpa using h (i + 1) f' (by simpa using hf)
          refine ⟨appD _ _ d1 d2, ?_, wfL_app _ _ _ _ w1 w2, by simp [p1, p2]⟩
          rw [encL_app]
          refine ocells_append.2 ⟨_, _, ?_, o1, o2⟩
          rw [← List.drop_drop, List.take_append_drop]
      · cases hs
    · cases hs

theorem slOf_open {m : GM} : ∀ (f : Nat) (t : TypeId) (sl : List SL) (fuel : Nat) (cs : List Value) (x : DataW H × List MemPlace), slOf P f t = some sl →
    DataW.trod enc P w base spare held fuel t cs = some x → Opn m sl cs x.2
  | 0, t, sl, fuel, cs, x, hs, h => by simp [slOf] at hs
  | f + 1, t, sl, fuel, cs, x, hs, h => by
    simp only [slOf] at hs
    split at hs
    · rename_i k ht
      cases hs
      obtain ⟨n, rfl, rfl, hw⟩ := DataW.trod_int ht h
      exact ⟨(n, ()), ⟨[_], [], rfl, ⟨_, rfl, rfl⟩, rfl⟩, ⟨hw, trivial⟩, rfl⟩
    · rename_i ht
      cases hs
      obtain ⟨b, rfl, rfl⟩ := DataW.trod_bool ht h
      exact ⟨(b, ()), ⟨[_], [], rfl, ⟨_, rfl, rfl⟩, rfl⟩, ⟨trivial, trivial⟩, rfl⟩
    · rename_i ht
      cases hs
      obtain ⟨s, rfl, rfl, hw⟩ := DataW.trod_string ht h
      exact ⟨(s, ()), ⟨[_], [], rfl, ⟨_, rfl, rfl⟩, rfl⟩, ⟨hw, trivial⟩, rfl⟩
    · rename_i n e ht
      split at hs
      · rename_i k hk
        split at hs
        · rename_i h1
          cases hs
          obtain ⟨xs, mm, rfl, rfl, hc, hl, hall⟩ := DataW.trod_array ht h
          have hcn : cs.length = n := hc.trans h1.2
          obtain ⟨l, q1, q2, q3, q4⟩ := sc_list hk n cs xs hcn hl fun i hi => by
            have := hall i hi
            rw [h1.1, Nat.mul_one] at this
            exact this
          exact ⟨(l, ()), ⟨cs, [], by simp, ⟨.inr q2, q1⟩, rfl⟩, ⟨⟨q2, q3⟩, trivial⟩, q4⟩
        · cases hs
      · cases hs
    · rename_i fs ht
      split at hs
      · rename_i l n hl
        split at hs
        · rename_i hn
          cases hs
          obtain ⟨xs, mm, rfl, rfl, hc, hx, hall⟩ := DataW.trod_struct ht h
          have := slFs_open (m := m) (fun t sl cs x hs h => slOf_open f t sl mm cs x hs h) fs.toList 0 _ _ cs xs hl (hc.trans hn.symm) (by simpa using hx) fun i f' hf => hall i f' (by simpa using hf)
          simpa using this
        · cases hs
      · cases hs
    · cases hs

/-- One argument without memory of its own, of several cells. -/
theorem arg_agg {m : GM} {r : Reach} {b0 : Nat} {t : TypeId} {v : Value} {d : DataW H} {ps : List MemPlace} {sl : List SL} (hs : slOf P 8 t = some sl) (hag : isAggT P t = true) (hv : Value.okWide P w r b0 t v)
    (h : DataW.Trod enc P w base spare held t v d ps) : ∃ y : denL sl, TVRel m (.agg (encL sl y)) v ∧ wfL sl y ∧ ps = [] := by
  obtain ⟨fuel, hf⟩ := h
  obtain ⟨y, h1, h2, h3⟩ := slOf_open (m := m) _ _ _ _ _ _ hs hf
  have : ∃ cs, v = .agg cs := by
    unfold isAggT at hag
    unfold Value.okWide at hv
    split at hag
    · rename_i fs ht
      rw [ht] at hv
      obtain ⟨cs, h, _⟩ := hv
      exact ⟨cs, h⟩
    · rename_i n e ht
      rw [ht] at hv
      obtain ⟨cs, h, _⟩ := hv
      exact ⟨cs, h⟩
    · cases hag
  obtain ⟨cs, rfl⟩ := this
  exact ⟨y, ⟨cs, rfl, h1⟩, h2, h3⟩

theorem arg_int {r : Reach} {b0 : Nat} {t : TypeId} {k : IntKind} {v : Value} {d : DataW H} {ps : List MemPlace} (ht : P.underlying t = some (.int k)) (hv : Value.okWide P w r b0 t v)
    (h : DataW.Trod enc P w base spare held t v d ps) : ∃ n, v = .int k n ∧ (Lit.int k n).wf = true ∧ ps = [] := by
  obtain ⟨n, rfl⟩ := Go.WideShapes.okWide_int ht hv
  obtain ⟨fuel, hf⟩ := h
  obtain ⟨n', h1, h2, h3⟩ := DataW.trod_int ht hf
  simp [Value.cells] at h1
  subst h1
  exact ⟨n, rfl, h3, congrArg (·.2) h2⟩

theorem arg_bool {r : Reach} {b0 : Nat} {t : TypeId} {v : Value} {d : DataW H} {ps : List MemPlace} (ht : P.underlying t = some .bool) (hv : Value.okWide P w r b0 t v)
    (h : DataW.Trod enc P w base spare held t v d ps) : ∃ b, v = .bool b ∧ ps = [] := by
  obtain ⟨b, rfl⟩ := Go.WideShapes.okWide_bool ht hv
  obtain ⟨fuel, hf⟩ := h
  obtain ⟨b', h1, h2⟩ := DataW.trod_bool ht hf
  exact ⟨b, rfl, congrArg (·.2) h2⟩

theorem arg_str {r : Reach} {b0 : Nat} {t : TypeId} {v : Value} {d : DataW H} {ps : List MemPlace} (ht : P.underlying t = some .string) (hv : Value.okWide P w r b0 t v)
    (h : DataW.Trod enc P w base spare held t v d ps) : ∃ s, v = .string s ∧ s.size ≤ maxLen ∧ ps = [] := by
  obtain ⟨s, rfl⟩ := Go.WideShapes.okWide_string ht hv
  obtain ⟨fuel, hf⟩ := h
  obtain ⟨s', h1, h2, h3⟩ := DataW.trod_string ht hf
  simp [Value.cells] at h1
  subst h1
  exact ⟨s, rfl, h3, congrArg (·.2) h2⟩

theorem trodAll_below (hl : laidOutB P = true) {W W' : World} (hb : Below W.heap.size W W') : ∀ {ts : List TypeId} {vs : List Value} {ds : List (DataW H)} {ps : List MemPlace},
    (∀ t ∈ ts, P.readableRec t = true ∧ t < P.types.size) → DataW.TrodAll enc P W 0 (fun _ => true) true ts vs ds ps → (∀ x ∈ ps, x.block < W.heap.size) →
    DataW.TrodAll enc P W' 0 (fun b => decide (b < W.heap.size)) true ts vs ds ps
  | [], [], [], ps, _, h, _ => h
  | t :: ts, v :: vs, d :: ds, ps, hr, ⟨p, q, h1, h2, h3⟩, hlt => by
    subst h3
    exact ⟨p, q, Go.RowKit.Below.trod hl (hr t (by simp)).1 (hr t (by simp)).2 h1 hb (fun x hx => hlt x (by simp [hx])), trodAll_below hl hb (fun t ht => hr t (by simp [ht])) h2 (fun x hx => hlt x (by simp [hx])), rfl⟩
  | [], _ :: _, _, _, _, h, _ => h.elim
  | [], [], _ :: _, _, _, h, _ => h.elim
  | _ :: _, [], _, _, _, h, _ => h.elim
  | _ :: _, _ :: _, [], _, _, h, _ => h.elim

theorem Ext.below {w w' : World} (h : Ext w w') : Below w.heap.size w w' := ⟨h.str.1, h.str.2.1, h.str.2.2, h.size, fun k hk => h.block k hk⟩

/-- No objects. -/
theorem inv_nil (w : World) (O : Nat → Prop) : Inv ⟨w, O⟩ [] [] w :=
  ⟨rfl, fun id ob g h => by simp [hget] at h, fun id ob g b h => by simp [hget] at h, fun i j oi oj gi gj b c _ h => by simp [hget] at h, Str.refl w, Nat.le_refl _, fun _ _ _ => rfl⟩

end
end Go.Proofs.Ytillbabmlfjegaa.Ev
end
