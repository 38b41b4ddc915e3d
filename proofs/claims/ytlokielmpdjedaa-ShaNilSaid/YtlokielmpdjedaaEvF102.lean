import Derived.Test.YtlokielmpdjedaaEvS17
import Derived.Test.YtlokielmpdjedaaProg
import Derived.KernelRfl
namespace Go.Proofs.Ytlokielmpdjedaa.X
open Go Go.Proofs.Ytlokielmpdjedaa.Ev Go.Proofs
set_option linter.unusedVariables false
/-! sha.rounded -/
noncomputable def f102_1 {β : Type} (F : Nat)  (K0 : List Int → Option β) : Option β := K0 [1116352408, 1899447441, 3049323471, 3921009573, 961987163, 1508970993, 2453635748, 2870763221, 3624381080, 310598401, 607225278, 1426881987, 1925078388, 2162078206, 2614888103, 3248222580, 3835390401, 4022224774, 264347078, 604807628, 770255983, 1249150122, 1555081692, 1996064986, 2554220882, 2821834349, 2952996808, 3210313671, 3336571891, 3584528711, 113926993, 338241895, 666307205, 773529912, 1294757372, 1396182291, 1695183700, 1986661051, 2177026350, 2456956037, 2730485921, 2820302411, 3259730800, 3345764771, 3516065817, 3600352804, 4094571909, 275423344, 430227734, 506948616, 659060556, 883997877, 958139571, 1322822218, 1537002063, 1747873779, 1955562222, 2024104815, 2227730452, 2361852424, 2428436474, 2756734187, 3204031479, 3329325298]
def sh102_1 : Sh := ⟨[], []⟩
noncomputable def S102_1 (F : Nat) (o : Summ) : Summ := mkS sh102_1 (fun d K => f102_1 F (fun (y0 : List Int) => K [.agg [.seq (.int .u32) 64 y0]] [])) o
noncomputable def code102 : Code := bodyOf Try.f102
theorem scopes102 : scopesOf code102 = [] := by kernel_rfl
theorem loops102 : loopsOf code102 = [] := by kernel_rfl
theorem enter102 : ∀ args w, (callFunc 102 args).run Try.prog w = .ok (.enter 102 args) w := enter_of (fn := Try.f102) (by kernel_rfl) (by kernel_rfl) (by kernel_rfl)
noncomputable def T102_1 (F : Nat) : FuncId → Option Summ := tab []
noncomputable def LT102_1 (F : Nat) : Nat → Option LoopS := ltab []
theorem E102_1g (F : Nat)    (d : sh102_1.den) (K : KF) : evBody Try.prog (tab []) 2 0 (ltab []) code102 Try.f102.results.toList (encT sh102_1.vs d.1) (encH sh102_1.h d.2) K = (fun (K0 : (List Int → Option Res)) => K0 [1116352408, 1899447441, 3049323471, 3921009573, 961987163, 1508970993, 2453635748, 2870763221, 3624381080, 310598401, 607225278, 1426881987, 1925078388, 2162078206, 2614888103, 3248222580, 3835390401, 4022224774, 264347078, 604807628, 770255983, 1249150122, 1555081692, 1996064986, 2554220882, 2821834349, 2952996808, 3210313671, 3336571891, 3584528711, 113926993, 338241895, 666307205, 773529912, 1294757372, 1396182291, 1695183700, 1986661051, 2177026350, 2456956037, 2730485921, 2820302411, 3259730800, 3345764771, 3516065817, 3600352804, 4094571909, 275423344, 430227734, 506948616, 659060556, 883997877, 958139571, 1322822218, 1537002063, 1747873779, 1955562222, 2024104815, 2227730452, 2361852424, 2428436474, 2756734187, 3204031479, 3329325298]) (fun (y0 : List Int) => K [.agg [.seq (.int .u32) 64 y0]] []) := by kernel_rfl
theorem E102_1 (F : Nat) (d : sh102_1.den) (K : KF) : evBody Try.prog (T102_1 F) 2 0 (LT102_1 F) code102 Try.f102.results.toList (encT sh102_1.vs d.1) (encH sh102_1.h d.2) K = f102_1 F (fun (y0 : List Int) => K [.agg [.seq (.int .u32) 64 y0]] []) := Eq.mp (by kernel_rfl) (E102_1g F    d K)
theorem S102_1_ok (F : Nat) (o : Summ) (ho : SoundFn Try.prog 102 o) : SoundFn Try.prog 102 (S102_1 F o) :=
  soundFn_of (fn := Try.f102) (c := code102) (by kernel_rfl) tab_nil (by kernel_rfl) (by kernel_rfl) ho (by rw [loops102]; exact loopsOK_nil) (by rw [scopes102]; exact scopesOK_nil) (E102_1 F)
end Go.Proofs.Ytlokielmpdjedaa.X
