/- Merged: EvF119, EvF98, EvF60, EvF17, EvF77, EvF61, EvF11, EvF13, EvF13v568, EvF16v4555, EvF67v6465, EvF15v4555, EvF50, EvF49, EvF51, EvF51v568, EvF8, EvF4, EvS19, ShaB, ShaC, GeoA. -/
import Derived.Test.YtillbabmlfjegaaMWalkNil2
import Derived.Test.YtillbabmlfjegaaProg
import Derived.KernelRfl
import Derived.Test.YtillbabmlfjegaaMWalkNil4
import Derived.Test.YtillbabmlfjegaaMWalkNil3
section
namespace Go.Proofs.Ytillbabmlfjegaa.X
open Go Go.Proofs.Ytillbabmlfjegaa.Ev Go.Proofs
set_option linter.unusedVariables false
/-! pentimentoref03.constants -/
noncomputable def f119_1 {β : Type} (F : Nat)  (K0 : List Int → Option β) : Option β := K0 [1116352408, 1899447441, 3049323471, 3921009573, 961987163, 1508970993, 2453635748, 2870763221, 3624381080, 310598401, 607225278, 1426881987, 1925078388, 2162078206, 2614888103, 3248222580, 3835390401, 4022224774, 264347078, 604807628, 770255983, 1249150122, 1555081692, 1996064986, 2554220882, 2821834349, 2952996808, 3210313671, 3336571891, 3584528711, 113926993, 338241895, 666307205, 773529912, 1294757372, 1396182291, 1695183700, 1986661051, 2177026350, 2456956037, 2730485921, 2820302411, 3259730800, 3345764771, 3516065817, 3600352804, 4094571909, 275423344, 430227734, 506948616, 659060556, 883997877, 958139571, 1322822218, 1537002063, 1747873779, 1955562222, 2024104815, 2227730452, 2361852424, 2428436474, 2756734187, 3204031479, 3329325298]
def sh119_1 : Sh := ⟨[], []⟩
noncomputable def S119_1 (F : Nat) (o : Summ) : Summ := mkS sh119_1 (fun d K => f119_1 F (fun (y0 : List Int) => K [.lf (.full 0)] [some ⟨false, [.seq (.int .u32) 0 y0]⟩])) o
noncomputable def code119 : Code := bodyOf Try.f119
theorem scopes119 : scopesOf code119 = [] := by kernel_rfl
theorem loops119 : loopsOf code119 = [] := by kernel_rfl
theorem enter119 : ∀ args w, (callFunc 119 args).run Try.prog w = .ok (.enter 119 args) w := enter_of (fn := Try.f119) (by kernel_rfl) (by kernel_rfl) (by kernel_rfl)
noncomputable def T119_1 (F : Nat) : FuncId → Option Summ := tab []
noncomputable def LT119_1 (F : Nat) : Nat → Option LoopS := ltab []
theorem E119_1g (F : Nat)    (d : sh119_1.den) (K : KF) : evBody Try.prog (tab []) 2 0 (ltab []) code119 Try.f119.results.toList (encT sh119_1.vs d.1) (encH sh119_1.h d.2) K = (fun (K0 : (List Int → Option Res)) => K0 [1116352408, 1899447441, 3049323471, 3921009573, 961987163, 1508970993, 2453635748, 2870763221, 3624381080, 310598401, 607225278, 1426881987, 1925078388, 2162078206, 2614888103, 3248222580, 3835390401, 4022224774, 264347078, 604807628, 770255983, 1249150122, 1555081692, 1996064986, 2554220882, 2821834349, 2952996808, 3210313671, 3336571891, 3584528711, 113926993, 338241895, 666307205, 773529912, 1294757372, 1396182291, 1695183700, 1986661051, 2177026350, 2456956037, 2730485921, 2820302411, 3259730800, 3345764771, 3516065817, 3600352804, 4094571909, 275423344, 430227734, 506948616, 659060556, 883997877, 958139571, 1322822218, 1537002063, 1747873779, 1955562222, 2024104815, 2227730452, 2361852424, 2428436474, 2756734187, 3204031479, 3329325298]) (fun (y0 : List Int) => K [.lf (.full 0)] [some ⟨false, [.seq (.int .u32) 0 y0]⟩]) := by kernel_rfl
theorem E119_1 (F : Nat) (d : sh119_1.den) (K : KF) : evBody Try.prog (T119_1 F) 2 0 (LT119_1 F) code119 Try.f119.results.toList (encT sh119_1.vs d.1) (encH sh119_1.h d.2) K = f119_1 F (fun (y0 : List Int) => K [.lf (.full 0)] [some ⟨false, [.seq (.int .u32) 0 y0]⟩]) := Eq.mp (by kernel_rfl) (E119_1g F    d K)
theorem S119_1_ok (F : Nat) (o : Summ) (ho : SoundFn Try.prog 119 o) : SoundFn Try.prog 119 (S119_1 F o) :=
  soundFn_of (fn := Try.f119) (c := code119) (by kernel_rfl) tab_nil (by kernel_rfl) (by kernel_rfl) ho (by rw [loops119]; exact loopsOK_nil) (by rw [scopes119]; exact scopesOK_nil) (E119_1 F)
end Go.Proofs.Ytillbabmlfjegaa.X
end

section
namespace Go.Proofs.Ytillbabmlfjegaa.X
open Go Go.Proofs.Ytillbabmlfjegaa.Ev Go.Proofs
set_option linter.unusedVariables false
/-! pentimentoref03.Sum -/
noncomputable def f98_1_l4 {β : Type} (F : Nat) (v1 : List Int) (K0 : List Int → Option β) : Nat → List Int → Option β
  | 0, _ => none
  | k + 1, v2 => cond ((((v2.length : Nat) : Int).tmod 64) != 56) (cond (decide ((v2.length + 1) * 1 ≤ 70368744177664)) (f98_1_l4 F v1 K0 k (v2 ++ [0])) none) (K0 v2)
noncomputable def f98_1_l8 {β : Type} (F : Nat) (v4 : Int) (v6 : List Int) (K0 : List Int → Option β) : Nat → Int → List Int → Option β
  | 0, _, _ => none
  | k + 1, v5, v7 => cond (decide (v5 ≥ 0)) (cond (decide (IntKind.u64.wrap (IntKind.i64.wrap (8 * v5)) < 0)) none (cond (decide ((v7.length + 1) * 1 ≤ 70368744177664)) (f98_1_l8 F v4 v6 K0 k (IntKind.i64.wrap (v5 - 1)) (v7 ++ [IntKind.u8.wrap (ishr .u64 v4 (IntKind.u64.wrap (IntKind.i64.wrap (8 * v5))))])) none)) (K0 v7)
noncomputable def f98_1_l14 {β : Type} (F : Nat) (v12 : List Int) (v13 : List Int) (v15 : List Int) (K0 : List Int → Option β) : Nat → Int → List Int → Option β
  | 0, _, _ => none
  | k + 1, v11, v14 => cond (decide (IntKind.i64.wrap (v11 + 64) ≤ ((v13.length : Nat) : Int))) (cond (decide ((0 : Int) ≤ v11 ∧ v11 ≤ IntKind.i64.wrap (v11 + 64) ∧ IntKind.i64.wrap (v11 + 64) ≤ ((v13.length : Nat) : Int))) (f120_1 F v14 v15 ((v13.drop (0 + v11.toNat)).take ((IntKind.i64.wrap (v11 + 64) - v11).toNat)) (fun x16 => f98_1_l14 F v12 v13 v15 K0 k (IntKind.i64.wrap (v11 + 64)) x16) ) none) (K0 v14)
noncomputable def f98_1_l19 {β : Type} (F : Nat) (v19 : List Int) (v20 : List Int) (K0 : List Int → Option β) : Nat → Int → List Int → Option β
  | 0, _, _ => none
  | k + 1, v18, v21 => cond (decide (v18 < 8)) (cond (decide ((0 : Int) ≤ v18 ∧ v18 < 8)) (cond (decide (v18.toNat < v20.length)) (cond (decide ((0 : Int) ≤ v18 ∧ v18 < 8)) (cond (decide (v18.toNat < v20.length)) (cond (decide ((0 : Int) ≤ v18 ∧ v18 < 8)) (cond (decide (v18.toNat < v20.length)) (cond (decide ((0 : Int) ≤ v18 ∧ v18 < 8)) (cond (decide (v18.toNat < v20.length)) (cond (decide ((v21.length + 4) * 1 ≤ 70368744177664)) (f98_1_l19 F v19 v20 K0 k (IntKind.i64.wrap (v18 + 1)) (v21 ++ [IntKind.u8.wrap (ishr .u32 (v20.getD v18.toNat 0) 24), IntKind.u8.wrap (ishr .u32 (v20.getD v18.toNat 0) 16), IntKind.u8.wrap (ishr .u32 (v20.getD v18.toNat 0) 8), IntKind.u8.wrap (v20.getD v18.toNat 0)])) none) none) none) none) none) none) none) none) none) (K0 v21)
noncomputable def f98_1 {β : Type} (F : Nat) (a1 : List Int) (K0 : ByteArray → Option β) : Option β := cond (decide (a1.length * 1 ≤ 70368744177664)) (cond (decide ((a1.length + 1) * 1 ≤ 70368744177664)) (f98_1_l4 F a1 (fun x3 => f98_1_l8 F (IntKind.u64.wrap ((IntKind.u64.wrap ((a1.length : Nat) : Int)) * 8)) a1 (fun x8 => f118_1 F  (fun x9 => f119_1 F  (fun x10 => f98_1_l14 F a1 x8 x10 (fun x17 => f98_1_l19 F a1 x17 (fun x22 => K0 (ofInts x22)) F 0 []) F 0 x9) ) ) F 7 x3) F (a1 ++ [128])) none) none
def sh98_1 : Sh := ⟨[.lf (.full 0)], [some ⟨none, [.seq (.int .u8) 0]⟩]⟩
noncomputable def S98_1 (F : Nat) (o : Summ) : Summ := mkS sh98_1 (fun d K => f98_1 F d.2.1.2.1 (fun (y0 : ByteArray) => K [.lf (.str y0)] [some ⟨d.2.1.1, [.seq (.int .u8) 0 d.2.1.2.1]⟩])) o
noncomputable def code98 : Code := bodyOf Try.f98
noncomputable def b98_0 : Code := cB (cB (cL (cR (cR (cR (cR (code98)))))))
noncomputable def b98_1 : Code := cB (cB (cR (cL (cR (cR (cR (cR (cR (cR (code98))))))))))
noncomputable def b98_2 : Code := cB (cB (cR (cL (cR (cR (cR (cR (cR (cR (cR (cR (cR (code98)))))))))))))
noncomputable def b98_3 : Code := cB (cB (cR (cL (cR (cR (cR (cR (cR (cR (cR (cR (cR (cR (cR (code98)))))))))))))))
theorem scopes98 : scopesOf code98 = [] := by kernel_rfl
theorem loops98 : loopsOf code98 = [b98_0, b98_1, b98_2, b98_3] := by kernel_rfl
theorem enter98 : ∀ args w, (callFunc 98 args).run Try.prog w = .ok (.enter 98 args) w := enter_of (fn := Try.f98) (by kernel_rfl) (by kernel_rfl) (by kernel_rfl)
noncomputable def T98_1 (F : Nat) : FuncId → Option Summ := tab [(118, (S118_1 F noS)), (119, (S119_1 F noS)), (120, (S120_1 F noS))]
def sh98_1_l4 : Sh := ⟨[.lf (.full 0), .lf (.full 1)], [some ⟨none, [.seq (.int .u8) 0]⟩, some ⟨some false, [.seq (.int .u8) 0]⟩]⟩
noncomputable def G98_1_4 (F k : Nat) : LoopS := mkG sh98_1_l4 [0, 3] (outT [(.exit 0, [0, 3])]) (fun d K => f98_1_l4 F d.2.1.2.1 (fun (y1 : List Int) => K (.exit 0) [.tv (.lf (.full 0)), .tv (.lf (.full 1))] [some ⟨d.2.1.1, [.seq (.int .u8) 0 d.2.1.2.1]⟩, some ⟨false, [.seq (.int .u8) 0 y1]⟩]) k d.2.2.1.2.1)
def sh98_1_l8 : Sh := ⟨[.lf (.full 1), .lf (.int .u64), .lf (.int .i64)], [some ⟨none, [.seq (.int .u8) 0]⟩, some ⟨some false, [.seq (.int .u8) 0]⟩]⟩
noncomputable def G98_1_8 (F k : Nat) : LoopS := mkG sh98_1_l8 [3, 4, 5] (outT [(.exit 2, [3])]) (fun d K => f98_1_l8 F d.1.2.1 d.2.1.2.1 (fun (y1 : List Int) => K (.exit 2) [.tv (.lf (.full 1))] [some ⟨d.2.1.1, [.seq (.int .u8) 0 d.2.1.2.1]⟩, some ⟨false, [.seq (.int .u8) 0 y1]⟩]) k d.1.2.2.1 d.2.2.1.2.1)
def sh98_1_l14 : Sh := ⟨[.lf (.full 1), .lf (.ptr 2 0), .lf (.full 3), .lf (.int .i64)], [some ⟨none, [.seq (.int .u8) 0]⟩, some ⟨some false, [.seq (.int .u8) 0]⟩, some ⟨some false, [.seq (.int .u32) 8]⟩, some ⟨some false, [.seq (.int .u32) 0]⟩]⟩
noncomputable def G98_1_14 (F k : Nat) : LoopS := mkG sh98_1_l14 [3, 6, 7, 8] (outT [(.exit 4, [6])]) (fun d K => f98_1_l14 F d.2.1.2.1 d.2.2.1.2.1 d.2.2.2.2.1.2.1 (fun (y2 : List Int) => K (.exit 4) [.tv (.lf (.ptr 2 0))] [some ⟨d.2.1.1, [.seq (.int .u8) 0 d.2.1.2.1]⟩, some ⟨false, [.seq (.int .u8) 0 d.2.2.1.2.1]⟩, some ⟨false, [.seq (.int .u32) 8 y2]⟩, some ⟨false, [.seq (.int .u32) 0 d.2.2.2.2.1.2.1]⟩]) k d.1.2.2.2.1 d.2.2.2.1.2.1)
def sh98_1_l19 : Sh := ⟨[.lf (.ptr 1 0), .lf (.full 2), .lf (.int .i64)], [some ⟨none, [.seq (.int .u8) 0]⟩, some ⟨some false, [.seq (.int .u32) 8]⟩, some ⟨some false, [.seq (.int .u8) 0]⟩]⟩
noncomputable def G98_1_19 (F k : Nat) : LoopS := mkG sh98_1_l19 [6, 9, 10] (outT [(.exit 6, [9])]) (fun d K => f98_1_l19 F d.2.1.2.1 d.2.2.1.2.1 (fun (y2 : List Int) => K (.exit 6) [.tv (.lf (.full 2))] [some ⟨d.2.1.1, [.seq (.int .u8) 0 d.2.1.2.1]⟩, some ⟨false, [.seq (.int .u32) 8 d.2.2.1.2.1]⟩, some ⟨false, [.seq (.int .u8) 0 y2]⟩]) k d.1.2.2.1 d.2.2.2.1.2.1)
noncomputable def LT98_1 (F : Nat) : Nat → Option LoopS := ltab [(4, G98_1_4 F F), (8, G98_1_8 F F), (14, G98_1_14 F F), (19, G98_1_19 F F)]
theorem L98_1_4g (F k : Nat) (c118_1 : (List Int → Option Res) → Option Res) (c119_1 : (List Int → Option Res) → Option Res) (c120_1 : List Int → List Int → List Int → (List Int → Option Res) → Option Res)  (l4 : List Int → (List Int → Option Res) → Nat → List Int → Option Res) (X4 : LoopS) (X8 : LoopS) (X14 : LoopS) (X19 : LoopS) (d : sh98_1_l4.den) (K : KL) : (fun (v1 : List Int) (K0 : (List Int → Option Res)) (k : Nat) (v2 : List Int) => cond ((((v2.length : Nat) : Int).tmod 64) != 56) (cond (decide ((v2.length + 1) * 1 ≤ 70368744177664)) (l4 v1 K0 k (v2 ++ [0])) none) (K0 v2)) d.2.1.2.1 (fun (y1 : List Int) => K (.exit 0) [.tv (.lf (.full 0)), .tv (.lf (.full 1))] [some ⟨d.2.1.1, [.seq (.int .u8) 0 d.2.1.2.1]⟩, some ⟨false, [.seq (.int .u8) 0 y1]⟩]) k d.2.2.1.2.1 = roundOf Try.prog (tab [(118, (mkS sh118_1 (fun d K => c118_1 (fun (y0 : List Int) => K [.agg [.seq (.int .u32) 8 y0]] [])) noS)), (119, (mkS sh119_1 (fun d K => c119_1 (fun (y0 : List Int) => K [.lf (.full 0)] [some ⟨false, [.seq (.int .u32) 0 y0]⟩])) noS)), (120, (mkS sh120_1 (fun d K => c120_1 d.1.1.1 d.2.1.2.1 d.2.2.1.2.1 (fun (y0 : List Int) => K [.agg [.seq (.int .u32) 8 y0]] [some ⟨d.2.1.1, [.seq (.int .u32) 0 d.2.1.2.1]⟩, some ⟨d.2.2.1.1, [.seq (.int .u8) 0 d.2.2.1.2.1]⟩])) noS))]) 86 1 (ltab [(4, X4), (8, X8), (14, X14), (19, X19)]) (mkG sh98_1_l4 [0, 3] (outT [(.exit 0, [0, 3])]) (fun d K => l4 d.2.1.2.1 (fun (y1 : List Int) => K (.exit 0) [.tv (.lf (.full 0)), .tv (.lf (.full 1))] [some ⟨d.2.1.1, [.seq (.int .u8) 0 d.2.1.2.1]⟩, some ⟨false, [.seq (.int .u8) 0 y1]⟩]) k d.2.2.1.2.1)) b98_0 (encT sh98_1_l4.vs d.1) (encH sh98_1_l4.h d.2) K := by kernel_rfl
theorem L98_1_4 (F : Nat) : LoopOK Try.prog (T98_1 F) 86 1 (LT98_1 F) (G98_1_4 F F) b98_0 :=
  loopOK_of (s := sh98_1_l4) (live := [0, 3]) (out := (outT [(.exit 0, [0, 3])])) (fun k d K => f98_1_l4 F d.2.1.2.1 (fun (y1 : List Int) => K (.exit 0) [.tv (.lf (.full 0)), .tv (.lf (.full 1))] [some ⟨d.2.1.1, [.seq (.int .u8) 0 d.2.1.2.1]⟩, some ⟨false, [.seq (.int .u8) 0 y1]⟩]) k d.2.2.1.2.1) F (fun d K => by kernel_rfl)  (fun k d K => Eq.mp (by kernel_rfl) (L98_1_4g F k (f118_1 F) (f119_1 F) (f120_1 F)  (f98_1_l4 F) (G98_1_4 F F) (G98_1_8 F F) (G98_1_14 F F) (G98_1_19 F F) d K))
theorem L98_1_8g (F k : Nat) (c118_1 : (List Int → Option Res) → Option Res) (c119_1 : (List Int → Option Res) → Option Res) (c120_1 : List Int → List Int → List Int → (List Int → Option Res) → Option Res)  (l8 : Int → List Int → (List Int → Option Res) → Nat → Int → List Int → Option Res) (X4 : LoopS) (X8 : LoopS) (X14 : LoopS) (X19 : LoopS) (d : sh98_1_l8.den) (K : KL) : (fun (v4 : Int) (v6 : List Int) (K0 : (List Int → Option Res)) (k : Nat) (v5 : Int) (v7 : List Int) => cond (decide (v5 ≥ 0)) (cond (decide (IntKind.u64.wrap (IntKind.i64.wrap (8 * v5)) < 0)) none (cond (decide ((v7.length + 1) * 1 ≤ 70368744177664)) (l8 v4 v6 K0 k (IntKind.i64.wrap (v5 - 1)) (v7 ++ [IntKind.u8.wrap (ishr .u64 v4 (IntKind.u64.wrap (IntKind.i64.wrap (8 * v5))))])) none)) (K0 v7)) d.1.2.1 d.2.1.2.1 (fun (y1 : List Int) => K (.exit 2) [.tv (.lf (.full 1))] [some ⟨d.2.1.1, [.seq (.int .u8) 0 d.2.1.2.1]⟩, some ⟨false, [.seq (.int .u8) 0 y1]⟩]) k d.1.2.2.1 d.2.2.1.2.1 = roundOf Try.prog (tab [(118, (mkS sh118_1 (fun d K => c118_1 (fun (y0 : List Int) => K [.agg [.seq (.int .u32) 8 y0]] [])) noS)), (119, (mkS sh119_1 (fun d K => c119_1 (fun (y0 : List Int) => K [.lf (.full 0)] [some ⟨false, [.seq (.int .u32) 0 y0]⟩])) noS)), (120, (mkS sh120_1 (fun d K => c120_1 d.1.1.1 d.2.1.2.1 d.2.2.1.2.1 (fun (y0 : List Int) => K [.agg [.seq (.int .u32) 8 y0]] [some ⟨d.2.1.1, [.seq (.int .u32) 0 d.2.1.2.1]⟩, some ⟨d.2.2.1.1, [.seq (.int .u8) 0 d.2.2.1.2.1]⟩])) noS))]) 86 1 (ltab [(4, X4), (8, X8), (14, X14), (19, X19)]) (mkG sh98_1_l8 [3, 4, 5] (outT [(.exit 2, [3])]) (fun d K => l8 d.1.2.1 d.2.1.2.1 (fun (y1 : List Int) => K (.exit 2) [.tv (.lf (.full 1))] [some ⟨d.2.1.1, [.seq (.int .u8) 0 d.2.1.2.1]⟩, some ⟨false, [.seq (.int .u8) 0 y1]⟩]) k d.1.2.2.1 d.2.2.1.2.1)) b98_1 (encT sh98_1_l8.vs d.1) (encH sh98_1_l8.h d.2) K := by kernel_rfl
theorem L98_1_8 (F : Nat) : LoopOK Try.prog (T98_1 F) 86 1 (LT98_1 F) (G98_1_8 F F) b98_1 :=
  loopOK_of (s := sh98_1_l8) (live := [3, 4, 5]) (out := (outT [(.exit 2, [3])])) (fun k d K => f98_1_l8 F d.1.2.1 d.2.1.2.1 (fun (y1 : List Int) => K (.exit 2) [.tv (.lf (.full 1))] [some ⟨d.2.1.1, [.seq (.int .u8) 0 d.2.1.2.1]⟩, some ⟨false, [.seq (.int .u8) 0 y1]⟩]) k d.1.2.2.1 d.2.2.1.2.1) F (fun d K => by kernel_rfl)  (fun k d K => Eq.mp (by kernel_rfl) (L98_1_8g F k (f118_1 F) (f119_1 F) (f120_1 F)  (f98_1_l8 F) (G98_1_4 F F) (G98_1_8 F F) (G98_1_14 F F) (G98_1_19 F F) d K))
theorem L98_1_14g (F k : Nat) (c118_1 : (List Int → Option Res) → Option Res) (c119_1 : (List Int → Option Res) → Option Res) (c120_1 : List Int → List Int → List Int → (List Int → Option Res) → Option Res)  (l14 : List Int → List Int → List Int → (List Int → Option Res) → Nat → Int → List Int → Option Res) (X4 : LoopS) (X8 : LoopS) (X14 : LoopS) (X19 : LoopS) (d : sh98_1_l14.den) (K : KL) : (fun (v12 : List Int) (v13 : List Int) (v15 : List Int) (K0 : (List Int → Option Res)) (k : Nat) (v11 : Int) (v14 : List Int) => cond (decide (IntKind.i64.wrap (v11 + 64) ≤ ((v13.length : Nat) : Int))) (cond (decide ((0 : Int) ≤ v11 ∧ v11 ≤ IntKind.i64.wrap (v11 + 64) ∧ IntKind.i64.wrap (v11 + 64) ≤ ((v13.length : Nat) : Int))) (c120_1 v14 v15 ((v13.drop (0 + v11.toNat)).take ((IntKind.i64.wrap (v11 + 64) - v11).toNat)) (fun x16 => l14 v12 v13 v15 K0 k (IntKind.i64.wrap (v11 + 64)) x16) ) none) (K0 v14)) d.2.1.2.1 d.2.2.1.2.1 d.2.2.2.2.1.2.1 (fun (y2 : List Int) => K (.exit 4) [.tv (.lf (.ptr 2 0))] [some ⟨d.2.1.1, [.seq (.int .u8) 0 d.2.1.2.1]⟩, some ⟨false, [.seq (.int .u8) 0 d.2.2.1.2.1]⟩, some ⟨false, [.seq (.int .u32) 8 y2]⟩, some ⟨false, [.seq (.int .u32) 0 d.2.2.2.2.1.2.1]⟩]) k d.1.2.2.2.1 d.2.2.2.1.2.1 = roundOf Try.prog (tab [(118, (mkS sh118_1 (fun d K => c118_1 (fun (y0 : List Int) => K [.agg [.seq (.int .u32) 8 y0]] [])) noS)), (119, (mkS sh119_1 (fun d K => c119_1 (fun (y0 : List Int) => K [.lf (.full 0)] [some ⟨false, [.seq (.int .u32) 0 y0]⟩])) noS)), (120, (mkS sh120_1 (fun d K => c120_1 d.1.1.1 d.2.1.2.1 d.2.2.1.2.1 (fun (y0 : List Int) => K [.agg [.seq (.int .u32) 8 y0]] [some ⟨d.2.1.1, [.seq (.int .u32) 0 d.2.1.2.1]⟩, some ⟨d.2.2.1.1, [.seq (.int .u8) 0 d.2.2.1.2.1]⟩])) noS))]) 86 1 (ltab [(4, X4), (8, X8), (14, X14), (19, X19)]) (mkG sh98_1_l14 [3, 6, 7, 8] (outT [(.exit 4, [6])]) (fun d K => l14 d.2.1.2.1 d.2.2.1.2.1 d.2.2.2.2.1.2.1 (fun (y2 : List Int) => K (.exit 4) [.tv (.lf (.ptr 2 0))] [some ⟨d.2.1.1, [.seq (.int .u8) 0 d.2.1.2.1]⟩, some ⟨false, [.seq (.int .u8) 0 d.2.2.1.2.1]⟩, some ⟨false, [.seq (.int .u32) 8 y2]⟩, some ⟨false, [.seq (.int .u32) 0 d.2.2.2.2.1.2.1]⟩]) k d.1.2.2.2.1 d.2.2.2.1.2.1)) b98_2 (encT sh98_1_l14.vs d.1) (encH sh98_1_l14.h d.2) K := by kernel_rfl
theorem L98_1_14 (F : Nat) : LoopOK Try.prog (T98_1 F) 86 1 (LT98_1 F) (G98_1_14 F F) b98_2 :=
  loopOK_of (s := sh98_1_l14) (live := [3, 6, 7, 8]) (out := (outT [(.exit 4, [6])])) (fun k d K => f98_1_l14 F d.2.1.2.1 d.2.2.1.2.1 d.2.2.2.2.1.2.1 (fun (y2 : List Int) => K (.exit 4) [.tv (.lf (.ptr 2 0))] [some ⟨d.2.1.1, [.seq (.int .u8) 0 d.2.1.2.1]⟩, some ⟨false, [.seq (.int .u8) 0 d.2.2.1.2.1]⟩, some ⟨false, [.seq (.int .u32) 8 y2]⟩, some ⟨false, [.seq (.int .u32) 0 d.2.2.2.2.1.2.1]⟩]) k d.1.2.2.2.1 d.2.2.2.1.2.1) F (fun d K => by kernel_rfl)  (fun k d K => Eq.mp (by kernel_rfl) (L98_1_14g F k (f118_1 F) (f119_1 F) (f120_1 F)  (f98_1_l14 F) (G98_1_4 F F) (G98_1_8 F F) (G98_1_14 F F) (G98_1_19 F F) d K))
theorem L98_1_19g (F k : Nat) (c118_1 : (List Int → Option Res) → Option Res) (c119_1 : (List Int → Option Res) → Option Res) (c120_1 : List Int → List Int → List Int → (List Int → Option Res) → Option Res)  (l19 : List Int → List Int → (List Int → Option Res) → Nat → Int → List Int → Option Res) (X4 : LoopS) (X8 : LoopS) (X14 : LoopS) (X19 : LoopS) (d : sh98_1_l19.den) (K : KL) : (fun (v19 : List Int) (v20 : List Int) (K0 : (List Int → Option Res)) (k : Nat) (v18 : Int) (v21 : List Int) => cond (decide (v18 < 8)) (cond (decide ((0 : Int) ≤ v18 ∧ v18 < 8)) (cond (decide (v18.toNat < v20.length)) (cond (decide ((0 : Int) ≤ v18 ∧ v18 < 8)) (cond (decide (v18.toNat < v20.length)) (cond (decide ((0 : Int) ≤ v18 ∧ v18 < 8)) (cond (decide (v18.toNat < v20.length)) (cond (decide ((0 : Int) ≤ v18 ∧ v18 < 8)) (cond (decide (v18.toNat < v20.length)) (cond (decide ((v21.length + 4) * 1 ≤ 70368744177664)) (l19 v19 v20 K0 k (IntKind.i64.wrap (v18 + 1)) (v21 ++ [IntKind.u8.wrap (ishr .u32 (v20.getD v18.toNat 0) 24), IntKind.u8.wrap (ishr .u32 (v20.getD v18.toNat 0) 16), IntKind.u8.wrap (ishr .u32 (v20.getD v18.toNat 0) 8), IntKind.u8.wrap (v20.getD v18.toNat 0)])) none) none) none) none) none) none) none) none) none) (K0 v21)) d.2.1.2.1 d.2.2.1.2.1 (fun (y2 : List Int) => K (.exit 6) [.tv (.lf (.full 2))] [some ⟨d.2.1.1, [.seq (.int .u8) 0 d.2.1.2.1]⟩, some ⟨false, [.seq (.int .u32) 8 d.2.2.1.2.1]⟩, some ⟨false, [.seq (.int .u8) 0 y2]⟩]) k d.1.2.2.1 d.2.2.2.1.2.1 = roundOf Try.prog (tab [(118, (mkS sh118_1 (fun d K => c118_1 (fun (y0 : List Int) => K [.agg [.seq (.int .u32) 8 y0]] [])) noS)), (119, (mkS sh119_1 (fun d K => c119_1 (fun (y0 : List Int) => K [.lf (.full 0)] [some ⟨false, [.seq (.int .u32) 0 y0]⟩])) noS)), (120, (mkS sh120_1 (fun d K => c120_1 d.1.1.1 d.2.1.2.1 d.2.2.1.2.1 (fun (y0 : List Int) => K [.agg [.seq (.int .u32) 8 y0]] [some ⟨d.2.1.1, [.seq (.int .u32) 0 d.2.1.2.1]⟩, some ⟨d.2.2.1.1, [.seq (.int .u8) 0 d.2.2.1.2.1]⟩])) noS))]) 86 1 (ltab [(4, X4), (8, X8), (14, X14), (19, X19)]) (mkG sh98_1_l19 [6, 9, 10] (outT [(.exit 6, [9])]) (fun d K => l19 d.2.1.2.1 d.2.2.1.2.1 (fun (y2 : List Int) => K (.exit 6) [.tv (.lf (.full 2))] [some ⟨d.2.1.1, [.seq (.int .u8) 0 d.2.1.2.1]⟩, some ⟨false, [.seq (.int .u32) 8 d.2.2.1.2.1]⟩, some ⟨false, [.seq (.int .u8) 0 y2]⟩]) k d.1.2.2.1 d.2.2.2.1.2.1)) b98_3 (encT sh98_1_l19.vs d.1) (encH sh98_1_l19.h d.2) K := by kernel_rfl
theorem L98_1_19 (F : Nat) : LoopOK Try.prog (T98_1 F) 86 1 (LT98_1 F) (G98_1_19 F F) b98_3 :=
  loopOK_of (s := sh98_1_l19) (live := [6, 9, 10]) (out := (outT [(.exit 6, [9])])) (fun k d K => f98_1_l19 F d.2.1.2.1 d.2.2.1.2.1 (fun (y2 : List Int) => K (.exit 6) [.tv (.lf (.full 2))] [some ⟨d.2.1.1, [.seq (.int .u8) 0 d.2.1.2.1]⟩, some ⟨false, [.seq (.int .u32) 8 d.2.2.1.2.1]⟩, some ⟨false, [.seq (.int .u8) 0 y2]⟩]) k d.1.2.2.1 d.2.2.2.1.2.1) F (fun d K => by kernel_rfl)  (fun k d K => Eq.mp (by kernel_rfl) (L98_1_19g F k (f118_1 F) (f119_1 F) (f120_1 F)  (f98_1_l19 F) (G98_1_4 F F) (G98_1_8 F F) (G98_1_14 F F) (G98_1_19 F F) d K))
theorem E98_1g (F : Nat) (c118_1 : (List Int → Option Res) → Option Res) (c119_1 : (List Int → Option Res) → Option Res) (c120_1 : List Int → List Int → List Int → (List Int → Option Res) → Option Res) (l4 : List Int → (List Int → Option Res) → Nat → List Int → Option Res) (l8 : Int → List Int → (List Int → Option Res) → Nat → Int → List Int → Option Res) (l14 : List Int → List Int → List Int → (List Int → Option Res) → Nat → Int → List Int → Option Res) (l19 : List Int → List Int → (List Int → Option Res) → Nat → Int → List Int → Option Res)  (d : sh98_1.den) (K : KF) : evBody Try.prog (tab [(118, (mkS sh118_1 (fun d K => c118_1 (fun (y0 : List Int) => K [.agg [.seq (.int .u32) 8 y0]] [])) noS)), (119, (mkS sh119_1 (fun d K => c119_1 (fun (y0 : List Int) => K [.lf (.full 0)] [some ⟨false, [.seq (.int .u32) 0 y0]⟩])) noS)), (120, (mkS sh120_1 (fun d K => c120_1 d.1.1.1 d.2.1.2.1 d.2.2.1.2.1 (fun (y0 : List Int) => K [.agg [.seq (.int .u32) 8 y0]] [some ⟨d.2.1.1, [.seq (.int .u32) 0 d.2.1.2.1]⟩, some ⟨d.2.2.1.1, [.seq (.int .u8) 0 d.2.2.1.2.1]⟩])) noS))]) 86 1 (ltab [(4, mkG sh98_1_l4 [0, 3] (outT [(.exit 0, [0, 3])]) (fun d K => l4 d.2.1.2.1 (fun (y1 : List Int) => K (.exit 0) [.tv (.lf (.full 0)), .tv (.lf (.full 1))] [some ⟨d.2.1.1, [.seq (.int .u8) 0 d.2.1.2.1]⟩, some ⟨false, [.seq (.int .u8) 0 y1]⟩]) F d.2.2.1.2.1)), (8, mkG sh98_1_l8 [3, 4, 5] (outT [(.exit 2, [3])]) (fun d K => l8 d.1.2.1 d.2.1.2.1 (fun (y1 : List Int) => K (.exit 2) [.tv (.lf (.full 1))] [some ⟨d.2.1.1, [.seq (.int .u8) 0 d.2.1.2.1]⟩, some ⟨false, [.seq (.int .u8) 0 y1]⟩]) F d.1.2.2.1 d.2.2.1.2.1)), (14, mkG sh98_1_l14 [3, 6, 7, 8] (outT [(.exit 4, [6])]) (fun d K => l14 d.2.1.2.1 d.2.2.1.2.1 d.2.2.2.2.1.2.1 (fun (y2 : List Int) => K (.exit 4) [.tv (.lf (.ptr 2 0))] [some ⟨d.2.1.1, [.seq (.int .u8) 0 d.2.1.2.1]⟩, some ⟨false, [.seq (.int .u8) 0 d.2.2.1.2.1]⟩, some ⟨false, [.seq (.int .u32) 8 y2]⟩, some ⟨false, [.seq (.int .u32) 0 d.2.2.2.2.1.2.1]⟩]) F d.1.2.2.2.1 d.2.2.2.1.2.1)), (19, mkG sh98_1_l19 [6, 9, 10] (outT [(.exit 6, [9])]) (fun d K => l19 d.2.1.2.1 d.2.2.1.2.1 (fun (y2 : List Int) => K (.exit 6) [.tv (.lf (.full 2))] [some ⟨d.2.1.1, [.seq (.int .u8) 0 d.2.1.2.1]⟩, some ⟨false, [.seq (.int .u32) 8 d.2.2.1.2.1]⟩, some ⟨false, [.seq (.int .u8) 0 y2]⟩]) F d.1.2.2.1 d.2.2.2.1.2.1))]) code98 Try.f98.results.toList (encT sh98_1.vs d.1) (encH sh98_1.h d.2) K = (fun (a1 : List Int) (K0 : (ByteArray → Option Res)) => cond (decide (a1.length * 1 ≤ 70368744177664)) (cond (decide ((a1.length + 1) * 1 ≤ 70368744177664)) (l4 a1 (fun x3 => l8 (IntKind.u64.wrap ((IntKind.u64.wrap ((a1.length : Nat) : Int)) * 8)) a1 (fun x8 => c118_1  (fun x9 => c119_1  (fun x10 => l14 a1 x8 x10 (fun x17 => l19 a1 x17 (fun x22 => K0 (ofInts x22)) F 0 []) F 0 x9) ) ) F 7 x3) F (a1 ++ [128])) none) none) d.2.1.2.1 (fun (y0 : ByteArray) => K [.lf (.str y0)] [some ⟨d.2.1.1, [.seq (.int .u8) 0 d.2.1.2.1]⟩]) := by kernel_rfl
theorem E98_1 (F : Nat) (d : sh98_1.den) (K : KF) : evBody Try.prog (T98_1 F) 86 1 (LT98_1 F) code98 Try.f98.results.toList (encT sh98_1.vs d.1) (encH sh98_1.h d.2) K = f98_1 F d.2.1.2.1 (fun (y0 : ByteArray) => K [.lf (.str y0)] [some ⟨d.2.1.1, [.seq (.int .u8) 0 d.2.1.2.1]⟩]) := Eq.mp (by kernel_rfl) (E98_1g F (f118_1 F) (f119_1 F) (f120_1 F) (f98_1_l4 F) (f98_1_l8 F) (f98_1_l14 F) (f98_1_l19 F)  d K)
theorem S98_1_ok (F : Nat) (o : Summ) (ho : SoundFn Try.prog 98 o) : SoundFn Try.prog 98 (S98_1 F o) :=
  soundFn_of (fn := Try.f98) (c := code98) (by kernel_rfl) (tab_cons (S118_1_ok F _ (noS_sound enter118)) (tab_cons (S119_1_ok F _ (noS_sound enter119)) (tab_cons (S120_1_ok F _ (noS_sound enter120)) tab_nil))) (by kernel_rfl) (by kernel_rfl) ho (by rw [loops98]; exact (loopsOK_cons (by kernel_rfl) (L98_1_4 F) (loopsOK_cons (by kernel_rfl) (L98_1_8 F) (loopsOK_cons (by kernel_rfl) (L98_1_14 F) (loopsOK_cons (by kernel_rfl) (L98_1_19 F) loopsOK_nil))))) (by rw [scopes98]; exact scopesOK_nil) (E98_1 F)
end Go.Proofs.Ytillbabmlfjegaa.X
end

section
namespace Go.Proofs.Ytillbabmlfjegaa.X
open Go Go.Proofs.Ytillbabmlfjegaa.Ev Go.Proofs
set_option linter.unusedVariables false
/-! pentimentoref04.Leaf -/
noncomputable def f60_1 {β : Type} (F : Nat) (a1 : ByteArray) (K0 : ByteArray → Option β) : Option β := cond (decide ((⟨#[0]⟩ : ByteArray).size + a1.size ≤ 4611686018427387904)) (f98_1 F (toInts ((⟨#[0]⟩ : ByteArray) ++ a1)) (fun x1 => K0 x1) ) none
def sh60_1 : Sh := ⟨[.lf (.str)], []⟩
noncomputable def S60_1 (F : Nat) (o : Summ) : Summ := mkS sh60_1 (fun d K => f60_1 F d.1.1 (fun (y0 : ByteArray) => K [.lf (.str y0)] [])) o
noncomputable def code60 : Code := bodyOf Try.f60
theorem scopes60 : scopesOf code60 = [] := by kernel_rfl
theorem loops60 : loopsOf code60 = [] := by kernel_rfl
theorem enter60 : ∀ args w, (callFunc 60 args).run Try.prog w = .ok (.enter 60 args) w := enter_of (fn := Try.f60) (by kernel_rfl) (by kernel_rfl) (by kernel_rfl)
noncomputable def T60_1 (F : Nat) : FuncId → Option Summ := tab [(98, (S98_1 F noS))]
noncomputable def LT60_1 (F : Nat) : Nat → Option LoopS := ltab []
theorem E60_1g (F : Nat) (c98_1 : List Int → (ByteArray → Option Res) → Option Res)   (d : sh60_1.den) (K : KF) : evBody Try.prog (tab [(98, (mkS sh98_1 (fun d K => c98_1 d.2.1.2.1 (fun (y0 : ByteArray) => K [.lf (.str y0)] [some ⟨d.2.1.1, [.seq (.int .u8) 0 d.2.1.2.1]⟩])) noS))]) 7 0 (ltab []) code60 Try.f60.results.toList (encT sh60_1.vs d.1) (encH sh60_1.h d.2) K = (fun (a1 : ByteArray) (K0 : (ByteArray → Option Res)) => cond (decide ((⟨#[0]⟩ : ByteArray).size + a1.size ≤ 4611686018427387904)) (c98_1 (toInts ((⟨#[0]⟩ : ByteArray) ++ a1)) (fun x1 => K0 x1) ) none) d.1.1 (fun (y0 : ByteArray) => K [.lf (.str y0)] []) := by kernel_rfl
theorem E60_1 (F : Nat) (d : sh60_1.den) (K : KF) : evBody Try.prog (T60_1 F) 7 0 (LT60_1 F) code60 Try.f60.results.toList (encT sh60_1.vs d.1) (encH sh60_1.h d.2) K = f60_1 F d.1.1 (fun (y0 : ByteArray) => K [.lf (.str y0)] []) := Eq.mp (by kernel_rfl) (E60_1g F (f98_1 F)   d K)
theorem S60_1_ok (F : Nat) (o : Summ) (ho : SoundFn Try.prog 60 o) : SoundFn Try.prog 60 (S60_1 F o) :=
  soundFn_of (fn := Try.f60) (c := code60) (by kernel_rfl) (tab_cons (S98_1_ok F _ (noS_sound enter98)) tab_nil) (by kernel_rfl) (by kernel_rfl) ho (by rw [loops60]; exact loopsOK_nil) (by rw [scopes60]; exact scopesOK_nil) (E60_1 F)
end Go.Proofs.Ytillbabmlfjegaa.X
end

section
namespace Go.Proofs.Ytillbabmlfjegaa.X
open Go Go.Proofs.Ytillbabmlfjegaa.Ev Go.Proofs
set_option linter.unusedVariables false
/-! pentimentoref07.Children -/
noncomputable def f17_1_l10 {β : Type} (F : Nat) (v10 : Int) (v11 : Int) (v12 : Int) (v13 : Int) (v15 : Int) (v16 : Int) (v17 : Int) (v18 : Int) (v19 : List Int) (K0 : List Int → Option β) : Nat → Int → List Int → Option β
  | 0, _, _ => none
  | k + 1, v14, v20 => cond (decide (v14 < v16)) (cond (decide ((0 : Int) ≤ v12 ∧ v12 < ((v19.length : Nat) : Int))) (cond (decide (0 + v12.toNat < v19.length)) (cond (decide (IntKind.i64.wrap ((IntKind.i64.wrap ((IntKind.i64.wrap (v10 - v13)) * v16)) + v14) < v19.getD (0 + v12.toNat) 0)) (cond (decide ((v20.length + 1) * 8 ≤ 70368744177664)) (f17_1_l10 F v10 v11 v12 v13 v15 v16 v17 v18 v19 K0 k (IntKind.i64.wrap (v14 + 1)) (v20 ++ [IntKind.i64.wrap (v11 + (IntKind.i64.wrap ((IntKind.i64.wrap ((IntKind.i64.wrap (v10 - v13)) * v16)) + v14)))])) none) (f17_1_l10 F v10 v11 v12 v13 v15 v16 v17 v18 v19 K0 k (IntKind.i64.wrap (v14 + 1)) v20)) none) none) (K0 v20)
noncomputable def f17_1_l4 {β : Type} (F : Nat) (v2 : Int) (v5 : Int) (v6 : Int) (v7 : Int) (v8 : Int) (v9 : List Int) (K0 : List Int → Option β) (K1 : Option β) : Nat → Int → Int → Option β
  | 0, _, _ => none
  | k + 1, v3, v4 => cond (decide (IntKind.i64.wrap (v4 + 1) < ((v9.length : Nat) : Int))) (cond (decide ((0 : Int) ≤ v4 ∧ v4 < ((v9.length : Nat) : Int))) (cond (decide (0 + v4.toNat < v9.length)) (cond (decide (v2 ≥ IntKind.i64.wrap (v3 + (v9.getD (0 + v4.toNat) 0)))) (cond (decide ((0 : Int) ≤ IntKind.i64.wrap (v4 + 1) ∧ IntKind.i64.wrap (v4 + 1) < ((v9.length : Nat) : Int))) (cond (decide (0 + ((IntKind.i64.wrap (v4 + 1)).toNat) < v9.length)) (cond (decide (v2 < IntKind.i64.wrap ((IntKind.i64.wrap (v3 + (v9.getD (0 + v4.toNat) 0))) + (v9.getD (0 + ((IntKind.i64.wrap (v4 + 1)).toNat)) 0)))) (f17_1_l10 F v2 v3 v4 (IntKind.i64.wrap (v3 + (v9.getD (0 + v4.toNat) 0))) v5 v6 v7 v8 v9 (fun x21 => K0 x21) F 0 []) (f17_1_l4 F v2 v5 v6 v7 v8 v9 K0 K1 k (IntKind.i64.wrap (v3 + (v9.getD (0 + v4.toNat) 0))) (IntKind.i64.wrap (v4 + 1)))) none) none) (f17_1_l4 F v2 v5 v6 v7 v8 v9 K0 K1 k (IntKind.i64.wrap (v3 + (v9.getD (0 + v4.toNat) 0))) (IntKind.i64.wrap (v4 + 1)))) none) none) (K1)
noncomputable def f17_1 {β : Type} (F : Nat) (a1 : Int) (a2 : Int) (a3 : Int) (a4 : Int) (a5 : Int) (K0 : List Int → Option β) : Option β := f66_1 F a1 a2 a3 a4 (fun x1 => f17_1_l4 F a5 a1 a2 a3 a4 x1 (fun x22 => K0 x22) (K0 []) F 0 0) 
def sh17_1 : Sh := ⟨[.agg [.int .i64, .int .i64, .int .i64, .int .i64], .lf (.int .i64)], []⟩
noncomputable def S17_1 (F : Nat) (o : Summ) : Summ := mkS sh17_1 (fun d K => f17_1 F d.1.1.1 d.1.1.2.1 d.1.1.2.2.1 d.1.1.2.2.2.1 d.1.2.1 (fun (y0 : List Int) => K [.lf (.full 0)] [some ⟨false, [.seq (.int .i64) 0 y0]⟩])) o
noncomputable def code17 : Code := bodyOf Try.f17
noncomputable def b17_0 : Code := cB (cB (cR (cL (cR (cR (cR (code17)))))))
noncomputable def b17_1 : Code := cB (cB (cR (cL (cR (cT (cR (cL (cR (cB (cL (cR (cB (cB (cR (cL (cR (cR (cR (code17)))))))))))))))))))
theorem scopes17 : scopesOf code17 = [] := by kernel_rfl
theorem loops17 : loopsOf code17 = [b17_0, b17_1] := by kernel_rfl
theorem enter17 : ∀ args w, (callFunc 17 args).run Try.prog w = .ok (.enter 17 args) w := enter_of (fn := Try.f17) (by kernel_rfl) (by kernel_rfl) (by kernel_rfl)
noncomputable def T17_1 (F : Nat) : FuncId → Option Summ := tab [(66, (S66_1 F noS))]
def sh17_1_l10 : Sh := ⟨[.lf (.int .i64), .lf (.ptr 0 0), .lf (.full 1), .lf (.int .i64), .lf (.int .i64), .lf (.int .i64), .lf (.full 2), .lf (.int .i64)], [some ⟨some false, [.int .i64, .int .i64, .int .i64, .int .i64]⟩, some ⟨some false, [.seq (.int .i64) 0]⟩, some ⟨some false, [.seq (.int .i64) 0]⟩]⟩
noncomputable def G17_1_10 (F k : Nat) : LoopS := mkG sh17_1_l10 [1, 2, 5, 6, 7, 8, 9, 10] (outT [(.exit 2, [9])]) (fun d K => f17_1_l10 F d.1.1 d.1.2.2.2.1 d.1.2.2.2.2.1 d.1.2.2.2.2.2.1 d.2.1.2.1 d.2.1.2.2.1 d.2.1.2.2.2.1 d.2.1.2.2.2.2.1 d.2.2.1.2.1 (fun (y5 : List Int) => K (.exit 2) [.tv (.lf (.full 2))] [some ⟨false, [.int .i64 d.2.1.2.1, .int .i64 d.2.1.2.2.1, .int .i64 d.2.1.2.2.2.1, .int .i64 d.2.1.2.2.2.2.1]⟩, some ⟨false, [.seq (.int .i64) 0 d.2.2.1.2.1]⟩, some ⟨false, [.seq (.int .i64) 0 y5]⟩]) k d.1.2.2.2.2.2.2.2.1 d.2.2.2.1.2.1)
def sh17_1_l4 : Sh := ⟨[.lf (.int .i64), .lf (.ptr 0 0), .lf (.full 1), .lf (.int .i64), .lf (.int .i64)], [some ⟨some false, [.int .i64, .int .i64, .int .i64, .int .i64]⟩, some ⟨some false, [.seq (.int .i64) 0]⟩]⟩
noncomputable def G17_1_4 (F k : Nat) : LoopS := mkG sh17_1_l4 [1, 2, 5, 6, 7] (outT [(.exit 0, []), (.ret, [4])]) (fun d K => f17_1_l4 F d.1.1 d.2.1.2.1 d.2.1.2.2.1 d.2.1.2.2.2.1 d.2.1.2.2.2.2.1 d.2.2.1.2.1 (fun (y5 : List Int) => K .ret [.tv (.lf (.full 2))] [some ⟨false, [.int .i64 d.2.1.2.1, .int .i64 d.2.1.2.2.1, .int .i64 d.2.1.2.2.2.1, .int .i64 d.2.1.2.2.2.2.1]⟩, some ⟨false, [.seq (.int .i64) 0 d.2.2.1.2.1]⟩, some ⟨false, [.seq (.int .i64) 0 y5]⟩]) (K (.exit 0) [] [some ⟨false, [.int .i64 d.2.1.2.1, .int .i64 d.2.1.2.2.1, .int .i64 d.2.1.2.2.2.1, .int .i64 d.2.1.2.2.2.2.1]⟩, some ⟨false, [.seq (.int .i64) 0 d.2.2.1.2.1]⟩]) k d.1.2.2.2.1 d.1.2.2.2.2.1)
noncomputable def LT17_1 (F : Nat) : Nat → Option LoopS := ltab [(10, G17_1_10 F F), (4, G17_1_4 F F)]
theorem L17_1_10g (F k : Nat) (c66_1 : Int → Int → Int → Int → (List Int → Option Res) → Option Res)  (l10 : Int → Int → Int → Int → Int → Int → Int → Int → List Int → (List Int → Option Res) → Nat → Int → List Int → Option Res) (X10 : LoopS) (X4 : LoopS) (d : sh17_1_l10.den) (K : KL) : (fun (v10 : Int) (v11 : Int) (v12 : Int) (v13 : Int) (v15 : Int) (v16 : Int) (v17 : Int) (v18 : Int) (v19 : List Int) (K0 : (List Int → Option Res)) (k : Nat) (v14 : Int) (v20 : List Int) => cond (decide (v14 < v16)) (cond (decide ((0 : Int) ≤ v12 ∧ v12 < ((v19.length : Nat) : Int))) (cond (decide (0 + v12.toNat < v19.length)) (cond (decide (IntKind.i64.wrap ((IntKind.i64.wrap ((IntKind.i64.wrap (v10 - v13)) * v16)) + v14) < v19.getD (0 + v12.toNat) 0)) (cond (decide ((v20.length + 1) * 8 ≤ 70368744177664)) (l10 v10 v11 v12 v13 v15 v16 v17 v18 v19 K0 k (IntKind.i64.wrap (v14 + 1)) (v20 ++ [IntKind.i64.wrap (v11 + (IntKind.i64.wrap ((IntKind.i64.wrap ((IntKind.i64.wrap (v10 - v13)) * v16)) + v14)))])) none) (l10 v10 v11 v12 v13 v15 v16 v17 v18 v19 K0 k (IntKind.i64.wrap (v14 + 1)) v20)) none) none) (K0 v20)) d.1.1 d.1.2.2.2.1 d.1.2.2.2.2.1 d.1.2.2.2.2.2.1 d.2.1.2.1 d.2.1.2.2.1 d.2.1.2.2.2.1 d.2.1.2.2.2.2.1 d.2.2.1.2.1 (fun (y5 : List Int) => K (.exit 2) [.tv (.lf (.full 2))] [some ⟨false, [.int .i64 d.2.1.2.1, .int .i64 d.2.1.2.2.1, .int .i64 d.2.1.2.2.2.1, .int .i64 d.2.1.2.2.2.2.1]⟩, some ⟨false, [.seq (.int .i64) 0 d.2.2.1.2.1]⟩, some ⟨false, [.seq (.int .i64) 0 y5]⟩]) k d.1.2.2.2.2.2.2.2.1 d.2.2.2.1.2.1 = roundOf Try.prog (tab [(66, (mkS sh66_1 (fun d K => c66_1 d.1.1.1 d.1.1.2.1 d.1.1.2.2.1 d.1.1.2.2.2.1 (fun (y0 : List Int) => K [.lf (.full 0)] [some ⟨false, [.seq (.int .i64) 0 y0]⟩])) noS))]) 69 0 (ltab [(10, X10), (4, X4)]) (mkG sh17_1_l10 [1, 2, 5, 6, 7, 8, 9, 10] (outT [(.exit 2, [9])]) (fun d K => l10 d.1.1 d.1.2.2.2.1 d.1.2.2.2.2.1 d.1.2.2.2.2.2.1 d.2.1.2.1 d.2.1.2.2.1 d.2.1.2.2.2.1 d.2.1.2.2.2.2.1 d.2.2.1.2.1 (fun (y5 : List Int) => K (.exit 2) [.tv (.lf (.full 2))] [some ⟨false, [.int .i64 d.2.1.2.1, .int .i64 d.2.1.2.2.1, .int .i64 d.2.1.2.2.2.1, .int .i64 d.2.1.2.2.2.2.1]⟩, some ⟨false, [.seq (.int .i64) 0 d.2.2.1.2.1]⟩, some ⟨false, [.seq (.int .i64) 0 y5]⟩]) k d.1.2.2.2.2.2.2.2.1 d.2.2.2.1.2.1)) b17_1 (encT sh17_1_l10.vs d.1) (encH sh17_1_l10.h d.2) K := by kernel_rfl
theorem L17_1_10 (F : Nat) : LoopOK Try.prog (T17_1 F) 69 0 (LT17_1 F) (G17_1_10 F F) b17_1 :=
  loopOK_of (s := sh17_1_l10) (live := [1, 2, 5, 6, 7, 8, 9, 10]) (out := (outT [(.exit 2, [9])])) (fun k d K => f17_1_l10 F d.1.1 d.1.2.2.2.1 d.1.2.2.2.2.1 d.1.2.2.2.2.2.1 d.2.1.2.1 d.2.1.2.2.1 d.2.1.2.2.2.1 d.2.1.2.2.2.2.1 d.2.2.1.2.1 (fun (y5 : List Int) => K (.exit 2) [.tv (.lf (.full 2))] [some ⟨false, [.int .i64 d.2.1.2.1, .int .i64 d.2.1.2.2.1, .int .i64 d.2.1.2.2.2.1, .int .i64 d.2.1.2.2.2.2.1]⟩, some ⟨false, [.seq (.int .i64) 0 d.2.2.1.2.1]⟩, some ⟨false, [.seq (.int .i64) 0 y5]⟩]) k d.1.2.2.2.2.2.2.2.1 d.2.2.2.1.2.1) F (fun d K => by kernel_rfl)  (fun k d K => Eq.mp (by kernel_rfl) (L17_1_10g F k (f66_1 F)  (f17_1_l10 F) (G17_1_10 F F) (G17_1_4 F F) d K))
theorem L17_1_4g (F k : Nat) (c66_1 : Int → Int → Int → Int → (List Int → Option Res) → Option Res) (l10 : Int → Int → Int → Int → Int → Int → Int → Int → List Int → (List Int → Option Res) → Nat → Int → List Int → Option Res) (l4 : Int → Int → Int → Int → Int → List Int → (List Int → Option Res) → (Option Res) → Nat → Int → Int → Option Res) (X4 : LoopS) (d : sh17_1_l4.den) (K : KL) : (fun (v2 : Int) (v5 : Int) (v6 : Int) (v7 : Int) (v8 : Int) (v9 : List Int) (K0 : (List Int → Option Res)) (K1 : (Option Res)) (k : Nat) (v3 : Int) (v4 : Int) => cond (decide (IntKind.i64.wrap (v4 + 1) < ((v9.length : Nat) : Int))) (cond (decide ((0 : Int) ≤ v4 ∧ v4 < ((v9.length : Nat) : Int))) (cond (decide (0 + v4.toNat < v9.length)) (cond (decide (v2 ≥ IntKind.i64.wrap (v3 + (v9.getD (0 + v4.toNat) 0)))) (cond (decide ((0 : Int) ≤ IntKind.i64.wrap (v4 + 1) ∧ IntKind.i64.wrap (v4 + 1) < ((v9.length : Nat) : Int))) (cond (decide (0 + ((IntKind.i64.wrap (v4 + 1)).toNat) < v9.length)) (cond (decide (v2 < IntKind.i64.wrap ((IntKind.i64.wrap (v3 + (v9.getD (0 + v4.toNat) 0))) + (v9.getD (0 + ((IntKind.i64.wrap (v4 + 1)).toNat)) 0)))) (l10 v2 v3 v4 (IntKind.i64.wrap (v3 + (v9.getD (0 + v4.toNat) 0))) v5 v6 v7 v8 v9 (fun x21 => K0 x21) F 0 []) (l4 v2 v5 v6 v7 v8 v9 K0 K1 k (IntKind.i64.wrap (v3 + (v9.getD (0 + v4.toNat) 0))) (IntKind.i64.wrap (v4 + 1)))) none) none) (l4 v2 v5 v6 v7 v8 v9 K0 K1 k (IntKind.i64.wrap (v3 + (v9.getD (0 + v4.toNat) 0))) (IntKind.i64.wrap (v4 + 1)))) none) none) (K1)) d.1.1 d.2.1.2.1 d.2.1.2.2.1 d.2.1.2.2.2.1 d.2.1.2.2.2.2.1 d.2.2.1.2.1 (fun (y5 : List Int) => K .ret [.tv (.lf (.full 2))] [some ⟨false, [.int .i64 d.2.1.2.1, .int .i64 d.2.1.2.2.1, .int .i64 d.2.1.2.2.2.1, .int .i64 d.2.1.2.2.2.2.1]⟩, some ⟨false, [.seq (.int .i64) 0 d.2.2.1.2.1]⟩, some ⟨false, [.seq (.int .i64) 0 y5]⟩]) (K (.exit 0) [] [some ⟨false, [.int .i64 d.2.1.2.1, .int .i64 d.2.1.2.2.1, .int .i64 d.2.1.2.2.2.1, .int .i64 d.2.1.2.2.2.2.1]⟩, some ⟨false, [.seq (.int .i64) 0 d.2.2.1.2.1]⟩]) k d.1.2.2.2.1 d.1.2.2.2.2.1 = roundOf Try.prog (tab [(66, (mkS sh66_1 (fun d K => c66_1 d.1.1.1 d.1.1.2.1 d.1.1.2.2.1 d.1.1.2.2.2.1 (fun (y0 : List Int) => K [.lf (.full 0)] [some ⟨false, [.seq (.int .i64) 0 y0]⟩])) noS))]) 69 0 (ltab [(10, mkG sh17_1_l10 [1, 2, 5, 6, 7, 8, 9, 10] (outT [(.exit 2, [9])]) (fun d K => l10 d.1.1 d.1.2.2.2.1 d.1.2.2.2.2.1 d.1.2.2.2.2.2.1 d.2.1.2.1 d.2.1.2.2.1 d.2.1.2.2.2.1 d.2.1.2.2.2.2.1 d.2.2.1.2.1 (fun (y5 : List Int) => K (.exit 2) [.tv (.lf (.full 2))] [some ⟨false, [.int .i64 d.2.1.2.1, .int .i64 d.2.1.2.2.1, .int .i64 d.2.1.2.2.2.1, .int .i64 d.2.1.2.2.2.2.1]⟩, some ⟨false, [.seq (.int .i64) 0 d.2.2.1.2.1]⟩, some ⟨false, [.seq (.int .i64) 0 y5]⟩]) F d.1.2.2.2.2.2.2.2.1 d.2.2.2.1.2.1)), (4, X4)]) (mkG sh17_1_l4 [1, 2, 5, 6, 7] (outT [(.exit 0, []), (.ret, [4])]) (fun d K => l4 d.1.1 d.2.1.2.1 d.2.1.2.2.1 d.2.1.2.2.2.1 d.2.1.2.2.2.2.1 d.2.2.1.2.1 (fun (y5 : List Int) => K .ret [.tv (.lf (.full 2))] [some ⟨false, [.int .i64 d.2.1.2.1, .int .i64 d.2.1.2.2.1, .int .i64 d.2.1.2.2.2.1, .int .i64 d.2.1.2.2.2.2.1]⟩, some ⟨false, [.seq (.int .i64) 0 d.2.2.1.2.1]⟩, some ⟨false, [.seq (.int .i64) 0 y5]⟩]) (K (.exit 0) [] [some ⟨false, [.int .i64 d.2.1.2.1, .int .i64 d.2.1.2.2.1, .int .i64 d.2.1.2.2.2.1, .int .i64 d.2.1.2.2.2.2.1]⟩, some ⟨false, [.seq (.int .i64) 0 d.2.2.1.2.1]⟩]) k d.1.2.2.2.1 d.1.2.2.2.2.1)) b17_0 (encT sh17_1_l4.vs d.1) (encH sh17_1_l4.h d.2) K := by kernel_rfl
theorem L17_1_4 (F : Nat) : LoopOK Try.prog (T17_1 F) 69 0 (LT17_1 F) (G17_1_4 F F) b17_0 :=
  loopOK_of (s := sh17_1_l4) (live := [1, 2, 5, 6, 7]) (out := (outT [(.exit 0, []), (.ret, [4])])) (fun k d K => f17_1_l4 F d.1.1 d.2.1.2.1 d.2.1.2.2.1 d.2.1.2.2.2.1 d.2.1.2.2.2.2.1 d.2.2.1.2.1 (fun (y5 : List Int) => K .ret [.tv (.lf (.full 2))] [some ⟨false, [.int .i64 d.2.1.2.1, .int .i64 d.2.1.2.2.1, .int .i64 d.2.1.2.2.2.1, .int .i64 d.2.1.2.2.2.2.1]⟩, some ⟨false, [.seq (.int .i64) 0 d.2.2.1.2.1]⟩, some ⟨false, [.seq (.int .i64) 0 y5]⟩]) (K (.exit 0) [] [some ⟨false, [.int .i64 d.2.1.2.1, .int .i64 d.2.1.2.2.1, .int .i64 d.2.1.2.2.2.1, .int .i64 d.2.1.2.2.2.2.1]⟩, some ⟨false, [.seq (.int .i64) 0 d.2.2.1.2.1]⟩]) k d.1.2.2.2.1 d.1.2.2.2.2.1) F (fun d K => by kernel_rfl)  (fun k d K => Eq.mp (by kernel_rfl) (L17_1_4g F k (f66_1 F) (f17_1_l10 F) (f17_1_l4 F) (G17_1_4 F F) d K))
theorem E17_1g (F : Nat) (c66_1 : Int → Int → Int → Int → (List Int → Option Res) → Option Res) (l4 : Int → Int → Int → Int → Int → List Int → (List Int → Option Res) → (Option Res) → Nat → Int → Int → Option Res) (X10 : LoopS) (d : sh17_1.den) (K : KF) : evBody Try.prog (tab [(66, (mkS sh66_1 (fun d K => c66_1 d.1.1.1 d.1.1.2.1 d.1.1.2.2.1 d.1.1.2.2.2.1 (fun (y0 : List Int) => K [.lf (.full 0)] [some ⟨false, [.seq (.int .i64) 0 y0]⟩])) noS))]) 69 0 (ltab [(10, X10), (4, mkG sh17_1_l4 [1, 2, 5, 6, 7] (outT [(.exit 0, []), (.ret, [4])]) (fun d K => l4 d.1.1 d.2.1.2.1 d.2.1.2.2.1 d.2.1.2.2.2.1 d.2.1.2.2.2.2.1 d.2.2.1.2.1 (fun (y5 : List Int) => K .ret [.tv (.lf (.full 2))] [some ⟨false, [.int .i64 d.2.1.2.1, .int .i64 d.2.1.2.2.1, .int .i64 d.2.1.2.2.2.1, .int .i64 d.2.1.2.2.2.2.1]⟩, some ⟨false, [.seq (.int .i64) 0 d.2.2.1.2.1]⟩, some ⟨false, [.seq (.int .i64) 0 y5]⟩]) (K (.exit 0) [] [some ⟨false, [.int .i64 d.2.1.2.1, .int .i64 d.2.1.2.2.1, .int .i64 d.2.1.2.2.2.1, .int .i64 d.2.1.2.2.2.2.1]⟩, some ⟨false, [.seq (.int .i64) 0 d.2.2.1.2.1]⟩]) F d.1.2.2.2.1 d.1.2.2.2.2.1))]) code17 Try.f17.results.toList (encT sh17_1.vs d.1) (encH sh17_1.h d.2) K = (fun (a1 : Int) (a2 : Int) (a3 : Int) (a4 : Int) (a5 : Int) (K0 : (List Int → Option Res)) => c66_1 a1 a2 a3 a4 (fun x1 => l4 a5 a1 a2 a3 a4 x1 (fun x22 => K0 x22) (K0 []) F 0 0) ) d.1.1.1 d.1.1.2.1 d.1.1.2.2.1 d.1.1.2.2.2.1 d.1.2.1 (fun (y0 : List Int) => K [.lf (.full 0)] [some ⟨false, [.seq (.int .i64) 0 y0]⟩]) := by kernel_rfl
theorem E17_1 (F : Nat) (d : sh17_1.den) (K : KF) : evBody Try.prog (T17_1 F) 69 0 (LT17_1 F) code17 Try.f17.results.toList (encT sh17_1.vs d.1) (encH sh17_1.h d.2) K = f17_1 F d.1.1.1 d.1.1.2.1 d.1.1.2.2.1 d.1.1.2.2.2.1 d.1.2.1 (fun (y0 : List Int) => K [.lf (.full 0)] [some ⟨false, [.seq (.int .i64) 0 y0]⟩]) := Eq.mp (by kernel_rfl) (E17_1g F (f66_1 F) (f17_1_l4 F) (G17_1_10 F F) d K)
theorem S17_1_ok (F : Nat) (o : Summ) (ho : SoundFn Try.prog 17 o) : SoundFn Try.prog 17 (S17_1 F o) :=
  soundFn_of (fn := Try.f17) (c := code17) (by kernel_rfl) (tab_cons (S66_1_ok F _ (noS_sound enter66)) tab_nil) (by kernel_rfl) (by kernel_rfl) ho (by rw [loops17]; exact (loopsOK_cons (by kernel_rfl) (L17_1_4 F) (loopsOK_cons (by kernel_rfl) (L17_1_10 F) loopsOK_nil))) (by rw [scopes17]; exact scopesOK_nil) (E17_1 F)
end Go.Proofs.Ytillbabmlfjegaa.X
end

section
namespace Go.Proofs.Ytillbabmlfjegaa.X
open Go Go.Proofs.Ytillbabmlfjegaa.Ev Go.Proofs
set_option linter.unusedVariables false
/-! pentimentoref04.Node -/
noncomputable def f77_1_l3 {β : Type} (F : Nat) (v3 : List ByteArray) (K0 : ByteArray → Option β) : Nat → ByteArray → Int → Option β
  | 0, _, _ => none
  | k + 1, v1, v2 => cond (decide (v2 < ((v3.length : Nat) : Int))) (cond (decide ((0 : Int) ≤ v2 ∧ v2 < ((v3.length : Nat) : Int))) (cond (decide (0 + v2.toNat < v3.length)) (cond (decide (v1.size + (v3.getD (0 + v2.toNat) ByteArray.empty).size ≤ 4611686018427387904)) (f77_1_l3 F v3 K0 k (v1 ++ (v3.getD (0 + v2.toNat) ByteArray.empty)) (IntKind.i64.wrap (v2 + 1))) none) none) none) (K0 v1)
noncomputable def f77_1 {β : Type} (F : Nat) (a1 : List ByteArray) (K0 : ByteArray → Option β) : Option β := f77_1_l3 F a1 (fun x4 => f98_1 F (toInts x4) (fun x5 => K0 x5) ) F (⟨#[1]⟩ : ByteArray) 0
def sh77_1 : Sh := ⟨[.lf (.full 0)], [some ⟨none, [.seq .str 0]⟩]⟩
noncomputable def S77_1 (F : Nat) (o : Summ) : Summ := mkS sh77_1 (fun d K => f77_1 F d.2.1.2.1 (fun (y0 : ByteArray) => K [.lf (.str y0)] [some ⟨d.2.1.1, [.seq .str 0 d.2.1.2.1]⟩])) o
noncomputable def code77 : Code := bodyOf Try.f77
noncomputable def b77_0 : Code := cB (cB (cR (cL (cR (cR (code77))))))
theorem scopes77 : scopesOf code77 = [] := by kernel_rfl
theorem loops77 : loopsOf code77 = [b77_0] := by kernel_rfl
theorem enter77 : ∀ args w, (callFunc 77 args).run Try.prog w = .ok (.enter 77 args) w := enter_of (fn := Try.f77) (by kernel_rfl) (by kernel_rfl) (by kernel_rfl)
noncomputable def T77_1 (F : Nat) : FuncId → Option Summ := tab [(98, (S98_1 F noS))]
def sh77_1_l3 : Sh := ⟨[.lf (.full 0), .lf (.str), .lf (.int .i64)], [some ⟨none, [.seq .str 0]⟩]⟩
noncomputable def G77_1_3 (F k : Nat) : LoopS := mkG sh77_1_l3 [0, 3, 4] (outT [(.exit 0, [3])]) (fun d K => f77_1_l3 F d.2.1.2.1 (fun (y0 : ByteArray) => K (.exit 0) [.tv (.lf (.str y0))] [some ⟨d.2.1.1, [.seq .str 0 d.2.1.2.1]⟩]) k d.1.2.1 d.1.2.2.1)
noncomputable def LT77_1 (F : Nat) : Nat → Option LoopS := ltab [(3, G77_1_3 F F)]
theorem L77_1_3g (F k : Nat) (c98_1 : List Int → (ByteArray → Option Res) → Option Res)  (l3 : List ByteArray → (ByteArray → Option Res) → Nat → ByteArray → Int → Option Res) (X3 : LoopS) (d : sh77_1_l3.den) (K : KL) : (fun (v3 : List ByteArray) (K0 : (ByteArray → Option Res)) (k : Nat) (v1 : ByteArray) (v2 : Int) => cond (decide (v2 < ((v3.length : Nat) : Int))) (cond (decide ((0 : Int) ≤ v2 ∧ v2 < ((v3.length : Nat) : Int))) (cond (decide (0 + v2.toNat < v3.length)) (cond (decide (v1.size + (v3.getD (0 + v2.toNat) ByteArray.empty).size ≤ 4611686018427387904)) (l3 v3 K0 k (v1 ++ (v3.getD (0 + v2.toNat) ByteArray.empty)) (IntKind.i64.wrap (v2 + 1))) none) none) none) (K0 v1)) d.2.1.2.1 (fun (y0 : ByteArray) => K (.exit 0) [.tv (.lf (.str y0))] [some ⟨d.2.1.1, [.seq .str 0 d.2.1.2.1]⟩]) k d.1.2.1 d.1.2.2.1 = roundOf Try.prog (tab [(98, (mkS sh98_1 (fun d K => c98_1 d.2.1.2.1 (fun (y0 : ByteArray) => K [.lf (.str y0)] [some ⟨d.2.1.1, [.seq (.int .u8) 0 d.2.1.2.1]⟩])) noS))]) 20 1 (ltab [(3, X3)]) (mkG sh77_1_l3 [0, 3, 4] (outT [(.exit 0, [3])]) (fun d K => l3 d.2.1.2.1 (fun (y0 : ByteArray) => K (.exit 0) [.tv (.lf (.str y0))] [some ⟨d.2.1.1, [.seq .str 0 d.2.1.2.1]⟩]) k d.1.2.1 d.1.2.2.1)) b77_0 (encT sh77_1_l3.vs d.1) (encH sh77_1_l3.h d.2) K := by kernel_rfl
theorem L77_1_3 (F : Nat) : LoopOK Try.prog (T77_1 F) 20 1 (LT77_1 F) (G77_1_3 F F) b77_0 :=
  loopOK_of (s := sh77_1_l3) (live := [0, 3, 4]) (out := (outT [(.exit 0, [3])])) (fun k d K => f77_1_l3 F d.2.1.2.1 (fun (y0 : ByteArray) => K (.exit 0) [.tv (.lf (.str y0))] [some ⟨d.2.1.1, [.seq .str 0 d.2.1.2.1]⟩]) k d.1.2.1 d.1.2.2.1) F (fun d K => by kernel_rfl)  (fun k d K => Eq.mp (by kernel_rfl) (L77_1_3g F k (f98_1 F)  (f77_1_l3 F) (G77_1_3 F F) d K))
theorem E77_1g (F : Nat) (c98_1 : List Int → (ByteArray → Option Res) → Option Res) (l3 : List ByteArray → (ByteArray → Option Res) → Nat → ByteArray → Int → Option Res)  (d : sh77_1.den) (K : KF) : evBody Try.prog (tab [(98, (mkS sh98_1 (fun d K => c98_1 d.2.1.2.1 (fun (y0 : ByteArray) => K [.lf (.str y0)] [some ⟨d.2.1.1, [.seq (.int .u8) 0 d.2.1.2.1]⟩])) noS))]) 20 1 (ltab [(3, mkG sh77_1_l3 [0, 3, 4] (outT [(.exit 0, [3])]) (fun d K => l3 d.2.1.2.1 (fun (y0 : ByteArray) => K (.exit 0) [.tv (.lf (.str y0))] [some ⟨d.2.1.1, [.seq .str 0 d.2.1.2.1]⟩]) F d.1.2.1 d.1.2.2.1))]) code77 Try.f77.results.toList (encT sh77_1.vs d.1) (encH sh77_1.h d.2) K = (fun (a1 : List ByteArray) (K0 : (ByteArray → Option Res)) => l3 a1 (fun x4 => c98_1 (toInts x4) (fun x5 => K0 x5) ) F (⟨#[1]⟩ : ByteArray) 0) d.2.1.2.1 (fun (y0 : ByteArray) => K [.lf (.str y0)] [some ⟨d.2.1.1, [.seq .str 0 d.2.1.2.1]⟩]) := by kernel_rfl
theorem E77_1 (F : Nat) (d : sh77_1.den) (K : KF) : evBody Try.prog (T77_1 F) 20 1 (LT77_1 F) code77 Try.f77.results.toList (encT sh77_1.vs d.1) (encH sh77_1.h d.2) K = f77_1 F d.2.1.2.1 (fun (y0 : ByteArray) => K [.lf (.str y0)] [some ⟨d.2.1.1, [.seq .str 0 d.2.1.2.1]⟩]) := Eq.mp (by kernel_rfl) (E77_1g F (f98_1 F) (f77_1_l3 F)  d K)
theorem S77_1_ok (F : Nat) (o : Summ) (ho : SoundFn Try.prog 77 o) : SoundFn Try.prog 77 (S77_1 F o) :=
  soundFn_of (fn := Try.f77) (c := code77) (by kernel_rfl) (tab_cons (S98_1_ok F _ (noS_sound enter98)) tab_nil) (by kernel_rfl) (by kernel_rfl) ho (by rw [loops77]; exact (loopsOK_cons (by kernel_rfl) (L77_1_3 F) loopsOK_nil)) (by rw [scopes77]; exact scopesOK_nil) (E77_1 F)
end Go.Proofs.Ytillbabmlfjegaa.X
end

section
namespace Go.Proofs.Ytillbabmlfjegaa.X
open Go Go.Proofs.Ytillbabmlfjegaa.Ev Go.Proofs
set_option linter.unusedVariables false
/-! pentimentoref12.Above -/
noncomputable def f61_1_l4 {β : Type} (F : Nat) (v3 : List ByteArray) (v5 : List Int) (K0 : List ByteArray → Option β) : Nat → Int → List ByteArray → Option β
  | 0, _, _ => none
  | k + 1, v2, v4 => cond (decide (v2 < ((v5.length : Nat) : Int))) (cond (decide ((0 : Int) ≤ v2 ∧ v2 < ((v5.length : Nat) : Int))) (cond (decide (0 + v2.toNat < v5.length)) (cond (decide ((0 : Int) ≤ v5.getD (0 + v2.toNat) 0 ∧ v5.getD (0 + v2.toNat) 0 < ((v3.length : Nat) : Int))) (cond (decide (0 + ((v5.getD (0 + v2.toNat) 0).toNat) < v3.length)) (cond (decide ((v4.length + 1) * 16 ≤ 70368744177664)) (f61_1_l4 F v3 v5 K0 k (IntKind.i64.wrap (v2 + 1)) (v4 ++ [v3.getD (0 + ((v5.getD (0 + v2.toNat) 0).toNat)) ByteArray.empty])) none) none) none) none) none) (K0 v4)
noncomputable def f61_1 {β : Type} (F : Nat) (a1 : Int) (a2 : Int) (a3 : Int) (a4 : Int) (a5 : Int) (a6 : List ByteArray) (K0 : ByteArray → Option β) : Option β := f17_1 F a1 a2 a3 a4 a5 (fun x1 => f61_1_l4 F a6 x1 (fun x6 => f77_1 F x6 (fun x7 => K0 x7) ) F 0 []) 
def sh61_1 : Sh := ⟨[.agg [.int .i64, .int .i64, .int .i64, .int .i64], .lf (.full 0), .lf (.int .i64)], [some ⟨none, [.seq .str 0]⟩]⟩
noncomputable def S61_1 (F : Nat) (o : Summ) : Summ := mkS sh61_1 (fun d K => f61_1 F d.1.1.1 d.1.1.2.1 d.1.1.2.2.1 d.1.1.2.2.2.1 d.1.2.2.1 d.2.1.2.1 (fun (y0 : ByteArray) => K [.lf (.str y0)] [some ⟨d.2.1.1, [.seq .str 0 d.2.1.2.1]⟩])) o
noncomputable def code61 : Code := bodyOf Try.f61
noncomputable def b61_0 : Code := cB (cB (cR (cL (cR (cR (cR (code61)))))))
theorem scopes61 : scopesOf code61 = [] := by kernel_rfl
theorem loops61 : loopsOf code61 = [b61_0] := by kernel_rfl
theorem enter61 : ∀ args w, (callFunc 61 args).run Try.prog w = .ok (.enter 61 args) w := enter_of (fn := Try.f61) (by kernel_rfl) (by kernel_rfl) (by kernel_rfl)
noncomputable def T61_1 (F : Nat) : FuncId → Option Summ := tab [(17, (S17_1 F noS)), (77, (S77_1 F noS))]
def sh61_1_l4 : Sh := ⟨[.lf (.full 0), .lf (.full 1), .lf (.full 2), .lf (.int .i64)], [some ⟨none, [.seq .str 0]⟩, some ⟨some false, [.seq .str 0]⟩, some ⟨some false, [.seq (.int .i64) 0]⟩]⟩
noncomputable def G61_1_4 (F k : Nat) : LoopS := mkG sh61_1_l4 [1, 7, 8, 9] (outT [(.exit 0, [7])]) (fun d K => f61_1_l4 F d.2.1.2.1 d.2.2.2.1.2.1 (fun (y1 : List ByteArray) => K (.exit 0) [.tv (.lf (.full 1))] [some ⟨d.2.1.1, [.seq .str 0 d.2.1.2.1]⟩, some ⟨false, [.seq .str 0 y1]⟩, some ⟨false, [.seq (.int .i64) 0 d.2.2.2.1.2.1]⟩]) k d.1.2.2.2.1 d.2.2.1.2.1)
noncomputable def LT61_1 (F : Nat) : Nat → Option LoopS := ltab [(4, G61_1_4 F F)]
theorem L61_1_4g (F k : Nat) (c17_1 : Int → Int → Int → Int → Int → (List Int → Option Res) → Option Res) (c77_1 : List ByteArray → (ByteArray → Option Res) → Option Res)  (l4 : List ByteArray → List Int → (List ByteArray → Option Res) → Nat → Int → List ByteArray → Option Res) (X4 : LoopS) (d : sh61_1_l4.den) (K : KL) : (fun (v3 : List ByteArray) (v5 : List Int) (K0 : (List ByteArray → Option Res)) (k : Nat) (v2 : Int) (v4 : List ByteArray) => cond (decide (v2 < ((v5.length : Nat) : Int))) (cond (decide ((0 : Int) ≤ v2 ∧ v2 < ((v5.length : Nat) : Int))) (cond (decide (0 + v2.toNat < v5.length)) (cond (decide ((0 : Int) ≤ v5.getD (0 + v2.toNat) 0 ∧ v5.getD (0 + v2.toNat) 0 < ((v3.length : Nat) : Int))) (cond (decide (0 + ((v5.getD (0 + v2.toNat) 0).toNat) < v3.length)) (cond (decide ((v4.length + 1) * 16 ≤ 70368744177664)) (l4 v3 v5 K0 k (IntKind.i64.wrap (v2 + 1)) (v4 ++ [v3.getD (0 + ((v5.getD (0 + v2.toNat) 0).toNat)) ByteArray.empty])) none) none) none) none) none) (K0 v4)) d.2.1.2.1 d.2.2.2.1.2.1 (fun (y1 : List ByteArray) => K (.exit 0) [.tv (.lf (.full 1))] [some ⟨d.2.1.1, [.seq .str 0 d.2.1.2.1]⟩, some ⟨false, [.seq .str 0 y1]⟩, some ⟨false, [.seq (.int .i64) 0 d.2.2.2.1.2.1]⟩]) k d.1.2.2.2.1 d.2.2.1.2.1 = roundOf Try.prog (tab [(17, (mkS sh17_1 (fun d K => c17_1 d.1.1.1 d.1.1.2.1 d.1.1.2.2.1 d.1.1.2.2.2.1 d.1.2.1 (fun (y0 : List Int) => K [.lf (.full 0)] [some ⟨false, [.seq (.int .i64) 0 y0]⟩])) noS)), (77, (mkS sh77_1 (fun d K => c77_1 d.2.1.2.1 (fun (y0 : ByteArray) => K [.lf (.str y0)] [some ⟨d.2.1.1, [.seq .str 0 d.2.1.2.1]⟩])) noS))]) 31 1 (ltab [(4, X4)]) (mkG sh61_1_l4 [1, 7, 8, 9] (outT [(.exit 0, [7])]) (fun d K => l4 d.2.1.2.1 d.2.2.2.1.2.1 (fun (y1 : List ByteArray) => K (.exit 0) [.tv (.lf (.full 1))] [some ⟨d.2.1.1, [.seq .str 0 d.2.1.2.1]⟩, some ⟨false, [.seq .str 0 y1]⟩, some ⟨false, [.seq (.int .i64) 0 d.2.2.2.1.2.1]⟩]) k d.1.2.2.2.1 d.2.2.1.2.1)) b61_0 (encT sh61_1_l4.vs d.1) (encH sh61_1_l4.h d.2) K := by kernel_rfl
theorem L61_1_4 (F : Nat) : LoopOK Try.prog (T61_1 F) 31 1 (LT61_1 F) (G61_1_4 F F) b61_0 :=
  loopOK_of (s := sh61_1_l4) (live := [1, 7, 8, 9]) (out := (outT [(.exit 0, [7])])) (fun k d K => f61_1_l4 F d.2.1.2.1 d.2.2.2.1.2.1 (fun (y1 : List ByteArray) => K (.exit 0) [.tv (.lf (.full 1))] [some ⟨d.2.1.1, [.seq .str 0 d.2.1.2.1]⟩, some ⟨false, [.seq .str 0 y1]⟩, some ⟨false, [.seq (.int .i64) 0 d.2.2.2.1.2.1]⟩]) k d.1.2.2.2.1 d.2.2.1.2.1) F (fun d K => by kernel_rfl)  (fun k d K => Eq.mp (by kernel_rfl) (L61_1_4g F k (f17_1 F) (f77_1 F)  (f61_1_l4 F) (G61_1_4 F F) d K))
theorem E61_1g (F : Nat) (c17_1 : Int → Int → Int → Int → Int → (List Int → Option Res) → Option Res) (c77_1 : List ByteArray → (ByteArray → Option Res) → Option Res) (l4 : List ByteArray → List Int → (List ByteArray → Option Res) → Nat → Int → List ByteArray → Option Res)  (d : sh61_1.den) (K : KF) : evBody Try.prog (tab [(17, (mkS sh17_1 (fun d K => c17_1 d.1.1.1 d.1.1.2.1 d.1.1.2.2.1 d.1.1.2.2.2.1 d.1.2.1 (fun (y0 : List Int) => K [.lf (.full 0)] [some ⟨false, [.seq (.int .i64) 0 y0]⟩])) noS)), (77, (mkS sh77_1 (fun d K => c77_1 d.2.1.2.1 (fun (y0 : ByteArray) => K [.lf (.str y0)] [some ⟨d.2.1.1, [.seq .str 0 d.2.1.2.1]⟩])) noS))]) 31 1 (ltab [(4, mkG sh61_1_l4 [1, 7, 8, 9] (outT [(.exit 0, [7])]) (fun d K => l4 d.2.1.2.1 d.2.2.2.1.2.1 (fun (y1 : List ByteArray) => K (.exit 0) [.tv (.lf (.full 1))] [some ⟨d.2.1.1, [.seq .str 0 d.2.1.2.1]⟩, some ⟨false, [.seq .str 0 y1]⟩, some ⟨false, [.seq (.int .i64) 0 d.2.2.2.1.2.1]⟩]) F d.1.2.2.2.1 d.2.2.1.2.1))]) code61 Try.f61.results.toList (encT sh61_1.vs d.1) (encH sh61_1.h d.2) K = (fun (a1 : Int) (a2 : Int) (a3 : Int) (a4 : Int) (a5 : Int) (a6 : List ByteArray) (K0 : (ByteArray → Option Res)) => c17_1 a1 a2 a3 a4 a5 (fun x1 => l4 a6 x1 (fun x6 => c77_1 x6 (fun x7 => K0 x7) ) F 0 []) ) d.1.1.1 d.1.1.2.1 d.1.1.2.2.1 d.1.1.2.2.2.1 d.1.2.2.1 d.2.1.2.1 (fun (y0 : ByteArray) => K [.lf (.str y0)] [some ⟨d.2.1.1, [.seq .str 0 d.2.1.2.1]⟩]) := by kernel_rfl
theorem E61_1 (F : Nat) (d : sh61_1.den) (K : KF) : evBody Try.prog (T61_1 F) 31 1 (LT61_1 F) code61 Try.f61.results.toList (encT sh61_1.vs d.1) (encH sh61_1.h d.2) K = f61_1 F d.1.1.1 d.1.1.2.1 d.1.1.2.2.1 d.1.1.2.2.2.1 d.1.2.2.1 d.2.1.2.1 (fun (y0 : ByteArray) => K [.lf (.str y0)] [some ⟨d.2.1.1, [.seq .str 0 d.2.1.2.1]⟩]) := Eq.mp (by kernel_rfl) (E61_1g F (f17_1 F) (f77_1 F) (f61_1_l4 F)  d K)
theorem S61_1_ok (F : Nat) (o : Summ) (ho : SoundFn Try.prog 61 o) : SoundFn Try.prog 61 (S61_1 F o) :=
  soundFn_of (fn := Try.f61) (c := code61) (by kernel_rfl) (tab_cons (S17_1_ok F _ (noS_sound enter17)) (tab_cons (S77_1_ok F _ (noS_sound enter77)) tab_nil)) (by kernel_rfl) (by kernel_rfl) ho (by rw [loops61]; exact (loopsOK_cons (by kernel_rfl) (L61_1_4 F) loopsOK_nil)) (by rw [scopes61]; exact scopesOK_nil) (E61_1 F)
end Go.Proofs.Ytillbabmlfjegaa.X
end

section
namespace Go.Proofs.Ytillbabmlfjegaa.X
open Go Go.Proofs.Ytillbabmlfjegaa.Ev Go.Proofs
set_option linter.unusedVariables false
/-! pentimentoref12.New -/
noncomputable def f11_1_l7 {β : Type} (F : Nat) (v3 : List ByteArray) (v4 : Int) (v5 : Int) (v6 : Int) (v7 : Int) (v8 : Int) (v9 : Int) (v10 : Int) (v11 : Int) (K0 : List ByteArray → Option β) (K1 : List ByteArray → Option β) : Nat → Int → List ByteArray → Option β
  | 0, _, _ => none
  | k + 1, v2, v12 => cond (decide (v2 < ((v3.length : Nat) : Int))) (cond (decide ((0 : Int) ≤ v2 ∧ v2 < ((v3.length : Nat) : Int))) (cond (decide (0 + v2.toNat < v3.length)) (f59_1 F (v3.getD (0 + v2.toNat) ByteArray.empty) (fun x13 => cond (!x13) (K0 v12) (cond (decide ((0 : Int) ≤ v2 ∧ v2 < ((v3.length : Nat) : Int))) (cond (decide (0 + v2.toNat < v3.length)) (f60_1 F (v3.getD (0 + v2.toNat) ByteArray.empty) (fun x14 => cond (decide ((v12.length + 1) * 16 ≤ 70368744177664)) (f11_1_l7 F v3 v4 v5 v6 v7 v8 v9 v10 v11 K0 K1 k (IntKind.i64.wrap (v2 + 1)) (v12 ++ [x14])) none) ) none) none)) ) none) none) (K1 v12)
noncomputable def f11_1_l14 {β : Type} (F : Nat) (v18 : Int) (v20 : List ByteArray) (v21 : Int) (v22 : Int) (v23 : Int) (v24 : Int) (v25 : Int) (v26 : Int) (v27 : Int) (v28 : Int) (K0 : List ByteArray → Option β) : Nat → Int → List ByteArray → Option β
  | 0, _, _ => none
  | k + 1, v19, v29 => cond (decide (v19 < v18)) (f61_1 F v21 v22 v23 v24 v19 v29 (fun x30 => cond (decide ((v29.length + 1) * 16 ≤ 70368744177664)) (f11_1_l14 F v18 v20 v21 v22 v23 v24 v25 v26 v27 v28 K0 k (IntKind.i64.wrap (v19 + 1)) (v29 ++ [x30])) none) ) (K0 v29)
noncomputable def f11_1 {β : Type} (F : Nat) (a1 : Int) (a2 : Int) (a3 : Int) (a4 : Int) (a5 : List ByteArray) (K0 : Int → Option β) (K1 : List ByteArray → Option β) : Option β := f7_1 F a1 a2 a3 a4 (fun x1 => cond (!x1) (K0 12) (cond (((a5.length : Nat) : Int) != a1) (K0 8) (f11_1_l7 F a5 a1 a2 a3 a4 a1 a2 a3 a4 (fun x15 => K0 4) (fun x16 => f14_1 F a1 a2 a3 a4 (fun x17 => f11_1_l14 F x17 a5 a1 a2 a3 a4 a1 a2 a3 a4 (fun x31 => K1 x31) F a1 x16) ) F 0 []))) 
def sh11_1 : Sh := ⟨[.agg [.int .i64, .int .i64, .int .i64, .int .i64], .lf (.full 0)], [some ⟨none, [.seq .str 0]⟩]⟩
noncomputable def S11_1 (F : Nat) (o : Summ) : Summ := mkS sh11_1 (fun d K => f11_1 F d.1.1.1 d.1.1.2.1 d.1.1.2.2.1 d.1.1.2.2.2.1 d.2.1.2.1 (fun (y0 : Int) => K [.lf (.nilp), .lf (.int .i64 y0)] [some ⟨d.2.1.1, [.seq .str 0 d.2.1.2.1]⟩]) (fun (y6 : List ByteArray) => K [.lf (.ptr 1 0), .lf (.int .i64 0)] [some ⟨d.2.1.1, [.seq .str 0 d.2.1.2.1]⟩, some ⟨false, [.int .i64 d.1.1.1, .int .i64 d.1.1.2.1, .int .i64 d.1.1.2.2.1, .int .i64 d.1.1.2.2.2.1, .full 2]⟩, some ⟨false, [.seq .str 0 y6]⟩])) o
noncomputable def code11 : Code := bodyOf Try.f11
noncomputable def b11_0 : Code := cB (cB (cR (cL (cR (cR (cR (cR (code11))))))))
noncomputable def b11_1 : Code := cB (cB (cR (cL (cR (cR (cR (cR (cR (cR (code11))))))))))
theorem scopes11 : scopesOf code11 = [] := by kernel_rfl
theorem loops11 : loopsOf code11 = [b11_0, b11_1] := by kernel_rfl
theorem enter11 : ∀ args w, (callFunc 11 args).run Try.prog w = .ok (.enter 11 args) w := enter_of (fn := Try.f11) (by kernel_rfl) (by kernel_rfl) (by kernel_rfl)
noncomputable def T11_1 (F : Nat) : FuncId → Option Summ := tab [(7, (S7_1 F noS)), (14, (S14_1 F noS)), (59, (S59_1 F noS)), (60, (S60_1 F noS)), (61, (S61_1 F noS))]
def sh11_1_l7 : Sh := ⟨[.lf (.full 0), .lf (.ptr 1 0), .lf (.ptr 2 0), .lf (.int .i64)], [some ⟨none, [.seq .str 0]⟩, some ⟨some false, [.int .i64, .int .i64, .int .i64, .int .i64]⟩, some ⟨some false, [.int .i64, .int .i64, .int .i64, .int .i64, .full 3]⟩, some ⟨some false, [.seq .str 0]⟩]⟩
noncomputable def G11_1_7 (F k : Nat) : LoopS := mkG sh11_1_l7 [1, 2, 6, 7] (outT [(.exit 0, [2, 6]), (.ret, [4, 5])]) (fun d K => f11_1_l7 F d.2.1.2.1 d.2.2.1.2.1 d.2.2.1.2.2.1 d.2.2.1.2.2.2.1 d.2.2.1.2.2.2.2.1 d.2.2.2.1.2.1 d.2.2.2.1.2.2.1 d.2.2.2.1.2.2.2.1 d.2.2.2.1.2.2.2.2.1 (fun (y10 : List ByteArray) => K .ret [.tv (.lf (.nilp)), .tv (.lf (.int .i64 4))] [some ⟨d.2.1.1, [.seq .str 0 d.2.1.2.1]⟩, some ⟨false, [.int .i64 d.2.2.1.2.1, .int .i64 d.2.2.1.2.2.1, .int .i64 d.2.2.1.2.2.2.1, .int .i64 d.2.2.1.2.2.2.2.1]⟩, some ⟨false, [.int .i64 d.2.2.2.1.2.1, .int .i64 d.2.2.2.1.2.2.1, .int .i64 d.2.2.2.1.2.2.2.1, .int .i64 d.2.2.2.1.2.2.2.2.1, .full 3]⟩, some ⟨false, [.seq .str 0 y10]⟩]) (fun (y9 : List ByteArray) => K (.exit 0) [.tv (.lf (.ptr 1 0)), .tv (.lf (.ptr 2 0))] [some ⟨d.2.1.1, [.seq .str 0 d.2.1.2.1]⟩, some ⟨false, [.int .i64 d.2.2.1.2.1, .int .i64 d.2.2.1.2.2.1, .int .i64 d.2.2.1.2.2.2.1, .int .i64 d.2.2.1.2.2.2.2.1]⟩, some ⟨false, [.int .i64 d.2.2.2.1.2.1, .int .i64 d.2.2.2.1.2.2.1, .int .i64 d.2.2.2.1.2.2.2.1, .int .i64 d.2.2.2.1.2.2.2.2.1, .full 3]⟩, some ⟨false, [.seq .str 0 y9]⟩]) k d.1.2.2.2.1 d.2.2.2.2.1.2.1)
def sh11_1_l14 : Sh := ⟨[.lf (.ptr 1 0), .lf (.ptr 2 0), .lf (.int .i64), .lf (.int .i64)], [some ⟨none, [.seq .str 0]⟩, some ⟨some false, [.int .i64, .int .i64, .int .i64, .int .i64]⟩, some ⟨some false, [.int .i64, .int .i64, .int .i64, .int .i64, .full 3]⟩, some ⟨some false, [.seq .str 0]⟩]⟩
noncomputable def G11_1_14 (F k : Nat) : LoopS := mkG sh11_1_l14 [2, 6, 8, 9] (outT [(.exit 2, [6])]) (fun d K => f11_1_l14 F d.1.2.2.1 d.2.1.2.1 d.2.2.1.2.1 d.2.2.1.2.2.1 d.2.2.1.2.2.2.1 d.2.2.1.2.2.2.2.1 d.2.2.2.1.2.1 d.2.2.2.1.2.2.1 d.2.2.2.1.2.2.2.1 d.2.2.2.1.2.2.2.2.1 (fun (y9 : List ByteArray) => K (.exit 2) [.tv (.lf (.ptr 2 0))] [some ⟨d.2.1.1, [.seq .str 0 d.2.1.2.1]⟩, some ⟨false, [.int .i64 d.2.2.1.2.1, .int .i64 d.2.2.1.2.2.1, .int .i64 d.2.2.1.2.2.2.1, .int .i64 d.2.2.1.2.2.2.2.1]⟩, some ⟨false, [.int .i64 d.2.2.2.1.2.1, .int .i64 d.2.2.2.1.2.2.1, .int .i64 d.2.2.2.1.2.2.2.1, .int .i64 d.2.2.2.1.2.2.2.2.1, .full 3]⟩, some ⟨false, [.seq .str 0 y9]⟩]) k d.1.2.2.2.1 d.2.2.2.2.1.2.1)
noncomputable def LT11_1 (F : Nat) : Nat → Option LoopS := ltab [(7, G11_1_7 F F), (14, G11_1_14 F F)]
theorem L11_1_7g (F k : Nat) (c7_1 : Int → Int → Int → Int → (Bool → Option Res) → Option Res) (c14_1 : Int → Int → Int → Int → (Int → Option Res) → Option Res) (c59_1 : ByteArray → (Bool → Option Res) → Option Res) (c60_1 : ByteArray → (ByteArray → Option Res) → Option Res) (c61_1 : Int → Int → Int → Int → Int → List ByteArray → (ByteArray → Option Res) → Option Res)  (l7 : List ByteArray → Int → Int → Int → Int → Int → Int → Int → Int → (List ByteArray → Option Res) → (List ByteArray → Option Res) → Nat → Int → List ByteArray → Option Res) (X7 : LoopS) (X14 : LoopS) (d : sh11_1_l7.den) (K : KL) : (fun (v3 : List ByteArray) (v4 : Int) (v5 : Int) (v6 : Int) (v7 : Int) (v8 : Int) (v9 : Int) (v10 : Int) (v11 : Int) (K0 : (List ByteArray → Option Res)) (K1 : (List ByteArray → Option Res)) (k : Nat) (v2 : Int) (v12 : List ByteArray) => cond (decide (v2 < ((v3.length : Nat) : Int))) (cond (decide ((0 : Int) ≤ v2 ∧ v2 < ((v3.length : Nat) : Int))) (cond (decide (0 + v2.toNat < v3.length)) (c59_1 (v3.getD (0 + v2.toNat) ByteArray.empty) (fun x13 => cond (!x13) (K0 v12) (cond (decide ((0 : Int) ≤ v2 ∧ v2 < ((v3.length : Nat) : Int))) (cond (decide (0 + v2.toNat < v3.length)) (c60_1 (v3.getD (0 + v2.toNat) ByteArray.empty) (fun x14 => cond (decide ((v12.length + 1) * 16 ≤ 70368744177664)) (l7 v3 v4 v5 v6 v7 v8 v9 v10 v11 K0 K1 k (IntKind.i64.wrap (v2 + 1)) (v12 ++ [x14])) none) ) none) none)) ) none) none) (K1 v12)) d.2.1.2.1 d.2.2.1.2.1 d.2.2.1.2.2.1 d.2.2.1.2.2.2.1 d.2.2.1.2.2.2.2.1 d.2.2.2.1.2.1 d.2.2.2.1.2.2.1 d.2.2.2.1.2.2.2.1 d.2.2.2.1.2.2.2.2.1 (fun (y10 : List ByteArray) => K .ret [.tv (.lf (.nilp)), .tv (.lf (.int .i64 4))] [some ⟨d.2.1.1, [.seq .str 0 d.2.1.2.1]⟩, some ⟨false, [.int .i64 d.2.2.1.2.1, .int .i64 d.2.2.1.2.2.1, .int .i64 d.2.2.1.2.2.2.1, .int .i64 d.2.2.1.2.2.2.2.1]⟩, some ⟨false, [.int .i64 d.2.2.2.1.2.1, .int .i64 d.2.2.2.1.2.2.1, .int .i64 d.2.2.2.1.2.2.2.1, .int .i64 d.2.2.2.1.2.2.2.2.1, .full 3]⟩, some ⟨false, [.seq .str 0 y10]⟩]) (fun (y9 : List ByteArray) => K (.exit 0) [.tv (.lf (.ptr 1 0)), .tv (.lf (.ptr 2 0))] [some ⟨d.2.1.1, [.seq .str 0 d.2.1.2.1]⟩, some ⟨false, [.int .i64 d.2.2.1.2.1, .int .i64 d.2.2.1.2.2.1, .int .i64 d.2.2.1.2.2.2.1, .int .i64 d.2.2.1.2.2.2.2.1]⟩, some ⟨false, [.int .i64 d.2.2.2.1.2.1, .int .i64 d.2.2.2.1.2.2.1, .int .i64 d.2.2.2.1.2.2.2.1, .int .i64 d.2.2.2.1.2.2.2.2.1, .full 3]⟩, some ⟨false, [.seq .str 0 y9]⟩]) k d.1.2.2.2.1 d.2.2.2.2.1.2.1 = roundOf Try.prog (tab [(7, (mkS sh7_1 (fun d K => c7_1 d.1.1.1 d.1.1.2.1 d.1.1.2.2.1 d.1.1.2.2.2.1 (fun (y0 : Bool) => K [.lf (.bool y0)] [])) noS)), (14, (mkS sh14_1 (fun d K => c14_1 d.1.1.1 d.1.1.2.1 d.1.1.2.2.1 d.1.1.2.2.2.1 (fun (y0 : Int) => K [.lf (.int .i64 y0)] [])) noS)), (59, (mkS sh59_1 (fun d K => c59_1 d.1.1 (fun (y0 : Bool) => K [.lf (.bool y0)] [])) noS)), (60, (mkS sh60_1 (fun d K => c60_1 d.1.1 (fun (y0 : ByteArray) => K [.lf (.str y0)] [])) noS)), (61, (mkS sh61_1 (fun d K => c61_1 d.1.1.1 d.1.1.2.1 d.1.1.2.2.1 d.1.1.2.2.2.1 d.1.2.2.1 d.2.1.2.1 (fun (y0 : ByteArray) => K [.lf (.str y0)] [some ⟨d.2.1.1, [.seq .str 0 d.2.1.2.1]⟩])) noS))]) 73 1 (ltab [(7, X7), (14, X14)]) (mkG sh11_1_l7 [1, 2, 6, 7] (outT [(.exit 0, [2, 6]), (.ret, [4, 5])]) (fun d K => l7 d.2.1.2.1 d.2.2.1.2.1 d.2.2.1.2.2.1 d.2.2.1.2.2.2.1 d.2.2.1.2.2.2.2.1 d.2.2.2.1.2.1 d.2.2.2.1.2.2.1 d.2.2.2.1.2.2.2.1 d.2.2.2.1.2.2.2.2.1 (fun (y10 : List ByteArray) => K .ret [.tv (.lf (.nilp)), .tv (.lf (.int .i64 4))] [some ⟨d.2.1.1, [.seq .str 0 d.2.1.2.1]⟩, some ⟨false, [.int .i64 d.2.2.1.2.1, .int .i64 d.2.2.1.2.2.1, .int .i64 d.2.2.1.2.2.2.1, .int .i64 d.2.2.1.2.2.2.2.1]⟩, some ⟨false, [.int .i64 d.2.2.2.1.2.1, .int .i64 d.2.2.2.1.2.2.1, .int .i64 d.2.2.2.1.2.2.2.1, .int .i64 d.2.2.2.1.2.2.2.2.1, .full 3]⟩, some ⟨false, [.seq .str 0 y10]⟩]) (fun (y9 : List ByteArray) => K (.exit 0) [.tv (.lf (.ptr 1 0)), .tv (.lf (.ptr 2 0))] [some ⟨d.2.1.1, [.seq .str 0 d.2.1.2.1]⟩, some ⟨false, [.int .i64 d.2.2.1.2.1, .int .i64 d.2.2.1.2.2.1, .int .i64 d.2.2.1.2.2.2.1, .int .i64 d.2.2.1.2.2.2.2.1]⟩, some ⟨false, [.int .i64 d.2.2.2.1.2.1, .int .i64 d.2.2.2.1.2.2.1, .int .i64 d.2.2.2.1.2.2.2.1, .int .i64 d.2.2.2.1.2.2.2.2.1, .full 3]⟩, some ⟨false, [.seq .str 0 y9]⟩]) k d.1.2.2.2.1 d.2.2.2.2.1.2.1)) b11_0 (encT sh11_1_l7.vs d.1) (encH sh11_1_l7.h d.2) K := by kernel_rfl
theorem L11_1_7 (F : Nat) : LoopOK Try.prog (T11_1 F) 73 1 (LT11_1 F) (G11_1_7 F F) b11_0 :=
  loopOK_of (s := sh11_1_l7) (live := [1, 2, 6, 7]) (out := (outT [(.exit 0, [2, 6]), (.ret, [4, 5])])) (fun k d K => f11_1_l7 F d.2.1.2.1 d.2.2.1.2.1 d.2.2.1.2.2.1 d.2.2.1.2.2.2.1 d.2.2.1.2.2.2.2.1 d.2.2.2.1.2.1 d.2.2.2.1.2.2.1 d.2.2.2.1.2.2.2.1 d.2.2.2.1.2.2.2.2.1 (fun (y10 : List ByteArray) => K .ret [.tv (.lf (.nilp)), .tv (.lf (.int .i64 4))] [some ⟨d.2.1.1, [.seq .str 0 d.2.1.2.1]⟩, some ⟨false, [.int .i64 d.2.2.1.2.1, .int .i64 d.2.2.1.2.2.1, .int .i64 d.2.2.1.2.2.2.1, .int .i64 d.2.2.1.2.2.2.2.1]⟩, some ⟨false, [.int .i64 d.2.2.2.1.2.1, .int .i64 d.2.2.2.1.2.2.1, .int .i64 d.2.2.2.1.2.2.2.1, .int .i64 d.2.2.2.1.2.2.2.2.1, .full 3]⟩, some ⟨false, [.seq .str 0 y10]⟩]) (fun (y9 : List ByteArray) => K (.exit 0) [.tv (.lf (.ptr 1 0)), .tv (.lf (.ptr 2 0))] [some ⟨d.2.1.1, [.seq .str 0 d.2.1.2.1]⟩, some ⟨false, [.int .i64 d.2.2.1.2.1, .int .i64 d.2.2.1.2.2.1, .int .i64 d.2.2.1.2.2.2.1, .int .i64 d.2.2.1.2.2.2.2.1]⟩, some ⟨false, [.int .i64 d.2.2.2.1.2.1, .int .i64 d.2.2.2.1.2.2.1, .int .i64 d.2.2.2.1.2.2.2.1, .int .i64 d.2.2.2.1.2.2.2.2.1, .full 3]⟩, some ⟨false, [.seq .str 0 y9]⟩]) k d.1.2.2.2.1 d.2.2.2.2.1.2.1) F (fun d K => by kernel_rfl)  (fun k d K => Eq.mp (by kernel_rfl) (L11_1_7g F k (f7_1 F) (f14_1 F) (f59_1 F) (f60_1 F) (f61_1 F)  (f11_1_l7 F) (G11_1_7 F F) (G11_1_14 F F) d K))
theorem L11_1_14g (F k : Nat) (c7_1 : Int → Int → Int → Int → (Bool → Option Res) → Option Res) (c14_1 : Int → Int → Int → Int → (Int → Option Res) → Option Res) (c59_1 : ByteArray → (Bool → Option Res) → Option Res) (c60_1 : ByteArray → (ByteArray → Option Res) → Option Res) (c61_1 : Int → Int → Int → Int → Int → List ByteArray → (ByteArray → Option Res) → Option Res)  (l14 : Int → List ByteArray → Int → Int → Int → Int → Int → Int → Int → Int → (List ByteArray → Option Res) → Nat → Int → List ByteArray → Option Res) (X7 : LoopS) (X14 : LoopS) (d : sh11_1_l14.den) (K : KL) : (fun (v18 : Int) (v20 : List ByteArray) (v21 : Int) (v22 : Int) (v23 : Int) (v24 : Int) (v25 : Int) (v26 : Int) (v27 : Int) (v28 : Int) (K0 : (List ByteArray → Option Res)) (k : Nat) (v19 : Int) (v29 : List ByteArray) => cond (decide (v19 < v18)) (c61_1 v21 v22 v23 v24 v19 v29 (fun x30 => cond (decide ((v29.length + 1) * 16 ≤ 70368744177664)) (l14 v18 v20 v21 v22 v23 v24 v25 v26 v27 v28 K0 k (IntKind.i64.wrap (v19 + 1)) (v29 ++ [x30])) none) ) (K0 v29)) d.1.2.2.1 d.2.1.2.1 d.2.2.1.2.1 d.2.2.1.2.2.1 d.2.2.1.2.2.2.1 d.2.2.1.2.2.2.2.1 d.2.2.2.1.2.1 d.2.2.2.1.2.2.1 d.2.2.2.1.2.2.2.1 d.2.2.2.1.2.2.2.2.1 (fun (y9 : List ByteArray) => K (.exit 2) [.tv (.lf (.ptr 2 0))] [some ⟨d.2.1.1, [.seq .str 0 d.2.1.2.1]⟩, some ⟨false, [.int .i64 d.2.2.1.2.1, .int .i64 d.2.2.1.2.2.1, .int .i64 d.2.2.1.2.2.2.1, .int .i64 d.2.2.1.2.2.2.2.1]⟩, some ⟨false, [.int .i64 d.2.2.2.1.2.1, .int .i64 d.2.2.2.1.2.2.1, .int .i64 d.2.2.2.1.2.2.2.1, .int .i64 d.2.2.2.1.2.2.2.2.1, .full 3]⟩, some ⟨false, [.seq .str 0 y9]⟩]) k d.1.2.2.2.1 d.2.2.2.2.1.2.1 = roundOf Try.prog (tab [(7, (mkS sh7_1 (fun d K => c7_1 d.1.1.1 d.1.1.2.1 d.1.1.2.2.1 d.1.1.2.2.2.1 (fun (y0 : Bool) => K [.lf (.bool y0)] [])) noS)), (14, (mkS sh14_1 (fun d K => c14_1 d.1.1.1 d.1.1.2.1 d.1.1.2.2.1 d.1.1.2.2.2.1 (fun (y0 : Int) => K [.lf (.int .i64 y0)] [])) noS)), (59, (mkS sh59_1 (fun d K => c59_1 d.1.1 (fun (y0 : Bool) => K [.lf (.bool y0)] [])) noS)), (60, (mkS sh60_1 (fun d K => c60_1 d.1.1 (fun (y0 : ByteArray) => K [.lf (.str y0)] [])) noS)), (61, (mkS sh61_1 (fun d K => c61_1 d.1.1.1 d.1.1.2.1 d.1.1.2.2.1 d.1.1.2.2.2.1 d.1.2.2.1 d.2.1.2.1 (fun (y0 : ByteArray) => K [.lf (.str y0)] [some ⟨d.2.1.1, [.seq .str 0 d.2.1.2.1]⟩])) noS))]) 73 1 (ltab [(7, X7), (14, X14)]) (mkG sh11_1_l14 [2, 6, 8, 9] (outT [(.exit 2, [6])]) (fun d K => l14 d.1.2.2.1 d.2.1.2.1 d.2.2.1.2.1 d.2.2.1.2.2.1 d.2.2.1.2.2.2.1 d.2.2.1.2.2.2.2.1 d.2.2.2.1.2.1 d.2.2.2.1.2.2.1 d.2.2.2.1.2.2.2.1 d.2.2.2.1.2.2.2.2.1 (fun (y9 : List ByteArray) => K (.exit 2) [.tv (.lf (.ptr 2 0))] [some ⟨d.2.1.1, [.seq .str 0 d.2.1.2.1]⟩, some ⟨false, [.int .i64 d.2.2.1.2.1, .int .i64 d.2.2.1.2.2.1, .int .i64 d.2.2.1.2.2.2.1, .int .i64 d.2.2.1.2.2.2.2.1]⟩, some ⟨false, [.int .i64 d.2.2.2.1.2.1, .int .i64 d.2.2.2.1.2.2.1, .int .i64 d.2.2.2.1.2.2.2.1, .int .i64 d.2.2.2.1.2.2.2.2.1, .full 3]⟩, some ⟨false, [.seq .str 0 y9]⟩]) k d.1.2.2.2.1 d.2.2.2.2.1.2.1)) b11_1 (encT sh11_1_l14.vs d.1) (encH sh11_1_l14.h d.2) K := by kernel_rfl
theorem L11_1_14 (F : Nat) : LoopOK Try.prog (T11_1 F) 73 1 (LT11_1 F) (G11_1_14 F F) b11_1 :=
  loopOK_of (s := sh11_1_l14) (live := [2, 6, 8, 9]) (out := (outT [(.exit 2, [6])])) (fun k d K => f11_1_l14 F d.1.2.2.1 d.2.1.2.1 d.2.2.1.2.1 d.2.2.1.2.2.1 d.2.2.1.2.2.2.1 d.2.2.1.2.2.2.2.1 d.2.2.2.1.2.1 d.2.2.2.1.2.2.1 d.2.2.2.1.2.2.2.1 d.2.2.2.1.2.2.2.2.1 (fun (y9 : List ByteArray) => K (.exit 2) [.tv (.lf (.ptr 2 0))] [some ⟨d.2.1.1, [.seq .str 0 d.2.1.2.1]⟩, some ⟨false, [.int .i64 d.2.2.1.2.1, .int .i64 d.2.2.1.2.2.1, .int .i64 d.2.2.1.2.2.2.1, .int .i64 d.2.2.1.2.2.2.2.1]⟩, some ⟨false, [.int .i64 d.2.2.2.1.2.1, .int .i64 d.2.2.2.1.2.2.1, .int .i64 d.2.2.2.1.2.2.2.1, .int .i64 d.2.2.2.1.2.2.2.2.1, .full 3]⟩, some ⟨false, [.seq .str 0 y9]⟩]) k d.1.2.2.2.1 d.2.2.2.2.1.2.1) F (fun d K => by kernel_rfl)  (fun k d K => Eq.mp (by kernel_rfl) (L11_1_14g F k (f7_1 F) (f14_1 F) (f59_1 F) (f60_1 F) (f61_1 F)  (f11_1_l14 F) (G11_1_7 F F) (G11_1_14 F F) d K))
theorem E11_1g (F : Nat) (c7_1 : Int → Int → Int → Int → (Bool → Option Res) → Option Res) (c14_1 : Int → Int → Int → Int → (Int → Option Res) → Option Res) (c59_1 : ByteArray → (Bool → Option Res) → Option Res) (c60_1 : ByteArray → (ByteArray → Option Res) → Option Res) (c61_1 : Int → Int → Int → Int → Int → List ByteArray → (ByteArray → Option Res) → Option Res) (l7 : List ByteArray → Int → Int → Int → Int → Int → Int → Int → Int → (List ByteArray → Option Res) → (List ByteArray → Option Res) → Nat → Int → List ByteArray → Option Res) (l14 : Int → List ByteArray → Int → Int → Int → Int → Int → Int → Int → Int → (List ByteArray → Option Res) → Nat → Int → List ByteArray → Option Res)  (d : sh11_1.den) (K : KF) : evBody Try.prog (tab [(7, (mkS sh7_1 (fun d K => c7_1 d.1.1.1 d.1.1.2.1 d.1.1.2.2.1 d.1.1.2.2.2.1 (fun (y0 : Bool) => K [.lf (.bool y0)] [])) noS)), (14, (mkS sh14_1 (fun d K => c14_1 d.1.1.1 d.1.1.2.1 d.1.1.2.2.1 d.1.1.2.2.2.1 (fun (y0 : Int) => K [.lf (.int .i64 y0)] [])) noS)), (59, (mkS sh59_1 (fun d K => c59_1 d.1.1 (fun (y0 : Bool) => K [.lf (.bool y0)] [])) noS)), (60, (mkS sh60_1 (fun d K => c60_1 d.1.1 (fun (y0 : ByteArray) => K [.lf (.str y0)] [])) noS)), (61, (mkS sh61_1 (fun d K => c61_1 d.1.1.1 d.1.1.2.1 d.1.1.2.2.1 d.1.1.2.2.2.1 d.1.2.2.1 d.2.1.2.1 (fun (y0 : ByteArray) => K [.lf (.str y0)] [some ⟨d.2.1.1, [.seq .str 0 d.2.1.2.1]⟩])) noS))]) 73 1 (ltab [(7, mkG sh11_1_l7 [1, 2, 6, 7] (outT [(.exit 0, [2, 6]), (.ret, [4, 5])]) (fun d K => l7 d.2.1.2.1 d.2.2.1.2.1 d.2.2.1.2.2.1 d.2.2.1.2.2.2.1 d.2.2.1.2.2.2.2.1 d.2.2.2.1.2.1 d.2.2.2.1.2.2.1 d.2.2.2.1.2.2.2.1 d.2.2.2.1.2.2.2.2.1 (fun (y10 : List ByteArray) => K .ret [.tv (.lf (.nilp)), .tv (.lf (.int .i64 4))] [some ⟨d.2.1.1, [.seq .str 0 d.2.1.2.1]⟩, some ⟨false, [.int .i64 d.2.2.1.2.1, .int .i64 d.2.2.1.2.2.1, .int .i64 d.2.2.1.2.2.2.1, .int .i64 d.2.2.1.2.2.2.2.1]⟩, some ⟨false, [.int .i64 d.2.2.2.1.2.1, .int .i64 d.2.2.2.1.2.2.1, .int .i64 d.2.2.2.1.2.2.2.1, .int .i64 d.2.2.2.1.2.2.2.2.1, .full 3]⟩, some ⟨false, [.seq .str 0 y10]⟩]) (fun (y9 : List ByteArray) => K (.exit 0) [.tv (.lf (.ptr 1 0)), .tv (.lf (.ptr 2 0))] [some ⟨d.2.1.1, [.seq .str 0 d.2.1.2.1]⟩, some ⟨false, [.int .i64 d.2.2.1.2.1, .int .i64 d.2.2.1.2.2.1, .int .i64 d.2.2.1.2.2.2.1, .int .i64 d.2.2.1.2.2.2.2.1]⟩, some ⟨false, [.int .i64 d.2.2.2.1.2.1, .int .i64 d.2.2.2.1.2.2.1, .int .i64 d.2.2.2.1.2.2.2.1, .int .i64 d.2.2.2.1.2.2.2.2.1, .full 3]⟩, some ⟨false, [.seq .str 0 y9]⟩]) F d.1.2.2.2.1 d.2.2.2.2.1.2.1)), (14, mkG sh11_1_l14 [2, 6, 8, 9] (outT [(.exit 2, [6])]) (fun d K => l14 d.1.2.2.1 d.2.1.2.1 d.2.2.1.2.1 d.2.2.1.2.2.1 d.2.2.1.2.2.2.1 d.2.2.1.2.2.2.2.1 d.2.2.2.1.2.1 d.2.2.2.1.2.2.1 d.2.2.2.1.2.2.2.1 d.2.2.2.1.2.2.2.2.1 (fun (y9 : List ByteArray) => K (.exit 2) [.tv (.lf (.ptr 2 0))] [some ⟨d.2.1.1, [.seq .str 0 d.2.1.2.1]⟩, some ⟨false, [.int .i64 d.2.2.1.2.1, .int .i64 d.2.2.1.2.2.1, .int .i64 d.2.2.1.2.2.2.1, .int .i64 d.2.2.1.2.2.2.2.1]⟩, some ⟨false, [.int .i64 d.2.2.2.1.2.1, .int .i64 d.2.2.2.1.2.2.1, .int .i64 d.2.2.2.1.2.2.2.1, .int .i64 d.2.2.2.1.2.2.2.2.1, .full 3]⟩, some ⟨false, [.seq .str 0 y9]⟩]) F d.1.2.2.2.1 d.2.2.2.2.1.2.1))]) code11 Try.f11.results.toList (encT sh11_1.vs d.1) (encH sh11_1.h d.2) K = (fun (a1 : Int) (a2 : Int) (a3 : Int) (a4 : Int) (a5 : List ByteArray) (K0 : (Int → Option Res)) (K1 : (List ByteArray → Option Res)) => c7_1 a1 a2 a3 a4 (fun x1 => cond (!x1) (K0 12) (cond (((a5.length : Nat) : Int) != a1) (K0 8) (l7 a5 a1 a2 a3 a4 a1 a2 a3 a4 (fun x15 => K0 4) (fun x16 => c14_1 a1 a2 a3 a4 (fun x17 => l14 x17 a5 a1 a2 a3 a4 a1 a2 a3 a4 (fun x31 => K1 x31) F a1 x16) ) F 0 []))) ) d.1.1.1 d.1.1.2.1 d.1.1.2.2.1 d.1.1.2.2.2.1 d.2.1.2.1 (fun (y0 : Int) => K [.lf (.nilp), .lf (.int .i64 y0)] [some ⟨d.2.1.1, [.seq .str 0 d.2.1.2.1]⟩]) (fun (y6 : List ByteArray) => K [.lf (.ptr 1 0), .lf (.int .i64 0)] [some ⟨d.2.1.1, [.seq .str 0 d.2.1.2.1]⟩, some ⟨false, [.int .i64 d.1.1.1, .int .i64 d.1.1.2.1, .int .i64 d.1.1.2.2.1, .int .i64 d.1.1.2.2.2.1, .full 2]⟩, some ⟨false, [.seq .str 0 y6]⟩]) := by kernel_rfl
theorem E11_1 (F : Nat) (d : sh11_1.den) (K : KF) : evBody Try.prog (T11_1 F) 73 1 (LT11_1 F) code11 Try.f11.results.toList (encT sh11_1.vs d.1) (encH sh11_1.h d.2) K = f11_1 F d.1.1.1 d.1.1.2.1 d.1.1.2.2.1 d.1.1.2.2.2.1 d.2.1.2.1 (fun (y0 : Int) => K [.lf (.nilp), .lf (.int .i64 y0)] [some ⟨d.2.1.1, [.seq .str 0 d.2.1.2.1]⟩]) (fun (y6 : List ByteArray) => K [.lf (.ptr 1 0), .lf (.int .i64 0)] [some ⟨d.2.1.1, [.seq .str 0 d.2.1.2.1]⟩, some ⟨false, [.int .i64 d.1.1.1, .int .i64 d.1.1.2.1, .int .i64 d.1.1.2.2.1, .int .i64 d.1.1.2.2.2.1, .full 2]⟩, some ⟨false, [.seq .str 0 y6]⟩]) := Eq.mp (by kernel_rfl) (E11_1g F (f7_1 F) (f14_1 F) (f59_1 F) (f60_1 F) (f61_1 F) (f11_1_l7 F) (f11_1_l14 F)  d K)
theorem S11_1_ok (F : Nat) (o : Summ) (ho : SoundFn Try.prog 11 o) : SoundFn Try.prog 11 (S11_1 F o) :=
  soundFn_of (fn := Try.f11) (c := code11) (by kernel_rfl) (tab_cons (S7_1_ok F _ (noS_sound enter7)) (tab_cons (S14_1_ok F _ (noS_sound enter14)) (tab_cons (S59_1_ok F _ (noS_sound enter59)) (tab_cons (S60_1_ok F _ (noS_sound enter60)) (tab_cons (S61_1_ok F _ (noS_sound enter61)) tab_nil))))) (by kernel_rfl) (by kernel_rfl) ho (by rw [loops11]; exact (loopsOK_cons (by kernel_rfl) (L11_1_7 F) (loopsOK_cons (by kernel_rfl) (L11_1_14 F) loopsOK_nil))) (by rw [scopes11]; exact scopesOK_nil) (E11_1 F)
end Go.Proofs.Ytillbabmlfjegaa.X
end

section
namespace Go.Proofs.Ytillbabmlfjegaa.X
open Go Go.Proofs.Ytillbabmlfjegaa.Ev Go.Proofs
set_option linter.unusedVariables false
/-! pentimentoref12.Tree).Root -/
noncomputable def f13_1 {β : Type} (F : Nat) (a1 : Int) (a2 : Int) (a3 : Int) (a4 : Int) (a5 : List ByteArray) (K0 : ByteArray → Option β) : Option β := cond (decide ((0 : Int) ≤ IntKind.i64.wrap (((a5.length : Nat) : Int) - 1) ∧ IntKind.i64.wrap (((a5.length : Nat) : Int) - 1) < ((a5.length : Nat) : Int))) (cond (decide (0 + ((IntKind.i64.wrap (((a5.length : Nat) : Int) - 1)).toNat) < a5.length)) (K0 (a5.getD (0 + ((IntKind.i64.wrap (((a5.length : Nat) : Int) - 1)).toNat)) ByteArray.empty)) none) none
def sh13_1 : Sh := ⟨[.lf (.ptr 0 0)], [some ⟨none, [.int .i64, .int .i64, .int .i64, .int .i64, .full 1]⟩, some ⟨none, [.seq .str 0]⟩]⟩
noncomputable def S13_1 (F : Nat) (o : Summ) : Summ := mkS sh13_1 (fun d K => f13_1 F d.2.1.2.1 d.2.1.2.2.1 d.2.1.2.2.2.1 d.2.1.2.2.2.2.1 d.2.2.1.2.1 (fun (y0 : ByteArray) => K [.lf (.str y0)] [some ⟨d.2.1.1, [.int .i64 d.2.1.2.1, .int .i64 d.2.1.2.2.1, .int .i64 d.2.1.2.2.2.1, .int .i64 d.2.1.2.2.2.2.1, .full 1]⟩, some ⟨d.2.2.1.1, [.seq .str 0 d.2.2.1.2.1]⟩])) o
noncomputable def code13 : Code := bodyOf Try.f13
theorem scopes13 : scopesOf code13 = [] := by kernel_rfl
theorem loops13 : loopsOf code13 = [] := by kernel_rfl
theorem enter13 : ∀ args w, (callFunc 13 args).run Try.prog w = .ok (.enter 13 args) w := enter_of (fn := Try.f13) (by kernel_rfl) (by kernel_rfl) (by kernel_rfl)
noncomputable def T13_1 (F : Nat) : FuncId → Option Summ := tab []
noncomputable def LT13_1 (F : Nat) : Nat → Option LoopS := ltab []
theorem E13_1g (F : Nat)    (d : sh13_1.den) (K : KF) : evBody Try.prog (tab []) 15 2 (ltab []) code13 Try.f13.results.toList (encT sh13_1.vs d.1) (encH sh13_1.h d.2) K = (fun (a1 : Int) (a2 : Int) (a3 : Int) (a4 : Int) (a5 : List ByteArray) (K0 : (ByteArray → Option Res)) => cond (decide ((0 : Int) ≤ IntKind.i64.wrap (((a5.length : Nat) : Int) - 1) ∧ IntKind.i64.wrap (((a5.length : Nat) : Int) - 1) < ((a5.length : Nat) : Int))) (cond (decide (0 + ((IntKind.i64.wrap (((a5.length : Nat) : Int) - 1)).toNat) < a5.length)) (K0 (a5.getD (0 + ((IntKind.i64.wrap (((a5.length : Nat) : Int) - 1)).toNat)) ByteArray.empty)) none) none) d.2.1.2.1 d.2.1.2.2.1 d.2.1.2.2.2.1 d.2.1.2.2.2.2.1 d.2.2.1.2.1 (fun (y0 : ByteArray) => K [.lf (.str y0)] [some ⟨d.2.1.1, [.int .i64 d.2.1.2.1, .int .i64 d.2.1.2.2.1, .int .i64 d.2.1.2.2.2.1, .int .i64 d.2.1.2.2.2.2.1, .full 1]⟩, some ⟨d.2.2.1.1, [.seq .str 0 d.2.2.1.2.1]⟩]) := by kernel_rfl
theorem E13_1 (F : Nat) (d : sh13_1.den) (K : KF) : evBody Try.prog (T13_1 F) 15 2 (LT13_1 F) code13 Try.f13.results.toList (encT sh13_1.vs d.1) (encH sh13_1.h d.2) K = f13_1 F d.2.1.2.1 d.2.1.2.2.1 d.2.1.2.2.2.1 d.2.1.2.2.2.2.1 d.2.2.1.2.1 (fun (y0 : ByteArray) => K [.lf (.str y0)] [some ⟨d.2.1.1, [.int .i64 d.2.1.2.1, .int .i64 d.2.1.2.2.1, .int .i64 d.2.1.2.2.2.1, .int .i64 d.2.1.2.2.2.2.1, .full 1]⟩, some ⟨d.2.2.1.1, [.seq .str 0 d.2.2.1.2.1]⟩]) := Eq.mp (by kernel_rfl) (E13_1g F    d K)
theorem S13_1_ok (F : Nat) (o : Summ) (ho : SoundFn Try.prog 13 o) : SoundFn Try.prog 13 (S13_1 F o) :=
  soundFn_of (fn := Try.f13) (c := code13) (by kernel_rfl) tab_nil (by kernel_rfl) (by kernel_rfl) ho (by rw [loops13]; exact loopsOK_nil) (by rw [scopes13]; exact scopesOK_nil) (E13_1 F)
end Go.Proofs.Ytillbabmlfjegaa.X
end

section
namespace Go.Proofs.Ytillbabmlfjegaa.X
open Go Go.Proofs.Ytillbabmlfjegaa.Ev Go.Proofs
set_option linter.unusedVariables false
/-! pentimentoref12.Tree).Root -/
noncomputable def f13_568 {β : Type} (F : Nat)   : Option β := none
def sh13_568 : Sh := ⟨[.lf (.nilp)], []⟩
noncomputable def S13_568 (F : Nat) (o : Summ) : Summ := mkS sh13_568 (fun d K => f13_568 F) o
noncomputable def T13_568 (F : Nat) : FuncId → Option Summ := tab []
noncomputable def LT13_568 (F : Nat) : Nat → Option LoopS := ltab []
theorem E13_568g (F : Nat)    (d : sh13_568.den) (K : KF) : evBody Try.prog (tab []) 15 0 (ltab []) code13 Try.f13.results.toList (encT sh13_568.vs d.1) (encH sh13_568.h d.2) K = (none) := by kernel_rfl
theorem E13_568 (F : Nat) (d : sh13_568.den) (K : KF) : evBody Try.prog (T13_568 F) 15 0 (LT13_568 F) code13 Try.f13.results.toList (encT sh13_568.vs d.1) (encH sh13_568.h d.2) K = f13_568 F := Eq.mp (by kernel_rfl) (E13_568g F    d K)
theorem S13_568_ok (F : Nat) (o : Summ) (ho : SoundFn Try.prog 13 o) : SoundFn Try.prog 13 (S13_568 F o) :=
  soundFn_of (fn := Try.f13) (c := code13) (by kernel_rfl) tab_nil (by kernel_rfl) (by kernel_rfl) ho (by rw [loops13]; exact loopsOK_nil) (by rw [scopes13]; exact scopesOK_nil) (E13_568 F)
end Go.Proofs.Ytillbabmlfjegaa.X
end

section
namespace Go.Proofs.Ytillbabmlfjegaa.X
open Go Go.Proofs.Ytillbabmlfjegaa.Ev Go.Proofs
set_option linter.unusedVariables false
/-! walk.Walk).Next -/
noncomputable def f16_4555 {β : Type} (F : Nat) (a1 : Int) (a2 : Int) (a3 : Int) (a4 : Int) (a5 : Nat) (a6 : Nat) (a7 : Nat) (a8 : Int) (a9 : Int) (a10 : Int) (a11 : Int) (a12 : Int) (a13 : Int) (a14 : Int) (a15 : List ByteArray) (a16 : List (Int × ByteArray)) (a17 : List (Int × ByteArray)) (K0 : Int → Int → Option β) : Option β := cond (decide (((a16.length : Nat) : Int) > 0)) (cond (decide ((0 : Int) ≤ (0 : Int) ∧ (0 : Int) < ((a16.length : Nat) : Int))) (cond (decide (0 < a16.length)) (K0 1 ((a16.getD 0 (0, ByteArray.empty)).1)) none) none) (cond (decide (((a6 : Nat) : Int) > 0)) (cond (decide ((0 : Int) ≤ (0 : Int) ∧ (0 : Int) < ((a6 : Nat) : Int))) (cond (decide (a5 + 0 < a17.length)) (K0 2 ((a17.getD (a5 + 0) (0, ByteArray.empty)).1)) none) none) (K0 0 0))
def sh16_4555 : Sh := ⟨[.lf (.ptr 0 0)], [some ⟨none, [.int .i64, .int .i64, .int .i64, .int .i64, .ptr 1 0, .full 3, .sliceC 4 0, .int .i64, .int .i64, .int .i64]⟩, some ⟨none, [.int .i64, .int .i64, .int .i64, .int .i64, .full 2]⟩, some ⟨none, [.seq .str 0]⟩, some ⟨none, [.seq (.pair (.int .i64) .str) 0]⟩, some ⟨none, [.seq (.pair (.int .i64) .str) 0]⟩]⟩
noncomputable def S16_4555 (F : Nat) (o : Summ) : Summ := mkS sh16_4555 (fun d K => f16_4555 F d.2.1.2.1 d.2.1.2.2.1 d.2.1.2.2.2.1 d.2.1.2.2.2.2.1 d.2.1.2.2.2.2.2.2.2.1.1 d.2.1.2.2.2.2.2.2.2.1.2.1 d.2.1.2.2.2.2.2.2.2.1.2.2 d.2.1.2.2.2.2.2.2.2.2.1 d.2.1.2.2.2.2.2.2.2.2.2.1 d.2.1.2.2.2.2.2.2.2.2.2.2.1 d.2.2.1.2.1 d.2.2.1.2.2.1 d.2.2.1.2.2.2.1 d.2.2.1.2.2.2.2.1 d.2.2.2.1.2.1 d.2.2.2.2.1.2.1 d.2.2.2.2.2.1.2.1 (fun (y0 : Int) (y1 : Int) => K [.lf (.int .i64 y0), .lf (.int .i64 y1)] [some ⟨d.2.1.1, [.int .i64 d.2.1.2.1, .int .i64 d.2.1.2.2.1, .int .i64 d.2.1.2.2.2.1, .int .i64 d.2.1.2.2.2.2.1, .ptr 1 0, .full 3, .slice 4 0 d.2.1.2.2.2.2.2.2.2.1.1 d.2.1.2.2.2.2.2.2.2.1.2.1 (some d.2.1.2.2.2.2.2.2.2.1.2.2), .int .i64 d.2.1.2.2.2.2.2.2.2.2.1, .int .i64 d.2.1.2.2.2.2.2.2.2.2.2.1, .int .i64 d.2.1.2.2.2.2.2.2.2.2.2.2.1]⟩, some ⟨d.2.2.1.1, [.int .i64 d.2.2.1.2.1, .int .i64 d.2.2.1.2.2.1, .int .i64 d.2.2.1.2.2.2.1, .int .i64 d.2.2.1.2.2.2.2.1, .full 2]⟩, some ⟨d.2.2.2.1.1, [.seq .str 0 d.2.2.2.1.2.1]⟩, some ⟨d.2.2.2.2.1.1, [.seq (.pair (.int .i64) .str) 0 d.2.2.2.2.1.2.1]⟩, some ⟨d.2.2.2.2.2.1.1, [.seq (.pair (.int .i64) .str) 0 d.2.2.2.2.2.1.2.1]⟩])) o
noncomputable def T16_4555 (F : Nat) : FuncId → Option Summ := tab []
noncomputable def LT16_4555 (F : Nat) : Nat → Option LoopS := ltab []
theorem E16_4555g (F : Nat)    (d : sh16_4555.den) (K : KF) : evBody Try.prog (tab []) 39 5 (ltab []) code16 Try.f16.results.toList (encT sh16_4555.vs d.1) (encH sh16_4555.h d.2) K = (fun (a1 : Int) (a2 : Int) (a3 : Int) (a4 : Int) (a5 : Nat) (a6 : Nat) (a7 : Nat) (a8 : Int) (a9 : Int) (a10 : Int) (a11 : Int) (a12 : Int) (a13 : Int) (a14 : Int) (a15 : List ByteArray) (a16 : List (Int × ByteArray)) (a17 : List (Int × ByteArray)) (K0 : (Int → Int → Option Res)) => cond (decide (((a16.length : Nat) : Int) > 0)) (cond (decide ((0 : Int) ≤ (0 : Int) ∧ (0 : Int) < ((a16.length : Nat) : Int))) (cond (decide (0 < a16.length)) (K0 1 ((a16.getD 0 (0, ByteArray.empty)).1)) none) none) (cond (decide (((a6 : Nat) : Int) > 0)) (cond (decide ((0 : Int) ≤ (0 : Int) ∧ (0 : Int) < ((a6 : Nat) : Int))) (cond (decide (a5 + 0 < a17.length)) (K0 2 ((a17.getD (a5 + 0) (0, ByteArray.empty)).1)) none) none) (K0 0 0))) d.2.1.2.1 d.2.1.2.2.1 d.2.1.2.2.2.1 d.2.1.2.2.2.2.1 d.2.1.2.2.2.2.2.2.2.1.1 d.2.1.2.2.2.2.2.2.2.1.2.1 d.2.1.2.2.2.2.2.2.2.1.2.2 d.2.1.2.2.2.2.2.2.2.2.1 d.2.1.2.2.2.2.2.2.2.2.2.1 d.2.1.2.2.2.2.2.2.2.2.2.2.1 d.2.2.1.2.1 d.2.2.1.2.2.1 d.2.2.1.2.2.2.1 d.2.2.1.2.2.2.2.1 d.2.2.2.1.2.1 d.2.2.2.2.1.2.1 d.2.2.2.2.2.1.2.1 (fun (y0 : Int) (y1 : Int) => K [.lf (.int .i64 y0), .lf (.int .i64 y1)] [some ⟨d.2.1.1, [.int .i64 d.2.1.2.1, .int .i64 d.2.1.2.2.1, .int .i64 d.2.1.2.2.2.1, .int .i64 d.2.1.2.2.2.2.1, .ptr 1 0, .full 3, .slice 4 0 d.2.1.2.2.2.2.2.2.2.1.1 d.2.1.2.2.2.2.2.2.2.1.2.1 (some d.2.1.2.2.2.2.2.2.2.1.2.2), .int .i64 d.2.1.2.2.2.2.2.2.2.2.1, .int .i64 d.2.1.2.2.2.2.2.2.2.2.2.1, .int .i64 d.2.1.2.2.2.2.2.2.2.2.2.2.1]⟩, some ⟨d.2.2.1.1, [.int .i64 d.2.2.1.2.1, .int .i64 d.2.2.1.2.2.1, .int .i64 d.2.2.1.2.2.2.1, .int .i64 d.2.2.1.2.2.2.2.1, .full 2]⟩, some ⟨d.2.2.2.1.1, [.seq .str 0 d.2.2.2.1.2.1]⟩, some ⟨d.2.2.2.2.1.1, [.seq (.pair (.int .i64) .str) 0 d.2.2.2.2.1.2.1]⟩, some ⟨d.2.2.2.2.2.1.1, [.seq (.pair (.int .i64) .str) 0 d.2.2.2.2.2.1.2.1]⟩]) := by kernel_rfl
theorem E16_4555 (F : Nat) (d : sh16_4555.den) (K : KF) : evBody Try.prog (T16_4555 F) 39 5 (LT16_4555 F) code16 Try.f16.results.toList (encT sh16_4555.vs d.1) (encH sh16_4555.h d.2) K = f16_4555 F d.2.1.2.1 d.2.1.2.2.1 d.2.1.2.2.2.1 d.2.1.2.2.2.2.1 d.2.1.2.2.2.2.2.2.2.1.1 d.2.1.2.2.2.2.2.2.2.1.2.1 d.2.1.2.2.2.2.2.2.2.1.2.2 d.2.1.2.2.2.2.2.2.2.2.1 d.2.1.2.2.2.2.2.2.2.2.2.1 d.2.1.2.2.2.2.2.2.2.2.2.2.1 d.2.2.1.2.1 d.2.2.1.2.2.1 d.2.2.1.2.2.2.1 d.2.2.1.2.2.2.2.1 d.2.2.2.1.2.1 d.2.2.2.2.1.2.1 d.2.2.2.2.2.1.2.1 (fun (y0 : Int) (y1 : Int) => K [.lf (.int .i64 y0), .lf (.int .i64 y1)] [some ⟨d.2.1.1, [.int .i64 d.2.1.2.1, .int .i64 d.2.1.2.2.1, .int .i64 d.2.1.2.2.2.1, .int .i64 d.2.1.2.2.2.2.1, .ptr 1 0, .full 3, .slice 4 0 d.2.1.2.2.2.2.2.2.2.1.1 d.2.1.2.2.2.2.2.2.2.1.2.1 (some d.2.1.2.2.2.2.2.2.2.1.2.2), .int .i64 d.2.1.2.2.2.2.2.2.2.2.1, .int .i64 d.2.1.2.2.2.2.2.2.2.2.2.1, .int .i64 d.2.1.2.2.2.2.2.2.2.2.2.2.1]⟩, some ⟨d.2.2.1.1, [.int .i64 d.2.2.1.2.1, .int .i64 d.2.2.1.2.2.1, .int .i64 d.2.2.1.2.2.2.1, .int .i64 d.2.2.1.2.2.2.2.1, .full 2]⟩, some ⟨d.2.2.2.1.1, [.seq .str 0 d.2.2.2.1.2.1]⟩, some ⟨d.2.2.2.2.1.1, [.seq (.pair (.int .i64) .str) 0 d.2.2.2.2.1.2.1]⟩, some ⟨d.2.2.2.2.2.1.1, [.seq (.pair (.int .i64) .str) 0 d.2.2.2.2.2.1.2.1]⟩]) := Eq.mp (by kernel_rfl) (E16_4555g F    d K)
theorem S16_4555_ok (F : Nat) (o : Summ) (ho : SoundFn Try.prog 16 o) : SoundFn Try.prog 16 (S16_4555 F o) :=
  soundFn_of (fn := Try.f16) (c := code16) (by kernel_rfl) tab_nil (by kernel_rfl) (by kernel_rfl) ho (by rw [loops16]; exact loopsOK_nil) (by rw [scopes16]; exact scopesOK_nil) (E16_4555 F)
end Go.Proofs.Ytillbabmlfjegaa.X
end

section
namespace Go.Proofs.Ytillbabmlfjegaa.X
open Go Go.Proofs.Ytillbabmlfjegaa.Ev Go.Proofs
set_option linter.unusedVariables false
/-! walk.Walk).waits -/
noncomputable def f67_6465 {β : Type} (F : Nat) (a1 : Int) (a2 : Int) (a3 : Int) (a4 : Int) (a5 : Int) (a6 : Int) (a7 : Nat) (a8 : Nat) (a9 : Nat) (a10 : Int) (a11 : Int) (a12 : Int) (a13 : Int) (a14 : Int) (a15 : Int) (a16 : Int) (a17 : List ByteArray) (a18 : List (Int × ByteArray)) (a19 : List (Int × ByteArray)) (K0 : Bool → Option β) : Option β := f16_4555 F a3 a4 a5 a6 a7 a8 a9 a10 a11 a12 a13 a14 a15 a16 a17 a18 a19 (fun x1 x2 => cond (x1 == a1) (K0 (x2 == a2)) (K0 false)) 
def sh67_6465 : Sh := ⟨[.lf (.ptr 0 0), .lf (.int .i64), .lf (.int .i64)], [some ⟨none, [.int .i64, .int .i64, .int .i64, .int .i64, .ptr 1 0, .full 3, .sliceC 4 0, .int .i64, .int .i64, .int .i64]⟩, some ⟨none, [.int .i64, .int .i64, .int .i64, .int .i64, .full 2]⟩, some ⟨none, [.seq .str 0]⟩, some ⟨none, [.seq (.pair (.int .i64) .str) 0]⟩, some ⟨none, [.seq (.pair (.int .i64) .str) 0]⟩]⟩
noncomputable def S67_6465 (F : Nat) (o : Summ) : Summ := mkS sh67_6465 (fun d K => f67_6465 F d.1.2.1 d.1.2.2.1 d.2.1.2.1 d.2.1.2.2.1 d.2.1.2.2.2.1 d.2.1.2.2.2.2.1 d.2.1.2.2.2.2.2.2.2.1.1 d.2.1.2.2.2.2.2.2.2.1.2.1 d.2.1.2.2.2.2.2.2.2.1.2.2 d.2.1.2.2.2.2.2.2.2.2.1 d.2.1.2.2.2.2.2.2.2.2.2.1 d.2.1.2.2.2.2.2.2.2.2.2.2.1 d.2.2.1.2.1 d.2.2.1.2.2.1 d.2.2.1.2.2.2.1 d.2.2.1.2.2.2.2.1 d.2.2.2.1.2.1 d.2.2.2.2.1.2.1 d.2.2.2.2.2.1.2.1 (fun (y0 : Bool) => K [.lf (.bool y0)] [some ⟨d.2.1.1, [.int .i64 d.2.1.2.1, .int .i64 d.2.1.2.2.1, .int .i64 d.2.1.2.2.2.1, .int .i64 d.2.1.2.2.2.2.1, .ptr 1 0, .full 3, .slice 4 0 d.2.1.2.2.2.2.2.2.2.1.1 d.2.1.2.2.2.2.2.2.2.1.2.1 (some d.2.1.2.2.2.2.2.2.2.1.2.2), .int .i64 d.2.1.2.2.2.2.2.2.2.2.1, .int .i64 d.2.1.2.2.2.2.2.2.2.2.2.1, .int .i64 d.2.1.2.2.2.2.2.2.2.2.2.2.1]⟩, some ⟨d.2.2.1.1, [.int .i64 d.2.2.1.2.1, .int .i64 d.2.2.1.2.2.1, .int .i64 d.2.2.1.2.2.2.1, .int .i64 d.2.2.1.2.2.2.2.1, .full 2]⟩, some ⟨d.2.2.2.1.1, [.seq .str 0 d.2.2.2.1.2.1]⟩, some ⟨d.2.2.2.2.1.1, [.seq (.pair (.int .i64) .str) 0 d.2.2.2.2.1.2.1]⟩, some ⟨d.2.2.2.2.2.1.1, [.seq (.pair (.int .i64) .str) 0 d.2.2.2.2.2.1.2.1]⟩])) o
noncomputable def T67_6465 (F : Nat) : FuncId → Option Summ := tab [(16, (S16_4555 F noS))]
noncomputable def LT67_6465 (F : Nat) : Nat → Option LoopS := ltab []
theorem E67_6465g (F : Nat) (c16_4555 : Int → Int → Int → Int → Nat → Nat → Nat → Int → Int → Int → Int → Int → Int → Int → List ByteArray → List (Int × ByteArray) → List (Int × ByteArray) → (Int → Int → Option Res) → Option Res)   (d : sh67_6465.den) (K : KF) : evBody Try.prog (tab [(16, (mkS sh16_4555 (fun d K => c16_4555 d.2.1.2.1 d.2.1.2.2.1 d.2.1.2.2.2.1 d.2.1.2.2.2.2.1 d.2.1.2.2.2.2.2.2.2.1.1 d.2.1.2.2.2.2.2.2.2.1.2.1 d.2.1.2.2.2.2.2.2.2.1.2.2 d.2.1.2.2.2.2.2.2.2.2.1 d.2.1.2.2.2.2.2.2.2.2.2.1 d.2.1.2.2.2.2.2.2.2.2.2.2.1 d.2.2.1.2.1 d.2.2.1.2.2.1 d.2.2.1.2.2.2.1 d.2.2.1.2.2.2.2.1 d.2.2.2.1.2.1 d.2.2.2.2.1.2.1 d.2.2.2.2.2.1.2.1 (fun (y0 : Int) (y1 : Int) => K [.lf (.int .i64 y0), .lf (.int .i64 y1)] [some ⟨d.2.1.1, [.int .i64 d.2.1.2.1, .int .i64 d.2.1.2.2.1, .int .i64 d.2.1.2.2.2.1, .int .i64 d.2.1.2.2.2.2.1, .ptr 1 0, .full 3, .slice 4 0 d.2.1.2.2.2.2.2.2.2.1.1 d.2.1.2.2.2.2.2.2.2.1.2.1 (some d.2.1.2.2.2.2.2.2.2.1.2.2), .int .i64 d.2.1.2.2.2.2.2.2.2.2.1, .int .i64 d.2.1.2.2.2.2.2.2.2.2.2.1, .int .i64 d.2.1.2.2.2.2.2.2.2.2.2.2.1]⟩, some ⟨d.2.2.1.1, [.int .i64 d.2.2.1.2.1, .int .i64 d.2.2.1.2.2.1, .int .i64 d.2.2.1.2.2.2.1, .int .i64 d.2.2.1.2.2.2.2.1, .full 2]⟩, some ⟨d.2.2.2.1.1, [.seq .str 0 d.2.2.2.1.2.1]⟩, some ⟨d.2.2.2.2.1.1, [.seq (.pair (.int .i64) .str) 0 d.2.2.2.2.1.2.1]⟩, some ⟨d.2.2.2.2.2.1.1, [.seq (.pair (.int .i64) .str) 0 d.2.2.2.2.2.1.2.1]⟩])) noS))]) 22 5 (ltab []) code67 Try.f67.results.toList (encT sh67_6465.vs d.1) (encH sh67_6465.h d.2) K = (fun (a1 : Int) (a2 : Int) (a3 : Int) (a4 : Int) (a5 : Int) (a6 : Int) (a7 : Nat) (a8 : Nat) (a9 : Nat) (a10 : Int) (a11 : Int) (a12 : Int) (a13 : Int) (a14 : Int) (a15 : Int) (a16 : Int) (a17 : List ByteArray) (a18 : List (Int × ByteArray)) (a19 : List (Int × ByteArray)) (K0 : (Bool → Option Res)) => c16_4555 a3 a4 a5 a6 a7 a8 a9 a10 a11 a12 a13 a14 a15 a16 a17 a18 a19 (fun x1 x2 => cond (x1 == a1) (K0 (x2 == a2)) (K0 false)) ) d.1.2.1 d.1.2.2.1 d.2.1.2.1 d.2.1.2.2.1 d.2.1.2.2.2.1 d.2.1.2.2.2.2.1 d.2.1.2.2.2.2.2.2.2.1.1 d.2.1.2.2.2.2.2.2.2.1.2.1 d.2.1.2.2.2.2.2.2.2.1.2.2 d.2.1.2.2.2.2.2.2.2.2.1 d.2.1.2.2.2.2.2.2.2.2.2.1 d.2.1.2.2.2.2.2.2.2.2.2.2.1 d.2.2.1.2.1 d.2.2.1.2.2.1 d.2.2.1.2.2.2.1 d.2.2.1.2.2.2.2.1 d.2.2.2.1.2.1 d.2.2.2.2.1.2.1 d.2.2.2.2.2.1.2.1 (fun (y0 : Bool) => K [.lf (.bool y0)] [some ⟨d.2.1.1, [.int .i64 d.2.1.2.1, .int .i64 d.2.1.2.2.1, .int .i64 d.2.1.2.2.2.1, .int .i64 d.2.1.2.2.2.2.1, .ptr 1 0, .full 3, .slice 4 0 d.2.1.2.2.2.2.2.2.2.1.1 d.2.1.2.2.2.2.2.2.2.1.2.1 (some d.2.1.2.2.2.2.2.2.2.1.2.2), .int .i64 d.2.1.2.2.2.2.2.2.2.2.1, .int .i64 d.2.1.2.2.2.2.2.2.2.2.2.1, .int .i64 d.2.1.2.2.2.2.2.2.2.2.2.2.1]⟩, some ⟨d.2.2.1.1, [.int .i64 d.2.2.1.2.1, .int .i64 d.2.2.1.2.2.1, .int .i64 d.2.2.1.2.2.2.1, .int .i64 d.2.2.1.2.2.2.2.1, .full 2]⟩, some ⟨d.2.2.2.1.1, [.seq .str 0 d.2.2.2.1.2.1]⟩, some ⟨d.2.2.2.2.1.1, [.seq (.pair (.int .i64) .str) 0 d.2.2.2.2.1.2.1]⟩, some ⟨d.2.2.2.2.2.1.1, [.seq (.pair (.int .i64) .str) 0 d.2.2.2.2.2.1.2.1]⟩]) := by kernel_rfl
theorem E67_6465 (F : Nat) (d : sh67_6465.den) (K : KF) : evBody Try.prog (T67_6465 F) 22 5 (LT67_6465 F) code67 Try.f67.results.toList (encT sh67_6465.vs d.1) (encH sh67_6465.h d.2) K = f67_6465 F d.1.2.1 d.1.2.2.1 d.2.1.2.1 d.2.1.2.2.1 d.2.1.2.2.2.1 d.2.1.2.2.2.2.1 d.2.1.2.2.2.2.2.2.2.1.1 d.2.1.2.2.2.2.2.2.2.1.2.1 d.2.1.2.2.2.2.2.2.2.1.2.2 d.2.1.2.2.2.2.2.2.2.2.1 d.2.1.2.2.2.2.2.2.2.2.2.1 d.2.1.2.2.2.2.2.2.2.2.2.2.1 d.2.2.1.2.1 d.2.2.1.2.2.1 d.2.2.1.2.2.2.1 d.2.2.1.2.2.2.2.1 d.2.2.2.1.2.1 d.2.2.2.2.1.2.1 d.2.2.2.2.2.1.2.1 (fun (y0 : Bool) => K [.lf (.bool y0)] [some ⟨d.2.1.1, [.int .i64 d.2.1.2.1, .int .i64 d.2.1.2.2.1, .int .i64 d.2.1.2.2.2.1, .int .i64 d.2.1.2.2.2.2.1, .ptr 1 0, .full 3, .slice 4 0 d.2.1.2.2.2.2.2.2.2.1.1 d.2.1.2.2.2.2.2.2.2.1.2.1 (some d.2.1.2.2.2.2.2.2.2.1.2.2), .int .i64 d.2.1.2.2.2.2.2.2.2.2.1, .int .i64 d.2.1.2.2.2.2.2.2.2.2.2.1, .int .i64 d.2.1.2.2.2.2.2.2.2.2.2.2.1]⟩, some ⟨d.2.2.1.1, [.int .i64 d.2.2.1.2.1, .int .i64 d.2.2.1.2.2.1, .int .i64 d.2.2.1.2.2.2.1, .int .i64 d.2.2.1.2.2.2.2.1, .full 2]⟩, some ⟨d.2.2.2.1.1, [.seq .str 0 d.2.2.2.1.2.1]⟩, some ⟨d.2.2.2.2.1.1, [.seq (.pair (.int .i64) .str) 0 d.2.2.2.2.1.2.1]⟩, some ⟨d.2.2.2.2.2.1.1, [.seq (.pair (.int .i64) .str) 0 d.2.2.2.2.2.1.2.1]⟩]) := Eq.mp (by kernel_rfl) (E67_6465g F (f16_4555 F)   d K)
theorem S67_6465_ok (F : Nat) (o : Summ) (ho : SoundFn Try.prog 67 o) : SoundFn Try.prog 67 (S67_6465 F o) :=
  soundFn_of (fn := Try.f67) (c := code67) (by kernel_rfl) (tab_cons (S16_4555_ok F _ (noS_sound enter16)) tab_nil) (by kernel_rfl) (by kernel_rfl) ho (by rw [loops67]; exact loopsOK_nil) (by rw [scopes67]; exact scopesOK_nil) (E67_6465 F)
end Go.Proofs.Ytillbabmlfjegaa.X
end

section
namespace Go.Proofs.Ytillbabmlfjegaa.X
open Go Go.Proofs.Ytillbabmlfjegaa.Ev Go.Proofs
set_option linter.unusedVariables false
/-! walk.Walk).Done -/
noncomputable def f15_4555 {β : Type} (F : Nat) (a1 : Int) (a2 : Int) (a3 : Int) (a4 : Int) (a5 : Nat) (a6 : Nat) (a7 : Nat) (a8 : Int) (a9 : Int) (a10 : Int) (a11 : Int) (a12 : Int) (a13 : Int) (a14 : Int) (a15 : List ByteArray) (a16 : List (Int × ByteArray)) (a17 : List (Int × ByteArray)) (K0 : Bool → Option β) : Option β := f67_6465 F 0 0 a1 a2 a3 a4 a5 a6 a7 a8 a9 a10 a11 a12 a13 a14 a15 a16 a17 (fun x1 => K0 x1) 
def sh15_4555 : Sh := ⟨[.lf (.ptr 0 0)], [some ⟨none, [.int .i64, .int .i64, .int .i64, .int .i64, .ptr 1 0, .full 3, .sliceC 4 0, .int .i64, .int .i64, .int .i64]⟩, some ⟨none, [.int .i64, .int .i64, .int .i64, .int .i64, .full 2]⟩, some ⟨none, [.seq .str 0]⟩, some ⟨none, [.seq (.pair (.int .i64) .str) 0]⟩, some ⟨none, [.seq (.pair (.int .i64) .str) 0]⟩]⟩
noncomputable def S15_4555 (F : Nat) (o : Summ) : Summ := mkS sh15_4555 (fun d K => f15_4555 F d.2.1.2.1 d.2.1.2.2.1 d.2.1.2.2.2.1 d.2.1.2.2.2.2.1 d.2.1.2.2.2.2.2.2.2.1.1 d.2.1.2.2.2.2.2.2.2.1.2.1 d.2.1.2.2.2.2.2.2.2.1.2.2 d.2.1.2.2.2.2.2.2.2.2.1 d.2.1.2.2.2.2.2.2.2.2.2.1 d.2.1.2.2.2.2.2.2.2.2.2.2.1 d.2.2.1.2.1 d.2.2.1.2.2.1 d.2.2.1.2.2.2.1 d.2.2.1.2.2.2.2.1 d.2.2.2.1.2.1 d.2.2.2.2.1.2.1 d.2.2.2.2.2.1.2.1 (fun (y0 : Bool) => K [.lf (.bool y0)] [some ⟨d.2.1.1, [.int .i64 d.2.1.2.1, .int .i64 d.2.1.2.2.1, .int .i64 d.2.1.2.2.2.1, .int .i64 d.2.1.2.2.2.2.1, .ptr 1 0, .full 3, .slice 4 0 d.2.1.2.2.2.2.2.2.2.1.1 d.2.1.2.2.2.2.2.2.2.1.2.1 (some d.2.1.2.2.2.2.2.2.2.1.2.2), .int .i64 d.2.1.2.2.2.2.2.2.2.2.1, .int .i64 d.2.1.2.2.2.2.2.2.2.2.2.1, .int .i64 d.2.1.2.2.2.2.2.2.2.2.2.2.1]⟩, some ⟨d.2.2.1.1, [.int .i64 d.2.2.1.2.1, .int .i64 d.2.2.1.2.2.1, .int .i64 d.2.2.1.2.2.2.1, .int .i64 d.2.2.1.2.2.2.2.1, .full 2]⟩, some ⟨d.2.2.2.1.1, [.seq .str 0 d.2.2.2.1.2.1]⟩, some ⟨d.2.2.2.2.1.1, [.seq (.pair (.int .i64) .str) 0 d.2.2.2.2.1.2.1]⟩, some ⟨d.2.2.2.2.2.1.1, [.seq (.pair (.int .i64) .str) 0 d.2.2.2.2.2.1.2.1]⟩])) o
noncomputable def T15_4555 (F : Nat) : FuncId → Option Summ := tab [(67, (S67_6465 F noS))]
noncomputable def LT15_4555 (F : Nat) : Nat → Option LoopS := ltab []
theorem E15_4555g (F : Nat) (c67_6465 : Int → Int → Int → Int → Int → Int → Nat → Nat → Nat → Int → Int → Int → Int → Int → Int → Int → List ByteArray → List (Int × ByteArray) → List (Int × ByteArray) → (Bool → Option Res) → Option Res)   (d : sh15_4555.den) (K : KF) : evBody Try.prog (tab [(67, (mkS sh67_6465 (fun d K => c67_6465 d.1.2.1 d.1.2.2.1 d.2.1.2.1 d.2.1.2.2.1 d.2.1.2.2.2.1 d.2.1.2.2.2.2.1 d.2.1.2.2.2.2.2.2.2.1.1 d.2.1.2.2.2.2.2.2.2.1.2.1 d.2.1.2.2.2.2.2.2.2.1.2.2 d.2.1.2.2.2.2.2.2.2.2.1 d.2.1.2.2.2.2.2.2.2.2.2.1 d.2.1.2.2.2.2.2.2.2.2.2.2.1 d.2.2.1.2.1 d.2.2.1.2.2.1 d.2.2.1.2.2.2.1 d.2.2.1.2.2.2.2.1 d.2.2.2.1.2.1 d.2.2.2.2.1.2.1 d.2.2.2.2.2.1.2.1 (fun (y0 : Bool) => K [.lf (.bool y0)] [some ⟨d.2.1.1, [.int .i64 d.2.1.2.1, .int .i64 d.2.1.2.2.1, .int .i64 d.2.1.2.2.2.1, .int .i64 d.2.1.2.2.2.2.1, .ptr 1 0, .full 3, .slice 4 0 d.2.1.2.2.2.2.2.2.2.1.1 d.2.1.2.2.2.2.2.2.2.1.2.1 (some d.2.1.2.2.2.2.2.2.2.1.2.2), .int .i64 d.2.1.2.2.2.2.2.2.2.2.1, .int .i64 d.2.1.2.2.2.2.2.2.2.2.2.1, .int .i64 d.2.1.2.2.2.2.2.2.2.2.2.2.1]⟩, some ⟨d.2.2.1.1, [.int .i64 d.2.2.1.2.1, .int .i64 d.2.2.1.2.2.1, .int .i64 d.2.2.1.2.2.2.1, .int .i64 d.2.2.1.2.2.2.2.1, .full 2]⟩, some ⟨d.2.2.2.1.1, [.seq .str 0 d.2.2.2.1.2.1]⟩, some ⟨d.2.2.2.2.1.1, [.seq (.pair (.int .i64) .str) 0 d.2.2.2.2.1.2.1]⟩, some ⟨d.2.2.2.2.2.1.1, [.seq (.pair (.int .i64) .str) 0 d.2.2.2.2.2.1.2.1]⟩])) noS))]) 5 5 (ltab []) code15 Try.f15.results.toList (encT sh15_4555.vs d.1) (encH sh15_4555.h d.2) K = (fun (a1 : Int) (a2 : Int) (a3 : Int) (a4 : Int) (a5 : Nat) (a6 : Nat) (a7 : Nat) (a8 : Int) (a9 : Int) (a10 : Int) (a11 : Int) (a12 : Int) (a13 : Int) (a14 : Int) (a15 : List ByteArray) (a16 : List (Int × ByteArray)) (a17 : List (Int × ByteArray)) (K0 : (Bool → Option Res)) => c67_6465 0 0 a1 a2 a3 a4 a5 a6 a7 a8 a9 a10 a11 a12 a13 a14 a15 a16 a17 (fun x1 => K0 x1) ) d.2.1.2.1 d.2.1.2.2.1 d.2.1.2.2.2.1 d.2.1.2.2.2.2.1 d.2.1.2.2.2.2.2.2.2.1.1 d.2.1.2.2.2.2.2.2.2.1.2.1 d.2.1.2.2.2.2.2.2.2.1.2.2 d.2.1.2.2.2.2.2.2.2.2.1 d.2.1.2.2.2.2.2.2.2.2.2.1 d.2.1.2.2.2.2.2.2.2.2.2.2.1 d.2.2.1.2.1 d.2.2.1.2.2.1 d.2.2.1.2.2.2.1 d.2.2.1.2.2.2.2.1 d.2.2.2.1.2.1 d.2.2.2.2.1.2.1 d.2.2.2.2.2.1.2.1 (fun (y0 : Bool) => K [.lf (.bool y0)] [some ⟨d.2.1.1, [.int .i64 d.2.1.2.1, .int .i64 d.2.1.2.2.1, .int .i64 d.2.1.2.2.2.1, .int .i64 d.2.1.2.2.2.2.1, .ptr 1 0, .full 3, .slice 4 0 d.2.1.2.2.2.2.2.2.2.1.1 d.2.1.2.2.2.2.2.2.2.1.2.1 (some d.2.1.2.2.2.2.2.2.2.1.2.2), .int .i64 d.2.1.2.2.2.2.2.2.2.2.1, .int .i64 d.2.1.2.2.2.2.2.2.2.2.2.1, .int .i64 d.2.1.2.2.2.2.2.2.2.2.2.2.1]⟩, some ⟨d.2.2.1.1, [.int .i64 d.2.2.1.2.1, .int .i64 d.2.2.1.2.2.1, .int .i64 d.2.2.1.2.2.2.1, .int .i64 d.2.2.1.2.2.2.2.1, .full 2]⟩, some ⟨d.2.2.2.1.1, [.seq .str 0 d.2.2.2.1.2.1]⟩, some ⟨d.2.2.2.2.1.1, [.seq (.pair (.int .i64) .str) 0 d.2.2.2.2.1.2.1]⟩, some ⟨d.2.2.2.2.2.1.1, [.seq (.pair (.int .i64) .str) 0 d.2.2.2.2.2.1.2.1]⟩]) := by kernel_rfl
theorem E15_4555 (F : Nat) (d : sh15_4555.den) (K : KF) : evBody Try.prog (T15_4555 F) 5 5 (LT15_4555 F) code15 Try.f15.results.toList (encT sh15_4555.vs d.1) (encH sh15_4555.h d.2) K = f15_4555 F d.2.1.2.1 d.2.1.2.2.1 d.2.1.2.2.2.1 d.2.1.2.2.2.2.1 d.2.1.2.2.2.2.2.2.2.1.1 d.2.1.2.2.2.2.2.2.2.1.2.1 d.2.1.2.2.2.2.2.2.2.1.2.2 d.2.1.2.2.2.2.2.2.2.2.1 d.2.1.2.2.2.2.2.2.2.2.2.1 d.2.1.2.2.2.2.2.2.2.2.2.2.1 d.2.2.1.2.1 d.2.2.1.2.2.1 d.2.2.1.2.2.2.1 d.2.2.1.2.2.2.2.1 d.2.2.2.1.2.1 d.2.2.2.2.1.2.1 d.2.2.2.2.2.1.2.1 (fun (y0 : Bool) => K [.lf (.bool y0)] [some ⟨d.2.1.1, [.int .i64 d.2.1.2.1, .int .i64 d.2.1.2.2.1, .int .i64 d.2.1.2.2.2.1, .int .i64 d.2.1.2.2.2.2.1, .ptr 1 0, .full 3, .slice 4 0 d.2.1.2.2.2.2.2.2.2.1.1 d.2.1.2.2.2.2.2.2.2.1.2.1 (some d.2.1.2.2.2.2.2.2.2.1.2.2), .int .i64 d.2.1.2.2.2.2.2.2.2.2.1, .int .i64 d.2.1.2.2.2.2.2.2.2.2.2.1, .int .i64 d.2.1.2.2.2.2.2.2.2.2.2.2.1]⟩, some ⟨d.2.2.1.1, [.int .i64 d.2.2.1.2.1, .int .i64 d.2.2.1.2.2.1, .int .i64 d.2.2.1.2.2.2.1, .int .i64 d.2.2.1.2.2.2.2.1, .full 2]⟩, some ⟨d.2.2.2.1.1, [.seq .str 0 d.2.2.2.1.2.1]⟩, some ⟨d.2.2.2.2.1.1, [.seq (.pair (.int .i64) .str) 0 d.2.2.2.2.1.2.1]⟩, some ⟨d.2.2.2.2.2.1.1, [.seq (.pair (.int .i64) .str) 0 d.2.2.2.2.2.1.2.1]⟩]) := Eq.mp (by kernel_rfl) (E15_4555g F (f67_6465 F)   d K)
theorem S15_4555_ok (F : Nat) (o : Summ) (ho : SoundFn Try.prog 15 o) : SoundFn Try.prog 15 (S15_4555 F o) :=
  soundFn_of (fn := Try.f15) (c := code15) (by kernel_rfl) (tab_cons (S67_6465_ok F _ (noS_sound enter67)) tab_nil) (by kernel_rfl) (by kernel_rfl) ho (by rw [loops15]; exact loopsOK_nil) (by rw [scopes15]; exact scopesOK_nil) (E15_4555 F)
end Go.Proofs.Ytillbabmlfjegaa.X
end

section
namespace Go.Proofs.Ytillbabmlfjegaa.X
open Go Go.Proofs.Ytillbabmlfjegaa.Ev Go.Proofs
set_option linter.unusedVariables false
/-! pentimentoref05.Fill -/
noncomputable def f50_1_l3 {β : Type} (F : Nat) (v1 : Int) (K0 : List Int → Option β) : Nat → Int → List Int → Option β
  | 0, _, _ => none
  | k + 1, v2, v3 => cond (decide (v2 < 64)) (cond (decide ((v3.length + 1) * 1 ≤ 70368744177664)) (f50_1_l3 F v1 K0 k (IntKind.i64.wrap (v2 + 1)) (v3 ++ [v1])) none) (K0 v3)
noncomputable def f50_1 {β : Type} (F : Nat) (a1 : Int) (K0 : ByteArray → Option β) : Option β := f50_1_l3 F a1 (fun x4 => K0 (ofInts x4)) F 0 []
def sh50_1 : Sh := ⟨[.lf (.int .u8)], []⟩
noncomputable def S50_1 (F : Nat) (o : Summ) : Summ := mkS sh50_1 (fun d K => f50_1 F d.1.1 (fun (y0 : ByteArray) => K [.lf (.str y0)] [])) o
noncomputable def code50 : Code := bodyOf Try.f50
noncomputable def b50_0 : Code := cB (cB (cR (cL (cR (cR (code50))))))
theorem scopes50 : scopesOf code50 = [] := by kernel_rfl
theorem loops50 : loopsOf code50 = [b50_0] := by kernel_rfl
theorem enter50 : ∀ args w, (callFunc 50 args).run Try.prog w = .ok (.enter 50 args) w := enter_of (fn := Try.f50) (by kernel_rfl) (by kernel_rfl) (by kernel_rfl)
noncomputable def T50_1 (F : Nat) : FuncId → Option Summ := tab []
def sh50_1_l3 : Sh := ⟨[.lf (.int .u8), .lf (.full 0), .lf (.int .i64)], [some ⟨some false, [.seq (.int .u8) 0]⟩]⟩
noncomputable def G50_1_3 (F k : Nat) : LoopS := mkG sh50_1_l3 [0, 3, 4] (outT [(.exit 0, [3])]) (fun d K => f50_1_l3 F d.1.1 (fun (y0 : List Int) => K (.exit 0) [.tv (.lf (.full 0))] [some ⟨false, [.seq (.int .u8) 0 y0]⟩]) k d.1.2.2.1 d.2.1.2.1)
noncomputable def LT50_1 (F : Nat) : Nat → Option LoopS := ltab [(3, G50_1_3 F F)]
theorem L50_1_3g (F k : Nat)   (l3 : Int → (List Int → Option Res) → Nat → Int → List Int → Option Res) (X3 : LoopS) (d : sh50_1_l3.den) (K : KL) : (fun (v1 : Int) (K0 : (List Int → Option Res)) (k : Nat) (v2 : Int) (v3 : List Int) => cond (decide (v2 < 64)) (cond (decide ((v3.length + 1) * 1 ≤ 70368744177664)) (l3 v1 K0 k (IntKind.i64.wrap (v2 + 1)) (v3 ++ [v1])) none) (K0 v3)) d.1.1 (fun (y0 : List Int) => K (.exit 0) [.tv (.lf (.full 0))] [some ⟨false, [.seq (.int .u8) 0 y0]⟩]) k d.1.2.2.1 d.2.1.2.1 = roundOf Try.prog (tab []) 15 0 (ltab [(3, X3)]) (mkG sh50_1_l3 [0, 3, 4] (outT [(.exit 0, [3])]) (fun d K => l3 d.1.1 (fun (y0 : List Int) => K (.exit 0) [.tv (.lf (.full 0))] [some ⟨false, [.seq (.int .u8) 0 y0]⟩]) k d.1.2.2.1 d.2.1.2.1)) b50_0 (encT sh50_1_l3.vs d.1) (encH sh50_1_l3.h d.2) K := by kernel_rfl
theorem L50_1_3 (F : Nat) : LoopOK Try.prog (T50_1 F) 15 0 (LT50_1 F) (G50_1_3 F F) b50_0 :=
  loopOK_of (s := sh50_1_l3) (live := [0, 3, 4]) (out := (outT [(.exit 0, [3])])) (fun k d K => f50_1_l3 F d.1.1 (fun (y0 : List Int) => K (.exit 0) [.tv (.lf (.full 0))] [some ⟨false, [.seq (.int .u8) 0 y0]⟩]) k d.1.2.2.1 d.2.1.2.1) F (fun d K => by kernel_rfl)  (fun k d K => Eq.mp (by kernel_rfl) (L50_1_3g F k   (f50_1_l3 F) (G50_1_3 F F) d K))
theorem E50_1g (F : Nat)  (l3 : Int → (List Int → Option Res) → Nat → Int → List Int → Option Res)  (d : sh50_1.den) (K : KF) : evBody Try.prog (tab []) 15 0 (ltab [(3, mkG sh50_1_l3 [0, 3, 4] (outT [(.exit 0, [3])]) (fun d K => l3 d.1.1 (fun (y0 : List Int) => K (.exit 0) [.tv (.lf (.full 0))] [some ⟨false, [.seq (.int .u8) 0 y0]⟩]) F d.1.2.2.1 d.2.1.2.1))]) code50 Try.f50.results.toList (encT sh50_1.vs d.1) (encH sh50_1.h d.2) K = (fun (a1 : Int) (K0 : (ByteArray → Option Res)) => l3 a1 (fun x4 => K0 (ofInts x4)) F 0 []) d.1.1 (fun (y0 : ByteArray) => K [.lf (.str y0)] []) := by kernel_rfl
theorem E50_1 (F : Nat) (d : sh50_1.den) (K : KF) : evBody Try.prog (T50_1 F) 15 0 (LT50_1 F) code50 Try.f50.results.toList (encT sh50_1.vs d.1) (encH sh50_1.h d.2) K = f50_1 F d.1.1 (fun (y0 : ByteArray) => K [.lf (.str y0)] []) := Eq.mp (by kernel_rfl) (E50_1g F  (f50_1_l3 F)  d K)
theorem S50_1_ok (F : Nat) (o : Summ) (ho : SoundFn Try.prog 50 o) : SoundFn Try.prog 50 (S50_1 F o) :=
  soundFn_of (fn := Try.f50) (c := code50) (by kernel_rfl) tab_nil (by kernel_rfl) (by kernel_rfl) ho (by rw [loops50]; exact (loopsOK_cons (by kernel_rfl) (L50_1_3 F) loopsOK_nil)) (by rw [scopes50]; exact scopesOK_nil) (E50_1 F)
end Go.Proofs.Ytillbabmlfjegaa.X
end

section
namespace Go.Proofs.Ytillbabmlfjegaa.X
open Go Go.Proofs.Ytillbabmlfjegaa.Ev Go.Proofs
set_option linter.unusedVariables false
/-! pentimentoref05.Zero -/
noncomputable def f49_1 {β : Type} (F : Nat)  (K0 : ByteArray → Option β) : Option β := f50_1 F 0 (fun x1 => K0 x1) 
def sh49_1 : Sh := ⟨[], []⟩
noncomputable def S49_1 (F : Nat) (o : Summ) : Summ := mkS sh49_1 (fun d K => f49_1 F (fun (y0 : ByteArray) => K [.lf (.str y0)] [])) o
noncomputable def code49 : Code := bodyOf Try.f49
theorem scopes49 : scopesOf code49 = [] := by kernel_rfl
theorem loops49 : loopsOf code49 = [] := by kernel_rfl
theorem enter49 : ∀ args w, (callFunc 49 args).run Try.prog w = .ok (.enter 49 args) w := enter_of (fn := Try.f49) (by kernel_rfl) (by kernel_rfl) (by kernel_rfl)
noncomputable def T49_1 (F : Nat) : FuncId → Option Summ := tab [(50, (S50_1 F noS))]
noncomputable def LT49_1 (F : Nat) : Nat → Option LoopS := ltab []
theorem E49_1g (F : Nat) (c50_1 : Int → (ByteArray → Option Res) → Option Res)   (d : sh49_1.den) (K : KF) : evBody Try.prog (tab [(50, (mkS sh50_1 (fun d K => c50_1 d.1.1 (fun (y0 : ByteArray) => K [.lf (.str y0)] [])) noS))]) 2 0 (ltab []) code49 Try.f49.results.toList (encT sh49_1.vs d.1) (encH sh49_1.h d.2) K = (fun (K0 : (ByteArray → Option Res)) => c50_1 0 (fun x1 => K0 x1) ) (fun (y0 : ByteArray) => K [.lf (.str y0)] []) := by kernel_rfl
theorem E49_1 (F : Nat) (d : sh49_1.den) (K : KF) : evBody Try.prog (T49_1 F) 2 0 (LT49_1 F) code49 Try.f49.results.toList (encT sh49_1.vs d.1) (encH sh49_1.h d.2) K = f49_1 F (fun (y0 : ByteArray) => K [.lf (.str y0)] []) := Eq.mp (by kernel_rfl) (E49_1g F (f50_1 F)   d K)
theorem S49_1_ok (F : Nat) (o : Summ) (ho : SoundFn Try.prog 49 o) : SoundFn Try.prog 49 (S49_1 F o) :=
  soundFn_of (fn := Try.f49) (c := code49) (by kernel_rfl) (tab_cons (S50_1_ok F _ (noS_sound enter50)) tab_nil) (by kernel_rfl) (by kernel_rfl) ho (by rw [loops49]; exact loopsOK_nil) (by rw [scopes49]; exact scopesOK_nil) (E49_1 F)
end Go.Proofs.Ytillbabmlfjegaa.X
end

section
namespace Go.Proofs.Ytillbabmlfjegaa.X
open Go Go.Proofs.Ytillbabmlfjegaa.Ev Go.Proofs
set_option linter.unusedVariables false
/-! tree.Tree).Root -/
noncomputable def f51_1 {β : Type} (F : Nat) (a1 : Int) (a2 : Int) (a3 : Int) (a4 : Int) (a5 : List ByteArray) (K0 : ByteArray → Option β) : Option β := cond (decide ((0 : Int) ≤ IntKind.i64.wrap (((a5.length : Nat) : Int) - 1) ∧ IntKind.i64.wrap (((a5.length : Nat) : Int) - 1) < ((a5.length : Nat) : Int))) (cond (decide (0 + ((IntKind.i64.wrap (((a5.length : Nat) : Int) - 1)).toNat) < a5.length)) (K0 (a5.getD (0 + ((IntKind.i64.wrap (((a5.length : Nat) : Int) - 1)).toNat)) ByteArray.empty)) none) none
def sh51_1 : Sh := ⟨[.lf (.ptr 0 0)], [some ⟨none, [.int .i64, .int .i64, .int .i64, .int .i64, .full 1]⟩, some ⟨none, [.seq .str 0]⟩]⟩
noncomputable def S51_1 (F : Nat) (o : Summ) : Summ := mkS sh51_1 (fun d K => f51_1 F d.2.1.2.1 d.2.1.2.2.1 d.2.1.2.2.2.1 d.2.1.2.2.2.2.1 d.2.2.1.2.1 (fun (y0 : ByteArray) => K [.lf (.str y0)] [some ⟨d.2.1.1, [.int .i64 d.2.1.2.1, .int .i64 d.2.1.2.2.1, .int .i64 d.2.1.2.2.2.1, .int .i64 d.2.1.2.2.2.2.1, .full 1]⟩, some ⟨d.2.2.1.1, [.seq .str 0 d.2.2.1.2.1]⟩])) o
noncomputable def code51 : Code := bodyOf Try.f51
theorem scopes51 : scopesOf code51 = [] := by kernel_rfl
theorem loops51 : loopsOf code51 = [] := by kernel_rfl
theorem enter51 : ∀ args w, (callFunc 51 args).run Try.prog w = .ok (.enter 51 args) w := enter_of (fn := Try.f51) (by kernel_rfl) (by kernel_rfl) (by kernel_rfl)
noncomputable def T51_1 (F : Nat) : FuncId → Option Summ := tab []
noncomputable def LT51_1 (F : Nat) : Nat → Option LoopS := ltab []
theorem E51_1g (F : Nat)    (d : sh51_1.den) (K : KF) : evBody Try.prog (tab []) 17 2 (ltab []) code51 Try.f51.results.toList (encT sh51_1.vs d.1) (encH sh51_1.h d.2) K = (fun (a1 : Int) (a2 : Int) (a3 : Int) (a4 : Int) (a5 : List ByteArray) (K0 : (ByteArray → Option Res)) => cond (decide ((0 : Int) ≤ IntKind.i64.wrap (((a5.length : Nat) : Int) - 1) ∧ IntKind.i64.wrap (((a5.length : Nat) : Int) - 1) < ((a5.length : Nat) : Int))) (cond (decide (0 + ((IntKind.i64.wrap (((a5.length : Nat) : Int) - 1)).toNat) < a5.length)) (K0 (a5.getD (0 + ((IntKind.i64.wrap (((a5.length : Nat) : Int) - 1)).toNat)) ByteArray.empty)) none) none) d.2.1.2.1 d.2.1.2.2.1 d.2.1.2.2.2.1 d.2.1.2.2.2.2.1 d.2.2.1.2.1 (fun (y0 : ByteArray) => K [.lf (.str y0)] [some ⟨d.2.1.1, [.int .i64 d.2.1.2.1, .int .i64 d.2.1.2.2.1, .int .i64 d.2.1.2.2.2.1, .int .i64 d.2.1.2.2.2.2.1, .full 1]⟩, some ⟨d.2.2.1.1, [.seq .str 0 d.2.2.1.2.1]⟩]) := by kernel_rfl
theorem E51_1 (F : Nat) (d : sh51_1.den) (K : KF) : evBody Try.prog (T51_1 F) 17 2 (LT51_1 F) code51 Try.f51.results.toList (encT sh51_1.vs d.1) (encH sh51_1.h d.2) K = f51_1 F d.2.1.2.1 d.2.1.2.2.1 d.2.1.2.2.2.1 d.2.1.2.2.2.2.1 d.2.2.1.2.1 (fun (y0 : ByteArray) => K [.lf (.str y0)] [some ⟨d.2.1.1, [.int .i64 d.2.1.2.1, .int .i64 d.2.1.2.2.1, .int .i64 d.2.1.2.2.2.1, .int .i64 d.2.1.2.2.2.2.1, .full 1]⟩, some ⟨d.2.2.1.1, [.seq .str 0 d.2.2.1.2.1]⟩]) := Eq.mp (by kernel_rfl) (E51_1g F    d K)
theorem S51_1_ok (F : Nat) (o : Summ) (ho : SoundFn Try.prog 51 o) : SoundFn Try.prog 51 (S51_1 F o) :=
  soundFn_of (fn := Try.f51) (c := code51) (by kernel_rfl) tab_nil (by kernel_rfl) (by kernel_rfl) ho (by rw [loops51]; exact loopsOK_nil) (by rw [scopes51]; exact scopesOK_nil) (E51_1 F)
end Go.Proofs.Ytillbabmlfjegaa.X
end

section
namespace Go.Proofs.Ytillbabmlfjegaa.X
open Go Go.Proofs.Ytillbabmlfjegaa.Ev Go.Proofs
set_option linter.unusedVariables false
/-! tree.Tree).Root -/
noncomputable def f51_568 {β : Type} (F : Nat)  (K0 : Option β) : Option β := K0
def sh51_568 : Sh := ⟨[.lf (.nilp)], []⟩
noncomputable def S51_568 (F : Nat) (o : Summ) : Summ := mkS sh51_568 (fun d K => f51_568 F (K [.lf (.str ByteArray.empty)] [])) o
noncomputable def T51_568 (F : Nat) : FuncId → Option Summ := tab []
noncomputable def LT51_568 (F : Nat) : Nat → Option LoopS := ltab []
theorem E51_568g (F : Nat)    (d : sh51_568.den) (K : KF) : evBody Try.prog (tab []) 17 0 (ltab []) code51 Try.f51.results.toList (encT sh51_568.vs d.1) (encH sh51_568.h d.2) K = (fun (K0 : (Option Res)) => K0) (K [.lf (.str ByteArray.empty)] []) := by kernel_rfl
theorem E51_568 (F : Nat) (d : sh51_568.den) (K : KF) : evBody Try.prog (T51_568 F) 17 0 (LT51_568 F) code51 Try.f51.results.toList (encT sh51_568.vs d.1) (encH sh51_568.h d.2) K = f51_568 F (K [.lf (.str ByteArray.empty)] []) := Eq.mp (by kernel_rfl) (E51_568g F    d K)
theorem S51_568_ok (F : Nat) (o : Summ) (ho : SoundFn Try.prog 51 o) : SoundFn Try.prog 51 (S51_568 F o) :=
  soundFn_of (fn := Try.f51) (c := code51) (by kernel_rfl) tab_nil (by kernel_rfl) (by kernel_rfl) ho (by rw [loops51]; exact loopsOK_nil) (by rw [scopes51]; exact scopesOK_nil) (E51_568 F)
end Go.Proofs.Ytillbabmlfjegaa.X
end

section
namespace Go.Proofs.Ytillbabmlfjegaa.X
open Go Go.Proofs.Ytillbabmlfjegaa.Ev Go.Proofs
set_option linter.unusedVariables false
/-! pentimentolaw14.known -/
noncomputable def f8_1 {β : Type} (F : Nat)  (K0 : Bool → Option β) : Option β := f49_1 F  (fun x1 => f10_1 F 1 2 0 1 [x1] (fun x2 => f50_1 F 1 (fun x3 => f11_1 F 1 2 0 1 [x3] (fun x4 => f13_568 F  ) (fun x5 => f13_1 F 1 2 0 1 x5 (fun x6 => f12_115 F x6 (f51_568 F  (f12_115 F ByteArray.empty (K0 false) ) ) ) ) ) ) (fun x7 => f50_1 F 1 (fun x8 => f11_1 F 1 2 0 1 [x8] (fun x9 => f13_568 F  ) (fun x10 => f13_1 F 1 2 0 1 x10 (fun x11 => f12_1 F x11 1 2 0 1 x7 (f51_1 F 1 2 0 1 x7 (fun x12 => f12_1 F x12 1 2 0 1 x7 (K0 false) (fun x13 x14 x15 => K0 false) ) ) (fun x16 x17 x18 => f51_1 F 1 2 0 1 x7 (fun x19 => f12_1 F x19 1 2 0 1 x7 (K0 false) (fun x20 x21 x22 => f16_1 F 1 2 0 1 0 0 0 1 2 0 1 x16 x17 x18 (fun x23 x24 => f50_1 F 1 (fun x25 => f20_1 F 0 x25 1 2 0 1 0 0 0 1 2 0 1 x16 x17 x18 (fun x26 => f15_1 F 1 2 0 1 0 0 0 1 2 0 1 x20 x21 x22 (fun x27 => cond x27 (cond (x23 == 2) (cond (x24 == 0) (cond (x26 == 0) (f15_1 F 1 2 0 1 0 0 0 1 2 0 1 x16 x17 x18 (fun x28 => K0 x28) ) (K0 false)) (K0 false)) (K0 false)) (K0 false)) ) (fun x29 x30 x31 => f15_1 F 1 2 0 1 0 0 0 1 2 0 1 x20 x21 x22 (fun x32 => cond x32 (cond (x23 == 2) (cond (x24 == 0) (f15_4555 F 1 2 0 1 1 x29 x30 0 0 x31 1 2 0 1 x16 x17 x18 (fun x33 => K0 x33) ) (K0 false)) (K0 false)) (K0 false)) ) ) ) ) ) ) ) ) ) ) ) 
def sh8_1 : Sh := ⟨[], []⟩
noncomputable def S8_1 (F : Nat) (o : Summ) : Summ := mkS sh8_1 (fun d K => f8_1 F (fun (y0 : Bool) => K [.lf (.bool y0)] [])) o
noncomputable def code8 : Code := bodyOf Try.f8
theorem scopes8 : scopesOf code8 = [] := by kernel_rfl
theorem loops8 : loopsOf code8 = [] := by kernel_rfl
theorem enter8 : ∀ args w, (callFunc 8 args).run Try.prog w = .ok (.enter 8 args) w := enter_of (fn := Try.f8) (by kernel_rfl) (by kernel_rfl) (by kernel_rfl)
noncomputable def T8_1 (F : Nat) : FuncId → Option Summ := tab [(10, (S10_1 F noS)), (11, (S11_1 F noS)), (12, (S12_1 F (S12_115 F noS))), (13, (S13_1 F (S13_568 F noS))), (15, (S15_1 F (S15_4555 F noS))), (16, (S16_1 F noS)), (20, (S20_1 F noS)), (49, (S49_1 F noS)), (50, (S50_1 F noS)), (51, (S51_1 F (S51_568 F noS)))]
noncomputable def LT8_1 (F : Nat) : Nat → Option LoopS := ltab []
theorem E8_1g (F : Nat) (c10_1 : Int → Int → Int → Int → List ByteArray → (Int → Option Res) → (List ByteArray → Option Res) → Option Res) (c11_1 : Int → Int → Int → Int → List ByteArray → (Int → Option Res) → (List ByteArray → Option Res) → Option Res) (c12_1 : ByteArray → Int → Int → Int → Int → List ByteArray → (Option Res) → (List ByteArray → List (Int × ByteArray) → List (Int × ByteArray) → Option Res) → Option Res) (c12_115 : ByteArray → (Option Res) → Option Res) (c13_1 : Int → Int → Int → Int → List ByteArray → (ByteArray → Option Res) → Option Res) (c13_568 : Option Res) (c15_1 : Int → Int → Int → Int → Int → Int → Int → Int → Int → Int → Int → List ByteArray → List (Int × ByteArray) → List (Int × ByteArray) → (Bool → Option Res) → Option Res) (c15_4555 : Int → Int → Int → Int → Nat → Nat → Nat → Int → Int → Int → Int → Int → Int → Int → List ByteArray → List (Int × ByteArray) → List (Int × ByteArray) → (Bool → Option Res) → Option Res) (c16_1 : Int → Int → Int → Int → Int → Int → Int → Int → Int → Int → Int → List ByteArray → List (Int × ByteArray) → List (Int × ByteArray) → (Int → Int → Option Res) → Option Res) (c20_1 : Int → ByteArray → Int → Int → Int → Int → Int → Int → Int → Int → Int → Int → Int → List ByteArray → List (Int × ByteArray) → List (Int × ByteArray) → (Int → Option Res) → (Nat → Nat → Int → Option Res) → Option Res) (c49_1 : (ByteArray → Option Res) → Option Res) (c50_1 : Int → (ByteArray → Option Res) → Option Res) (c51_1 : Int → Int → Int → Int → List ByteArray → (ByteArray → Option Res) → Option Res) (c51_568 : (Option Res) → Option Res)   (d : sh8_1.den) (K : KF) : evBody Try.prog (tab [(10, (mkS sh10_1 (fun d K => c10_1 d.1.1.1 d.1.1.2.1 d.1.1.2.2.1 d.1.1.2.2.2.1 d.2.1.2.1 (fun (y0 : Int) => K [.lf (.nilp), .lf (.int .i64 y0)] [some ⟨d.2.1.1, [.seq .str 0 d.2.1.2.1]⟩]) (fun (y6 : List ByteArray) => K [.lf (.ptr 1 0), .lf (.int .i64 0)] [some ⟨d.2.1.1, [.seq .str 0 d.2.1.2.1]⟩, some ⟨false, [.int .i64 d.1.1.1, .int .i64 d.1.1.2.1, .int .i64 d.1.1.2.2.1, .int .i64 d.1.1.2.2.2.1, .full 2]⟩, some ⟨false, [.seq .str 0 y6]⟩])) noS)), (11, (mkS sh11_1 (fun d K => c11_1 d.1.1.1 d.1.1.2.1 d.1.1.2.2.1 d.1.1.2.2.2.1 d.2.1.2.1 (fun (y0 : Int) => K [.lf (.nilp), .lf (.int .i64 y0)] [some ⟨d.2.1.1, [.seq .str 0 d.2.1.2.1]⟩]) (fun (y6 : List ByteArray) => K [.lf (.ptr 1 0), .lf (.int .i64 0)] [some ⟨d.2.1.1, [.seq .str 0 d.2.1.2.1]⟩, some ⟨false, [.int .i64 d.1.1.1, .int .i64 d.1.1.2.1, .int .i64 d.1.1.2.2.1, .int .i64 d.1.1.2.2.2.1, .full 2]⟩, some ⟨false, [.seq .str 0 y6]⟩])) noS)), (12, (mkS sh12_1 (fun d K => c12_1 d.1.2.1 d.2.1.2.1 d.2.1.2.2.1 d.2.1.2.2.2.1 d.2.1.2.2.2.2.1 d.2.2.1.2.1 (K [.lf (.nilp), .lf (.int .i64 4)] [some ⟨d.2.1.1, [.int .i64 d.2.1.2.1, .int .i64 d.2.1.2.2.1, .int .i64 d.2.1.2.2.2.1, .int .i64 d.2.1.2.2.2.2.1, .full 1]⟩, some ⟨d.2.2.1.1, [.seq .str 0 d.2.2.1.2.1]⟩]) (fun (y17 : List ByteArray) (y18 : List (Int × ByteArray)) (y19 : List (Int × ByteArray)) => K [.lf (.ptr 2 0), .lf (.int .i64 0)] [some ⟨d.2.1.1, [.int .i64 d.2.1.2.1, .int .i64 d.2.1.2.2.1, .int .i64 d.2.1.2.2.2.1, .int .i64 d.2.1.2.2.2.2.1, .full 1]⟩, some ⟨d.2.2.1.1, [.seq .str 0 d.2.2.1.2.1]⟩, some ⟨false, [.int .i64 d.2.1.2.1, .int .i64 d.2.1.2.2.1, .int .i64 d.2.1.2.2.2.1, .int .i64 d.2.1.2.2.2.2.1, .ptr 3 0, .full 5, .full 6, .int .i64 0, .int .i64 0, .int .i64 0]⟩, some ⟨false, [.int .i64 d.2.1.2.1, .int .i64 d.2.1.2.2.1, .int .i64 d.2.1.2.2.2.1, .int .i64 d.2.1.2.2.2.2.1, .full 4]⟩, some ⟨false, [.seq .str 0 y17]⟩, some ⟨false, [.seq (.pair (.int .i64) .str) 0 y18]⟩, some ⟨false, [.seq (.pair (.int .i64) .str) 0 y19]⟩])) (mkS sh12_115 (fun d K => c12_115 d.1.2.1 (K [.lf (.nilp), .lf (.int .i64 1)] [])) noS))), (13, (mkS sh13_1 (fun d K => c13_1 d.2.1.2.1 d.2.1.2.2.1 d.2.1.2.2.2.1 d.2.1.2.2.2.2.1 d.2.2.1.2.1 (fun (y0 : ByteArray) => K [.lf (.str y0)] [some ⟨d.2.1.1, [.int .i64 d.2.1.2.1, .int .i64 d.2.1.2.2.1, .int .i64 d.2.1.2.2.2.1, .int .i64 d.2.1.2.2.2.2.1, .full 1]⟩, some ⟨d.2.2.1.1, [.seq .str 0 d.2.2.1.2.1]⟩])) (mkS sh13_568 (fun d K => c13_568) noS))), (15, (mkS sh15_1 (fun d K => c15_1 d.2.1.2.1 d.2.1.2.2.1 d.2.1.2.2.2.1 d.2.1.2.2.2.2.1 d.2.1.2.2.2.2.2.2.2.2.1 d.2.1.2.2.2.2.2.2.2.2.2.1 d.2.1.2.2.2.2.2.2.2.2.2.2.1 d.2.2.1.2.1 d.2.2.1.2.2.1 d.2.2.1.2.2.2.1 d.2.2.1.2.2.2.2.1 d.2.2.2.1.2.1 d.2.2.2.2.1.2.1 d.2.2.2.2.2.1.2.1 (fun (y0 : Bool) => K [.lf (.bool y0)] [some ⟨d.2.1.1, [.int .i64 d.2.1.2.1, .int .i64 d.2.1.2.2.1, .int .i64 d.2.1.2.2.2.1, .int .i64 d.2.1.2.2.2.2.1, .ptr 1 0, .full 3, .full 4, .int .i64 d.2.1.2.2.2.2.2.2.2.2.1, .int .i64 d.2.1.2.2.2.2.2.2.2.2.2.1, .int .i64 d.2.1.2.2.2.2.2.2.2.2.2.2.1]⟩, some ⟨d.2.2.1.1, [.int .i64 d.2.2.1.2.1, .int .i64 d.2.2.1.2.2.1, .int .i64 d.2.2.1.2.2.2.1, .int .i64 d.2.2.1.2.2.2.2.1, .full 2]⟩, some ⟨d.2.2.2.1.1, [.seq .str 0 d.2.2.2.1.2.1]⟩, some ⟨d.2.2.2.2.1.1, [.seq (.pair (.int .i64) .str) 0 d.2.2.2.2.1.2.1]⟩, some ⟨d.2.2.2.2.2.1.1, [.seq (.pair (.int .i64) .str) 0 d.2.2.2.2.2.1.2.1]⟩])) (mkS sh15_4555 (fun d K => c15_4555 d.2.1.2.1 d.2.1.2.2.1 d.2.1.2.2.2.1 d.2.1.2.2.2.2.1 d.2.1.2.2.2.2.2.2.2.1.1 d.2.1.2.2.2.2.2.2.2.1.2.1 d.2.1.2.2.2.2.2.2.2.1.2.2 d.2.1.2.2.2.2.2.2.2.2.1 d.2.1.2.2.2.2.2.2.2.2.2.1 d.2.1.2.2.2.2.2.2.2.2.2.2.1 d.2.2.1.2.1 d.2.2.1.2.2.1 d.2.2.1.2.2.2.1 d.2.2.1.2.2.2.2.1 d.2.2.2.1.2.1 d.2.2.2.2.1.2.1 d.2.2.2.2.2.1.2.1 (fun (y0 : Bool) => K [.lf (.bool y0)] [some ⟨d.2.1.1, [.int .i64 d.2.1.2.1, .int .i64 d.2.1.2.2.1, .int .i64 d.2.1.2.2.2.1, .int .i64 d.2.1.2.2.2.2.1, .ptr 1 0, .full 3, .slice 4 0 d.2.1.2.2.2.2.2.2.2.1.1 d.2.1.2.2.2.2.2.2.2.1.2.1 (some d.2.1.2.2.2.2.2.2.2.1.2.2), .int .i64 d.2.1.2.2.2.2.2.2.2.2.1, .int .i64 d.2.1.2.2.2.2.2.2.2.2.2.1, .int .i64 d.2.1.2.2.2.2.2.2.2.2.2.2.1]⟩, some ⟨d.2.2.1.1, [.int .i64 d.2.2.1.2.1, .int .i64 d.2.2.1.2.2.1, .int .i64 d.2.2.1.2.2.2.1, .int .i64 d.2.2.1.2.2.2.2.1, .full 2]⟩, some ⟨d.2.2.2.1.1, [.seq .str 0 d.2.2.2.1.2.1]⟩, some ⟨d.2.2.2.2.1.1, [.seq (.pair (.int .i64) .str) 0 d.2.2.2.2.1.2.1]⟩, some ⟨d.2.2.2.2.2.1.1, [.seq (.pair (.int .i64) .str) 0 d.2.2.2.2.2.1.2.1]⟩])) noS))), (16, (mkS sh16_1 (fun d K => c16_1 d.2.1.2.1 d.2.1.2.2.1 d.2.1.2.2.2.1 d.2.1.2.2.2.2.1 d.2.1.2.2.2.2.2.2.2.2.1 d.2.1.2.2.2.2.2.2.2.2.2.1 d.2.1.2.2.2.2.2.2.2.2.2.2.1 d.2.2.1.2.1 d.2.2.1.2.2.1 d.2.2.1.2.2.2.1 d.2.2.1.2.2.2.2.1 d.2.2.2.1.2.1 d.2.2.2.2.1.2.1 d.2.2.2.2.2.1.2.1 (fun (y0 : Int) (y1 : Int) => K [.lf (.int .i64 y0), .lf (.int .i64 y1)] [some ⟨d.2.1.1, [.int .i64 d.2.1.2.1, .int .i64 d.2.1.2.2.1, .int .i64 d.2.1.2.2.2.1, .int .i64 d.2.1.2.2.2.2.1, .ptr 1 0, .full 3, .full 4, .int .i64 d.2.1.2.2.2.2.2.2.2.2.1, .int .i64 d.2.1.2.2.2.2.2.2.2.2.2.1, .int .i64 d.2.1.2.2.2.2.2.2.2.2.2.2.1]⟩, some ⟨d.2.2.1.1, [.int .i64 d.2.2.1.2.1, .int .i64 d.2.2.1.2.2.1, .int .i64 d.2.2.1.2.2.2.1, .int .i64 d.2.2.1.2.2.2.2.1, .full 2]⟩, some ⟨d.2.2.2.1.1, [.seq .str 0 d.2.2.2.1.2.1]⟩, some ⟨d.2.2.2.2.1.1, [.seq (.pair (.int .i64) .str) 0 d.2.2.2.2.1.2.1]⟩, some ⟨d.2.2.2.2.2.1.1, [.seq (.pair (.int .i64) .str) 0 d.2.2.2.2.2.1.2.1]⟩])) noS)), (20, (mkS sh20_1 (fun d K => c20_1 d.1.2.1 d.1.2.2.1 d.2.1.2.1 d.2.1.2.2.1 d.2.1.2.2.2.1 d.2.1.2.2.2.2.1 d.2.1.2.2.2.2.2.2.2.2.1 d.2.1.2.2.2.2.2.2.2.2.2.1 d.2.1.2.2.2.2.2.2.2.2.2.2.1 d.2.2.1.2.1 d.2.2.1.2.2.1 d.2.2.1.2.2.2.1 d.2.2.1.2.2.2.2.1 d.2.2.2.1.2.1 d.2.2.2.2.1.2.1 d.2.2.2.2.2.1.2.1 (fun (y0 : Int) => K [.lf (.int .i64 y0)] [some ⟨false, [.int .i64 d.2.1.2.1, .int .i64 d.2.1.2.2.1, .int .i64 d.2.1.2.2.2.1, .int .i64 d.2.1.2.2.2.2.1, .ptr 1 0, .full 3, .full 4, .int .i64 d.2.1.2.2.2.2.2.2.2.2.1, .int .i64 d.2.1.2.2.2.2.2.2.2.2.2.1, .int .i64 d.2.1.2.2.2.2.2.2.2.2.2.2.1]⟩, some ⟨d.2.2.1.1, [.int .i64 d.2.2.1.2.1, .int .i64 d.2.2.1.2.2.1, .int .i64 d.2.2.1.2.2.2.1, .int .i64 d.2.2.1.2.2.2.2.1, .full 2]⟩, some ⟨d.2.2.2.1.1, [.seq .str 0 d.2.2.2.1.2.1]⟩, some ⟨d.2.2.2.2.1.1, [.seq (.pair (.int .i64) .str) 0 d.2.2.2.2.1.2.1]⟩, some ⟨d.2.2.2.2.2.1.1, [.seq (.pair (.int .i64) .str) 0 d.2.2.2.2.2.1.2.1]⟩]) (fun (y6 : Nat) (y7 : Nat) (y10 : Int) => K [.lf (.int .i64 0)] [some ⟨false, [.int .i64 d.2.1.2.1, .int .i64 d.2.1.2.2.1, .int .i64 d.2.1.2.2.2.1, .int .i64 d.2.1.2.2.2.2.1, .ptr 1 0, .full 3, .slice 4 0 1 y6 (some y7), .int .i64 d.2.1.2.2.2.2.2.2.2.2.1, .int .i64 d.2.1.2.2.2.2.2.2.2.2.2.1, .int .i64 y10]⟩, some ⟨d.2.2.1.1, [.int .i64 d.2.2.1.2.1, .int .i64 d.2.2.1.2.2.1, .int .i64 d.2.2.1.2.2.2.1, .int .i64 d.2.2.1.2.2.2.2.1, .full 2]⟩, some ⟨d.2.2.2.1.1, [.seq .str 0 d.2.2.2.1.2.1]⟩, some ⟨d.2.2.2.2.1.1, [.seq (.pair (.int .i64) .str) 0 d.2.2.2.2.1.2.1]⟩, some ⟨d.2.2.2.2.2.1.1, [.seq (.pair (.int .i64) .str) 0 d.2.2.2.2.2.1.2.1]⟩])) noS)), (49, (mkS sh49_1 (fun d K => c49_1 (fun (y0 : ByteArray) => K [.lf (.str y0)] [])) noS)), (50, (mkS sh50_1 (fun d K => c50_1 d.1.1 (fun (y0 : ByteArray) => K [.lf (.str y0)] [])) noS)), (51, (mkS sh51_1 (fun d K => c51_1 d.2.1.2.1 d.2.1.2.2.1 d.2.1.2.2.2.1 d.2.1.2.2.2.2.1 d.2.2.1.2.1 (fun (y0 : ByteArray) => K [.lf (.str y0)] [some ⟨d.2.1.1, [.int .i64 d.2.1.2.1, .int .i64 d.2.1.2.2.1, .int .i64 d.2.1.2.2.2.1, .int .i64 d.2.1.2.2.2.2.1, .full 1]⟩, some ⟨d.2.2.1.1, [.seq .str 0 d.2.2.1.2.1]⟩])) (mkS sh51_568 (fun d K => c51_568 (K [.lf (.str ByteArray.empty)] [])) noS)))]) 82 0 (ltab []) code8 Try.f8.results.toList (encT sh8_1.vs d.1) (encH sh8_1.h d.2) K = (fun (K0 : (Bool → Option Res)) => c49_1  (fun x1 => c10_1 1 2 0 1 [x1] (fun x2 => c50_1 1 (fun x3 => c11_1 1 2 0 1 [x3] (fun x4 => c13_568  ) (fun x5 => c13_1 1 2 0 1 x5 (fun x6 => c12_115 x6 (c51_568  (c12_115 ByteArray.empty (K0 false) ) ) ) ) ) ) (fun x7 => c50_1 1 (fun x8 => c11_1 1 2 0 1 [x8] (fun x9 => c13_568  ) (fun x10 => c13_1 1 2 0 1 x10 (fun x11 => c12_1 x11 1 2 0 1 x7 (c51_1 1 2 0 1 x7 (fun x12 => c12_1 x12 1 2 0 1 x7 (K0 false) (fun x13 x14 x15 => K0 false) ) ) (fun x16 x17 x18 => c51_1 1 2 0 1 x7 (fun x19 => c12_1 x19 1 2 0 1 x7 (K0 false) (fun x20 x21 x22 => c16_1 1 2 0 1 0 0 0 1 2 0 1 x16 x17 x18 (fun x23 x24 => c50_1 1 (fun x25 => c20_1 0 x25 1 2 0 1 0 0 0 1 2 0 1 x16 x17 x18 (fun x26 => c15_1 1 2 0 1 0 0 0 1 2 0 1 x20 x21 x22 (fun x27 => cond x27 (cond (x23 == 2) (cond (x24 == 0) (cond (x26 == 0) (c15_1 1 2 0 1 0 0 0 1 2 0 1 x16 x17 x18 (fun x28 => K0 x28) ) (K0 false)) (K0 false)) (K0 false)) (K0 false)) ) (fun x29 x30 x31 => c15_1 1 2 0 1 0 0 0 1 2 0 1 x20 x21 x22 (fun x32 => cond x32 (cond (x23 == 2) (cond (x24 == 0) (c15_4555 1 2 0 1 1 x29 x30 0 0 x31 1 2 0 1 x16 x17 x18 (fun x33 => K0 x33) ) (K0 false)) (K0 false)) (K0 false)) ) ) ) ) ) ) ) ) ) ) ) ) (fun (y0 : Bool) => K [.lf (.bool y0)] []) := by kernel_rfl
theorem E8_1 (F : Nat) (d : sh8_1.den) (K : KF) : evBody Try.prog (T8_1 F) 82 0 (LT8_1 F) code8 Try.f8.results.toList (encT sh8_1.vs d.1) (encH sh8_1.h d.2) K = f8_1 F (fun (y0 : Bool) => K [.lf (.bool y0)] []) := Eq.mp (by kernel_rfl) (E8_1g F (f10_1 F) (f11_1 F) (f12_1 F) (f12_115 F) (f13_1 F) (f13_568 F) (f15_1 F) (f15_4555 F) (f16_1 F) (f20_1 F) (f49_1 F) (f50_1 F) (f51_1 F) (f51_568 F)   d K)
theorem S8_1_ok (F : Nat) (o : Summ) (ho : SoundFn Try.prog 8 o) : SoundFn Try.prog 8 (S8_1 F o) :=
  soundFn_of (fn := Try.f8) (c := code8) (by kernel_rfl) (tab_cons (S10_1_ok F _ (noS_sound enter10)) (tab_cons (S11_1_ok F _ (noS_sound enter11)) (tab_cons (S12_1_ok F _ (S12_115_ok F _ (noS_sound enter12))) (tab_cons (S13_1_ok F _ (S13_568_ok F _ (noS_sound enter13))) (tab_cons (S15_1_ok F _ (S15_4555_ok F _ (noS_sound enter15))) (tab_cons (S16_1_ok F _ (noS_sound enter16)) (tab_cons (S20_1_ok F _ (noS_sound enter20)) (tab_cons (S49_1_ok F _ (noS_sound enter49)) (tab_cons (S50_1_ok F _ (noS_sound enter50)) (tab_cons (S51_1_ok F _ (S51_568_ok F _ (noS_sound enter51))) tab_nil)))))))))) (by kernel_rfl) (by kernel_rfl) ho (by rw [loops8]; exact loopsOK_nil) (by rw [scopes8]; exact scopesOK_nil) (E8_1 F)
end Go.Proofs.Ytillbabmlfjegaa.X
end

section
namespace Go.Proofs.Ytillbabmlfjegaa.X
open Go Go.Proofs.Ytillbabmlfjegaa.Ev Go.Proofs
set_option linter.unusedVariables false
/-! pentimentolaw14.WalkNil -/
noncomputable def f4_1 {β : Type} (F : Nat) (a1 : Int) (a2 : ByteArray) (K0 : Bool → Option β) : Option β := f16_568 F  (f22_568 F  (f12_115 F a2 (f19_312 F a1 [] (f20_1385 F a1 a2 (f15_568 F  (fun x1 => cond x1 (f8_1 F  (fun x2 => K0 x2) ) (K0 false)) ) ) ) ) ) 
def sh4_1 : Sh := ⟨[.lf (.int .i64), .lf (.str)], []⟩
noncomputable def S4_1 (F : Nat) (o : Summ) : Summ := mkS sh4_1 (fun d K => f4_1 F d.1.1 d.1.2.1 (fun (y0 : Bool) => K [.lf (.bool y0)] [])) o
noncomputable def code4 : Code := bodyOf Try.f4
theorem scopes4 : scopesOf code4 = [] := by kernel_rfl
theorem loops4 : loopsOf code4 = [] := by kernel_rfl
theorem enter4 : ∀ args w, (callFunc 4 args).run Try.prog w = .ok (.enter 4 args) w := enter_of (fn := Try.f4) (by kernel_rfl) (by kernel_rfl) (by kernel_rfl)
noncomputable def T4_1 (F : Nat) : FuncId → Option Summ := tab [(8, (S8_1 F noS)), (12, (S12_115 F noS)), (15, (S15_568 F noS)), (16, (S16_568 F noS)), (19, (S19_312 F noS)), (20, (S20_1385 F noS)), (22, (S22_568 F noS))]
noncomputable def LT4_1 (F : Nat) : Nat → Option LoopS := ltab []
theorem E4_1g (F : Nat) (c8_1 : (Bool → Option Res) → Option Res) (c12_115 : ByteArray → (Option Res) → Option Res) (c15_568 : (Bool → Option Res) → Option Res) (c16_568 : (Option Res) → Option Res) (c19_312 : Int → List ByteArray → (Option Res) → Option Res) (c20_1385 : Int → ByteArray → (Option Res) → Option Res) (c22_568 : (Option Res) → Option Res)   (d : sh4_1.den) (K : KF) : evBody Try.prog (tab [(8, (mkS sh8_1 (fun d K => c8_1 (fun (y0 : Bool) => K [.lf (.bool y0)] [])) noS)), (12, (mkS sh12_115 (fun d K => c12_115 d.1.2.1 (K [.lf (.nilp), .lf (.int .i64 1)] [])) noS)), (15, (mkS sh15_568 (fun d K => c15_568 (fun (y0 : Bool) => K [.lf (.bool y0)] [])) noS)), (16, (mkS sh16_568 (fun d K => c16_568 (K [.lf (.int .i64 0), .lf (.int .i64 0)] [])) noS)), (19, (mkS sh19_312 (fun d K => c19_312 d.1.2.1 d.2.1.2.1 (K [.lf (.int .i64 1)] [some ⟨d.2.1.1, [.seq .str 0 d.2.1.2.1]⟩])) noS)), (20, (mkS sh20_1385 (fun d K => c20_1385 d.1.2.1 d.1.2.2.1 (K [.lf (.int .i64 1)] [])) noS)), (22, (mkS sh22_568 (fun d K => c22_568 (K [.lf (.int .i64 0), .lf (.int .i64 0), .lf (.int .i64 0)] [])) noS))]) 67 0 (ltab []) code4 Try.f4.results.toList (encT sh4_1.vs d.1) (encH sh4_1.h d.2) K = (fun (a1 : Int) (a2 : ByteArray) (K0 : (Bool → Option Res)) => c16_568  (c22_568  (c12_115 a2 (c19_312 a1 [] (c20_1385 a1 a2 (c15_568  (fun x1 => cond x1 (c8_1  (fun x2 => K0 x2) ) (K0 false)) ) ) ) ) ) ) d.1.1 d.1.2.1 (fun (y0 : Bool) => K [.lf (.bool y0)] []) := by kernel_rfl
theorem E4_1 (F : Nat) (d : sh4_1.den) (K : KF) : evBody Try.prog (T4_1 F) 67 0 (LT4_1 F) code4 Try.f4.results.toList (encT sh4_1.vs d.1) (encH sh4_1.h d.2) K = f4_1 F d.1.1 d.1.2.1 (fun (y0 : Bool) => K [.lf (.bool y0)] []) := Eq.mp (by kernel_rfl) (E4_1g F (f8_1 F) (f12_115 F) (f15_568 F) (f16_568 F) (f19_312 F) (f20_1385 F) (f22_568 F)   d K)
theorem S4_1_ok (F : Nat) (o : Summ) (ho : SoundFn Try.prog 4 o) : SoundFn Try.prog 4 (S4_1 F o) :=
  soundFn_of (fn := Try.f4) (c := code4) (by kernel_rfl) (tab_cons (S8_1_ok F _ (noS_sound enter8)) (tab_cons (S12_115_ok F _ (noS_sound enter12)) (tab_cons (S15_568_ok F _ (noS_sound enter15)) (tab_cons (S16_568_ok F _ (noS_sound enter16)) (tab_cons (S19_312_ok F _ (noS_sound enter19)) (tab_cons (S20_1385_ok F _ (noS_sound enter20)) (tab_cons (S22_568_ok F _ (noS_sound enter22)) tab_nil))))))) (by kernel_rfl) (by kernel_rfl) ho (by rw [loops4]; exact loopsOK_nil) (by rw [scopes4]; exact scopesOK_nil) (E4_1 F)
end Go.Proofs.Ytillbabmlfjegaa.X
end

section
/- A row's arguments, opened as typed values: slices, which are lent for reading. -/
namespace Go.Proofs.Ytillbabmlfjegaa.Ev
open Go Go.RowKit
set_option linter.unusedVariables false

theorem pick_list {α : Type} {n : Nat} {R : Nat → α → Prop} (h : ∀ i, i < n → ∃ z, R i z) : ∃ l : List α, l.length = n ∧ ∀ i z, l[i]? = some z → R i z := by
  induction n with
  | zero => exact ⟨[], rfl, fun i z h => by simp at h⟩
  | succ n ih =>
    obtain ⟨l, h1, h2⟩ := ih fun i hi => h i (by omega)
    obtain ⟨z, hz⟩ := h n (by omega)
    refine ⟨l ++ [z], by simp [h1], fun i y hy => ?_⟩
    by_cases hi : i < n
    · rw [List.getElem?_append_left (by omega)] at hy; exact h2 i y hy
    · rw [List.getElem?_append_right (by omega)] at hy
      have : i = n := by
        have := (List.getElem?_eq_some_iff.1 hy).1
        simp at this; omega
      subst this
      rw [h1, Nat.sub_self] at hy
      cases hy; exact hz

theorem addr_add2 (a : Addr) (x y : Nat) : (a.add x).add y = a.add (x + y) := by
  unfold Addr.add
  by_cases hx : x = 0
  · subst hx; simp
  · by_cases hy : y = 0
    · subst hy; simp
    · simp [hx, hy, Nat.add_assoc]
theorem addr_add {a : Addr} (h : a.spot = none) (q : Nat) : a.add q = ⟨a.block, a.off + q, none⟩ := by
  cases a; simp only at h; subst h
  unfold Addr.add
  split
  · rename_i h; subst h; simp
  · simp

/-- What is known of an object that an argument shows. -/
structure Shown (w : World) (k : EK) (l : List k.den) (g : Gh) (v : Value) : Prop where
  len : l.length ≤ maxLen
  wf : ∀ x ∈ l, wfE k x
  obj : ∀ m, ObRel m g w ⟨true, [.seq k 0 l]⟩
  blk : ∀ b, g.addr = some b → b.1 < w.heap.size
  rel : ∀ (m : GM) id, m[id]? = some g → LRel m (.full id) v

theorem ghOf_ln (b : Option (Nat × Nat)) (sz : Nat) (k : EK) (l : List k.den) : (ghOf b sz [.seq k 0 l]).ln 0 = l.length ∧ (ghOf b sz [.seq k 0 l]).ew 0 = k.w := by
  obtain ⟨h1, h2⟩ := ghOf_seq b sz [.seq k 0 l] 0 k 0 l [] (drop0 _)
  exact ⟨h1.symm, h2.symm⟩

theorem shown_none (w : World) (k : EK) {a : Option Addr} : Shown w k [] (ghOf none 0 [.seq k 0 []]) (.slice a 0 0) := by
  refine ⟨Nat.zero_le _, fun x hx => (by cases hx), fun m => ⟨ghOf_seq _ _ _, [], ⟨[], [], rfl, ⟨.inl rfl, rfl⟩, rfl⟩, .inl ⟨rfl, rfl⟩⟩, fun b hb => (by cases hb), fun m id hid => ?_⟩
  exact ⟨_, hid, _, a, 0, hid, by rw [(ghOf_ln none 0 k []).1]; rfl, by rw [(ghOf_ln none 0 k []).1]; simp, fun c h => (by cases h), by rw [(ghOf_ln none 0 k []).1]; simp, .inl rfl⟩

section
variable {P : Program} {H : Type} {enc : TypeId × Value → H} {w : World} {held : Bool}

theorem open_slice {e t : TypeId} {sl : List SL} {k : EK} (conv : denL sl → k.den) (ht : P.underlying t = some (.slice e)) (hs : slOf P 8 e = some sl) (hc : P.cellsOf e = k.w) (hconv : ∀ y, k.of1 (encL sl y) = some (conv y))
    (hwf : ∀ y, wfL sl y → wfE k (conv y)) {r : Reach} {b0 : Nat} {v : Value} {d : DataW H} {ps : List MemPlace} (hv : Value.okWide P w r b0 t v) (h : DataW.Trod enc P w 0 (fun _ => true) held t v d ps) :
    ∃ (l : List k.den) (g : Gh), Shown w k l g v := by
  obtain ⟨a0, n0, c0, rfl⟩ := Go.WideShapes.okWide_slice ht hv
  obtain ⟨fuel, hf⟩ := h
  have hcells : (Value.slice a0 n0 c0).cells.toList = [.slice a0 n0 c0] := rfl
  rw [hcells] at hf
  rcases DataW.trod_slice ht hf with ⟨h1, _⟩ | ⟨a, len, cap, elems, rest, n, _, h1, hx, hb, hle, hmax, hlen, hel, hsp, _⟩
  · cases h1
    exact ⟨[], _, shown_none w k⟩
  · simp only [List.cons.injEq, Value.slice.injEq, and_true] at h1
    obtain ⟨rfl, rfl, rfl⟩ := h1
    obtain ⟨hrl, hr⟩ := hsp rfl
    by_cases hcap : c0 = 0
    · subst hcap
      have : n0 = 0 := by omega
      subst this
      exact ⟨[], _, shown_none w k⟩
    have each : ∀ i, i < c0 → ∃ z : k.den, wfE k z ∧ ∀ j, j < k.w → w.cell? (a.add (i * k.w + j)) = (k.cv z)[j]? := by
      intro i hi
      obtain ⟨y, hy⟩ : ∃ y, (w.cells? 0 (a.add (i * P.cellsOf e)) (P.cellsOf e)).bind (DataW.trod enc P w 0 (fun _ => true) held n e) = some y := by
        by_cases hil : i < n0
        · exact ⟨_, (hel i hil).trans (List.getElem?_eq_getElem (by omega))⟩
        · have h2 := hr (i - n0) (by omega)
          rw [show n0 + (i - n0) = i by omega] at h2
          exact ⟨_, h2.trans (List.getElem?_eq_getElem (by omega))⟩
      rw [hc, Option.bind_eq_some_iff] at hy
      obtain ⟨cs, hcs, hy⟩ := hy
      obtain ⟨d', o1, o2, _⟩ := slOf_open (m := []) 8 e sl n cs _ hs hy
      have hcv := of1_cells k (hconv d') o1
      obtain ⟨_, _, hget⟩ := World.cells?_some hcs
      refine ⟨conv d', hwf d' o2, fun j hj => ?_⟩
      have := hget j hj
      rw [hcv] at this
      rw [← this]
      have e9 : (a.add (i * k.w)).add j = a.add (i * k.w + j) := addr_add2 a _ _
      first | rw [e9] | rw [hc, e9]
    obtain ⟨l, hl1, hl2⟩ := pick_list (n := n0) (R := fun i z => wfE k z ∧ ∀ j, j < k.w → w.cell? (a.add (i * k.w + j)) = (k.cv z)[j]?) fun i hi => each i (by omega)
    have hwp := EK.w_pos k
    have cellOf : ∀ q, q < c0 * k.w → ∃ u, w.cell? (a.add q) = some u := by
      intro q hq
      have hdiv : q / k.w < c0 := Nat.div_lt_of_lt_mul (by rw [Nat.mul_comm]; exact hq)
      obtain ⟨z, _, hz⟩ := each (q / k.w) hdiv
      have h3 := hz (q % k.w) (Nat.mod_lt _ hwp)
      rw [Nat.mul_comm, Nat.div_add_mod] at h3
      have : q % k.w < (k.cv z).length := by rw [cv_length]; exact Nat.mod_lt _ hwp
      rw [List.getElem?_eq_getElem this] at h3
      exact ⟨_, h3⟩
    have hpos : 0 < c0 * k.w := Nat.mul_pos (by omega) hwp
    obtain ⟨blk, ty, fr, hblk, hspot, hget⟩ : ∃ blk ty fr, w.heap[a.block]? = some (.cells blk ty fr) ∧ a.spot = none ∧ ∀ q, w.cell? (a.add q) = blk[a.off + q]? := by
      obtain ⟨u, hu⟩ := cellOf 0 hpos
      rw [show a.add 0 = a by simp [Addr.add]] at hu
      unfold World.cell? at hu
      split at hu
      · rename_i c ty fr hh
        have hh' : w.heap[a.block]? = some (.cells c ty fr) := hh
        split at hu
        · cases hu
        · rename_i hsn
          have hsn' : a.spot = none := by
            cases hq : a.spot with
            | none => rfl
            | some _ => exact absurd (by simp [hq]) hsn
          refine ⟨c, ty, fr, hh', hsn', fun q => ?_⟩
          rw [addr_add hsn' q]
          unfold World.cell?
          simp only [hh']
          rfl
      · cases hu
    have hsize : a.off + c0 * k.w ≤ blk.size := by
      obtain ⟨u, hu⟩ := cellOf (c0 * k.w - 1) (by omega)
      rw [hget] at hu
      have := (Array.getElem?_eq_some_iff.1 hu).1
      omega
    obtain ⟨g1, g2⟩ := ghOf_ln (some (a.block, a.off)) blk.size k l
    have haddr : a = at_ (a.block, a.off) 0 := by
      cases a; simp only at hspot; subst hspot; simp [at_]
    have hcl : (cvs k l).length = n0 * k.w := by rw [cvs_length, hl1]
    have hmul : n0 * k.w ≤ c0 * k.w := Nat.mul_le_mul_right _ hle
    refine ⟨l, ghOf (some (a.block, a.off)) blk.size [.seq k 0 l], by omega, fun x hx => ?_, fun m => ⟨ghOf_seq _ _ _, cvs k l, ⟨cvs k l, [], (List.append_nil _).symm, ⟨.inl rfl, rfl⟩, rfl⟩, .inr ⟨(a.block, a.off), blk, ty, fr, rfl, hblk, rfl, ?_, fun j hj => ?_, fun h0 => by cases h0⟩⟩, fun b hb => ?_, fun m id hid => ?_⟩
    · obtain ⟨i, hi⟩ := List.getElem?_of_mem hx
      exact (hl2 i x hi).1
    · rw [hcl]; simp only [ghOf]; omega
    · rw [hcl] at hj
      have hdiv : j / k.w < n0 := Nat.div_lt_of_lt_mul (by rw [Nat.mul_comm]; exact hj)
      have hmod := Nat.mod_lt j hwp
      have h4 := (hl2 (j / k.w) (l.getD (j / k.w) k.zero) (by rw [List.getD_eq_getElem?_getD, List.getElem?_eq_getElem (by omega)]; rfl)).2 (j % k.w) hmod
      have h5 := cvs_getD k l (j / k.w) (by omega) (j % k.w) hmod
      rw [Nat.mul_comm, Nat.div_add_mod] at h4 h5
      rw [hget] at h4
      rw [h5]; exact h4
    · cases hb; exact (Array.getElem?_eq_some_iff.1 hblk).1
    · refine ⟨_, hid, _, some a, c0, hid, by rw [g1, hl1], by rw [g1]; omega, fun c h => (by cases h), by rw [g1]; simp, .inr ⟨(a.block, a.off), rfl, ?_, ?_⟩⟩
      · simp only [Nat.zero_mul, Nat.add_zero]; rw [← haddr]
      · rw [g2]; simp only [ghOf, Nat.zero_add, Nat.add_zero]; omega

/-- Arguments that are lent. -/
theorem inv_shown {m : GM} {h : Heap} (hl : m.length = h.length) (hq : ∀ (i : Nat) ob g, hget h i = some ob → m[i]? = some g → ob.ro = true ∧ ObRel m g w ob ∧ ∀ b, g.addr = some b → b.1 < w.heap.size) :
    Inv ⟨w, fun _ => False⟩ m h w :=
  ⟨hl, fun id ob g h1 h2 => (hq id ob g h1 h2).2.1, fun id ob g b h1 h2 h3 => by rw [(hq id ob g h1 h2).1]; exact ⟨fun h => h, (hq id ob g h1 h2).2.2 b h3⟩,
   fun i j oi oj gi gj b c _ h1 h2 h3 _ h5 h6 => (by rw [(hq i oi gi h1 h5).1] at h3; cases h3), Str.refl w, Nat.le_refl _, fun _ _ _ => rfl⟩

theorem inv_cons {m : GM} {h : Heap} {k : EK} {l : List k.den} {g : Gh} {v : Value} (hi : Inv ⟨w, fun _ => False⟩ m h w) (hro : ∀ (i : Nat) ob, hget h i = some ob → ob.ro = true) (hs : Shown w k l g v) :
    Inv ⟨w, fun _ => False⟩ (m ++ [g]) (h ++ [some ⟨true, [.seq k 0 l]⟩]) w ∧ (∀ (i : Nat) ob, hget (h ++ [some ⟨true, [.seq k 0 l]⟩]) i = some ob → ob.ro = true) ∧ LRel (m ++ [g]) (.full h.length) v := by
  have hro' : ∀ (i : Nat) ob, hget (h ++ [some ⟨true, [.seq k 0 l]⟩]) i = some ob → ob.ro = true := by
    intro i ob h1
    rcases hget_app h1 with ⟨_, h2⟩ | ⟨_, h2⟩
    · exact hro i ob h2
    · cases h2; rfl
  refine ⟨inv_shown (by simp [hi.len]) fun i ob g' h1 h2 => ⟨hro' i ob h1, ?_⟩, hro', ?_⟩
  · rcases hget_app h1 with ⟨hlt, h3⟩ | ⟨rfl, h3⟩
    · have h4 := gm_app_old (by rw [hi.len]; exact hlt) h2
      obtain ⟨o1, cs, o2, o3⟩ := hi.obs i ob g' h3 h4
      exact ⟨⟨o1, cs, o2.mono (pre_append _ _), o3⟩, fun b hb => hi.block_lt h3 h4 hb⟩
    · cases h3
      have : (m ++ [g])[h.length]? = some g := by rw [← hi.len]; exact gm_app_new
      rw [this] at h2; cases h2
      exact ⟨hs.obj _, hs.blk⟩
  · exact hs.rel _ _ (by rw [← hi.len]; exact gm_app_new)

end
end Go.Proofs.Ytillbabmlfjegaa.Ev
end

section
/- SHA-256: blocks; bytes that come in parts; the digest. -/
namespace Go.Proofs.Ytillbabmlfjegaa.X
open Go Go.Proofs.Ytillbabmlfjegaa.Ev
set_option linter.unusedVariables false

def sS1 (e : Int) : Int := ixor .u32 (ixor .u32 (rot e 6) (rot e 11)) (rot e 25)
def sS0 (a : Int) : Int := ixor .u32 (ixor .u32 (rot a 2) (rot a 13)) (rot a 22)
def t1 (e f g h k w : Int) : Int := IntKind.u32.wrap (IntKind.u32.wrap (IntKind.u32.wrap (IntKind.u32.wrap (h + sS1 e) + ixor .u32 (iand .u32 e f) (iand .u32 (ixor .u32 4294967295 e) g)) + k) + w)
def t2 (a b c : Int) : Int := IntKind.u32.wrap (sS0 a + ixor .u32 (ixor .u32 (iand .u32 a b) (iand .u32 a c)) (iand .u32 b c))

def stp (v : List Int) (k w : Int) : List Int := match v with
  | [a, b, c, d, e, f, g, h] => [IntKind.u32.wrap (t1 e f g h k w + t2 a b c), a, b, c, IntKind.u32.wrap (d + t1 e f g h k w), e, f, g]
  | v => v

def rds (kk ww : List Int) : Nat → Nat → List Int → List Int
  | 0, _, v => v
  | m + 1, i, v => rds kk ww m (i + 1) (stp v (kk.getD i 0) (ww.getD i 0))

def fin8 (s v : List Int) : List Int := match s, v with
  | [a, b, c, d, e, f, g, h], [a', b', c', d', e', f', g', h'] => [IntKind.u32.wrap (a' + a), IntKind.u32.wrap (b' + b), IntKind.u32.wrap (c' + c), IntKind.u32.wrap (d' + d), IntKind.u32.wrap (e' + e), IntKind.u32.wrap (f' + f), IntKind.u32.wrap (g' + g), IntKind.u32.wrap (h' + h)]
  | _, _ => []

def eight (s : List Int) : Prop := ∃ a b c d e f g h, s = [a, b, c, d, e, f, g, h]
theorem eight_of {s : List Int} (h : s.length = 8) : eight s := by
  match s, h with
  | [a, b, c, d, e, f, g, h], _ => exact ⟨a, b, c, d, e, f, g, h, rfl⟩

theorem stp_eight {v : List Int} (h : eight v) (k w : Int) : eight (stp v k w) := by
  obtain ⟨a, b, c, d, e, f, g, h, rfl⟩ := h
  exact ⟨_, _, _, _, _, _, _, _, rfl⟩
theorem rds_eight {kk ww : List Int} : ∀ (m i : Nat) {v : List Int}, eight v → eight (rds kk ww m i v)
  | 0, _, v, h => h
  | m + 1, i, v, h => rds_eight m (i + 1) (stp_eight h _ _)

/-- The numbers behind a block. -/
def blk (s b : List Int) : List Int := fin8 s (rds k64 (wds b) 64 0 s)
theorem blk_eight {s : List Int} (b : List Int) (h : eight s) : eight (blk s b) := by
  have h2 := rds_eight (kk := k64) (ww := wds b) 64 0 h
  obtain ⟨a, b', c, d, e, f, g, h, rfl⟩ := h
  obtain ⟨a', b'', c', d', e', f', g', h', h3⟩ := h2
  unfold blk
  rw [h3]
  exact ⟨_, _, _, _, _, _, _, _, rfl⟩

theorem k64_len : k64.length = 64 := rfl

theorem rdP {β : Type} {F : Nat} {b s z ww : List Int} {K : List Int → Option β} (hw : ww.length = 64) : ∀ (m i k : Nat) (v : List Int), eight v → i + m = 64 → m < k →
    f130_0_l3 F b s z k64 ww K k (i : Int) v = K (rds k64 ww m i v)
  | 0, i, k, v, he, hi, hk => by
    obtain ⟨k, rfl⟩ : ∃ j, k = j + 1 := ⟨k - 1, by omega⟩
    simp only [f130_0_l3]
    rw [cf (by omega)]; rfl
  | m + 1, i, k, v, he, hi, hk => by
    obtain ⟨k, rfl⟩ : ∃ j, k = j + 1 := ⟨k - 1, by omega⟩
    have e4 : IntKind.i64.wrap ((i : Int) + 1) = ((i + 1 : Nat) : Int) := by rw [w64 (by omega) (by omega)]; omega
    have ih := rdP (F := F) (b := b) (s := s) (z := z) (K := K) hw m (i + 1) k _ (stp_eight he (k64.getD i 0) (ww.getD i 0)) (by omega) (by omega)
    obtain ⟨va, vb, vc, vd, ve, vf, vg, vh, rfl⟩ := he
    simp only [f130_0_l3, e4, hw, Int.toNat_natCast]
    have q0 : i < k64.length := by rw [k64_len]; omega
    rw [ct (by omega), ct (by simp), ct (by simp), ct (by simp), ct (by simp), ct (by simp), ct (by simp), ct (by simp), ct (by simp), ct (by simp), ct (by omega), ct q0, ct (by omega), ct (by omega),
      turnP (by omega) (by omega), turnP (by omega) (by omega), turnP (by omega) (by omega), turnP (by omega) (by omega), turnP (by omega) (by omega), turnP (by omega) (by omega)]
    rw [ct (by simp), ct (by simp), ct (by simp)]
    exact ih

def adds (s : List Int) : Nat → Nat → List Int → List Int
  | 0, _, v => v
  | m + 1, i, v => adds s m (i + 1) (v.set i (IntKind.u32.wrap (v.getD i 0 + s.getD i 0)))

theorem addP {β : Type} {F : Nat} {b z s : List Int} {K : List Int → Option β} (hs : s.length = 8) : ∀ (m i k : Nat) (v : List Int), v.length = 8 → i + m = 8 → m < k →
    f130_0_l14 F b s z K k (i : Int) v = K (adds s m i v)
  | 0, i, k, v, he, hi, hk => by
    obtain ⟨k, rfl⟩ : ∃ j, k = j + 1 := ⟨k - 1, by omega⟩
    simp only [f130_0_l14]
    rw [cf (by omega)]; rfl
  | m + 1, i, k, v, he, hi, hk => by
    obtain ⟨k, rfl⟩ : ∃ j, k = j + 1 := ⟨k - 1, by omega⟩
    have e4 : IntKind.i64.wrap ((i : Int) + 1) = ((i + 1 : Nat) : Int) := by rw [w64 (by omega) (by omega)]; omega
    simp only [f130_0_l14, e4, hs, he, Int.toNat_natCast]
    rw [ct (by omega), ct (by omega), ct (by omega), ct (by omega), ct (by omega), ct (by omega), ct (by omega)]
    exact addP hs m (i + 1) k _ (by simp [he]) (by omega) (by omega)

theorem fnP {β : Type} {F : Nat} {b z s v : List Int} {K : List Int → Option β} (hF : 9 ≤ F) (hs : eight s) (hv : eight v) : f130_0_l14 F b s z K F 0 v = K (fin8 s v) := by
  obtain ⟨a, b', c, d, e, f, g, h, rfl⟩ := hs
  obtain ⟨va, vb, vc, vd, ve, vf, vg, vh, rfl⟩ := hv
  exact addP rfl 8 0 F _ rfl (by omega) (by omega)

theorem blkP {β : Type} {F : Nat} {s b : List Int} {K : List Int → Option β} (hF : 100 ≤ F) (hs : eight s) (hb : 64 ≤ b.length) : f130_1 F s b K = K (blk s b) := by
  simp only [f130_1]
  rw [ct ⟨hF, hb⟩]
  simp only [f130_0]
  have h1 := rdP (F := F) (b := b) (s := s) (z := [0, 0, 0, 0, 0, 0, 0, 0]) (K := fun x14 => f130_0_l14 F b s [0, 0, 0, 0, 0, 0, 0, 0] (fun x20 => K x20) F 0 x14) (wds_len b) 64 0 F s hs (by omega) (by omega)
  rw [show ((0 : Nat) : Int) = 0 from rfl] at h1
  rw [h1, fnP (by omega) hs (rds_eight 64 0 hs)]
  rfl

theorem rdR {β : Type} {F : Nat} {b s z ww : List Int} {K : Int → Int → Int → Int → Int → Int → Int → Int → Option β} {K' : List Int → Option β} (hK : ∀ a b c d e f g h, K a b c d e f g h = K' [a, b, c, d, e, f, g, h]) (hw : ww.length = 64) : ∀ (m i k : Nat) (va vb vc vd ve vf vg vh : Int), i + m = 64 → m < k →
    f120_1_l21 F k64 b s z ww K k va vb vc vd ve vf vg vh (i : Int) = K' (rds k64 ww m i [va, vb, vc, vd, ve, vf, vg, vh])
  | 0, i, k, va, vb, vc, vd, ve, vf, vg, vh, hi, hk => by
    obtain ⟨k, rfl⟩ : ∃ j, k = j + 1 := ⟨k - 1, by omega⟩
    simp only [f120_1_l21]
    rw [cf (by omega), hK]; rfl
  | m + 1, i, k, va, vb, vc, vd, ve, vf, vg, vh, hi, hk => by
    obtain ⟨k, rfl⟩ : ∃ j, k = j + 1 := ⟨k - 1, by omega⟩
    have e4 : IntKind.i64.wrap ((i : Int) + 1) = ((i + 1 : Nat) : Int) := by rw [w64 (by omega) (by omega)]; omega
    have q0 : i < k64.length := by rw [k64_len]; omega
    simp only [f120_1_l21, e4, hw, Int.toNat_natCast, Nat.zero_add]
    rw [ct (by omega), ct (by omega), ct q0, ct (by omega), ct (by omega),
      turnR (by omega) (by omega), turnR (by omega) (by omega), turnR (by omega) (by omega), turnR (by omega) (by omega), turnR (by omega) (by omega), turnR (by omega) (by omega)]
    exact rdR hK hw m (i + 1) k _ _ _ _ _ _ _ _ (by omega) (by omega)

theorem blkR {β : Type} {F : Nat} {s b : List Int} {K : List Int → Option β} (hF : 100 ≤ F) (hs : eight s) (hb : 64 ≤ b.length) : f120_1 F s k64 b K = K (blk s b) := by
  simp only [f120_1]
  rw [show ([0, 0, 0, 0, 0, 0, 0, 0, 0, 0, 0, 0, 0, 0, 0, 0, 0, 0, 0, 0, 0, 0, 0, 0, 0, 0, 0, 0, 0, 0, 0, 0, 0, 0, 0, 0, 0, 0, 0, 0, 0, 0, 0, 0, 0, 0, 0, 0, 0, 0, 0, 0, 0, 0, 0, 0, 0, 0, 0, 0, 0, 0, 0, 0] : List Int) = List.replicate 64 0 from rfl]
  have h0 := ldR (F := F) (b := b) (z := [0, 0, 0, 0, 0, 0, 0, 0]) (s := s) (y := k64) (K := fun x7 => f120_1_l7 F k64 b s [0, 0, 0, 0, 0, 0, 0, 0] (fun x18 => cond (decide (0 < s.length)) (cond (decide (1 < s.length)) (cond (decide (2 < s.length)) (cond (decide (3 < s.length)) (cond (decide (4 < s.length)) (cond (decide (5 < s.length)) (cond (decide (6 < s.length)) (cond (decide (7 < s.length)) (f120_1_l21 F k64 b s [0, 0, 0, 0, 0, 0, 0, 0] x18 (fun x39 x40 x41 x42 x43 x44 x45 x46 => cond (decide (0 < s.length)) (cond (decide (1 < s.length)) (cond (decide (2 < s.length)) (cond (decide (3 < s.length)) (cond (decide (4 < s.length)) (cond (decide (5 < s.length)) (cond (decide (6 < s.length)) (cond (decide (7 < s.length)) (K [IntKind.u32.wrap ((s.getD 0 0) + x39), IntKind.u32.wrap ((s.getD 1 0) + x40), IntKind.u32.wrap ((s.getD 2 0) + x41), IntKind.u32.wrap ((s.getD 3 0) + x42), IntKind.u32.wrap ((s.getD 4 0) + x43), IntKind.u32.wrap ((s.getD 5 0) + x44), IntKind.u32.wrap ((s.getD 6 0) + x45), IntKind.u32.wrap ((s.getD 7 0) + x46)]) none) none) none) none) none) none) none) none) F (s.getD 0 0) (s.getD 1 0) (s.getD 2 0) (s.getD 3 0) (s.getD 4 0) (s.getD 5 0) (s.getD 6 0) (s.getD 7 0) 0) none) none) none) none) none) none) none) none) F 16 x7) hb 16 0 F (List.replicate 64 0) (by omega) (by omega) (by simp)
  rw [show ((0 : Nat) : Int) = 0 from rfl] at h0
  rw [h0]
  rw [show (16 : Int) = ((16 : Nat) : Int) from rfl, exR 48 16 F _ (by omega) (by omega) (by omega) (by rw [ldr_len]; simp)]
  obtain ⟨a, b', c, d, e, f, g, h, rfl⟩ := hs
  have hw := wds_len b
  unfold blk
  unfold wds at hw ⊢
  rw [ct (by simp), ct (by simp), ct (by simp), ct (by simp), ct (by simp), ct (by simp), ct (by simp), ct (by simp)]
  have h1 := rdR (F := F) (b := b) (s := [a, b', c, d, e, f, g, h]) (z := [0, 0, 0, 0, 0, 0, 0, 0]) (K' := fun v => K (fin8 [a, b', c, d, e, f, g, h] v)) (K := fun x39 x40 x41 x42 x43 x44 x45 x46 =>
    K [IntKind.u32.wrap (a + x39), IntKind.u32.wrap (b' + x40), IntKind.u32.wrap (c + x41), IntKind.u32.wrap (d + x42), IntKind.u32.wrap (e + x43), IntKind.u32.wrap (f + x44), IntKind.u32.wrap (g + x45), IntKind.u32.wrap (h + x46)])
    (fun x1 x2 x3 x4 x5 x6 x7 x8 => by simp only [fin8]; rw [Int.add_comm a, Int.add_comm b', Int.add_comm c, Int.add_comm d, Int.add_comm e, Int.add_comm f, Int.add_comm g, Int.add_comm h]) hw 64 0 F a b' c d e f g h (by omega) (by omega)
  rw [show ((0 : Nat) : Int) = 0 from rfl] at h1
  exact h1

end Go.Proofs.Ytillbabmlfjegaa.X
end

section
/- SHA-256: bytes that come in parts, and the digest: the code's and the document's are one. -/
namespace Go.Proofs.Ytillbabmlfjegaa.X
open Go Go.Proofs.Ytillbabmlfjegaa.Ev
set_option linter.unusedVariables false

def cmpN : Nat → List Int → List Int → List Int × List Int
  | 0, s, l => (s, l)
  | q + 1, s, l => cmpN q (blk s (l.take 64)) (l.drop 64)

theorem cmpN_add : ∀ (q r : Nat) (s l : List Int), cmpN (q + r) s l = cmpN r (cmpN q s l).1 (cmpN q s l).2
  | 0, r, s, l => by simp [cmpN]
  | q + 1, r, s, l => by
    rw [show q + 1 + r = (q + r) + 1 by omega]
    simp only [cmpN]
    exact cmpN_add q r _ _
theorem cmpN_app : ∀ (q : Nat) (s l t : List Int), 64 * q ≤ l.length → cmpN q s (l ++ t) = ((cmpN q s l).1, (cmpN q s l).2 ++ t)
  | 0, s, l, t, _ => rfl
  | q + 1, s, l, t, h => by
    simp only [cmpN]
    rw [List.take_append_of_le_length (by omega), List.drop_append_of_le_length (by omega)]
    exact cmpN_app q _ _ t (by simp; omega)
theorem cmpN_len : ∀ (q : Nat) (s l : List Int), (cmpN q s l).2.length = l.length - 64 * q
  | 0, s, l => by simp [cmpN]
  | q + 1, s, l => by simp only [cmpN]; rw [cmpN_len q]; simp; omega
theorem cmpN_eight : ∀ (q : Nat) {s : List Int} (l : List Int), eight s → eight (cmpN q s l).1
  | 0, s, l, h => h
  | q + 1, s, l, h => cmpN_eight q _ (blk_eight _ h)

theorem writeL {β : Type} {F : Nat} {n : Int} {b : List Int} {K : List Int → List Int → Option β} (hF : 100 ≤ F) : ∀ (q k : Nat) (s l : List Int), eight s → l.length / 64 = q → q < k → l.length ≤ 70368744177664 →
    f116_1_l3 F n b K k s l = K (cmpN q s l).1 (cmpN q s l).2
  | 0, k, s, l, he, hq, hk, hl => by
    obtain ⟨k, rfl⟩ : ∃ j, k = j + 1 := ⟨k - 1, by omega⟩
    simp only [f116_1_l3]
    rw [cf (by omega)]; rfl
  | q + 1, k, s, l, he, hq, hk, hl => by
    obtain ⟨k, rfl⟩ : ∃ j, k = j + 1 := ⟨k - 1, by omega⟩
    have h64 : 64 ≤ l.length := by omega
    have e1 : (l.drop 64).take ((((l.length : Nat) : Int) - 64).toNat) = l.drop 64 := List.take_of_length_le (by simp; omega)
    simp only [f116_1_l3, e1, List.drop_zero, List.nil_append]
    rw [ct (by omega), ct (by omega), blkP hF he (by simp; omega), ct (by omega), ct (by simp; omega)]
    exact writeL hF q k _ _ (blk_eight _ he) (by simp; omega) (by omega) (by simp; omega)

def byt (n : Int) (j : Nat) : Int := IntKind.u8.wrap (ishr .u64 n ((8 * j : Nat) : Int))
/-- A number's eight bytes, the highest first. -/
def bes (n : Int) : Nat → List Int
  | 0 => []
  | m + 1 => byt n m :: bes n m

def setB (n : Int) : Nat → Nat → List Int → List Int
  | 0, _, xs => xs
  | m + 1, i, xs => setB n m (i + 1) (xs.set (7 - i) (byt n i))

theorem setB_len (n : Int) : ∀ m i xs, (setB n m i xs).length = xs.length
  | 0, _, _ => rfl
  | m + 1, i, xs => by rw [setB, setB_len n m]; simp
theorem setB_eq (n : Int) {xs : List Int} (h : xs.length = 8) : setB n 8 0 xs = bes n 8 := by
  match xs, h with
  | [a, b, c, d, e, f, g, h], _ => rfl

theorem bitsL {β : Type} {F L cp : Nat} {n : Int} {s w : List Int} {y : Int} {K : List Int → Option β} {A C : List Int} (hA : A.length + 8 = L) (hL : L ≤ 128) : ∀ (m i k : Nat) (xs : List Int), i + m = 8 → m < k → xs.length = 8 →
    f117_1_l10 F 0 L cp n s y w K k (i : Int) (A ++ (xs ++ C)) = K (A ++ (setB n m i xs ++ C))
  | 0, i, k, xs, hi, hk, hx => by
    obtain ⟨k, rfl⟩ : ∃ j, k = j + 1 := ⟨k - 1, by omega⟩
    simp only [f117_1_l10]
    rw [cf (by omega)]; rfl
  | m + 1, i, k, xs, hi, hk, hx => by
    obtain ⟨k, rfl⟩ : ∃ j, k = j + 1 := ⟨k - 1, by omega⟩
    have e1 : IntKind.i64.wrap (8 * (i : Int)) = ((8 * i : Nat) : Int) := by rw [w64 (by omega) (by omega)]; omega
    have e2 : IntKind.i64.wrap (IntKind.i64.wrap (((L : Nat) : Int) - 1) - (i : Int)) = ((A.length + (7 - i) : Nat) : Int) := by rw [w64 (x := ((L : Nat) : Int) - 1) (by omega) (by omega), w64 (by omega) (by omega)]; omega
    have e4 : IntKind.i64.wrap ((i : Int) + 1) = ((i + 1 : Nat) : Int) := by rw [w64 (by omega) (by omega)]; omega
    have e5 : (A ++ (xs ++ C)).set (A.length + (7 - i)) (byt n i) = A ++ (xs.set (7 - i) (byt n i) ++ C) := by
      rw [List.set_append_right _ _ (by omega), List.set_append_left _ _ (by omega)]
      congr 2
      rw [show A.length + (7 - i) - A.length = 7 - i by omega]
    have e6 : (A ++ (xs ++ C)).length = A.length + 8 + C.length := by simp [hx]; omega
    simp only [f117_1_l10, e1, e2, e4, Int.toNat_natCast, Nat.zero_add]
    rw [ct (by omega), cf (by omega), ct (by omega), ct (by omega)]
    rw [show IntKind.u8.wrap (ishr .u64 n ((8 * i : Nat) : Int)) = byt n i from rfl, e5]
    exact bitsL hA hL m (i + 1) k _ (by omega) (by omega) (by simp [hx])

theorem getD_take {l : List Int} {n i : Nat} (h : i < n) : (l.take n).getD i 0 = l.getD i 0 := by
  rw [List.getD_eq_getElem?_getD, List.getD_eq_getElem?_getD, List.getElem?_take_of_lt h]

theorem word_take {b : List Int} {i : Nat} (h : i < 16) : word (b.take 64) i = word b i := by
  simp only [word]
  rw [getD_take (by omega), getD_take (by omega), getD_take (by omega), getD_take (by omega)]

theorem ldr_take {b : List Int} : ∀ (m i : Nat) (acc : List Int), i + m = 16 → ldr (b.take 64) m i acc = ldr b m i acc
  | 0, i, acc, h => rfl
  | m + 1, i, acc, h => by simp only [ldr]; rw [word_take (by omega), ldr_take m (i + 1) _ (by omega)]

theorem blk_take (s b : List Int) : blk s (b.take 64) = blk s b := by
  simp only [blk, wds]; rw [ldr_take 16 0 _ (by omega)]

theorem lastL {β : Type} {F : Nat} {s0 w buf : List Int} {y : Int} {K : List Int → Option β} (hF : 100 ≤ F) : ∀ (r k lo cp : Nat) (s : List Int), eight s → r < k → r ≤ 2 → lo + 64 * r ≤ buf.length → 64 * r ≤ cp →
    f117_1_l15 F s0 y w buf K k lo (64 * r) cp s = K (cmpN r s ((buf.drop lo).take (64 * r))).1
  | 0, k, lo, cp, s, he, hk, hr, hb, hc => by
    obtain ⟨k, rfl⟩ : ∃ j, k = j + 1 := ⟨k - 1, by omega⟩
    simp only [f117_1_l15]
    rw [cf (by omega)]; rfl
  | r + 1, k, lo, cp, s, he, hk, hr, hb, hc => by
    obtain ⟨k, rfl⟩ : ∃ j, k = j + 1 := ⟨k - 1, by omega⟩
    have e1 : (((64 * (r + 1) : Nat) : Int) - 64).toNat = 64 * r := by omega
    simp only [f117_1_l15, e1]
    rw [ct (by omega), blkP hF he (by simp; omega), ct (by omega)]
    rw [lastL hF r k (lo + 64) (cp - 64) _ (blk_eight _ he) (by omega) (by omega) (by omega) (by omega)]
    simp only [cmpN]
    rw [blk_take, List.drop_take, List.drop_drop, show 64 * (r + 1) - 64 = 64 * r by omega]

def outs (s : List Int) : Nat → Nat → List Int → List Int
  | 0, _, acc => acc
  | m + 1, i, acc => outs s m (i + 1) (acc ++ [IntKind.u8.wrap (ishr .u32 (s.getD i 0) 24), IntKind.u8.wrap (ishr .u32 (s.getD i 0) 16), IntKind.u8.wrap (ishr .u32 (s.getD i 0) 8), IntKind.u8.wrap (s.getD i 0)])

theorem outP {β : Type} {F : Nat} {s s0 w : List Int} {y : Int} {K : List Int → Option β} : ∀ (m i k : Nat) (acc : List Int), i + m = 8 → m < k → acc.length ≤ 4 * i →
    f117_1_l20 F s s0 y w K k (i : Int) acc = K (outs s m i acc)
  | 0, i, k, acc, hi, hk, ha => by
    obtain ⟨k, rfl⟩ : ∃ j, k = j + 1 := ⟨k - 1, by omega⟩
    simp only [f117_1_l20]
    rw [cf (by omega)]; rfl
  | m + 1, i, k, acc, hi, hk, ha => by
    obtain ⟨k, rfl⟩ : ∃ j, k = j + 1 := ⟨k - 1, by omega⟩
    have e4 : IntKind.i64.wrap ((i : Int) + 1) = ((i + 1 : Nat) : Int) := by rw [w64 (by omega) (by omega)]; omega
    simp only [f117_1_l20, e4, Int.toNat_natCast]
    rw [ct (by omega), ct (by omega), ct (by omega)]
    exact outP m (i + 1) k _ (by omega) (by omega) (by simp; omega)

theorem outR {β : Type} {F : Nat} {s b : List Int} {K : List Int → Option β} (hs : s.length = 8) : ∀ (m i k : Nat) (acc : List Int), i + m = 8 → m < k → acc.length ≤ 4 * i →
    f98_1_l19 F b s K k (i : Int) acc = K (outs s m i acc)
  | 0, i, k, acc, hi, hk, ha => by
    obtain ⟨k, rfl⟩ : ∃ j, k = j + 1 := ⟨k - 1, by omega⟩
    simp only [f98_1_l19]
    rw [cf (by omega)]; rfl
  | m + 1, i, k, acc, hi, hk, ha => by
    obtain ⟨k, rfl⟩ : ∃ j, k = j + 1 := ⟨k - 1, by omega⟩
    have e4 : IntKind.i64.wrap ((i : Int) + 1) = ((i + 1 : Nat) : Int) := by rw [w64 (by omega) (by omega)]; omega
    simp only [f98_1_l19, e4, Int.toNat_natCast, hs]
    rw [ct (by omega), ct (by omega), ct (by omega), ct (by omega), ct (by omega), ct (by omega), ct (by omega), ct (by omega), ct (by omega), ct (by omega)]
    exact outR hs m (i + 1) k _ (by omega) (by omega) (by simp; omega)

/-- The numbers ahead of all blocks. -/
def ini : List Int := [1779033703, 3144134277, 1013904242, 2773480762, 1359893119, 2600822924, 528734635, 1541459225]
theorem ini_eight : eight ini := ⟨_, _, _, _, _, _, _, _, rfl⟩

/-- How many bytes 0 stand behind the first one that is laid on. -/
def zs (n : Nat) : Nat := if n % 64 < 56 then 55 - n % 64 else 119 - n % 64
/-- What is laid on behind n bytes. -/
def pad (n : Nat) : List Int := [128] ++ (List.replicate (zs n) 0 ++ bes ((8 * n : Nat) : Int) 8)
def blks (n : Nat) : Nat := if n % 64 < 56 then 1 else 2
theorem pad_len (n : Nat) : (pad n).length = 1 + zs n + 8 := by simp [pad, bes]; omega

/-- The digest of bytes. -/
def dig (b : List Int) : ByteArray := ofInts (outs (cmpN (b.length / 64 + blks b.length) ini (b ++ pad b.length)).1 8 0 [])

theorem zeroL {β : Type} {F : Nat} {b : List Int} {K : List Int → Option β} : ∀ (m k : Nat) (acc : List Int), (acc.length + m) % 64 = 56 → m < 64 → m < k → acc.length + m ≤ 1000000 →
    f98_1_l4 F b K k acc = K (acc ++ List.replicate m 0)
  | 0, k, acc, hm, h6, hk, ha => by
    obtain ⟨k, rfl⟩ : ∃ j, k = j + 1 := ⟨k - 1, by omega⟩
    have : ((((acc.length : Nat) : Int).tmod 64) != 56) = false := by
      rw [show (64 : Int) = ((64 : Nat) : Int) from rfl, tmod_nn, show acc.length % 64 = 56 by omega]; rfl
    simp only [f98_1_l4, this, cond_false, List.replicate_zero, List.append_nil]
  | m + 1, k, acc, hm, h6, hk, ha => by
    obtain ⟨k, rfl⟩ : ∃ j, k = j + 1 := ⟨k - 1, by omega⟩
    have : ((((acc.length : Nat) : Int).tmod 64) != 56) = true := by
      rw [show (64 : Int) = ((64 : Nat) : Int) from rfl, tmod_nn]
      have h0 : ¬ (acc.length % 64 = 56) := by omega
      rw [bne_iff_ne]; intro h1; exact h0 (by exact_mod_cast h1)
    simp only [f98_1_l4, this, cond_true]
    have hl1 : (acc ++ [(0 : Int)]).length = acc.length + 1 := by simp
    rw [ct (by omega), zeroL m k (acc ++ [0]) (by rw [hl1]; omega) (by omega) (by omega) (by rw [hl1]; omega), List.append_assoc]
    rfl

theorem besL {β : Type} {F : Nat} {n : Int} {b : List Int} {K : List Int → Option β} : ∀ (m k : Nat) (acc : List Int), m ≤ 8 → m < k → acc.length ≤ 1000000 - m →
    f98_1_l8 F n b K k ((m : Int) - 1) acc = K (acc ++ bes n m)
  | 0, k, acc, hm, hk, ha => by
    obtain ⟨k, rfl⟩ : ∃ j, k = j + 1 := ⟨k - 1, by omega⟩
    simp only [f98_1_l8]
    rw [cf (by omega)]; simp [bes]
  | m + 1, k, acc, hm, hk, ha => by
    obtain ⟨k, rfl⟩ : ∃ j, k = j + 1 := ⟨k - 1, by omega⟩
    have e1 : IntKind.i64.wrap (8 * (((m + 1 : Nat) : Int) - 1)) = ((8 * m : Nat) : Int) := by rw [w64 (by omega) (by omega)]; omega
    have e2 : IntKind.u64.wrap ((8 * m : Nat) : Int) = ((8 * m : Nat) : Int) := wu64 (by omega) (by omega)
    have e3 : IntKind.i64.wrap ((((m + 1 : Nat) : Int) - 1) - 1) = (m : Int) - 1 := by rw [w64 (by omega) (by omega)]; omega
    simp only [f98_1_l8, e1, e2, e3]
    rw [ct (by omega), cf (by omega), ct (by omega), besL m k _ (by omega) (by omega) (by simp; omega), List.append_assoc]
    rfl

theorem blocksL {β : Type} {F : Nat} {b all : List Int} {K : List Int → Option β} (hF : 100 ≤ F) (hall : all.length ≤ 1000000) : ∀ (q k at_ : Nat) (h : List Int), eight h → at_ + 64 * q = all.length → q < k →
    f98_1_l14 F b all k64 K k (at_ : Int) h = K (cmpN q h (all.drop at_)).1
  | 0, k, at_, h, he, hq, hk => by
    obtain ⟨k, rfl⟩ : ∃ j, k = j + 1 := ⟨k - 1, by omega⟩
    have e1 : IntKind.i64.wrap ((at_ : Int) + 64) = ((at_ + 64 : Nat) : Int) := by rw [w64 (by omega) (by omega)]; omega
    simp only [f98_1_l14, e1]
    rw [cf (by omega)]; rfl
  | q + 1, k, at_, h, he, hq, hk => by
    obtain ⟨k, rfl⟩ : ∃ j, k = j + 1 := ⟨k - 1, by omega⟩
    have e1 : IntKind.i64.wrap ((at_ : Int) + 64) = ((at_ + 64 : Nat) : Int) := by rw [w64 (by omega) (by omega)]; omega
    have e2 : (((at_ + 64 : Nat) : Int) - (at_ : Int)).toNat = 64 := by omega
    simp only [f98_1_l14, e1, e2, Nat.zero_add, Int.toNat_natCast]
    rw [ct (by omega), ct (by omega), blkR hF he (by simp; omega), blocksL hF hall q k (at_ + 64) _ (blk_eight _ he) (by omega) (by omega)]
    simp only [cmpN]
    rw [List.drop_drop]

theorem sumR {β : Type} {F : Nat} {b : List Int} {K : ByteArray → Option β} (hb : b.length ≤ 100000) (hF : 2000 ≤ F) : f98_1 F b K = K (dig b) := by
  have e1 : IntKind.u64.wrap ((b.length : Nat) : Int) = ((b.length : Nat) : Int) := wu64 (by omega) (by omega)
  have e2 : IntKind.u64.wrap (((b.length : Nat) : Int) * 8) = ((8 * b.length : Nat) : Int) := by rw [wu64 (by omega) (by omega)]; omega
  have hz : zs b.length < 64 ∧ (b.length + 1 + zs b.length) % 64 = 56 := by unfold zs; split <;> omega
  have hpl := pad_len b.length
  have hbl : (b ++ pad b.length).length = 64 * (b.length / 64 + blks b.length) := by
    rw [List.length_append, hpl]; unfold zs blks; split <;> omega
  simp only [f98_1, e1, e2]
  rw [ct (by omega), ct (by omega), zeroL (zs b.length) F _ (by simp; omega) (by omega) (by omega) (by simp; omega)]
  have h8 := besL (F := F) (n := ((8 * b.length : Nat) : Int)) (b := b) (K := fun x8 => f118_1 F fun x9 => f119_1 F fun x10 => f98_1_l14 F b x8 x10 (fun x17 => f98_1_l19 F b x17 (fun x22 => K (ofInts x22)) F 0 []) F 0 x9) 8 F (b ++ [128] ++ List.replicate (zs b.length) 0) (by omega) (by omega) (by simp; omega)
  rw [show ((8 : Nat) : Int) - 1 = 7 from rfl] at h8
  rw [h8]
  rw [show b ++ [128] ++ List.replicate (zs b.length) 0 ++ bes ((8 * b.length : Nat) : Int) 8 = b ++ pad b.length by simp [pad]]
  simp only [f118_1, f119_1]
  have hB := blocksL (F := F) (b := b) (all := b ++ pad b.length) (K := fun x17 => f98_1_l19 F b x17 (fun x22 => K (ofInts x22)) F 0 []) (by omega) (by rw [hbl]; unfold blks; split <;> omega)
    (b.length / 64 + blks b.length) F 0 ini ini_eight (by omega) (by unfold blks; split <;> omega)
  rw [show ((0 : Nat) : Int) = 0 from rfl, List.drop_zero] at hB
  refine hB.trans ?_
  obtain ⟨a, b', c, d, e, f, g, h, hx⟩ := cmpN_eight (b.length / 64 + blks b.length) (b ++ pad b.length) ini_eight
  have := outR (F := F) (s := (cmpN (b.length / 64 + blks b.length) ini (b ++ pad b.length)).1) (b := b) (K := fun x22 => K (ofInts x22)) (by rw [hx]; rfl) 8 0 F [] (by omega) (by omega) (by simp)
  exact this

/-- What a hash has behind all these bytes. -/
def HS (all s : List Int) (n : Int) (w : List Int) : Prop := s = (cmpN (all.length / 64) ini all).1 ∧ w = (cmpN (all.length / 64) ini all).2 ∧ n = ((all.length : Nat) : Int)

theorem HS_eight {all s w : List Int} {n : Int} (h : HS all s n w) : eight s := by rw [h.1]; exact cmpN_eight _ _ ini_eight
theorem HS_len {all s w : List Int} {n : Int} (h : HS all s n w) : w.length = all.length % 64 := by rw [h.2.1, cmpN_len]; omega

theorem HS_nil : HS [] ini 0 [] := ⟨rfl, rfl, rfl⟩

theorem HS_app {all s w b : List Int} {n : Int} (h : HS all s n w) : cmpN ((w ++ b).length / 64) s (w ++ b) = cmpN ((all ++ b).length / 64) ini (all ++ b) := by
  have hl := HS_len h
  have : (all ++ b).length / 64 = all.length / 64 + (w ++ b).length / 64 := by simp only [List.length_append, hl]; omega
  rw [this, cmpN_add, cmpN_app (all.length / 64) ini all b (by omega), ← h.1, ← h.2.1]

/-- Some more bytes. -/
theorem writeP {β : Type} {F : Nat} {all s w b : List Int} {n : Int} {K : List Int → Int → List Int → Option β} (hF : 2000 ≤ F) (h : HS all s n w) (hb : (all ++ b).length ≤ 100000) :
    ∃ s' w', HS (all ++ b) s' (((all ++ b).length : Nat) : Int) w' ∧ f116_1 F s n w b K = K s' (((all ++ b).length : Nat) : Int) w' := by
  have hl := HS_len h
  have hab : (all ++ b).length = all.length + b.length := by simp
  refine ⟨_, _, ⟨rfl, rfl, rfl⟩, ?_⟩
  have e1 : IntKind.u64.wrap ((b.length : Nat) : Int) = ((b.length : Nat) : Int) := wu64 (by omega) (by omega)
  have e2 : IntKind.u64.wrap (n + ((b.length : Nat) : Int)) = (((all ++ b).length : Nat) : Int) := by rw [h.2.2, wu64 (by omega) (by omega)]; simp
  simp only [f116_1, e1, e2]
  rw [ct (by omega), writeL (by omega) ((w ++ b).length / 64) F s (w ++ b) (HS_eight h) rfl (by simp; omega) (by simp; omega), HS_app h]

/-- The digest of all that came. -/
theorem sumP {β : Type} {F : Nat} {all s w : List Int} {n : Int} {K : ByteArray → Option β} (hF : 2000 ≤ F) (h : HS all s n w) (hb : all.length ≤ 100000) : f117_1 F s n w K = K (dig all) := by
  have hl := HS_len h
  have he := HS_eight h
  have e2 : IntKind.u64.wrap (8 * n) = ((8 * all.length : Nat) : Int) := by rw [h.2.2, wu64 (by omega) (by omega)]; omega
  have e3 : min w.length 64 = w.length := by omega
  have e4 : w.take 64 = w := List.take_of_length_le (by omega)
  have hbuf : ((List.replicate 128 (0 : Int)).take 0 ++ (w.take 64 ++ (List.replicate 128 0).drop (0 + (min w.length 64)))).set (0 + (((min w.length 64 : Nat) : Int).toNat)) 128 = w ++ ([128] ++ List.replicate (127 - w.length) 0) := by
    rw [e3, e4, Int.toNat_natCast, List.take_zero, List.nil_append, Nat.zero_add, List.set_append_right _ _ (by omega), Nat.sub_self, List.drop_replicate, show 128 - w.length = (127 - w.length) + 1 by omega, List.replicate_succ, List.set_cons_zero]
    rfl
  have hlen0 : ((List.replicate 128 (0 : Int)).take 0 ++ (w.take 64 ++ (List.replicate 128 0).drop (0 + (min w.length 64)))).length = 128 := by
    rw [e3, e4]; simp; omega
  have hall : cmpN (all.length / 64 + blks all.length) ini (all ++ pad all.length) = cmpN (blks all.length) s (w ++ pad all.length) := by
    rw [cmpN_add, cmpN_app _ _ _ _ (by omega), ← h.1, ← h.2.1]
  have fin : ∀ s', eight s' → f117_1_l20 F s' s n w (fun x27 => K (ofInts x27)) F 0 [] = K (ofInts (outs s' 8 0 [])) := fun s' _ =>
    outP (F := F) (s := s') (s0 := s) (w := w) (y := n) (K := fun x27 => K (ofInts x27)) 8 0 F [] (by omega) (by omega) (by simp)
  simp only [f117_1, hbuf]
  rw [ct (by omega), ct (by rw [hlen0]; omega), e2]
  unfold dig
  rw [hall]
  by_cases hw : w.length < 56
  · rw [cf (by omega)]
    have hbk : blks all.length = 1 := by unfold blks; rw [if_pos (by omega)]
    have hzs : zs all.length = 55 - w.length := by unfold zs; rw [if_pos (by omega), hl]
    have hsplit : w ++ ([128] ++ List.replicate (127 - w.length) 0) = (w ++ ([128] ++ List.replicate (zs all.length) 0)) ++ (List.replicate 8 0 ++ List.replicate 64 0) := by
      rw [hzs, show 127 - w.length = (55 - w.length) + (8 + 64) by omega, ← List.replicate_append_replicate, ← List.replicate_append_replicate]
      simp
    rw [hsplit]
    have hb1 := bitsL (F := F) (L := 64) (cp := 128) (n := ((8 * all.length : Nat) : Int)) (s := s) (w := w) (y := n) (A := w ++ ([128] ++ List.replicate (zs all.length) 0)) (C := List.replicate 64 0)
      (K := fun x28 => f117_1_l15 F s n w x28 (fun x29 => f117_1_l20 F x29 s n w (fun x30 => K (ofInts x30)) F 0 []) F 0 64 128 s) (by simp [hzs]; omega) (by omega) 8 0 F (List.replicate 8 0) (by omega) (by omega) (by simp)
    rw [show ((0 : Nat) : Int) = 0 from rfl] at hb1
    refine hb1.trans ?_
    rw [setB_eq _ (by simp)]
    have hpre : (w ++ ([128] ++ List.replicate (zs all.length) 0)) ++ (bes ((8 * all.length : Nat) : Int) 8 ++ List.replicate 64 0) = (w ++ pad all.length) ++ List.replicate 64 0 := by simp [pad]
    rw [hpre]
    have hpl : (w ++ pad all.length).length = 64 := by rw [List.length_append, pad_len, hzs]; omega
    have hL := lastL (F := F) (s0 := s) (w := w) (y := n) (buf := (w ++ pad all.length) ++ List.replicate 64 0) (K := fun x29 => f117_1_l20 F x29 s n w (fun x30 => K (ofInts x30)) F 0 []) (by omega) 1 F 0 128 s he (by omega) (by omega) (by rw [List.length_append, hpl]; simp) (by omega)
    refine hL.trans ?_
    rw [List.drop_zero, List.take_append_of_le_length (by omega), List.take_of_length_le (by omega), fin _ (cmpN_eight _ _ he), hbk]
  · rw [ct (by omega)]
    have hbk : blks all.length = 2 := by unfold blks; rw [if_neg (by omega)]
    have hzs : zs all.length = 119 - w.length := by unfold zs; rw [if_neg (by omega), hl]
    have hsplit : w ++ ([128] ++ List.replicate (127 - w.length) 0) = (w ++ ([128] ++ List.replicate (zs all.length) 0)) ++ (List.replicate 8 0 ++ []) := by
      rw [hzs, show 127 - w.length = (119 - w.length) + 8 by omega, ← List.replicate_append_replicate]
      simp
    rw [hsplit]
    have hb1 := bitsL (F := F) (L := 128) (cp := 128) (n := ((8 * all.length : Nat) : Int)) (s := s) (w := w) (y := n) (A := w ++ ([128] ++ List.replicate (zs all.length) 0)) (C := [])
      (K := fun x28 => f117_1_l15 F s n w x28 (fun x29 => f117_1_l20 F x29 s n w (fun x30 => K (ofInts x30)) F 0 []) F 0 128 128 s) (by simp [hzs]; omega) (by omega) 8 0 F (List.replicate 8 0) (by omega) (by omega) (by simp)
    rw [show ((0 : Nat) : Int) = 0 from rfl] at hb1
    refine hb1.trans ?_
    rw [setB_eq _ (by simp)]
    have hpre : (w ++ ([128] ++ List.replicate (zs all.length) 0)) ++ (bes ((8 * all.length : Nat) : Int) 8 ++ []) = w ++ pad all.length := by simp [pad]
    rw [hpre]
    have hpl : (w ++ pad all.length).length = 128 := by rw [List.length_append, pad_len, hzs]; omega
    have hL := lastL (F := F) (s0 := s) (w := w) (y := n) (buf := w ++ pad all.length) (K := fun x29 => f117_1_l20 F x29 s n w (fun x30 => K (ofInts x30)) F 0 []) (by omega) 2 F 0 128 s he (by omega) (by omega) (by rw [hpl]; omega) (by omega)
    refine hL.trans ?_
    rw [List.drop_zero, List.take_of_length_le (by omega), fin _ (cmpN_eight _ _ he), hbk]

end Go.Proofs.Ytillbabmlfjegaa.X
end

section
/- Trees' shapes: levels and numbers of nodes; any seat. -/
namespace Go.Proofs.Ytillbabmlfjegaa.X
open Go Go.Proofs.Ytillbabmlfjegaa.Ev
set_option linter.unusedVariables false

def lv : Nat → Int → Int → List Int
  | 0, _, _ => []
  | k + 1, n, f => if n > 1 then ((n + f - 1) / f) :: lv k ((n + f - 1) / f) f else []

theorem step_eq {n f : Int} (hf : 2 ≤ f ∧ f ≤ 4) (h1 : 1 < n) (h2 : n ≤ 128) :
    IntKind.i64.wrap ((IntKind.i64.wrap ((IntKind.i64.wrap (n + f)) - 1)).tdiv f) = (n + f - 1) / f ∧ 1 ≤ (n + f - 1) / f ∧ (n + f - 1) / f < n := by
  rw [w64 (x := n + f) (by omega) (by omega), w64 (x := n + f - 1) (by omega) (by omega), Int.tdiv_eq_ediv_of_nonneg (by omega)]
  have : f = 2 ∨ f = 3 ∨ f = 4 := by omega
  rcases this with rfl | rfl | rfl
  · rw [w64 (by omega) (by omega)]; omega
  · rw [w64 (by omega) (by omega)]; omega
  · rw [w64 (by omega) (by omega)]; omega

theorem lev48 {β : Type} {F : Nat} {x f c u : Int} (hf : 2 ≤ f ∧ f ≤ 4) {K : List Int → Option β} : ∀ (k : Nat) (n : Int) (acc : List Int), 1 ≤ n → n ≤ 128 → n < k → (acc.length : Int) + n ≤ 2000 →
    f102_1_l5 F x f c u K k n acc = K (acc ++ lv k n f)
  | 0, n, acc, h1, h2, h3, h4 => by omega
  | k + 1, n, acc, h1, h2, h3, h4 => by
    simp only [f102_1_l5, lv]
    by_cases hn : n > 1
    · obtain ⟨e, g1, g2⟩ := step_eq hf hn h2
      rw [e]
      have h0 : ¬ f = 0 := by omega
      have hl : (acc.length + 1) * 8 ≤ 70368744177664 := by omega
      simp only [hn, h0, hl, decide_true, decide_false, cond_true, cond_false, if_true]
      rw [lev48 hf k _ _ g1 (by omega) (by omega) (by simp; omega)]
      simp
    · simp [hn]

theorem lev49 {β : Type} {F : Nat} {x f c u : Int} (hf : 2 ≤ f ∧ f ≤ 4) {K : List Int → Option β} : ∀ (k : Nat) (n : Int) (acc : List Int), 1 ≤ n → n ≤ 128 → n < k → (acc.length : Int) + n ≤ 2000 →
    f66_1_l5 F x f c u K k n acc = K (acc ++ lv k n f)
  | 0, n, acc, h1, h2, h3, h4 => by omega
  | k + 1, n, acc, h1, h2, h3, h4 => by
    simp only [f66_1_l5, lv]
    by_cases hn : n > 1
    · obtain ⟨e, g1, g2⟩ := step_eq hf hn h2
      rw [e]
      have h0 : ¬ f = 0 := by omega
      have hl : (acc.length + 1) * 8 ≤ 70368744177664 := by omega
      simp only [hn, h0, hl, decide_true, decide_false, cond_true, cond_false, if_true]
      rw [lev49 hf k _ _ g1 (by omega) (by omega) (by simp; omega)]
      simp
    · simp [hn]

theorem lv_ok {f : Int} (hf : 2 ≤ f ∧ f ≤ 4) : ∀ (k : Nat) (n : Int), 1 ≤ n → n ≤ 128 → ((lv k n f).length : Int) < n ∧ ∀ y ∈ lv k n f, 1 ≤ y ∧ y ≤ 128
  | 0, n, h1, h2 => by simp [lv]; omega
  | k + 1, n, h1, h2 => by
    simp only [lv]
    by_cases hn : n > 1
    · obtain ⟨e, g1, g2⟩ := step_eq hf hn h2
      obtain ⟨q1, q2⟩ := lv_ok hf k _ g1 (by omega)
      rw [if_pos hn]
      refine ⟨by simp; omega, fun y hy => ?_⟩
      rcases List.mem_cons.1 hy with rfl | hy
      · omega
      · exact q2 y hy
    · rw [if_neg hn]; simp; omega

/-- The geometry can be. -/
def rt (n f c u : Int) : Prop := (1 ≤ n ∧ n ≤ 128) ∧ (2 ≤ f ∧ f ≤ 4) ∧ (0 ≤ c ∧ c ≤ 64) ∧ (1 ≤ u ∧ u ≤ 320)
instance (n f c u : Int) : Decidable (rt n f c u) := by unfold rt; infer_instance

theorem cnd {β : Type} {p q : Prop} [Decidable p] [Decidable q] {K : Bool → Option β} : cond (decide p) (K (decide q)) (K false) = K (decide (p ∧ q)) := by
  by_cases h : p <;> simp [h]

theorem within87 {β : Type} {F : Nat} {a b c : Int} {K : Bool → Option β} : f95_1 F a b c K = K (decide (a ≥ b ∧ a ≤ c)) := by
  simp only [f95_1, cnd]

theorem right46 {β : Type} {F : Nat} {n f c u : Int} {K : Bool → Option β} : f52_1 F n f c u K = K (decide (rt n f c u)) := by
  simp only [f52_1, within87, cnd]
  congr 1

theorem right47 {β : Type} {F : Nat} {n f c u : Int} {K : Bool → Option β} : f7_1 F n f c u K = K (decide (rt n f c u)) := by
  simp only [f7_1, cnd]
  congr 1
  exact decide_eq_decide.2 (by unfold rt; omega)

def levels (n f c u : Int) : List Int := if rt n f c u then n :: lv 20000 n f else []

theorem levels48 {β : Type} {n f c u : Int} {K : List Int → Option β} : f102_1 20000 n f c u K = K (levels n f c u) := by
  simp only [f102_1, right46, levels]
  by_cases h : rt n f c u
  · simp only [h, decide_true, Bool.not_true, cond_false, if_true]
    rw [lev48 h.2.1 20000 n [n] h.1.1 h.1.2 (by have := h.1.2; omega) (by have := h.1.2; simp; omega)]
    rfl
  · simp [h]

theorem levels49 {β : Type} {n f c u : Int} {K : List Int → Option β} : f66_1 20000 n f c u K = K (levels n f c u) := by
  simp only [f66_1, right47, levels]
  by_cases h : rt n f c u
  · simp only [h, decide_true, Bool.not_true, cond_false, if_true]
    rw [lev49 h.2.1 20000 n [n] h.1.1 h.1.2 (by have := h.1.2; omega) (by have := h.1.2; simp; omega)]
    rfl
  · simp [h]

theorem levels_ok (n f c u : Int) : (levels n f c u).length ≤ 128 ∧ ∀ y ∈ levels n f c u, 1 ≤ y ∧ y ≤ 128 := by
  unfold levels
  split
  · rename_i h
    obtain ⟨q1, q2⟩ := lv_ok h.2.1 20000 n h.1.1 h.1.2
    have := h.1
    refine ⟨by simp; omega, fun y hy => ?_⟩
    rcases List.mem_cons.1 hy with rfl | hy
    · omega
    · exact q2 y hy
  · simp

def sumI : List Int → Int
  | [] => 0
  | x :: r => x + sumI r

theorem sumI_ok : ∀ (l : List Int), (∀ y ∈ l, 1 ≤ y ∧ y ≤ 128) → (l.length : Int) ≤ sumI l ∧ sumI l ≤ 128 * l.length
  | [], _ => by simp [sumI]
  | x :: r, h => by
    obtain ⟨q1, q2⟩ := sumI_ok r fun y hy => h y (by simp [hy])
    have := h x (by simp)
    simp only [sumI, List.length_cons]
    omega

theorem sum50 {β : Type} {F : Nat} {K : Int → Option β} (l : List Int) (hl : l.length ≤ 128) (hy : ∀ y ∈ l, 1 ≤ y ∧ y ≤ 128) : ∀ (r : List Int) (i : Nat) (k : Nat) (s : Int), l.drop i = r → i ≤ l.length → r.length < k → 0 ≤ s → s ≤ 128 * i →
    f72_1_l3 F ((l.length : Nat) : Int) l K k s (i : Int) = K (s + sumI r)
  | [], i, k, s, hd, hi, hk, h0, h1 => by
    cases k with
    | zero => omega
    | succ k =>
      have : i = l.length := by
        have := congrArg List.length hd
        simp at this; omega
      subst this
      simp [f72_1_l3, sumI]
  | x :: r, i, k, s, hd, hi, hk, h0, h1 => by
    cases k with
    | zero => omega
    | succ k =>
      have hlen : l.length - i = r.length + 1 := by
        have := congrArg List.length hd
        simpa using this
      have hlt : i < l.length := by omega
      have hx : l[i]? = some x := by
        have := congrArg (·[0]?) hd
        simpa using this
      have hm := hy x (List.mem_of_getElem? hx)
      have hdr : l.drop (i + 1) = r := by
        rw [← List.drop_drop, hd]; rfl
      simp only [f72_1_l3]
      have e1 : decide ((i : Int) < ((l.length : Nat) : Int)) = true := by simp; omega
      have e2 : decide ((0 : Int) ≤ (i : Int) ∧ (i : Int) < ((l.length : Nat) : Int)) = true := by simp; omega
      have e3 : decide (0 + (i : Int).toNat < l.length) = true := by simp; omega
      have e4 : l.getD (0 + (i : Int).toNat) 0 = x := by
        rw [List.getD_eq_getElem?_getD]; simp [hx]
      rw [e1, e2, e3, e4, cond_true, cond_true, cond_true, w64 (by omega) (by omega), w64 (by omega) (by omega)]
      have := sum50 (F := F) (K := K) l hl hy r (i + 1) k (s + x) hdr (by omega) (by simpa using hk) (by omega) (by omega)
      rw [show ((i : Int) + 1) = ((i + 1 : Nat) : Int) by omega, this]
      congr 1
      simp only [sumI]; omega

theorem sum51 {β : Type} {F : Nat} {K : Int → Option β} (l : List Int) (hl : l.length ≤ 128) (hy : ∀ y ∈ l, 1 ≤ y ∧ y ≤ 128) : ∀ (r : List Int) (i : Nat) (k : Nat) (s : Int), l.drop i = r → i ≤ l.length → r.length < k → 0 ≤ s → s ≤ 128 * i →
    f14_1_l4 F l K k s (i : Int) = K (s + sumI r)
  | [], i, k, s, hd, hi, hk, h0, h1 => by
    cases k with
    | zero => omega
    | succ k =>
      have : i = l.length := by
        have := congrArg List.length hd
        simp at this; omega
      subst this
      simp [f14_1_l4, sumI]
  | x :: r, i, k, s, hd, hi, hk, h0, h1 => by
    cases k with
    | zero => omega
    | succ k =>
      have hlen : l.length - i = r.length + 1 := by
        have := congrArg List.length hd
        simpa using this
      have hlt : i < l.length := by omega
      have hx : l[i]? = some x := by
        have := congrArg (·[0]?) hd
        simpa using this
      have hm := hy x (List.mem_of_getElem? hx)
      have hdr : l.drop (i + 1) = r := by
        rw [← List.drop_drop, hd]; rfl
      simp only [f14_1_l4]
      have e1 : decide ((i : Int) < ((l.length : Nat) : Int)) = true := by simp; omega
      have e2 : decide ((0 : Int) ≤ (i : Int) ∧ (i : Int) < ((l.length : Nat) : Int)) = true := by simp; omega
      have e3 : decide (0 + (i : Int).toNat < l.length) = true := by simp; omega
      have e4 : l.getD (0 + (i : Int).toNat) 0 = x := by
        rw [List.getD_eq_getElem?_getD]; simp [hx]
      rw [e1, e2, e3, e4, cond_true, cond_true, cond_true, w64 (by omega) (by omega), w64 (by omega) (by omega)]
      have := sum51 (F := F) (K := K) l hl hy r (i + 1) k (s + x) hdr (by omega) (by simpa using hk) (by omega) (by omega)
      rw [show ((i : Int) + 1) = ((i + 1 : Nat) : Int) by omega, this]
      congr 1
      simp only [sumI]; omega

def nodes (n f c u : Int) : Int := sumI (levels n f c u)

theorem nodes_ok (n f c u : Int) : 0 ≤ nodes n f c u ∧ nodes n f c u ≤ 16384 ∧ (rt n f c u → 1 ≤ nodes n f c u) ∧ (¬ rt n f c u → nodes n f c u = 0) := by
  obtain ⟨h1, h2⟩ := levels_ok n f c u
  obtain ⟨h3, h4⟩ := sumI_ok _ h2
  unfold nodes
  refine ⟨by omega, by omega, fun h => ?_, fun h => by simp [levels, h, sumI]⟩
  have : 1 ≤ (levels n f c u).length := by simp [levels, h]
  omega

theorem nodes50 {β : Type} {n f c u : Int} {K : Int → Option β} : f72_1 20000 n f c u K = K (nodes n f c u) := by
  obtain ⟨h1, h2⟩ := levels_ok n f c u
  simp only [f72_1, levels48]
  have := sum50 (F := 20000) (K := K) (levels n f c u) h1 h2 _ 0 20000 0 rfl (by omega) (by simp; omega) (by omega) (by omega)
  simp only [List.drop_zero, Int.zero_add] at this
  exact this

theorem nodes51 {β : Type} {n f c u : Int} {K : Int → Option β} : f14_1 20000 n f c u K = K (nodes n f c u) := by
  obtain ⟨h1, h2⟩ := levels_ok n f c u
  simp only [f14_1, levels49]
  have := sum51 (F := 20000) (K := K) (levels n f c u) h1 h2 _ 0 20000 0 rfl (by omega) (by simp; omega) (by omega) (by omega)
  simp only [List.drop_zero, Int.zero_add] at this
  exact this


end Go.Proofs.Ytillbabmlfjegaa.X
end
