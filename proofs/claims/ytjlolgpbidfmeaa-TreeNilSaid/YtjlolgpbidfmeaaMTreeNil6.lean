/- Merged: EvF35, TreeB, EvF37, GeoI, EvF41, EvF93, EvF94, EvF95, EvF39, TreeC, PureTreeNil. -/
import Derived.Test.YtjlolgpbidfmeaaMTreeNil2
import Derived.Test.YtjlolgpbidfmeaaProg
import Derived.KernelRfl
import Derived.Test.YtjlolgpbidfmeaaMTreeNil5
import Derived.Test.YtjlolgpbidfmeaaMTreeNil4
import Derived.Test.YtjlolgpbidfmeaaMTreeNil3
section
namespace Go.Proofs.Ytjlolgpbidfmeaa.X
open Go Go.Proofs.Ytjlolgpbidfmeaa.Ev Go.Proofs
set_option linter.unusedVariables false
/-! pentimentoref12.From -/
noncomputable def f35_1_l7 {β : Type} (F : Nat) (v4 : List ByteArray) (v5 : Int) (v6 : Int) (v7 : Int) (v8 : Int) (K0 : List ByteArray → Option β) (K1 : List ByteArray → Option β) : Nat → Int → List ByteArray → Option β
  | 0, _, _ => none
  | k + 1, v3, v9 => cond (decide (v3 < ((v4.length : Nat) : Int))) (cond (decide ((0 : Int) ≤ v3 ∧ v3 < ((v4.length : Nat) : Int))) (cond (decide (0 + v3.toNat < v4.length)) (f21_1 F (v4.getD (0 + v3.toNat) ByteArray.empty) (fun x10 => cond (!x10) (K0 v9) (cond (decide ((0 : Int) ≤ v3 ∧ v3 < ((v4.length : Nat) : Int))) (cond (decide (0 + v3.toNat < v4.length)) (cond (decide ((v9.length + 1) * 16 ≤ 70368744177664)) (f35_1_l7 F v4 v5 v6 v7 v8 K0 K1 k (IntKind.i64.wrap (v3 + 1)) (v9 ++ [v4.getD (0 + v3.toNat) ByteArray.empty])) none) none) none)) ) none) none) (K1 v9)
noncomputable def f35_1 {β : Type} (F : Nat) (a1 : Int) (a2 : Int) (a3 : Int) (a4 : Int) (a5 : List ByteArray) (K0 : Int → Option β) (K1 : List ByteArray → Option β) : Option β := f27_1 F a1 a2 a3 a4 (fun x1 => cond (!x1) (K0 12) (f89_1 F a1 a2 a3 a4 (fun x2 => cond (((a5.length : Nat) : Int) != x2) (K0 8) (f35_1_l7 F a5 a1 a2 a3 a4 (fun x11 => K0 4) (fun x12 => K1 x12) F 0 [])) )) 
def sh35_1 : Sh := ⟨[.agg [.int .i64, .int .i64, .int .i64, .int .i64], .lf (.full 0)], [some ⟨none, [.seq .str 0]⟩]⟩
noncomputable def S35_1 (F : Nat) (o : Summ) : Summ := mkS sh35_1 (fun d K => f35_1 F d.1.1.1 d.1.1.2.1 d.1.1.2.2.1 d.1.1.2.2.2.1 d.2.1.2.1 (fun (y0 : Int) => K [.lf (.nilp), .lf (.int .i64 y0)] [some ⟨d.2.1.1, [.seq .str 0 d.2.1.2.1]⟩]) (fun (y6 : List ByteArray) => K [.lf (.ptr 1 0), .lf (.int .i64 0)] [some ⟨d.2.1.1, [.seq .str 0 d.2.1.2.1]⟩, some ⟨false, [.int .i64 d.1.1.1, .int .i64 d.1.1.2.1, .int .i64 d.1.1.2.2.1, .int .i64 d.1.1.2.2.2.1, .full 2]⟩, some ⟨false, [.seq .str 0 y6]⟩])) o
noncomputable def code35 : Code := bodyOf Try.f35
noncomputable def b35_0 : Code := cB (cB (cR (cL (cR (cR (cR (cR (code35))))))))
theorem scopes35 : scopesOf code35 = [] := by kernel_rfl
theorem loops35 : loopsOf code35 = [b35_0] := by kernel_rfl
theorem enter35 : ∀ args w, (callFunc 35 args).run Try.prog w = .ok (.enter 35 args) w := enter_of (fn := Try.f35) (by kernel_rfl) (by kernel_rfl) (by kernel_rfl)
noncomputable def T35_1 (F : Nat) : FuncId → Option Summ := tab [(21, (S21_1 F noS)), (27, (S27_1 F noS)), (89, (S89_1 F noS))]
def sh35_1_l7 : Sh := ⟨[.lf (.full 0), .lf (.ptr 1 0), .lf (.int .i64)], [some ⟨none, [.seq .str 0]⟩, some ⟨some false, [.int .i64, .int .i64, .int .i64, .int .i64, .full 2]⟩, some ⟨some false, [.seq .str 0]⟩]⟩
noncomputable def G35_1_7 (F k : Nat) : LoopS := mkG sh35_1_l7 [1, 6, 7] (outT [(.exit 0, [6]), (.ret, [4, 5])]) (fun d K => f35_1_l7 F d.2.1.2.1 d.2.2.1.2.1 d.2.2.1.2.2.1 d.2.2.1.2.2.2.1 d.2.2.1.2.2.2.2.1 (fun (y6 : List ByteArray) => K .ret [.tv (.lf (.nilp)), .tv (.lf (.int .i64 4))] [some ⟨d.2.1.1, [.seq .str 0 d.2.1.2.1]⟩, some ⟨false, [.int .i64 d.2.2.1.2.1, .int .i64 d.2.2.1.2.2.1, .int .i64 d.2.2.1.2.2.2.1, .int .i64 d.2.2.1.2.2.2.2.1, .full 2]⟩, some ⟨false, [.seq .str 0 y6]⟩]) (fun (y5 : List ByteArray) => K (.exit 0) [.tv (.lf (.ptr 1 0))] [some ⟨d.2.1.1, [.seq .str 0 d.2.1.2.1]⟩, some ⟨false, [.int .i64 d.2.2.1.2.1, .int .i64 d.2.2.1.2.2.1, .int .i64 d.2.2.1.2.2.2.1, .int .i64 d.2.2.1.2.2.2.2.1, .full 2]⟩, some ⟨false, [.seq .str 0 y5]⟩]) k d.1.2.2.1 d.2.2.2.1.2.1)
noncomputable def LT35_1 (F : Nat) : Nat → Option LoopS := ltab [(7, G35_1_7 F F)]
theorem L35_1_7g (F k : Nat) (c21_1 : ByteArray → (Bool → Option Res) → Option Res) (c27_1 : Int → Int → Int → Int → (Bool → Option Res) → Option Res) (c89_1 : Int → Int → Int → Int → (Int → Option Res) → Option Res)  (l7 : List ByteArray → Int → Int → Int → Int → (List ByteArray → Option Res) → (List ByteArray → Option Res) → Nat → Int → List ByteArray → Option Res) (X7 : LoopS) (d : sh35_1_l7.den) (K : KL) : (fun (v4 : List ByteArray) (v5 : Int) (v6 : Int) (v7 : Int) (v8 : Int) (K0 : (List ByteArray → Option Res)) (K1 : (List ByteArray → Option Res)) (k : Nat) (v3 : Int) (v9 : List ByteArray) => cond (decide (v3 < ((v4.length : Nat) : Int))) (cond (decide ((0 : Int) ≤ v3 ∧ v3 < ((v4.length : Nat) : Int))) (cond (decide (0 + v3.toNat < v4.length)) (c21_1 (v4.getD (0 + v3.toNat) ByteArray.empty) (fun x10 => cond (!x10) (K0 v9) (cond (decide ((0 : Int) ≤ v3 ∧ v3 < ((v4.length : Nat) : Int))) (cond (decide (0 + v3.toNat < v4.length)) (cond (decide ((v9.length + 1) * 16 ≤ 70368744177664)) (l7 v4 v5 v6 v7 v8 K0 K1 k (IntKind.i64.wrap (v3 + 1)) (v9 ++ [v4.getD (0 + v3.toNat) ByteArray.empty])) none) none) none)) ) none) none) (K1 v9)) d.2.1.2.1 d.2.2.1.2.1 d.2.2.1.2.2.1 d.2.2.1.2.2.2.1 d.2.2.1.2.2.2.2.1 (fun (y6 : List ByteArray) => K .ret [.tv (.lf (.nilp)), .tv (.lf (.int .i64 4))] [some ⟨d.2.1.1, [.seq .str 0 d.2.1.2.1]⟩, some ⟨false, [.int .i64 d.2.2.1.2.1, .int .i64 d.2.2.1.2.2.1, .int .i64 d.2.2.1.2.2.2.1, .int .i64 d.2.2.1.2.2.2.2.1, .full 2]⟩, some ⟨false, [.seq .str 0 y6]⟩]) (fun (y5 : List ByteArray) => K (.exit 0) [.tv (.lf (.ptr 1 0))] [some ⟨d.2.1.1, [.seq .str 0 d.2.1.2.1]⟩, some ⟨false, [.int .i64 d.2.2.1.2.1, .int .i64 d.2.2.1.2.2.1, .int .i64 d.2.2.1.2.2.2.1, .int .i64 d.2.2.1.2.2.2.2.1, .full 2]⟩, some ⟨false, [.seq .str 0 y5]⟩]) k d.1.2.2.1 d.2.2.2.1.2.1 = roundOf Try.prog (tab [(21, (mkS sh21_1 (fun d K => c21_1 d.1.1 (fun (y0 : Bool) => K [.lf (.bool y0)] [])) noS)), (27, (mkS sh27_1 (fun d K => c27_1 d.1.1.1 d.1.1.2.1 d.1.1.2.2.1 d.1.1.2.2.2.1 (fun (y0 : Bool) => K [.lf (.bool y0)] [])) noS)), (89, (mkS sh89_1 (fun d K => c89_1 d.1.1.1 d.1.1.2.1 d.1.1.2.2.1 d.1.1.2.2.2.1 (fun (y0 : Int) => K [.lf (.int .i64 y0)] [])) noS))]) 45 1 (ltab [(7, X7)]) (mkG sh35_1_l7 [1, 6, 7] (outT [(.exit 0, [6]), (.ret, [4, 5])]) (fun d K => l7 d.2.1.2.1 d.2.2.1.2.1 d.2.2.1.2.2.1 d.2.2.1.2.2.2.1 d.2.2.1.2.2.2.2.1 (fun (y6 : List ByteArray) => K .ret [.tv (.lf (.nilp)), .tv (.lf (.int .i64 4))] [some ⟨d.2.1.1, [.seq .str 0 d.2.1.2.1]⟩, some ⟨false, [.int .i64 d.2.2.1.2.1, .int .i64 d.2.2.1.2.2.1, .int .i64 d.2.2.1.2.2.2.1, .int .i64 d.2.2.1.2.2.2.2.1, .full 2]⟩, some ⟨false, [.seq .str 0 y6]⟩]) (fun (y5 : List ByteArray) => K (.exit 0) [.tv (.lf (.ptr 1 0))] [some ⟨d.2.1.1, [.seq .str 0 d.2.1.2.1]⟩, some ⟨false, [.int .i64 d.2.2.1.2.1, .int .i64 d.2.2.1.2.2.1, .int .i64 d.2.2.1.2.2.2.1, .int .i64 d.2.2.1.2.2.2.2.1, .full 2]⟩, some ⟨false, [.seq .str 0 y5]⟩]) k d.1.2.2.1 d.2.2.2.1.2.1)) b35_0 (encT sh35_1_l7.vs d.1) (encH sh35_1_l7.h d.2) K := by kernel_rfl
theorem L35_1_7 (F : Nat) : LoopOK Try.prog (T35_1 F) 45 1 (LT35_1 F) (G35_1_7 F F) b35_0 :=
  loopOK_of (s := sh35_1_l7) (live := [1, 6, 7]) (out := (outT [(.exit 0, [6]), (.ret, [4, 5])])) (fun k d K => f35_1_l7 F d.2.1.2.1 d.2.2.1.2.1 d.2.2.1.2.2.1 d.2.2.1.2.2.2.1 d.2.2.1.2.2.2.2.1 (fun (y6 : List ByteArray) => K .ret [.tv (.lf (.nilp)), .tv (.lf (.int .i64 4))] [some ⟨d.2.1.1, [.seq .str 0 d.2.1.2.1]⟩, some ⟨false, [.int .i64 d.2.2.1.2.1, .int .i64 d.2.2.1.2.2.1, .int .i64 d.2.2.1.2.2.2.1, .int .i64 d.2.2.1.2.2.2.2.1, .full 2]⟩, some ⟨false, [.seq .str 0 y6]⟩]) (fun (y5 : List ByteArray) => K (.exit 0) [.tv (.lf (.ptr 1 0))] [some ⟨d.2.1.1, [.seq .str 0 d.2.1.2.1]⟩, some ⟨false, [.int .i64 d.2.2.1.2.1, .int .i64 d.2.2.1.2.2.1, .int .i64 d.2.2.1.2.2.2.1, .int .i64 d.2.2.1.2.2.2.2.1, .full 2]⟩, some ⟨false, [.seq .str 0 y5]⟩]) k d.1.2.2.1 d.2.2.2.1.2.1) F (fun d K => by kernel_rfl)  (fun k d K => Eq.mp (by kernel_rfl) (L35_1_7g F k (f21_1 F) (f27_1 F) (f89_1 F)  (f35_1_l7 F) (G35_1_7 F F) d K))
theorem E35_1g (F : Nat) (c21_1 : ByteArray → (Bool → Option Res) → Option Res) (c27_1 : Int → Int → Int → Int → (Bool → Option Res) → Option Res) (c89_1 : Int → Int → Int → Int → (Int → Option Res) → Option Res) (l7 : List ByteArray → Int → Int → Int → Int → (List ByteArray → Option Res) → (List ByteArray → Option Res) → Nat → Int → List ByteArray → Option Res)  (d : sh35_1.den) (K : KF) : evBody Try.prog (tab [(21, (mkS sh21_1 (fun d K => c21_1 d.1.1 (fun (y0 : Bool) => K [.lf (.bool y0)] [])) noS)), (27, (mkS sh27_1 (fun d K => c27_1 d.1.1.1 d.1.1.2.1 d.1.1.2.2.1 d.1.1.2.2.2.1 (fun (y0 : Bool) => K [.lf (.bool y0)] [])) noS)), (89, (mkS sh89_1 (fun d K => c89_1 d.1.1.1 d.1.1.2.1 d.1.1.2.2.1 d.1.1.2.2.2.1 (fun (y0 : Int) => K [.lf (.int .i64 y0)] [])) noS))]) 45 1 (ltab [(7, mkG sh35_1_l7 [1, 6, 7] (outT [(.exit 0, [6]), (.ret, [4, 5])]) (fun d K => l7 d.2.1.2.1 d.2.2.1.2.1 d.2.2.1.2.2.1 d.2.2.1.2.2.2.1 d.2.2.1.2.2.2.2.1 (fun (y6 : List ByteArray) => K .ret [.tv (.lf (.nilp)), .tv (.lf (.int .i64 4))] [some ⟨d.2.1.1, [.seq .str 0 d.2.1.2.1]⟩, some ⟨false, [.int .i64 d.2.2.1.2.1, .int .i64 d.2.2.1.2.2.1, .int .i64 d.2.2.1.2.2.2.1, .int .i64 d.2.2.1.2.2.2.2.1, .full 2]⟩, some ⟨false, [.seq .str 0 y6]⟩]) (fun (y5 : List ByteArray) => K (.exit 0) [.tv (.lf (.ptr 1 0))] [some ⟨d.2.1.1, [.seq .str 0 d.2.1.2.1]⟩, some ⟨false, [.int .i64 d.2.2.1.2.1, .int .i64 d.2.2.1.2.2.1, .int .i64 d.2.2.1.2.2.2.1, .int .i64 d.2.2.1.2.2.2.2.1, .full 2]⟩, some ⟨false, [.seq .str 0 y5]⟩]) F d.1.2.2.1 d.2.2.2.1.2.1))]) code35 Try.f35.results.toList (encT sh35_1.vs d.1) (encH sh35_1.h d.2) K = (fun (a1 : Int) (a2 : Int) (a3 : Int) (a4 : Int) (a5 : List ByteArray) (K0 : (Int → Option Res)) (K1 : (List ByteArray → Option Res)) => c27_1 a1 a2 a3 a4 (fun x1 => cond (!x1) (K0 12) (c89_1 a1 a2 a3 a4 (fun x2 => cond (((a5.length : Nat) : Int) != x2) (K0 8) (l7 a5 a1 a2 a3 a4 (fun x11 => K0 4) (fun x12 => K1 x12) F 0 [])) )) ) d.1.1.1 d.1.1.2.1 d.1.1.2.2.1 d.1.1.2.2.2.1 d.2.1.2.1 (fun (y0 : Int) => K [.lf (.nilp), .lf (.int .i64 y0)] [some ⟨d.2.1.1, [.seq .str 0 d.2.1.2.1]⟩]) (fun (y6 : List ByteArray) => K [.lf (.ptr 1 0), .lf (.int .i64 0)] [some ⟨d.2.1.1, [.seq .str 0 d.2.1.2.1]⟩, some ⟨false, [.int .i64 d.1.1.1, .int .i64 d.1.1.2.1, .int .i64 d.1.1.2.2.1, .int .i64 d.1.1.2.2.2.1, .full 2]⟩, some ⟨false, [.seq .str 0 y6]⟩]) := by kernel_rfl
theorem E35_1 (F : Nat) (d : sh35_1.den) (K : KF) : evBody Try.prog (T35_1 F) 45 1 (LT35_1 F) code35 Try.f35.results.toList (encT sh35_1.vs d.1) (encH sh35_1.h d.2) K = f35_1 F d.1.1.1 d.1.1.2.1 d.1.1.2.2.1 d.1.1.2.2.2.1 d.2.1.2.1 (fun (y0 : Int) => K [.lf (.nilp), .lf (.int .i64 y0)] [some ⟨d.2.1.1, [.seq .str 0 d.2.1.2.1]⟩]) (fun (y6 : List ByteArray) => K [.lf (.ptr 1 0), .lf (.int .i64 0)] [some ⟨d.2.1.1, [.seq .str 0 d.2.1.2.1]⟩, some ⟨false, [.int .i64 d.1.1.1, .int .i64 d.1.1.2.1, .int .i64 d.1.1.2.2.1, .int .i64 d.1.1.2.2.2.1, .full 2]⟩, some ⟨false, [.seq .str 0 y6]⟩]) := Eq.mp (by kernel_rfl) (E35_1g F (f21_1 F) (f27_1 F) (f89_1 F) (f35_1_l7 F)  d K)
theorem S35_1_ok (F : Nat) (o : Summ) (ho : SoundFn Try.prog 35 o) : SoundFn Try.prog 35 (S35_1 F o) :=
  soundFn_of (fn := Try.f35) (c := code35) (by kernel_rfl) (tab_cons (S21_1_ok F _ (noS_sound enter21)) (tab_cons (S27_1_ok F _ (noS_sound enter27)) (tab_cons (S89_1_ok F _ (noS_sound enter89)) tab_nil))) (by kernel_rfl) (by kernel_rfl) ho (by rw [loops35]; exact (loopsOK_cons (by kernel_rfl) (L35_1_7 F) loopsOK_nil)) (by rw [scopes35]; exact scopesOK_nil) (E35_1 F)
end Go.Proofs.Ytjlolgpbidfmeaa.X
end

section
/- Trees: the code's and the document's nodes, New and From are one. -/
namespace Go.Proofs.Ytjlolgpbidfmeaa.X
open Go Go.Proofs.Ytjlolgpbidfmeaa.Ev
set_option linter.unusedVariables false

def D32 (L : List ByteArray) : Prop := ∀ d ∈ L, d.size = 32

theorem getB_mem {l : List ByteArray} {j : Nat} (h : j < l.length) : l.getD j ByteArray.empty ∈ l := by
  rw [List.getD_eq_getElem?_getD, List.getElem?_eq_getElem h]; simp

theorem atI {l r : List Int} {x : Int} {i : Nat} (hd : l.drop i = x :: r) : i < l.length ∧ l.getD (0 + (i : Int).toNat) 0 = x ∧ l.drop (i + 1) = r := at_drop hd
theorem nilI {l : List Int} {i : Nat} (hd : l.drop i = []) (hi : i ≤ l.length) : i = l.length := by
  have := congrArg List.length hd
  simp at this; omega

def gets (L : List ByteArray) (cs : List Int) : List ByteArray := cs.map fun c => L.getD c.toNat ByteArray.empty
/-- A node's digest, by its children's. -/
def abv (n f c u : Int) (L : List ByteArray) (k : Int) : ByteArray := nodeD (gets L (chs f k (levels n f c u)))

theorem above82 {β : Type} {F : Nat} {n f c u : Int} {L : List ByteArray} {cs : List Int} {K : List ByteArray → Option β} (hL : ∀ x ∈ cs, 0 ≤ x ∧ x < L.length) (hl : cs.length ≤ 100) : ∀ (r : List Int) (i k : Nat) (acc : List ByteArray), cs.drop i = r → i ≤ cs.length → r.length < k → acc.length = i →
    f82_1_l3 F ((cs.length : Nat) : Int) n f c u L cs K k (i : Int) acc = K (acc ++ gets L r)
  | [], i, k, acc, hd, hi, hk, ha => by
    obtain ⟨k, rfl⟩ : ∃ j, k = j + 1 := ⟨k - 1, by omega⟩
    have := nilI hd hi
    simp only [f82_1_l3]
    rw [cf (by omega)]; simp [gets]
  | x :: r, i, k, acc, hd, hi, hk, ha => by
    obtain ⟨k, rfl⟩ : ∃ j, k = j + 1 := ⟨k - 1, by omega⟩
    obtain ⟨d1, d2, d3⟩ := atI hd
    have hx := hL x (by
      have : x ∈ cs.drop i := by rw [hd]; simp
      exact List.mem_of_mem_drop this)
    simp only [f82_1_l3]
    rw [ct (by omega), ct (by omega), ct (by omega), d2, ct (by omega), ct (by omega), ct (by omega), w64 (by omega) (by omega), show ((i : Int) + 1) = ((i + 1 : Nat) : Int) by omega,
      above82 hL hl r (i + 1) k _ d3 (by omega) (by simpa using hk) (by simp; omega)]
    simp [gets]

theorem above92 {β : Type} {F : Nat} {L : List ByteArray} {cs : List Int} {K : List ByteArray → Option β} (hL : ∀ x ∈ cs, 0 ≤ x ∧ x < L.length) (hl : cs.length ≤ 100) : ∀ (r : List Int) (i k : Nat) (acc : List ByteArray), cs.drop i = r → i ≤ cs.length → r.length < k → acc.length = i →
    f92_1_l4 F L cs K k (i : Int) acc = K (acc ++ gets L r)
  | [], i, k, acc, hd, hi, hk, ha => by
    obtain ⟨k, rfl⟩ : ∃ j, k = j + 1 := ⟨k - 1, by omega⟩
    have := nilI hd hi
    simp only [f92_1_l4]
    rw [cf (by omega)]; simp [gets]
  | x :: r, i, k, acc, hd, hi, hk, ha => by
    obtain ⟨k, rfl⟩ : ∃ j, k = j + 1 := ⟨k - 1, by omega⟩
    obtain ⟨d1, d2, d3⟩ := atI hd
    have hx := hL x (by
      have : x ∈ cs.drop i := by rw [hd]; simp
      exact List.mem_of_mem_drop this)
    simp only [f92_1_l4]
    rw [ct (by omega), ct (by omega), ct (by omega), d2, ct (by omega), ct (by omega), ct (by omega), w64 (by omega) (by omega), show ((i : Int) + 1) = ((i + 1 : Nat) : Int) by omega,
      above92 hL hl r (i + 1) k _ d3 (by omega) (by simpa using hk) (by simp; omega)]
    simp [gets]

theorem chs_lt {n f c u k : Int} (h : rt n f c u) (hk : 0 ≤ k) : ∀ x ∈ chs f k (levels n f c u), 0 ≤ x ∧ x < k := by
  intro x hx
  have h1 := (chs_mem h hk).1 hx
  have h2 := prn_bd (x := x) h
  omega

theorem gets_size {L : List ByteArray} {cs : List Int} (hd : D32 L) (hL : ∀ x ∈ cs, 0 ≤ x ∧ x < L.length) : ∀ y ∈ gets L cs, y.size ≤ 100 := by
  intro y hy
  obtain ⟨x, hx, rfl⟩ := List.mem_map.1 hy
  have := hL x hx
  rw [hd _ (getB_mem (by omega))]; omega

theorem aboveP {β : Type} {n f c u k : Int} {L : List ByteArray} {K : ByteArray → Option β} (h : rt n f c u) (hk : 0 ≤ k) (hkl : k ≤ L.length) (hd : D32 L) : f82_1 20000 k n f c u L K = K (abv n f c u L k) := by
  have hl := chs_len f k (levels n f c u)
  have hf := h.2.1
  have hc : ∀ x ∈ chs f k (levels n f c u), 0 ≤ x ∧ x < L.length := fun x hx => by have := chs_lt h hk x hx; omega
  have hn : (gets L (chs f k (levels n f c u))).length ≤ 900 := by simp [gets]; omega
  simp only [f82_1, chs58]
  have := above82 (F := 20000) (n := n) (f := f) (c := c) (u := u) (K := fun x11 => f18_1 20000 x11 fun x12 => K x12) hc (by omega) _ 0 20000 [] rfl (by omega) (by simp; omega) rfl
  rw [show ((0 : Nat) : Int) = 0 from rfl] at this
  rw [this, List.nil_append, List.drop_zero, nodeP (by omega) hn (gets_size hd hc)]
  rfl

theorem aboveR {β : Type} {n f c u k : Int} {L : List ByteArray} {K : ByteArray → Option β} (h : rt n f c u) (hk : 0 ≤ k) (hkl : k ≤ L.length) (hd : D32 L) : f92_1 20000 n f c u k L K = K (abv n f c u L k) := by
  have hl := chs_len f k (levels n f c u)
  have hf := h.2.1
  have hc : ∀ x ∈ chs f k (levels n f c u), 0 ≤ x ∧ x < L.length := fun x hx => by have := chs_lt h hk x hx; omega
  have hn : (gets L (chs f k (levels n f c u))).length ≤ 900 := by simp [gets]; omega
  simp only [f92_1, chs59]
  have := above92 (F := 20000) (L := L) (K := fun x11 => f19_1 20000 x11 fun x12 => K x12) hc (by omega) _ 0 20000 [] rfl (by omega) (by simp; omega) rfl
  rw [show ((0 : Nat) : Int) = 0 from rfl] at this
  rw [this, List.nil_append, List.drop_zero, nodeR (by omega) hn (gets_size hd hc)]
  rfl

/-- Nodes above the leaves, one after another. -/
def bld (n f c u : Int) : Nat → List ByteArray → List ByteArray
  | 0, L => L
  | m + 1, L => bld n f c u m (L ++ [abv n f c u L (L.length : Int)])

theorem D32_app {L : List ByteArray} {x : ByteArray} (h : D32 L) (hx : x.size = 32) : D32 (L ++ [x]) := by
  intro y hy
  rcases List.mem_append.1 hy with hy | hy
  · exact h y hy
  · simp at hy; rw [hy]; exact hx

theorem bld_ok (n f c u : Int) : ∀ (m : Nat) (L : List ByteArray), D32 L → D32 (bld n f c u m L) ∧ (bld n f c u m L).length = L.length + m
  | 0, L, h => ⟨h, rfl⟩
  | m + 1, L, h => by
    obtain ⟨q1, q2⟩ := bld_ok n f c u m (L ++ [abv n f c u L (L.length : Int)]) (D32_app h (dig_size _))
    exact ⟨q1, by rw [bld, q2]; simp; omega⟩

theorem newNodes {β : Type} {n f c u : Int} {l : List ByteArray} {K : List ByteArray → Option β} (h : rt n f c u) : ∀ (m k : Nat) (L : List ByteArray), (L.length : Int) + m = nodes n f c u → m < k → D32 L →
    f30_1_l14 20000 l n f c u n f c u K k (L.length : Int) L = K (bld n f c u m L)
  | 0, k, L, hm, hk, hd => by
    obtain ⟨k, rfl⟩ : ∃ j, k = j + 1 := ⟨k - 1, by omega⟩
    simp only [f30_1_l14, root54, root, if_pos h]
    rw [cf (by omega)]; rfl
  | m + 1, k, L, hm, hk, hd => by
    obtain ⟨k, rfl⟩ : ∃ j, k = j + 1 := ⟨k - 1, by omega⟩
    have hn := nodes_ok n f c u
    simp only [f30_1_l14, root54, root, if_pos h]
    rw [ct (by omega), aboveP h (by omega) (by omega) hd, ct (by omega), w64 (by omega) (by omega), show ((L.length : Int) + 1) = ((L ++ [abv n f c u L (L.length : Int)]).length : Int) by simp]
    exact newNodes h m k _ (by simp; omega) (by omega) (D32_app hd (dig_size _))

theorem newNodesR {β : Type} {n f c u : Int} {l : List ByteArray} {K : List ByteArray → Option β} (h : rt n f c u) : ∀ (m k : Nat) (L : List ByteArray), (L.length : Int) + m = nodes n f c u → m < k → D32 L →
    f38_1_l14 20000 (nodes n f c u) l n f c u n f c u K k (L.length : Int) L = K (bld n f c u m L)
  | 0, k, L, hm, hk, hd => by
    obtain ⟨k, rfl⟩ : ∃ j, k = j + 1 := ⟨k - 1, by omega⟩
    simp only [f38_1_l14]
    rw [cf (by omega)]; rfl
  | m + 1, k, L, hm, hk, hd => by
    obtain ⟨k, rfl⟩ : ∃ j, k = j + 1 := ⟨k - 1, by omega⟩
    have hn := nodes_ok n f c u
    simp only [f38_1_l14]
    rw [ct (by omega), aboveR h (by omega) (by omega) hd, ct (by omega), w64 (by omega) (by omega), show ((L.length : Int) + 1) = ((L ++ [abv n f c u L (L.length : Int)]).length : Int) by simp]
    exact newNodesR h m k _ (by simp; omega) (by omega) (D32_app hd (dig_size _))

def bad64 (s : ByteArray) : Bool := !((s.size : Int) == 64)
def bad32 (s : ByteArray) : Bool := !((s.size : Int) == 32)

theorem any64 {β : Type} {F : Nat} {l : List ByteArray} {K0 : Int → Option β} {K1 : Option β} {K : Bool → Option β} (hl : l.length ≤ 10000) (h0 : ∀ i : Nat, K0 (i : Int) = K true) (h1 : K1 = K false) : ∀ (r : List ByteArray) (i k : Nat), l.drop i = r → i ≤ l.length → r.length < k →
    f122_2911_l2 F ((l.length : Nat) : Int) l K0 K1 k (i : Int) = K (r.any bad64)
  | [], i, k, hd, hi, hk => by
    obtain ⟨k, rfl⟩ : ∃ j, k = j + 1 := ⟨k - 1, by omega⟩
    have := nilB hd hi
    simp only [f122_2911_l2]
    rw [cf (by omega), h1]; rfl
  | x :: r, i, k, hd, hi, hk => by
    obtain ⟨k, rfl⟩ : ∃ j, k = j + 1 := ⟨k - 1, by omega⟩
    obtain ⟨d1, d2, d3⟩ := atB hd
    simp only [f122_2911_l2, f79_1, f80_1]
    rw [ct (by omega), ct (by omega), ct (by omega), d2, w64 (by omega) (by omega), show ((i : Int) + 1) = ((i + 1 : Nat) : Int) by omega, any64 hl h0 h1 r (i + 1) k d3 (by omega) (by simpa using hk), h0]
    simp only [List.any_cons, bad64]
    cases (x.size : Int) == 64 <;> rfl

theorem any32 {β : Type} {F : Nat} {l : List ByteArray} {K0 : Int → Option β} {K1 : Option β} {K : Bool → Option β} (hl : l.length ≤ 10000) (h0 : ∀ i : Nat, K0 (i : Int) = K true) (h1 : K1 = K false) : ∀ (r : List ByteArray) (i k : Nat), l.drop i = r → i ≤ l.length → r.length < k →
    f122_1421_l2 F ((l.length : Nat) : Int) l K0 K1 k (i : Int) = K (r.any bad32)
  | [], i, k, hd, hi, hk => by
    obtain ⟨k, rfl⟩ : ∃ j, k = j + 1 := ⟨k - 1, by omega⟩
    have := nilB hd hi
    simp only [f122_1421_l2]
    rw [cf (by omega), h1]; rfl
  | x :: r, i, k, hd, hi, hk => by
    obtain ⟨k, rfl⟩ : ∃ j, k = j + 1 := ⟨k - 1, by omega⟩
    obtain ⟨d1, d2, d3⟩ := atB hd
    simp only [f122_1421_l2, f87_1, f20_1]
    rw [ct (by omega), ct (by omega), ct (by omega), d2, w64 (by omega) (by omega), show ((i : Int) + 1) = ((i + 1 : Nat) : Int) by omega, any32 hl h0 h1 r (i + 1) k d3 (by omega) (by simpa using hk), h0]
    simp only [List.any_cons, bad32]
    cases (x.size : Int) == 32 <;> rfl

theorem contains64 {β : Type} {F : Nat} {l : List ByteArray} {K : Bool → Option β} (hl : l.length ≤ 10000) (hF : 10000 < F) : f78_2911 F l K = K (l.any bad64) := by
  simp only [f78_2911, f122_2911]
  exact any64 (F := F) (K0 := fun x5 => K (decide (x5 ≥ 0))) (K1 := K (decide ((-1 : Int) ≥ 0))) (K := K) hl (fun i => by simp) rfl l 0 F rfl (by omega) (by omega)

theorem contains32 {β : Type} {F : Nat} {l : List ByteArray} {K : Bool → Option β} (hl : l.length ≤ 10000) (hF : 10000 < F) : f78_1421 F l K = K (l.any bad32) := by
  simp only [f78_1421, f122_1421]
  exact any32 (F := F) (K0 := fun x5 => K (decide (x5 ≥ 0))) (K1 := K (decide ((-1 : Int) ≥ 0))) (K := K) hl (fun i => by simp) rfl l 0 F rfl (by omega) (by omega)

theorem leavesP {β : Type} {F : Nat} {n f c u : Int} {l : List ByteArray} {K : List ByteArray → Option β} (hF : 2000 ≤ F) (hl : l.length ≤ 10000) (h64 : ∀ x ∈ l, x.size = 64) : ∀ (r : List ByteArray) (i k : Nat) (acc : List ByteArray), l.drop i = r → i ≤ l.length → r.length < k → acc.length = i →
    f30_1_l9 F ((l.length : Nat) : Int) l n f c u n f c u K k (i : Int) acc = K (acc ++ r.map leafD)
  | [], i, k, acc, hd, hi, hk, ha => by
    obtain ⟨k, rfl⟩ : ∃ j, k = j + 1 := ⟨k - 1, by omega⟩
    have := nilB hd hi
    simp only [f30_1_l9]
    rw [cf (by omega)]; simp
  | x :: r, i, k, acc, hd, hi, hk, ha => by
    obtain ⟨k, rfl⟩ : ∃ j, k = j + 1 := ⟨k - 1, by omega⟩
    obtain ⟨d1, d2, d3⟩ := atB hd
    have hx := h64 x (by
      have : x ∈ l.drop i := by rw [hd]; simp
      exact List.mem_of_mem_drop this)
    simp only [f30_1_l9]
    rw [ct (by omega), ct (by omega), ct (by omega), d2, leafP hF (by omega), ct (by omega), w64 (by omega) (by omega), show ((i : Int) + 1) = ((i + 1 : Nat) : Int) by omega,
      leavesP hF hl h64 r (i + 1) k _ d3 (by omega) (by simpa using hk) (by simp; omega)]
    simp

theorem leavesR {β : Type} {F : Nat} {n f c u : Int} {l : List ByteArray} {K0 K1 : List ByteArray → Option β} {z : Option β} (h0 : ∀ x, K0 x = z) (hF : 2000 ≤ F) (hl : l.length ≤ 10000) : ∀ (r : List ByteArray) (i k : Nat) (acc : List ByteArray), l.drop i = r → i ≤ l.length → r.length < k → acc.length = i →
    f38_1_l7 F l n f c u n f c u K0 K1 k (i : Int) acc = cond (r.any bad64) z (K1 (acc ++ r.map leafD))
  | [], i, k, acc, hd, hi, hk, ha => by
    obtain ⟨k, rfl⟩ : ∃ j, k = j + 1 := ⟨k - 1, by omega⟩
    have := nilB hd hi
    simp only [f38_1_l7]
    rw [cf (by omega)]; simp
  | x :: r, i, k, acc, hd, hi, hk, ha => by
    obtain ⟨k, rfl⟩ : ∃ j, k = j + 1 := ⟨k - 1, by omega⟩
    obtain ⟨d1, d2, d3⟩ := atB hd
    simp only [f38_1_l7, f91_1]
    rw [ct (by omega), ct (by omega), ct (by omega), d2]
    by_cases hx : x.size = 64
    · have e : ((x.size : Int) == 64) = true := by simp; omega
      simp only [e, Bool.not_true, cond_false, List.any_cons, bad64, Bool.false_or]
      rw [ct (by omega), ct (by omega), leafR hF (by omega), ct (by omega), w64 (by omega) (by omega), show ((i : Int) + 1) = ((i + 1 : Nat) : Int) by omega,
        leavesR h0 hF hl r (i + 1) k _ d3 (by omega) (by simpa using hk) (by simp; omega)]
      simp [bad64]
    · have e : ((x.size : Int) == 64) = false := by simp; omega
      simp only [e, Bool.not_false, cond_true, List.any_cons, bad64, Bool.true_or, h0]

/-- A tree of sectors, or why there is none. -/
def newT (n f c u : Int) (l : List ByteArray) : Sum Int (List ByteArray) :=
  if rt n f c u then
    if (l.length : Int) = n then
      if l.any bad64 then .inl 4 else .inr (bld n f c u (nodes n f c u - n).toNat (l.map leafD))
    else .inl 8
  else .inl 12

def fromT (n f c u : Int) (l : List ByteArray) : Sum Int (List ByteArray) :=
  if rt n f c u then
    if (l.length : Int) = nodes n f c u then
      if l.any bad32 then .inl 4 else .inr l
    else .inl 8
  else .inl 12

def sel {β : Type} (K0 : Int → Option β) (K1 : List ByteArray → Option β) : Sum Int (List ByteArray) → Option β
  | .inl e => K0 e
  | .inr L => K1 L

theorem ok64 {l : List ByteArray} (h : l.any bad64 = false) : ∀ x ∈ l, x.size = 64 := by
  intro x hx
  have := List.any_eq_false.1 h x hx
  simp [bad64] at this
  omega

theorem D32_leaves (l : List ByteArray) : D32 (l.map leafD) := by
  intro y hy
  obtain ⟨x, hx, rfl⟩ := List.mem_map.1 hy
  exact dig_size _

theorem bne_f {a b : Int} (h : a = b) : (a != b) = false := by simp [h]
theorem bne_t {a b : Int} (h : a ≠ b) : (a != b) = true := by simp [h]

theorem newP {β : Type} {n f c u : Int} {l : List ByteArray} {K0 : Int → Option β} {K1 : List ByteArray → Option β} : f30_1 20000 n f c u l K0 K1 = sel K0 K1 (newT n f c u l) := by
  simp only [f30_1, right46, newT]
  by_cases h : rt n f c u
  · simp only [h, decide_true, Bool.not_true, cond_false, if_true]
    have h1 := h.1
    by_cases hl : (l.length : Int) = n
    · rw [bne_f hl, if_pos hl, cond_false, contains64 (by omega) (by omega)]
      cases ha : l.any bad64 with
      | true => rfl
      | false =>
        have hn := nodes_ok n f c u
        have hn2 := n_le h
        simp only [cond_false, Bool.false_eq_true, if_false, sel]
        have := leavesP (F := 20000) (n := n) (f := f) (c := c) (u := u) (K := fun x16 => f30_1_l14 20000 l n f c u n f c u (fun x30 => K1 x30) 20000 n x16) (by omega) (by omega) (ok64 ha) l 0 20000 [] rfl (by omega) (by omega) rfl
        rw [show ((0 : Nat) : Int) = 0 from rfl] at this
        rw [this, List.nil_append]
        have h2 := newNodes (l := l) (K := fun x30 => K1 x30) h (nodes n f c u - n).toNat 20000 (l.map leafD) (by simp; omega) (by omega) (D32_leaves l)
        rw [show (((l.map leafD).length : Nat) : Int) = n by simp; omega] at h2
        exact h2
    · rw [bne_t hl, if_neg hl]; rfl
  · simp only [h, decide_false, Bool.not_false, cond_true, if_false, sel]

theorem cond_ff {α : Sort _} {a b : α} : cond (!true) a b = b := rfl
theorem cond_tt {α : Sort _} {a b : α} : cond (!false) a b = a := rfl
theorem cond_t {α : Sort _} {a b : α} : cond true a b = a := rfl

theorem newR {β : Type} {n f c u : Int} {l : List ByteArray} {K0 : Int → Option β} {K1 : List ByteArray → Option β} : f38_1 20000 n f c u l K0 K1 = sel K0 K1 (newT n f c u l) := by
  rw [f38_1, right47, newT]
  by_cases h : rt n f c u
  · rw [decide_eq_true h, if_pos h, cond_ff]
    have h1 := h.1
    by_cases hl : (l.length : Int) = n
    · have hn := nodes_ok n f c u
      have hn2 := n_le h
      rw [bne_f hl, if_pos hl, cond_false]
      have := leavesR (F := 20000) (n := n) (f := f) (c := c) (u := u) (K0 := fun x15 => K0 4) (z := K0 4) (K1 := fun x16 => f89_1 20000 n f c u (fun x17 => f38_1_l14 20000 x17 l n f c u n f c u (fun x31 => K1 x31) 20000 n x16)) (fun _ => rfl) (by omega) (by omega) l 0 20000 [] rfl (by omega) (by omega) rfl
      rw [show ((0 : Nat) : Int) = 0 from rfl] at this
      rw [this, List.nil_append]
      cases ha : l.any bad64 with
      | true => rw [cond_t, if_pos rfl, sel]
      | false =>
        rw [cond_false, nodes51]
        have h2 := newNodesR (l := l) (K := fun x30 => K1 x30) h (nodes n f c u - n).toNat 20000 (l.map leafD) (by simp; omega) (by omega) (D32_leaves l)
        rw [show (((l.map leafD).length : Nat) : Int) = n by simp; omega] at h2
        rw [h2, if_neg (by simp), sel]
    · rw [bne_t hl, if_neg hl, cond_t, sel]
  · rw [decide_eq_false h, if_neg h, cond_tt, sel]

theorem cloneP {β : Type} {F : Nat} {l : List ByteArray} {K : List ByteArray → Option β} (hl : l.length ≤ 100000) : f88_1 F l K = K l := by
  simp only [f88_1, List.nil_append]
  by_cases h : 0 < l.length
  · rw [ct h, ct (by omega)]
  · have : l = [] := List.length_eq_zero_iff.1 (by omega)
    subst this
    rw [cf h, ct (by simp), amb_self]

theorem fromL {β : Type} {F : Nat} {n f c u : Int} {l : List ByteArray} {K0 K1 : List ByteArray → Option β} {z : Option β} (h0 : ∀ x, K0 x = z) (hl : l.length ≤ 20000) : ∀ (r : List ByteArray) (i k : Nat) (acc : List ByteArray), l.drop i = r → i ≤ l.length → r.length < k → acc.length = i →
    f35_1_l7 F l n f c u K0 K1 k (i : Int) acc = cond (r.any bad32) z (K1 (acc ++ r))
  | [], i, k, acc, hd, hi, hk, ha => by
    obtain ⟨k, rfl⟩ : ∃ j, k = j + 1 := ⟨k - 1, by omega⟩
    have := nilB hd hi
    simp only [f35_1_l7]
    rw [cf (by omega)]; simp
  | x :: r, i, k, acc, hd, hi, hk, ha => by
    obtain ⟨k, rfl⟩ : ∃ j, k = j + 1 := ⟨k - 1, by omega⟩
    obtain ⟨d1, d2, d3⟩ := atB hd
    simp only [f35_1_l7, f21_1]
    rw [ct (by omega), ct (by omega), ct (by omega), d2]
    by_cases hx : x.size = 32
    · have e : ((x.size : Int) == 32) = true := by simp; omega
      simp only [e, Bool.not_true, cond_false, List.any_cons, bad32, Bool.false_or]
      rw [ct (by omega), ct (by omega), ct (by omega), w64 (by omega) (by omega), show ((i : Int) + 1) = ((i + 1 : Nat) : Int) by omega,
        fromL h0 hl r (i + 1) k _ d3 (by omega) (by simpa using hk) (by simp; omega)]
      simp [bad32]
    · have e : ((x.size : Int) == 32) = false := by simp; omega
      simp only [e, Bool.not_false, cond_true, List.any_cons, bad32, Bool.true_or, h0]

theorem fromP {β : Type} {n f c u : Int} {l : List ByteArray} {K0 : Int → Option β} {K1 : List ByteArray → Option β} : f34_1 20000 n f c u l K0 K1 = sel K0 K1 (fromT n f c u l) := by
  simp only [f34_1, right46, nodes50, fromT]
  by_cases h : rt n f c u
  · have hn := nodes_up h
    simp only [h, decide_true, Bool.not_true, cond_false, if_true]
    by_cases hl : (l.length : Int) = nodes n f c u
    · rw [bne_f hl, if_pos hl, cond_false, contains32 (by omega) (by omega), cloneP (by omega)]
      cases ha : l.any bad32 <;> rfl
    · rw [bne_t hl, if_neg hl]; rfl
  · simp only [h, decide_false, Bool.not_false, cond_true, if_false, sel]

theorem fromR {β : Type} {n f c u : Int} {l : List ByteArray} {K0 : Int → Option β} {K1 : List ByteArray → Option β} : f35_1 20000 n f c u l K0 K1 = sel K0 K1 (fromT n f c u l) := by
  simp only [f35_1, right47, nodes51, fromT]
  by_cases h : rt n f c u
  · have hn := nodes_up h
    simp only [h, decide_true, Bool.not_true, cond_false, if_true]
    by_cases hl : (l.length : Int) = nodes n f c u
    · rw [bne_f hl, if_pos hl, cond_false]
      have := fromL (F := 20000) (n := n) (f := f) (c := c) (u := u) (K0 := fun _ => K0 4) (z := K0 4) (K1 := fun x12 => K1 x12) (fun _ => rfl) (by omega) l 0 20000 [] rfl (by omega) (by omega) rfl
      rw [show ((0 : Nat) : Int) = 0 from rfl] at this
      rw [this, List.nil_append]
      cases ha : l.any bad32 <;> rfl
    · rw [bne_t hl, if_neg hl]; rfl
  · simp only [h, decide_false, Bool.not_false, cond_true, if_false, sel]

theorem newT_ok {n f c u : Int} {l L : List ByteArray} (h : newT n f c u l = .inr L) : rt n f c u ∧ D32 L ∧ (L.length : Int) = nodes n f c u := by
  unfold newT at h
  split at h
  · rename_i hr
    split at h
    · rename_i hl
      split at h
      · cases h
      · have hn := n_le hr
        simp only [Sum.inr.injEq] at h
        subst h
        obtain ⟨q1, q2⟩ := bld_ok n f c u (nodes n f c u - n).toNat (l.map leafD) (D32_leaves l)
        exact ⟨hr, q1, by rw [q2]; simp; omega⟩
    · cases h
  · cases h

theorem ok32 {l : List ByteArray} (h : ¬ l.any bad32 = true) : D32 l := by
  intro x hx
  have := List.any_eq_false.1 (by simpa using h) x hx
  simp [bad32] at this
  omega

theorem fromT_ok {n f c u : Int} {l L : List ByteArray} (h : fromT n f c u l = .inr L) : rt n f c u ∧ D32 L ∧ (L.length : Int) = nodes n f c u := by
  unfold fromT at h
  split at h
  · rename_i hr
    split at h
    · rename_i hl
      split at h
      · cases h
      · rename_i hb
        simp only [Sum.inr.injEq] at h
        subst h
        exact ⟨hr, ok32 hb, hl⟩
    · cases h
  · cases h

end Go.Proofs.Ytjlolgpbidfmeaa.X
end

section
namespace Go.Proofs.Ytjlolgpbidfmeaa.X
open Go Go.Proofs.Ytjlolgpbidfmeaa.Ev Go.Proofs
set_option linter.unusedVariables false
/-! pentimentoref07.Ints -/
noncomputable def f37_1_l4 {β : Type} (F : Nat) (v2 : List Int) (v3 : List Int) (K0 : Option β) (K1 : Option β) : Nat → Int → Option β
  | 0, _ => none
  | k + 1, v1 => cond (decide (v1 < ((v2.length : Nat) : Int))) (cond (decide ((0 : Int) ≤ v1 ∧ v1 < ((v2.length : Nat) : Int))) (cond (decide (0 + v1.toNat < v2.length)) (cond (decide ((0 : Int) ≤ v1 ∧ v1 < ((v3.length : Nat) : Int))) (cond (decide (0 + v1.toNat < v3.length)) (cond ((v2.getD (0 + v1.toNat) 0) != (v3.getD (0 + v1.toNat) 0)) (K0) (f37_1_l4 F v2 v3 K0 K1 k (IntKind.i64.wrap (v1 + 1)))) none) none) none) none) (K1)
noncomputable def f37_1 {β : Type} (F : Nat) (a1 : List Int) (a2 : List Int) (K0 : Bool → Option β) : Option β := cond (((a1.length : Nat) : Int) != ((a2.length : Nat) : Int)) (K0 false) (f37_1_l4 F a1 a2 (K0 false) (K0 true) F 0)
def sh37_1 : Sh := ⟨[.lf (.full 0), .lf (.full 1)], [some ⟨none, [.seq (.int .i64) 0]⟩, some ⟨none, [.seq (.int .i64) 0]⟩]⟩
noncomputable def S37_1 (F : Nat) (o : Summ) : Summ := mkS sh37_1 (fun d K => f37_1 F d.2.1.2.1 d.2.2.1.2.1 (fun (y0 : Bool) => K [.lf (.bool y0)] [some ⟨d.2.1.1, [.seq (.int .i64) 0 d.2.1.2.1]⟩, some ⟨d.2.2.1.1, [.seq (.int .i64) 0 d.2.2.1.2.1]⟩])) o
noncomputable def code37 : Code := bodyOf Try.f37
noncomputable def b37_0 : Code := cB (cB (cR (cL (cR (cR (code37))))))
theorem scopes37 : scopesOf code37 = [] := by kernel_rfl
theorem loops37 : loopsOf code37 = [b37_0] := by kernel_rfl
theorem enter37 : ∀ args w, (callFunc 37 args).run Try.prog w = .ok (.enter 37 args) w := enter_of (fn := Try.f37) (by kernel_rfl) (by kernel_rfl) (by kernel_rfl)
noncomputable def T37_1 (F : Nat) : FuncId → Option Summ := tab []
def sh37_1_l4 : Sh := ⟨[.lf (.full 0), .lf (.full 1), .lf (.int .i64)], [some ⟨none, [.seq (.int .i64) 0]⟩, some ⟨none, [.seq (.int .i64) 0]⟩]⟩
noncomputable def G37_1_4 (F k : Nat) : LoopS := mkG sh37_1_l4 [0, 1, 5] (outT [(.exit 0, []), (.ret, [4])]) (fun d K => f37_1_l4 F d.2.1.2.1 d.2.2.1.2.1 (K .ret [.tv (.lf (.bool false))] [some ⟨d.2.1.1, [.seq (.int .i64) 0 d.2.1.2.1]⟩, some ⟨d.2.2.1.1, [.seq (.int .i64) 0 d.2.2.1.2.1]⟩]) (K (.exit 0) [] [some ⟨d.2.1.1, [.seq (.int .i64) 0 d.2.1.2.1]⟩, some ⟨d.2.2.1.1, [.seq (.int .i64) 0 d.2.2.1.2.1]⟩]) k d.1.2.2.1)
noncomputable def LT37_1 (F : Nat) : Nat → Option LoopS := ltab [(4, G37_1_4 F F)]
theorem L37_1_4g (F k : Nat)   (l4 : List Int → List Int → (Option Res) → (Option Res) → Nat → Int → Option Res) (X4 : LoopS) (d : sh37_1_l4.den) (K : KL) : (fun (v2 : List Int) (v3 : List Int) (K0 : (Option Res)) (K1 : (Option Res)) (k : Nat) (v1 : Int) => cond (decide (v1 < ((v2.length : Nat) : Int))) (cond (decide ((0 : Int) ≤ v1 ∧ v1 < ((v2.length : Nat) : Int))) (cond (decide (0 + v1.toNat < v2.length)) (cond (decide ((0 : Int) ≤ v1 ∧ v1 < ((v3.length : Nat) : Int))) (cond (decide (0 + v1.toNat < v3.length)) (cond ((v2.getD (0 + v1.toNat) 0) != (v3.getD (0 + v1.toNat) 0)) (K0) (l4 v2 v3 K0 K1 k (IntKind.i64.wrap (v1 + 1)))) none) none) none) none) (K1)) d.2.1.2.1 d.2.2.1.2.1 (K .ret [.tv (.lf (.bool false))] [some ⟨d.2.1.1, [.seq (.int .i64) 0 d.2.1.2.1]⟩, some ⟨d.2.2.1.1, [.seq (.int .i64) 0 d.2.2.1.2.1]⟩]) (K (.exit 0) [] [some ⟨d.2.1.1, [.seq (.int .i64) 0 d.2.1.2.1]⟩, some ⟨d.2.2.1.1, [.seq (.int .i64) 0 d.2.2.1.2.1]⟩]) k d.1.2.2.1 = roundOf Try.prog (tab []) 26 2 (ltab [(4, X4)]) (mkG sh37_1_l4 [0, 1, 5] (outT [(.exit 0, []), (.ret, [4])]) (fun d K => l4 d.2.1.2.1 d.2.2.1.2.1 (K .ret [.tv (.lf (.bool false))] [some ⟨d.2.1.1, [.seq (.int .i64) 0 d.2.1.2.1]⟩, some ⟨d.2.2.1.1, [.seq (.int .i64) 0 d.2.2.1.2.1]⟩]) (K (.exit 0) [] [some ⟨d.2.1.1, [.seq (.int .i64) 0 d.2.1.2.1]⟩, some ⟨d.2.2.1.1, [.seq (.int .i64) 0 d.2.2.1.2.1]⟩]) k d.1.2.2.1)) b37_0 (encT sh37_1_l4.vs d.1) (encH sh37_1_l4.h d.2) K := by kernel_rfl
theorem L37_1_4 (F : Nat) : LoopOK Try.prog (T37_1 F) 26 2 (LT37_1 F) (G37_1_4 F F) b37_0 :=
  loopOK_of (s := sh37_1_l4) (live := [0, 1, 5]) (out := (outT [(.exit 0, []), (.ret, [4])])) (fun k d K => f37_1_l4 F d.2.1.2.1 d.2.2.1.2.1 (K .ret [.tv (.lf (.bool false))] [some ⟨d.2.1.1, [.seq (.int .i64) 0 d.2.1.2.1]⟩, some ⟨d.2.2.1.1, [.seq (.int .i64) 0 d.2.2.1.2.1]⟩]) (K (.exit 0) [] [some ⟨d.2.1.1, [.seq (.int .i64) 0 d.2.1.2.1]⟩, some ⟨d.2.2.1.1, [.seq (.int .i64) 0 d.2.2.1.2.1]⟩]) k d.1.2.2.1) F (fun d K => by kernel_rfl)  (fun k d K => Eq.mp (by kernel_rfl) (L37_1_4g F k   (f37_1_l4 F) (G37_1_4 F F) d K))
theorem E37_1g (F : Nat)  (l4 : List Int → List Int → (Option Res) → (Option Res) → Nat → Int → Option Res)  (d : sh37_1.den) (K : KF) : evBody Try.prog (tab []) 26 2 (ltab [(4, mkG sh37_1_l4 [0, 1, 5] (outT [(.exit 0, []), (.ret, [4])]) (fun d K => l4 d.2.1.2.1 d.2.2.1.2.1 (K .ret [.tv (.lf (.bool false))] [some ⟨d.2.1.1, [.seq (.int .i64) 0 d.2.1.2.1]⟩, some ⟨d.2.2.1.1, [.seq (.int .i64) 0 d.2.2.1.2.1]⟩]) (K (.exit 0) [] [some ⟨d.2.1.1, [.seq (.int .i64) 0 d.2.1.2.1]⟩, some ⟨d.2.2.1.1, [.seq (.int .i64) 0 d.2.2.1.2.1]⟩]) F d.1.2.2.1))]) code37 Try.f37.results.toList (encT sh37_1.vs d.1) (encH sh37_1.h d.2) K = (fun (a1 : List Int) (a2 : List Int) (K0 : (Bool → Option Res)) => cond (((a1.length : Nat) : Int) != ((a2.length : Nat) : Int)) (K0 false) (l4 a1 a2 (K0 false) (K0 true) F 0)) d.2.1.2.1 d.2.2.1.2.1 (fun (y0 : Bool) => K [.lf (.bool y0)] [some ⟨d.2.1.1, [.seq (.int .i64) 0 d.2.1.2.1]⟩, some ⟨d.2.2.1.1, [.seq (.int .i64) 0 d.2.2.1.2.1]⟩]) := by kernel_rfl
theorem E37_1 (F : Nat) (d : sh37_1.den) (K : KF) : evBody Try.prog (T37_1 F) 26 2 (LT37_1 F) code37 Try.f37.results.toList (encT sh37_1.vs d.1) (encH sh37_1.h d.2) K = f37_1 F d.2.1.2.1 d.2.2.1.2.1 (fun (y0 : Bool) => K [.lf (.bool y0)] [some ⟨d.2.1.1, [.seq (.int .i64) 0 d.2.1.2.1]⟩, some ⟨d.2.2.1.1, [.seq (.int .i64) 0 d.2.2.1.2.1]⟩]) := Eq.mp (by kernel_rfl) (E37_1g F  (f37_1_l4 F)  d K)
theorem S37_1_ok (F : Nat) (o : Summ) (ho : SoundFn Try.prog 37 o) : SoundFn Try.prog 37 (S37_1 F o) :=
  soundFn_of (fn := Try.f37) (c := code37) (by kernel_rfl) tab_nil (by kernel_rfl) (by kernel_rfl) ho (by rw [loops37]; exact (loopsOK_cons (by kernel_rfl) (L37_1_4 F) loopsOK_nil)) (by rw [scopes37]; exact scopesOK_nil) (E37_1 F)
end Go.Proofs.Ytjlolgpbidfmeaa.X
end

section
/- Lists of numbers are compared; any seat. -/
namespace Go.Proofs.Ytjlolgpbidfmeaa.X
open Go Go.Proofs.Ytjlolgpbidfmeaa.Ev
set_option linter.unusedVariables false
theorem ints21l {β : Type} {F : Nat} {K0 K1 : Option β} {l : List Int} (hl : l.length ≤ 20000) : ∀ (r : List Int) (i k : Nat), l.drop i = r → i ≤ l.length → r.length < k → f37_1_l4 F l l K0 K1 k (i : Int) = K1
  | [], i, k, hd, hi, hk => by
    cases k with
    | zero => omega
    | succ k =>
      have : i = l.length := by
        have := congrArg List.length hd
        simp at this; omega
      subst this
      simp only [f37_1_l4]
      rw [cf (by omega)]
  | y :: r, i, k, hd, hi, hk => by
    cases k with
    | zero => omega
    | succ k =>
      obtain ⟨d1, d2, d3⟩ := at_drop hd
      have e : (y != y) = false := by simp
      simp only [f37_1_l4]
      rw [ct (by omega), ct (by omega), ct (by omega), ct (by omega), ct (by omega), d2, e, cond_false, w64 (by omega) (by omega), show ((i : Int) + 1) = ((i + 1 : Nat) : Int) by omega, ints21l hl r (i + 1) k d3 (by omega) (by simpa using hk)]

theorem ints21 {β : Type} {l : List Int} {K : Bool → Option β} (hl : l.length < 20000) : f37_1 20000 l l K = K true := by
  have := ints21l (F := 20000) (K0 := K false) (K1 := K true) (l := l) (by omega) l 0 20000 rfl (by omega) (by omega)
  simp only [f37_1, bne_self_eq_false, cond_false]
  exact this

end Go.Proofs.Ytjlolgpbidfmeaa.X
end

section
namespace Go.Proofs.Ytjlolgpbidfmeaa.X
open Go Go.Proofs.Ytjlolgpbidfmeaa.Ev Go.Proofs
set_option linter.unusedVariables false
/-! pentimentoref12.Texts -/
noncomputable def f41_1_l4 {β : Type} (F : Nat) (v2 : List ByteArray) (v3 : List ByteArray) (K0 : Option β) (K1 : Option β) : Nat → Int → Option β
  | 0, _ => none
  | k + 1, v1 => cond (decide (v1 < ((v2.length : Nat) : Int))) (cond (decide ((0 : Int) ≤ v1 ∧ v1 < ((v2.length : Nat) : Int))) (cond (decide (0 + v1.toNat < v2.length)) (cond (decide ((0 : Int) ≤ v1 ∧ v1 < ((v3.length : Nat) : Int))) (cond (decide (0 + v1.toNat < v3.length)) (cond (!((v2.getD (0 + v1.toNat) ByteArray.empty).toList == (v3.getD (0 + v1.toNat) ByteArray.empty).toList)) (K0) (f41_1_l4 F v2 v3 K0 K1 k (IntKind.i64.wrap (v1 + 1)))) none) none) none) none) (K1)
noncomputable def f41_1 {β : Type} (F : Nat) (a1 : List ByteArray) (a2 : List ByteArray) (K0 : Bool → Option β) : Option β := cond (((a1.length : Nat) : Int) != ((a2.length : Nat) : Int)) (K0 false) (f41_1_l4 F a1 a2 (K0 false) (K0 true) F 0)
def sh41_1 : Sh := ⟨[.lf (.full 0), .lf (.full 1)], [some ⟨none, [.seq .str 0]⟩, some ⟨none, [.seq .str 0]⟩]⟩
noncomputable def S41_1 (F : Nat) (o : Summ) : Summ := mkS sh41_1 (fun d K => f41_1 F d.2.1.2.1 d.2.2.1.2.1 (fun (y0 : Bool) => K [.lf (.bool y0)] [some ⟨d.2.1.1, [.seq .str 0 d.2.1.2.1]⟩, some ⟨d.2.2.1.1, [.seq .str 0 d.2.2.1.2.1]⟩])) o
noncomputable def code41 : Code := bodyOf Try.f41
noncomputable def b41_0 : Code := cB (cB (cR (cL (cR (cR (code41))))))
theorem scopes41 : scopesOf code41 = [] := by kernel_rfl
theorem loops41 : loopsOf code41 = [b41_0] := by kernel_rfl
theorem enter41 : ∀ args w, (callFunc 41 args).run Try.prog w = .ok (.enter 41 args) w := enter_of (fn := Try.f41) (by kernel_rfl) (by kernel_rfl) (by kernel_rfl)
noncomputable def T41_1 (F : Nat) : FuncId → Option Summ := tab []
def sh41_1_l4 : Sh := ⟨[.lf (.full 0), .lf (.full 1), .lf (.int .i64)], [some ⟨none, [.seq .str 0]⟩, some ⟨none, [.seq .str 0]⟩]⟩
noncomputable def G41_1_4 (F k : Nat) : LoopS := mkG sh41_1_l4 [0, 1, 5] (outT [(.exit 0, []), (.ret, [4])]) (fun d K => f41_1_l4 F d.2.1.2.1 d.2.2.1.2.1 (K .ret [.tv (.lf (.bool false))] [some ⟨d.2.1.1, [.seq .str 0 d.2.1.2.1]⟩, some ⟨d.2.2.1.1, [.seq .str 0 d.2.2.1.2.1]⟩]) (K (.exit 0) [] [some ⟨d.2.1.1, [.seq .str 0 d.2.1.2.1]⟩, some ⟨d.2.2.1.1, [.seq .str 0 d.2.2.1.2.1]⟩]) k d.1.2.2.1)
noncomputable def LT41_1 (F : Nat) : Nat → Option LoopS := ltab [(4, G41_1_4 F F)]
theorem L41_1_4g (F k : Nat)   (l4 : List ByteArray → List ByteArray → (Option Res) → (Option Res) → Nat → Int → Option Res) (X4 : LoopS) (d : sh41_1_l4.den) (K : KL) : (fun (v2 : List ByteArray) (v3 : List ByteArray) (K0 : (Option Res)) (K1 : (Option Res)) (k : Nat) (v1 : Int) => cond (decide (v1 < ((v2.length : Nat) : Int))) (cond (decide ((0 : Int) ≤ v1 ∧ v1 < ((v2.length : Nat) : Int))) (cond (decide (0 + v1.toNat < v2.length)) (cond (decide ((0 : Int) ≤ v1 ∧ v1 < ((v3.length : Nat) : Int))) (cond (decide (0 + v1.toNat < v3.length)) (cond (!((v2.getD (0 + v1.toNat) ByteArray.empty).toList == (v3.getD (0 + v1.toNat) ByteArray.empty).toList)) (K0) (l4 v2 v3 K0 K1 k (IntKind.i64.wrap (v1 + 1)))) none) none) none) none) (K1)) d.2.1.2.1 d.2.2.1.2.1 (K .ret [.tv (.lf (.bool false))] [some ⟨d.2.1.1, [.seq .str 0 d.2.1.2.1]⟩, some ⟨d.2.2.1.1, [.seq .str 0 d.2.2.1.2.1]⟩]) (K (.exit 0) [] [some ⟨d.2.1.1, [.seq .str 0 d.2.1.2.1]⟩, some ⟨d.2.2.1.1, [.seq .str 0 d.2.2.1.2.1]⟩]) k d.1.2.2.1 = roundOf Try.prog (tab []) 26 2 (ltab [(4, X4)]) (mkG sh41_1_l4 [0, 1, 5] (outT [(.exit 0, []), (.ret, [4])]) (fun d K => l4 d.2.1.2.1 d.2.2.1.2.1 (K .ret [.tv (.lf (.bool false))] [some ⟨d.2.1.1, [.seq .str 0 d.2.1.2.1]⟩, some ⟨d.2.2.1.1, [.seq .str 0 d.2.2.1.2.1]⟩]) (K (.exit 0) [] [some ⟨d.2.1.1, [.seq .str 0 d.2.1.2.1]⟩, some ⟨d.2.2.1.1, [.seq .str 0 d.2.2.1.2.1]⟩]) k d.1.2.2.1)) b41_0 (encT sh41_1_l4.vs d.1) (encH sh41_1_l4.h d.2) K := by kernel_rfl
theorem L41_1_4 (F : Nat) : LoopOK Try.prog (T41_1 F) 26 2 (LT41_1 F) (G41_1_4 F F) b41_0 :=
  loopOK_of (s := sh41_1_l4) (live := [0, 1, 5]) (out := (outT [(.exit 0, []), (.ret, [4])])) (fun k d K => f41_1_l4 F d.2.1.2.1 d.2.2.1.2.1 (K .ret [.tv (.lf (.bool false))] [some ⟨d.2.1.1, [.seq .str 0 d.2.1.2.1]⟩, some ⟨d.2.2.1.1, [.seq .str 0 d.2.2.1.2.1]⟩]) (K (.exit 0) [] [some ⟨d.2.1.1, [.seq .str 0 d.2.1.2.1]⟩, some ⟨d.2.2.1.1, [.seq .str 0 d.2.2.1.2.1]⟩]) k d.1.2.2.1) F (fun d K => by kernel_rfl)  (fun k d K => Eq.mp (by kernel_rfl) (L41_1_4g F k   (f41_1_l4 F) (G41_1_4 F F) d K))
theorem E41_1g (F : Nat)  (l4 : List ByteArray → List ByteArray → (Option Res) → (Option Res) → Nat → Int → Option Res)  (d : sh41_1.den) (K : KF) : evBody Try.prog (tab []) 26 2 (ltab [(4, mkG sh41_1_l4 [0, 1, 5] (outT [(.exit 0, []), (.ret, [4])]) (fun d K => l4 d.2.1.2.1 d.2.2.1.2.1 (K .ret [.tv (.lf (.bool false))] [some ⟨d.2.1.1, [.seq .str 0 d.2.1.2.1]⟩, some ⟨d.2.2.1.1, [.seq .str 0 d.2.2.1.2.1]⟩]) (K (.exit 0) [] [some ⟨d.2.1.1, [.seq .str 0 d.2.1.2.1]⟩, some ⟨d.2.2.1.1, [.seq .str 0 d.2.2.1.2.1]⟩]) F d.1.2.2.1))]) code41 Try.f41.results.toList (encT sh41_1.vs d.1) (encH sh41_1.h d.2) K = (fun (a1 : List ByteArray) (a2 : List ByteArray) (K0 : (Bool → Option Res)) => cond (((a1.length : Nat) : Int) != ((a2.length : Nat) : Int)) (K0 false) (l4 a1 a2 (K0 false) (K0 true) F 0)) d.2.1.2.1 d.2.2.1.2.1 (fun (y0 : Bool) => K [.lf (.bool y0)] [some ⟨d.2.1.1, [.seq .str 0 d.2.1.2.1]⟩, some ⟨d.2.2.1.1, [.seq .str 0 d.2.2.1.2.1]⟩]) := by kernel_rfl
theorem E41_1 (F : Nat) (d : sh41_1.den) (K : KF) : evBody Try.prog (T41_1 F) 26 2 (LT41_1 F) code41 Try.f41.results.toList (encT sh41_1.vs d.1) (encH sh41_1.h d.2) K = f41_1 F d.2.1.2.1 d.2.2.1.2.1 (fun (y0 : Bool) => K [.lf (.bool y0)] [some ⟨d.2.1.1, [.seq .str 0 d.2.1.2.1]⟩, some ⟨d.2.2.1.1, [.seq .str 0 d.2.2.1.2.1]⟩]) := Eq.mp (by kernel_rfl) (E41_1g F  (f41_1_l4 F)  d K)
theorem S41_1_ok (F : Nat) (o : Summ) (ho : SoundFn Try.prog 41 o) : SoundFn Try.prog 41 (S41_1 F o) :=
  soundFn_of (fn := Try.f41) (c := code41) (by kernel_rfl) tab_nil (by kernel_rfl) (by kernel_rfl) ho (by rw [loops41]; exact (loopsOK_cons (by kernel_rfl) (L41_1_4 F) loopsOK_nil)) (by rw [scopes41]; exact scopesOK_nil) (E41_1 F)
end Go.Proofs.Ytjlolgpbidfmeaa.X
end

section
namespace Go.Proofs.Ytjlolgpbidfmeaa.X
open Go Go.Proofs.Ytjlolgpbidfmeaa.Ev Go.Proofs
set_option linter.unusedVariables false
/-! pentimentoref12.Tree).Digest -/
noncomputable def f93_1 {β : Type} (F : Nat) (a1 : Int) (a2 : Int) (a3 : Int) (a4 : Int) (a5 : Int) (a6 : List ByteArray) (K0 : ByteArray → Int → Option β) : Option β := cond (decide (a1 < 0)) (K0 ByteArray.empty 3) (cond (decide (a1 ≥ ((a6.length : Nat) : Int))) (K0 ByteArray.empty 3) (cond (decide ((0 : Int) ≤ a1 ∧ a1 < ((a6.length : Nat) : Int))) (cond (decide (0 + a1.toNat < a6.length)) (K0 (a6.getD (0 + a1.toNat) ByteArray.empty) 0) none) none))
def sh93_1 : Sh := ⟨[.lf (.ptr 0 0), .lf (.int .i64)], [some ⟨none, [.int .i64, .int .i64, .int .i64, .int .i64, .full 1]⟩, some ⟨none, [.seq .str 0]⟩]⟩
noncomputable def S93_1 (F : Nat) (o : Summ) : Summ := mkS sh93_1 (fun d K => f93_1 F d.1.2.1 d.2.1.2.1 d.2.1.2.2.1 d.2.1.2.2.2.1 d.2.1.2.2.2.2.1 d.2.2.1.2.1 (fun (y0 : ByteArray) (y1 : Int) => K [.lf (.str y0), .lf (.int .i64 y1)] [some ⟨d.2.1.1, [.int .i64 d.2.1.2.1, .int .i64 d.2.1.2.2.1, .int .i64 d.2.1.2.2.2.1, .int .i64 d.2.1.2.2.2.2.1, .full 1]⟩, some ⟨d.2.2.1.1, [.seq .str 0 d.2.2.1.2.1]⟩])) o
noncomputable def code93 : Code := bodyOf Try.f93
theorem scopes93 : scopesOf code93 = [] := by kernel_rfl
theorem loops93 : loopsOf code93 = [] := by kernel_rfl
theorem enter93 : ∀ args w, (callFunc 93 args).run Try.prog w = .ok (.enter 93 args) w := enter_of (fn := Try.f93) (by kernel_rfl) (by kernel_rfl) (by kernel_rfl)
noncomputable def T93_1 (F : Nat) : FuncId → Option Summ := tab []
noncomputable def LT93_1 (F : Nat) : Nat → Option LoopS := ltab []
theorem E93_1g (F : Nat)    (d : sh93_1.den) (K : KF) : evBody Try.prog (tab []) 24 2 (ltab []) code93 Try.f93.results.toList (encT sh93_1.vs d.1) (encH sh93_1.h d.2) K = (fun (a1 : Int) (a2 : Int) (a3 : Int) (a4 : Int) (a5 : Int) (a6 : List ByteArray) (K0 : (ByteArray → Int → Option Res)) => cond (decide (a1 < 0)) (K0 ByteArray.empty 3) (cond (decide (a1 ≥ ((a6.length : Nat) : Int))) (K0 ByteArray.empty 3) (cond (decide ((0 : Int) ≤ a1 ∧ a1 < ((a6.length : Nat) : Int))) (cond (decide (0 + a1.toNat < a6.length)) (K0 (a6.getD (0 + a1.toNat) ByteArray.empty) 0) none) none))) d.1.2.1 d.2.1.2.1 d.2.1.2.2.1 d.2.1.2.2.2.1 d.2.1.2.2.2.2.1 d.2.2.1.2.1 (fun (y0 : ByteArray) (y1 : Int) => K [.lf (.str y0), .lf (.int .i64 y1)] [some ⟨d.2.1.1, [.int .i64 d.2.1.2.1, .int .i64 d.2.1.2.2.1, .int .i64 d.2.1.2.2.2.1, .int .i64 d.2.1.2.2.2.2.1, .full 1]⟩, some ⟨d.2.2.1.1, [.seq .str 0 d.2.2.1.2.1]⟩]) := by kernel_rfl
theorem E93_1 (F : Nat) (d : sh93_1.den) (K : KF) : evBody Try.prog (T93_1 F) 24 2 (LT93_1 F) code93 Try.f93.results.toList (encT sh93_1.vs d.1) (encH sh93_1.h d.2) K = f93_1 F d.1.2.1 d.2.1.2.1 d.2.1.2.2.1 d.2.1.2.2.2.1 d.2.1.2.2.2.2.1 d.2.2.1.2.1 (fun (y0 : ByteArray) (y1 : Int) => K [.lf (.str y0), .lf (.int .i64 y1)] [some ⟨d.2.1.1, [.int .i64 d.2.1.2.1, .int .i64 d.2.1.2.2.1, .int .i64 d.2.1.2.2.2.1, .int .i64 d.2.1.2.2.2.2.1, .full 1]⟩, some ⟨d.2.2.1.1, [.seq .str 0 d.2.2.1.2.1]⟩]) := Eq.mp (by kernel_rfl) (E93_1g F    d K)
theorem S93_1_ok (F : Nat) (o : Summ) (ho : SoundFn Try.prog 93 o) : SoundFn Try.prog 93 (S93_1 F o) :=
  soundFn_of (fn := Try.f93) (c := code93) (by kernel_rfl) tab_nil (by kernel_rfl) (by kernel_rfl) ho (by rw [loops93]; exact loopsOK_nil) (by rw [scopes93]; exact scopesOK_nil) (E93_1 F)
end Go.Proofs.Ytjlolgpbidfmeaa.X
end

section
namespace Go.Proofs.Ytjlolgpbidfmeaa.X
open Go Go.Proofs.Ytjlolgpbidfmeaa.Ev Go.Proofs
set_option linter.unusedVariables false
/-! pentimentoref12.Tree).Root -/
noncomputable def f94_1 {β : Type} (F : Nat) (a1 : Int) (a2 : Int) (a3 : Int) (a4 : Int) (a5 : List ByteArray) (K0 : ByteArray → Option β) : Option β := cond (decide ((0 : Int) ≤ IntKind.i64.wrap (((a5.length : Nat) : Int) - 1) ∧ IntKind.i64.wrap (((a5.length : Nat) : Int) - 1) < ((a5.length : Nat) : Int))) (cond (decide (0 + ((IntKind.i64.wrap (((a5.length : Nat) : Int) - 1)).toNat) < a5.length)) (K0 (a5.getD (0 + ((IntKind.i64.wrap (((a5.length : Nat) : Int) - 1)).toNat)) ByteArray.empty)) none) none
def sh94_1 : Sh := ⟨[.lf (.ptr 0 0)], [some ⟨none, [.int .i64, .int .i64, .int .i64, .int .i64, .full 1]⟩, some ⟨none, [.seq .str 0]⟩]⟩
noncomputable def S94_1 (F : Nat) (o : Summ) : Summ := mkS sh94_1 (fun d K => f94_1 F d.2.1.2.1 d.2.1.2.2.1 d.2.1.2.2.2.1 d.2.1.2.2.2.2.1 d.2.2.1.2.1 (fun (y0 : ByteArray) => K [.lf (.str y0)] [some ⟨d.2.1.1, [.int .i64 d.2.1.2.1, .int .i64 d.2.1.2.2.1, .int .i64 d.2.1.2.2.2.1, .int .i64 d.2.1.2.2.2.2.1, .full 1]⟩, some ⟨d.2.2.1.1, [.seq .str 0 d.2.2.1.2.1]⟩])) o
noncomputable def code94 : Code := bodyOf Try.f94
theorem scopes94 : scopesOf code94 = [] := by kernel_rfl
theorem loops94 : loopsOf code94 = [] := by kernel_rfl
theorem enter94 : ∀ args w, (callFunc 94 args).run Try.prog w = .ok (.enter 94 args) w := enter_of (fn := Try.f94) (by kernel_rfl) (by kernel_rfl) (by kernel_rfl)
noncomputable def T94_1 (F : Nat) : FuncId → Option Summ := tab []
noncomputable def LT94_1 (F : Nat) : Nat → Option LoopS := ltab []
theorem E94_1g (F : Nat)    (d : sh94_1.den) (K : KF) : evBody Try.prog (tab []) 15 2 (ltab []) code94 Try.f94.results.toList (encT sh94_1.vs d.1) (encH sh94_1.h d.2) K = (fun (a1 : Int) (a2 : Int) (a3 : Int) (a4 : Int) (a5 : List ByteArray) (K0 : (ByteArray → Option Res)) => cond (decide ((0 : Int) ≤ IntKind.i64.wrap (((a5.length : Nat) : Int) - 1) ∧ IntKind.i64.wrap (((a5.length : Nat) : Int) - 1) < ((a5.length : Nat) : Int))) (cond (decide (0 + ((IntKind.i64.wrap (((a5.length : Nat) : Int) - 1)).toNat) < a5.length)) (K0 (a5.getD (0 + ((IntKind.i64.wrap (((a5.length : Nat) : Int) - 1)).toNat)) ByteArray.empty)) none) none) d.2.1.2.1 d.2.1.2.2.1 d.2.1.2.2.2.1 d.2.1.2.2.2.2.1 d.2.2.1.2.1 (fun (y0 : ByteArray) => K [.lf (.str y0)] [some ⟨d.2.1.1, [.int .i64 d.2.1.2.1, .int .i64 d.2.1.2.2.1, .int .i64 d.2.1.2.2.2.1, .int .i64 d.2.1.2.2.2.2.1, .full 1]⟩, some ⟨d.2.2.1.1, [.seq .str 0 d.2.2.1.2.1]⟩]) := by kernel_rfl
theorem E94_1 (F : Nat) (d : sh94_1.den) (K : KF) : evBody Try.prog (T94_1 F) 15 2 (LT94_1 F) code94 Try.f94.results.toList (encT sh94_1.vs d.1) (encH sh94_1.h d.2) K = f94_1 F d.2.1.2.1 d.2.1.2.2.1 d.2.1.2.2.2.1 d.2.1.2.2.2.2.1 d.2.2.1.2.1 (fun (y0 : ByteArray) => K [.lf (.str y0)] [some ⟨d.2.1.1, [.int .i64 d.2.1.2.1, .int .i64 d.2.1.2.2.1, .int .i64 d.2.1.2.2.2.1, .int .i64 d.2.1.2.2.2.2.1, .full 1]⟩, some ⟨d.2.2.1.1, [.seq .str 0 d.2.2.1.2.1]⟩]) := Eq.mp (by kernel_rfl) (E94_1g F    d K)
theorem S94_1_ok (F : Nat) (o : Summ) (ho : SoundFn Try.prog 94 o) : SoundFn Try.prog 94 (S94_1 F o) :=
  soundFn_of (fn := Try.f94) (c := code94) (by kernel_rfl) tab_nil (by kernel_rfl) (by kernel_rfl) ho (by rw [loops94]; exact loopsOK_nil) (by rw [scopes94]; exact scopesOK_nil) (E94_1 F)
end Go.Proofs.Ytjlolgpbidfmeaa.X
end

section
namespace Go.Proofs.Ytjlolgpbidfmeaa.X
open Go Go.Proofs.Ytjlolgpbidfmeaa.Ev Go.Proofs
set_option linter.unusedVariables false
/-! pentimentoref12.Tree).Bad -/
noncomputable def f95_1_l3 {β : Type} (F : Nat) (v2 : Int) (v3 : Int) (v4 : Int) (v5 : Int) (v6 : List ByteArray) (K0 : List Int → Option β) : Nat → Int → List Int → Option β
  | 0, _, _ => none
  | k + 1, v1, v7 => cond (decide (v1 < ((v6.length : Nat) : Int))) (cond (decide ((0 : Int) ≤ v1 ∧ v1 < ((v6.length : Nat) : Int))) (cond (decide (0 + v1.toNat < v6.length)) (f92_1 F v2 v3 v4 v5 v1 v6 (fun x8 => cond (!((v6.getD (0 + v1.toNat) ByteArray.empty).toList == x8.toList)) (cond (decide ((v7.length + 1) * 8 ≤ 70368744177664)) (f95_1_l3 F v2 v3 v4 v5 v6 K0 k (IntKind.i64.wrap (v1 + 1)) (v7 ++ [v1])) none) (f95_1_l3 F v2 v3 v4 v5 v6 K0 k (IntKind.i64.wrap (v1 + 1)) v7)) ) none) none) (K0 v7)
noncomputable def f95_1 {β : Type} (F : Nat) (a1 : Int) (a2 : Int) (a3 : Int) (a4 : Int) (a5 : List ByteArray) (K0 : List Int → Option β) : Option β := f95_1_l3 F a1 a2 a3 a4 a5 (fun x9 => K0 x9) F a1 []
def sh95_1 : Sh := ⟨[.lf (.ptr 0 0)], [some ⟨none, [.int .i64, .int .i64, .int .i64, .int .i64, .full 1]⟩, some ⟨none, [.seq .str 0]⟩]⟩
noncomputable def S95_1 (F : Nat) (o : Summ) : Summ := mkS sh95_1 (fun d K => f95_1 F d.2.1.2.1 d.2.1.2.2.1 d.2.1.2.2.2.1 d.2.1.2.2.2.2.1 d.2.2.1.2.1 (fun (y5 : List Int) => K [.lf (.full 2)] [some ⟨d.2.1.1, [.int .i64 d.2.1.2.1, .int .i64 d.2.1.2.2.1, .int .i64 d.2.1.2.2.2.1, .int .i64 d.2.1.2.2.2.2.1, .full 1]⟩, some ⟨d.2.2.1.1, [.seq .str 0 d.2.2.1.2.1]⟩, some ⟨false, [.seq (.int .i64) 0 y5]⟩])) o
noncomputable def code95 : Code := bodyOf Try.f95
noncomputable def b95_0 : Code := cB (cB (cR (cL (cR (cR (code95))))))
theorem scopes95 : scopesOf code95 = [] := by kernel_rfl
theorem loops95 : loopsOf code95 = [b95_0] := by kernel_rfl
theorem enter95 : ∀ args w, (callFunc 95 args).run Try.prog w = .ok (.enter 95 args) w := enter_of (fn := Try.f95) (by kernel_rfl) (by kernel_rfl) (by kernel_rfl)
noncomputable def T95_1 (F : Nat) : FuncId → Option Summ := tab [(92, (S92_1 F noS))]
def sh95_1_l3 : Sh := ⟨[.lf (.ptr 0 0), .lf (.full 2), .lf (.int .i64)], [some ⟨none, [.int .i64, .int .i64, .int .i64, .int .i64, .full 1]⟩, some ⟨none, [.seq .str 0]⟩, some ⟨some false, [.seq (.int .i64) 0]⟩]⟩
noncomputable def G95_1_3 (F k : Nat) : LoopS := mkG sh95_1_l3 [0, 3, 4] (outT [(.exit 0, [3])]) (fun d K => f95_1_l3 F d.2.1.2.1 d.2.1.2.2.1 d.2.1.2.2.2.1 d.2.1.2.2.2.2.1 d.2.2.1.2.1 (fun (y5 : List Int) => K (.exit 0) [.tv (.lf (.full 2))] [some ⟨d.2.1.1, [.int .i64 d.2.1.2.1, .int .i64 d.2.1.2.2.1, .int .i64 d.2.1.2.2.2.1, .int .i64 d.2.1.2.2.2.2.1, .full 1]⟩, some ⟨d.2.2.1.1, [.seq .str 0 d.2.2.1.2.1]⟩, some ⟨false, [.seq (.int .i64) 0 y5]⟩]) k d.1.2.2.1 d.2.2.2.1.2.1)
noncomputable def LT95_1 (F : Nat) : Nat → Option LoopS := ltab [(3, G95_1_3 F F)]
theorem L95_1_3g (F k : Nat) (c92_1 : Int → Int → Int → Int → Int → List ByteArray → (ByteArray → Option Res) → Option Res)  (l3 : Int → Int → Int → Int → List ByteArray → (List Int → Option Res) → Nat → Int → List Int → Option Res) (X3 : LoopS) (d : sh95_1_l3.den) (K : KL) : (fun (v2 : Int) (v3 : Int) (v4 : Int) (v5 : Int) (v6 : List ByteArray) (K0 : (List Int → Option Res)) (k : Nat) (v1 : Int) (v7 : List Int) => cond (decide (v1 < ((v6.length : Nat) : Int))) (cond (decide ((0 : Int) ≤ v1 ∧ v1 < ((v6.length : Nat) : Int))) (cond (decide (0 + v1.toNat < v6.length)) (c92_1 v2 v3 v4 v5 v1 v6 (fun x8 => cond (!((v6.getD (0 + v1.toNat) ByteArray.empty).toList == x8.toList)) (cond (decide ((v7.length + 1) * 8 ≤ 70368744177664)) (l3 v2 v3 v4 v5 v6 K0 k (IntKind.i64.wrap (v1 + 1)) (v7 ++ [v1])) none) (l3 v2 v3 v4 v5 v6 K0 k (IntKind.i64.wrap (v1 + 1)) v7)) ) none) none) (K0 v7)) d.2.1.2.1 d.2.1.2.2.1 d.2.1.2.2.2.1 d.2.1.2.2.2.2.1 d.2.2.1.2.1 (fun (y5 : List Int) => K (.exit 0) [.tv (.lf (.full 2))] [some ⟨d.2.1.1, [.int .i64 d.2.1.2.1, .int .i64 d.2.1.2.2.1, .int .i64 d.2.1.2.2.2.1, .int .i64 d.2.1.2.2.2.2.1, .full 1]⟩, some ⟨d.2.2.1.1, [.seq .str 0 d.2.2.1.2.1]⟩, some ⟨false, [.seq (.int .i64) 0 y5]⟩]) k d.1.2.2.1 d.2.2.2.1.2.1 = roundOf Try.prog (tab [(92, (mkS sh92_1 (fun d K => c92_1 d.1.1.1 d.1.1.2.1 d.1.1.2.2.1 d.1.1.2.2.2.1 d.1.2.2.1 d.2.1.2.1 (fun (y0 : ByteArray) => K [.lf (.str y0)] [some ⟨d.2.1.1, [.seq .str 0 d.2.1.2.1]⟩])) noS))]) 42 2 (ltab [(3, X3)]) (mkG sh95_1_l3 [0, 3, 4] (outT [(.exit 0, [3])]) (fun d K => l3 d.2.1.2.1 d.2.1.2.2.1 d.2.1.2.2.2.1 d.2.1.2.2.2.2.1 d.2.2.1.2.1 (fun (y5 : List Int) => K (.exit 0) [.tv (.lf (.full 2))] [some ⟨d.2.1.1, [.int .i64 d.2.1.2.1, .int .i64 d.2.1.2.2.1, .int .i64 d.2.1.2.2.2.1, .int .i64 d.2.1.2.2.2.2.1, .full 1]⟩, some ⟨d.2.2.1.1, [.seq .str 0 d.2.2.1.2.1]⟩, some ⟨false, [.seq (.int .i64) 0 y5]⟩]) k d.1.2.2.1 d.2.2.2.1.2.1)) b95_0 (encT sh95_1_l3.vs d.1) (encH sh95_1_l3.h d.2) K := by kernel_rfl
theorem L95_1_3 (F : Nat) : LoopOK Try.prog (T95_1 F) 42 2 (LT95_1 F) (G95_1_3 F F) b95_0 :=
  loopOK_of (s := sh95_1_l3) (live := [0, 3, 4]) (out := (outT [(.exit 0, [3])])) (fun k d K => f95_1_l3 F d.2.1.2.1 d.2.1.2.2.1 d.2.1.2.2.2.1 d.2.1.2.2.2.2.1 d.2.2.1.2.1 (fun (y5 : List Int) => K (.exit 0) [.tv (.lf (.full 2))] [some ⟨d.2.1.1, [.int .i64 d.2.1.2.1, .int .i64 d.2.1.2.2.1, .int .i64 d.2.1.2.2.2.1, .int .i64 d.2.1.2.2.2.2.1, .full 1]⟩, some ⟨d.2.2.1.1, [.seq .str 0 d.2.2.1.2.1]⟩, some ⟨false, [.seq (.int .i64) 0 y5]⟩]) k d.1.2.2.1 d.2.2.2.1.2.1) F (fun d K => by kernel_rfl)  (fun k d K => Eq.mp (by kernel_rfl) (L95_1_3g F k (f92_1 F)  (f95_1_l3 F) (G95_1_3 F F) d K))
theorem E95_1g (F : Nat) (c92_1 : Int → Int → Int → Int → Int → List ByteArray → (ByteArray → Option Res) → Option Res) (l3 : Int → Int → Int → Int → List ByteArray → (List Int → Option Res) → Nat → Int → List Int → Option Res)  (d : sh95_1.den) (K : KF) : evBody Try.prog (tab [(92, (mkS sh92_1 (fun d K => c92_1 d.1.1.1 d.1.1.2.1 d.1.1.2.2.1 d.1.1.2.2.2.1 d.1.2.2.1 d.2.1.2.1 (fun (y0 : ByteArray) => K [.lf (.str y0)] [some ⟨d.2.1.1, [.seq .str 0 d.2.1.2.1]⟩])) noS))]) 42 2 (ltab [(3, mkG sh95_1_l3 [0, 3, 4] (outT [(.exit 0, [3])]) (fun d K => l3 d.2.1.2.1 d.2.1.2.2.1 d.2.1.2.2.2.1 d.2.1.2.2.2.2.1 d.2.2.1.2.1 (fun (y5 : List Int) => K (.exit 0) [.tv (.lf (.full 2))] [some ⟨d.2.1.1, [.int .i64 d.2.1.2.1, .int .i64 d.2.1.2.2.1, .int .i64 d.2.1.2.2.2.1, .int .i64 d.2.1.2.2.2.2.1, .full 1]⟩, some ⟨d.2.2.1.1, [.seq .str 0 d.2.2.1.2.1]⟩, some ⟨false, [.seq (.int .i64) 0 y5]⟩]) F d.1.2.2.1 d.2.2.2.1.2.1))]) code95 Try.f95.results.toList (encT sh95_1.vs d.1) (encH sh95_1.h d.2) K = (fun (a1 : Int) (a2 : Int) (a3 : Int) (a4 : Int) (a5 : List ByteArray) (K0 : (List Int → Option Res)) => l3 a1 a2 a3 a4 a5 (fun x9 => K0 x9) F a1 []) d.2.1.2.1 d.2.1.2.2.1 d.2.1.2.2.2.1 d.2.1.2.2.2.2.1 d.2.2.1.2.1 (fun (y5 : List Int) => K [.lf (.full 2)] [some ⟨d.2.1.1, [.int .i64 d.2.1.2.1, .int .i64 d.2.1.2.2.1, .int .i64 d.2.1.2.2.2.1, .int .i64 d.2.1.2.2.2.2.1, .full 1]⟩, some ⟨d.2.2.1.1, [.seq .str 0 d.2.2.1.2.1]⟩, some ⟨false, [.seq (.int .i64) 0 y5]⟩]) := by kernel_rfl
theorem E95_1 (F : Nat) (d : sh95_1.den) (K : KF) : evBody Try.prog (T95_1 F) 42 2 (LT95_1 F) code95 Try.f95.results.toList (encT sh95_1.vs d.1) (encH sh95_1.h d.2) K = f95_1 F d.2.1.2.1 d.2.1.2.2.1 d.2.1.2.2.2.1 d.2.1.2.2.2.2.1 d.2.2.1.2.1 (fun (y5 : List Int) => K [.lf (.full 2)] [some ⟨d.2.1.1, [.int .i64 d.2.1.2.1, .int .i64 d.2.1.2.2.1, .int .i64 d.2.1.2.2.2.1, .int .i64 d.2.1.2.2.2.2.1, .full 1]⟩, some ⟨d.2.2.1.1, [.seq .str 0 d.2.2.1.2.1]⟩, some ⟨false, [.seq (.int .i64) 0 y5]⟩]) := Eq.mp (by kernel_rfl) (E95_1g F (f92_1 F) (f95_1_l3 F)  d K)
theorem S95_1_ok (F : Nat) (o : Summ) (ho : SoundFn Try.prog 95 o) : SoundFn Try.prog 95 (S95_1 F o) :=
  soundFn_of (fn := Try.f95) (c := code95) (by kernel_rfl) (tab_cons (S92_1_ok F _ (noS_sound enter92)) tab_nil) (by kernel_rfl) (by kernel_rfl) ho (by rw [loops95]; exact (loopsOK_cons (by kernel_rfl) (L95_1_3 F) loopsOK_nil)) (by rw [scopes95]; exact scopesOK_nil) (E95_1 F)
end Go.Proofs.Ytjlolgpbidfmeaa.X
end

section
namespace Go.Proofs.Ytjlolgpbidfmeaa.X
open Go Go.Proofs.Ytjlolgpbidfmeaa.Ev Go.Proofs
set_option linter.unusedVariables false
/-! pentimentolaw12.same -/
noncomputable def f39_1 {β : Type} (F : Nat) (a1 : Int) (a2 : Int) (a3 : Int) (a4 : Int) (a5 : Int) (a6 : List ByteArray) (a7 : Int) (a8 : Int) (a9 : Int) (a10 : Int) (a11 : List ByteArray) (K0 : Bool → Option β) : Option β := f44_1 F a1 a2 a3 a4 a5 a6 (fun x1 x2 => f93_1 F a1 a7 a8 a9 a10 a11 (fun x3 x4 => f45_1 F a2 a3 a4 a5 a6 (cond ((a2 == a7) && ((a3 == a8) && ((a4 == a9) && (a5 == a10)))) (f46_1 F a2 a3 a4 a5 a6 (fun x5 => f94_1 F a7 a8 a9 a10 a11 (fun x6 => cond (x5.toList == x6.toList) (f42_1 F a2 a3 a4 a5 a6 (fun x7 => f41_1 F x7 a11 (fun x8 => cond x8 (cond (x1.toList == x3.toList) (cond (x2 == x4) (f43_1 F a2 a3 a4 a5 a6 (fun x9 => f95_1 F a7 a8 a9 a10 a11 (fun x10 => f37_1 F x9 x10 (fun x11 => K0 x11) ) ) ) (K0 false)) (K0 false)) (K0 false)) ) ) (K0 false)) ) ) (K0 false)) ) ) 
def sh39_1 : Sh := ⟨[.lf (.ptr 0 0), .lf (.ptr 2 0), .lf (.int .i64)], [some ⟨none, [.int .i64, .int .i64, .int .i64, .int .i64, .full 1]⟩, some ⟨none, [.seq .str 0]⟩, some ⟨none, [.int .i64, .int .i64, .int .i64, .int .i64, .full 3]⟩, some ⟨none, [.seq .str 0]⟩]⟩
noncomputable def S39_1 (F : Nat) (o : Summ) : Summ := mkS sh39_1 (fun d K => f39_1 F d.1.2.2.1 d.2.1.2.1 d.2.1.2.2.1 d.2.1.2.2.2.1 d.2.1.2.2.2.2.1 d.2.2.1.2.1 d.2.2.2.1.2.1 d.2.2.2.1.2.2.1 d.2.2.2.1.2.2.2.1 d.2.2.2.1.2.2.2.2.1 d.2.2.2.2.1.2.1 (fun (y0 : Bool) => K [.lf (.bool y0)] [some ⟨d.2.1.1, [.int .i64 d.2.1.2.1, .int .i64 d.2.1.2.2.1, .int .i64 d.2.1.2.2.2.1, .int .i64 d.2.1.2.2.2.2.1, .full 1]⟩, some ⟨d.2.2.1.1, [.seq .str 0 d.2.2.1.2.1]⟩, some ⟨d.2.2.2.1.1, [.int .i64 d.2.2.2.1.2.1, .int .i64 d.2.2.2.1.2.2.1, .int .i64 d.2.2.2.1.2.2.2.1, .int .i64 d.2.2.2.1.2.2.2.2.1, .full 3]⟩, some ⟨d.2.2.2.2.1.1, [.seq .str 0 d.2.2.2.2.1.2.1]⟩])) o
noncomputable def code39 : Code := bodyOf Try.f39
theorem scopes39 : scopesOf code39 = [] := by kernel_rfl
theorem loops39 : loopsOf code39 = [] := by kernel_rfl
theorem enter39 : ∀ args w, (callFunc 39 args).run Try.prog w = .ok (.enter 39 args) w := enter_of (fn := Try.f39) (by kernel_rfl) (by kernel_rfl) (by kernel_rfl)
noncomputable def T39_1 (F : Nat) : FuncId → Option Summ := tab [(37, (S37_1 F noS)), (41, (S41_1 F noS)), (42, (S42_1 F noS)), (43, (S43_1 F noS)), (44, (S44_1 F noS)), (45, (S45_1 F noS)), (46, (S46_1 F noS)), (93, (S93_1 F noS)), (94, (S94_1 F noS)), (95, (S95_1 F noS))]
noncomputable def LT39_1 (F : Nat) : Nat → Option LoopS := ltab []
theorem E39_1g (F : Nat) (c37_1 : List Int → List Int → (Bool → Option Res) → Option Res) (c41_1 : List ByteArray → List ByteArray → (Bool → Option Res) → Option Res) (c42_1 : Int → Int → Int → Int → List ByteArray → (List ByteArray → Option Res) → Option Res) (c43_1 : Int → Int → Int → Int → List ByteArray → (List Int → Option Res) → Option Res) (c44_1 : Int → Int → Int → Int → Int → List ByteArray → (ByteArray → Int → Option Res) → Option Res) (c45_1 : Int → Int → Int → Int → List ByteArray → (Option Res) → Option Res) (c46_1 : Int → Int → Int → Int → List ByteArray → (ByteArray → Option Res) → Option Res) (c93_1 : Int → Int → Int → Int → Int → List ByteArray → (ByteArray → Int → Option Res) → Option Res) (c94_1 : Int → Int → Int → Int → List ByteArray → (ByteArray → Option Res) → Option Res) (c95_1 : Int → Int → Int → Int → List ByteArray → (List Int → Option Res) → Option Res)   (d : sh39_1.den) (K : KF) : evBody Try.prog (tab [(37, (mkS sh37_1 (fun d K => c37_1 d.2.1.2.1 d.2.2.1.2.1 (fun (y0 : Bool) => K [.lf (.bool y0)] [some ⟨d.2.1.1, [.seq (.int .i64) 0 d.2.1.2.1]⟩, some ⟨d.2.2.1.1, [.seq (.int .i64) 0 d.2.2.1.2.1]⟩])) noS)), (41, (mkS sh41_1 (fun d K => c41_1 d.2.1.2.1 d.2.2.1.2.1 (fun (y0 : Bool) => K [.lf (.bool y0)] [some ⟨d.2.1.1, [.seq .str 0 d.2.1.2.1]⟩, some ⟨d.2.2.1.1, [.seq .str 0 d.2.2.1.2.1]⟩])) noS)), (42, (mkS sh42_1 (fun d K => c42_1 d.2.1.2.1 d.2.1.2.2.1 d.2.1.2.2.2.1 d.2.1.2.2.2.2.1 d.2.2.1.2.1 (fun (y5 : List ByteArray) => K [.lf (.full 2)] [some ⟨d.2.1.1, [.int .i64 d.2.1.2.1, .int .i64 d.2.1.2.2.1, .int .i64 d.2.1.2.2.2.1, .int .i64 d.2.1.2.2.2.2.1, .full 1]⟩, some ⟨d.2.2.1.1, [.seq .str 0 d.2.2.1.2.1]⟩, some ⟨false, [.seq .str 0 y5]⟩])) noS)), (43, (mkS sh43_1 (fun d K => c43_1 d.2.1.2.1 d.2.1.2.2.1 d.2.1.2.2.2.1 d.2.1.2.2.2.2.1 d.2.2.1.2.1 (fun (y5 : List Int) => K [.lf (.full 2)] [some ⟨d.2.1.1, [.int .i64 d.2.1.2.1, .int .i64 d.2.1.2.2.1, .int .i64 d.2.1.2.2.2.1, .int .i64 d.2.1.2.2.2.2.1, .full 1]⟩, some ⟨d.2.2.1.1, [.seq .str 0 d.2.2.1.2.1]⟩, some ⟨false, [.seq (.int .i64) 0 y5]⟩])) noS)), (44, (mkS sh44_1 (fun d K => c44_1 d.1.2.1 d.2.1.2.1 d.2.1.2.2.1 d.2.1.2.2.2.1 d.2.1.2.2.2.2.1 d.2.2.1.2.1 (fun (y0 : ByteArray) (y1 : Int) => K [.lf (.str y0), .lf (.int .i64 y1)] [some ⟨d.2.1.1, [.int .i64 d.2.1.2.1, .int .i64 d.2.1.2.2.1, .int .i64 d.2.1.2.2.2.1, .int .i64 d.2.1.2.2.2.2.1, .full 1]⟩, some ⟨d.2.2.1.1, [.seq .str 0 d.2.2.1.2.1]⟩])) noS)), (45, (mkS sh45_1 (fun d K => c45_1 d.2.1.2.1 d.2.1.2.2.1 d.2.1.2.2.2.1 d.2.1.2.2.2.2.1 d.2.2.1.2.1 (K [.agg [.int .i64 d.2.1.2.1, .int .i64 d.2.1.2.2.1, .int .i64 d.2.1.2.2.2.1, .int .i64 d.2.1.2.2.2.2.1]] [some ⟨d.2.1.1, [.int .i64 d.2.1.2.1, .int .i64 d.2.1.2.2.1, .int .i64 d.2.1.2.2.2.1, .int .i64 d.2.1.2.2.2.2.1, .full 1]⟩, some ⟨d.2.2.1.1, [.seq .str 0 d.2.2.1.2.1]⟩])) noS)), (46, (mkS sh46_1 (fun d K => c46_1 d.2.1.2.1 d.2.1.2.2.1 d.2.1.2.2.2.1 d.2.1.2.2.2.2.1 d.2.2.1.2.1 (fun (y0 : ByteArray) => K [.lf (.str y0)] [some ⟨d.2.1.1, [.int .i64 d.2.1.2.1, .int .i64 d.2.1.2.2.1, .int .i64 d.2.1.2.2.2.1, .int .i64 d.2.1.2.2.2.2.1, .full 1]⟩, some ⟨d.2.2.1.1, [.seq .str 0 d.2.2.1.2.1]⟩])) noS)), (93, (mkS sh93_1 (fun d K => c93_1 d.1.2.1 d.2.1.2.1 d.2.1.2.2.1 d.2.1.2.2.2.1 d.2.1.2.2.2.2.1 d.2.2.1.2.1 (fun (y0 : ByteArray) (y1 : Int) => K [.lf (.str y0), .lf (.int .i64 y1)] [some ⟨d.2.1.1, [.int .i64 d.2.1.2.1, .int .i64 d.2.1.2.2.1, .int .i64 d.2.1.2.2.2.1, .int .i64 d.2.1.2.2.2.2.1, .full 1]⟩, some ⟨d.2.2.1.1, [.seq .str 0 d.2.2.1.2.1]⟩])) noS)), (94, (mkS sh94_1 (fun d K => c94_1 d.2.1.2.1 d.2.1.2.2.1 d.2.1.2.2.2.1 d.2.1.2.2.2.2.1 d.2.2.1.2.1 (fun (y0 : ByteArray) => K [.lf (.str y0)] [some ⟨d.2.1.1, [.int .i64 d.2.1.2.1, .int .i64 d.2.1.2.2.1, .int .i64 d.2.1.2.2.2.1, .int .i64 d.2.1.2.2.2.2.1, .full 1]⟩, some ⟨d.2.2.1.1, [.seq .str 0 d.2.2.1.2.1]⟩])) noS)), (95, (mkS sh95_1 (fun d K => c95_1 d.2.1.2.1 d.2.1.2.2.1 d.2.1.2.2.2.1 d.2.1.2.2.2.2.1 d.2.2.1.2.1 (fun (y5 : List Int) => K [.lf (.full 2)] [some ⟨d.2.1.1, [.int .i64 d.2.1.2.1, .int .i64 d.2.1.2.2.1, .int .i64 d.2.1.2.2.2.1, .int .i64 d.2.1.2.2.2.2.1, .full 1]⟩, some ⟨d.2.2.1.1, [.seq .str 0 d.2.2.1.2.1]⟩, some ⟨false, [.seq (.int .i64) 0 y5]⟩])) noS))]) 63 4 (ltab []) code39 Try.f39.results.toList (encT sh39_1.vs d.1) (encH sh39_1.h d.2) K = (fun (a1 : Int) (a2 : Int) (a3 : Int) (a4 : Int) (a5 : Int) (a6 : List ByteArray) (a7 : Int) (a8 : Int) (a9 : Int) (a10 : Int) (a11 : List ByteArray) (K0 : (Bool → Option Res)) => c44_1 a1 a2 a3 a4 a5 a6 (fun x1 x2 => c93_1 a1 a7 a8 a9 a10 a11 (fun x3 x4 => c45_1 a2 a3 a4 a5 a6 (cond ((a2 == a7) && ((a3 == a8) && ((a4 == a9) && (a5 == a10)))) (c46_1 a2 a3 a4 a5 a6 (fun x5 => c94_1 a7 a8 a9 a10 a11 (fun x6 => cond (x5.toList == x6.toList) (c42_1 a2 a3 a4 a5 a6 (fun x7 => c41_1 x7 a11 (fun x8 => cond x8 (cond (x1.toList == x3.toList) (cond (x2 == x4) (c43_1 a2 a3 a4 a5 a6 (fun x9 => c95_1 a7 a8 a9 a10 a11 (fun x10 => c37_1 x9 x10 (fun x11 => K0 x11) ) ) ) (K0 false)) (K0 false)) (K0 false)) ) ) (K0 false)) ) ) (K0 false)) ) ) ) d.1.2.2.1 d.2.1.2.1 d.2.1.2.2.1 d.2.1.2.2.2.1 d.2.1.2.2.2.2.1 d.2.2.1.2.1 d.2.2.2.1.2.1 d.2.2.2.1.2.2.1 d.2.2.2.1.2.2.2.1 d.2.2.2.1.2.2.2.2.1 d.2.2.2.2.1.2.1 (fun (y0 : Bool) => K [.lf (.bool y0)] [some ⟨d.2.1.1, [.int .i64 d.2.1.2.1, .int .i64 d.2.1.2.2.1, .int .i64 d.2.1.2.2.2.1, .int .i64 d.2.1.2.2.2.2.1, .full 1]⟩, some ⟨d.2.2.1.1, [.seq .str 0 d.2.2.1.2.1]⟩, some ⟨d.2.2.2.1.1, [.int .i64 d.2.2.2.1.2.1, .int .i64 d.2.2.2.1.2.2.1, .int .i64 d.2.2.2.1.2.2.2.1, .int .i64 d.2.2.2.1.2.2.2.2.1, .full 3]⟩, some ⟨d.2.2.2.2.1.1, [.seq .str 0 d.2.2.2.2.1.2.1]⟩]) := by kernel_rfl
theorem E39_1 (F : Nat) (d : sh39_1.den) (K : KF) : evBody Try.prog (T39_1 F) 63 4 (LT39_1 F) code39 Try.f39.results.toList (encT sh39_1.vs d.1) (encH sh39_1.h d.2) K = f39_1 F d.1.2.2.1 d.2.1.2.1 d.2.1.2.2.1 d.2.1.2.2.2.1 d.2.1.2.2.2.2.1 d.2.2.1.2.1 d.2.2.2.1.2.1 d.2.2.2.1.2.2.1 d.2.2.2.1.2.2.2.1 d.2.2.2.1.2.2.2.2.1 d.2.2.2.2.1.2.1 (fun (y0 : Bool) => K [.lf (.bool y0)] [some ⟨d.2.1.1, [.int .i64 d.2.1.2.1, .int .i64 d.2.1.2.2.1, .int .i64 d.2.1.2.2.2.1, .int .i64 d.2.1.2.2.2.2.1, .full 1]⟩, some ⟨d.2.2.1.1, [.seq .str 0 d.2.2.1.2.1]⟩, some ⟨d.2.2.2.1.1, [.int .i64 d.2.2.2.1.2.1, .int .i64 d.2.2.2.1.2.2.1, .int .i64 d.2.2.2.1.2.2.2.1, .int .i64 d.2.2.2.1.2.2.2.2.1, .full 3]⟩, some ⟨d.2.2.2.2.1.1, [.seq .str 0 d.2.2.2.2.1.2.1]⟩]) := Eq.mp (by kernel_rfl) (E39_1g F (f37_1 F) (f41_1 F) (f42_1 F) (f43_1 F) (f44_1 F) (f45_1 F) (f46_1 F) (f93_1 F) (f94_1 F) (f95_1 F)   d K)
theorem S39_1_ok (F : Nat) (o : Summ) (ho : SoundFn Try.prog 39 o) : SoundFn Try.prog 39 (S39_1 F o) :=
  soundFn_of (fn := Try.f39) (c := code39) (by kernel_rfl) (tab_cons (S37_1_ok F _ (noS_sound enter37)) (tab_cons (S41_1_ok F _ (noS_sound enter41)) (tab_cons (S42_1_ok F _ (noS_sound enter42)) (tab_cons (S43_1_ok F _ (noS_sound enter43)) (tab_cons (S44_1_ok F _ (noS_sound enter44)) (tab_cons (S45_1_ok F _ (noS_sound enter45)) (tab_cons (S46_1_ok F _ (noS_sound enter46)) (tab_cons (S93_1_ok F _ (noS_sound enter93)) (tab_cons (S94_1_ok F _ (noS_sound enter94)) (tab_cons (S95_1_ok F _ (noS_sound enter95)) tab_nil)))))))))) (by kernel_rfl) (by kernel_rfl) ho (by rw [loops39]; exact loopsOK_nil) (by rw [scopes39]; exact scopesOK_nil) (E39_1 F)
end Go.Proofs.Ytjlolgpbidfmeaa.X
end

section
/- Trees: that one of the code is one of the document; what must come of fixed calls. -/
namespace Go.Proofs.Ytjlolgpbidfmeaa.X
open Go Go.Proofs.Ytjlolgpbidfmeaa.Ev
set_option linter.unusedVariables false

theorem textsL {β : Type} {F : Nat} {l : List ByteArray} {K0 K1 : Option β} (hl : l.length ≤ 10000) : ∀ (r : List ByteArray) (i k : Nat), l.drop i = r → i ≤ l.length → r.length < k →
    f41_1_l4 F l l K0 K1 k (i : Int) = K1
  | [], i, k, hd, hi, hk => by
    obtain ⟨k, rfl⟩ : ∃ j, k = j + 1 := ⟨k - 1, by omega⟩
    have := nilB hd hi
    rw [f41_1_l4, cf (by omega)]
  | x :: r, i, k, hd, hi, hk => by
    obtain ⟨k, rfl⟩ : ∃ j, k = j + 1 := ⟨k - 1, by omega⟩
    obtain ⟨d1, d2, d3⟩ := atB hd
    rw [f41_1_l4, ct (by omega), ct (by omega), ct (by omega), ct (by omega), ct (by omega), d2, beq_self_eq_true, cond_ff, w64 (by omega) (by omega), show ((i : Int) + 1) = ((i + 1 : Nat) : Int) by omega]
    exact textsL hl r (i + 1) k d3 (by omega) (by simpa using hk)

theorem texts {β : Type} {F : Nat} {l : List ByteArray} {K : Bool → Option β} (hl : l.length ≤ 10000) (hF : 10000 < F) : f41_1 F l l K = K true := by
  rw [f41_1, bne_f rfl, cond_false]
  exact textsL hl l 0 F rfl (by omega) (by omega)

def badN (n f c u : Int) (L : List ByteArray) : Nat → Nat → List Int → List Int
  | 0, _, acc => acc
  | m + 1, k, acc => badN n f c u L m (k + 1) (if !((L.getD k ByteArray.empty).toList == (abv n f c u L (k : Int)).toList) then acc ++ [(k : Int)] else acc)

theorem badN_len (n f c u : Int) (L : List ByteArray) : ∀ (m k : Nat) (acc : List Int), (badN n f c u L m k acc).length ≤ acc.length + m
  | 0, k, acc => by simp [badN]
  | m + 1, k, acc => by
    have := badN_len n f c u L m (k + 1) (if !((L.getD k ByteArray.empty).toList == (abv n f c u L (k : Int)).toList) then acc ++ [(k : Int)] else acc)
    simp only [badN]
    split at this <;> split <;> simp_all <;> omega

theorem badP {β : Type} {n f c u : Int} {L : List ByteArray} {K : List Int → Option β} (h : rt n f c u) (hd : D32 L) (hl : L.length ≤ 1000) : ∀ (m i k : Nat) (acc : List Int), i + m = L.length → m < k → acc.length ≤ i →
    f43_1_l5 20000 n f c u L K k (i : Int) acc = K (badN n f c u L m i acc)
  | 0, i, k, acc, hi, hk, ha => by
    obtain ⟨k, rfl⟩ : ∃ j, k = j + 1 := ⟨k - 1, by omega⟩
    rw [f43_1_l5, cf (by omega)]; rfl
  | m + 1, i, k, acc, hi, hk, ha => by
    obtain ⟨k, rfl⟩ : ∃ j, k = j + 1 := ⟨k - 1, by omega⟩
    rw [f43_1_l5, ct (by omega), ct (by omega), ct (by omega), aboveP h (by omega) (by omega) hd, show 0 + (i : Int).toNat = i by omega, w64 (by omega) (by omega), show ((i : Int) + 1) = ((i + 1 : Nat) : Int) by omega, ct (by omega), badN]
    cases hq : ((L.getD i ByteArray.empty).toList == (abv n f c u L (i : Int)).toList) with
    | true => exact badP h hd hl m (i + 1) k _ (by omega) (by omega) (by omega)
    | false => exact badP h hd hl m (i + 1) k _ (by omega) (by omega) (by simp; omega)

theorem badR {β : Type} {n f c u : Int} {L : List ByteArray} {K : List Int → Option β} (h : rt n f c u) (hd : D32 L) (hl : L.length ≤ 1000) : ∀ (m i k : Nat) (acc : List Int), i + m = L.length → m < k → acc.length ≤ i →
    f95_1_l3 20000 n f c u L K k (i : Int) acc = K (badN n f c u L m i acc)
  | 0, i, k, acc, hi, hk, ha => by
    obtain ⟨k, rfl⟩ : ∃ j, k = j + 1 := ⟨k - 1, by omega⟩
    rw [f95_1_l3, cf (by omega)]; rfl
  | m + 1, i, k, acc, hi, hk, ha => by
    obtain ⟨k, rfl⟩ : ∃ j, k = j + 1 := ⟨k - 1, by omega⟩
    rw [f95_1_l3, ct (by omega), ct (by omega), ct (by omega), aboveR h (by omega) (by omega) hd, show 0 + (i : Int).toNat = i by omega, w64 (by omega) (by omega), show ((i : Int) + 1) = ((i + 1 : Nat) : Int) by omega, ct (by omega), badN]
    cases hq : ((L.getD i ByteArray.empty).toList == (abv n f c u L (i : Int)).toList) with
    | true => exact badR h hd hl m (i + 1) k _ (by omega) (by omega) (by omega)
    | false => exact badR h hd hl m (i + 1) k _ (by omega) (by omega) (by simp; omega)

/-- A node's digest, or why there is none: the code's and the document's. -/
theorem digestPR {β : Type} (F : Nat) (node n f c u : Int) (L : List ByteArray) : ∃ (x : ByteArray) (e : Int), ∀ K : ByteArray → Int → Option β, f44_1 F node n f c u L K = K x e ∧ f93_1 F node n f c u L K = K x e := by
  by_cases h1 : node < 0
  · exact ⟨_, _, fun K => ⟨by rw [f44_1, ct h1], by rw [f93_1, ct h1]⟩⟩
  · by_cases h2 : node ≥ ((L.length : Nat) : Int)
    · exact ⟨_, _, fun K => ⟨by rw [f44_1, cf h1, ct h2], by rw [f93_1, cf h1, ct h2]⟩⟩
    · exact ⟨_, _, fun K => ⟨by rw [f44_1, cf h1, cf h2, ct (by omega), ct (by omega)], by rw [f93_1, cf h1, cf h2, ct (by omega), ct (by omega)]⟩⟩

theorem rootP {β : Type} {F : Nat} {n f c u : Int} {L : List ByteArray} {K : ByteArray → Option β} (h0 : 0 < L.length) (h1 : L.length ≤ 1000) : f46_1 F n f c u L K = K (L.getD (L.length - 1) ByteArray.empty) := by
  rw [f46_1, w64 (by omega) (by omega), ct (by omega), ct (by omega), show 0 + ((L.length : Int) - 1).toNat = L.length - 1 by omega]
theorem rootR {β : Type} {F : Nat} {n f c u : Int} {L : List ByteArray} {K : ByteArray → Option β} (h0 : 0 < L.length) (h1 : L.length ≤ 1000) : f94_1 F n f c u L K = K (L.getD (L.length - 1) ByteArray.empty) := by
  rw [f94_1, w64 (by omega) (by omega), ct (by omega), ct (by omega), show 0 + ((L.length : Int) - 1).toNat = L.length - 1 by omega]

theorem same39 {β : Type} {node n f c u : Int} {L : List ByteArray} {K : Bool → Option β} (h : rt n f c u) (hd : D32 L) (hl : (L.length : Int) = nodes n f c u) : f39_1 20000 node n f c u L n f c u L K = K true := by
  have hn := nodes_up h
  have hn1 := nodes_ok n f c u
  have hn2 := n_le h
  have h1 := h.1
  obtain ⟨x, e, hx⟩ := digestPR (β := β) 20000 node n f c u L
  have hb := badN_len n f c u L (L.length - n.toNat) n.toNat []
  have eP := fun (K : List Int → Option β) => badP (K := K) h hd (by omega) (L.length - n.toNat) n.toNat 20000 [] (by omega) (by omega) (by simp)
  have eR := fun (K : List Int → Option β) => badR (K := K) h hd (by omega) (L.length - n.toNat) n.toNat 20000 [] (by omega) (by omega) (by simp)
  rw [show ((n.toNat : Nat) : Int) = n by omega] at eP eR
  rw [f39_1, (hx _).1, (hx _).2, f45_1]
  simp only [beq_self_eq_true, Bool.and_self]
  rw [cond_t, rootP (by omega) (by omega), rootR (by omega) (by omega), beq_self_eq_true, cond_t, f42_1, cloneP (by omega), texts (by omega) (by omega), cond_t, cond_t, cond_t, f43_1, eP, f95_1, eR, ints21 (by simp at hb; omega)]

def fill (v : Int) : ByteArray := ofInts (List.replicate 64 v)

theorem fillL {β : Type} {F : Nat} {v : Int} {K : List Int → Option β} : ∀ (m i k : Nat), i + m = 64 → m < k → f76_1_l3 F v K k (i : Int) (List.replicate i v) = K (List.replicate 64 v)
  | 0, i, k, hi, hk => by
    obtain ⟨k, rfl⟩ : ∃ j, k = j + 1 := ⟨k - 1, by omega⟩
    rw [f76_1_l3, cf (by omega), show i = 64 by omega]
  | m + 1, i, k, hi, hk => by
    obtain ⟨k, rfl⟩ : ∃ j, k = j + 1 := ⟨k - 1, by omega⟩
    rw [f76_1_l3, ct (by omega), ct (by simp; omega), w64 (by omega) (by omega), show ((i : Int) + 1) = ((i + 1 : Nat) : Int) by omega, ← List.replicate_succ']
    exact fillL m (i + 1) k (by omega) (by omega)

theorem fill76 {β : Type} {F : Nat} {v : Int} {K : ByteArray → Option β} (hF : 1000 ≤ F) : f76_1 F v K = K (fill v) := by
  rw [f76_1]
  exact fillL (K := fun x => K (ofInts x)) 64 0 F (by omega) (by omega)

theorem fill_size (v : Int) : (fill v).size = 64 := by simp [fill, ofInts_size]

theorem zero75 {β : Type} {F : Nat} {K : ByteArray → Option β} (hF : 1000 ≤ F) : f75_1 F K = K (fill 0) := by
  rw [f75_1, fill76 hF]

theorem levels22 : levels 2 2 0 1 = [2, 1] := by kernel_rfl
theorem nodes22 : nodes 2 2 0 1 = 3 := by rw [nodes, levels22]; rfl
theorem rt22 : rt 2 2 0 1 := by unfold rt; omega

theorem new22 : newT 2 2 0 1 [fill 0, fill 1] = .inr [leafD (fill 0), leafD (fill 1), nodeD [leafD (fill 0), leafD (fill 1)]] := by
  have h1 : [fill 0, fill 1].any bad64 = false := by simp [bad64, fill_size]
  unfold newT
  rw [if_pos rt22, if_pos (by rfl), nodes22, h1]
  simp only [Bool.false_eq_true, if_false]
  show Sum.inr (bld 2 2 0 1 1 [leafD (fill 0), leafD (fill 1)]) = _
  unfold bld bld abv
  rw [levels22]
  rfl

theorem known28 {β : Type} {K : Bool → Option β} : f28_1 20000 K = K true := by
  have hs0 := fill_size 0
  have hs1 := fill_size 1
  rw [f28_1, zero75 (by omega), leafR (by omega) (by omega), fill76 (by omega), leafR (by omega) (by omega), zero75 (by omega), fill76 (by omega), newP, new22, sel,
    f47_1, cloneP (by simp), f31_1, bne_f rfl, cond_false, cond_false, root54, root, if_pos rt22, nodes22]
  rw [ct (by simp), ct (by simp), ct (by simp), ct (by simp), beq_self_eq_true, cond_ff]
  generalize hL : [leafD (fill 0), leafD (fill 1), nodeD [leafD (fill 0), leafD (fill 1)]] = L
  have hlen : L.length = 3 := by rw [← hL]; rfl
  obtain ⟨F, hF⟩ : ∃ F, (20000 : Nat) = F + 1 := ⟨19999, rfl⟩
  have step : ∀ (K0 : Int → List Int → List Int → Option β), f31_1_l1000000 20000 2 2 0 1 L 2 2 0 1 L K0 20000 1 [] [3 - 1] = K0 1 [] [3 - 1] := by
    intro K0
    rw [hF, f31_1_l1000000]
    rfl
  rw [step, rootP (by omega) (by omega), hlen, nodeR (by omega) (by simp) (by simp [leafD, dig_size]), f42_1, cloneP (by omega), hlen]
  rw [show L.getD (3 - 1) ByteArray.empty = nodeD [leafD (fill 0), leafD (fill 1)] by rw [← hL]; rfl, beq_self_eq_true]
  rfl

end Go.Proofs.Ytjlolgpbidfmeaa.X
end

section
/- The law: a tree that is not there. -/
namespace Go.Proofs.Ytjlolgpbidfmeaa.X
open Go Go.Proofs.Ytjlolgpbidfmeaa.Ev
set_option linter.unusedVariables false

theorem nil9 {β : Type} (node : Int) (s : ByteArray) (K : Bool → Option β) : f9_1 20000 node s K = K true := by
  have e : (((([] : List Int).length : Nat) : Int) == 0) = true := rfl
  have e2 : (((([] : List ByteArray).length : Nat) : Int) == 0) = true := rfl
  rw [f9_1, f44_6206, f31_8375, f45_568, f46_568, f42_568, e2, cond_t, f40_1385, e, cond_t, f43_568, e, cond_t,
    f47_568, known28]

theorem law_true {β : Type} (node : Int) (s : ByteArray) {q1 q2 : Prop} (_ : q1) (_ : q2) (r : β) : ∃ F, f9_1 F node s (fun b => cond b (some r) none) = some r := ⟨20000, nil9 node s _⟩

end Go.Proofs.Ytjlolgpbidfmeaa.X
end
