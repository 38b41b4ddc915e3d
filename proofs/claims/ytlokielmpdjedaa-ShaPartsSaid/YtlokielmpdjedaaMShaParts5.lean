/- Merged: PureShaParts. -/
import Derived.Test.YtlokielmpdjedaaMShaParts4
/- The law: bytes in parts. -/
namespace Go.Proofs.Ytlokielmpdjedaa.X
open Go Go.Proofs.Ytlokielmpdjedaa.Ev
set_option linter.unusedSectionVars false
variable [FZ]
set_option linter.unusedVariables false
set_option linter.unusedSimpArgs false

theorem partsL {β : Type} {l : List (Sl (.int .u8))} {K0 : Bool → List Int → Int → List Int → List Int → Option β} {K1 K2 : List Int → Int → List Int → List Int → Option β} {r0 : Option β} (h0 : ∀ a b c d, K0 true a b c d = r0)
    (h2 : ∀ all s n w, HS all s n w → all.length ≤ 30000 → K2 s n w all = r0) : ∀ (m i k : Nat) (all s w : List Int) (n : Int), m + i = 30 → m < k → HS all s n w → all.length ≤ 1000 * i →
    f13_1_l4 20000 l K0 K1 K2 k (i : Int) s n w all = r0
  | _, _, 0, _, _, _, _, _, h, _, _ => by omega
  | 0, i, k + 1, all, s, w, n, hi, hk, h, ha => by
    rw [f13_1_l4]
    by_cases h1 : (i : Int) < ((l.length : Nat) : Int)
    · rw [ct h1, cf (by omega)]; exact h2 _ _ _ _ h (by omega)
    · rw [cf h1]; exact h2 _ _ _ _ h (by omega)
  | m + 1, i, k + 1, all, s, w, n, hi, hk, h, ha => by
    rw [f13_1_l4]
    by_cases h1 : (i : Int) < ((l.length : Nat) : Int)
    · rw [ct h1, ct (by omega), ct (by omega), ct (by omega), shaKnown (by omega), Nat.zero_add]
      generalize hx : (l.getD (i : Int).toNat (Sl.nil (.int .u8))).dat = x
      by_cases h3 : ((x.length : Nat) : Int) > 1000
      · rw [ct h3]; exact h0 _ _ _ _
      · have hb : (all ++ x).length ≤ 100000 := by simp; omega
        rw [cf h3, ct (by omega), ct (by omega)]
        obtain ⟨s', w', h4, h5⟩ := writeP (F := 20000) (b := x) (K := fun x10 x11 x12 => cond (decide ((0 : Int) ≤ (i : Int) ∧ (i : Int) < ((l.length : Nat) : Int))) (cond (decide ((i : Int).toNat < l.length)) (cond (decide ((all.length + x.length) * 1 ≤ 70368744177664)) (f75_1 20000 x10 x11 x12 (fun x13 => f72_1 20000 (all ++ x) (fun x14 => cond (!(x13.toList == x14.toList)) (K1 x10 x11 x12 (all ++ x)) (f76_1 20000 x10 x11 x12 (cond (x11 != (IntKind.u64.wrap (((all ++ x).length : Nat) : Int))) (K1 x10 x11 x12 (all ++ x)) (f13_1_l4 20000 l K0 K1 K2 k (IntKind.i64.wrap ((i : Int) + 1)) x10 x11 x12 (all ++ x)))))))
          none) none) none) (by omega) h hb
        refine Eq.trans h5 ?_
        have hn : ∀ {y : Int}, HS (all ++ x) s' y w' → y = (((all ++ x).length : Nat) : Int) := fun hh => hh.2.2
        rw [ct (by omega), ct (by omega), ct (by omega), sumP (by omega) h4 hb, sumR hb (by omega), show ∀ d : ByteArray, (!(d.toList == d.toList)) = false from fun d => by simp, cond_false, f76_1, wu64 (x := (((all ++ x).length : Nat) : Int)) (by omega) (by omega), hn h4, show ∀ d : Int, (d != d) = false from fun d => by simp, cond_false, w64 (by omega) (by omega)]
        have h4' := h4
        rw [hn h4] at h4'
        exact partsL h0 h2 m (i + 1) k _ _ _ _ (by omega) (by omega) h4' (by simp; omega)
    · rw [cf h1]; exact h2 _ _ _ _ h (by omega)

theorem law_true {β : Type} (l : List (Sl (.int .u8))) {q0 q : Prop} (_ : q0) (_ : q) (r : β) : ∃ F, f13_1 F l (fun b => cond b (some r) none) = some r := by
  refine ⟨20000, ?_⟩
  rw [f13_1, f73_1, f93_1]
  refine partsL (fun _ _ _ _ => rfl) (fun all s n w h ha => ?_) 30 0 20000 [] ini [] 0 (by omega) (by omega) HS_nil (by simp)
  rw [sumP (by omega) h (by omega), sumOne (by omega) (by omega), beq_self_eq_true, cond_true, shaKnown (by omega)]
  rfl

end Go.Proofs.Ytlokielmpdjedaa.X
