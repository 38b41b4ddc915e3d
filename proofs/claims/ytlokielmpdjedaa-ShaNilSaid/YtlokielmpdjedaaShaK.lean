/- SHA-256: what must come of fixed calls. -/
import Derived.Test.YtlokielmpdjedaaShaC
import Derived.Test.YtlokielmpdjedaaEvS19
import Derived.Test.YtlokielmpdjedaaEvF70
namespace Go.Proofs.Ytlokielmpdjedaa.X
open Go Go.Proofs.Ytlokielmpdjedaa.Ev
set_option linter.unusedVariables false

theorem toInts_mk (a : Array UInt8) : toInts ⟨a⟩ = a.toList.map fun c => (c.toNat : Int) := rfl

theorem shaKnown {β : Type} {F : Nat} {K : Bool → Option β} (hF : 2000 ≤ F) : f70_1 F K = K true := by
  obtain ⟨s', w', h1, h2⟩ := writeP (F := F) (b := [97, 98, 99]) (K := fun x3 x4 x5 => f75_1 F x3 x4 x5 (fun x6 => cond ((x6.size : Int) == 32) (cond (decide ((0 : Int) ≤ (0 : Int) ∧ (0 : Int) ≤ (4 : Int) ∧ (4 : Int) ≤ (x6.size : Int))) (cond ((x6.extract 0 4).toList == (⟨#[186, 120, 22, 191]⟩ : ByteArray).toList) (f71_1 F [97, 98, 99] (fun x7 => cond (x7.toList == x6.toList) (f76_1 F x3 x4 x5 (K (x4 == 3)) ) (K false)) ) (K false)) none) (K false))) hF HS_nil (by decide)
  simp only [f70_1, f73_1, f93_1]
  refine h2.trans ?_
  rw [sumP hF h1 (by decide), sumOne hF (by decide)]
  have e1 : ((dig ([] ++ [97, 98, 99])).size : Int) == 32 := by decide +kernel
  have e2 : (((dig ([] ++ [97, 98, 99])).extract 0 4).toList == (⟨#[186, 120, 22, 191]⟩ : ByteArray).toList) = true := by decide +kernel
  simp only [f76_1]
  rw [e1, cond_true, e2, cond_true]
  have e3 : (0 : Int) ≤ (0 : Int) ∧ (0 : Int) ≤ (4 : Int) ∧ (4 : Int) ≤ ((dig ([] ++ [97, 98, 99])).size : Int) := by
    have := of_decide_eq_true (p := ((dig ([] ++ [97, 98, 99])).size : Int) = 32) (by decide +kernel)
    omega
  rw [ct e3]
  simp

end Go.Proofs.Ytlokielmpdjedaa.X
