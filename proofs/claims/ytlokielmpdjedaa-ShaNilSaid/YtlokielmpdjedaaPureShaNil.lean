/- A digest's bytes that are not there. -/
import Derived.Test.YtlokielmpdjedaaShaK
import Derived.Test.YtlokielmpdjedaaEvF14
namespace Go.Proofs.Ytlokielmpdjedaa.X
open Go Go.Proofs.Ytlokielmpdjedaa.Ev
set_option linter.unusedVariables false

theorem law_true {β : Type} (b : List Int) (hl : b.length ≤ maxLen) (hw : ∀ x ∈ b, wfE (.int .u8) x) (r : β) : ∃ F, f14_1 F b (fun b => cond b (some r) none) = some r := by
  obtain ⟨F, hF⟩ : ∃ F : Nat, F = 2000 := ⟨_, rfl⟩
  refine ⟨F, ?_⟩
  have h : f14_1 F b (fun b => cond b (some r) none) = f70_1 F (fun b => cond b (some r) none) := rfl
  rw [h, shaKnown (by omega)]
  rfl

end Go.Proofs.Ytlokielmpdjedaa.X
