/- The digest of any bytes: the code's is the document's. -/
import Derived.Test.YtlokielmpdjedaaShaK
import Derived.Test.YtlokielmpdjedaaEvF12
namespace Go.Proofs.Ytlokielmpdjedaa.X
open Go Go.Proofs.Ytlokielmpdjedaa.Ev
set_option linter.unusedVariables false

theorem law_true {β : Type} (b : List Int) (hl : b.length ≤ maxLen) (hw : ∀ x ∈ b, wfE (.int .u8) x) (r : β) : ∃ F, f12_1 F b (fun b => cond b (some r) none) = some r := by
  obtain ⟨F, hF⟩ : ∃ F : Nat, F = 2000 := ⟨_, rfl⟩
  refine ⟨F, ?_⟩
  simp only [f12_1, shaKnown (F := F) (by omega)]
  by_cases h : ((b.length : Nat) : Int) > 10000
  · rw [ct h]; rfl
  · rw [cf h, sumOne (by omega) (by omega), sumR (by omega) (by omega)]
    simp

end Go.Proofs.Ytlokielmpdjedaa.X
