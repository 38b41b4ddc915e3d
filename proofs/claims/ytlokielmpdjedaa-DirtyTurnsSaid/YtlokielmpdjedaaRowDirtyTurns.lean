/- The law DirtyTurns answers true, whatever it is handed; no condition but those of the given statement. -/
import Derived.Test.YtlokielmpdjedaaRows
import Derived.Test.YtlokielmpdjedaaEvF5
import Derived.Test.YtlokielmpdjedaaEvS18
import Derived.Test.YtlokielmpdjedaaPureDirtyTurns
import Derived.WalkKit
import Derived.ProofKit
import Derived.OpenShut
import Derived.ShutString
import Derived.ChangeOld
import Derived.Below
import Derived.SizedLaws
namespace Go.Proofs.Ytlokielmpdjedaa.DirtyTurns
open Go.ChangeShapes Go.WideShapes Go.ChangeAt Go.RowKit
open Go Go.Proofs.Ytlokielmpdjedaa.Ev Go.Proofs.Ytlokielmpdjedaa.X
set_option linter.unusedVariables false
theorem own : ownKnob Try.prog.godebug = none := by kernel_rfl
theorem laidOut : laidOutB Try.prog = true := by kernel_rfl
set_option maxRecDepth 100000 in
theorem lifted (os : Os) (started : os.Started) (H : Type) (enc : TypeId × Value → H) :
    ReturnsInHanded {} Try.checked os 5 .any (Rows.dirtyTurnsSpec.pre6 enc Try.prog Try.f5 Rows.dirtyTurnsRow.domain false) (Rows.dirtyTurnsSpec.post enc Try.prog Try.f5 false true false false) := by
  refine returnsInHanded_of_change_sized (C := Try.checked) own started (by kernel_rfl) Try.func5
    (ChangeSpec.witness6 (enc := enc) (C := Try.checked) false ⟨#[], #[.agg #[.int .u64 0, .int .u64 0, .int .u64 0, .int .u64 0, .int .u64 0], .int .i64 0, .int .u64 0], []⟩ 8 (by kernel_rfl) (by kernel_rfl) (by kernel_rfl) (by kernel_rfl)) ?_
  intro W base args ds gs before hval0 hW hcnd hsz0 _
  have hval : ∀ (j : Nat) t v, Try.f5.params[j]? = some t → args[j]? = some v → Value.okWide Try.prog W .any base t v := hval0
  have hlt0 := hW.lt
  have hW' := hW
  obtain ⟨p, q, hA0, hV, hpq, hfz, hnd⟩ := hW
  have hA : DataW.TrodAll enc Try.prog W 0 (fun _ => true) true Try.f5.params.toList args.toList ds p := hA0
  have hAk := hA
  rw [Try.params5] at hA hval
  have hlt : ∀ x ∈ p, x.block < W.heap.size := fun x hx => hlt0 x (by rw [hpq]; simp [hx])
  obtain ⟨v0, v1, v2, d0, d1, d2, p0, p1, p2, rfl, rfl, rfl, h0, h1, h2⟩ := trodAll_three hA
  obtain ⟨rfl, rfl⟩ := trodVars_none hV
  obtain ⟨y0, r0, w0, hp0⟩ := arg_agg (m := []) (sl := [.seq (.int .u64) 2, .seq (.int .u64) 2, .int .u64]) (by kernel_rfl) (by kernel_rfl) (hval 0 41 v0 rfl rfl) h0
  obtain ⟨y1, rfl, w1, hp1⟩ := arg_int (k := .i64) (by kernel_rfl) (hval 1 3 v1 rfl rfl) h1
  obtain ⟨y2, rfl, w2, hp2⟩ := arg_int (k := .u64) (by kernel_rfl) (hval 2 37 v2 rfl rfl) h2
  obtain ⟨F, hF⟩ := X.law_true (β := Res) y0.1 y0.2.1 y0.2.2.1 y1 y2 w0.1 w0.2.1 w0.2.2.1 w1 w2 ([], [])
  have hS : S5_1 F noS [.agg [.seq (.int .u64) 2 y0.1, .seq (.int .u64) 2 y0.2.1, .int .u64 y0.2.2.1], .lf (.int .i64 y1), .lf (.int .u64 y2)] [] isTrueK = some ([], []) := hF
  refine (row_true (S5_1_ok F noS (noS_sound enter5)) hS (inv_nil W _) (cvs := [v0, .int .i64 y1, .int .u64 y2]) ⟨r0, rfl, rfl, trivial⟩).mono fun e W' ⟨he, hext⟩ => ?_
  subst he
  have bel := hext.below
  exact ⟨_, rfl, _, _, _, [], _, [], hW', trodAll_mk1 (shut_bool Try.underlying4 _), trodAll_below laidOut bel (by rw [Try.params5]; exact of_decide_eq_true (by kernel_rfl)) hAk hlt, rfl, bel.frame _, fun h => by cases h⟩
theorem over : Rows.dirtyTurnsRow.holds Try.pinned (OpenSpec.ofChange Rows.dirtyTurnsSpec) :=
  OpenClaim.holds_of_wide 5 Try.f5 rfl rfl rfl rfl rfl rfl rfl ⟨rfl, rfl, rfl, rfl, rfl⟩ rfl rfl rfl rfl rfl (by kernel_rfl) Try.func5 (by kernel_rfl)
    (of_decide_eq_true (by kernel_rfl)) (by unfold Func.isWrapper; first | (rw [if_pos (by decide +kernel)]; kernel_rfl) | (rw [if_neg (by decide +kernel)]; exact ⟨rfl, rfl⟩))
    (fun os started H enc _ => lifted os started H enc)
theorem proved : Rows.DirtyTurnsSaid := over
#print axioms proved
end Go.Proofs.Ytlokielmpdjedaa.DirtyTurns
namespace Go.Proofs.Ytlokielmpdjedaa
/-- The row, under a short name, for the claim. -/
theorem dirtyTurns_holds : Rows.DirtyTurnsSaid := DirtyTurns.proved
end Go.Proofs.Ytlokielmpdjedaa
