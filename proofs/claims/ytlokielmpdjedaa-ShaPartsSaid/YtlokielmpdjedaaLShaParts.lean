import Derived.Test.YtlokielmpdjedaaRows
import Derived.Test.YtlokielmpdjedaaMShaParts4
import Derived.Test.YtlokielmpdjedaaMShaParts5
import Derived.WalkKit
import Derived.ProofKit
import Derived.OpenShut
import Derived.ShutString
import Derived.ChangeOld
import Derived.Below
import Derived.SizedLaws
/- The law ShaParts answers true, whatever it is handed; no condition but those of the given statement. -/
namespace Go.Proofs.Ytlokielmpdjedaa.ShaParts
open Go.ChangeShapes Go.WideShapes Go.ChangeAt Go.RowKit
open Go Go.Proofs.Ytlokielmpdjedaa.Ev Go.Proofs.Ytlokielmpdjedaa.X
set_option linter.unusedVariables false
theorem own : ownKnob Try.prog.godebug = none := by kernel_rfl
theorem laidOut : laidOutB Try.prog = true := by kernel_rfl
set_option maxRecDepth 100000 in
theorem lifted (os : Os) (started : os.Started) (H : Type) (enc : TypeId × Value → H) :
    ReturnsInHanded {} Try.checked os 13 .any (Rows.shaPartsSpec.pre6 enc Try.prog Try.f13 Rows.shaPartsRow.domain false) (Rows.shaPartsSpec.post enc Try.prog Try.f13 false true false false) := by
  refine returnsInHanded_of_change_sized (C := Try.checked) own started (by kernel_rfl) Try.func13
    (ChangeSpec.witness6 (enc := enc) (C := Try.checked) false ⟨#[], #[.slice none 0 0], []⟩ 8 (by kernel_rfl) (by kernel_rfl) (by kernel_rfl) (by kernel_rfl)) ?_
  intro W base args ds gs before hval0 hW hcnd hsz0 _
  have hval : ∀ (j : Nat) t v, Try.f13.params[j]? = some t → args[j]? = some v → Value.okWide Try.prog W .any base t v := hval0
  have hlt0 := hW.lt
  have hW' := hW
  obtain ⟨p, q, hA0, hV, hpq, hfz, hnd⟩ := hW
  letI : FZ := ⟨fun a cap cs => FzW (Ctx.of W fun _ => False) a cap cs⟩
  have hfz1 : ∀ a cap cs, FZ.ok a cap cs → FzW (Ctx.of W fun _ => False) a cap cs := fun _ _ _ h => h
  have hfz2 : ∀ a cap cs, FzW (Ctx.of W fun _ => False) a cap cs → FZ.ok a cap cs := fun _ _ _ h => h
  have hA : DataW.TrodAll enc Try.prog W 0 (fun _ => true) true Try.f13.params.toList args.toList ds p := hA0
  have hAk := hA
  rw [Try.params13] at hA hval
  have hlt : ∀ x ∈ p, x.block < W.heap.size := fun x hx => hlt0 x (by rw [hpq]; simp [hx])
  obtain ⟨v0, d0, rfl, rfl, h0⟩ := trodAll_one hA
  obtain ⟨rfl, rfl⟩ := trodVars_none hV
  obtain ⟨y0, g0, s0⟩ := open_slice hfz2 (e := 74) (k := (.sl (.int .u8))) (sl := [.sl (.int .u8)]) (fun y => y.1) (by kernel_rfl) (by kernel_rfl) (by kernel_rfl) (fun y => by kernel_rfl) (fun y hy => hy.1) (hval 0 77 v0 rfl rfl) h0
  obtain ⟨I0, R0, L0⟩ := inv_cons (inv_nil hfz1) (fun i ob h => by simp [hget] at h) s0
  obtain ⟨F, hF⟩ := X.law_true (β := Res) y0 s0.len s0.wf ([], [])
  have hS : S13_1 F noS [.lf (.full 0)] [some ⟨true, [.seq (.sl (.int .u8)) 0 y0]⟩] isTrueK = some ([], []) := hF
  refine (row_true (S13_1_ok F noS (noS_sound enter13)) hS I0 (cvs := [v0]) ⟨L0, trivial⟩).mono fun e W' ⟨he, hext⟩ => ?_
  subst he
  have bel := hext.below
  exact ⟨_, rfl, _, _, _, [], _, [], hW', trodAll_mk1 (shut_bool Try.underlying4 _), trodAll_below laidOut bel (by rw [Try.params13]; exact of_decide_eq_true (by kernel_rfl)) hAk hlt, rfl, bel.frame _, fun h => by cases h⟩
theorem over : Rows.shaPartsRow.holds Try.pinned (OpenSpec.ofChange Rows.shaPartsSpec) :=
  OpenClaim.holds_of_wide 13 Try.f13 rfl rfl rfl rfl rfl rfl rfl ⟨rfl, rfl, rfl, rfl, rfl⟩ rfl rfl rfl rfl rfl (by kernel_rfl) Try.func13 (by kernel_rfl)
    (of_decide_eq_true (by kernel_rfl)) (by unfold Func.isWrapper; first | (rw [if_pos (by decide +kernel)]; kernel_rfl) | (rw [if_neg (by decide +kernel)]; exact ⟨rfl, rfl⟩))
    (fun os started H enc _ => lifted os started H enc)
theorem proved : Rows.ShaPartsSaid := over
#print axioms proved
end Go.Proofs.Ytlokielmpdjedaa.ShaParts
namespace Go.Proofs.Ytlokielmpdjedaa
/-- The row, under a short name, for the claim. -/
theorem shaParts_holds : Rows.ShaPartsSaid := ShaParts.proved
end Go.Proofs.Ytlokielmpdjedaa
