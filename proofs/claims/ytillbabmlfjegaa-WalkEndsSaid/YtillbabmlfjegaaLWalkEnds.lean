import Derived.Test.YtillbabmlfjegaaRows
import Derived.Test.YtillbabmlfjegaaMWalkEnds7
import Derived.Test.YtillbabmlfjegaaMWalkEnds8
import Derived.WalkKit
import Derived.ProofKit
import Derived.OpenShut
import Derived.ShutString
import Derived.ChangeOld
import Derived.Below
import Derived.SizedLaws
/- The law WalkEnds answers true, whatever it is handed; no condition but those of the given statement. -/
namespace Go.Proofs.Ytillbabmlfjegaa.WalkEnds
open Go.ChangeShapes Go.WideShapes Go.ChangeAt Go.RowKit
open Go Go.Proofs.Ytillbabmlfjegaa.Ev Go.Proofs.Ytillbabmlfjegaa.X
set_option linter.unusedVariables false
theorem own : ownKnob Try.prog.godebug = none := by kernel_rfl
theorem laidOut : laidOutB Try.prog = true := by kernel_rfl
set_option maxRecDepth 100000 in
theorem lifted (os : Os) (started : os.Started) (H : Type) (enc : TypeId × Value → H) :
    ReturnsInHanded {} Try.checked os 3 .any (Rows.walkEndsSpec.pre6 enc Try.prog Try.f3 Rows.walkEndsRow.domain false) (Rows.walkEndsSpec.post enc Try.prog Try.f3 false true false false) := by
  refine returnsInHanded_of_change_sized (C := Try.checked) own started (by kernel_rfl) Try.func3
    (ChangeSpec.witness6 (enc := enc) (C := Try.checked) false ⟨#[], #[.agg #[.int .i64 0, .int .i64 0, .int .i64 0, .int .i64 0], .slice none 0 0, .slice none 0 0], []⟩ 8 (by kernel_rfl) (by kernel_rfl) (by kernel_rfl) (by kernel_rfl)) ?_
  intro W base args ds gs before hval0 hW hcnd hsz0 _
  have hval : ∀ (j : Nat) t v, Try.f3.params[j]? = some t → args[j]? = some v → Value.okWide Try.prog W .any base t v := hval0
  have hlt0 := hW.lt
  have hW' := hW
  obtain ⟨p, q, hA0, hV, hpq, hfz, hnd⟩ := hW
  letI : FZ := ⟨fun a cap cs => FzW (Ctx.of W fun _ => False) a cap cs⟩
  have hfz1 : ∀ a cap cs, FZ.ok a cap cs → FzW (Ctx.of W fun _ => False) a cap cs := fun _ _ _ h => h
  have hfz2 : ∀ a cap cs, FzW (Ctx.of W fun _ => False) a cap cs → FZ.ok a cap cs := fun _ _ _ h => h
  have hA : DataW.TrodAll enc Try.prog W 0 (fun _ => true) true Try.f3.params.toList args.toList ds p := hA0
  have hAk := hA
  rw [Try.params3] at hA hval
  have hlt : ∀ x ∈ p, x.block < W.heap.size := fun x hx => hlt0 x (by rw [hpq]; simp [hx])
  obtain ⟨v0, v1, v2, d0, d1, d2, p0, p1, p2, rfl, rfl, rfl, h0, h1, h2⟩ := trodAll_three hA
  obtain ⟨rfl, rfl⟩ := trodVars_none hV
  obtain ⟨y1, g1, s1⟩ := open_slice hfz2 (e := 5) (k := (.int .u8)) (sl := [.int .u8]) (fun y => y.1) (by kernel_rfl) (by kernel_rfl) (by kernel_rfl) (fun y => by kernel_rfl) (fun y hy => hy.1) (hval 1 24 v1 rfl rfl) h1
  obtain ⟨I1, R1, L1⟩ := inv_cons (inv_nil hfz1) (fun i ob h => by simp [hget] at h) s1
  obtain ⟨y2, g2, s2⟩ := open_slice hfz2 (e := 5) (k := (.int .u8)) (sl := [.int .u8]) (fun y => y.1) (by kernel_rfl) (by kernel_rfl) (by kernel_rfl) (fun y => by kernel_rfl) (fun y hy => hy.1) (hval 2 24 v2 rfl rfl) h2
  obtain ⟨I2, R2, L2⟩ := inv_cons I1 R1 s2
  obtain ⟨y0, r0, w0⟩ := arg_agg hfz2 (m := (([] ++ [g1]) ++ [g2])) (sl := [.int .i64, .int .i64, .int .i64, .int .i64]) (by kernel_rfl) (by kernel_rfl) (hval 0 23 v0 rfl rfl) h0
  obtain ⟨F, hF⟩ := X.law_true (β := Res) y0.1 y0.2.1 y0.2.2.1 y0.2.2.2.1 y1 y2 w0.1 w0.2.1 w0.2.2.1 w0.2.2.2.1 s1.len s1.wf s2.len s2.wf ([], [])
  have hS : S3_1 F noS [.agg [.int .i64 y0.1, .int .i64 y0.2.1, .int .i64 y0.2.2.1, .int .i64 y0.2.2.2.1], .lf (.full 0), .lf (.full 1)] [some ⟨true, [.seq (.int .u8) 0 y1]⟩, some ⟨true, [.seq (.int .u8) 0 y2]⟩] isTrueK = some ([], []) := hF
  refine (row_true (S3_1_ok F noS (noS_sound enter3)) hS I2 (cvs := [v0, v1, v2]) ⟨r0, (LRel.mono (pre_append _ _) L1), L2, trivial⟩).mono fun e W' ⟨he, hext⟩ => ?_
  subst he
  have bel := hext.below
  exact ⟨_, rfl, _, _, _, [], _, [], hW', trodAll_mk1 (shut_bool Try.underlying4 _), trodAll_below laidOut bel (by rw [Try.params3]; exact of_decide_eq_true (by kernel_rfl)) hAk hlt, rfl, bel.frame _, fun h => by cases h⟩
theorem over : Rows.walkEndsRow.holds Try.pinned (OpenSpec.ofChange Rows.walkEndsSpec) :=
  OpenClaim.holds_of_wide 3 Try.f3 rfl rfl rfl rfl rfl rfl rfl ⟨rfl, rfl, rfl, rfl, rfl⟩ rfl rfl rfl rfl rfl (by kernel_rfl) Try.func3 (by kernel_rfl)
    (of_decide_eq_true (by kernel_rfl)) (by unfold Func.isWrapper; first | (rw [if_pos (by decide +kernel)]; kernel_rfl) | (rw [if_neg (by decide +kernel)]; exact ⟨rfl, rfl⟩))
    (fun os started H enc _ => lifted os started H enc)
theorem proved : Rows.WalkEndsSaid := over
#print axioms proved
end Go.Proofs.Ytillbabmlfjegaa.WalkEnds
namespace Go.Proofs.Ytillbabmlfjegaa
/-- The row, under a short name, for the claim. -/
theorem walkEnds_holds : Rows.WalkEndsSaid := WalkEnds.proved
end Go.Proofs.Ytillbabmlfjegaa
