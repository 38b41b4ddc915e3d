import Derived.Test.YtillbabmlfjegaaGreatDoorRows
import Derived.Test.YtillbabmlfjegaaGreatDoorMDirtyLoadsCard5
import Derived.Test.YtillbabmlfjegaaGreatDoorMDirtyLoadsCard4
import Derived.Test.YtillbabmlfjegaaGreatDoorMDirtyLoadsCard6
import Derived.WalkKit
import Derived.ProofKit
import Derived.OpenShut
import Derived.ShutString
import Derived.ChangeOld
import Derived.Below
import Derived.SizedLaws
import Derived.Test.YtillbabmlfjegaaGreatDoorTie
import Derived.Test.YtillbabmlfjegaaGreatDoorCards
import Derived.Lay
import Derived.LaidOnce
import Derived.SevenTiedAt
/- The law DirtyLoads answers true, whatever it is handed; no condition but those of the given statement. -/
namespace Go.Proofs.YtillbabmlfjegaaGreatDoor.DirtyLoads
open Go.ChangeShapes Go.WideShapes Go.ChangeAt Go.RowKit
open Go Go.Proofs.YtillbabmlfjegaaGreatDoor.Ev Go.Proofs.YtillbabmlfjegaaGreatDoor.X
set_option linter.unusedVariables false
theorem own : ownKnob Tryz.prog.godebug = none := by kernel_rfl
theorem laidOut : laidOutB Tryz.prog = true := by kernel_rfl
set_option maxRecDepth 100000 in
theorem lifted (os : Os) (started : os.Started) (H : Type) (enc : TypeId × Value → H) :
    ReturnsInHanded {} Tryz.checked os 3 .any (fun w args => (Rows.dirtyLoadsSpec.pre enc Tryz.prog Tryz.f3 [] false w args ∧ laidMetH Tryz.prog Rows.dirtyLoadsRow.laid w) ∧ sizedMet enc Tryz.prog Tryz.f3 (OpenSpec.ofChange Rows.dirtyLoadsSpec) false w args)
      (Rows.dirtyLoadsSpec.post enc Tryz.prog Tryz.f3 false true false false) := by
  refine returnsInHanded_of_change_and (C := Tryz.checked) (X := fun w _ => laidMetH Tryz.prog Rows.dirtyLoadsRow.laid w) (fun _ _ _ hh h => h.of_heap hh) own started (by kernel_rfl) Tryz.func3
    (ChangeSpec.witness_shaped (enc := enc) (C := Tryz.checked) (os := os) (X := fun w _ => laidMetH Tryz.prog Rows.dirtyLoadsRow.laid w) false (World.laidAll Tryz.prog os Rows.dirtyLoadsRow.laid) #[.int .i64 0, .string ⟨#[]⟩, .agg #[.int .u64 0, .int .u64 0, .int .u64 0, .int .u64 0, .int .u64 0], .bool false] 8 (World.laidAll_os _ _ _)
      (World.shaped_of_ZipB (by kernel_rfl) (by kernel_rfl)) (by kernel_rfl) (by kernel_rfl) (by kernel_rfl)
      (by rw [MakeChecks.laidMetH_plain _ _ _ (by kernel_rfl)]; exact laidMet_laidAll _ (by kernel_rfl) (by kernel_rfl))) ?_
  intro W base args ds gs before hval0 hW hcnd hsz0 _ _
  have hval : ∀ (j : Nat) t v, Tryz.f3.params[j]? = some t → args[j]? = some v → Value.okWide Tryz.prog W .any base t v := hval0
  have hlt0 := hW.lt
  have hW' := hW
  obtain ⟨p, q, hA0, hV, hpq, hfz, hnd⟩ := hW
  letI : FZ := ⟨fun a cap cs => FzW (Ctx.of W fun _ => False) a cap cs⟩
  have hfz1 : ∀ a cap cs, FZ.ok a cap cs → FzW (Ctx.of W fun _ => False) a cap cs := fun _ _ _ h => h
  have hfz2 : ∀ a cap cs, FzW (Ctx.of W fun _ => False) a cap cs → FZ.ok a cap cs := fun _ _ _ h => h
  have hA : DataW.TrodAll enc Tryz.prog W 0 (fun _ => true) true Tryz.f3.params.toList args.toList ds p := hA0
  have hAk := hA
  rw [Tryz.params3] at hA hval
  have hlt : ∀ x ∈ p, x.block < W.heap.size := fun x hx => hlt0 x (by rw [hpq]; simp [hx])
  obtain ⟨v0, v1, v2, v3, d0, d1, d2, d3, p0, p1, p2, p3, rfl, rfl, rfl, h0, h1, h2, h3⟩ := trodAll_four hA
  obtain ⟨rfl, rfl⟩ := trodVars_none hV
  obtain ⟨y0, rfl, w0, hp0⟩ := arg_int (k := .i64) (by kernel_rfl) (hval 0 3 v0 rfl rfl) h0
  obtain ⟨y1, rfl, w1, hp1⟩ := arg_str (by kernel_rfl) (hval 1 9 v1 rfl rfl) h1
  obtain ⟨y2, r2, w2⟩ := arg_agg hfz2 (m := []) (sl := [.seq (.int .u64) 2, .seq (.int .u64) 2, .int .u64]) (by kernel_rfl) (by kernel_rfl) (hval 2 26 v2 rfl rfl) h2
  obtain ⟨y3, rfl, hp3⟩ := arg_bool (by kernel_rfl) (hval 3 4 v3 rfl rfl) h3
  obtain ⟨F, hF⟩ := X.law_true (β := Res) y0 y1 y2.1 y2.2.1 y2.2.2.1 y3 w0 w1 w2.1 w2.2.1 w2.2.2.1 ([], [])
  have hS : S3_1 F noS [.lf (.int .i64 y0), .lf (.str y1), .agg [.seq (.int .u64) 2 y2.1, .seq (.int .u64) 2 y2.2.1, .int .u64 y2.2.2.1], .lf (.bool y3)] [] isTrueK = some ([], []) := hF
  refine (row_true (S3_1_ok F noS (noS_sound enter3)) hS (inv_nil hfz1) (cvs := [.int .i64 y0, .string y1, v2, .bool y3]) ⟨rfl, rfl, r2, rfl, trivial⟩).mono fun e W' ⟨he, hext⟩ => ?_
  subst he
  have bel := hext.below
  exact ⟨_, rfl, _, _, _, [], _, [], hW', trodAll_mk1 (shut_bool Tryz.underlying4 _), trodAll_below laidOut bel (by rw [Tryz.params3]; exact of_decide_eq_true (by kernel_rfl)) hAk hlt, rfl, bel.frame _, fun h => by cases h⟩
theorem over : Rows.dirtyLoadsRow.holds Tryz.pinned (OpenSpec.ofChange Rows.dirtyLoadsSpec) :=
  OpenClaim.holds_of_wide 3 Tryz.f3 rfl rfl rfl rfl rfl rfl rfl ⟨rfl, rfl, rfl, rfl, rfl⟩ rfl rfl rfl rfl rfl (by kernel_rfl) Tryz.func3 (by kernel_rfl)
    (of_decide_eq_true (by kernel_rfl)) (by unfold Func.isWrapper; first | (rw [if_pos (by decide +kernel)]; kernel_rfl) | (rw [if_neg (by decide +kernel)]; exact ⟨rfl, rfl⟩))
    (fun os started H enc _ => lifted os started H enc)
theorem proved : Rows.DirtyLoadsCardSaid :=
  Claim7.holds_tied_plain_at .later [] [.data, .pinned] true (true, "2a5944a7d9da00dfade529d63b2709ddd48c8af4c12251c1be40803f5880a431") false over (fun _ h => by cases h) (by kernel_rfl) (fun _ h => by cases h) dirtyLoads_row_tie rfl ⟨rfl, rfl⟩ (by kernel_rfl) rfl
    (fun f fn hf hfn => by
      obtain rfl : f = 3 := Option.some.inj ((show Tryz.prog.funcNamed "pentimento/pentimentolaw11.DirtyLoads" = some 3 by kernel_rfl).symm.trans hf) |>.symm
      obtain rfl : fn = Tryz.f3 := (Option.some.inj (Tryz.func3.symm.trans hfn)).symm
      exact ⟨by kernel_rfl, fun j t ht => by
        rw [Tryz.params3] at ht
        have hm : t ∈ [3, 9, 26, 4] := by simpa using Array.mem_of_getElem? ht
        have hall : ([3, 9, 26, 4].all fun u => !Tryz.prog.wantsStandIn u) = true := by kernel_rfl
        exact (show Tryz.prog.wantsStandIn t = false by simpa using List.all_eq_true.1 hall t hm)⟩)
    (by kernel_rfl)
#print axioms proved
end Go.Proofs.YtillbabmlfjegaaGreatDoor.DirtyLoads
namespace Go.Proofs.YtillbabmlfjegaaGreatDoor
/-- The card, under a short name, for the claim. -/
theorem dirtyLoads_holds : Rows.DirtyLoadsCardSaid := DirtyLoads.proved
end Go.Proofs.YtillbabmlfjegaaGreatDoor
