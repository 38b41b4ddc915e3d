import Derived.Test.YtillbabmlfjegaaDoorRows
import Derived.Test.YtillbabmlfjegaaDoorMDirtyKeepsCard5
import Derived.Test.YtillbabmlfjegaaDoorMDirtyKeepsCard3
import Derived.Test.YtillbabmlfjegaaDoorMDirtyKeepsCard6
import Derived.WalkKit
import Derived.ProofKit
import Derived.OpenShut
import Derived.ShutString
import Derived.ChangeOld
import Derived.Below
import Derived.SizedLaws
import Derived.Test.YtillbabmlfjegaaDoorTie
import Derived.Test.YtillbabmlfjegaaDoorCards
import Derived.Lay
import Derived.LaidOnce
import Derived.SevenTiedAt
/- The law DirtyKeeps answers true, whatever it is handed; no condition but those of the given statement. -/
namespace Go.Proofs.YtillbabmlfjegaaDoor.DirtyKeeps
open Go.ChangeShapes Go.WideShapes Go.ChangeAt Go.RowKit
open Go Go.Proofs.YtillbabmlfjegaaDoor.Ev Go.Proofs.YtillbabmlfjegaaDoor.X
set_option linter.unusedVariables false
theorem own : ownKnob Tryd.prog.godebug = none := by kernel_rfl
theorem laidOut : laidOutB Tryd.prog = true := by kernel_rfl
set_option maxRecDepth 100000 in
theorem lifted (os : Os) (started : os.Started) (H : Type) (enc : TypeId × Value → H) :
    ReturnsInHanded {} Tryd.checked os 9 .any (fun w args => (Rows.dirtyKeepsSpec.pre enc Tryd.prog Tryd.f9 [] false w args ∧ laidMetH Tryd.prog Rows.dirtyKeepsRow.laid w) ∧ sizedMet enc Tryd.prog Tryd.f9 (OpenSpec.ofChange Rows.dirtyKeepsSpec) false w args)
      (Rows.dirtyKeepsSpec.post enc Tryd.prog Tryd.f9 false true false false) := by
  refine returnsInHanded_of_change_and (C := Tryd.checked) (X := fun w _ => laidMetH Tryd.prog Rows.dirtyKeepsRow.laid w) (fun _ _ _ hh h => h.of_heap hh) own started (by kernel_rfl) Tryd.func9
    (ChangeSpec.witness_shaped (enc := enc) (C := Tryd.checked) (os := os) (X := fun w _ => laidMetH Tryd.prog Rows.dirtyKeepsRow.laid w) false (World.laidAll Tryd.prog os Rows.dirtyKeepsRow.laid) #[.agg #[.int .u64 0, .int .u64 0, .int .u64 0, .int .u64 0, .int .u64 0], .agg #[.int .u64 0, .int .u64 0, .int .u64 0, .int .u64 0, .int .u64 0], .agg #[.int .i64 0, .slice none 0 0]] 8 (World.laidAll_os _ _ _)
      (World.shaped_of_ZipB (by kernel_rfl) (by kernel_rfl)) (by kernel_rfl) (by kernel_rfl) (by kernel_rfl)
      (by rw [MakeChecks.laidMetH_plain _ _ _ (by kernel_rfl)]; exact laidMet_laidAll _ (by kernel_rfl) (by kernel_rfl))) ?_
  intro W base args ds gs before hval0 hW hcnd hsz0 _ _
  have hval : ∀ (j : Nat) t v, Tryd.f9.params[j]? = some t → args[j]? = some v → Value.okWide Tryd.prog W .any base t v := hval0
  have hlt0 := hW.lt
  have hW' := hW
  obtain ⟨p, q, hA0, hV, hpq, hfz, hnd⟩ := hW
  letI : FZ := ⟨fun a cap cs => FzW (Ctx.of W fun _ => False) a cap cs⟩
  have hfz1 : ∀ a cap cs, FZ.ok a cap cs → FzW (Ctx.of W fun _ => False) a cap cs := fun _ _ _ h => h
  have hfz2 : ∀ a cap cs, FzW (Ctx.of W fun _ => False) a cap cs → FZ.ok a cap cs := fun _ _ _ h => h
  have hA : DataW.TrodAll enc Tryd.prog W 0 (fun _ => true) true Tryd.f9.params.toList args.toList ds p := hA0
  have hAk := hA
  rw [Tryd.params9] at hA hval
  have hlt : ∀ x ∈ p, x.block < W.heap.size := fun x hx => hlt0 x (by rw [hpq]; simp [hx])
  obtain ⟨v0, v1, v2, d0, d1, d2, p0, p1, p2, rfl, rfl, rfl, h0, h1, h2⟩ := trodAll_three hA
  obtain ⟨rfl, rfl⟩ := trodVars_none hV
  obtain ⟨y0, r0, w0⟩ := arg_agg hfz2 (m := []) (sl := [.seq (.int .u64) 2, .seq (.int .u64) 2, .int .u64]) (by kernel_rfl) (by kernel_rfl) (hval 0 71 v0 rfl rfl) h0
  obtain ⟨y1, r1, w1⟩ := arg_agg hfz2 (m := []) (sl := [.seq (.int .u64) 2, .seq (.int .u64) 2, .int .u64]) (by kernel_rfl) (by kernel_rfl) (hval 1 71 v1 rfl rfl) h1
  obtain ⟨y2, r2, w2⟩ := arg_agg hfz2 (m := []) (sl := [.int .i64, .sl .bool]) (by kernel_rfl) (by kernel_rfl) (hval 2 72 v2 rfl rfl) h2
  obtain ⟨F, hF⟩ := X.law_true (β := Res) y0.1 y0.2.1 y0.2.2.1 y1.1 y1.2.1 y1.2.2.1 y2.1 y2.2.1 w0.1 w0.2.1 w0.2.2.1 w1.1 w1.2.1 w1.2.2.1 w2.1 w2.2.1 ([], [])
  have hS : S9_1 F noS [.agg [.seq (.int .u64) 2 y0.1, .seq (.int .u64) 2 y0.2.1, .int .u64 y0.2.2.1], .agg [.seq (.int .u64) 2 y1.1, .seq (.int .u64) 2 y1.2.1, .int .u64 y1.2.2.1], .agg [.int .i64 y2.1, .sl .bool y2.2.1]] [] isTrueK = some ([], []) := hF
  refine (row_true (S9_1_ok F noS (noS_sound enter9)) hS (inv_nil hfz1) (cvs := [v0, v1, v2]) ⟨r0, r1, r2, trivial⟩).mono fun e W' ⟨he, hext⟩ => ?_
  subst he
  have bel := hext.below
  exact ⟨_, rfl, _, _, _, [], _, [], hW', trodAll_mk1 (shut_bool Tryd.underlying4 _), trodAll_below laidOut bel (by rw [Tryd.params9]; exact of_decide_eq_true (by kernel_rfl)) hAk hlt, rfl, bel.frame _, fun h => by cases h⟩
theorem over : Rows.dirtyKeepsRow.holds Tryd.pinned (OpenSpec.ofChange Rows.dirtyKeepsSpec) :=
  OpenClaim.holds_of_wide 9 Tryd.f9 rfl rfl rfl rfl rfl rfl rfl ⟨rfl, rfl, rfl, rfl, rfl⟩ rfl rfl rfl rfl rfl (by kernel_rfl) Tryd.func9 (by kernel_rfl)
    (of_decide_eq_true (by kernel_rfl)) (by unfold Func.isWrapper; first | (rw [if_pos (by decide +kernel)]; kernel_rfl) | (rw [if_neg (by decide +kernel)]; exact ⟨rfl, rfl⟩))
    (fun os started H enc _ => lifted os started H enc)
theorem proved : Rows.DirtyKeepsCardSaid :=
  Claim7.holds_tied_plain_at .later [] [.data, .pinned] true (true, "311a26607ac691dcafea57c50896634131c5d55fc76a6abbecba387b9af79b98") false over (fun _ h => by cases h) (by kernel_rfl) (fun _ h => by cases h) dirtyKeeps_row_tie rfl ⟨rfl, rfl⟩ (by kernel_rfl) rfl
    (fun f fn hf hfn => by
      obtain rfl : f = 9 := Option.some.inj ((show Tryd.prog.funcNamed "pentimento/pentimentolaw11.DirtyKeeps" = some 9 by kernel_rfl).symm.trans hf) |>.symm
      obtain rfl : fn = Tryd.f9 := (Option.some.inj (Tryd.func9.symm.trans hfn)).symm
      exact ⟨by kernel_rfl, fun j t ht => by
        rw [Tryd.params9] at ht
        have hm : t ∈ [71, 71, 72] := by simpa using Array.mem_of_getElem? ht
        have hall : ([71, 71, 72].all fun u => !Tryd.prog.wantsStandIn u) = true := by kernel_rfl
        exact (show Tryd.prog.wantsStandIn t = false by simpa using List.all_eq_true.1 hall t hm)⟩)
    (by kernel_rfl)
#print axioms proved
end Go.Proofs.YtillbabmlfjegaaDoor.DirtyKeeps
namespace Go.Proofs.YtillbabmlfjegaaDoor
/-- The card, under a short name, for the claim. -/
theorem dirtyKeeps_holds : Rows.DirtyKeepsCardSaid := DirtyKeeps.proved
end Go.Proofs.YtillbabmlfjegaaDoor
