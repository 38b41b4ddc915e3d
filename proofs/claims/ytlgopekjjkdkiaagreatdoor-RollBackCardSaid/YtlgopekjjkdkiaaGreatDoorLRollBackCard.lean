import Derived.Test.YtlgopekjjkdkiaaGreatDoorRows
import Derived.Test.YtlgopekjjkdkiaaGreatDoorMRollBackCard5
import Derived.Test.YtlgopekjjkdkiaaGreatDoorMRollBackCard3
import Derived.Test.YtlgopekjjkdkiaaGreatDoorMRollBackCard6
import Derived.WalkKit
import Derived.ProofKit
import Derived.OpenShut
import Derived.ShutString
import Derived.ChangeOld
import Derived.Below
import Derived.SizedLaws
import Derived.Test.YtlgopekjjkdkiaaGreatDoorTie
import Derived.Test.YtlgopekjjkdkiaaGreatDoorCards
import Derived.Lay
import Derived.LaidOnce
import Derived.SevenTiedAt
/- The law RollBack answers true, whatever it is handed; no condition but those of the given statement. -/
namespace Go.Proofs.YtlgopekjjkdkiaaGreatDoor.RollBack
open Go.ChangeShapes Go.WideShapes Go.ChangeAt Go.RowKit
open Go Go.Proofs.YtlgopekjjkdkiaaGreatDoor.Ev Go.Proofs.YtlgopekjjkdkiaaGreatDoor.X
set_option linter.unusedVariables false
theorem own : ownKnob Tryz.prog.godebug = none := by kernel_rfl
theorem laidOut : laidOutB Tryz.prog = true := by kernel_rfl
set_option maxRecDepth 100000 in
theorem lifted (os : Os) (started : os.Started) (H : Type) (enc : TypeId × Value → H) :
    ReturnsInHanded {} Tryz.checked os 5 .any (fun w args => (Rows.rollBackSpec.pre enc Tryz.prog Tryz.f5 [] false w args ∧ laidMetH Tryz.prog Rows.rollBackRow.laid w) ∧ sizedMet enc Tryz.prog Tryz.f5 (OpenSpec.ofChange Rows.rollBackSpec) false w args)
      (Rows.rollBackSpec.post enc Tryz.prog Tryz.f5 false true false false) := by
  refine returnsInHanded_of_change_and (C := Tryz.checked) (X := fun w _ => laidMetH Tryz.prog Rows.rollBackRow.laid w) (fun _ _ _ hh h => h.of_heap hh) own started (by kernel_rfl) Tryz.func5
    (ChangeSpec.witness_shaped (enc := enc) (C := Tryz.checked) (os := os) (X := fun w _ => laidMetH Tryz.prog Rows.rollBackRow.laid w) false (World.laidAll Tryz.prog os Rows.rollBackRow.laid) #[.agg #[.int .i64 0, .int .i64 0, .int .i64 0, .int .i64 0], .slice none 0 0, .slice none 0 0] 8 (World.laidAll_os _ _ _)
      (World.shaped_of_ZipB (by kernel_rfl) (by kernel_rfl)) (by kernel_rfl) (by kernel_rfl) (by kernel_rfl)
      (by rw [MakeChecks.laidMetH_plain _ _ _ (by kernel_rfl)]; exact laidMet_laidAll _ (by kernel_rfl) (by kernel_rfl))) ?_
  intro W base args ds gs before hval0 hW hcnd hsz0 _ _
  have hval : ∀ (j : Nat) t v, Tryz.f5.params[j]? = some t → args[j]? = some v → Value.okWide Tryz.prog W .any base t v := hval0
  have hlt0 := hW.lt
  have hW' := hW
  obtain ⟨p, q, hA0, hV, hpq, hfz, hnd⟩ := hW
  letI : FZ := ⟨fun a cap cs => FzW (Ctx.of W fun _ => False) a cap cs⟩
  have hfz1 : ∀ a cap cs, FZ.ok a cap cs → FzW (Ctx.of W fun _ => False) a cap cs := fun _ _ _ h => h
  have hfz2 : ∀ a cap cs, FzW (Ctx.of W fun _ => False) a cap cs → FZ.ok a cap cs := fun _ _ _ h => h
  have hA : DataW.TrodAll enc Tryz.prog W 0 (fun _ => true) true Tryz.f5.params.toList args.toList ds p := hA0
  have hAk := hA
  rw [Tryz.params5] at hA hval
  have hlt : ∀ x ∈ p, x.block < W.heap.size := fun x hx => hlt0 x (by rw [hpq]; simp [hx])
  obtain ⟨v0, v1, v2, d0, d1, d2, p0, p1, p2, rfl, rfl, rfl, h0, h1, h2⟩ := trodAll_three hA
  obtain ⟨rfl, rfl⟩ := trodVars_none hV
  obtain ⟨y1, g1, s1⟩ := open_slice hfz2 (e := 68) (k := (.pair (.int .i64) .str)) (sl := [.int .i64, .str]) (fun y => (y.1, y.2.1)) (by kernel_rfl) (by kernel_rfl) (by kernel_rfl) (fun y => by kernel_rfl) (fun y hy => ⟨hy.1, hy.2.1⟩) (hval 1 53 v1 rfl rfl) h1
  obtain ⟨I1, R1, L1⟩ := inv_cons (inv_nil hfz1) (fun i ob h => by simp [hget] at h) s1
  obtain ⟨y2, g2, s2⟩ := open_slice hfz2 (e := 63) (k := (.pair (.int .i64) (.sl .bool))) (sl := [.int .i64, .sl .bool]) (fun y => (y.1, y.2.1)) (by kernel_rfl) (by kernel_rfl) (by kernel_rfl) (fun y => by kernel_rfl) (fun y hy => ⟨hy.1, hy.2.1⟩) (hval 2 54 v2 rfl rfl) h2
  obtain ⟨I2, R2, L2⟩ := inv_cons I1 R1 s2
  obtain ⟨y0, r0, w0⟩ := arg_agg hfz2 (m := (([] ++ [g1]) ++ [g2])) (sl := [.int .i64, .int .i64, .int .i64, .int .i64]) (by kernel_rfl) (by kernel_rfl) (hval 0 23 v0 rfl rfl) h0
  obtain ⟨F, hF⟩ := X.law_true (β := Res) y0.1 y0.2.1 y0.2.2.1 y0.2.2.2.1 y1 y2 w0.1 w0.2.1 w0.2.2.1 w0.2.2.2.1 s1.len s1.wf s2.len s2.wf ([], [])
  have hS : S5_1 F noS [.agg [.int .i64 y0.1, .int .i64 y0.2.1, .int .i64 y0.2.2.1, .int .i64 y0.2.2.2.1], .lf (.full 0), .lf (.full 1)] [some ⟨true, [.seq (.pair (.int .i64) .str) 0 y1]⟩, some ⟨true, [.seq (.pair (.int .i64) (.sl .bool)) 0 y2]⟩] isTrueK = some ([], []) := hF
  refine (row_true (S5_1_ok F noS (noS_sound enter5)) hS I2 (cvs := [v0, v1, v2]) ⟨r0, (LRel.mono (pre_append _ _) L1), L2, trivial⟩).mono fun e W' ⟨he, hext⟩ => ?_
  subst he
  have bel := hext.below
  exact ⟨_, rfl, _, _, _, [], _, [], hW', trodAll_mk1 (shut_bool Tryz.underlying4 _), trodAll_below laidOut bel (by rw [Tryz.params5]; exact of_decide_eq_true (by kernel_rfl)) hAk hlt, rfl, bel.frame _, fun h => by cases h⟩
theorem over : Rows.rollBackRow.holds Tryz.pinned (OpenSpec.ofChange Rows.rollBackSpec) :=
  OpenClaim.holds_of_wide 5 Tryz.f5 rfl rfl rfl rfl rfl rfl rfl ⟨rfl, rfl, rfl, rfl, rfl⟩ rfl rfl rfl rfl rfl (by kernel_rfl) Tryz.func5 (by kernel_rfl)
    (of_decide_eq_true (by kernel_rfl)) (by unfold Func.isWrapper; first | (rw [if_pos (by decide +kernel)]; kernel_rfl) | (rw [if_neg (by decide +kernel)]; exact ⟨rfl, rfl⟩))
    (fun os started H enc _ => lifted os started H enc)
theorem proved : Rows.RollBackCardSaid :=
  Claim7.holds_tied_plain_at .later [] [.data, .pinned] true (true, "53fb6a1ffba79bfd13139816bdc46bdf7eea810f357a8d41b28265652fcddd45") false over (fun _ h => by cases h) (by kernel_rfl) (fun _ h => by cases h) rollBack_row_tie rfl ⟨rfl, rfl⟩ (by kernel_rfl) rfl
    (fun f fn hf hfn => by
      obtain rfl : f = 5 := Option.some.inj ((show Tryz.prog.funcNamed "pentimento/pentimentolaw16.RollBack" = some 5 by kernel_rfl).symm.trans hf) |>.symm
      obtain rfl : fn = Tryz.f5 := (Option.some.inj (Tryz.func5.symm.trans hfn)).symm
      exact ⟨by kernel_rfl, fun j t ht => by
        rw [Tryz.params5] at ht
        have hm : t ∈ [23, 53, 54] := by simpa using Array.mem_of_getElem? ht
        have hall : ([23, 53, 54].all fun u => !Tryz.prog.wantsStandIn u) = true := by kernel_rfl
        exact (show Tryz.prog.wantsStandIn t = false by simpa using List.all_eq_true.1 hall t hm)⟩)
    (by kernel_rfl)
#print axioms proved
end Go.Proofs.YtlgopekjjkdkiaaGreatDoor.RollBack
namespace Go.Proofs.YtlgopekjjkdkiaaGreatDoor
/-- The card, under a short name, for the claim. -/
theorem rollBack_holds : Rows.RollBackCardSaid := RollBack.proved
end Go.Proofs.YtlgopekjjkdkiaaGreatDoor
