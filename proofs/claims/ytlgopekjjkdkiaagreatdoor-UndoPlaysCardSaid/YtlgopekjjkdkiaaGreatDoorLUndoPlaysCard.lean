import Derived.Test.YtlgopekjjkdkiaaGreatDoorRows
import Derived.Test.YtlgopekjjkdkiaaGreatDoorMUndoPlaysCard7
import Derived.Test.YtlgopekjjkdkiaaGreatDoorMUndoPlaysCard3
import Derived.Test.YtlgopekjjkdkiaaGreatDoorMUndoPlaysCard8
import Derived.WalkKit
import Derived.ProofKit
import Derived.OpenShut
import Derived.ShutString
import Derived.ChangeOld
import Derived.Below
import Derived.SizedLaws
import Derived.Test.YtlgopekjjkdkiaaGreatDoorTie
import Derived.Test.YtlgopekjjkdkiaaGreatDoorCards
import Derived.Lay
import Derived.LaidOnce
import Derived.SevenTiedAt
/- The law UndoPlays answers true, whatever it is handed; no condition but those of the given statement. -/
namespace Go.Proofs.YtlgopekjjkdkiaaGreatDoor.UndoPlays
open Go.ChangeShapes Go.WideShapes Go.ChangeAt Go.RowKit
open Go Go.Proofs.YtlgopekjjkdkiaaGreatDoor.Ev Go.Proofs.YtlgopekjjkdkiaaGreatDoor.X
set_option linter.unusedVariables false
theorem own : ownKnob Tryz.prog.godebug = none := by kernel_rfl
theorem laidOut : laidOutB Tryz.prog = true := by kernel_rfl
set_option maxRecDepth 100000 in
theorem lifted (os : Os) (started : os.Started) (H : Type) (enc : TypeId × Value → H) :
    ReturnsInHanded {} Tryz.checked os 4 .any (fun w args => (Rows.undoPlaysSpec.pre enc Tryz.prog Tryz.f4 [] false w args ∧ laidMetH Tryz.prog Rows.undoPlaysRow.laid w) ∧ sizedMet enc Tryz.prog Tryz.f4 (OpenSpec.ofChange Rows.undoPlaysSpec) false w args)
      (Rows.undoPlaysSpec.post enc Tryz.prog Tryz.f4 false true false false) := by
  refine returnsInHanded_of_change_and (C := Tryz.checked) (X := fun w _ => laidMetH Tryz.prog Rows.undoPlaysRow.laid w) (fun _ _ _ hh h => h.of_heap hh) own started (by kernel_rfl) Tryz.func4
    (ChangeSpec.witness_shaped (enc := enc) (C := Tryz.checked) (os := os) (X := fun w _ => laidMetH Tryz.prog Rows.undoPlaysRow.laid w) false (World.laidAll Tryz.prog os Rows.undoPlaysRow.laid) #[.agg #[.int .i64 0, .int .i64 0, .int .i64 0, .int .i64 0], .int .i64 0, .slice none 0 0] 8 (World.laidAll_os _ _ _)
      (World.shaped_of_ZipB (by kernel_rfl) (by kernel_rfl)) (by kernel_rfl) (by kernel_rfl) (by kernel_rfl)
      (by rw [MakeChecks.laidMetH_plain _ _ _ (by kernel_rfl)]; exact laidMet_laidAll _ (by kernel_rfl) (by kernel_rfl))) ?_
  intro W base args ds gs before hval0 hW hcnd hsz0 _ _
  have hval : ∀ (j : Nat) t v, Tryz.f4.params[j]? = some t → args[j]? = some v → Value.okWide Tryz.prog W .any base t v := hval0
  have hlt0 := hW.lt
  have hW' := hW
  obtain ⟨p, q, hA0, hV, hpq, hfz, hnd⟩ := hW
  letI : FZ := ⟨fun a cap cs => FzW (Ctx.of W fun _ => False) a cap cs⟩
  have hfz1 : ∀ a cap cs, FZ.ok a cap cs → FzW (Ctx.of W fun _ => False) a cap cs := fun _ _ _ h => h
  have hfz2 : ∀ a cap cs, FzW (Ctx.of W fun _ => False) a cap cs → FZ.ok a cap cs := fun _ _ _ h => h
  have hA : DataW.TrodAll enc Tryz.prog W 0 (fun _ => true) true Tryz.f4.params.toList args.toList ds p := hA0
  have hAk := hA
  rw [Tryz.params4] at hA hval
  have hlt : ∀ x ∈ p, x.block < W.heap.size := fun x hx => hlt0 x (by rw [hpq]; simp [hx])
  obtain ⟨v0, v1, v2, d0, d1, d2, p0, p1, p2, rfl, rfl, rfl, h0, h1, h2⟩ := trodAll_three hA
  obtain ⟨rfl, rfl⟩ := trodVars_none hV
  obtain ⟨y2, g2, s2⟩ := open_slice hfz2 (e := 50) (k := (.pair (.int .i64) (.pair (.int .i64) (.pair (.int .u64) (.pair (.int .u64) (.pair (.int .i64) (.pair .str (.sl .bool)))))))) (sl := [.int .i64, .int .i64, .int .u64, .int .u64, .int .i64, .str, .sl .bool]) (fun y => (y.1, (y.2.1, (y.2.2.1, (y.2.2.2.1, (y.2.2.2.2.1, (y.2.2.2.2.2.1, y.2.2.2.2.2.2.1))))))) (by kernel_rfl) (by kernel_rfl) (by kernel_rfl) (fun y => by kernel_rfl) (fun y hy => ⟨hy.1, ⟨hy.2.1, ⟨hy.2.2.1, ⟨hy.2.2.2.1, ⟨hy.2.2.2.2.1, ⟨hy.2.2.2.2.2.1, hy.2.2.2.2.2.2.1⟩⟩⟩⟩⟩⟩) (hval 2 48 v2 rfl rfl) h2
  obtain ⟨I2, R2, L2⟩ := inv_cons (inv_nil hfz1) (fun i ob h => by simp [hget] at h) s2
  obtain ⟨y0, r0, w0⟩ := arg_agg hfz2 (m := ([] ++ [g2])) (sl := [.int .i64, .int .i64, .int .i64, .int .i64]) (by kernel_rfl) (by kernel_rfl) (hval 0 23 v0 rfl rfl) h0
  obtain ⟨y1, rfl, w1, hp1⟩ := arg_int (k := .i64) (by kernel_rfl) (hval 1 3 v1 rfl rfl) h1
  obtain ⟨F, hF⟩ := X.law_true (β := Res) y0.1 y0.2.1 y0.2.2.1 y0.2.2.2.1 y1 y2 w0.1 w0.2.1 w0.2.2.1 w0.2.2.2.1 w1 s2.len s2.wf ([], [])
  have hS : S4_1 F noS [.agg [.int .i64 y0.1, .int .i64 y0.2.1, .int .i64 y0.2.2.1, .int .i64 y0.2.2.2.1], .lf (.int .i64 y1), .lf (.full 0)] [some ⟨true, [.seq (.pair (.int .i64) (.pair (.int .i64) (.pair (.int .u64) (.pair (.int .u64) (.pair (.int .i64) (.pair .str (.sl .bool))))))) 0 y2]⟩] isTrueK = some ([], []) := hF
  refine (row_true (S4_1_ok F noS (noS_sound enter4)) hS I2 (cvs := [v0, .int .i64 y1, v2]) ⟨r0, rfl, L2, trivial⟩).mono fun e W' ⟨he, hext⟩ => ?_
  subst he
  have bel := hext.below
  exact ⟨_, rfl, _, _, _, [], _, [], hW', trodAll_mk1 (shut_bool Tryz.underlying4 _), trodAll_below laidOut bel (by rw [Tryz.params4]; exact of_decide_eq_true (by kernel_rfl)) hAk hlt, rfl, bel.frame _, fun h => by cases h⟩
theorem over : Rows.undoPlaysRow.holds Tryz.pinned (OpenSpec.ofChange Rows.undoPlaysSpec) :=
  OpenClaim.holds_of_wide 4 Tryz.f4 rfl rfl rfl rfl rfl rfl rfl ⟨rfl, rfl, rfl, rfl, rfl⟩ rfl rfl rfl rfl rfl (by kernel_rfl) Tryz.func4 (by kernel_rfl)
    (of_decide_eq_true (by kernel_rfl)) (by unfold Func.isWrapper; first | (rw [if_pos (by decide +kernel)]; kernel_rfl) | (rw [if_neg (by decide +kernel)]; exact ⟨rfl, rfl⟩))
    (fun os started H enc _ => lifted os started H enc)
theorem proved : Rows.UndoPlaysCardSaid :=
  Claim7.holds_tied_plain_at .later [] [.data, .pinned] true (true, "53fb6a1ffba79bfd13139816bdc46bdf7eea810f357a8d41b28265652fcddd45") false over (fun _ h => by cases h) (by kernel_rfl) (fun _ h => by cases h) undoPlays_row_tie rfl ⟨rfl, rfl⟩ (by kernel_rfl) rfl
    (fun f fn hf hfn => by
      obtain rfl : f = 4 := Option.some.inj ((show Tryz.prog.funcNamed "pentimento/pentimentolaw15.UndoPlays" = some 4 by kernel_rfl).symm.trans hf) |>.symm
      obtain rfl : fn = Tryz.f4 := (Option.some.inj (Tryz.func4.symm.trans hfn)).symm
      exact ⟨by kernel_rfl, fun j t ht => by
        rw [Tryz.params4] at ht
        have hm : t ∈ [23, 3, 48] := by simpa using Array.mem_of_getElem? ht
        have hall : ([23, 3, 48].all fun u => !Tryz.prog.wantsStandIn u) = true := by kernel_rfl
        exact (show Tryz.prog.wantsStandIn t = false by simpa using List.all_eq_true.1 hall t hm)⟩)
    (by kernel_rfl)
#print axioms proved
end Go.Proofs.YtlgopekjjkdkiaaGreatDoor.UndoPlays
namespace Go.Proofs.YtlgopekjjkdkiaaGreatDoor
/-- The card, under a short name, for the claim. -/
theorem undoPlays_holds : Rows.UndoPlaysCardSaid := UndoPlays.proved
end Go.Proofs.YtlgopekjjkdkiaaGreatDoor
