import Derived.Test.YtlgopekjjkdkiaaGreatDoorRows
import Derived.Test.YtlgopekjjkdkiaaGreatDoorMNodesPlaysCard7
import Derived.Test.YtlgopekjjkdkiaaGreatDoorMNodesPlaysCard3
import Derived.Test.YtlgopekjjkdkiaaGreatDoorMNodesPlaysCard8
import Derived.WalkKit
import Derived.ProofKit
import Derived.OpenShut
import Derived.ShutString
import Derived.ChangeOld
import Derived.Below
import Derived.SizedLaws
import Derived.Test.YtlgopekjjkdkiaaGreatDoorTie
import Derived.Test.YtlgopekjjkdkiaaGreatDoorCards
import Derived.Lay
import Derived.LaidOnce
import Derived.SevenTiedAt
/- The law NodesPlays answers true, whatever it is handed; no condition but those of the given statement. -/
namespace Go.Proofs.YtlgopekjjkdkiaaGreatDoor.NodesPlays
open Go.ChangeShapes Go.WideShapes Go.ChangeAt Go.RowKit
open Go Go.Proofs.YtlgopekjjkdkiaaGreatDoor.Ev Go.Proofs.YtlgopekjjkdkiaaGreatDoor.X
set_option linter.unusedVariables false
theorem own : ownKnob Tryz.prog.godebug = none := by kernel_rfl
theorem laidOut : laidOutB Tryz.prog = true := by kernel_rfl
set_option maxRecDepth 100000 in
theorem lifted (os : Os) (started : os.Started) (H : Type) (enc : TypeId × Value → H) :
    ReturnsInHanded {} Tryz.checked os 7 .any (fun w args => (Rows.nodesPlaysSpec.pre enc Tryz.prog Tryz.f7 [] false w args ∧ laidMetH Tryz.prog Rows.nodesPlaysRow.laid w) ∧ sizedMet enc Tryz.prog Tryz.f7 (OpenSpec.ofChange Rows.nodesPlaysSpec) false w args)
      (Rows.nodesPlaysSpec.post enc Tryz.prog Tryz.f7 false true false false) := by
  refine returnsInHanded_of_change_and (C := Tryz.checked) (X := fun w _ => laidMetH Tryz.prog Rows.nodesPlaysRow.laid w) (fun _ _ _ hh h => h.of_heap hh) own started (by kernel_rfl) Tryz.func7
    (ChangeSpec.witness_shaped (enc := enc) (C := Tryz.checked) (os := os) (X := fun w _ => laidMetH Tryz.prog Rows.nodesPlaysRow.laid w) false (World.laidAll Tryz.prog os Rows.nodesPlaysRow.laid) #[.agg #[.int .i64 0, .int .i64 0, .int .i64 0, .int .i64 0], .slice none 0 0] 8 (World.laidAll_os _ _ _)
      (World.shaped_of_ZipB (by kernel_rfl) (by kernel_rfl)) (by kernel_rfl) (by kernel_rfl) (by kernel_rfl)
      (by rw [MakeChecks.laidMetH_plain _ _ _ (by kernel_rfl)]; exact laidMet_laidAll _ (by kernel_rfl) (by kernel_rfl))) ?_
  intro W base args ds gs before hval0 hW hcnd hsz0 _ _
  have hval : ∀ (j : Nat) t v, Tryz.f7.params[j]? = some t → args[j]? = some v → Value.okWide Tryz.prog W .any base t v := hval0
  have hlt0 := hW.lt
  have hW' := hW
  obtain ⟨p, q, hA0, hV, hpq, hfz, hnd⟩ := hW
  letI : FZ := ⟨fun a cap cs => FzW (Ctx.of W fun _ => False) a cap cs⟩
  have hfz1 : ∀ a cap cs, FZ.ok a cap cs → FzW (Ctx.of W fun _ => False) a cap cs := fun _ _ _ h => h
  have hfz2 : ∀ a cap cs, FzW (Ctx.of W fun _ => False) a cap cs → FZ.ok a cap cs := fun _ _ _ h => h
  have hA : DataW.TrodAll enc Tryz.prog W 0 (fun _ => true) true Tryz.f7.params.toList args.toList ds p := hA0
  have hAk := hA
  rw [Tryz.params7] at hA hval
  have hlt : ∀ x ∈ p, x.block < W.heap.size := fun x hx => hlt0 x (by rw [hpq]; simp [hx])
  obtain ⟨v0, v1, d0, d1, p0, p1, rfl, rfl, rfl, h0, h1⟩ := trodAll_two hA
  obtain ⟨rfl, rfl⟩ := trodVars_none hV
  obtain ⟨y1, g1, s1⟩ := open_slice hfz2 (e := 98) (k := (.pair (.int .i64) (.pair (.int .i64) (.pair .str (.pair (.sl (.int .i64)) (.sl .bool)))))) (sl := [.int .i64, .int .i64, .str, .sl (.int .i64), .sl .bool]) (fun y => (y.1, (y.2.1, (y.2.2.1, (y.2.2.2.1, y.2.2.2.2.1))))) (by kernel_rfl) (by kernel_rfl) (by kernel_rfl) (fun y => by kernel_rfl) (fun y hy => ⟨hy.1, ⟨hy.2.1, ⟨hy.2.2.1, ⟨hy.2.2.2.1, hy.2.2.2.2.1⟩⟩⟩⟩) (hval 1 96 v1 rfl rfl) h1
  obtain ⟨I1, R1, L1⟩ := inv_cons (inv_nil hfz1) (fun i ob h => by simp [hget] at h) s1
  obtain ⟨y0, r0, w0⟩ := arg_agg hfz2 (m := ([] ++ [g1])) (sl := [.int .i64, .int .i64, .int .i64, .int .i64]) (by kernel_rfl) (by kernel_rfl) (hval 0 23 v0 rfl rfl) h0
  obtain ⟨F, hF⟩ := X.law_true (β := Res) y0.1 y0.2.1 y0.2.2.1 y0.2.2.2.1 y1 w0.1 w0.2.1 w0.2.2.1 w0.2.2.2.1 s1.len s1.wf ([], [])
  have hS : S7_1 F noS [.agg [.int .i64 y0.1, .int .i64 y0.2.1, .int .i64 y0.2.2.1, .int .i64 y0.2.2.2.1], .lf (.full 0)] [some ⟨true, [.seq (.pair (.int .i64) (.pair (.int .i64) (.pair .str (.pair (.sl (.int .i64)) (.sl .bool))))) 0 y1]⟩] isTrueK = some ([], []) := hF
  refine (row_true (S7_1_ok F noS (noS_sound enter7)) hS I1 (cvs := [v0, v1]) ⟨r0, L1, trivial⟩).mono fun e W' ⟨he, hext⟩ => ?_
  subst he
  have bel := hext.below
  exact ⟨_, rfl, _, _, _, [], _, [], hW', trodAll_mk1 (shut_bool Tryz.underlying4 _), trodAll_below laidOut bel (by rw [Tryz.params7]; exact of_decide_eq_true (by kernel_rfl)) hAk hlt, rfl, bel.frame _, fun h => by cases h⟩
theorem over : Rows.nodesPlaysRow.holds Tryz.pinned (OpenSpec.ofChange Rows.nodesPlaysSpec) :=
  OpenClaim.holds_of_wide 7 Tryz.f7 rfl rfl rfl rfl rfl rfl rfl ⟨rfl, rfl, rfl, rfl, rfl⟩ rfl rfl rfl rfl rfl (by kernel_rfl) Tryz.func7 (by kernel_rfl)
    (of_decide_eq_true (by kernel_rfl)) (by unfold Func.isWrapper; first | (rw [if_pos (by decide +kernel)]; kernel_rfl) | (rw [if_neg (by decide +kernel)]; exact ⟨rfl, rfl⟩))
    (fun os started H enc _ => lifted os started H enc)
theorem proved : Rows.NodesPlaysCardSaid :=
  Claim7.holds_tied_plain_at .later [] [.data, .pinned] true (true, "53fb6a1ffba79bfd13139816bdc46bdf7eea810f357a8d41b28265652fcddd45") false over (fun _ h => by cases h) (by kernel_rfl) (fun _ h => by cases h) nodesPlays_row_tie rfl ⟨rfl, rfl⟩ (by kernel_rfl) rfl
    (fun f fn hf hfn => by
      obtain rfl : f = 7 := Option.some.inj ((show Tryz.prog.funcNamed "pentimento/pentimentolaw13.NodesPlays" = some 7 by kernel_rfl).symm.trans hf) |>.symm
      obtain rfl : fn = Tryz.f7 := (Option.some.inj (Tryz.func7.symm.trans hfn)).symm
      exact ⟨by kernel_rfl, fun j t ht => by
        rw [Tryz.params7] at ht
        have hm : t ∈ [23, 96] := by simpa using Array.mem_of_getElem? ht
        have hall : ([23, 96].all fun u => !Tryz.prog.wantsStandIn u) = true := by kernel_rfl
        exact (show Tryz.prog.wantsStandIn t = false by simpa using List.all_eq_true.1 hall t hm)⟩)
    (by kernel_rfl)
#print axioms proved
end Go.Proofs.YtlgopekjjkdkiaaGreatDoor.NodesPlays
namespace Go.Proofs.YtlgopekjjkdkiaaGreatDoor
/-- The card, under a short name, for the claim. -/
theorem nodesPlays_holds : Rows.NodesPlaysCardSaid := NodesPlays.proved
end Go.Proofs.YtlgopekjjkdkiaaGreatDoor
