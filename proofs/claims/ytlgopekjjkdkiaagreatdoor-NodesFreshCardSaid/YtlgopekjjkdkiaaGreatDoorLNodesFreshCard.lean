import Derived.Test.YtlgopekjjkdkiaaGreatDoorRows
import Derived.Test.YtlgopekjjkdkiaaGreatDoorMNodesFreshCard6
import Derived.Test.YtlgopekjjkdkiaaGreatDoorMNodesFreshCard3
import Derived.Test.YtlgopekjjkdkiaaGreatDoorMNodesFreshCard7
import Derived.WalkKit
import Derived.ProofKit
import Derived.OpenShut
import Derived.ShutString
import Derived.ChangeOld
import Derived.Below
import Derived.SizedLaws
import Derived.Test.YtlgopekjjkdkiaaGreatDoorTie
import Derived.Test.YtlgopekjjkdkiaaGreatDoorCards
import Derived.Lay
import Derived.LaidOnce
import Derived.SevenTiedAt
/- The law NodesFresh answers true, whatever it is handed; no condition but those of the given statement. -/
namespace Go.Proofs.YtlgopekjjkdkiaaGreatDoor.NodesFresh
open Go.ChangeShapes Go.WideShapes Go.ChangeAt Go.RowKit
open Go Go.Proofs.YtlgopekjjkdkiaaGreatDoor.Ev Go.Proofs.YtlgopekjjkdkiaaGreatDoor.X
set_option linter.unusedVariables false
theorem own : ownKnob Tryz.prog.godebug = none := by kernel_rfl
theorem laidOut : laidOutB Tryz.prog = true := by kernel_rfl
set_option maxRecDepth 100000 in
theorem lifted (os : Os) (started : os.Started) (H : Type) (enc : TypeId × Value → H) :
    ReturnsInHanded {} Tryz.checked os 6 .any (fun w args => (Rows.nodesFreshSpec.pre enc Tryz.prog Tryz.f6 [] false w args ∧ laidMetH Tryz.prog Rows.nodesFreshRow.laid w) ∧ sizedMet enc Tryz.prog Tryz.f6 (OpenSpec.ofChange Rows.nodesFreshSpec) false w args)
      (Rows.nodesFreshSpec.post enc Tryz.prog Tryz.f6 false true false false) := by
  refine returnsInHanded_of_change_and (C := Tryz.checked) (X := fun w _ => laidMetH Tryz.prog Rows.nodesFreshRow.laid w) (fun _ _ _ hh h => h.of_heap hh) own started (by kernel_rfl) Tryz.func6
    (ChangeSpec.witness_shaped (enc := enc) (C := Tryz.checked) (os := os) (X := fun w _ => laidMetH Tryz.prog Rows.nodesFreshRow.laid w) false (World.laidAll Tryz.prog os Rows.nodesFreshRow.laid) #[.agg #[.int .i64 0, .int .i64 0, .int .i64 0, .int .i64 0], .slice none 0 0] 8 (World.laidAll_os _ _ _)
      (World.shaped_of_ZipB (by kernel_rfl) (by kernel_rfl)) (by kernel_rfl) (by kernel_rfl) (by kernel_rfl)
      (by rw [MakeChecks.laidMetH_plain _ _ _ (by kernel_rfl)]; exact laidMet_laidAll _ (by kernel_rfl) (by kernel_rfl))) ?_
  intro W base args ds gs before hval0 hW hcnd hsz0 _ _
  have hval : ∀ (j : Nat) t v, Tryz.f6.params[j]? = some t → args[j]? = some v → Value.okWide Tryz.prog W .any base t v := hval0
  have hlt0 := hW.lt
  have hW' := hW
  obtain ⟨p, q, hA0, hV, hpq, hfz, hnd⟩ := hW
  letI : FZ := ⟨fun a cap cs => FzW (Ctx.of W fun _ => False) a cap cs⟩
  have hfz1 : ∀ a cap cs, FZ.ok a cap cs → FzW (Ctx.of W fun _ => False) a cap cs := fun _ _ _ h => h
  have hfz2 : ∀ a cap cs, FzW (Ctx.of W fun _ => False) a cap cs → FZ.ok a cap cs := fun _ _ _ h => h
  have hA : DataW.TrodAll enc Tryz.prog W 0 (fun _ => true) true Tryz.f6.params.toList args.toList ds p := hA0
  have hAk := hA
  rw [Tryz.params6] at hA hval
  have hlt : ∀ x ∈ p, x.block < W.heap.size := fun x hx => hlt0 x (by rw [hpq]; simp [hx])
  obtain ⟨v0, v1, d0, d1, p0, p1, rfl, rfl, rfl, h0, h1⟩ := trodAll_two hA
  obtain ⟨rfl, rfl⟩ := trodVars_none hV
  obtain ⟨y1, g1, s1⟩ := open_slice hfz2 (e := 84) (k := (.pair (.int .i64) .str)) (sl := [.int .i64, .str]) (fun y => (y.1, y.2.1)) (by kernel_rfl) (by kernel_rfl) (by kernel_rfl) (fun y => by kernel_rfl) (fun y hy => ⟨hy.1, hy.2.1⟩) (hval 1 80 v1 rfl rfl) h1
  obtain ⟨I1, R1, L1⟩ := inv_cons (inv_nil hfz1) (fun i ob h => by simp [hget] at h) s1
  obtain ⟨y0, r0, w0⟩ := arg_agg hfz2 (m := ([] ++ [g1])) (sl := [.int .i64, .int .i64, .int .i64, .int .i64]) (by kernel_rfl) (by kernel_rfl) (hval 0 23 v0 rfl rfl) h0
  obtain ⟨F, hF⟩ := X.law_true (β := Res) y0.1 y0.2.1 y0.2.2.1 y0.2.2.2.1 y1 w0.1 w0.2.1 w0.2.2.1 w0.2.2.2.1 s1.len s1.wf ([], [])
  have hS : S6_1 F noS [.agg [.int .i64 y0.1, .int .i64 y0.2.1, .int .i64 y0.2.2.1, .int .i64 y0.2.2.2.1], .lf (.full 0)] [some ⟨true, [.seq (.pair (.int .i64) .str) 0 y1]⟩] isTrueK = some ([], []) := hF
  refine (row_true (S6_1_ok F noS (noS_sound enter6)) hS I1 (cvs := [v0, v1]) ⟨r0, L1, trivial⟩).mono fun e W' ⟨he, hext⟩ => ?_
  subst he
  have bel := hext.below
  exact ⟨_, rfl, _, _, _, [], _, [], hW', trodAll_mk1 (shut_bool Tryz.underlying4 _), trodAll_below laidOut bel (by rw [Tryz.params6]; exact of_decide_eq_true (by kernel_rfl)) hAk hlt, rfl, bel.frame _, fun h => by cases h⟩
theorem over : Rows.nodesFreshRow.holds Tryz.pinned (OpenSpec.ofChange Rows.nodesFreshSpec) :=
  OpenClaim.holds_of_wide 6 Tryz.f6 rfl rfl rfl rfl rfl rfl rfl ⟨rfl, rfl, rfl, rfl, rfl⟩ rfl rfl rfl rfl rfl (by kernel_rfl) Tryz.func6 (by kernel_rfl)
    (of_decide_eq_true (by kernel_rfl)) (by unfold Func.isWrapper; first | (rw [if_pos (by decide +kernel)]; kernel_rfl) | (rw [if_neg (by decide +kernel)]; exact ⟨rfl, rfl⟩))
    (fun os started H enc _ => lifted os started H enc)
theorem proved : Rows.NodesFreshCardSaid :=
  Claim7.holds_tied_plain_at .later [] [.data, .pinned] true (true, "53fb6a1ffba79bfd13139816bdc46bdf7eea810f357a8d41b28265652fcddd45") false over (fun _ h => by cases h) (by kernel_rfl) (fun _ h => by cases h) nodesFresh_row_tie rfl ⟨rfl, rfl⟩ (by kernel_rfl) rfl
    (fun f fn hf hfn => by
      obtain rfl : f = 6 := Option.some.inj ((show Tryz.prog.funcNamed "pentimento/pentimentolaw13.NodesFresh" = some 6 by kernel_rfl).symm.trans hf) |>.symm
      obtain rfl : fn = Tryz.f6 := (Option.some.inj (Tryz.func6.symm.trans hfn)).symm
      exact ⟨by kernel_rfl, fun j t ht => by
        rw [Tryz.params6] at ht
        have hm : t ∈ [23, 80] := by simpa using Array.mem_of_getElem? ht
        have hall : ([23, 80].all fun u => !Tryz.prog.wantsStandIn u) = true := by kernel_rfl
        exact (show Tryz.prog.wantsStandIn t = false by simpa using List.all_eq_true.1 hall t hm)⟩)
    (by kernel_rfl)
#print axioms proved
end Go.Proofs.YtlgopekjjkdkiaaGreatDoor.NodesFresh
namespace Go.Proofs.YtlgopekjjkdkiaaGreatDoor
/-- The card, under a short name, for the claim. -/
theorem nodesFresh_holds : Rows.NodesFreshCardSaid := NodesFresh.proved
end Go.Proofs.YtlgopekjjkdkiaaGreatDoor
