import Derived.Test.YtlgopekjjkdkiaaDoorRows
import Derived.Test.YtlgopekjjkdkiaaDoorMUndoKeepsCard5
import Derived.Test.YtlgopekjjkdkiaaDoorMUndoKeepsCard4
import Derived.Test.YtlgopekjjkdkiaaDoorMUndoKeepsCard7
import Derived.WalkKit
import Derived.ProofKit
import Derived.OpenShut
import Derived.ShutString
import Derived.ChangeOld
import Derived.Below
import Derived.SizedLaws
import Derived.Test.YtlgopekjjkdkiaaDoorTie
import Derived.Test.YtlgopekjjkdkiaaDoorCards
import Derived.Lay
import Derived.LaidOnce
import Derived.SevenTiedAt
/- The law UndoKeeps answers true, whatever it is handed; no condition but those of the given statement. -/
namespace Go.Proofs.YtlgopekjjkdkiaaDoor.UndoKeeps
open Go.ChangeShapes Go.WideShapes Go.ChangeAt Go.RowKit
open Go Go.Proofs.YtlgopekjjkdkiaaDoor.Ev Go.Proofs.YtlgopekjjkdkiaaDoor.X
set_option linter.unusedVariables false
theorem own : ownKnob Tryd.prog.godebug = none := by kernel_rfl
theorem laidOut : laidOutB Tryd.prog = true := by kernel_rfl
set_option maxRecDepth 100000 in
theorem lifted (os : Os) (started : os.Started) (H : Type) (enc : TypeId × Value → H) :
    ReturnsInHanded {} Tryd.checked os 4 .any (fun w args => (Rows.undoKeepsSpec.pre enc Tryd.prog Tryd.f4 [] false w args ∧ laidMetH Tryd.prog Rows.undoKeepsRow.laid w) ∧ sizedMet enc Tryd.prog Tryd.f4 (OpenSpec.ofChange Rows.undoKeepsSpec) false w args)
      (Rows.undoKeepsSpec.post enc Tryd.prog Tryd.f4 false true false false) := by
  refine returnsInHanded_of_change_and (C := Tryd.checked) (X := fun w _ => laidMetH Tryd.prog Rows.undoKeepsRow.laid w) (fun _ _ _ hh h => h.of_heap hh) own started (by kernel_rfl) Tryd.func4
    (ChangeSpec.witness_shaped (enc := enc) (C := Tryd.checked) (os := os) (X := fun w _ => laidMetH Tryd.prog Rows.undoKeepsRow.laid w) false (World.laidAll Tryd.prog os Rows.undoKeepsRow.laid) #[.agg #[.int .i64 0, .int .i64 0, .int .i64 0, .int .i64 0], .slice none 0 0, .int .u64 0, .agg #[.int .i64 0, .slice none 0 0]] 8 (World.laidAll_os _ _ _)
      (World.shaped_of_ZipB (by kernel_rfl) (by kernel_rfl)) (by kernel_rfl) (by kernel_rfl) (by kernel_rfl)
      (by rw [MakeChecks.laidMetH_plain _ _ _ (by kernel_rfl)]; exact laidMet_laidAll _ (by kernel_rfl) (by kernel_rfl))) ?_
  intro W base args ds gs before hval0 hW hcnd hsz0 _ _
  have hval : ∀ (j : Nat) t v, Tryd.f4.params[j]? = some t → args[j]? = some v → Value.okWide Tryd.prog W .any base t v := hval0
  have hlt0 := hW.lt
  have hW' := hW
  obtain ⟨p, q, hA0, hV, hpq, hfz, hnd⟩ := hW
  letI : FZ := ⟨fun a cap cs => FzW (Ctx.of W fun _ => False) a cap cs⟩
  have hfz1 : ∀ a cap cs, FZ.ok a cap cs → FzW (Ctx.of W fun _ => False) a cap cs := fun _ _ _ h => h
  have hfz2 : ∀ a cap cs, FzW (Ctx.of W fun _ => False) a cap cs → FZ.ok a cap cs := fun _ _ _ h => h
  have hA : DataW.TrodAll enc Tryd.prog W 0 (fun _ => true) true Tryd.f4.params.toList args.toList ds p := hA0
  have hAk := hA
  rw [Tryd.params4] at hA hval
  have hlt : ∀ x ∈ p, x.block < W.heap.size := fun x hx => hlt0 x (by rw [hpq]; simp [hx])
  obtain ⟨v0, v1, v2, v3, d0, d1, d2, d3, p0, p1, p2, p3, rfl, rfl, rfl, h0, h1, h2, h3⟩ := trodAll_four hA
  obtain ⟨rfl, rfl⟩ := trodVars_none hV
  obtain ⟨y1, g1, s1⟩ := open_slice hfz2 (e := 3) (k := (.int .i64)) (sl := [.int .i64]) (fun y => y.1) (by kernel_rfl) (by kernel_rfl) (by kernel_rfl) (fun y => by kernel_rfl) (fun y hy => hy.1) (hval 1 24 v1 rfl rfl) h1
  obtain ⟨I1, R1, L1⟩ := inv_cons (inv_nil hfz1) (fun i ob h => by simp [hget] at h) s1
  obtain ⟨y0, r0, w0⟩ := arg_agg hfz2 (m := ([] ++ [g1])) (sl := [.int .i64, .int .i64, .int .i64, .int .i64]) (by kernel_rfl) (by kernel_rfl) (hval 0 23 v0 rfl rfl) h0
  obtain ⟨y2, rfl, w2, hp2⟩ := arg_int (k := .u64) (by kernel_rfl) (hval 2 25 v2 rfl rfl) h2
  obtain ⟨y3, r3, w3⟩ := arg_agg hfz2 (m := ([] ++ [g1])) (sl := [.int .i64, .sl .bool]) (by kernel_rfl) (by kernel_rfl) (hval 3 48 v3 rfl rfl) h3
  obtain ⟨F, hF⟩ := X.law_true (β := Res) y0.1 y0.2.1 y0.2.2.1 y0.2.2.2.1 y2 y3.1 y3.2.1 y1 w0.1 w0.2.1 w0.2.2.1 w0.2.2.2.1 s1.len s1.wf w2 w3.1 w3.2.1 ([], [])
  have hS : S4_1 F noS [.agg [.int .i64 y0.1, .int .i64 y0.2.1, .int .i64 y0.2.2.1, .int .i64 y0.2.2.2.1], .lf (.full 0), .lf (.int .u64 y2), .agg [.int .i64 y3.1, .sl .bool y3.2.1]] [some ⟨true, [.seq (.int .i64) 0 y1]⟩] isTrueK = some ([], []) := hF
  refine (row_true (S4_1_ok F noS (noS_sound enter4)) hS I1 (cvs := [v0, v1, .int .u64 y2, v3]) ⟨r0, L1, rfl, r3, trivial⟩).mono fun e W' ⟨he, hext⟩ => ?_
  subst he
  have bel := hext.below
  exact ⟨_, rfl, _, _, _, [], _, [], hW', trodAll_mk1 (shut_bool Tryd.underlying4 _), trodAll_below laidOut bel (by rw [Tryd.params4]; exact of_decide_eq_true (by kernel_rfl)) hAk hlt, rfl, bel.frame _, fun h => by cases h⟩
theorem over : Rows.undoKeepsRow.holds Tryd.pinned (OpenSpec.ofChange Rows.undoKeepsSpec) :=
  OpenClaim.holds_of_wide 4 Tryd.f4 rfl rfl rfl rfl rfl rfl rfl ⟨rfl, rfl, rfl, rfl, rfl⟩ rfl rfl rfl rfl rfl (by kernel_rfl) Tryd.func4 (by kernel_rfl)
    (of_decide_eq_true (by kernel_rfl)) (by unfold Func.isWrapper; first | (rw [if_pos (by decide +kernel)]; kernel_rfl) | (rw [if_neg (by decide +kernel)]; exact ⟨rfl, rfl⟩))
    (fun os started H enc _ => lifted os started H enc)
theorem proved : Rows.UndoKeepsCardSaid :=
  Claim7.holds_tied_plain_at .later [] [.data, .pinned] true (true, "ad9587036f8d5104ff67491e1afc714c46646399fd7cd28e33d6ee6b6d83bb75") false over (fun _ h => by cases h) (by kernel_rfl) (fun _ h => by cases h) undoKeeps_row_tie rfl ⟨rfl, rfl⟩ (by kernel_rfl) rfl
    (fun f fn hf hfn => by
      obtain rfl : f = 4 := Option.some.inj ((show Tryd.prog.funcNamed "pentimento/pentimentolaw15.UndoKeeps" = some 4 by kernel_rfl).symm.trans hf) |>.symm
      obtain rfl : fn = Tryd.f4 := (Option.some.inj (Tryd.func4.symm.trans hfn)).symm
      exact ⟨by kernel_rfl, fun j t ht => by
        rw [Tryd.params4] at ht
        have hm : t ∈ [23, 24, 25, 48] := by simpa using Array.mem_of_getElem? ht
        have hall : ([23, 24, 25, 48].all fun u => !Tryd.prog.wantsStandIn u) = true := by kernel_rfl
        exact (show Tryd.prog.wantsStandIn t = false by simpa using List.all_eq_true.1 hall t hm)⟩)
    (by kernel_rfl)
#print axioms proved
end Go.Proofs.YtlgopekjjkdkiaaDoor.UndoKeeps
namespace Go.Proofs.YtlgopekjjkdkiaaDoor
/-- The card, under a short name, for the claim. -/
theorem undoKeeps_holds : Rows.UndoKeepsCardSaid := UndoKeeps.proved
end Go.Proofs.YtlgopekjjkdkiaaDoor
