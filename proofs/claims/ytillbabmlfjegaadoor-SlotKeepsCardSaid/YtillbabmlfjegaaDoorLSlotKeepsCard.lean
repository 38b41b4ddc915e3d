import Derived.Test.YtillbabmlfjegaaDoorRows
import Derived.Test.YtillbabmlfjegaaDoorMSlotKeepsCard4
import Derived.Test.YtillbabmlfjegaaDoorMSlotKeepsCard3
import Derived.Test.YtillbabmlfjegaaDoorMSlotKeepsCard6
import Derived.WalkKit
import Derived.ProofKit
import Derived.OpenShut
import Derived.ShutString
import Derived.ChangeOld
import Derived.Below
import Derived.SizedLaws
import Derived.Test.YtillbabmlfjegaaDoorTie
import Derived.Test.YtillbabmlfjegaaDoorCards
import Derived.Lay
import Derived.LaidOnce
import Derived.SevenTiedAt
/- The law SlotKeeps answers true, whatever it is handed; no condition but those of the given statement. -/
namespace Go.Proofs.YtillbabmlfjegaaDoor.SlotKeeps
open Go.ChangeShapes Go.WideShapes Go.ChangeAt Go.RowKit
open Go Go.Proofs.YtillbabmlfjegaaDoor.Ev Go.Proofs.YtillbabmlfjegaaDoor.X
set_option linter.unusedVariables false
theorem own : ownKnob Tryd.prog.godebug = none := by kernel_rfl
theorem laidOut : laidOutB Tryd.prog = true := by kernel_rfl
set_option maxRecDepth 100000 in
theorem lifted (os : Os) (started : os.Started) (H : Type) (enc : TypeId × Value → H) :
    ReturnsInHanded {} Tryd.checked os 7 .any (fun w args => (Rows.slotKeepsSpec.pre enc Tryd.prog Tryd.f7 [] false w args ∧ laidMetH Tryd.prog Rows.slotKeepsRow.laid w) ∧ sizedMet enc Tryd.prog Tryd.f7 (OpenSpec.ofChange Rows.slotKeepsSpec) false w args)
      (Rows.slotKeepsSpec.post enc Tryd.prog Tryd.f7 false true false false) := by
  refine returnsInHanded_of_change_and (C := Tryd.checked) (X := fun w _ => laidMetH Tryd.prog Rows.slotKeepsRow.laid w) (fun _ _ _ hh h => h.of_heap hh) own started (by kernel_rfl) Tryd.func7
    (ChangeSpec.witness_shaped (enc := enc) (C := Tryd.checked) (os := os) (X := fun w _ => laidMetH Tryd.prog Rows.slotKeepsRow.laid w) false (World.laidAll Tryd.prog os Rows.slotKeepsRow.laid) #[.int .u64 0, .string ⟨#[]⟩, .string ⟨#[]⟩, .agg #[.int .i64 0, .slice none 0 0]] 8 (World.laidAll_os _ _ _)
      (World.shaped_of_ZipB (by kernel_rfl) (by kernel_rfl)) (by kernel_rfl) (by kernel_rfl) (by kernel_rfl)
      (by rw [MakeChecks.laidMetH_plain _ _ _ (by kernel_rfl)]; exact laidMet_laidAll _ (by kernel_rfl) (by kernel_rfl))) ?_
  intro W base args ds gs before hval0 hW hcnd hsz0 _ _
  have hval : ∀ (j : Nat) t v, Tryd.f7.params[j]? = some t → args[j]? = some v → Value.okWide Tryd.prog W .any base t v := hval0
  have hlt0 := hW.lt
  have hW' := hW
  obtain ⟨p, q, hA0, hV, hpq, hfz, hnd⟩ := hW
  letI : FZ := ⟨fun a cap cs => FzW (Ctx.of W fun _ => False) a cap cs⟩
  have hfz1 : ∀ a cap cs, FZ.ok a cap cs → FzW (Ctx.of W fun _ => False) a cap cs := fun _ _ _ h => h
  have hfz2 : ∀ a cap cs, FzW (Ctx.of W fun _ => False) a cap cs → FZ.ok a cap cs := fun _ _ _ h => h
  have hA : DataW.TrodAll enc Tryd.prog W 0 (fun _ => true) true Tryd.f7.params.toList args.toList ds p := hA0
  have hAk := hA
  rw [Tryd.params7] at hA hval
  have hlt : ∀ x ∈ p, x.block < W.heap.size := fun x hx => hlt0 x (by rw [hpq]; simp [hx])
  obtain ⟨v0, v1, v2, v3, d0, d1, d2, d3, p0, p1, p2, p3, rfl, rfl, rfl, h0, h1, h2, h3⟩ := trodAll_four hA
  obtain ⟨rfl, rfl⟩ := trodVars_none hV
  obtain ⟨y0, rfl, w0, hp0⟩ := arg_int (k := .u64) (by kernel_rfl) (hval 0 34 v0 rfl rfl) h0
  obtain ⟨y1, rfl, w1, hp1⟩ := arg_str (by kernel_rfl) (hval 1 9 v1 rfl rfl) h1
  obtain ⟨y2, rfl, w2, hp2⟩ := arg_str (by kernel_rfl) (hval 2 9 v2 rfl rfl) h2
  obtain ⟨y3, r3, w3⟩ := arg_agg hfz2 (m := []) (sl := [.int .i64, .sl .bool]) (by kernel_rfl) (by kernel_rfl) (hval 3 43 v3 rfl rfl) h3
  obtain ⟨F, hF⟩ := X.law_true (β := Res) y0 y1 y2 y3.1 y3.2.1 w0 w1 w2 w3.1 w3.2.1 ([], [])
  have hS : S7_1 F noS [.lf (.int .u64 y0), .lf (.str y1), .lf (.str y2), .agg [.int .i64 y3.1, .sl .bool y3.2.1]] [] isTrueK = some ([], []) := hF
  refine (row_true (S7_1_ok F noS (noS_sound enter7)) hS (inv_nil hfz1) (cvs := [.int .u64 y0, .string y1, .string y2, v3]) ⟨rfl, rfl, rfl, r3, trivial⟩).mono fun e W' ⟨he, hext⟩ => ?_
  subst he
  have bel := hext.below
  exact ⟨_, rfl, _, _, _, [], _, [], hW', trodAll_mk1 (shut_bool Tryd.underlying4 _), trodAll_below laidOut bel (by rw [Tryd.params7]; exact of_decide_eq_true (by kernel_rfl)) hAk hlt, rfl, bel.frame _, fun h => by cases h⟩
theorem over : Rows.slotKeepsRow.holds Tryd.pinned (OpenSpec.ofChange Rows.slotKeepsSpec) :=
  OpenClaim.holds_of_wide 7 Tryd.f7 rfl rfl rfl rfl rfl rfl rfl ⟨rfl, rfl, rfl, rfl, rfl⟩ rfl rfl rfl rfl rfl (by kernel_rfl) Tryd.func7 (by kernel_rfl)
    (of_decide_eq_true (by kernel_rfl)) (by unfold Func.isWrapper; first | (rw [if_pos (by decide +kernel)]; kernel_rfl) | (rw [if_neg (by decide +kernel)]; exact ⟨rfl, rfl⟩))
    (fun os started H enc _ => lifted os started H enc)
theorem proved : Rows.SlotKeepsCardSaid :=
  Claim7.holds_tied_plain_at .later [] [.data, .pinned] true (true, "311a26607ac691dcafea57c50896634131c5d55fc76a6abbecba387b9af79b98") false over (fun _ h => by cases h) (by kernel_rfl) (fun _ h => by cases h) slotKeeps_row_tie rfl ⟨rfl, rfl⟩ (by kernel_rfl) rfl
    (fun f fn hf hfn => by
      obtain rfl : f = 7 := Option.some.inj ((show Tryd.prog.funcNamed "pentimento/pentimentolaw09.SlotKeeps" = some 7 by kernel_rfl).symm.trans hf) |>.symm
      obtain rfl : fn = Tryd.f7 := (Option.some.inj (Tryd.func7.symm.trans hfn)).symm
      exact ⟨by kernel_rfl, fun j t ht => by
        rw [Tryd.params7] at ht
        have hm : t ∈ [34, 9, 9, 43] := by simpa using Array.mem_of_getElem? ht
        have hall : ([34, 9, 9, 43].all fun u => !Tryd.prog.wantsStandIn u) = true := by kernel_rfl
        exact (show Tryd.prog.wantsStandIn t = false by simpa using List.all_eq_true.1 hall t hm)⟩)
    (by kernel_rfl)
#print axioms proved
end Go.Proofs.YtillbabmlfjegaaDoor.SlotKeeps
namespace Go.Proofs.YtillbabmlfjegaaDoor
/-- The card, under a short name, for the claim. -/
theorem slotKeeps_holds : Rows.SlotKeepsCardSaid := SlotKeeps.proved
end Go.Proofs.YtillbabmlfjegaaDoor
