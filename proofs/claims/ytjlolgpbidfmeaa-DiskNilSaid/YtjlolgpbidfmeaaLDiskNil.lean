import Derived.Test.YtjlolgpbidfmeaaRows
import Derived.Test.YtjlolgpbidfmeaaMDiskNil4
import Derived.Test.YtjlolgpbidfmeaaMDiskNil3
import Derived.Test.YtjlolgpbidfmeaaMDiskNil5
import Derived.WalkKit
import Derived.ProofKit
import Derived.OpenShut
import Derived.ShutString
import Derived.ChangeOld
import Derived.Below
import Derived.SizedLaws
/- The law DiskNil answers true, whatever it is handed; no condition but those of the given statement. -/
namespace Go.Proofs.Ytjlolgpbidfmeaa.DiskNil
open Go.ChangeShapes Go.WideShapes Go.ChangeAt Go.RowKit
open Go Go.Proofs.Ytjlolgpbidfmeaa.Ev Go.Proofs.Ytjlolgpbidfmeaa.X
set_option linter.unusedVariables false
theorem own : ownKnob Try.prog.godebug = none := by kernel_rfl
theorem laidOut : laidOutB Try.prog = true := by kernel_rfl
set_option maxRecDepth 100000 in
theorem lifted (os : Os) (started : os.Started) (H : Type) (enc : TypeId × Value → H) :
    ReturnsInHanded {} Try.checked os 14 .any (Rows.diskNilSpec.pre6 enc Try.prog Try.f14 Rows.diskNilRow.domain false) (Rows.diskNilSpec.post enc Try.prog Try.f14 false true false false) := by
  refine returnsInHanded_of_change_sized (C := Try.checked) own started (by kernel_rfl) Try.func14
    (ChangeSpec.witness6 (enc := enc) (C := Try.checked) false ⟨#[], #[.int .i64 0, .string ⟨#[]⟩], []⟩ 8 (by kernel_rfl) (by kernel_rfl) (by kernel_rfl) (by kernel_rfl)) ?_
  intro W base args ds gs before hval0 hW hcnd hsz0 _
  have hval : ∀ (j : Nat) t v, Try.f14.params[j]? = some t → args[j]? = some v → Value.okWide Try.prog W .any base t v := hval0
  have hlt0 := hW.lt
  have hW' := hW
  obtain ⟨p, q, hA0, hV, hpq, hfz, hnd⟩ := hW
  letI : FZ := ⟨fun a cap cs => FzW (Ctx.of W fun _ => False) a cap cs⟩
  have hfz1 : ∀ a cap cs, FZ.ok a cap cs → FzW (Ctx.of W fun _ => False) a cap cs := fun _ _ _ h => h
  have hfz2 : ∀ a cap cs, FzW (Ctx.of W fun _ => False) a cap cs → FZ.ok a cap cs := fun _ _ _ h => h
  have hA : DataW.TrodAll enc Try.prog W 0 (fun _ => true) true Try.f14.params.toList args.toList ds p := hA0
  have hAk := hA
  rw [Try.params14] at hA hval
  have hlt : ∀ x ∈ p, x.block < W.heap.size := fun x hx => hlt0 x (by rw [hpq]; simp [hx])
  obtain ⟨v0, v1, d0, d1, p0, p1, rfl, rfl, rfl, h0, h1⟩ := trodAll_two hA
  obtain ⟨rfl, rfl⟩ := trodVars_none hV
  obtain ⟨y0, rfl, w0, hp0⟩ := arg_int (k := .i64) (by kernel_rfl) (hval 0 3 v0 rfl rfl) h0
  obtain ⟨y1, rfl, w1, hp1⟩ := arg_str (by kernel_rfl) (hval 1 9 v1 rfl rfl) h1
  obtain ⟨F, hF⟩ := X.law_true (β := Res) y0 y1 w0 w1 ([], [])
  have hS : S14_1 F noS [.lf (.int .i64 y0), .lf (.str y1)] [] isTrueK = some ([], []) := hF
  refine (row_true (S14_1_ok F noS (noS_sound enter14)) hS (inv_nil hfz1) (cvs := [.int .i64 y0, .string y1]) ⟨rfl, rfl, trivial⟩).mono fun e W' ⟨he, hext⟩ => ?_
  subst he
  have bel := hext.below
  exact ⟨_, rfl, _, _, _, [], _, [], hW', trodAll_mk1 (shut_bool Try.underlying4 _), trodAll_below laidOut bel (by rw [Try.params14]; exact of_decide_eq_true (by kernel_rfl)) hAk hlt, rfl, bel.frame _, fun h => by cases h⟩
theorem over : Rows.diskNilRow.holds Try.pinned (OpenSpec.ofChange Rows.diskNilSpec) :=
  OpenClaim.holds_of_wide 14 Try.f14 rfl rfl rfl rfl rfl rfl rfl ⟨rfl, rfl, rfl, rfl, rfl⟩ rfl rfl rfl rfl rfl (by kernel_rfl) Try.func14 (by kernel_rfl)
    (of_decide_eq_true (by kernel_rfl)) (by unfold Func.isWrapper; first | (rw [if_pos (by decide +kernel)]; kernel_rfl) | (rw [if_neg (by decide +kernel)]; exact ⟨rfl, rfl⟩))
    (fun os started H enc _ => lifted os started H enc)
theorem proved : Rows.DiskNilSaid := over
#print axioms proved
end Go.Proofs.Ytjlolgpbidfmeaa.DiskNil
namespace Go.Proofs.Ytjlolgpbidfmeaa
/-- The row, under a short name, for the claim. -/
theorem diskNil_holds : Rows.DiskNilSaid := DiskNil.proved
end Go.Proofs.Ytjlolgpbidfmeaa
