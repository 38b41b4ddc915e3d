/-
  DERIVED. GIVEN WITH THE SEED: THE CARDS: each row of YtillbabmlfjegaaGreatDoorRows.lean that lists a variable, with what it lists TIED to the program's text (the seventh form; the later family's looks); each row that meets fmt, with fmt's text TOLD by the authors' own Lean function (tested against real Go, not proved from fmt's source: count such statements apart). THE CARD IS WHAT COUNTS. Prove the row's statement (the work); the ties are given (YtillbabmlfjegaaGreatDoorTie.lean); close each card by the builder's one call (the guide's Derived/Test/ToyasCard.lean, 'card_holds'). Laid BY PROGRAM, IN A SANDBOX (cutbox-door.mjs). By AI agents, Wed Nov 11 2026. No macro, syntax, notation, axiom, sorry.
-/
import Derived.Test.YtillbabmlfjegaaGreatDoorRows
import GoSem.ClaimSeven
namespace Go.Proofs.YtillbabmlfjegaaGreatDoor
namespace Rows

/-- THE TIED CARD OF 'pentimentolaw11.DirtyLoads'. -/
def dirtyLoadsCard : Claim7 := { stood := { row := dirtyLoadsRow, standIns := [], harness := (true, "2a5944a7d9da00dfade529d63b2709ddd48c8af4c12251c1be40803f5880a431"), looks := false }, kinds := [], alts := [], laidByText := true, laidKinds := [.data, .pinned], laidTests := true, laidLooks := .later }
def DirtyLoadsCardSaid : Prop := Claim7.holds Tryz.pinned (.plain (OpenSpec.ofChange dirtyLoadsSpec)) dirtyLoadsCard

/-- THE SECOND FORM's CARD OF 'pentimentolaw11.DirtyLoads'. -/
def dirtyLoadsUptoCard : Claim7 := { stood := { row := dirtyLoadsUptoRow, standIns := [], harness := (true, "2a5944a7d9da00dfade529d63b2709ddd48c8af4c12251c1be40803f5880a431"), looks := false }, kinds := [], alts := [], laidByText := true, laidKinds := [.data, .pinned], laidTests := true, laidLooks := .later }
def DirtyLoadsUptoCardSaid : Prop := Claim7.holds Tryz.pinned (.plain (OpenSpec.upto dirtyLoadsSpec)) dirtyLoadsUptoCard
end Rows
end Go.Proofs.YtillbabmlfjegaaGreatDoor
