/-
  DERIVED. GIVEN WITH THE SEED: THE CARDS: each row of YtlgopekjjkdkiaaDoorRows.lean that lists a variable, with what it lists TIED to the program's text (the seventh form; the later family's looks); each row that meets fmt, with fmt's text TOLD by the authors' own Lean function (tested against real Go, not proved from fmt's source: count such statements apart). THE CARD IS WHAT COUNTS. Prove the row's statement (the work); the ties are given (YtlgopekjjkdkiaaDoorTie.lean); close each card by the builder's one call (the guide's Derived/Test/ToyasCard.lean, 'card_holds'). Laid BY PROGRAM, IN A SANDBOX (cutbox-door.mjs). By AI agents, Wed Nov 11 2026. No macro, syntax, notation, axiom, sorry.
-/
import Derived.Test.YtlgopekjjkdkiaaDoorRows
import GoSem.ClaimSeven
namespace Go.Proofs.YtlgopekjjkdkiaaDoor
namespace Rows

/-- THE TIED CARD OF 'pentimentolaw17.CowKeeps'. -/
def cowKeepsCard : Claim7 := { stood := { row := cowKeepsRow, standIns := [], harness := (true, "ad9587036f8d5104ff67491e1afc714c46646399fd7cd28e33d6ee6b6d83bb75"), looks := false }, kinds := [], alts := [], laidByText := true, laidKinds := [.data, .pinned], laidTests := true, laidLooks := .later }
def CowKeepsCardSaid : Prop := Claim7.holds Tryd.pinned (.plain (OpenSpec.ofChange cowKeepsSpec)) cowKeepsCard

/-- THE TIED CARD OF 'pentimentolaw15.UndoKeeps'. -/
def undoKeepsCard : Claim7 := { stood := { row := undoKeepsRow, standIns := [], harness := (true, "ad9587036f8d5104ff67491e1afc714c46646399fd7cd28e33d6ee6b6d83bb75"), looks := false }, kinds := [], alts := [], laidByText := true, laidKinds := [.data, .pinned], laidTests := true, laidLooks := .later }
def UndoKeepsCardSaid : Prop := Claim7.holds Tryd.pinned (.plain (OpenSpec.ofChange undoKeepsSpec)) undoKeepsCard

/-- THE SECOND FORM's CARD OF 'pentimentolaw17.CowKeeps'. -/
def cowKeepsUptoCard : Claim7 := { stood := { row := cowKeepsUptoRow, standIns := [], harness := (true, "ad9587036f8d5104ff67491e1afc714c46646399fd7cd28e33d6ee6b6d83bb75"), looks := false }, kinds := [], alts := [], laidByText := true, laidKinds := [.data, .pinned], laidTests := true, laidLooks := .later }
def CowKeepsUptoCardSaid : Prop := Claim7.holds Tryd.pinned (.plain (OpenSpec.upto cowKeepsSpec)) cowKeepsUptoCard

/-- THE SECOND FORM's CARD OF 'pentimentolaw15.UndoKeeps'. -/
def undoKeepsUptoCard : Claim7 := { stood := { row := undoKeepsUptoRow, standIns := [], harness := (true, "ad9587036f8d5104ff67491e1afc714c46646399fd7cd28e33d6ee6b6d83bb75"), looks := false }, kinds := [], alts := [], laidByText := true, laidKinds := [.data, .pinned], laidTests := true, laidLooks := .later }
def UndoKeepsUptoCardSaid : Prop := Claim7.holds Tryd.pinned (.plain (OpenSpec.upto undoKeepsSpec)) undoKeepsUptoCard
end Rows
end Go.Proofs.YtlgopekjjkdkiaaDoor
