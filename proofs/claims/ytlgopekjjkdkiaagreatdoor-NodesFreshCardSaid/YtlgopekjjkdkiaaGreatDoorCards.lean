/-
  DERIVED. GIVEN WITH THE SEED: THE CARDS: each row of YtlgopekjjkdkiaaGreatDoorRows.lean that lists a variable, with what it lists TIED to the program's text (the seventh form; the later family's looks); each row that meets fmt, with fmt's text TOLD by the authors' own Lean function (tested against real Go, not proved from fmt's source: count such statements apart). THE CARD IS WHAT COUNTS. Prove the row's statement (the work); the ties are given (YtlgopekjjkdkiaaGreatDoorTie.lean); close each card by the builder's one call (the guide's Derived/Test/ToyasCard.lean, 'card_holds'). Laid BY PROGRAM, IN A SANDBOX (cutbox-door.mjs). By AI agents, Wed Nov 11 2026. No macro, syntax, notation, axiom, sorry.
-/
import Derived.Test.YtlgopekjjkdkiaaGreatDoorRows
import GoSem.ClaimSeven
namespace Go.Proofs.YtlgopekjjkdkiaaGreatDoor
namespace Rows

/-- THE TIED CARD OF 'pentimentolaw17.CowPlays'. -/
def cowPlaysCard : Claim7 := { stood := { row := cowPlaysRow, standIns := [], harness := (true, "53fb6a1ffba79bfd13139816bdc46bdf7eea810f357a8d41b28265652fcddd45"), looks := false }, kinds := [], alts := [], laidByText := true, laidKinds := [.data, .pinned], laidTests := true, laidLooks := .later }
def CowPlaysCardSaid : Prop := Claim7.holds Tryz.pinned (.plain (OpenSpec.ofChange cowPlaysSpec)) cowPlaysCard

/-- THE TIED CARD OF 'pentimentolaw15.UndoPlays'. -/
def undoPlaysCard : Claim7 := { stood := { row := undoPlaysRow, standIns := [], harness := (true, "53fb6a1ffba79bfd13139816bdc46bdf7eea810f357a8d41b28265652fcddd45"), looks := false }, kinds := [], alts := [], laidByText := true, laidKinds := [.data, .pinned], laidTests := true, laidLooks := .later }
def UndoPlaysCardSaid : Prop := Claim7.holds Tryz.pinned (.plain (OpenSpec.ofChange undoPlaysSpec)) undoPlaysCard

/-- THE TIED CARD OF 'pentimentolaw16.RollBack'. -/
def rollBackCard : Claim7 := { stood := { row := rollBackRow, standIns := [], harness := (true, "53fb6a1ffba79bfd13139816bdc46bdf7eea810f357a8d41b28265652fcddd45"), looks := false }, kinds := [], alts := [], laidByText := true, laidKinds := [.data, .pinned], laidTests := true, laidLooks := .later }
def RollBackCardSaid : Prop := Claim7.holds Tryz.pinned (.plain (OpenSpec.ofChange rollBackSpec)) rollBackCard

/-- THE TIED CARD OF 'pentimentolaw13.NodesFresh'. -/
def nodesFreshCard : Claim7 := { stood := { row := nodesFreshRow, standIns := [], harness := (true, "53fb6a1ffba79bfd13139816bdc46bdf7eea810f357a8d41b28265652fcddd45"), looks := false }, kinds := [], alts := [], laidByText := true, laidKinds := [.data, .pinned], laidTests := true, laidLooks := .later }
def NodesFreshCardSaid : Prop := Claim7.holds Tryz.pinned (.plain (OpenSpec.ofChange nodesFreshSpec)) nodesFreshCard

/-- THE TIED CARD OF 'pentimentolaw13.NodesPlays'. -/
def nodesPlaysCard : Claim7 := { stood := { row := nodesPlaysRow, standIns := [], harness := (true, "53fb6a1ffba79bfd13139816bdc46bdf7eea810f357a8d41b28265652fcddd45"), looks := false }, kinds := [], alts := [], laidByText := true, laidKinds := [.data, .pinned], laidTests := true, laidLooks := .later }
def NodesPlaysCardSaid : Prop := Claim7.holds Tryz.pinned (.plain (OpenSpec.ofChange nodesPlaysSpec)) nodesPlaysCard

/-- THE TIED CARD OF 'pentimentolaw20.ScrubTells'. -/
def scrubTellsCard : Claim7 := { stood := { row := scrubTellsRow, standIns := [], harness := (true, "53fb6a1ffba79bfd13139816bdc46bdf7eea810f357a8d41b28265652fcddd45"), looks := false }, kinds := [], alts := [], laidByText := true, laidKinds := [.data, .pinned], laidTests := true, laidLooks := .later }
def ScrubTellsCardSaid : Prop := Claim7.holds Tryz.pinned (.plain (OpenSpec.ofChange scrubTellsSpec)) scrubTellsCard

/-- THE TIED CARD OF 'pentimentolaw20.ScrubFinds'. -/
def scrubFindsCard : Claim7 := { stood := { row := scrubFindsRow, standIns := [], harness := (true, "53fb6a1ffba79bfd13139816bdc46bdf7eea810f357a8d41b28265652fcddd45"), looks := false }, kinds := [], alts := [], laidByText := true, laidKinds := [.data, .pinned], laidTests := true, laidLooks := .later }
def ScrubFindsCardSaid : Prop := Claim7.holds Tryz.pinned (.plain (OpenSpec.ofChange scrubFindsSpec)) scrubFindsCard

/-- THE TIED CARD OF 'pentimentolaw20.ScrubEquals'. -/
def scrubEqualsCard : Claim7 := { stood := { row := scrubEqualsRow, standIns := [], harness := (true, "53fb6a1ffba79bfd13139816bdc46bdf7eea810f357a8d41b28265652fcddd45"), looks := false }, kinds := [], alts := [], laidByText := true, laidKinds := [.data, .pinned], laidTests := true, laidLooks := .later }
def ScrubEqualsCardSaid : Prop := Claim7.holds Tryz.pinned (.plain (OpenSpec.ofChange scrubEqualsSpec)) scrubEqualsCard

/-- THE SECOND FORM's CARD OF 'pentimentolaw17.CowPlays'. -/
def cowPlaysUptoCard : Claim7 := { stood := { row := cowPlaysUptoRow, standIns := [], harness := (true, "53fb6a1ffba79bfd13139816bdc46bdf7eea810f357a8d41b28265652fcddd45"), looks := false }, kinds := [], alts := [], laidByText := true, laidKinds := [.data, .pinned], laidTests := true, laidLooks := .later }
def CowPlaysUptoCardSaid : Prop := Claim7.holds Tryz.pinned (.plain (OpenSpec.upto cowPlaysSpec)) cowPlaysUptoCard

/-- THE SECOND FORM's CARD OF 'pentimentolaw15.UndoPlays'. -/
def undoPlaysUptoCard : Claim7 := { stood := { row := undoPlaysUptoRow, standIns := [], harness := (true, "53fb6a1ffba79bfd13139816bdc46bdf7eea810f357a8d41b28265652fcddd45"), looks := false }, kinds := [], alts := [], laidByText := true, laidKinds := [.data, .pinned], laidTests := true, laidLooks := .later }
def UndoPlaysUptoCardSaid : Prop := Claim7.holds Tryz.pinned (.plain (OpenSpec.upto undoPlaysSpec)) undoPlaysUptoCard

/-- THE SECOND FORM's CARD OF 'pentimentolaw16.RollBack'. -/
def rollBackUptoCard : Claim7 := { stood := { row := rollBackUptoRow, standIns := [], harness := (true, "53fb6a1ffba79bfd13139816bdc46bdf7eea810f357a8d41b28265652fcddd45"), looks := false }, kinds := [], alts := [], laidByText := true, laidKinds := [.data, .pinned], laidTests := true, laidLooks := .later }
def RollBackUptoCardSaid : Prop := Claim7.holds Tryz.pinned (.plain (OpenSpec.upto rollBackSpec)) rollBackUptoCard

/-- THE SECOND FORM's CARD OF 'pentimentolaw13.NodesFresh'. -/
def nodesFreshUptoCard : Claim7 := { stood := { row := nodesFreshUptoRow, standIns := [], harness := (true, "53fb6a1ffba79bfd13139816bdc46bdf7eea810f357a8d41b28265652fcddd45"), looks := false }, kinds := [], alts := [], laidByText := true, laidKinds := [.data, .pinned], laidTests := true, laidLooks := .later }
def NodesFreshUptoCardSaid : Prop := Claim7.holds Tryz.pinned (.plain (OpenSpec.upto nodesFreshSpec)) nodesFreshUptoCard

/-- THE SECOND FORM's CARD OF 'pentimentolaw13.NodesPlays'. -/
def nodesPlaysUptoCard : Claim7 := { stood := { row := nodesPlaysUptoRow, standIns := [], harness := (true, "53fb6a1ffba79bfd13139816bdc46bdf7eea810f357a8d41b28265652fcddd45"), looks := false }, kinds := [], alts := [], laidByText := true, laidKinds := [.data, .pinned], laidTests := true, laidLooks := .later }
def NodesPlaysUptoCardSaid : Prop := Claim7.holds Tryz.pinned (.plain (OpenSpec.upto nodesPlaysSpec)) nodesPlaysUptoCard

/-- THE SECOND FORM's CARD OF 'pentimentolaw20.ScrubTells'. -/
def scrubTellsUptoCard : Claim7 := { stood := { row := scrubTellsUptoRow, standIns := [], harness := (true, "53fb6a1ffba79bfd13139816bdc46bdf7eea810f357a8d41b28265652fcddd45"), looks := false }, kinds := [], alts := [], laidByText := true, laidKinds := [.data, .pinned], laidTests := true, laidLooks := .later }
def ScrubTellsUptoCardSaid : Prop := Claim7.holds Tryz.pinned (.plain (OpenSpec.upto scrubTellsSpec)) scrubTellsUptoCard

/-- THE SECOND FORM's CARD OF 'pentimentolaw20.ScrubFinds'. -/
def scrubFindsUptoCard : Claim7 := { stood := { row := scrubFindsUptoRow, standIns := [], harness := (true, "53fb6a1ffba79bfd13139816bdc46bdf7eea810f357a8d41b28265652fcddd45"), looks := false }, kinds := [], alts := [], laidByText := true, laidKinds := [.data, .pinned], laidTests := true, laidLooks := .later }
def ScrubFindsUptoCardSaid : Prop := Claim7.holds Tryz.pinned (.plain (OpenSpec.upto scrubFindsSpec)) scrubFindsUptoCard

/-- THE SECOND FORM's CARD OF 'pentimentolaw20.ScrubEquals'. -/
def scrubEqualsUptoCard : Claim7 := { stood := { row := scrubEqualsUptoRow, standIns := [], harness := (true, "53fb6a1ffba79bfd13139816bdc46bdf7eea810f357a8d41b28265652fcddd45"), looks := false }, kinds := [], alts := [], laidByText := true, laidKinds := [.data, .pinned], laidTests := true, laidLooks := .later }
def ScrubEqualsUptoCardSaid : Prop := Claim7.holds Tryz.pinned (.plain (OpenSpec.upto scrubEqualsSpec)) scrubEqualsUptoCard
end Rows
end Go.Proofs.YtlgopekjjkdkiaaGreatDoor
