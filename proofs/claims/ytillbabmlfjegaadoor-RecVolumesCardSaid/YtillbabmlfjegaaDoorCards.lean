/-
  DERIVED. GIVEN WITH THE SEED: THE CARDS: each row of YtillbabmlfjegaaDoorRows.lean that lists a variable, with what it lists TIED to the program's text (the seventh form; the later family's looks); each row that meets fmt, with fmt's text TOLD by the authors' own Lean function (tested against real Go, not proved from fmt's source: count such statements apart). THE CARD IS WHAT COUNTS. Prove the row's statement (the work); the ties are given (YtillbabmlfjegaaDoorTie.lean); close each card by the builder's one call (the guide's Derived/Test/ToyasCard.lean, 'card_holds'). Laid BY PROGRAM, IN A SANDBOX (cutbox-door.mjs). By AI agents, Wed Nov 11 2026. No macro, syntax, notation, axiom, sorry.
-/
import Derived.Test.YtillbabmlfjegaaDoorRows
import GoSem.ClaimSeven
namespace Go.Proofs.YtillbabmlfjegaaDoor
namespace Rows

/-- THE TIED CARD OF 'pentimentolaw08.RecMakes'. -/
def recMakesCard : Claim7 := { stood := { row := recMakesRow, standIns := [], harness := (true, "311a26607ac691dcafea57c50896634131c5d55fc76a6abbecba387b9af79b98"), looks := false }, kinds := [], alts := [], laidByText := true, laidKinds := [.data, .pinned], laidTests := true, laidLooks := .later }
def RecMakesCardSaid : Prop := Claim7.holds Tryd.pinned (.plain (OpenSpec.ofChange recMakesSpec)) recMakesCard

/-- THE TIED CARD OF 'pentimentolaw08.RecOpens'. -/
def recOpensCard : Claim7 := { stood := { row := recOpensRow, standIns := [], harness := (true, "311a26607ac691dcafea57c50896634131c5d55fc76a6abbecba387b9af79b98"), looks := false }, kinds := [], alts := [], laidByText := true, laidKinds := [.data, .pinned], laidTests := true, laidLooks := .later }
def RecOpensCardSaid : Prop := Claim7.holds Tryd.pinned (.plain (OpenSpec.ofChange recOpensSpec)) recOpensCard

/-- THE TIED CARD OF 'pentimentolaw08.RecByte'. -/
def recByteCard : Claim7 := { stood := { row := recByteRow, standIns := [], harness := (true, "311a26607ac691dcafea57c50896634131c5d55fc76a6abbecba387b9af79b98"), looks := false }, kinds := [], alts := [], laidByText := true, laidKinds := [.data, .pinned], laidTests := true, laidLooks := .later }
def RecByteCardSaid : Prop := Claim7.holds Tryd.pinned (.plain (OpenSpec.ofChange recByteSpec)) recByteCard

/-- THE TIED CARD OF 'pentimentolaw08.RecVolumes'. -/
def recVolumesCard : Claim7 := { stood := { row := recVolumesRow, standIns := [], harness := (true, "311a26607ac691dcafea57c50896634131c5d55fc76a6abbecba387b9af79b98"), looks := false }, kinds := [], alts := [], laidByText := true, laidKinds := [.data, .pinned], laidTests := true, laidLooks := .later }
def RecVolumesCardSaid : Prop := Claim7.holds Tryd.pinned (.plain (OpenSpec.ofChange recVolumesSpec)) recVolumesCard

/-- THE TIED CARD OF 'pentimentolaw09.SlotKeeps'. -/
def slotKeepsCard : Claim7 := { stood := { row := slotKeepsRow, standIns := [], harness := (true, "311a26607ac691dcafea57c50896634131c5d55fc76a6abbecba387b9af79b98"), looks := false }, kinds := [], alts := [], laidByText := true, laidKinds := [.data, .pinned], laidTests := true, laidLooks := .later }
def SlotKeepsCardSaid : Prop := Claim7.holds Tryd.pinned (.plain (OpenSpec.ofChange slotKeepsSpec)) slotKeepsCard

/-- THE TIED CARD OF 'pentimentolaw09.SlotPlays'. -/
def slotPlaysCard : Claim7 := { stood := { row := slotPlaysRow, standIns := [], harness := (true, "311a26607ac691dcafea57c50896634131c5d55fc76a6abbecba387b9af79b98"), looks := false }, kinds := [], alts := [], laidByText := true, laidKinds := [.data, .pinned], laidTests := true, laidLooks := .later }
def SlotPlaysCardSaid : Prop := Claim7.holds Tryd.pinned (.plain (OpenSpec.ofChange slotPlaysSpec)) slotPlaysCard

/-- THE TIED CARD OF 'pentimentolaw11.DirtyKeeps'. -/
def dirtyKeepsCard : Claim7 := { stood := { row := dirtyKeepsRow, standIns := [], harness := (true, "311a26607ac691dcafea57c50896634131c5d55fc76a6abbecba387b9af79b98"), looks := false }, kinds := [], alts := [], laidByText := true, laidKinds := [.data, .pinned], laidTests := true, laidLooks := .later }
def DirtyKeepsCardSaid : Prop := Claim7.holds Tryd.pinned (.plain (OpenSpec.ofChange dirtyKeepsSpec)) dirtyKeepsCard

/-- THE SECOND FORM's CARD OF 'pentimentolaw08.RecMakes'. -/
def recMakesUptoCard : Claim7 := { stood := { row := recMakesUptoRow, standIns := [], harness := (true, "311a26607ac691dcafea57c50896634131c5d55fc76a6abbecba387b9af79b98"), looks := false }, kinds := [], alts := [], laidByText := true, laidKinds := [.data, .pinned], laidTests := true, laidLooks := .later }
def RecMakesUptoCardSaid : Prop := Claim7.holds Tryd.pinned (.plain (OpenSpec.upto recMakesSpec)) recMakesUptoCard

/-- THE SECOND FORM's CARD OF 'pentimentolaw08.RecOpens'. -/
def recOpensUptoCard : Claim7 := { stood := { row := recOpensUptoRow, standIns := [], harness := (true, "311a26607ac691dcafea57c50896634131c5d55fc76a6abbecba387b9af79b98"), looks := false }, kinds := [], alts := [], laidByText := true, laidKinds := [.data, .pinned], laidTests := true, laidLooks := .later }
def RecOpensUptoCardSaid : Prop := Claim7.holds Tryd.pinned (.plain (OpenSpec.upto recOpensSpec)) recOpensUptoCard

/-- THE SECOND FORM's CARD OF 'pentimentolaw08.RecByte'. -/
def recByteUptoCard : Claim7 := { stood := { row := recByteUptoRow, standIns := [], harness := (true, "311a26607ac691dcafea57c50896634131c5d55fc76a6abbecba387b9af79b98"), looks := false }, kinds := [], alts := [], laidByText := true, laidKinds := [.data, .pinned], laidTests := true, laidLooks := .later }
def RecByteUptoCardSaid : Prop := Claim7.holds Tryd.pinned (.plain (OpenSpec.upto recByteSpec)) recByteUptoCard

/-- THE SECOND FORM's CARD OF 'pentimentolaw08.RecVolumes'. -/
def recVolumesUptoCard : Claim7 := { stood := { row := recVolumesUptoRow, standIns := [], harness := (true, "311a26607ac691dcafea57c50896634131c5d55fc76a6abbecba387b9af79b98"), looks := false }, kinds := [], alts := [], laidByText := true, laidKinds := [.data, .pinned], laidTests := true, laidLooks := .later }
def RecVolumesUptoCardSaid : Prop := Claim7.holds Tryd.pinned (.plain (OpenSpec.upto recVolumesSpec)) recVolumesUptoCard

/-- THE SECOND FORM's CARD OF 'pentimentolaw09.SlotKeeps'. -/
def slotKeepsUptoCard : Claim7 := { stood := { row := slotKeepsUptoRow, standIns := [], harness := (true, "311a26607ac691dcafea57c50896634131c5d55fc76a6abbecba387b9af79b98"), looks := false }, kinds := [], alts := [], laidByText := true, laidKinds := [.data, .pinned], laidTests := true, laidLooks := .later }
def SlotKeepsUptoCardSaid : Prop := Claim7.holds Tryd.pinned (.plain (OpenSpec.upto slotKeepsSpec)) slotKeepsUptoCard

/-- THE SECOND FORM's CARD OF 'pentimentolaw09.SlotPlays'. -/
def slotPlaysUptoCard : Claim7 := { stood := { row := slotPlaysUptoRow, standIns := [], harness := (true, "311a26607ac691dcafea57c50896634131c5d55fc76a6abbecba387b9af79b98"), looks := false }, kinds := [], alts := [], laidByText := true, laidKinds := [.data, .pinned], laidTests := true, laidLooks := .later }
def SlotPlaysUptoCardSaid : Prop := Claim7.holds Tryd.pinned (.plain (OpenSpec.upto slotPlaysSpec)) slotPlaysUptoCard

/-- THE SECOND FORM's CARD OF 'pentimentolaw11.DirtyKeeps'. -/
def dirtyKeepsUptoCard : Claim7 := { stood := { row := dirtyKeepsUptoRow, standIns := [], harness := (true, "311a26607ac691dcafea57c50896634131c5d55fc76a6abbecba387b9af79b98"), looks := false }, kinds := [], alts := [], laidByText := true, laidKinds := [.data, .pinned], laidTests := true, laidLooks := .later }
def DirtyKeepsUptoCardSaid : Prop := Claim7.holds Tryd.pinned (.plain (OpenSpec.upto dirtyKeepsSpec)) dirtyKeepsUptoCard
end Rows
end Go.Proofs.YtillbabmlfjegaaDoor
