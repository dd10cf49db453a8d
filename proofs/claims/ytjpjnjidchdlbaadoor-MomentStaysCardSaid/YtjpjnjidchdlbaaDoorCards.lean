/-
  DERIVED. GIVEN WITH THE SEED: THE CARDS: each row of YtjpjnjidchdlbaaDoorRows.lean that lists a variable, with what it lists TIED to the program's text (the seventh form; the later family's looks); each row that meets fmt, with fmt's text TOLD by the authors' own Lean function (tested against real Go, not proved from fmt's source: count such statements apart). THE CARD IS WHAT COUNTS. Prove the row's statement (the work); the ties are given (YtjpjnjidchdlbaaDoorTie.lean); close each card by the builder's one call (the guide's Derived/Test/ToyasCard.lean, 'card_holds'). Laid BY PROGRAM, IN A SANDBOX (cutbox-door.mjs). By AI agents, Wed Nov 11 2026. No macro, syntax, notation, axiom, sorry.
-/
import Derived.Test.YtjpjnjidchdlbaaDoorRows
import GoSem.ClaimSeven
namespace Go.Proofs.YtjpjnjidchdlbaaDoor
namespace Rows

/-- THE TIED CARD OF 'gyrelaw25.CrcTells'. -/
def crcTellsCard : Claim7 := { stood := { row := crcTellsRow, standIns := [], harness := (true, "dfd46a5f3e194959a553f97754d356db9f0c79ea03811765b242971d7fb496a9"), looks := false }, kinds := [], alts := [], laidByText := true, laidKinds := [.data], laidTests := true, laidLooks := .later }
def CrcTellsCardSaid : Prop := Claim7.holds Tryd.pinned (.plain (OpenSpec.ofChange crcTellsSpec)) crcTellsCard

/-- THE TIED CARD OF 'gyrelaw25.CrcBurst'. -/
def crcBurstCard : Claim7 := { stood := { row := crcBurstRow, standIns := [], harness := (true, "dfd46a5f3e194959a553f97754d356db9f0c79ea03811765b242971d7fb496a9"), looks := false }, kinds := [], alts := [], laidByText := true, laidKinds := [.data], laidTests := true, laidLooks := .later }
def CrcBurstCardSaid : Prop := Claim7.holds Tryd.pinned (.plain (OpenSpec.ofChange crcBurstSpec)) crcBurstCard

/-- THE TIED CARD OF 'gyrelaw25.CrcParts'. -/
def crcPartsCard : Claim7 := { stood := { row := crcPartsRow, standIns := [], harness := (true, "dfd46a5f3e194959a553f97754d356db9f0c79ea03811765b242971d7fb496a9"), looks := false }, kinds := [], alts := [], laidByText := true, laidKinds := [.data], laidTests := true, laidLooks := .later }
def CrcPartsCardSaid : Prop := Claim7.holds Tryd.pinned (.plain (OpenSpec.ofChange crcPartsSpec)) crcPartsCard

/-- THE TIED CARD OF 'gyrelaw25.CrcApart'. -/
def crcApartCard : Claim7 := { stood := { row := crcApartRow, standIns := [], harness := (true, "dfd46a5f3e194959a553f97754d356db9f0c79ea03811765b242971d7fb496a9"), looks := false }, kinds := [], alts := [], laidByText := true, laidKinds := [.data], laidTests := true, laidLooks := .later }
def CrcApartCardSaid : Prop := Claim7.holds Tryd.pinned (.plain (OpenSpec.ofChange crcApartSpec)) crcApartCard

/-- THE TIED CARD OF 'gyrelaw23.MomentTells'. -/
def momentTellsCard : Claim7 := { stood := { row := momentTellsRow, standIns := [], harness := (true, "dfd46a5f3e194959a553f97754d356db9f0c79ea03811765b242971d7fb496a9"), looks := false }, kinds := [], alts := [], laidByText := true, laidKinds := [.data], laidTests := true, laidLooks := .later }
def MomentTellsCardSaid : Prop := Claim7.holds Tryd.pinned (.plain (OpenSpec.ofChange momentTellsSpec)) momentTellsCard

/-- THE TIED CARD OF 'gyrelaw23.MomentStays'. -/
def momentStaysCard : Claim7 := { stood := { row := momentStaysRow, standIns := [], harness := (true, "dfd46a5f3e194959a553f97754d356db9f0c79ea03811765b242971d7fb496a9"), looks := false }, kinds := [], alts := [], laidByText := true, laidKinds := [.data], laidTests := true, laidLooks := .later }
def MomentStaysCardSaid : Prop := Claim7.holds Tryd.pinned (.plain (OpenSpec.ofChange momentStaysSpec)) momentStaysCard

/-- THE TIED CARD OF 'gyrelaw23.MomentTurned'. -/
def momentTurnedCard : Claim7 := { stood := { row := momentTurnedRow, standIns := [], harness := (true, "dfd46a5f3e194959a553f97754d356db9f0c79ea03811765b242971d7fb496a9"), looks := false }, kinds := [], alts := [], laidByText := true, laidKinds := [.data], laidTests := true, laidLooks := .later }
def MomentTurnedCardSaid : Prop := Claim7.holds Tryd.pinned (.plain (OpenSpec.ofChange momentTurnedSpec)) momentTurnedCard

/-- THE TIED CARD OF 'gyrelaw23.MomentMoved'. -/
def momentMovedCard : Claim7 := { stood := { row := momentMovedRow, standIns := [], harness := (true, "dfd46a5f3e194959a553f97754d356db9f0c79ea03811765b242971d7fb496a9"), looks := false }, kinds := [], alts := [], laidByText := true, laidKinds := [.data], laidTests := true, laidLooks := .later }
def MomentMovedCardSaid : Prop := Claim7.holds Tryd.pinned (.plain (OpenSpec.ofChange momentMovedSpec)) momentMovedCard

/-- THE TIED CARD OF 'gyrelaw23.MomentLost'. -/
def momentLostCard : Claim7 := { stood := { row := momentLostRow, standIns := [], harness := (true, "dfd46a5f3e194959a553f97754d356db9f0c79ea03811765b242971d7fb496a9"), looks := false }, kinds := [], alts := [], laidByText := true, laidKinds := [.data], laidTests := true, laidLooks := .later }
def MomentLostCardSaid : Prop := Claim7.holds Tryd.pinned (.plain (OpenSpec.ofChange momentLostSpec)) momentLostCard

/-- THE SECOND FORM's CARD OF 'gyrelaw25.CrcTells'. -/
def crcTellsUptoCard : Claim7 := { stood := { row := crcTellsUptoRow, standIns := [], harness := (true, "dfd46a5f3e194959a553f97754d356db9f0c79ea03811765b242971d7fb496a9"), looks := false }, kinds := [], alts := [], laidByText := true, laidKinds := [.data], laidTests := true, laidLooks := .later }
def CrcTellsUptoCardSaid : Prop := Claim7.holds Tryd.pinned (.plain (OpenSpec.upto crcTellsSpec)) crcTellsUptoCard

/-- THE SECOND FORM's CARD OF 'gyrelaw25.CrcBurst'. -/
def crcBurstUptoCard : Claim7 := { stood := { row := crcBurstUptoRow, standIns := [], harness := (true, "dfd46a5f3e194959a553f97754d356db9f0c79ea03811765b242971d7fb496a9"), looks := false }, kinds := [], alts := [], laidByText := true, laidKinds := [.data], laidTests := true, laidLooks := .later }
def CrcBurstUptoCardSaid : Prop := Claim7.holds Tryd.pinned (.plain (OpenSpec.upto crcBurstSpec)) crcBurstUptoCard

/-- THE SECOND FORM's CARD OF 'gyrelaw25.CrcParts'. -/
def crcPartsUptoCard : Claim7 := { stood := { row := crcPartsUptoRow, standIns := [], harness := (true, "dfd46a5f3e194959a553f97754d356db9f0c79ea03811765b242971d7fb496a9"), looks := false }, kinds := [], alts := [], laidByText := true, laidKinds := [.data], laidTests := true, laidLooks := .later }
def CrcPartsUptoCardSaid : Prop := Claim7.holds Tryd.pinned (.plain (OpenSpec.upto crcPartsSpec)) crcPartsUptoCard

/-- THE SECOND FORM's CARD OF 'gyrelaw25.CrcApart'. -/
def crcApartUptoCard : Claim7 := { stood := { row := crcApartUptoRow, standIns := [], harness := (true, "dfd46a5f3e194959a553f97754d356db9f0c79ea03811765b242971d7fb496a9"), looks := false }, kinds := [], alts := [], laidByText := true, laidKinds := [.data], laidTests := true, laidLooks := .later }
def CrcApartUptoCardSaid : Prop := Claim7.holds Tryd.pinned (.plain (OpenSpec.upto crcApartSpec)) crcApartUptoCard

/-- THE SECOND FORM's CARD OF 'gyrelaw23.MomentTells'. -/
def momentTellsUptoCard : Claim7 := { stood := { row := momentTellsUptoRow, standIns := [], harness := (true, "dfd46a5f3e194959a553f97754d356db9f0c79ea03811765b242971d7fb496a9"), looks := false }, kinds := [], alts := [], laidByText := true, laidKinds := [.data], laidTests := true, laidLooks := .later }
def MomentTellsUptoCardSaid : Prop := Claim7.holds Tryd.pinned (.plain (OpenSpec.upto momentTellsSpec)) momentTellsUptoCard

/-- THE SECOND FORM's CARD OF 'gyrelaw23.MomentStays'. -/
def momentStaysUptoCard : Claim7 := { stood := { row := momentStaysUptoRow, standIns := [], harness := (true, "dfd46a5f3e194959a553f97754d356db9f0c79ea03811765b242971d7fb496a9"), looks := false }, kinds := [], alts := [], laidByText := true, laidKinds := [.data], laidTests := true, laidLooks := .later }
def MomentStaysUptoCardSaid : Prop := Claim7.holds Tryd.pinned (.plain (OpenSpec.upto momentStaysSpec)) momentStaysUptoCard

/-- THE SECOND FORM's CARD OF 'gyrelaw23.MomentTurned'. -/
def momentTurnedUptoCard : Claim7 := { stood := { row := momentTurnedUptoRow, standIns := [], harness := (true, "dfd46a5f3e194959a553f97754d356db9f0c79ea03811765b242971d7fb496a9"), looks := false }, kinds := [], alts := [], laidByText := true, laidKinds := [.data], laidTests := true, laidLooks := .later }
def MomentTurnedUptoCardSaid : Prop := Claim7.holds Tryd.pinned (.plain (OpenSpec.upto momentTurnedSpec)) momentTurnedUptoCard

/-- THE SECOND FORM's CARD OF 'gyrelaw23.MomentMoved'. -/
def momentMovedUptoCard : Claim7 := { stood := { row := momentMovedUptoRow, standIns := [], harness := (true, "dfd46a5f3e194959a553f97754d356db9f0c79ea03811765b242971d7fb496a9"), looks := false }, kinds := [], alts := [], laidByText := true, laidKinds := [.data], laidTests := true, laidLooks := .later }
def MomentMovedUptoCardSaid : Prop := Claim7.holds Tryd.pinned (.plain (OpenSpec.upto momentMovedSpec)) momentMovedUptoCard

/-- THE SECOND FORM's CARD OF 'gyrelaw23.MomentLost'. -/
def momentLostUptoCard : Claim7 := { stood := { row := momentLostUptoRow, standIns := [], harness := (true, "dfd46a5f3e194959a553f97754d356db9f0c79ea03811765b242971d7fb496a9"), looks := false }, kinds := [], alts := [], laidByText := true, laidKinds := [.data], laidTests := true, laidLooks := .later }
def MomentLostUptoCardSaid : Prop := Claim7.holds Tryd.pinned (.plain (OpenSpec.upto momentLostSpec)) momentLostUptoCard
end Rows
end Go.Proofs.YtjpjnjidchdlbaaDoor
