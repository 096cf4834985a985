/-
  DERIVED. GIVEN WITH THE SEED: THE CARDS: each row of YtahlhldkcekbfaaGreatDoorRows.lean that lists a variable, with what it lists TIED to the program's text (the seventh form; the later family's looks); each row that meets fmt, with fmt's text TOLD by the authors' own Lean function (tested against real Go, not proved from fmt's source: count such statements apart). THE CARD IS WHAT COUNTS. Prove the row's statement (the work); the ties are given (YtahlhldkcekbfaaGreatDoorTie.lean); close each card by the builder's one call (the guide's Derived/Test/ToyasCard.lean, 'card_holds'). Laid BY PROGRAM, IN A SANDBOX (cutbox-door.mjs). By AI agents, Wed Nov 11 2026. No macro, syntax, notation, axiom, sorry.
-/
import Derived.Test.YtahlhldkcekbfaaGreatDoorRows
import GoSem.ClaimSeven
namespace Go.Proofs.YtahlhldkcekbfaaGreatDoor
namespace Rows

/-- THE TIED CARD OF 'norialaw10.ClientNonces'. -/
def clientNoncesCard : Claim7 := { stood := { row := clientNoncesRow, standIns := [], harness := (true, "b4bcf0fd21f8d983de5dd63d7155bbb5b7bdf7d58afc618032a352eb30d6cf90"), looks := true }, kinds := [], alts := [], laidByText := true, laidKinds := [.data, .handle, .pinned], laidTests := true, laidLooks := .later }
def ClientNoncesCardSaid : Prop := Claim7.holds Tryz.pinned (.plain (OpenSpec.ofChange clientNoncesSpec)) clientNoncesCard

/-- THE TIED CARD OF 'norialaw10.ClientTopics'. -/
def clientTopicsCard : Claim7 := { stood := { row := clientTopicsRow, standIns := [], harness := (true, "b4bcf0fd21f8d983de5dd63d7155bbb5b7bdf7d58afc618032a352eb30d6cf90"), looks := true }, kinds := [], alts := [], laidByText := true, laidKinds := [.data, .handle, .pinned], laidTests := true, laidLooks := .later }
def ClientTopicsCardSaid : Prop := Claim7.holds Tryz.pinned (.plain (OpenSpec.ofChange clientTopicsSpec)) clientTopicsCard

/-- THE TIED CARD OF 'norialaw10.ClientFull'. -/
def clientFullCard : Claim7 := { stood := { row := clientFullRow, standIns := [], harness := (true, "b4bcf0fd21f8d983de5dd63d7155bbb5b7bdf7d58afc618032a352eb30d6cf90"), looks := true }, kinds := [], alts := [], laidByText := true, laidKinds := [.data, .handle, .pinned], laidTests := true, laidLooks := .later }
def ClientFullCardSaid : Prop := Claim7.holds Tryz.pinned (.plain (OpenSpec.ofChange clientFullSpec)) clientFullCard

/-- THE TIED CARD OF 'norialaw10.ClientHaves'. -/
def clientHavesCard : Claim7 := { stood := { row := clientHavesRow, standIns := [], harness := (true, "b4bcf0fd21f8d983de5dd63d7155bbb5b7bdf7d58afc618032a352eb30d6cf90"), looks := true }, kinds := [], alts := [], laidByText := true, laidKinds := [.data, .handle, .pinned], laidTests := true, laidLooks := .later }
def ClientHavesCardSaid : Prop := Claim7.holds Tryz.pinned (.plain (OpenSpec.ofChange clientHavesSpec)) clientHavesCard

/-- THE TIED CARD OF 'norialaw10.ClientPlays'. -/
def clientPlaysCard : Claim7 := { stood := { row := clientPlaysRow, standIns := [], harness := (true, "b4bcf0fd21f8d983de5dd63d7155bbb5b7bdf7d58afc618032a352eb30d6cf90"), looks := true }, kinds := [], alts := [], laidByText := true, laidKinds := [.data, .handle, .pinned], laidTests := true, laidLooks := .later }
def ClientPlaysCardSaid : Prop := Claim7.holds Tryz.pinned (.plain (OpenSpec.ofChange clientPlaysSpec)) clientPlaysCard

/-- THE TIED CARD OF 'norialaw10.ClientDeltas'. -/
def clientDeltasCard : Claim7 := { stood := { row := clientDeltasRow, standIns := [], harness := (true, "b4bcf0fd21f8d983de5dd63d7155bbb5b7bdf7d58afc618032a352eb30d6cf90"), looks := true }, kinds := [], alts := [], laidByText := true, laidKinds := [.data, .handle, .pinned], laidTests := true, laidLooks := .later }
def ClientDeltasCardSaid : Prop := Claim7.holds Tryz.pinned (.plain (OpenSpec.ofChange clientDeltasSpec)) clientDeltasCard

/-- THE SECOND FORM's CARD OF 'norialaw10.ClientNonces'. -/
def clientNoncesUptoCard : Claim7 := { stood := { row := clientNoncesUptoRow, standIns := [], harness := (true, "b4bcf0fd21f8d983de5dd63d7155bbb5b7bdf7d58afc618032a352eb30d6cf90"), looks := true }, kinds := [], alts := [], laidByText := true, laidKinds := [.data, .handle, .pinned], laidTests := true, laidLooks := .later }
def ClientNoncesUptoCardSaid : Prop := Claim7.holds Tryz.pinned (.plain (OpenSpec.upto clientNoncesSpec)) clientNoncesUptoCard

/-- THE SECOND FORM's CARD OF 'norialaw10.ClientTopics'. -/
def clientTopicsUptoCard : Claim7 := { stood := { row := clientTopicsUptoRow, standIns := [], harness := (true, "b4bcf0fd21f8d983de5dd63d7155bbb5b7bdf7d58afc618032a352eb30d6cf90"), looks := true }, kinds := [], alts := [], laidByText := true, laidKinds := [.data, .handle, .pinned], laidTests := true, laidLooks := .later }
def ClientTopicsUptoCardSaid : Prop := Claim7.holds Tryz.pinned (.plain (OpenSpec.upto clientTopicsSpec)) clientTopicsUptoCard

/-- THE SECOND FORM's CARD OF 'norialaw10.ClientFull'. -/
def clientFullUptoCard : Claim7 := { stood := { row := clientFullUptoRow, standIns := [], harness := (true, "b4bcf0fd21f8d983de5dd63d7155bbb5b7bdf7d58afc618032a352eb30d6cf90"), looks := true }, kinds := [], alts := [], laidByText := true, laidKinds := [.data, .handle, .pinned], laidTests := true, laidLooks := .later }
def ClientFullUptoCardSaid : Prop := Claim7.holds Tryz.pinned (.plain (OpenSpec.upto clientFullSpec)) clientFullUptoCard

/-- THE SECOND FORM's CARD OF 'norialaw10.ClientHaves'. -/
def clientHavesUptoCard : Claim7 := { stood := { row := clientHavesUptoRow, standIns := [], harness := (true, "b4bcf0fd21f8d983de5dd63d7155bbb5b7bdf7d58afc618032a352eb30d6cf90"), looks := true }, kinds := [], alts := [], laidByText := true, laidKinds := [.data, .handle, .pinned], laidTests := true, laidLooks := .later }
def ClientHavesUptoCardSaid : Prop := Claim7.holds Tryz.pinned (.plain (OpenSpec.upto clientHavesSpec)) clientHavesUptoCard

/-- THE SECOND FORM's CARD OF 'norialaw10.ClientPlays'. -/
def clientPlaysUptoCard : Claim7 := { stood := { row := clientPlaysUptoRow, standIns := [], harness := (true, "b4bcf0fd21f8d983de5dd63d7155bbb5b7bdf7d58afc618032a352eb30d6cf90"), looks := true }, kinds := [], alts := [], laidByText := true, laidKinds := [.data, .handle, .pinned], laidTests := true, laidLooks := .later }
def ClientPlaysUptoCardSaid : Prop := Claim7.holds Tryz.pinned (.plain (OpenSpec.upto clientPlaysSpec)) clientPlaysUptoCard

/-- THE SECOND FORM's CARD OF 'norialaw10.ClientDeltas'. -/
def clientDeltasUptoCard : Claim7 := { stood := { row := clientDeltasUptoRow, standIns := [], harness := (true, "b4bcf0fd21f8d983de5dd63d7155bbb5b7bdf7d58afc618032a352eb30d6cf90"), looks := true }, kinds := [], alts := [], laidByText := true, laidKinds := [.data, .handle, .pinned], laidTests := true, laidLooks := .later }
def ClientDeltasUptoCardSaid : Prop := Claim7.holds Tryz.pinned (.plain (OpenSpec.upto clientDeltasSpec)) clientDeltasUptoCard
end Rows
end Go.Proofs.YtahlhldkcekbfaaGreatDoor
