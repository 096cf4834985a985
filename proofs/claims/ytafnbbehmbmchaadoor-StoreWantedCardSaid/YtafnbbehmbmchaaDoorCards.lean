/-
  DERIVED. GIVEN WITH THE SEED: THE CARDS: each row of YtafnbbehmbmchaaDoorRows.lean that lists a variable, with what it lists TIED to the program's text (the seventh form; the later family's looks); each row that meets fmt, with fmt's text TOLD by the authors' own Lean function (tested against real Go, not proved from fmt's source: count such statements apart). THE CARD IS WHAT COUNTS. Prove the row's statement (the work); the ties are given (YtafnbbehmbmchaaDoorTie.lean); close each card by the builder's one call (the guide's Derived/Test/ToyasCard.lean, 'card_holds'). Laid BY PROGRAM, IN A SANDBOX (cutbox-door.mjs). By AI agents, Wed Nov 11 2026. No macro, syntax, notation, axiom, sorry.
-/
import Derived.Test.YtafnbbehmbmchaaDoorRows
import GoSem.ClaimSeven
namespace Go.Proofs.YtafnbbehmbmchaaDoor
namespace Rows

/-- THE TIED CARD OF 'norialaw12.StoreNewer'. -/
def storeNewerCard : Claim7 := { stood := { row := storeNewerRow, standIns := [], harness := (true, "c9a06f4a77f582824e86a13bd697befaca4db97201b902e7061c095fa9721f80"), looks := true }, kinds := [], alts := [], laidByText := true, laidKinds := [.data, .pinned], laidTests := true, laidLooks := .later }
def StoreNewerCardSaid : Prop := Claim7.holds Tryd.pinned (.plain (OpenSpec.ofChange storeNewerSpec)) storeNewerCard

/-- THE TIED CARD OF 'norialaw12.StoreWanted'. -/
def storeWantedCard : Claim7 := { stood := { row := storeWantedRow, standIns := [], harness := (true, "c9a06f4a77f582824e86a13bd697befaca4db97201b902e7061c095fa9721f80"), looks := true }, kinds := [], alts := [], laidByText := true, laidKinds := [.data, .pinned], laidTests := true, laidLooks := .later }
def StoreWantedCardSaid : Prop := Claim7.holds Tryd.pinned (.plain (OpenSpec.ofChange storeWantedSpec)) storeWantedCard

/-- THE TIED CARD OF 'norialaw12.StoreCounts'. -/
def storeCountsCard : Claim7 := { stood := { row := storeCountsRow, standIns := [], harness := (true, "c9a06f4a77f582824e86a13bd697befaca4db97201b902e7061c095fa9721f80"), looks := true }, kinds := [], alts := [], laidByText := true, laidKinds := [.data, .pinned], laidTests := true, laidLooks := .later }
def StoreCountsCardSaid : Prop := Claim7.holds Tryd.pinned (.plain (OpenSpec.ofChange storeCountsSpec)) storeCountsCard

/-- THE TIED CARD OF 'norialaw12.StoreLists'. -/
def storeListsCard : Claim7 := { stood := { row := storeListsRow, standIns := [], harness := (true, "c9a06f4a77f582824e86a13bd697befaca4db97201b902e7061c095fa9721f80"), looks := true }, kinds := [], alts := [], laidByText := true, laidKinds := [.data, .pinned], laidTests := true, laidLooks := .later }
def StoreListsCardSaid : Prop := Claim7.holds Tryd.pinned (.plain (OpenSpec.ofChange storeListsSpec)) storeListsCard

/-- THE TIED CARD OF 'norialaw12.StoreMakesRoom'. -/
def storeMakesRoomCard : Claim7 := { stood := { row := storeMakesRoomRow, standIns := [], harness := (true, "c9a06f4a77f582824e86a13bd697befaca4db97201b902e7061c095fa9721f80"), looks := true }, kinds := [], alts := [], laidByText := true, laidKinds := [.data, .pinned], laidTests := true, laidLooks := .later }
def StoreMakesRoomCardSaid : Prop := Claim7.holds Tryd.pinned (.plain (OpenSpec.ofChange storeMakesRoomSpec)) storeMakesRoomCard

/-- THE TIED CARD OF 'norialaw12.StoreCuts'. -/
def storeCutsCard : Claim7 := { stood := { row := storeCutsRow, standIns := [], harness := (true, "c9a06f4a77f582824e86a13bd697befaca4db97201b902e7061c095fa9721f80"), looks := true }, kinds := [], alts := [], laidByText := true, laidKinds := [.data, .pinned], laidTests := true, laidLooks := .later }
def StoreCutsCardSaid : Prop := Claim7.holds Tryd.pinned (.plain (OpenSpec.ofChange storeCutsSpec)) storeCutsCard

/-- THE SECOND FORM's CARD OF 'norialaw12.StoreNewer'. -/
def storeNewerUptoCard : Claim7 := { stood := { row := storeNewerUptoRow, standIns := [], harness := (true, "c9a06f4a77f582824e86a13bd697befaca4db97201b902e7061c095fa9721f80"), looks := true }, kinds := [], alts := [], laidByText := true, laidKinds := [.data, .pinned], laidTests := true, laidLooks := .later }
def StoreNewerUptoCardSaid : Prop := Claim7.holds Tryd.pinned (.plain (OpenSpec.upto storeNewerSpec)) storeNewerUptoCard

/-- THE SECOND FORM's CARD OF 'norialaw12.StoreWanted'. -/
def storeWantedUptoCard : Claim7 := { stood := { row := storeWantedUptoRow, standIns := [], harness := (true, "c9a06f4a77f582824e86a13bd697befaca4db97201b902e7061c095fa9721f80"), looks := true }, kinds := [], alts := [], laidByText := true, laidKinds := [.data, .pinned], laidTests := true, laidLooks := .later }
def StoreWantedUptoCardSaid : Prop := Claim7.holds Tryd.pinned (.plain (OpenSpec.upto storeWantedSpec)) storeWantedUptoCard

/-- THE SECOND FORM's CARD OF 'norialaw12.StoreCounts'. -/
def storeCountsUptoCard : Claim7 := { stood := { row := storeCountsUptoRow, standIns := [], harness := (true, "c9a06f4a77f582824e86a13bd697befaca4db97201b902e7061c095fa9721f80"), looks := true }, kinds := [], alts := [], laidByText := true, laidKinds := [.data, .pinned], laidTests := true, laidLooks := .later }
def StoreCountsUptoCardSaid : Prop := Claim7.holds Tryd.pinned (.plain (OpenSpec.upto storeCountsSpec)) storeCountsUptoCard

/-- THE SECOND FORM's CARD OF 'norialaw12.StoreLists'. -/
def storeListsUptoCard : Claim7 := { stood := { row := storeListsUptoRow, standIns := [], harness := (true, "c9a06f4a77f582824e86a13bd697befaca4db97201b902e7061c095fa9721f80"), looks := true }, kinds := [], alts := [], laidByText := true, laidKinds := [.data, .pinned], laidTests := true, laidLooks := .later }
def StoreListsUptoCardSaid : Prop := Claim7.holds Tryd.pinned (.plain (OpenSpec.upto storeListsSpec)) storeListsUptoCard

/-- THE SECOND FORM's CARD OF 'norialaw12.StoreMakesRoom'. -/
def storeMakesRoomUptoCard : Claim7 := { stood := { row := storeMakesRoomUptoRow, standIns := [], harness := (true, "c9a06f4a77f582824e86a13bd697befaca4db97201b902e7061c095fa9721f80"), looks := true }, kinds := [], alts := [], laidByText := true, laidKinds := [.data, .pinned], laidTests := true, laidLooks := .later }
def StoreMakesRoomUptoCardSaid : Prop := Claim7.holds Tryd.pinned (.plain (OpenSpec.upto storeMakesRoomSpec)) storeMakesRoomUptoCard

/-- THE SECOND FORM's CARD OF 'norialaw12.StoreCuts'. -/
def storeCutsUptoCard : Claim7 := { stood := { row := storeCutsUptoRow, standIns := [], harness := (true, "c9a06f4a77f582824e86a13bd697befaca4db97201b902e7061c095fa9721f80"), looks := true }, kinds := [], alts := [], laidByText := true, laidKinds := [.data, .pinned], laidTests := true, laidLooks := .later }
def StoreCutsUptoCardSaid : Prop := Claim7.holds Tryd.pinned (.plain (OpenSpec.upto storeCutsSpec)) storeCutsUptoCard
end Rows
end Go.Proofs.YtafnbbehmbmchaaDoor
