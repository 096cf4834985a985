/-
  DERIVED. GIVEN WITH THE SEED: THE CARDS: each row of YthlbgeonobicbaaDoorRows.lean that lists a variable, with what it lists TIED to the program's text (the seventh form; the later family's looks); each row that meets fmt, with fmt's text TOLD by the authors' own Lean function (tested against real Go, not proved from fmt's source: count such statements apart). THE CARD IS WHAT COUNTS. Prove the row's statement (the work); the ties are given (YthlbgeonobicbaaDoorTie.lean); close each card by the builder's one call (the guide's Derived/Test/ToyasCard.lean, 'card_holds'). Laid BY PROGRAM, IN A SANDBOX (cutbox-door.mjs). By AI agents, Wed Nov 11 2026. No macro, syntax, notation, axiom, sorry.
-/
import Derived.Test.YthlbgeonobicbaaDoorRows
import GoSem.ClaimSeven
namespace Go.Proofs.YthlbgeonobicbaaDoor
namespace Rows

/-- THE TIED CARD OF 'norialaw02.PayloadGets'. -/
def payloadGetsCard : Claim7 := { stood := { row := payloadGetsRow, standIns := [], harness := (true, "54eef62227d43cd4d83e3c5722ac37acc8b54135fae01cece54160787c7c29bd"), looks := true }, kinds := [], alts := [], laidByText := true, laidKinds := [.sentinel, .sentinel], laidTests := true, laidLooks := .later }
def PayloadGetsCardSaid : Prop := Claim7.holds Tryd.pinned (.plain (OpenSpec.ofChange payloadGetsSpec)) payloadGetsCard

/-- THE TIED CARD OF 'norialaw02.PayloadRefs'. -/
def payloadRefsCard : Claim7 := { stood := { row := payloadRefsRow, standIns := [], harness := (true, "54eef62227d43cd4d83e3c5722ac37acc8b54135fae01cece54160787c7c29bd"), looks := true }, kinds := [], alts := [], laidByText := true, laidKinds := [.sentinel, .sentinel], laidTests := true, laidLooks := .later }
def PayloadRefsCardSaid : Prop := Claim7.holds Tryd.pinned (.plain (OpenSpec.ofChange payloadRefsSpec)) payloadRefsCard

/-- THE TIED CARD OF 'norialaw02.PayloadPuts'. -/
def payloadPutsCard : Claim7 := { stood := { row := payloadPutsRow, standIns := [], harness := (true, "54eef62227d43cd4d83e3c5722ac37acc8b54135fae01cece54160787c7c29bd"), looks := true }, kinds := [], alts := [], laidByText := true, laidKinds := [.sentinel, .sentinel], laidTests := true, laidLooks := .later }
def PayloadPutsCardSaid : Prop := Claim7.holds Tryd.pinned (.plain (OpenSpec.ofChange payloadPutsSpec)) payloadPutsCard

/-- THE TIED CARD OF 'norialaw02.PayloadBack'. -/
def payloadBackCard : Claim7 := { stood := { row := payloadBackRow, standIns := [], harness := (true, "54eef62227d43cd4d83e3c5722ac37acc8b54135fae01cece54160787c7c29bd"), looks := true }, kinds := [], alts := [], laidByText := true, laidKinds := [.sentinel, .sentinel], laidTests := true, laidLooks := .later }
def PayloadBackCardSaid : Prop := Claim7.holds Tryd.pinned (.plain (OpenSpec.ofChange payloadBackSpec)) payloadBackCard

/-- THE TIED CARD OF 'norialaw02.PayloadTypes'. -/
def payloadTypesCard : Claim7 := { stood := { row := payloadTypesRow, standIns := [], harness := (true, "54eef62227d43cd4d83e3c5722ac37acc8b54135fae01cece54160787c7c29bd"), looks := true }, kinds := [], alts := [], laidByText := true, laidKinds := [.sentinel, .sentinel], laidTests := true, laidLooks := .later }
def PayloadTypesCardSaid : Prop := Claim7.holds Tryd.pinned (.plain (OpenSpec.ofChange payloadTypesSpec)) payloadTypesCard

/-- THE TIED CARD OF 'norialaw02.PayloadSame'. -/
def payloadSameCard : Claim7 := { stood := { row := payloadSameRow, standIns := [], harness := (true, "54eef62227d43cd4d83e3c5722ac37acc8b54135fae01cece54160787c7c29bd"), looks := true }, kinds := [], alts := [], laidByText := true, laidKinds := [.sentinel, .sentinel], laidTests := true, laidLooks := .later }
def PayloadSameCardSaid : Prop := Claim7.holds Tryd.pinned (.plain (OpenSpec.ofChange payloadSameSpec)) payloadSameCard

/-- THE TIED CARD OF 'norialaw02.PayloadMany'. -/
def payloadManyCard : Claim7 := { stood := { row := payloadManyRow, standIns := [], harness := (true, "54eef62227d43cd4d83e3c5722ac37acc8b54135fae01cece54160787c7c29bd"), looks := true }, kinds := [], alts := [], laidByText := true, laidKinds := [.sentinel, .sentinel], laidTests := true, laidLooks := .later }
def PayloadManyCardSaid : Prop := Claim7.holds Tryd.pinned (.plain (OpenSpec.ofChange payloadManySpec)) payloadManyCard

/-- THE SECOND FORM's CARD OF 'norialaw02.PayloadGets'. -/
def payloadGetsUptoCard : Claim7 := { stood := { row := payloadGetsUptoRow, standIns := [], harness := (true, "54eef62227d43cd4d83e3c5722ac37acc8b54135fae01cece54160787c7c29bd"), looks := true }, kinds := [], alts := [], laidByText := true, laidKinds := [.sentinel, .sentinel], laidTests := true, laidLooks := .later }
def PayloadGetsUptoCardSaid : Prop := Claim7.holds Tryd.pinned (.plain (OpenSpec.upto payloadGetsSpec)) payloadGetsUptoCard

/-- THE SECOND FORM's CARD OF 'norialaw02.PayloadRefs'. -/
def payloadRefsUptoCard : Claim7 := { stood := { row := payloadRefsUptoRow, standIns := [], harness := (true, "54eef62227d43cd4d83e3c5722ac37acc8b54135fae01cece54160787c7c29bd"), looks := true }, kinds := [], alts := [], laidByText := true, laidKinds := [.sentinel, .sentinel], laidTests := true, laidLooks := .later }
def PayloadRefsUptoCardSaid : Prop := Claim7.holds Tryd.pinned (.plain (OpenSpec.upto payloadRefsSpec)) payloadRefsUptoCard

/-- THE SECOND FORM's CARD OF 'norialaw02.PayloadPuts'. -/
def payloadPutsUptoCard : Claim7 := { stood := { row := payloadPutsUptoRow, standIns := [], harness := (true, "54eef62227d43cd4d83e3c5722ac37acc8b54135fae01cece54160787c7c29bd"), looks := true }, kinds := [], alts := [], laidByText := true, laidKinds := [.sentinel, .sentinel], laidTests := true, laidLooks := .later }
def PayloadPutsUptoCardSaid : Prop := Claim7.holds Tryd.pinned (.plain (OpenSpec.upto payloadPutsSpec)) payloadPutsUptoCard

/-- THE SECOND FORM's CARD OF 'norialaw02.PayloadBack'. -/
def payloadBackUptoCard : Claim7 := { stood := { row := payloadBackUptoRow, standIns := [], harness := (true, "54eef62227d43cd4d83e3c5722ac37acc8b54135fae01cece54160787c7c29bd"), looks := true }, kinds := [], alts := [], laidByText := true, laidKinds := [.sentinel, .sentinel], laidTests := true, laidLooks := .later }
def PayloadBackUptoCardSaid : Prop := Claim7.holds Tryd.pinned (.plain (OpenSpec.upto payloadBackSpec)) payloadBackUptoCard

/-- THE SECOND FORM's CARD OF 'norialaw02.PayloadTypes'. -/
def payloadTypesUptoCard : Claim7 := { stood := { row := payloadTypesUptoRow, standIns := [], harness := (true, "54eef62227d43cd4d83e3c5722ac37acc8b54135fae01cece54160787c7c29bd"), looks := true }, kinds := [], alts := [], laidByText := true, laidKinds := [.sentinel, .sentinel], laidTests := true, laidLooks := .later }
def PayloadTypesUptoCardSaid : Prop := Claim7.holds Tryd.pinned (.plain (OpenSpec.upto payloadTypesSpec)) payloadTypesUptoCard

/-- THE SECOND FORM's CARD OF 'norialaw02.PayloadSame'. -/
def payloadSameUptoCard : Claim7 := { stood := { row := payloadSameUptoRow, standIns := [], harness := (true, "54eef62227d43cd4d83e3c5722ac37acc8b54135fae01cece54160787c7c29bd"), looks := true }, kinds := [], alts := [], laidByText := true, laidKinds := [.sentinel, .sentinel], laidTests := true, laidLooks := .later }
def PayloadSameUptoCardSaid : Prop := Claim7.holds Tryd.pinned (.plain (OpenSpec.upto payloadSameSpec)) payloadSameUptoCard

/-- THE SECOND FORM's CARD OF 'norialaw02.PayloadMany'. -/
def payloadManyUptoCard : Claim7 := { stood := { row := payloadManyUptoRow, standIns := [], harness := (true, "54eef62227d43cd4d83e3c5722ac37acc8b54135fae01cece54160787c7c29bd"), looks := true }, kinds := [], alts := [], laidByText := true, laidKinds := [.sentinel, .sentinel], laidTests := true, laidLooks := .later }
def PayloadManyUptoCardSaid : Prop := Claim7.holds Tryd.pinned (.plain (OpenSpec.upto payloadManySpec)) payloadManyUptoCard
end Rows
end Go.Proofs.YthlbgeonobicbaaDoor
