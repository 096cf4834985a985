/-
  DERIVED. GIVEN WITH THE SEED: THE CARDS: each row of YthdjhjeodjgbiaaDoorRows.lean that lists a variable, with what it lists TIED to the program's text (the seventh form; the later family's looks); each row that meets fmt, with fmt's text TOLD by the authors' own Lean function (tested against real Go, not proved from fmt's source: count such statements apart). THE CARD IS WHAT COUNTS. Prove the row's statement (the work); the ties are given (YthdjhjeodjgbiaaDoorTie.lean); close each card by the builder's one call (the guide's Derived/Test/ToyasCard.lean, 'card_holds'). Laid BY PROGRAM, IN A SANDBOX (cutbox-door.mjs). By AI agents, Wed Nov 11 2026. No macro, syntax, notation, axiom, sorry.
-/
import Derived.Test.YthdjhjeodjgbiaaDoorRows
import GoSem.ClaimSeven
namespace Go.Proofs.YthdjhjeodjgbiaaDoor
namespace Rows

/-- THE TIED CARD OF 'norialaw15.AcksCover'. -/
def acksCoverCard : Claim7 := { stood := { row := acksCoverRow, standIns := [], harness := (true, "6e7faeeacb9bccee26a92cff77fc3c565b399f5c663e0b2aa4684d199dd600c3"), looks := false }, kinds := [], alts := [], laidByText := true, laidKinds := [.data, .pinned], laidTests := true, laidLooks := .later }
def AcksCoverCardSaid : Prop := Claim7.holds Tryd.pinned (.plain (OpenSpec.ofChange acksCoverSpec)) acksCoverCard

/-- THE TIED CARD OF 'norialaw15.AcksRefused'. -/
def acksRefusedCard : Claim7 := { stood := { row := acksRefusedRow, standIns := [], harness := (true, "6e7faeeacb9bccee26a92cff77fc3c565b399f5c663e0b2aa4684d199dd600c3"), looks := false }, kinds := [], alts := [], laidByText := true, laidKinds := [.data, .pinned], laidTests := true, laidLooks := .later }
def AcksRefusedCardSaid : Prop := Claim7.holds Tryd.pinned (.plain (OpenSpec.ofChange acksRefusedSpec)) acksRefusedCard

/-- THE TIED CARD OF 'norialaw15.AcksKeys'. -/
def acksKeysCard : Claim7 := { stood := { row := acksKeysRow, standIns := [], harness := (true, "6e7faeeacb9bccee26a92cff77fc3c565b399f5c663e0b2aa4684d199dd600c3"), looks := false }, kinds := [], alts := [], laidByText := true, laidKinds := [.data, .pinned], laidTests := true, laidLooks := .later }
def AcksKeysCardSaid : Prop := Claim7.holds Tryd.pinned (.plain (OpenSpec.ofChange acksKeysSpec)) acksKeysCard

/-- THE TIED CARD OF 'norialaw15.AcksDrop'. -/
def acksDropCard : Claim7 := { stood := { row := acksDropRow, standIns := [], harness := (true, "6e7faeeacb9bccee26a92cff77fc3c565b399f5c663e0b2aa4684d199dd600c3"), looks := false }, kinds := [], alts := [], laidByText := true, laidKinds := [.data, .pinned], laidTests := true, laidLooks := .later }
def AcksDropCardSaid : Prop := Claim7.holds Tryd.pinned (.plain (OpenSpec.ofChange acksDropSpec)) acksDropCard

/-- THE SECOND FORM's CARD OF 'norialaw15.AcksCover'. -/
def acksCoverUptoCard : Claim7 := { stood := { row := acksCoverUptoRow, standIns := [], harness := (true, "6e7faeeacb9bccee26a92cff77fc3c565b399f5c663e0b2aa4684d199dd600c3"), looks := false }, kinds := [], alts := [], laidByText := true, laidKinds := [.data, .pinned], laidTests := true, laidLooks := .later }
def AcksCoverUptoCardSaid : Prop := Claim7.holds Tryd.pinned (.plain (OpenSpec.upto acksCoverSpec)) acksCoverUptoCard

/-- THE SECOND FORM's CARD OF 'norialaw15.AcksRefused'. -/
def acksRefusedUptoCard : Claim7 := { stood := { row := acksRefusedUptoRow, standIns := [], harness := (true, "6e7faeeacb9bccee26a92cff77fc3c565b399f5c663e0b2aa4684d199dd600c3"), looks := false }, kinds := [], alts := [], laidByText := true, laidKinds := [.data, .pinned], laidTests := true, laidLooks := .later }
def AcksRefusedUptoCardSaid : Prop := Claim7.holds Tryd.pinned (.plain (OpenSpec.upto acksRefusedSpec)) acksRefusedUptoCard

/-- THE SECOND FORM's CARD OF 'norialaw15.AcksKeys'. -/
def acksKeysUptoCard : Claim7 := { stood := { row := acksKeysUptoRow, standIns := [], harness := (true, "6e7faeeacb9bccee26a92cff77fc3c565b399f5c663e0b2aa4684d199dd600c3"), looks := false }, kinds := [], alts := [], laidByText := true, laidKinds := [.data, .pinned], laidTests := true, laidLooks := .later }
def AcksKeysUptoCardSaid : Prop := Claim7.holds Tryd.pinned (.plain (OpenSpec.upto acksKeysSpec)) acksKeysUptoCard

/-- THE SECOND FORM's CARD OF 'norialaw15.AcksDrop'. -/
def acksDropUptoCard : Claim7 := { stood := { row := acksDropUptoRow, standIns := [], harness := (true, "6e7faeeacb9bccee26a92cff77fc3c565b399f5c663e0b2aa4684d199dd600c3"), looks := false }, kinds := [], alts := [], laidByText := true, laidKinds := [.data, .pinned], laidTests := true, laidLooks := .later }
def AcksDropUptoCardSaid : Prop := Claim7.holds Tryd.pinned (.plain (OpenSpec.upto acksDropSpec)) acksDropUptoCard
end Rows
end Go.Proofs.YthdjhjeodjgbiaaDoor
