/-
  DERIVED. GIVEN WITH THE SEED: THE CARDS: each row of YtjaojihogmnjhaaGreatDoorRows.lean that lists a variable, with what it lists TIED to the program's text (the seventh form; the later family's looks); each row that meets fmt, with fmt's text TOLD by the authors' own Lean function (tested against real Go, not proved from fmt's source: count such statements apart). THE CARD IS WHAT COUNTS. Prove the row's statement (the work); the ties are given (YtjaojihogmnjhaaGreatDoorTie.lean); close each card by the builder's one call (the guide's Derived/Test/ToyasCard.lean, 'card_holds'). Laid BY PROGRAM, IN A SANDBOX (cutbox-door.mjs). By AI agents, Wed Nov 11 2026. No macro, syntax, notation, axiom, sorry.
-/
import Derived.Test.YtjaojihogmnjhaaGreatDoorRows
import GoSem.ClaimSeven
namespace Go.Proofs.YtjaojihogmnjhaaGreatDoor
namespace Rows

/-- THE TIED CARD OF 'norialaw15.AcksPlays'. -/
def acksPlaysCard : Claim7 := { stood := { row := acksPlaysRow, standIns := [], harness := (true, "1af82d615a398c16ea0b05b2a2944dd0236954ef8d50a16aa0b96aa72b8830fa"), looks := false }, kinds := [], alts := [], laidByText := true, laidKinds := [.data, .pinned], laidTests := true, laidLooks := .later }
def AcksPlaysCardSaid : Prop := Claim7.holds Tryz.pinned (.plain (OpenSpec.ofChange acksPlaysSpec)) acksPlaysCard

/-- THE SECOND FORM's CARD OF 'norialaw15.AcksPlays'. -/
def acksPlaysUptoCard : Claim7 := { stood := { row := acksPlaysUptoRow, standIns := [], harness := (true, "1af82d615a398c16ea0b05b2a2944dd0236954ef8d50a16aa0b96aa72b8830fa"), looks := false }, kinds := [], alts := [], laidByText := true, laidKinds := [.data, .pinned], laidTests := true, laidLooks := .later }
def AcksPlaysUptoCardSaid : Prop := Claim7.holds Tryz.pinned (.plain (OpenSpec.upto acksPlaysSpec)) acksPlaysUptoCard
end Rows
end Go.Proofs.YtjaojihogmnjhaaGreatDoor
