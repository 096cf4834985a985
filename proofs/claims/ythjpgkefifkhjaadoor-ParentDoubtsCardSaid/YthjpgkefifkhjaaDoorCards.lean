/-
  DERIVED. GIVEN WITH THE SEED: THE CARDS: each row of YthjpgkefifkhjaaDoorRows.lean that lists a variable, with what it lists TIED to the program's text (the seventh form; the later family's looks); each row that meets fmt, with fmt's text TOLD by the authors' own Lean function (tested against real Go, not proved from fmt's source: count such statements apart). THE CARD IS WHAT COUNTS. Prove the row's statement (the work); the ties are given (YthjpgkefifkhjaaDoorTie.lean); close each card by the builder's one call (the guide's Derived/Test/ToyasCard.lean, 'card_holds'). Laid BY PROGRAM, IN A SANDBOX (cutbox-door.mjs). By AI agents, Wed Nov 11 2026. No macro, syntax, notation, axiom, sorry.
-/
import Derived.Test.YthjpgkefifkhjaaDoorRows
import GoSem.ClaimSeven
namespace Go.Proofs.YthjpgkefifkhjaaDoor
namespace Rows

/-- THE TIED CARD OF 'norialaw16.ParentFirst'. -/
def parentFirstCard : Claim7 := { stood := { row := parentFirstRow, standIns := [], harness := (true, "d577cc07fea43f1673951280467d28b1815795c8d1e7c21c69395bc9d8b9519c"), looks := false }, kinds := [], alts := [], laidByText := true, laidKinds := [.data, .data, .data], laidTests := true, laidLooks := .later }
def ParentFirstCardSaid : Prop := Claim7.holds Tryd.pinned (.plain (OpenSpec.ofChange parentFirstSpec)) parentFirstCard

/-- THE TIED CARD OF 'norialaw16.ParentTold'. -/
def parentToldCard : Claim7 := { stood := { row := parentToldRow, standIns := [], harness := (true, "d577cc07fea43f1673951280467d28b1815795c8d1e7c21c69395bc9d8b9519c"), looks := false }, kinds := [], alts := [], laidByText := true, laidKinds := [.data, .data, .data], laidTests := true, laidLooks := .later }
def ParentToldCardSaid : Prop := Claim7.holds Tryd.pinned (.plain (OpenSpec.ofChange parentToldSpec)) parentToldCard

/-- THE TIED CARD OF 'norialaw16.ParentWrong'. -/
def parentWrongCard : Claim7 := { stood := { row := parentWrongRow, standIns := [], harness := (true, "d577cc07fea43f1673951280467d28b1815795c8d1e7c21c69395bc9d8b9519c"), looks := false }, kinds := [], alts := [], laidByText := true, laidKinds := [.data, .data, .data], laidTests := true, laidLooks := .later }
def ParentWrongCardSaid : Prop := Claim7.holds Tryd.pinned (.plain (OpenSpec.ofChange parentWrongSpec)) parentWrongCard

/-- THE TIED CARD OF 'norialaw16.ParentBelow'. -/
def parentBelowCard : Claim7 := { stood := { row := parentBelowRow, standIns := [], harness := (true, "d577cc07fea43f1673951280467d28b1815795c8d1e7c21c69395bc9d8b9519c"), looks := false }, kinds := [], alts := [], laidByText := true, laidKinds := [.data, .data, .data], laidTests := true, laidLooks := .later }
def ParentBelowCardSaid : Prop := Claim7.holds Tryd.pinned (.plain (OpenSpec.ofChange parentBelowSpec)) parentBelowCard

/-- THE TIED CARD OF 'norialaw16.ParentRound'. -/
def parentRoundCard : Claim7 := { stood := { row := parentRoundRow, standIns := [], harness := (true, "d577cc07fea43f1673951280467d28b1815795c8d1e7c21c69395bc9d8b9519c"), looks := false }, kinds := [], alts := [], laidByText := true, laidKinds := [.data, .data, .data], laidTests := true, laidLooks := .later }
def ParentRoundCardSaid : Prop := Claim7.holds Tryd.pinned (.plain (OpenSpec.ofChange parentRoundSpec)) parentRoundCard

/-- THE TIED CARD OF 'norialaw16.ParentDoubts'. -/
def parentDoubtsCard : Claim7 := { stood := { row := parentDoubtsRow, standIns := [], harness := (true, "d577cc07fea43f1673951280467d28b1815795c8d1e7c21c69395bc9d8b9519c"), looks := false }, kinds := [], alts := [], laidByText := true, laidKinds := [.data, .data, .data], laidTests := true, laidLooks := .later }
def ParentDoubtsCardSaid : Prop := Claim7.holds Tryd.pinned (.plain (OpenSpec.ofChange parentDoubtsSpec)) parentDoubtsCard

/-- THE SECOND FORM's CARD OF 'norialaw16.ParentFirst'. -/
def parentFirstUptoCard : Claim7 := { stood := { row := parentFirstUptoRow, standIns := [], harness := (true, "d577cc07fea43f1673951280467d28b1815795c8d1e7c21c69395bc9d8b9519c"), looks := false }, kinds := [], alts := [], laidByText := true, laidKinds := [.data, .data, .data], laidTests := true, laidLooks := .later }
def ParentFirstUptoCardSaid : Prop := Claim7.holds Tryd.pinned (.plain (OpenSpec.upto parentFirstSpec)) parentFirstUptoCard

/-- THE SECOND FORM's CARD OF 'norialaw16.ParentTold'. -/
def parentToldUptoCard : Claim7 := { stood := { row := parentToldUptoRow, standIns := [], harness := (true, "d577cc07fea43f1673951280467d28b1815795c8d1e7c21c69395bc9d8b9519c"), looks := false }, kinds := [], alts := [], laidByText := true, laidKinds := [.data, .data, .data], laidTests := true, laidLooks := .later }
def ParentToldUptoCardSaid : Prop := Claim7.holds Tryd.pinned (.plain (OpenSpec.upto parentToldSpec)) parentToldUptoCard

/-- THE SECOND FORM's CARD OF 'norialaw16.ParentWrong'. -/
def parentWrongUptoCard : Claim7 := { stood := { row := parentWrongUptoRow, standIns := [], harness := (true, "d577cc07fea43f1673951280467d28b1815795c8d1e7c21c69395bc9d8b9519c"), looks := false }, kinds := [], alts := [], laidByText := true, laidKinds := [.data, .data, .data], laidTests := true, laidLooks := .later }
def ParentWrongUptoCardSaid : Prop := Claim7.holds Tryd.pinned (.plain (OpenSpec.upto parentWrongSpec)) parentWrongUptoCard

/-- THE SECOND FORM's CARD OF 'norialaw16.ParentBelow'. -/
def parentBelowUptoCard : Claim7 := { stood := { row := parentBelowUptoRow, standIns := [], harness := (true, "d577cc07fea43f1673951280467d28b1815795c8d1e7c21c69395bc9d8b9519c"), looks := false }, kinds := [], alts := [], laidByText := true, laidKinds := [.data, .data, .data], laidTests := true, laidLooks := .later }
def ParentBelowUptoCardSaid : Prop := Claim7.holds Tryd.pinned (.plain (OpenSpec.upto parentBelowSpec)) parentBelowUptoCard

/-- THE SECOND FORM's CARD OF 'norialaw16.ParentRound'. -/
def parentRoundUptoCard : Claim7 := { stood := { row := parentRoundUptoRow, standIns := [], harness := (true, "d577cc07fea43f1673951280467d28b1815795c8d1e7c21c69395bc9d8b9519c"), looks := false }, kinds := [], alts := [], laidByText := true, laidKinds := [.data, .data, .data], laidTests := true, laidLooks := .later }
def ParentRoundUptoCardSaid : Prop := Claim7.holds Tryd.pinned (.plain (OpenSpec.upto parentRoundSpec)) parentRoundUptoCard

/-- THE SECOND FORM's CARD OF 'norialaw16.ParentDoubts'. -/
def parentDoubtsUptoCard : Claim7 := { stood := { row := parentDoubtsUptoRow, standIns := [], harness := (true, "d577cc07fea43f1673951280467d28b1815795c8d1e7c21c69395bc9d8b9519c"), looks := false }, kinds := [], alts := [], laidByText := true, laidKinds := [.data, .data, .data], laidTests := true, laidLooks := .later }
def ParentDoubtsUptoCardSaid : Prop := Claim7.holds Tryd.pinned (.plain (OpenSpec.upto parentDoubtsSpec)) parentDoubtsUptoCard
end Rows
end Go.Proofs.YthjpgkefifkhjaaDoor
