/-
  DERIVED. GIVEN WITH THE SEED: THE CARDS: each row of YtfdpnkmchedeeaaDoorRows.lean that lists a variable, with what it lists TIED to the program's text (the seventh form; the later family's looks); each row that meets fmt, with fmt's text TOLD by the authors' own Lean function (tested against real Go, not proved from fmt's source: count such statements apart). THE CARD IS WHAT COUNTS. Prove the row's statement (the work); the ties are given (YtfdpnkmchedeeaaDoorTie.lean); close each card by the builder's one call (the guide's Derived/Test/ToyasCard.lean, 'card_holds'). Laid BY PROGRAM, IN A SANDBOX (cutbox-door.mjs). By AI agents, Wed Nov 11 2026. No macro, syntax, notation, axiom, sorry.
-/
import Derived.Test.YtfdpnkmchedeeaaDoorRows
import GoSem.ClaimSeven
namespace Go.Proofs.YtfdpnkmchedeeaaDoor
namespace Rows

/-- THE TIED CARD OF 'norialaw09.NamesOf'. -/
def namesOfCard : Claim7 := { stood := { row := namesOfRow, standIns := [], harness := (true, "8f2c0b019322079db54dd3632e6757af846e819cc682958f91065a5fec4bb1e0"), looks := false }, kinds := [], alts := [], laidByText := true, laidKinds := [.data, .pinned], laidTests := true, laidLooks := .later }
def NamesOfCardSaid : Prop := Claim7.holds Tryd.pinned (.plain (OpenSpec.ofChange namesOfSpec)) namesOfCard

/-- THE TIED CARD OF 'norialaw09.NamesUnion'. -/
def namesUnionCard : Claim7 := { stood := { row := namesUnionRow, standIns := [], harness := (true, "8f2c0b019322079db54dd3632e6757af846e819cc682958f91065a5fec4bb1e0"), looks := false }, kinds := [], alts := [], laidByText := true, laidKinds := [.data, .pinned], laidTests := true, laidLooks := .later }
def NamesUnionCardSaid : Prop := Claim7.holds Tryd.pinned (.plain (OpenSpec.ofChange namesUnionSpec)) namesUnionCard

/-- THE TIED CARD OF 'norialaw09.NamesRise'. -/
def namesRiseCard : Claim7 := { stood := { row := namesRiseRow, standIns := [], harness := (true, "8f2c0b019322079db54dd3632e6757af846e819cc682958f91065a5fec4bb1e0"), looks := false }, kinds := [], alts := [], laidByText := true, laidKinds := [.data, .pinned], laidTests := true, laidLooks := .later }
def NamesRiseCardSaid : Prop := Claim7.holds Tryd.pinned (.plain (OpenSpec.ofChange namesRiseSpec)) namesRiseCard

/-- THE TIED CARD OF 'norialaw09.NamesLess'. -/
def namesLessCard : Claim7 := { stood := { row := namesLessRow, standIns := [], harness := (true, "8f2c0b019322079db54dd3632e6757af846e819cc682958f91065a5fec4bb1e0"), looks := false }, kinds := [], alts := [], laidByText := true, laidKinds := [.data, .pinned], laidTests := true, laidLooks := .later }
def NamesLessCardSaid : Prop := Claim7.holds Tryd.pinned (.plain (OpenSpec.ofChange namesLessSpec)) namesLessCard

/-- THE TIED CARD OF 'norialaw09.NamesDelta'. -/
def namesDeltaCard : Claim7 := { stood := { row := namesDeltaRow, standIns := [], harness := (true, "8f2c0b019322079db54dd3632e6757af846e819cc682958f91065a5fec4bb1e0"), looks := false }, kinds := [], alts := [], laidByText := true, laidKinds := [.data, .pinned], laidTests := true, laidLooks := .later }
def NamesDeltaCardSaid : Prop := Claim7.holds Tryd.pinned (.plain (OpenSpec.ofChange namesDeltaSpec)) namesDeltaCard

/-- THE TIED CARD OF 'norialaw09.NamesSets'. -/
def namesSetsCard : Claim7 := { stood := { row := namesSetsRow, standIns := [], harness := (true, "8f2c0b019322079db54dd3632e6757af846e819cc682958f91065a5fec4bb1e0"), looks := false }, kinds := [], alts := [], laidByText := true, laidKinds := [.data, .pinned], laidTests := true, laidLooks := .later }
def NamesSetsCardSaid : Prop := Claim7.holds Tryd.pinned (.plain (OpenSpec.ofChange namesSetsSpec)) namesSetsCard

/-- THE SECOND FORM's CARD OF 'norialaw09.NamesOf'. -/
def namesOfUptoCard : Claim7 := { stood := { row := namesOfUptoRow, standIns := [], harness := (true, "8f2c0b019322079db54dd3632e6757af846e819cc682958f91065a5fec4bb1e0"), looks := false }, kinds := [], alts := [], laidByText := true, laidKinds := [.data, .pinned], laidTests := true, laidLooks := .later }
def NamesOfUptoCardSaid : Prop := Claim7.holds Tryd.pinned (.plain (OpenSpec.upto namesOfSpec)) namesOfUptoCard

/-- THE SECOND FORM's CARD OF 'norialaw09.NamesUnion'. -/
def namesUnionUptoCard : Claim7 := { stood := { row := namesUnionUptoRow, standIns := [], harness := (true, "8f2c0b019322079db54dd3632e6757af846e819cc682958f91065a5fec4bb1e0"), looks := false }, kinds := [], alts := [], laidByText := true, laidKinds := [.data, .pinned], laidTests := true, laidLooks := .later }
def NamesUnionUptoCardSaid : Prop := Claim7.holds Tryd.pinned (.plain (OpenSpec.upto namesUnionSpec)) namesUnionUptoCard

/-- THE SECOND FORM's CARD OF 'norialaw09.NamesRise'. -/
def namesRiseUptoCard : Claim7 := { stood := { row := namesRiseUptoRow, standIns := [], harness := (true, "8f2c0b019322079db54dd3632e6757af846e819cc682958f91065a5fec4bb1e0"), looks := false }, kinds := [], alts := [], laidByText := true, laidKinds := [.data, .pinned], laidTests := true, laidLooks := .later }
def NamesRiseUptoCardSaid : Prop := Claim7.holds Tryd.pinned (.plain (OpenSpec.upto namesRiseSpec)) namesRiseUptoCard

/-- THE SECOND FORM's CARD OF 'norialaw09.NamesLess'. -/
def namesLessUptoCard : Claim7 := { stood := { row := namesLessUptoRow, standIns := [], harness := (true, "8f2c0b019322079db54dd3632e6757af846e819cc682958f91065a5fec4bb1e0"), looks := false }, kinds := [], alts := [], laidByText := true, laidKinds := [.data, .pinned], laidTests := true, laidLooks := .later }
def NamesLessUptoCardSaid : Prop := Claim7.holds Tryd.pinned (.plain (OpenSpec.upto namesLessSpec)) namesLessUptoCard

/-- THE SECOND FORM's CARD OF 'norialaw09.NamesDelta'. -/
def namesDeltaUptoCard : Claim7 := { stood := { row := namesDeltaUptoRow, standIns := [], harness := (true, "8f2c0b019322079db54dd3632e6757af846e819cc682958f91065a5fec4bb1e0"), looks := false }, kinds := [], alts := [], laidByText := true, laidKinds := [.data, .pinned], laidTests := true, laidLooks := .later }
def NamesDeltaUptoCardSaid : Prop := Claim7.holds Tryd.pinned (.plain (OpenSpec.upto namesDeltaSpec)) namesDeltaUptoCard

/-- THE SECOND FORM's CARD OF 'norialaw09.NamesSets'. -/
def namesSetsUptoCard : Claim7 := { stood := { row := namesSetsUptoRow, standIns := [], harness := (true, "8f2c0b019322079db54dd3632e6757af846e819cc682958f91065a5fec4bb1e0"), looks := false }, kinds := [], alts := [], laidByText := true, laidKinds := [.data, .pinned], laidTests := true, laidLooks := .later }
def NamesSetsUptoCardSaid : Prop := Claim7.holds Tryd.pinned (.plain (OpenSpec.upto namesSetsSpec)) namesSetsUptoCard
end Rows
end Go.Proofs.YtfdpnkmchedeeaaDoor
