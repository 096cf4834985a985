/-
  DERIVED. GIVEN WITH THE SEED: THE CARDS: each row of YtajajahofkialaaGreatDoorRows.lean that lists a variable, with what it lists TIED to the program's text (the seventh form; the later family's looks); each row that meets fmt, with fmt's text TOLD by the authors' own Lean function (tested against real Go, not proved from fmt's source: count such statements apart). THE CARD IS WHAT COUNTS. Prove the row's statement (the work); the ties are given (YtajajahofkialaaGreatDoorTie.lean); close each card by the builder's one call (the guide's Derived/Test/ToyasCard.lean, 'card_holds'). Laid BY PROGRAM, IN A SANDBOX (cutbox-door.mjs). By AI agents, Wed Nov 11 2026. No macro, syntax, notation, axiom, sorry.
-/
import Derived.Test.YtajajahofkialaaGreatDoorRows
import GoSem.ClaimSeven
namespace Go.Proofs.YtajajahofkialaaGreatDoor
namespace Rows

/-- THE TIED CARD OF 'norialaw14.MergePlays'. -/
def mergePlaysCard : Claim7 := { stood := { row := mergePlaysRow, standIns := [], harness := (true, "62fc449a22b8e80fbf058a41275b8394b42b52c69c810b206581bbd990c1e00c"), looks := true }, kinds := [], alts := [], laidByText := true, laidKinds := [.data, .data, .data, .data, .sentinel, .sentinel, .pinned], laidTests := true, laidLooks := .later }
def MergePlaysCardSaid : Prop := Claim7.holds Tryz.pinned (.plain (OpenSpec.ofChange mergePlaysSpec)) mergePlaysCard

/-- THE TIED CARD OF 'norialaw14.MergeKeys'. -/
def mergeKeysCard : Claim7 := { stood := { row := mergeKeysRow, standIns := [], harness := (true, "62fc449a22b8e80fbf058a41275b8394b42b52c69c810b206581bbd990c1e00c"), looks := true }, kinds := [], alts := [], laidByText := true, laidKinds := [.data, .data, .data, .data, .sentinel, .sentinel, .pinned], laidTests := true, laidLooks := .later }
def MergeKeysCardSaid : Prop := Claim7.holds Tryz.pinned (.plain (OpenSpec.ofChange mergeKeysSpec)) mergeKeysCard

/-- THE TIED CARD OF 'norialaw14.MergeAgain'. -/
def mergeAgainCard : Claim7 := { stood := { row := mergeAgainRow, standIns := [], harness := (true, "62fc449a22b8e80fbf058a41275b8394b42b52c69c810b206581bbd990c1e00c"), looks := true }, kinds := [], alts := [], laidByText := true, laidKinds := [.data, .data, .data, .data, .sentinel, .sentinel, .pinned], laidTests := true, laidLooks := .later }
def MergeAgainCardSaid : Prop := Claim7.holds Tryz.pinned (.plain (OpenSpec.ofChange mergeAgainSpec)) mergeAgainCard

/-- THE TIED CARD OF 'norialaw14.MergeDrops'. -/
def mergeDropsCard : Claim7 := { stood := { row := mergeDropsRow, standIns := [], harness := (true, "62fc449a22b8e80fbf058a41275b8394b42b52c69c810b206581bbd990c1e00c"), looks := true }, kinds := [], alts := [], laidByText := true, laidKinds := [.data, .data, .data, .data, .sentinel, .sentinel, .pinned], laidTests := true, laidLooks := .later }
def MergeDropsCardSaid : Prop := Claim7.holds Tryz.pinned (.plain (OpenSpec.ofChange mergeDropsSpec)) mergeDropsCard

/-- THE TIED CARD OF 'norialaw14.MergeFull'. -/
def mergeFullCard : Claim7 := { stood := { row := mergeFullRow, standIns := [], harness := (true, "62fc449a22b8e80fbf058a41275b8394b42b52c69c810b206581bbd990c1e00c"), looks := true }, kinds := [], alts := [], laidByText := true, laidKinds := [.data, .data, .data, .data, .sentinel, .sentinel, .pinned], laidTests := true, laidLooks := .later }
def MergeFullCardSaid : Prop := Claim7.holds Tryz.pinned (.plain (OpenSpec.ofChange mergeFullSpec)) mergeFullCard

/-- THE TIED CARD OF 'norialaw14.MergeUnion'. -/
def mergeUnionCard : Claim7 := { stood := { row := mergeUnionRow, standIns := [], harness := (true, "62fc449a22b8e80fbf058a41275b8394b42b52c69c810b206581bbd990c1e00c"), looks := true }, kinds := [], alts := [], laidByText := true, laidKinds := [.data, .data, .data, .data, .sentinel, .sentinel, .pinned], laidTests := true, laidLooks := .later }
def MergeUnionCardSaid : Prop := Claim7.holds Tryz.pinned (.plain (OpenSpec.ofChange mergeUnionSpec)) mergeUnionCard

/-- THE SECOND FORM's CARD OF 'norialaw14.MergePlays'. -/
def mergePlaysUptoCard : Claim7 := { stood := { row := mergePlaysUptoRow, standIns := [], harness := (true, "62fc449a22b8e80fbf058a41275b8394b42b52c69c810b206581bbd990c1e00c"), looks := true }, kinds := [], alts := [], laidByText := true, laidKinds := [.data, .data, .data, .data, .sentinel, .sentinel, .pinned], laidTests := true, laidLooks := .later }
def MergePlaysUptoCardSaid : Prop := Claim7.holds Tryz.pinned (.plain (OpenSpec.upto mergePlaysSpec)) mergePlaysUptoCard

/-- THE SECOND FORM's CARD OF 'norialaw14.MergeKeys'. -/
def mergeKeysUptoCard : Claim7 := { stood := { row := mergeKeysUptoRow, standIns := [], harness := (true, "62fc449a22b8e80fbf058a41275b8394b42b52c69c810b206581bbd990c1e00c"), looks := true }, kinds := [], alts := [], laidByText := true, laidKinds := [.data, .data, .data, .data, .sentinel, .sentinel, .pinned], laidTests := true, laidLooks := .later }
def MergeKeysUptoCardSaid : Prop := Claim7.holds Tryz.pinned (.plain (OpenSpec.upto mergeKeysSpec)) mergeKeysUptoCard

/-- THE SECOND FORM's CARD OF 'norialaw14.MergeAgain'. -/
def mergeAgainUptoCard : Claim7 := { stood := { row := mergeAgainUptoRow, standIns := [], harness := (true, "62fc449a22b8e80fbf058a41275b8394b42b52c69c810b206581bbd990c1e00c"), looks := true }, kinds := [], alts := [], laidByText := true, laidKinds := [.data, .data, .data, .data, .sentinel, .sentinel, .pinned], laidTests := true, laidLooks := .later }
def MergeAgainUptoCardSaid : Prop := Claim7.holds Tryz.pinned (.plain (OpenSpec.upto mergeAgainSpec)) mergeAgainUptoCard

/-- THE SECOND FORM's CARD OF 'norialaw14.MergeDrops'. -/
def mergeDropsUptoCard : Claim7 := { stood := { row := mergeDropsUptoRow, standIns := [], harness := (true, "62fc449a22b8e80fbf058a41275b8394b42b52c69c810b206581bbd990c1e00c"), looks := true }, kinds := [], alts := [], laidByText := true, laidKinds := [.data, .data, .data, .data, .sentinel, .sentinel, .pinned], laidTests := true, laidLooks := .later }
def MergeDropsUptoCardSaid : Prop := Claim7.holds Tryz.pinned (.plain (OpenSpec.upto mergeDropsSpec)) mergeDropsUptoCard

/-- THE SECOND FORM's CARD OF 'norialaw14.MergeFull'. -/
def mergeFullUptoCard : Claim7 := { stood := { row := mergeFullUptoRow, standIns := [], harness := (true, "62fc449a22b8e80fbf058a41275b8394b42b52c69c810b206581bbd990c1e00c"), looks := true }, kinds := [], alts := [], laidByText := true, laidKinds := [.data, .data, .data, .data, .sentinel, .sentinel, .pinned], laidTests := true, laidLooks := .later }
def MergeFullUptoCardSaid : Prop := Claim7.holds Tryz.pinned (.plain (OpenSpec.upto mergeFullSpec)) mergeFullUptoCard

/-- THE SECOND FORM's CARD OF 'norialaw14.MergeUnion'. -/
def mergeUnionUptoCard : Claim7 := { stood := { row := mergeUnionUptoRow, standIns := [], harness := (true, "62fc449a22b8e80fbf058a41275b8394b42b52c69c810b206581bbd990c1e00c"), looks := true }, kinds := [], alts := [], laidByText := true, laidKinds := [.data, .data, .data, .data, .sentinel, .sentinel, .pinned], laidTests := true, laidLooks := .later }
def MergeUnionUptoCardSaid : Prop := Claim7.holds Tryz.pinned (.plain (OpenSpec.upto mergeUnionSpec)) mergeUnionUptoCard
end Rows
end Go.Proofs.YtajajahofkialaaGreatDoor
