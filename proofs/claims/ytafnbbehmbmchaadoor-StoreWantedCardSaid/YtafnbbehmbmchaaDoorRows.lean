/-
  NARROWER THAN 'FOR EVERY INPUT', by the rows' own cells (each row's printed sentence says how): StoreNewer: laid · StoreWanted: laid · StoreCounts: laid · StoreLists: laid · StoreMakesRoom: laid · StoreCuts: laid.
  DERIVED. THE GIVEN ROWS OF THIS SEAT. 6 by the template 'for every input the law returns true; each argument reads behind the call as it read before'; 0 by the template 'total and deterministic' (their statements: YtafnbbehmbmchaaDoorTotals.lean).
  GIVEN WITH THE SEED: the statements are not yours to turn. If you find one false, say at which input.
  Laid BY PROGRAM, IN A SANDBOX (cutbox-rows.mjs): the forced cells as the released guide's own fill.sh prints them over the translation 3d3e1940a6f4b8ef… (all of the seat's roots in one cut). By AI agents, Wed Nov 11 2026. No macro, syntax, notation, axiom, sorry.
-/
import Derived.Test.YtafnbbehmbmchaaDoorChecked
import GoSem.PinnedTables
import GoSem.Claim
import GoSem.ClaimJoined
import GoSem.ClaimMapViews
import Derived.JoinedTies
import Derived.KernelRfl
namespace Go.Proofs.YtafnbbehmbmchaaDoor
/- THE CELL 'sum', in the pinned program and in every row, IS THE sha256 OF THE DUMP (.gsa) THAT YtafnbbehmbmchaaDoorProg.lean LOADS. Nothing in Lean hashes anything: it is a label: what it is worth is what the hold of that sum in a sandbox is worth. -/
noncomputable def Tryd.pinned : Pinned := { name := "ytafnbbehmbmchaadoor", sum := "3d3e1940a6f4b8ef2c71880979a7ca298be5afc6ee4c78cdf3fd12639a0a2c7e", checked := Tryd.checked }
namespace Rows
def none {H : Type} : Left H := { results := [], args := [] }

/- WHAT THE LISTED PACKAGE-LEVEL VARIABLES READ AS WHEN THE CALL BEGINS. Each datum BY PROGRAM (the guide's laid-datum.mjs) off the statement by which the dump's own 'gosem.cut.vars' lays the variable. In a bare row this is a premise. The card (YtafnbbehmbmchaaDoorCards.lean) ties it to the program's text. -/
def laid_unicode_utf8_acceptRanges {H : Type} : DataW H := .agg [.agg [.lit (.int .u8 128), .lit (.int .u8 191)], .agg [.lit (.int .u8 160), .lit (.int .u8 191)], .agg [.lit (.int .u8 128), .lit (.int .u8 159)], .agg [.lit (.int .u8 144), .lit (.int .u8 191)], .agg [.lit (.int .u8 128), .lit (.int .u8 143)], .agg [.lit (.int .u8 0), .lit (.int .u8 0)], .agg [.lit (.int .u8 0), .lit (.int .u8 0)], .agg [.lit (.int .u8 0), .lit (.int .u8 0)], .agg [.lit (.int .u8 0), .lit (.int .u8 0)], .agg [.lit (.int .u8 0), .lit (.int .u8 0)], .agg [.lit (.int .u8 0), .lit (.int .u8 0)], .agg [.lit (.int .u8 0), .lit (.int .u8 0)], .agg [.lit (.int .u8 0), .lit (.int .u8 0)], .agg [.lit (.int .u8 0), .lit (.int .u8 0)], .agg [.lit (.int .u8 0), .lit (.int .u8 0)], .agg [.lit (.int .u8 0), .lit (.int .u8 0)]]
/-- One of Go's own tables, pinned by name: the form's constant. -/
def laid_unicode_utf8_first : DataW Unit := Go.Pinned.utf8First

/-- 'norialaw12.StoreNewer': WHATEVER THE INPUT: true; the input reads as it did. -/
def storeNewerSpec : ChangeSpec := { name := "storeNewer", fn := fun _ => fun
  | [d] => { results := [.lit (.bool true)], args := [d] }
  | _ => none }
def storeNewerRow : OpenClaim := { program := "ytafnbbehmbmchaadoor", sum := "3d3e1940a6f4b8ef2c71880979a7ca298be5afc6ee4c78cdf3fd12639a0a2c7e", func := "noria/norialaw12.StoreNewer", spec := "storeNewer", inPlace := ["internal/bytealg.IndexByteString", "internal/bytealg.IndexString"], unfollowed := true, recurses := true, named := ["unicode/utf8.first", "unicode/utf8.acceptRanges", "internal/bytealg.MaxLen"], plainKeys := false, apart := false, laid := [("unicode/utf8.acceptRanges", laid_unicode_utf8_acceptRanges), ("unicode/utf8.first", laid_unicode_utf8_first)] }
def StoreNewerSaid : Prop := storeNewerRow.holds Tryd.pinned (OpenSpec.ofChange storeNewerSpec)

/-- ITS FALSE NEIGHBOUR: 'it returns false'. Refute it at one input. -/
def storeNewerWrong : ChangeSpec := { name := "storeNewer", fn := fun _ => fun
  | [d] => { results := [.lit (.bool false)], args := [d] }
  | _ => none }
def StoreNewerWrongFalsely : Prop := storeNewerRow.holds Tryd.pinned (OpenSpec.ofChange storeNewerWrong)

/-- 'norialaw12.StoreWanted': WHATEVER THE INPUT: true; the input reads as it did. -/
def storeWantedSpec : ChangeSpec := { name := "storeWanted", fn := fun _ => fun
  | [d1, d2, d3] => { results := [.lit (.bool true)], args := [d1, d2, d3] }
  | _ => none }
def storeWantedRow : OpenClaim := { program := "ytafnbbehmbmchaadoor", sum := "3d3e1940a6f4b8ef2c71880979a7ca298be5afc6ee4c78cdf3fd12639a0a2c7e", func := "noria/norialaw12.StoreWanted", spec := "storeWanted", inPlace := ["internal/bytealg.IndexByteString", "internal/bytealg.IndexString"], unfollowed := true, recurses := true, named := ["unicode/utf8.first", "unicode/utf8.acceptRanges", "internal/bytealg.MaxLen"], plainKeys := false, apart := false, laid := [("unicode/utf8.acceptRanges", laid_unicode_utf8_acceptRanges), ("unicode/utf8.first", laid_unicode_utf8_first)] }
def StoreWantedSaid : Prop := storeWantedRow.holds Tryd.pinned (OpenSpec.ofChange storeWantedSpec)

/-- ITS FALSE NEIGHBOUR: 'it returns false'. Refute it at one input. -/
def storeWantedWrong : ChangeSpec := { name := "storeWanted", fn := fun _ => fun
  | [d1, d2, d3] => { results := [.lit (.bool false)], args := [d1, d2, d3] }
  | _ => none }
def StoreWantedWrongFalsely : Prop := storeWantedRow.holds Tryd.pinned (OpenSpec.ofChange storeWantedWrong)

/-- 'norialaw12.StoreCounts': WHATEVER THE INPUT: true; the input reads as it did. -/
def storeCountsSpec : ChangeSpec := { name := "storeCounts", fn := fun _ => fun
  | [d] => { results := [.lit (.bool true)], args := [d] }
  | _ => none }
def storeCountsRow : OpenClaim := { program := "ytafnbbehmbmchaadoor", sum := "3d3e1940a6f4b8ef2c71880979a7ca298be5afc6ee4c78cdf3fd12639a0a2c7e", func := "noria/norialaw12.StoreCounts", spec := "storeCounts", inPlace := ["internal/bytealg.IndexByteString", "internal/bytealg.IndexString"], unfollowed := true, recurses := true, named := ["unicode/utf8.first", "unicode/utf8.acceptRanges", "internal/bytealg.MaxLen"], plainKeys := false, apart := false, laid := [("unicode/utf8.acceptRanges", laid_unicode_utf8_acceptRanges), ("unicode/utf8.first", laid_unicode_utf8_first)] }
def StoreCountsSaid : Prop := storeCountsRow.holds Tryd.pinned (OpenSpec.ofChange storeCountsSpec)

/-- ITS FALSE NEIGHBOUR: 'it returns false'. Refute it at one input. -/
def storeCountsWrong : ChangeSpec := { name := "storeCounts", fn := fun _ => fun
  | [d] => { results := [.lit (.bool false)], args := [d] }
  | _ => none }
def StoreCountsWrongFalsely : Prop := storeCountsRow.holds Tryd.pinned (OpenSpec.ofChange storeCountsWrong)

/-- 'norialaw12.StoreLists': WHATEVER THE INPUT: true; the input reads as it did. -/
def storeListsSpec : ChangeSpec := { name := "storeLists", fn := fun _ => fun
  | [d] => { results := [.lit (.bool true)], args := [d] }
  | _ => none }
def storeListsRow : OpenClaim := { program := "ytafnbbehmbmchaadoor", sum := "3d3e1940a6f4b8ef2c71880979a7ca298be5afc6ee4c78cdf3fd12639a0a2c7e", func := "noria/norialaw12.StoreLists", spec := "storeLists", inPlace := ["internal/bytealg.IndexByteString", "internal/bytealg.IndexString"], unfollowed := true, recurses := true, named := ["unicode/utf8.first", "unicode/utf8.acceptRanges", "internal/bytealg.MaxLen"], plainKeys := false, apart := false, laid := [("unicode/utf8.acceptRanges", laid_unicode_utf8_acceptRanges), ("unicode/utf8.first", laid_unicode_utf8_first)] }
def StoreListsSaid : Prop := storeListsRow.holds Tryd.pinned (OpenSpec.ofChange storeListsSpec)

/-- ITS FALSE NEIGHBOUR: 'it returns false'. Refute it at one input. -/
def storeListsWrong : ChangeSpec := { name := "storeLists", fn := fun _ => fun
  | [d] => { results := [.lit (.bool false)], args := [d] }
  | _ => none }
def StoreListsWrongFalsely : Prop := storeListsRow.holds Tryd.pinned (OpenSpec.ofChange storeListsWrong)

/-- 'norialaw12.StoreMakesRoom': WHATEVER THE INPUT: true; the input reads as it did. -/
def storeMakesRoomSpec : ChangeSpec := { name := "storeMakesRoom", fn := fun _ => fun
  | [d1, d2] => { results := [.lit (.bool true)], args := [d1, d2] }
  | _ => none }
def storeMakesRoomRow : OpenClaim := { program := "ytafnbbehmbmchaadoor", sum := "3d3e1940a6f4b8ef2c71880979a7ca298be5afc6ee4c78cdf3fd12639a0a2c7e", func := "noria/norialaw12.StoreMakesRoom", spec := "storeMakesRoom", inPlace := ["internal/bytealg.IndexByteString", "internal/bytealg.IndexString"], unfollowed := true, recurses := true, named := ["unicode/utf8.first", "unicode/utf8.acceptRanges", "internal/bytealg.MaxLen"], plainKeys := false, apart := false, laid := [("unicode/utf8.acceptRanges", laid_unicode_utf8_acceptRanges), ("unicode/utf8.first", laid_unicode_utf8_first)] }
def StoreMakesRoomSaid : Prop := storeMakesRoomRow.holds Tryd.pinned (OpenSpec.ofChange storeMakesRoomSpec)

/-- ITS FALSE NEIGHBOUR: 'it returns false'. Refute it at one input. -/
def storeMakesRoomWrong : ChangeSpec := { name := "storeMakesRoom", fn := fun _ => fun
  | [d1, d2] => { results := [.lit (.bool false)], args := [d1, d2] }
  | _ => none }
def StoreMakesRoomWrongFalsely : Prop := storeMakesRoomRow.holds Tryd.pinned (OpenSpec.ofChange storeMakesRoomWrong)

/-- 'norialaw12.StoreCuts': WHATEVER THE INPUT: true; the input reads as it did. -/
def storeCutsSpec : ChangeSpec := { name := "storeCuts", fn := fun _ => fun
  | [d1, d2, d3] => { results := [.lit (.bool true)], args := [d1, d2, d3] }
  | _ => none }
def storeCutsRow : OpenClaim := { program := "ytafnbbehmbmchaadoor", sum := "3d3e1940a6f4b8ef2c71880979a7ca298be5afc6ee4c78cdf3fd12639a0a2c7e", func := "noria/norialaw12.StoreCuts", spec := "storeCuts", inPlace := ["internal/bytealg.IndexByteString", "internal/bytealg.IndexString"], unfollowed := true, recurses := true, named := ["unicode/utf8.first", "unicode/utf8.acceptRanges", "internal/bytealg.MaxLen"], plainKeys := false, apart := false, laid := [("unicode/utf8.acceptRanges", laid_unicode_utf8_acceptRanges), ("unicode/utf8.first", laid_unicode_utf8_first)] }
def StoreCutsSaid : Prop := storeCutsRow.holds Tryd.pinned (OpenSpec.ofChange storeCutsSpec)

/-- ITS FALSE NEIGHBOUR: 'it returns false'. Refute it at one input. -/
def storeCutsWrong : ChangeSpec := { name := "storeCuts", fn := fun _ => fun
  | [d1, d2, d3] => { results := [.lit (.bool false)], args := [d1, d2, d3] }
  | _ => none }
def StoreCutsWrongFalsely : Prop := storeCutsRow.holds Tryd.pinned (OpenSpec.ofChange storeCutsWrong)

/- THE SECOND FORM. 'bulk': how many values and letters a reading holds, each counted each time it is reached (what is shared counts as often as it is met; a slice's spare places count too). A statement '..UptoSaid' is the law's where the arguments, and the package variables that the reading takes, are together of bulk at most 1048576: NARROWER than '..Said'. Prove '..Said' where nothing that the law and all that it calls make is longer than what came in: it says more and counts as full. Else prove '..UptoSaid'. A law counts once. -/
mutual
def uptoBulk {H : Type} : DataW H → Nat
  | .lit (.string bytes) => bytes.length + 1
  | .lit _ => 1
  | .nil => 1
  | .ptr d => uptoBulk d + 1
  | .slice elems spare => uptoBulkAll elems + uptoBulkAll spare + 1
  | .agg parts => uptoBulkAll parts + 1
  | .iface _ d => uptoBulk d + 1
  | .map entries => uptoBulkEntries entries + 1
  | .held _ => 1
def uptoBulkAll {H : Type} : List (DataW H) → Nat
  | [] => 0
  | d :: r => uptoBulk d + uptoBulkAll r
def uptoBulkEntries {H : Type} : List (Lit × DataW H) → Nat
  | [] => 0
  | x :: r => uptoBulkEntry x + uptoBulkEntries r
def uptoBulkEntry {H : Type} : Lit × DataW H → Nat
  | (.string bytes, d) => bytes.length + uptoBulk d + 1
  | (_, d) => uptoBulk d + 1
 end
def uptoSmall : (H : Type) → List (DataW H) → Bool := fun _ ds => decide (uptoBulkAll ds ≤ 1048576)
def OpenSpec.upto (s : _root_.Go.ChangeSpec) : _root_.Go.OpenSpec := { _root_.Go.OpenSpec.ofChange s with cond := some uptoSmall }

/-- 'norialaw12.StoreNewer', WHERE WHAT IT READS IS OF BULK AT MOST 1048576: true; the input reads as it did. -/
def storeNewerUptoRow : OpenClaim := { program := "ytafnbbehmbmchaadoor", sum := "3d3e1940a6f4b8ef2c71880979a7ca298be5afc6ee4c78cdf3fd12639a0a2c7e", func := "noria/norialaw12.StoreNewer", spec := "storeNewer", inPlace := ["internal/bytealg.IndexByteString", "internal/bytealg.IndexString"], unfollowed := true, recurses := true, named := ["unicode/utf8.first", "unicode/utf8.acceptRanges", "internal/bytealg.MaxLen"], plainKeys := false, apart := false, laid := [("unicode/utf8.acceptRanges", laid_unicode_utf8_acceptRanges), ("unicode/utf8.first", laid_unicode_utf8_first)], narrowed := true }
def StoreNewerUptoSaid : Prop := storeNewerUptoRow.holds Tryd.pinned (OpenSpec.upto storeNewerSpec)

/-- 'norialaw12.StoreWanted', WHERE WHAT IT READS IS OF BULK AT MOST 1048576: true; the input reads as it did. -/
def storeWantedUptoRow : OpenClaim := { program := "ytafnbbehmbmchaadoor", sum := "3d3e1940a6f4b8ef2c71880979a7ca298be5afc6ee4c78cdf3fd12639a0a2c7e", func := "noria/norialaw12.StoreWanted", spec := "storeWanted", inPlace := ["internal/bytealg.IndexByteString", "internal/bytealg.IndexString"], unfollowed := true, recurses := true, named := ["unicode/utf8.first", "unicode/utf8.acceptRanges", "internal/bytealg.MaxLen"], plainKeys := false, apart := false, laid := [("unicode/utf8.acceptRanges", laid_unicode_utf8_acceptRanges), ("unicode/utf8.first", laid_unicode_utf8_first)], narrowed := true }
def StoreWantedUptoSaid : Prop := storeWantedUptoRow.holds Tryd.pinned (OpenSpec.upto storeWantedSpec)

/-- 'norialaw12.StoreCounts', WHERE WHAT IT READS IS OF BULK AT MOST 1048576: true; the input reads as it did. -/
def storeCountsUptoRow : OpenClaim := { program := "ytafnbbehmbmchaadoor", sum := "3d3e1940a6f4b8ef2c71880979a7ca298be5afc6ee4c78cdf3fd12639a0a2c7e", func := "noria/norialaw12.StoreCounts", spec := "storeCounts", inPlace := ["internal/bytealg.IndexByteString", "internal/bytealg.IndexString"], unfollowed := true, recurses := true, named := ["unicode/utf8.first", "unicode/utf8.acceptRanges", "internal/bytealg.MaxLen"], plainKeys := false, apart := false, laid := [("unicode/utf8.acceptRanges", laid_unicode_utf8_acceptRanges), ("unicode/utf8.first", laid_unicode_utf8_first)], narrowed := true }
def StoreCountsUptoSaid : Prop := storeCountsUptoRow.holds Tryd.pinned (OpenSpec.upto storeCountsSpec)

/-- 'norialaw12.StoreLists', WHERE WHAT IT READS IS OF BULK AT MOST 1048576: true; the input reads as it did. -/
def storeListsUptoRow : OpenClaim := { program := "ytafnbbehmbmchaadoor", sum := "3d3e1940a6f4b8ef2c71880979a7ca298be5afc6ee4c78cdf3fd12639a0a2c7e", func := "noria/norialaw12.StoreLists", spec := "storeLists", inPlace := ["internal/bytealg.IndexByteString", "internal/bytealg.IndexString"], unfollowed := true, recurses := true, named := ["unicode/utf8.first", "unicode/utf8.acceptRanges", "internal/bytealg.MaxLen"], plainKeys := false, apart := false, laid := [("unicode/utf8.acceptRanges", laid_unicode_utf8_acceptRanges), ("unicode/utf8.first", laid_unicode_utf8_first)], narrowed := true }
def StoreListsUptoSaid : Prop := storeListsUptoRow.holds Tryd.pinned (OpenSpec.upto storeListsSpec)

/-- 'norialaw12.StoreMakesRoom', WHERE WHAT IT READS IS OF BULK AT MOST 1048576: true; the input reads as it did. -/
def storeMakesRoomUptoRow : OpenClaim := { program := "ytafnbbehmbmchaadoor", sum := "3d3e1940a6f4b8ef2c71880979a7ca298be5afc6ee4c78cdf3fd12639a0a2c7e", func := "noria/norialaw12.StoreMakesRoom", spec := "storeMakesRoom", inPlace := ["internal/bytealg.IndexByteString", "internal/bytealg.IndexString"], unfollowed := true, recurses := true, named := ["unicode/utf8.first", "unicode/utf8.acceptRanges", "internal/bytealg.MaxLen"], plainKeys := false, apart := false, laid := [("unicode/utf8.acceptRanges", laid_unicode_utf8_acceptRanges), ("unicode/utf8.first", laid_unicode_utf8_first)], narrowed := true }
def StoreMakesRoomUptoSaid : Prop := storeMakesRoomUptoRow.holds Tryd.pinned (OpenSpec.upto storeMakesRoomSpec)

/-- 'norialaw12.StoreCuts', WHERE WHAT IT READS IS OF BULK AT MOST 1048576: true; the input reads as it did. -/
def storeCutsUptoRow : OpenClaim := { program := "ytafnbbehmbmchaadoor", sum := "3d3e1940a6f4b8ef2c71880979a7ca298be5afc6ee4c78cdf3fd12639a0a2c7e", func := "noria/norialaw12.StoreCuts", spec := "storeCuts", inPlace := ["internal/bytealg.IndexByteString", "internal/bytealg.IndexString"], unfollowed := true, recurses := true, named := ["unicode/utf8.first", "unicode/utf8.acceptRanges", "internal/bytealg.MaxLen"], plainKeys := false, apart := false, laid := [("unicode/utf8.acceptRanges", laid_unicode_utf8_acceptRanges), ("unicode/utf8.first", laid_unicode_utf8_first)], narrowed := true }
def StoreCutsUptoSaid : Prop := storeCutsUptoRow.holds Tryd.pinned (OpenSpec.upto storeCutsSpec)

end Rows
end Go.Proofs.YtafnbbehmbmchaaDoor
