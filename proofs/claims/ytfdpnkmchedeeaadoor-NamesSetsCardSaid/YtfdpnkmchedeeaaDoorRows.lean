/-
  NARROWER THAN 'FOR EVERY INPUT', by the rows' own cells (each row's printed sentence says how): NamesOf: laid · NamesUnion: laid · NamesRise: laid · NamesLess: laid · NamesDelta: laid · NamesSets: laid.
  DERIVED. THE GIVEN ROWS OF THIS SEAT. 6 by the template 'for every input the law returns true; each argument reads behind the call as it read before'; 0 by the template 'total and deterministic' (their statements: YtfdpnkmchedeeaaDoorTotals.lean).
  GIVEN WITH THE SEED: the statements are not yours to turn. If you find one false, say at which input.
  Laid BY PROGRAM, IN A SANDBOX (cutbox-rows.mjs): the forced cells as the released guide's own fill.sh prints them over the translation fc10c0ac7e3ae82a… (all of the seat's roots in one cut). By AI agents, Wed Nov 11 2026. No macro, syntax, notation, axiom, sorry.
-/
import Derived.Test.YtfdpnkmchedeeaaDoorChecked
import GoSem.PinnedTables
import GoSem.Claim
import GoSem.ClaimJoined
import GoSem.ClaimMapViews
import Derived.JoinedTies
import Derived.KernelRfl
namespace Go.Proofs.YtfdpnkmchedeeaaDoor
/- THE CELL 'sum', in the pinned program and in every row, IS THE sha256 OF THE DUMP (.gsa) THAT YtfdpnkmchedeeaaDoorProg.lean LOADS. Nothing in Lean hashes anything: it is a label: what it is worth is what the hold of that sum in a sandbox is worth. -/
noncomputable def Tryd.pinned : Pinned := { name := "ytfdpnkmchedeeaadoor", sum := "fc10c0ac7e3ae82adee4fdbf4c869f54308b118cc322d404f0cf41376a4106d1", checked := Tryd.checked }
namespace Rows
def none {H : Type} : Left H := { results := [], args := [] }

/- WHAT THE LISTED PACKAGE-LEVEL VARIABLES READ AS WHEN THE CALL BEGINS. Each datum BY PROGRAM (the guide's laid-datum.mjs) off the statement by which the dump's own 'gosem.cut.vars' lays the variable. In a bare row this is a premise. The card (YtfdpnkmchedeeaaDoorCards.lean) ties it to the program's text. -/
def laid_unicode_utf8_acceptRanges {H : Type} : DataW H := .agg [.agg [.lit (.int .u8 128), .lit (.int .u8 191)], .agg [.lit (.int .u8 160), .lit (.int .u8 191)], .agg [.lit (.int .u8 128), .lit (.int .u8 159)], .agg [.lit (.int .u8 144), .lit (.int .u8 191)], .agg [.lit (.int .u8 128), .lit (.int .u8 143)], .agg [.lit (.int .u8 0), .lit (.int .u8 0)], .agg [.lit (.int .u8 0), .lit (.int .u8 0)], .agg [.lit (.int .u8 0), .lit (.int .u8 0)], .agg [.lit (.int .u8 0), .lit (.int .u8 0)], .agg [.lit (.int .u8 0), .lit (.int .u8 0)], .agg [.lit (.int .u8 0), .lit (.int .u8 0)], .agg [.lit (.int .u8 0), .lit (.int .u8 0)], .agg [.lit (.int .u8 0), .lit (.int .u8 0)], .agg [.lit (.int .u8 0), .lit (.int .u8 0)], .agg [.lit (.int .u8 0), .lit (.int .u8 0)], .agg [.lit (.int .u8 0), .lit (.int .u8 0)]]
/-- One of Go's own tables, pinned by name: the form's constant. -/
def laid_unicode_utf8_first : DataW Unit := Go.Pinned.utf8First

/-- 'norialaw09.NamesOf': WHATEVER THE INPUT: true; the input reads as it did. -/
def namesOfSpec : ChangeSpec := { name := "namesOf", fn := fun _ => fun
  | [d1, d2, d3, d4] => { results := [.lit (.bool true)], args := [d1, d2, d3, d4] }
  | _ => none }
def namesOfRow : OpenClaim := { program := "ytfdpnkmchedeeaadoor", sum := "fc10c0ac7e3ae82adee4fdbf4c869f54308b118cc322d404f0cf41376a4106d1", func := "noria/norialaw09.NamesOf", spec := "namesOf", inPlace := ["internal/bytealg.IndexByteString", "internal/bytealg.IndexString"], unfollowed := true, recurses := true, named := ["unicode/utf8.first", "unicode/utf8.acceptRanges", "internal/bytealg.MaxLen"], apart := false, laid := [("unicode/utf8.acceptRanges", laid_unicode_utf8_acceptRanges), ("unicode/utf8.first", laid_unicode_utf8_first)] }
def NamesOfSaid : Prop := namesOfRow.holds Tryd.pinned (OpenSpec.ofChange namesOfSpec)

/-- ITS FALSE NEIGHBOUR: 'it returns false'. Refute it at one input. -/
def namesOfWrong : ChangeSpec := { name := "namesOf", fn := fun _ => fun
  | [d1, d2, d3, d4] => { results := [.lit (.bool false)], args := [d1, d2, d3, d4] }
  | _ => none }
def NamesOfWrongFalsely : Prop := namesOfRow.holds Tryd.pinned (OpenSpec.ofChange namesOfWrong)

/-- 'norialaw09.NamesUnion': WHATEVER THE INPUT: true; the input reads as it did. -/
def namesUnionSpec : ChangeSpec := { name := "namesUnion", fn := fun _ => fun
  | [d1, d2, d3] => { results := [.lit (.bool true)], args := [d1, d2, d3] }
  | _ => none }
def namesUnionRow : OpenClaim := { program := "ytfdpnkmchedeeaadoor", sum := "fc10c0ac7e3ae82adee4fdbf4c869f54308b118cc322d404f0cf41376a4106d1", func := "noria/norialaw09.NamesUnion", spec := "namesUnion", inPlace := ["internal/bytealg.IndexByteString", "internal/bytealg.IndexString"], unfollowed := true, recurses := true, named := ["unicode/utf8.first", "unicode/utf8.acceptRanges", "internal/bytealg.MaxLen"], apart := false, laid := [("unicode/utf8.acceptRanges", laid_unicode_utf8_acceptRanges), ("unicode/utf8.first", laid_unicode_utf8_first)] }
def NamesUnionSaid : Prop := namesUnionRow.holds Tryd.pinned (OpenSpec.ofChange namesUnionSpec)

/-- ITS FALSE NEIGHBOUR: 'it returns false'. Refute it at one input. -/
def namesUnionWrong : ChangeSpec := { name := "namesUnion", fn := fun _ => fun
  | [d1, d2, d3] => { results := [.lit (.bool false)], args := [d1, d2, d3] }
  | _ => none }
def NamesUnionWrongFalsely : Prop := namesUnionRow.holds Tryd.pinned (OpenSpec.ofChange namesUnionWrong)

/-- 'norialaw09.NamesRise': WHATEVER THE INPUT: true; the input reads as it did. -/
def namesRiseSpec : ChangeSpec := { name := "namesRise", fn := fun _ => fun
  | [d1, d2] => { results := [.lit (.bool true)], args := [d1, d2] }
  | _ => none }
def namesRiseRow : OpenClaim := { program := "ytfdpnkmchedeeaadoor", sum := "fc10c0ac7e3ae82adee4fdbf4c869f54308b118cc322d404f0cf41376a4106d1", func := "noria/norialaw09.NamesRise", spec := "namesRise", inPlace := ["internal/bytealg.IndexByteString", "internal/bytealg.IndexString"], unfollowed := true, recurses := true, named := ["unicode/utf8.first", "unicode/utf8.acceptRanges", "internal/bytealg.MaxLen"], apart := false, laid := [("unicode/utf8.acceptRanges", laid_unicode_utf8_acceptRanges), ("unicode/utf8.first", laid_unicode_utf8_first)] }
def NamesRiseSaid : Prop := namesRiseRow.holds Tryd.pinned (OpenSpec.ofChange namesRiseSpec)

/-- ITS FALSE NEIGHBOUR: 'it returns false'. Refute it at one input. -/
def namesRiseWrong : ChangeSpec := { name := "namesRise", fn := fun _ => fun
  | [d1, d2] => { results := [.lit (.bool false)], args := [d1, d2] }
  | _ => none }
def NamesRiseWrongFalsely : Prop := namesRiseRow.holds Tryd.pinned (OpenSpec.ofChange namesRiseWrong)

/-- 'norialaw09.NamesLess': WHATEVER THE INPUT: true; the input reads as it did. -/
def namesLessSpec : ChangeSpec := { name := "namesLess", fn := fun _ => fun
  | [d1, d2] => { results := [.lit (.bool true)], args := [d1, d2] }
  | _ => none }
def namesLessRow : OpenClaim := { program := "ytfdpnkmchedeeaadoor", sum := "fc10c0ac7e3ae82adee4fdbf4c869f54308b118cc322d404f0cf41376a4106d1", func := "noria/norialaw09.NamesLess", spec := "namesLess", inPlace := ["internal/bytealg.IndexByteString", "internal/bytealg.IndexString"], unfollowed := true, recurses := true, named := ["unicode/utf8.first", "unicode/utf8.acceptRanges", "internal/bytealg.MaxLen"], apart := false, laid := [("unicode/utf8.acceptRanges", laid_unicode_utf8_acceptRanges), ("unicode/utf8.first", laid_unicode_utf8_first)] }
def NamesLessSaid : Prop := namesLessRow.holds Tryd.pinned (OpenSpec.ofChange namesLessSpec)

/-- ITS FALSE NEIGHBOUR: 'it returns false'. Refute it at one input. -/
def namesLessWrong : ChangeSpec := { name := "namesLess", fn := fun _ => fun
  | [d1, d2] => { results := [.lit (.bool false)], args := [d1, d2] }
  | _ => none }
def NamesLessWrongFalsely : Prop := namesLessRow.holds Tryd.pinned (OpenSpec.ofChange namesLessWrong)

/-- 'norialaw09.NamesDelta': WHATEVER THE INPUT: true; the input reads as it did. -/
def namesDeltaSpec : ChangeSpec := { name := "namesDelta", fn := fun _ => fun
  | [d] => { results := [.lit (.bool true)], args := [d] }
  | _ => none }
def namesDeltaRow : OpenClaim := { program := "ytfdpnkmchedeeaadoor", sum := "fc10c0ac7e3ae82adee4fdbf4c869f54308b118cc322d404f0cf41376a4106d1", func := "noria/norialaw09.NamesDelta", spec := "namesDelta", inPlace := ["internal/bytealg.IndexByteString", "internal/bytealg.IndexString"], unfollowed := true, recurses := true, named := ["unicode/utf8.first", "unicode/utf8.acceptRanges", "internal/bytealg.MaxLen"], apart := false, laid := [("unicode/utf8.acceptRanges", laid_unicode_utf8_acceptRanges), ("unicode/utf8.first", laid_unicode_utf8_first)] }
def NamesDeltaSaid : Prop := namesDeltaRow.holds Tryd.pinned (OpenSpec.ofChange namesDeltaSpec)

/-- ITS FALSE NEIGHBOUR: 'it returns false'. Refute it at one input. -/
def namesDeltaWrong : ChangeSpec := { name := "namesDelta", fn := fun _ => fun
  | [d] => { results := [.lit (.bool false)], args := [d] }
  | _ => none }
def NamesDeltaWrongFalsely : Prop := namesDeltaRow.holds Tryd.pinned (OpenSpec.ofChange namesDeltaWrong)

/-- 'norialaw09.NamesSets': WHATEVER THE INPUT: true; the input reads as it did. -/
def namesSetsSpec : ChangeSpec := { name := "namesSets", fn := fun _ => fun
  | [d1, d2, d3, d4] => { results := [.lit (.bool true)], args := [d1, d2, d3, d4] }
  | _ => none }
def namesSetsRow : OpenClaim := { program := "ytfdpnkmchedeeaadoor", sum := "fc10c0ac7e3ae82adee4fdbf4c869f54308b118cc322d404f0cf41376a4106d1", func := "noria/norialaw09.NamesSets", spec := "namesSets", inPlace := ["internal/bytealg.IndexByteString", "internal/bytealg.IndexString"], unfollowed := true, recurses := true, named := ["unicode/utf8.first", "unicode/utf8.acceptRanges", "internal/bytealg.MaxLen"], apart := false, laid := [("unicode/utf8.acceptRanges", laid_unicode_utf8_acceptRanges), ("unicode/utf8.first", laid_unicode_utf8_first)] }
def NamesSetsSaid : Prop := namesSetsRow.holds Tryd.pinned (OpenSpec.ofChange namesSetsSpec)

/-- ITS FALSE NEIGHBOUR: 'it returns false'. Refute it at one input. -/
def namesSetsWrong : ChangeSpec := { name := "namesSets", fn := fun _ => fun
  | [d1, d2, d3, d4] => { results := [.lit (.bool false)], args := [d1, d2, d3, d4] }
  | _ => none }
def NamesSetsWrongFalsely : Prop := namesSetsRow.holds Tryd.pinned (OpenSpec.ofChange namesSetsWrong)

/- THE SECOND FORM. 'bulk': how many values and letters a reading holds, each counted each time it is reached (what is shared counts as often as it is met; a slice's spare places count too). A statement '..UptoSaid' is the law's where the arguments, and the package variables that the reading takes, are together of bulk at most 1048576: NARROWER than '..Said'. Prove '..Said' where nothing that the law and all that it calls make is longer than what came in: it says more and counts as full. Else prove '..UptoSaid'. A law counts once. -/
mutual
def uptoBulk {H : Type} : DataW H → Nat
  | .lit (.string bytes) => bytes.length + 1
  | .lit _ => 1
  | .nil => 1
  | .ptr d => uptoBulk d + 1
  | .slice elems spare => uptoBulkAll elems + uptoBulkAll spare + 1
  | .agg parts => uptoBulkAll parts + 1
  | .iface _ d => uptoBulk d + 1
  | .map entries => uptoBulkEntries entries + 1
  | .held _ => 1
def uptoBulkAll {H : Type} : List (DataW H) → Nat
  | [] => 0
  | d :: r => uptoBulk d + uptoBulkAll r
def uptoBulkEntries {H : Type} : List (Lit × DataW H) → Nat
  | [] => 0
  | x :: r => uptoBulkEntry x + uptoBulkEntries r
def uptoBulkEntry {H : Type} : Lit × DataW H → Nat
  | (.string bytes, d) => bytes.length + uptoBulk d + 1
  | (_, d) => uptoBulk d + 1
 end
def uptoSmall : (H : Type) → List (DataW H) → Bool := fun _ ds => decide (uptoBulkAll ds ≤ 1048576)
def OpenSpec.upto (s : _root_.Go.ChangeSpec) : _root_.Go.OpenSpec := { _root_.Go.OpenSpec.ofChange s with cond := some uptoSmall }

/-- 'norialaw09.NamesOf', WHERE WHAT IT READS IS OF BULK AT MOST 1048576: true; the input reads as it did. -/
def namesOfUptoRow : OpenClaim := { program := "ytfdpnkmchedeeaadoor", sum := "fc10c0ac7e3ae82adee4fdbf4c869f54308b118cc322d404f0cf41376a4106d1", func := "noria/norialaw09.NamesOf", spec := "namesOf", inPlace := ["internal/bytealg.IndexByteString", "internal/bytealg.IndexString"], unfollowed := true, recurses := true, named := ["unicode/utf8.first", "unicode/utf8.acceptRanges", "internal/bytealg.MaxLen"], apart := false, laid := [("unicode/utf8.acceptRanges", laid_unicode_utf8_acceptRanges), ("unicode/utf8.first", laid_unicode_utf8_first)], narrowed := true }
def NamesOfUptoSaid : Prop := namesOfUptoRow.holds Tryd.pinned (OpenSpec.upto namesOfSpec)

/-- 'norialaw09.NamesUnion', WHERE WHAT IT READS IS OF BULK AT MOST 1048576: true; the input reads as it did. -/
def namesUnionUptoRow : OpenClaim := { program := "ytfdpnkmchedeeaadoor", sum := "fc10c0ac7e3ae82adee4fdbf4c869f54308b118cc322d404f0cf41376a4106d1", func := "noria/norialaw09.NamesUnion", spec := "namesUnion", inPlace := ["internal/bytealg.IndexByteString", "internal/bytealg.IndexString"], unfollowed := true, recurses := true, named := ["unicode/utf8.first", "unicode/utf8.acceptRanges", "internal/bytealg.MaxLen"], apart := false, laid := [("unicode/utf8.acceptRanges", laid_unicode_utf8_acceptRanges), ("unicode/utf8.first", laid_unicode_utf8_first)], narrowed := true }
def NamesUnionUptoSaid : Prop := namesUnionUptoRow.holds Tryd.pinned (OpenSpec.upto namesUnionSpec)

/-- 'norialaw09.NamesRise', WHERE WHAT IT READS IS OF BULK AT MOST 1048576: true; the input reads as it did. -/
def namesRiseUptoRow : OpenClaim := { program := "ytfdpnkmchedeeaadoor", sum := "fc10c0ac7e3ae82adee4fdbf4c869f54308b118cc322d404f0cf41376a4106d1", func := "noria/norialaw09.NamesRise", spec := "namesRise", inPlace := ["internal/bytealg.IndexByteString", "internal/bytealg.IndexString"], unfollowed := true, recurses := true, named := ["unicode/utf8.first", "unicode/utf8.acceptRanges", "internal/bytealg.MaxLen"], apart := false, laid := [("unicode/utf8.acceptRanges", laid_unicode_utf8_acceptRanges), ("unicode/utf8.first", laid_unicode_utf8_first)], narrowed := true }
def NamesRiseUptoSaid : Prop := namesRiseUptoRow.holds Tryd.pinned (OpenSpec.upto namesRiseSpec)

/-- 'norialaw09.NamesLess', WHERE WHAT IT READS IS OF BULK AT MOST 1048576: true; the input reads as it did. -/
def namesLessUptoRow : OpenClaim := { program := "ytfdpnkmchedeeaadoor", sum := "fc10c0ac7e3ae82adee4fdbf4c869f54308b118cc322d404f0cf41376a4106d1", func := "noria/norialaw09.NamesLess", spec := "namesLess", inPlace := ["internal/bytealg.IndexByteString", "internal/bytealg.IndexString"], unfollowed := true, recurses := true, named := ["unicode/utf8.first", "unicode/utf8.acceptRanges", "internal/bytealg.MaxLen"], apart := false, laid := [("unicode/utf8.acceptRanges", laid_unicode_utf8_acceptRanges), ("unicode/utf8.first", laid_unicode_utf8_first)], narrowed := true }
def NamesLessUptoSaid : Prop := namesLessUptoRow.holds Tryd.pinned (OpenSpec.upto namesLessSpec)

/-- 'norialaw09.NamesDelta', WHERE WHAT IT READS IS OF BULK AT MOST 1048576: true; the input reads as it did. -/
def namesDeltaUptoRow : OpenClaim := { program := "ytfdpnkmchedeeaadoor", sum := "fc10c0ac7e3ae82adee4fdbf4c869f54308b118cc322d404f0cf41376a4106d1", func := "noria/norialaw09.NamesDelta", spec := "namesDelta", inPlace := ["internal/bytealg.IndexByteString", "internal/bytealg.IndexString"], unfollowed := true, recurses := true, named := ["unicode/utf8.first", "unicode/utf8.acceptRanges", "internal/bytealg.MaxLen"], apart := false, laid := [("unicode/utf8.acceptRanges", laid_unicode_utf8_acceptRanges), ("unicode/utf8.first", laid_unicode_utf8_first)], narrowed := true }
def NamesDeltaUptoSaid : Prop := namesDeltaUptoRow.holds Tryd.pinned (OpenSpec.upto namesDeltaSpec)

/-- 'norialaw09.NamesSets', WHERE WHAT IT READS IS OF BULK AT MOST 1048576: true; the input reads as it did. -/
def namesSetsUptoRow : OpenClaim := { program := "ytfdpnkmchedeeaadoor", sum := "fc10c0ac7e3ae82adee4fdbf4c869f54308b118cc322d404f0cf41376a4106d1", func := "noria/norialaw09.NamesSets", spec := "namesSets", inPlace := ["internal/bytealg.IndexByteString", "internal/bytealg.IndexString"], unfollowed := true, recurses := true, named := ["unicode/utf8.first", "unicode/utf8.acceptRanges", "internal/bytealg.MaxLen"], apart := false, laid := [("unicode/utf8.acceptRanges", laid_unicode_utf8_acceptRanges), ("unicode/utf8.first", laid_unicode_utf8_first)], narrowed := true }
def NamesSetsUptoSaid : Prop := namesSetsUptoRow.holds Tryd.pinned (OpenSpec.upto namesSetsSpec)

end Rows
end Go.Proofs.YtfdpnkmchedeeaaDoor
