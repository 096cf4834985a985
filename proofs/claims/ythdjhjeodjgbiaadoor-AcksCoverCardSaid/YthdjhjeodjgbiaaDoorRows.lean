/-
  NARROWER THAN 'FOR EVERY INPUT', by the rows' own cells (each row's printed sentence says how): AcksCover: laid · AcksRefused: laid · AcksKeys: laid · AcksDrop: laid.
  DERIVED. THE GIVEN ROWS OF THIS SEAT. 4 by the template 'for every input the law returns true; each argument reads behind the call as it read before'; 0 by the template 'total and deterministic' (their statements: YthdjhjeodjgbiaaDoorTotals.lean).
  GIVEN WITH THE SEED: the statements are not yours to turn. If you find one false, say at which input.
  Laid BY PROGRAM, IN A SANDBOX (cutbox-rows.mjs): the forced cells as the released guide's own fill.sh prints them over the translation 436d54f7a535df9e… (all of the seat's roots in one cut). By AI agents, Wed Nov 11 2026. No macro, syntax, notation, axiom, sorry.
-/
import Derived.Test.YthdjhjeodjgbiaaDoorChecked
import GoSem.PinnedTables
import GoSem.Claim
import GoSem.ClaimJoined
import GoSem.ClaimMapViews
import Derived.JoinedTies
import Derived.KernelRfl
namespace Go.Proofs.YthdjhjeodjgbiaaDoor
/- THE CELL 'sum', in the pinned program and in every row, IS THE sha256 OF THE DUMP (.gsa) THAT YthdjhjeodjgbiaaDoorProg.lean LOADS. Nothing in Lean hashes anything: it is a label: what it is worth is what the hold of that sum in a sandbox is worth. -/
noncomputable def Tryd.pinned : Pinned := { name := "ythdjhjeodjgbiaadoor", sum := "436d54f7a535df9e571a4aa9150188bfa09c5f5e16fa20966012c08d52197358", checked := Tryd.checked }
namespace Rows
def none {H : Type} : Left H := { results := [], args := [] }

/- WHAT THE LISTED PACKAGE-LEVEL VARIABLES READ AS WHEN THE CALL BEGINS. Each datum BY PROGRAM (the guide's laid-datum.mjs) off the statement by which the dump's own 'gosem.cut.vars' lays the variable. In a bare row this is a premise. The card (YthdjhjeodjgbiaaDoorCards.lean) ties it to the program's text. -/
def laid_unicode_utf8_acceptRanges {H : Type} : DataW H := .agg [.agg [.lit (.int .u8 128), .lit (.int .u8 191)], .agg [.lit (.int .u8 160), .lit (.int .u8 191)], .agg [.lit (.int .u8 128), .lit (.int .u8 159)], .agg [.lit (.int .u8 144), .lit (.int .u8 191)], .agg [.lit (.int .u8 128), .lit (.int .u8 143)], .agg [.lit (.int .u8 0), .lit (.int .u8 0)], .agg [.lit (.int .u8 0), .lit (.int .u8 0)], .agg [.lit (.int .u8 0), .lit (.int .u8 0)], .agg [.lit (.int .u8 0), .lit (.int .u8 0)], .agg [.lit (.int .u8 0), .lit (.int .u8 0)], .agg [.lit (.int .u8 0), .lit (.int .u8 0)], .agg [.lit (.int .u8 0), .lit (.int .u8 0)], .agg [.lit (.int .u8 0), .lit (.int .u8 0)], .agg [.lit (.int .u8 0), .lit (.int .u8 0)], .agg [.lit (.int .u8 0), .lit (.int .u8 0)], .agg [.lit (.int .u8 0), .lit (.int .u8 0)]]
/-- One of Go's own tables, pinned by name: the form's constant. -/
def laid_unicode_utf8_first : DataW Unit := Go.Pinned.utf8First

/-- 'norialaw15.AcksCover': WHATEVER THE INPUT: true; the input reads as it did. -/
def acksCoverSpec : ChangeSpec := { name := "acksCover", fn := fun _ => fun
  | [d1, d2] => { results := [.lit (.bool true)], args := [d1, d2] }
  | _ => none }
def acksCoverRow : OpenClaim := { program := "ythdjhjeodjgbiaadoor", sum := "436d54f7a535df9e571a4aa9150188bfa09c5f5e16fa20966012c08d52197358", func := "noria/norialaw15.AcksCover", spec := "acksCover", inPlace := ["internal/bytealg.IndexByteString", "internal/bytealg.IndexString", "internal/abi.NoEscape", "slices.overlaps[noria/acks.bad]"], unfollowed := true, recurses := true, named := ["unicode/utf8.first", "unicode/utf8.acceptRanges", "internal/bytealg.MaxLen"], plainKeys := false, apart := false, laid := [("unicode/utf8.acceptRanges", laid_unicode_utf8_acceptRanges), ("unicode/utf8.first", laid_unicode_utf8_first)] }
def AcksCoverSaid : Prop := acksCoverRow.holds Tryd.pinned (OpenSpec.ofChange acksCoverSpec)

/-- ITS FALSE NEIGHBOUR: 'it returns false'. Refute it at one input. -/
def acksCoverWrong : ChangeSpec := { name := "acksCover", fn := fun _ => fun
  | [d1, d2] => { results := [.lit (.bool false)], args := [d1, d2] }
  | _ => none }
def AcksCoverWrongFalsely : Prop := acksCoverRow.holds Tryd.pinned (OpenSpec.ofChange acksCoverWrong)

/-- 'norialaw15.AcksRefused': WHATEVER THE INPUT: true; the input reads as it did. -/
def acksRefusedSpec : ChangeSpec := { name := "acksRefused", fn := fun _ => fun
  | [d] => { results := [.lit (.bool true)], args := [d] }
  | _ => none }
def acksRefusedRow : OpenClaim := { program := "ythdjhjeodjgbiaadoor", sum := "436d54f7a535df9e571a4aa9150188bfa09c5f5e16fa20966012c08d52197358", func := "noria/norialaw15.AcksRefused", spec := "acksRefused", inPlace := ["internal/bytealg.IndexByteString", "internal/bytealg.IndexString", "internal/abi.NoEscape", "slices.overlaps[noria/acks.bad]"], unfollowed := true, recurses := true, named := ["unicode/utf8.first", "unicode/utf8.acceptRanges", "internal/bytealg.MaxLen"], plainKeys := false, apart := false, laid := [("unicode/utf8.acceptRanges", laid_unicode_utf8_acceptRanges), ("unicode/utf8.first", laid_unicode_utf8_first)] }
def AcksRefusedSaid : Prop := acksRefusedRow.holds Tryd.pinned (OpenSpec.ofChange acksRefusedSpec)

/-- ITS FALSE NEIGHBOUR: 'it returns false'. Refute it at one input. -/
def acksRefusedWrong : ChangeSpec := { name := "acksRefused", fn := fun _ => fun
  | [d] => { results := [.lit (.bool false)], args := [d] }
  | _ => none }
def AcksRefusedWrongFalsely : Prop := acksRefusedRow.holds Tryd.pinned (OpenSpec.ofChange acksRefusedWrong)

/-- 'norialaw15.AcksKeys': WHATEVER THE INPUT: true; the input reads as it did. -/
def acksKeysSpec : ChangeSpec := { name := "acksKeys", fn := fun _ => fun
  | [d1, d2] => { results := [.lit (.bool true)], args := [d1, d2] }
  | _ => none }
def acksKeysRow : OpenClaim := { program := "ythdjhjeodjgbiaadoor", sum := "436d54f7a535df9e571a4aa9150188bfa09c5f5e16fa20966012c08d52197358", func := "noria/norialaw15.AcksKeys", spec := "acksKeys", inPlace := ["internal/bytealg.IndexByteString", "internal/bytealg.IndexString", "internal/abi.NoEscape", "slices.overlaps[noria/acks.bad]"], unfollowed := true, recurses := true, named := ["unicode/utf8.first", "unicode/utf8.acceptRanges", "internal/bytealg.MaxLen"], plainKeys := false, apart := false, laid := [("unicode/utf8.acceptRanges", laid_unicode_utf8_acceptRanges), ("unicode/utf8.first", laid_unicode_utf8_first)] }
def AcksKeysSaid : Prop := acksKeysRow.holds Tryd.pinned (OpenSpec.ofChange acksKeysSpec)

/-- ITS FALSE NEIGHBOUR: 'it returns false'. Refute it at one input. -/
def acksKeysWrong : ChangeSpec := { name := "acksKeys", fn := fun _ => fun
  | [d1, d2] => { results := [.lit (.bool false)], args := [d1, d2] }
  | _ => none }
def AcksKeysWrongFalsely : Prop := acksKeysRow.holds Tryd.pinned (OpenSpec.ofChange acksKeysWrong)

/-- 'norialaw15.AcksDrop': WHATEVER THE INPUT: true; the input reads as it did. -/
def acksDropSpec : ChangeSpec := { name := "acksDrop", fn := fun _ => fun
  | [d1, d2] => { results := [.lit (.bool true)], args := [d1, d2] }
  | _ => none }
def acksDropRow : OpenClaim := { program := "ythdjhjeodjgbiaadoor", sum := "436d54f7a535df9e571a4aa9150188bfa09c5f5e16fa20966012c08d52197358", func := "noria/norialaw15.AcksDrop", spec := "acksDrop", inPlace := ["internal/bytealg.IndexByteString", "internal/bytealg.IndexString", "internal/abi.NoEscape", "slices.overlaps[noria/acks.bad]"], unfollowed := true, recurses := true, named := ["unicode/utf8.first", "unicode/utf8.acceptRanges", "internal/bytealg.MaxLen"], plainKeys := false, apart := false, laid := [("unicode/utf8.acceptRanges", laid_unicode_utf8_acceptRanges), ("unicode/utf8.first", laid_unicode_utf8_first)] }
def AcksDropSaid : Prop := acksDropRow.holds Tryd.pinned (OpenSpec.ofChange acksDropSpec)

/-- ITS FALSE NEIGHBOUR: 'it returns false'. Refute it at one input. -/
def acksDropWrong : ChangeSpec := { name := "acksDrop", fn := fun _ => fun
  | [d1, d2] => { results := [.lit (.bool false)], args := [d1, d2] }
  | _ => none }
def AcksDropWrongFalsely : Prop := acksDropRow.holds Tryd.pinned (OpenSpec.ofChange acksDropWrong)

/- THE SECOND FORM. 'bulk': how many values and letters a reading holds, each counted each time it is reached (what is shared counts as often as it is met; a slice's spare places count too). A statement '..UptoSaid' is the law's where the arguments, and the package variables that the reading takes, are together of bulk at most 1048576: NARROWER than '..Said'. Prove '..Said' where nothing that the law and all that it calls make is longer than what came in: it says more and counts as full. Else prove '..UptoSaid'. A law counts once. -/
mutual
def uptoBulk {H : Type} : DataW H → Nat
  | .lit (.string bytes) => bytes.length + 1
  | .lit _ => 1
  | .nil => 1
  | .ptr d => uptoBulk d + 1
  | .slice elems spare => uptoBulkAll elems + uptoBulkAll spare + 1
  | .agg parts => uptoBulkAll parts + 1
  | .iface _ d => uptoBulk d + 1
  | .map entries => uptoBulkEntries entries + 1
  | .held _ => 1
def uptoBulkAll {H : Type} : List (DataW H) → Nat
  | [] => 0
  | d :: r => uptoBulk d + uptoBulkAll r
def uptoBulkEntries {H : Type} : List (Lit × DataW H) → Nat
  | [] => 0
  | x :: r => uptoBulkEntry x + uptoBulkEntries r
def uptoBulkEntry {H : Type} : Lit × DataW H → Nat
  | (.string bytes, d) => bytes.length + uptoBulk d + 1
  | (_, d) => uptoBulk d + 1
 end
def uptoSmall : (H : Type) → List (DataW H) → Bool := fun _ ds => decide (uptoBulkAll ds ≤ 1048576)
def OpenSpec.upto (s : _root_.Go.ChangeSpec) : _root_.Go.OpenSpec := { _root_.Go.OpenSpec.ofChange s with cond := some uptoSmall }

/-- 'norialaw15.AcksCover', WHERE WHAT IT READS IS OF BULK AT MOST 1048576: true; the input reads as it did. -/
def acksCoverUptoRow : OpenClaim := { program := "ythdjhjeodjgbiaadoor", sum := "436d54f7a535df9e571a4aa9150188bfa09c5f5e16fa20966012c08d52197358", func := "noria/norialaw15.AcksCover", spec := "acksCover", inPlace := ["internal/bytealg.IndexByteString", "internal/bytealg.IndexString", "internal/abi.NoEscape", "slices.overlaps[noria/acks.bad]"], unfollowed := true, recurses := true, named := ["unicode/utf8.first", "unicode/utf8.acceptRanges", "internal/bytealg.MaxLen"], plainKeys := false, apart := false, laid := [("unicode/utf8.acceptRanges", laid_unicode_utf8_acceptRanges), ("unicode/utf8.first", laid_unicode_utf8_first)], narrowed := true }
def AcksCoverUptoSaid : Prop := acksCoverUptoRow.holds Tryd.pinned (OpenSpec.upto acksCoverSpec)

/-- 'norialaw15.AcksRefused', WHERE WHAT IT READS IS OF BULK AT MOST 1048576: true; the input reads as it did. -/
def acksRefusedUptoRow : OpenClaim := { program := "ythdjhjeodjgbiaadoor", sum := "436d54f7a535df9e571a4aa9150188bfa09c5f5e16fa20966012c08d52197358", func := "noria/norialaw15.AcksRefused", spec := "acksRefused", inPlace := ["internal/bytealg.IndexByteString", "internal/bytealg.IndexString", "internal/abi.NoEscape", "slices.overlaps[noria/acks.bad]"], unfollowed := true, recurses := true, named := ["unicode/utf8.first", "unicode/utf8.acceptRanges", "internal/bytealg.MaxLen"], plainKeys := false, apart := false, laid := [("unicode/utf8.acceptRanges", laid_unicode_utf8_acceptRanges), ("unicode/utf8.first", laid_unicode_utf8_first)], narrowed := true }
def AcksRefusedUptoSaid : Prop := acksRefusedUptoRow.holds Tryd.pinned (OpenSpec.upto acksRefusedSpec)

/-- 'norialaw15.AcksKeys', WHERE WHAT IT READS IS OF BULK AT MOST 1048576: true; the input reads as it did. -/
def acksKeysUptoRow : OpenClaim := { program := "ythdjhjeodjgbiaadoor", sum := "436d54f7a535df9e571a4aa9150188bfa09c5f5e16fa20966012c08d52197358", func := "noria/norialaw15.AcksKeys", spec := "acksKeys", inPlace := ["internal/bytealg.IndexByteString", "internal/bytealg.IndexString", "internal/abi.NoEscape", "slices.overlaps[noria/acks.bad]"], unfollowed := true, recurses := true, named := ["unicode/utf8.first", "unicode/utf8.acceptRanges", "internal/bytealg.MaxLen"], plainKeys := false, apart := false, laid := [("unicode/utf8.acceptRanges", laid_unicode_utf8_acceptRanges), ("unicode/utf8.first", laid_unicode_utf8_first)], narrowed := true }
def AcksKeysUptoSaid : Prop := acksKeysUptoRow.holds Tryd.pinned (OpenSpec.upto acksKeysSpec)

/-- 'norialaw15.AcksDrop', WHERE WHAT IT READS IS OF BULK AT MOST 1048576: true; the input reads as it did. -/
def acksDropUptoRow : OpenClaim := { program := "ythdjhjeodjgbiaadoor", sum := "436d54f7a535df9e571a4aa9150188bfa09c5f5e16fa20966012c08d52197358", func := "noria/norialaw15.AcksDrop", spec := "acksDrop", inPlace := ["internal/bytealg.IndexByteString", "internal/bytealg.IndexString", "internal/abi.NoEscape", "slices.overlaps[noria/acks.bad]"], unfollowed := true, recurses := true, named := ["unicode/utf8.first", "unicode/utf8.acceptRanges", "internal/bytealg.MaxLen"], plainKeys := false, apart := false, laid := [("unicode/utf8.acceptRanges", laid_unicode_utf8_acceptRanges), ("unicode/utf8.first", laid_unicode_utf8_first)], narrowed := true }
def AcksDropUptoSaid : Prop := acksDropUptoRow.holds Tryd.pinned (OpenSpec.upto acksDropSpec)

end Rows
end Go.Proofs.YthdjhjeodjgbiaaDoor
