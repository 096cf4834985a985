/-
  NARROWER THAN 'FOR EVERY INPUT', by the rows' own cells (each row's printed sentence says how): PayloadGets: laid · PayloadRefs: laid · PayloadPuts: laid · PayloadBack: laid · PayloadTypes: laid · PayloadSame: laid · PayloadMany: laid.
  DERIVED. THE GIVEN ROWS OF THIS SEAT. 7 by the template 'for every input the law returns true; each argument reads behind the call as it read before'; 0 by the template 'total and deterministic' (their statements: YthlbgeonobicbaaDoorTotals.lean).
  GIVEN WITH THE SEED: the statements are not yours to turn. If you find one false, say at which input.
  Laid BY PROGRAM, IN A SANDBOX (cutbox-rows.mjs): the forced cells as the released guide's own fill.sh prints them over the translation a17a95d7d83c659a… (all of the seat's roots in one cut). By AI agents, Wed Nov 11 2026. No macro, syntax, notation, axiom, sorry.
-/
import Derived.Test.YthlbgeonobicbaaDoorChecked
import GoSem.Claim
import GoSem.ClaimJoined
import GoSem.ClaimMapViews
import Derived.JoinedTies
import Derived.KernelRfl
namespace Go.Proofs.YthlbgeonobicbaaDoor
/- THE CELL 'sum', in the pinned program and in every row, IS THE sha256 OF THE DUMP (.gsa) THAT YthlbgeonobicbaaDoorProg.lean LOADS. Nothing in Lean hashes anything: it is a label: what it is worth is what the hold of that sum in a sandbox is worth. -/
noncomputable def Tryd.pinned : Pinned := { name := "ythlbgeonobicbaadoor", sum := "a17a95d7d83c659a9829a1a16c0b8190752254d6b8d8e04c227a367f7e17ee85", checked := Tryd.checked }
namespace Rows
def none {H : Type} : Left H := { results := [], args := [] }

/- WHAT THE LISTED PACKAGE-LEVEL VARIABLES READ AS WHEN THE CALL BEGINS. Each datum BY PROGRAM (the guide's laid-datum.mjs) off the statement by which the dump's own 'gosem.cut.vars' lays the variable. In a bare row this is a premise. The card (YthlbgeonobicbaaDoorCards.lean) ties it to the program's text. -/
def laid_noria_wire_errShort {H : Type} : DataW H := .iface "*errors.errorString" (.ptr (.agg [.lit (.string [116, 111, 111, 32, 102, 101, 119, 32, 98, 121, 116, 101, 115])]))
def laid_noria_wire_errWrong {H : Type} : DataW H := .iface "*errors.errorString" (.ptr (.agg [.lit (.string [110, 111, 32, 115, 117, 99, 104, 32, 102, 105, 101, 108, 100])]))

/-- 'norialaw02.PayloadGets': WHATEVER THE INPUT: true; the input reads as it did. -/
def payloadGetsSpec : ChangeSpec := { name := "payloadGets", fn := fun _ => fun
  | [d1, d2, d3, d4, d5, d6] => { results := [.lit (.bool true)], args := [d1, d2, d3, d4, d5, d6] }
  | _ => none }
def payloadGetsRow : OpenClaim := { program := "ythlbgeonobicbaadoor", sum := "a17a95d7d83c659a9829a1a16c0b8190752254d6b8d8e04c227a367f7e17ee85", func := "noria/norialaw02.PayloadGets", spec := "payloadGets", inPlace := ["internal/abi.NoEscape", "internal/reflectlite.TypeOf", "internal/bytealg.IndexByteString", "internal/bytealg.IndexString"], unfollowed := true, recurses := true, named := ["noria/wire.errShort", "noria/wire.errWrong", "internal/bytealg.MaxLen"], apart := false, laid := [("noria/wire.errShort", laid_noria_wire_errShort), ("noria/wire.errWrong", laid_noria_wire_errWrong)] }
def PayloadGetsSaid : Prop := payloadGetsRow.holds Tryd.pinned (OpenSpec.ofChange payloadGetsSpec)

/-- ITS FALSE NEIGHBOUR: 'it returns false'. Refute it at one input. -/
def payloadGetsWrong : ChangeSpec := { name := "payloadGets", fn := fun _ => fun
  | [d1, d2, d3, d4, d5, d6] => { results := [.lit (.bool false)], args := [d1, d2, d3, d4, d5, d6] }
  | _ => none }
def PayloadGetsWrongFalsely : Prop := payloadGetsRow.holds Tryd.pinned (OpenSpec.ofChange payloadGetsWrong)

/-- 'norialaw02.PayloadRefs': WHATEVER THE INPUT: true; the input reads as it did. -/
def payloadRefsSpec : ChangeSpec := { name := "payloadRefs", fn := fun _ => fun
  | [d] => { results := [.lit (.bool true)], args := [d] }
  | _ => none }
def payloadRefsRow : OpenClaim := { program := "ythlbgeonobicbaadoor", sum := "a17a95d7d83c659a9829a1a16c0b8190752254d6b8d8e04c227a367f7e17ee85", func := "noria/norialaw02.PayloadRefs", spec := "payloadRefs", inPlace := ["internal/abi.NoEscape", "internal/reflectlite.TypeOf", "internal/bytealg.IndexByteString", "internal/bytealg.IndexString"], unfollowed := true, recurses := true, named := ["noria/wire.errShort", "noria/wire.errWrong", "internal/bytealg.MaxLen"], apart := false, laid := [("noria/wire.errShort", laid_noria_wire_errShort), ("noria/wire.errWrong", laid_noria_wire_errWrong)] }
def PayloadRefsSaid : Prop := payloadRefsRow.holds Tryd.pinned (OpenSpec.ofChange payloadRefsSpec)

/-- ITS FALSE NEIGHBOUR: 'it returns false'. Refute it at one input. -/
def payloadRefsWrong : ChangeSpec := { name := "payloadRefs", fn := fun _ => fun
  | [d] => { results := [.lit (.bool false)], args := [d] }
  | _ => none }
def PayloadRefsWrongFalsely : Prop := payloadRefsRow.holds Tryd.pinned (OpenSpec.ofChange payloadRefsWrong)

/-- 'norialaw02.PayloadPuts': WHATEVER THE INPUT: true; the input reads as it did. -/
def payloadPutsSpec : ChangeSpec := { name := "payloadPuts", fn := fun _ => fun
  | [d1, d2, d3] => { results := [.lit (.bool true)], args := [d1, d2, d3] }
  | _ => none }
def payloadPutsRow : OpenClaim := { program := "ythlbgeonobicbaadoor", sum := "a17a95d7d83c659a9829a1a16c0b8190752254d6b8d8e04c227a367f7e17ee85", func := "noria/norialaw02.PayloadPuts", spec := "payloadPuts", inPlace := ["internal/abi.NoEscape", "internal/reflectlite.TypeOf", "internal/bytealg.IndexByteString", "internal/bytealg.IndexString"], unfollowed := true, recurses := true, named := ["noria/wire.errShort", "noria/wire.errWrong", "internal/bytealg.MaxLen"], apart := false, laid := [("noria/wire.errShort", laid_noria_wire_errShort), ("noria/wire.errWrong", laid_noria_wire_errWrong)] }
def PayloadPutsSaid : Prop := payloadPutsRow.holds Tryd.pinned (OpenSpec.ofChange payloadPutsSpec)

/-- ITS FALSE NEIGHBOUR: 'it returns false'. Refute it at one input. -/
def payloadPutsWrong : ChangeSpec := { name := "payloadPuts", fn := fun _ => fun
  | [d1, d2, d3] => { results := [.lit (.bool false)], args := [d1, d2, d3] }
  | _ => none }
def PayloadPutsWrongFalsely : Prop := payloadPutsRow.holds Tryd.pinned (OpenSpec.ofChange payloadPutsWrong)

/-- 'norialaw02.PayloadBack': WHATEVER THE INPUT: true; the input reads as it did. -/
def payloadBackSpec : ChangeSpec := { name := "payloadBack", fn := fun _ => fun
  | [d1, d2, d3, d4] => { results := [.lit (.bool true)], args := [d1, d2, d3, d4] }
  | _ => none }
def payloadBackRow : OpenClaim := { program := "ythlbgeonobicbaadoor", sum := "a17a95d7d83c659a9829a1a16c0b8190752254d6b8d8e04c227a367f7e17ee85", func := "noria/norialaw02.PayloadBack", spec := "payloadBack", inPlace := ["internal/abi.NoEscape", "internal/reflectlite.TypeOf", "internal/bytealg.IndexByteString", "internal/bytealg.IndexString"], unfollowed := true, recurses := true, named := ["noria/wire.errShort", "noria/wire.errWrong", "internal/bytealg.MaxLen"], apart := false, laid := [("noria/wire.errShort", laid_noria_wire_errShort), ("noria/wire.errWrong", laid_noria_wire_errWrong)] }
def PayloadBackSaid : Prop := payloadBackRow.holds Tryd.pinned (OpenSpec.ofChange payloadBackSpec)

/-- ITS FALSE NEIGHBOUR: 'it returns false'. Refute it at one input. -/
def payloadBackWrong : ChangeSpec := { name := "payloadBack", fn := fun _ => fun
  | [d1, d2, d3, d4] => { results := [.lit (.bool false)], args := [d1, d2, d3, d4] }
  | _ => none }
def PayloadBackWrongFalsely : Prop := payloadBackRow.holds Tryd.pinned (OpenSpec.ofChange payloadBackWrong)

/-- 'norialaw02.PayloadTypes': WHATEVER THE INPUT: true; the input reads as it did. -/
def payloadTypesSpec : ChangeSpec := { name := "payloadTypes", fn := fun _ => fun
  | [d1, d2] => { results := [.lit (.bool true)], args := [d1, d2] }
  | _ => none }
def payloadTypesRow : OpenClaim := { program := "ythlbgeonobicbaadoor", sum := "a17a95d7d83c659a9829a1a16c0b8190752254d6b8d8e04c227a367f7e17ee85", func := "noria/norialaw02.PayloadTypes", spec := "payloadTypes", inPlace := ["internal/abi.NoEscape", "internal/reflectlite.TypeOf", "internal/bytealg.IndexByteString", "internal/bytealg.IndexString"], unfollowed := true, recurses := true, named := ["noria/wire.errShort", "noria/wire.errWrong", "internal/bytealg.MaxLen"], apart := false, laid := [("noria/wire.errShort", laid_noria_wire_errShort), ("noria/wire.errWrong", laid_noria_wire_errWrong)] }
def PayloadTypesSaid : Prop := payloadTypesRow.holds Tryd.pinned (OpenSpec.ofChange payloadTypesSpec)

/-- ITS FALSE NEIGHBOUR: 'it returns false'. Refute it at one input. -/
def payloadTypesWrong : ChangeSpec := { name := "payloadTypes", fn := fun _ => fun
  | [d1, d2] => { results := [.lit (.bool false)], args := [d1, d2] }
  | _ => none }
def PayloadTypesWrongFalsely : Prop := payloadTypesRow.holds Tryd.pinned (OpenSpec.ofChange payloadTypesWrong)

/-- 'norialaw02.PayloadSame': WHATEVER THE INPUT: true; the input reads as it did. -/
def payloadSameSpec : ChangeSpec := { name := "payloadSame", fn := fun _ => fun
  | [d1, d2] => { results := [.lit (.bool true)], args := [d1, d2] }
  | _ => none }
def payloadSameRow : OpenClaim := { program := "ythlbgeonobicbaadoor", sum := "a17a95d7d83c659a9829a1a16c0b8190752254d6b8d8e04c227a367f7e17ee85", func := "noria/norialaw02.PayloadSame", spec := "payloadSame", inPlace := ["internal/abi.NoEscape", "internal/reflectlite.TypeOf", "internal/bytealg.IndexByteString", "internal/bytealg.IndexString"], unfollowed := true, recurses := true, named := ["noria/wire.errShort", "noria/wire.errWrong", "internal/bytealg.MaxLen"], apart := false, laid := [("noria/wire.errShort", laid_noria_wire_errShort), ("noria/wire.errWrong", laid_noria_wire_errWrong)] }
def PayloadSameSaid : Prop := payloadSameRow.holds Tryd.pinned (OpenSpec.ofChange payloadSameSpec)

/-- ITS FALSE NEIGHBOUR: 'it returns false'. Refute it at one input. -/
def payloadSameWrong : ChangeSpec := { name := "payloadSame", fn := fun _ => fun
  | [d1, d2] => { results := [.lit (.bool false)], args := [d1, d2] }
  | _ => none }
def PayloadSameWrongFalsely : Prop := payloadSameRow.holds Tryd.pinned (OpenSpec.ofChange payloadSameWrong)

/-- 'norialaw02.PayloadMany': WHATEVER THE INPUT: true; the input reads as it did. -/
def payloadManySpec : ChangeSpec := { name := "payloadMany", fn := fun _ => fun
  | [d1, d2] => { results := [.lit (.bool true)], args := [d1, d2] }
  | _ => none }
def payloadManyRow : OpenClaim := { program := "ythlbgeonobicbaadoor", sum := "a17a95d7d83c659a9829a1a16c0b8190752254d6b8d8e04c227a367f7e17ee85", func := "noria/norialaw02.PayloadMany", spec := "payloadMany", inPlace := ["internal/abi.NoEscape", "internal/reflectlite.TypeOf", "internal/bytealg.IndexByteString", "internal/bytealg.IndexString"], unfollowed := true, recurses := true, named := ["noria/wire.errShort", "noria/wire.errWrong", "internal/bytealg.MaxLen"], apart := false, laid := [("noria/wire.errShort", laid_noria_wire_errShort), ("noria/wire.errWrong", laid_noria_wire_errWrong)] }
def PayloadManySaid : Prop := payloadManyRow.holds Tryd.pinned (OpenSpec.ofChange payloadManySpec)

/-- ITS FALSE NEIGHBOUR: 'it returns false'. Refute it at one input. -/
def payloadManyWrong : ChangeSpec := { name := "payloadMany", fn := fun _ => fun
  | [d1, d2] => { results := [.lit (.bool false)], args := [d1, d2] }
  | _ => none }
def PayloadManyWrongFalsely : Prop := payloadManyRow.holds Tryd.pinned (OpenSpec.ofChange payloadManyWrong)

/- THE SECOND FORM. 'bulk': how many values and letters a reading holds, each counted each time it is reached (what is shared counts as often as it is met; a slice's spare places count too). A statement '..UptoSaid' is the law's where the arguments, and the package variables that the reading takes, are together of bulk at most 1048576: NARROWER than '..Said'. Prove '..Said' where nothing that the law and all that it calls make is longer than what came in: it says more and counts as full. Else prove '..UptoSaid'. A law counts once. -/
mutual
def uptoBulk {H : Type} : DataW H → Nat
  | .lit (.string bytes) => bytes.length + 1
  | .lit _ => 1
  | .nil => 1
  | .ptr d => uptoBulk d + 1
  | .slice elems spare => uptoBulkAll elems + uptoBulkAll spare + 1
  | .agg parts => uptoBulkAll parts + 1
  | .iface _ d => uptoBulk d + 1
  | .map entries => uptoBulkEntries entries + 1
  | .held _ => 1
def uptoBulkAll {H : Type} : List (DataW H) → Nat
  | [] => 0
  | d :: r => uptoBulk d + uptoBulkAll r
def uptoBulkEntries {H : Type} : List (Lit × DataW H) → Nat
  | [] => 0
  | x :: r => uptoBulkEntry x + uptoBulkEntries r
def uptoBulkEntry {H : Type} : Lit × DataW H → Nat
  | (.string bytes, d) => bytes.length + uptoBulk d + 1
  | (_, d) => uptoBulk d + 1
 end
def uptoSmall : (H : Type) → List (DataW H) → Bool := fun _ ds => decide (uptoBulkAll ds ≤ 1048576)
def OpenSpec.upto (s : _root_.Go.ChangeSpec) : _root_.Go.OpenSpec := { _root_.Go.OpenSpec.ofChange s with cond := some uptoSmall }

/-- 'norialaw02.PayloadGets', WHERE WHAT IT READS IS OF BULK AT MOST 1048576: true; the input reads as it did. -/
def payloadGetsUptoRow : OpenClaim := { program := "ythlbgeonobicbaadoor", sum := "a17a95d7d83c659a9829a1a16c0b8190752254d6b8d8e04c227a367f7e17ee85", func := "noria/norialaw02.PayloadGets", spec := "payloadGets", inPlace := ["internal/abi.NoEscape", "internal/reflectlite.TypeOf", "internal/bytealg.IndexByteString", "internal/bytealg.IndexString"], unfollowed := true, recurses := true, named := ["noria/wire.errShort", "noria/wire.errWrong", "internal/bytealg.MaxLen"], apart := false, laid := [("noria/wire.errShort", laid_noria_wire_errShort), ("noria/wire.errWrong", laid_noria_wire_errWrong)], narrowed := true }
def PayloadGetsUptoSaid : Prop := payloadGetsUptoRow.holds Tryd.pinned (OpenSpec.upto payloadGetsSpec)

/-- 'norialaw02.PayloadRefs', WHERE WHAT IT READS IS OF BULK AT MOST 1048576: true; the input reads as it did. -/
def payloadRefsUptoRow : OpenClaim := { program := "ythlbgeonobicbaadoor", sum := "a17a95d7d83c659a9829a1a16c0b8190752254d6b8d8e04c227a367f7e17ee85", func := "noria/norialaw02.PayloadRefs", spec := "payloadRefs", inPlace := ["internal/abi.NoEscape", "internal/reflectlite.TypeOf", "internal/bytealg.IndexByteString", "internal/bytealg.IndexString"], unfollowed := true, recurses := true, named := ["noria/wire.errShort", "noria/wire.errWrong", "internal/bytealg.MaxLen"], apart := false, laid := [("noria/wire.errShort", laid_noria_wire_errShort), ("noria/wire.errWrong", laid_noria_wire_errWrong)], narrowed := true }
def PayloadRefsUptoSaid : Prop := payloadRefsUptoRow.holds Tryd.pinned (OpenSpec.upto payloadRefsSpec)

/-- 'norialaw02.PayloadPuts', WHERE WHAT IT READS IS OF BULK AT MOST 1048576: true; the input reads as it did. -/
def payloadPutsUptoRow : OpenClaim := { program := "ythlbgeonobicbaadoor", sum := "a17a95d7d83c659a9829a1a16c0b8190752254d6b8d8e04c227a367f7e17ee85", func := "noria/norialaw02.PayloadPuts", spec := "payloadPuts", inPlace := ["internal/abi.NoEscape", "internal/reflectlite.TypeOf", "internal/bytealg.IndexByteString", "internal/bytealg.IndexString"], unfollowed := true, recurses := true, named := ["noria/wire.errShort", "noria/wire.errWrong", "internal/bytealg.MaxLen"], apart := false, laid := [("noria/wire.errShort", laid_noria_wire_errShort), ("noria/wire.errWrong", laid_noria_wire_errWrong)], narrowed := true }
def PayloadPutsUptoSaid : Prop := payloadPutsUptoRow.holds Tryd.pinned (OpenSpec.upto payloadPutsSpec)

/-- 'norialaw02.PayloadBack', WHERE WHAT IT READS IS OF BULK AT MOST 1048576: true; the input reads as it did. -/
def payloadBackUptoRow : OpenClaim := { program := "ythlbgeonobicbaadoor", sum := "a17a95d7d83c659a9829a1a16c0b8190752254d6b8d8e04c227a367f7e17ee85", func := "noria/norialaw02.PayloadBack", spec := "payloadBack", inPlace := ["internal/abi.NoEscape", "internal/reflectlite.TypeOf", "internal/bytealg.IndexByteString", "internal/bytealg.IndexString"], unfollowed := true, recurses := true, named := ["noria/wire.errShort", "noria/wire.errWrong", "internal/bytealg.MaxLen"], apart := false, laid := [("noria/wire.errShort", laid_noria_wire_errShort), ("noria/wire.errWrong", laid_noria_wire_errWrong)], narrowed := true }
def PayloadBackUptoSaid : Prop := payloadBackUptoRow.holds Tryd.pinned (OpenSpec.upto payloadBackSpec)

/-- 'norialaw02.PayloadTypes', WHERE WHAT IT READS IS OF BULK AT MOST 1048576: true; the input reads as it did. -/
def payloadTypesUptoRow : OpenClaim := { program := "ythlbgeonobicbaadoor", sum := "a17a95d7d83c659a9829a1a16c0b8190752254d6b8d8e04c227a367f7e17ee85", func := "noria/norialaw02.PayloadTypes", spec := "payloadTypes", inPlace := ["internal/abi.NoEscape", "internal/reflectlite.TypeOf", "internal/bytealg.IndexByteString", "internal/bytealg.IndexString"], unfollowed := true, recurses := true, named := ["noria/wire.errShort", "noria/wire.errWrong", "internal/bytealg.MaxLen"], apart := false, laid := [("noria/wire.errShort", laid_noria_wire_errShort), ("noria/wire.errWrong", laid_noria_wire_errWrong)], narrowed := true }
def PayloadTypesUptoSaid : Prop := payloadTypesUptoRow.holds Tryd.pinned (OpenSpec.upto payloadTypesSpec)

/-- 'norialaw02.PayloadSame', WHERE WHAT IT READS IS OF BULK AT MOST 1048576: true; the input reads as it did. -/
def payloadSameUptoRow : OpenClaim := { program := "ythlbgeonobicbaadoor", sum := "a17a95d7d83c659a9829a1a16c0b8190752254d6b8d8e04c227a367f7e17ee85", func := "noria/norialaw02.PayloadSame", spec := "payloadSame", inPlace := ["internal/abi.NoEscape", "internal/reflectlite.TypeOf", "internal/bytealg.IndexByteString", "internal/bytealg.IndexString"], unfollowed := true, recurses := true, named := ["noria/wire.errShort", "noria/wire.errWrong", "internal/bytealg.MaxLen"], apart := false, laid := [("noria/wire.errShort", laid_noria_wire_errShort), ("noria/wire.errWrong", laid_noria_wire_errWrong)], narrowed := true }
def PayloadSameUptoSaid : Prop := payloadSameUptoRow.holds Tryd.pinned (OpenSpec.upto payloadSameSpec)

/-- 'norialaw02.PayloadMany', WHERE WHAT IT READS IS OF BULK AT MOST 1048576: true; the input reads as it did. -/
def payloadManyUptoRow : OpenClaim := { program := "ythlbgeonobicbaadoor", sum := "a17a95d7d83c659a9829a1a16c0b8190752254d6b8d8e04c227a367f7e17ee85", func := "noria/norialaw02.PayloadMany", spec := "payloadMany", inPlace := ["internal/abi.NoEscape", "internal/reflectlite.TypeOf", "internal/bytealg.IndexByteString", "internal/bytealg.IndexString"], unfollowed := true, recurses := true, named := ["noria/wire.errShort", "noria/wire.errWrong", "internal/bytealg.MaxLen"], apart := false, laid := [("noria/wire.errShort", laid_noria_wire_errShort), ("noria/wire.errWrong", laid_noria_wire_errWrong)], narrowed := true }
def PayloadManyUptoSaid : Prop := payloadManyUptoRow.holds Tryd.pinned (OpenSpec.upto payloadManySpec)

end Rows
end Go.Proofs.YthlbgeonobicbaaDoor
