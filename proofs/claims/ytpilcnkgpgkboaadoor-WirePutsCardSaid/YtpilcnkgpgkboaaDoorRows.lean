/-
  NARROWER THAN 'FOR EVERY INPUT', by the rows' own cells (each row's printed sentence says how): WireNumbers: laid · WirePuts: laid · WireJoins: laid · WireShort: laid · WireKinds: laid · WireParses: laid · WireBack: laid · WireLast: laid.
  DERIVED. THE GIVEN ROWS OF THIS SEAT. 8 by the template 'for every input the law returns true; each argument reads behind the call as it read before'; 0 by the template 'total and deterministic' (their statements: YtpilcnkgpgkboaaDoorTotals.lean).
  GIVEN WITH THE SEED: the statements are not yours to turn. If you find one false, say at which input.
  Laid BY PROGRAM, IN A SANDBOX (cutbox-rows.mjs): the forced cells as the released guide's own fill.sh prints them over the translation 2ab2f6a80c8de8bd… (all of the seat's roots in one cut). By AI agents, Wed Nov 11 2026. No macro, syntax, notation, axiom, sorry.
-/
import Derived.Test.YtpilcnkgpgkboaaDoorChecked
import GoSem.Claim
import GoSem.ClaimJoined
import GoSem.ClaimMapViews
import Derived.JoinedTies
import Derived.KernelRfl
namespace Go.Proofs.YtpilcnkgpgkboaaDoor
/- THE CELL 'sum', in the pinned program and in every row, IS THE sha256 OF THE DUMP (.gsa) THAT YtpilcnkgpgkboaaDoorProg.lean LOADS. Nothing in Lean hashes anything: it is a label: what it is worth is what the hold of that sum in a sandbox is worth. -/
noncomputable def Tryd.pinned : Pinned := { name := "ytpilcnkgpgkboaadoor", sum := "2ab2f6a80c8de8bdbdadeb64d0173a502403b3bda2c464854fe1831716618703", checked := Tryd.checked }
namespace Rows
def none {H : Type} : Left H := { results := [], args := [] }

/- WHAT THE LISTED PACKAGE-LEVEL VARIABLES READ AS WHEN THE CALL BEGINS. Each datum BY PROGRAM (the guide's laid-datum.mjs) off the statement by which the dump's own 'gosem.cut.vars' lays the variable. In a bare row this is a premise. The card (YtpilcnkgpgkboaaDoorCards.lean) ties it to the program's text. -/
def laid_noria_wire_errShort {H : Type} : DataW H := .iface "*errors.errorString" (.ptr (.agg [.lit (.string [116, 111, 111, 32, 102, 101, 119, 32, 98, 121, 116, 101, 115])]))
def laid_noria_wire_errWrong {H : Type} : DataW H := .iface "*errors.errorString" (.ptr (.agg [.lit (.string [110, 111, 32, 115, 117, 99, 104, 32, 102, 105, 101, 108, 100])]))

/-- 'norialaw01.WireNumbers': WHATEVER THE INPUT: true; the input reads as it did. -/
def wireNumbersSpec : ChangeSpec := { name := "wireNumbers", fn := fun _ => fun
  | [d1, d2] => { results := [.lit (.bool true)], args := [d1, d2] }
  | _ => none }
def wireNumbersRow : OpenClaim := { program := "ytpilcnkgpgkboaadoor", sum := "2ab2f6a80c8de8bdbdadeb64d0173a502403b3bda2c464854fe1831716618703", func := "noria/norialaw01.WireNumbers", spec := "wireNumbers", inPlace := ["internal/reflectlite.TypeOf"], unfollowed := true, recurses := true, named := ["noria/wire.errShort", "noria/wire.errWrong"], apart := false, laid := [("noria/wire.errShort", laid_noria_wire_errShort), ("noria/wire.errWrong", laid_noria_wire_errWrong)] }
def WireNumbersSaid : Prop := wireNumbersRow.holds Tryd.pinned (OpenSpec.ofChange wireNumbersSpec)

/-- ITS FALSE NEIGHBOUR: 'it returns false'. Refute it at one input. -/
def wireNumbersWrong : ChangeSpec := { name := "wireNumbers", fn := fun _ => fun
  | [d1, d2] => { results := [.lit (.bool false)], args := [d1, d2] }
  | _ => none }
def WireNumbersWrongFalsely : Prop := wireNumbersRow.holds Tryd.pinned (OpenSpec.ofChange wireNumbersWrong)

/-- 'norialaw01.WirePuts': WHATEVER THE INPUT: true; the input reads as it did. -/
def wirePutsSpec : ChangeSpec := { name := "wirePuts", fn := fun _ => fun
  | [d1, d2] => { results := [.lit (.bool true)], args := [d1, d2] }
  | _ => none }
def wirePutsRow : OpenClaim := { program := "ytpilcnkgpgkboaadoor", sum := "2ab2f6a80c8de8bdbdadeb64d0173a502403b3bda2c464854fe1831716618703", func := "noria/norialaw01.WirePuts", spec := "wirePuts", inPlace := ["internal/reflectlite.TypeOf"], unfollowed := true, recurses := true, named := ["noria/wire.errShort", "noria/wire.errWrong"], apart := false, laid := [("noria/wire.errShort", laid_noria_wire_errShort), ("noria/wire.errWrong", laid_noria_wire_errWrong)] }
def WirePutsSaid : Prop := wirePutsRow.holds Tryd.pinned (OpenSpec.ofChange wirePutsSpec)

/-- ITS FALSE NEIGHBOUR: 'it returns false'. Refute it at one input. -/
def wirePutsWrong : ChangeSpec := { name := "wirePuts", fn := fun _ => fun
  | [d1, d2] => { results := [.lit (.bool false)], args := [d1, d2] }
  | _ => none }
def WirePutsWrongFalsely : Prop := wirePutsRow.holds Tryd.pinned (OpenSpec.ofChange wirePutsWrong)

/-- 'norialaw01.WireJoins': WHATEVER THE INPUT: true; the input reads as it did. -/
def wireJoinsSpec : ChangeSpec := { name := "wireJoins", fn := fun _ => fun
  | [d1, d2, d3] => { results := [.lit (.bool true)], args := [d1, d2, d3] }
  | _ => none }
def wireJoinsRow : OpenClaim := { program := "ytpilcnkgpgkboaadoor", sum := "2ab2f6a80c8de8bdbdadeb64d0173a502403b3bda2c464854fe1831716618703", func := "noria/norialaw01.WireJoins", spec := "wireJoins", inPlace := ["internal/reflectlite.TypeOf"], unfollowed := true, recurses := true, named := ["noria/wire.errShort", "noria/wire.errWrong"], apart := false, laid := [("noria/wire.errShort", laid_noria_wire_errShort), ("noria/wire.errWrong", laid_noria_wire_errWrong)] }
def WireJoinsSaid : Prop := wireJoinsRow.holds Tryd.pinned (OpenSpec.ofChange wireJoinsSpec)

/-- ITS FALSE NEIGHBOUR: 'it returns false'. Refute it at one input. -/
def wireJoinsWrong : ChangeSpec := { name := "wireJoins", fn := fun _ => fun
  | [d1, d2, d3] => { results := [.lit (.bool false)], args := [d1, d2, d3] }
  | _ => none }
def WireJoinsWrongFalsely : Prop := wireJoinsRow.holds Tryd.pinned (OpenSpec.ofChange wireJoinsWrong)

/-- 'norialaw01.WireShort': WHATEVER THE INPUT: true; the input reads as it did. -/
def wireShortSpec : ChangeSpec := { name := "wireShort", fn := fun _ => fun
  | [d1, d2] => { results := [.lit (.bool true)], args := [d1, d2] }
  | _ => none }
def wireShortRow : OpenClaim := { program := "ytpilcnkgpgkboaadoor", sum := "2ab2f6a80c8de8bdbdadeb64d0173a502403b3bda2c464854fe1831716618703", func := "noria/norialaw01.WireShort", spec := "wireShort", inPlace := ["internal/reflectlite.TypeOf"], unfollowed := true, recurses := true, named := ["noria/wire.errShort", "noria/wire.errWrong"], apart := false, laid := [("noria/wire.errShort", laid_noria_wire_errShort), ("noria/wire.errWrong", laid_noria_wire_errWrong)] }
def WireShortSaid : Prop := wireShortRow.holds Tryd.pinned (OpenSpec.ofChange wireShortSpec)

/-- ITS FALSE NEIGHBOUR: 'it returns false'. Refute it at one input. -/
def wireShortWrong : ChangeSpec := { name := "wireShort", fn := fun _ => fun
  | [d1, d2] => { results := [.lit (.bool false)], args := [d1, d2] }
  | _ => none }
def WireShortWrongFalsely : Prop := wireShortRow.holds Tryd.pinned (OpenSpec.ofChange wireShortWrong)

/-- 'norialaw01.WireKinds': WHATEVER THE INPUT: true; the input reads as it did. -/
def wireKindsSpec : ChangeSpec := { name := "wireKinds", fn := fun _ => fun
  | [d1, d2, d3] => { results := [.lit (.bool true)], args := [d1, d2, d3] }
  | _ => none }
def wireKindsRow : OpenClaim := { program := "ytpilcnkgpgkboaadoor", sum := "2ab2f6a80c8de8bdbdadeb64d0173a502403b3bda2c464854fe1831716618703", func := "noria/norialaw01.WireKinds", spec := "wireKinds", inPlace := ["internal/reflectlite.TypeOf"], unfollowed := true, recurses := true, named := ["noria/wire.errShort", "noria/wire.errWrong"], apart := false, laid := [("noria/wire.errShort", laid_noria_wire_errShort), ("noria/wire.errWrong", laid_noria_wire_errWrong)] }
def WireKindsSaid : Prop := wireKindsRow.holds Tryd.pinned (OpenSpec.ofChange wireKindsSpec)

/-- ITS FALSE NEIGHBOUR: 'it returns false'. Refute it at one input. -/
def wireKindsWrong : ChangeSpec := { name := "wireKinds", fn := fun _ => fun
  | [d1, d2, d3] => { results := [.lit (.bool false)], args := [d1, d2, d3] }
  | _ => none }
def WireKindsWrongFalsely : Prop := wireKindsRow.holds Tryd.pinned (OpenSpec.ofChange wireKindsWrong)

/-- 'norialaw01.WireParses': WHATEVER THE INPUT: true; the input reads as it did. -/
def wireParsesSpec : ChangeSpec := { name := "wireParses", fn := fun _ => fun
  | [d1, d2, d3, d4, d5, d6] => { results := [.lit (.bool true)], args := [d1, d2, d3, d4, d5, d6] }
  | _ => none }
def wireParsesRow : OpenClaim := { program := "ytpilcnkgpgkboaadoor", sum := "2ab2f6a80c8de8bdbdadeb64d0173a502403b3bda2c464854fe1831716618703", func := "noria/norialaw01.WireParses", spec := "wireParses", inPlace := ["internal/reflectlite.TypeOf"], unfollowed := true, recurses := true, named := ["noria/wire.errShort", "noria/wire.errWrong"], apart := false, laid := [("noria/wire.errShort", laid_noria_wire_errShort), ("noria/wire.errWrong", laid_noria_wire_errWrong)] }
def WireParsesSaid : Prop := wireParsesRow.holds Tryd.pinned (OpenSpec.ofChange wireParsesSpec)

/-- ITS FALSE NEIGHBOUR: 'it returns false'. Refute it at one input. -/
def wireParsesWrong : ChangeSpec := { name := "wireParses", fn := fun _ => fun
  | [d1, d2, d3, d4, d5, d6] => { results := [.lit (.bool false)], args := [d1, d2, d3, d4, d5, d6] }
  | _ => none }
def WireParsesWrongFalsely : Prop := wireParsesRow.holds Tryd.pinned (OpenSpec.ofChange wireParsesWrong)

/-- 'norialaw01.WireBack': WHATEVER THE INPUT: true; the input reads as it did. -/
def wireBackSpec : ChangeSpec := { name := "wireBack", fn := fun _ => fun
  | [d1, d2, d3, d4, d5, d6] => { results := [.lit (.bool true)], args := [d1, d2, d3, d4, d5, d6] }
  | _ => none }
def wireBackRow : OpenClaim := { program := "ytpilcnkgpgkboaadoor", sum := "2ab2f6a80c8de8bdbdadeb64d0173a502403b3bda2c464854fe1831716618703", func := "noria/norialaw01.WireBack", spec := "wireBack", inPlace := ["internal/reflectlite.TypeOf"], unfollowed := true, recurses := true, named := ["noria/wire.errShort", "noria/wire.errWrong"], apart := false, laid := [("noria/wire.errShort", laid_noria_wire_errShort), ("noria/wire.errWrong", laid_noria_wire_errWrong)] }
def WireBackSaid : Prop := wireBackRow.holds Tryd.pinned (OpenSpec.ofChange wireBackSpec)

/-- ITS FALSE NEIGHBOUR: 'it returns false'. Refute it at one input. -/
def wireBackWrong : ChangeSpec := { name := "wireBack", fn := fun _ => fun
  | [d1, d2, d3, d4, d5, d6] => { results := [.lit (.bool false)], args := [d1, d2, d3, d4, d5, d6] }
  | _ => none }
def WireBackWrongFalsely : Prop := wireBackRow.holds Tryd.pinned (OpenSpec.ofChange wireBackWrong)

/-- 'norialaw01.WireLast': WHATEVER THE INPUT: true; the input reads as it did. -/
def wireLastSpec : ChangeSpec := { name := "wireLast", fn := fun _ => fun
  | [d1, d2] => { results := [.lit (.bool true)], args := [d1, d2] }
  | _ => none }
def wireLastRow : OpenClaim := { program := "ytpilcnkgpgkboaadoor", sum := "2ab2f6a80c8de8bdbdadeb64d0173a502403b3bda2c464854fe1831716618703", func := "noria/norialaw01.WireLast", spec := "wireLast", inPlace := ["internal/reflectlite.TypeOf"], unfollowed := true, recurses := true, named := ["noria/wire.errShort", "noria/wire.errWrong"], apart := false, laid := [("noria/wire.errShort", laid_noria_wire_errShort), ("noria/wire.errWrong", laid_noria_wire_errWrong)] }
def WireLastSaid : Prop := wireLastRow.holds Tryd.pinned (OpenSpec.ofChange wireLastSpec)

/-- ITS FALSE NEIGHBOUR: 'it returns false'. Refute it at one input. -/
def wireLastWrong : ChangeSpec := { name := "wireLast", fn := fun _ => fun
  | [d1, d2] => { results := [.lit (.bool false)], args := [d1, d2] }
  | _ => none }
def WireLastWrongFalsely : Prop := wireLastRow.holds Tryd.pinned (OpenSpec.ofChange wireLastWrong)

/- THE SECOND FORM. 'bulk': how many values and letters a reading holds, each counted each time it is reached (what is shared counts as often as it is met; a slice's spare places count too). A statement '..UptoSaid' is the law's where the arguments, and the package variables that the reading takes, are together of bulk at most 1048576: NARROWER than '..Said'. Prove '..Said' where nothing that the law and all that it calls make is longer than what came in: it says more and counts as full. Else prove '..UptoSaid'. A law counts once. -/
mutual
def uptoBulk {H : Type} : DataW H → Nat
  | .lit (.string bytes) => bytes.length + 1
  | .lit _ => 1
  | .nil => 1
  | .ptr d => uptoBulk d + 1
  | .slice elems spare => uptoBulkAll elems + uptoBulkAll spare + 1
  | .agg parts => uptoBulkAll parts + 1
  | .iface _ d => uptoBulk d + 1
  | .map entries => uptoBulkEntries entries + 1
  | .held _ => 1
def uptoBulkAll {H : Type} : List (DataW H) → Nat
  | [] => 0
  | d :: r => uptoBulk d + uptoBulkAll r
def uptoBulkEntries {H : Type} : List (Lit × DataW H) → Nat
  | [] => 0
  | x :: r => uptoBulkEntry x + uptoBulkEntries r
def uptoBulkEntry {H : Type} : Lit × DataW H → Nat
  | (.string bytes, d) => bytes.length + uptoBulk d + 1
  | (_, d) => uptoBulk d + 1
 end
def uptoSmall : (H : Type) → List (DataW H) → Bool := fun _ ds => decide (uptoBulkAll ds ≤ 1048576)
def OpenSpec.upto (s : _root_.Go.ChangeSpec) : _root_.Go.OpenSpec := { _root_.Go.OpenSpec.ofChange s with cond := some uptoSmall }

/-- 'norialaw01.WireNumbers', WHERE WHAT IT READS IS OF BULK AT MOST 1048576: true; the input reads as it did. -/
def wireNumbersUptoRow : OpenClaim := { program := "ytpilcnkgpgkboaadoor", sum := "2ab2f6a80c8de8bdbdadeb64d0173a502403b3bda2c464854fe1831716618703", func := "noria/norialaw01.WireNumbers", spec := "wireNumbers", inPlace := ["internal/reflectlite.TypeOf"], unfollowed := true, recurses := true, named := ["noria/wire.errShort", "noria/wire.errWrong"], apart := false, laid := [("noria/wire.errShort", laid_noria_wire_errShort), ("noria/wire.errWrong", laid_noria_wire_errWrong)], narrowed := true }
def WireNumbersUptoSaid : Prop := wireNumbersUptoRow.holds Tryd.pinned (OpenSpec.upto wireNumbersSpec)

/-- 'norialaw01.WirePuts', WHERE WHAT IT READS IS OF BULK AT MOST 1048576: true; the input reads as it did. -/
def wirePutsUptoRow : OpenClaim := { program := "ytpilcnkgpgkboaadoor", sum := "2ab2f6a80c8de8bdbdadeb64d0173a502403b3bda2c464854fe1831716618703", func := "noria/norialaw01.WirePuts", spec := "wirePuts", inPlace := ["internal/reflectlite.TypeOf"], unfollowed := true, recurses := true, named := ["noria/wire.errShort", "noria/wire.errWrong"], apart := false, laid := [("noria/wire.errShort", laid_noria_wire_errShort), ("noria/wire.errWrong", laid_noria_wire_errWrong)], narrowed := true }
def WirePutsUptoSaid : Prop := wirePutsUptoRow.holds Tryd.pinned (OpenSpec.upto wirePutsSpec)

/-- 'norialaw01.WireJoins', WHERE WHAT IT READS IS OF BULK AT MOST 1048576: true; the input reads as it did. -/
def wireJoinsUptoRow : OpenClaim := { program := "ytpilcnkgpgkboaadoor", sum := "2ab2f6a80c8de8bdbdadeb64d0173a502403b3bda2c464854fe1831716618703", func := "noria/norialaw01.WireJoins", spec := "wireJoins", inPlace := ["internal/reflectlite.TypeOf"], unfollowed := true, recurses := true, named := ["noria/wire.errShort", "noria/wire.errWrong"], apart := false, laid := [("noria/wire.errShort", laid_noria_wire_errShort), ("noria/wire.errWrong", laid_noria_wire_errWrong)], narrowed := true }
def WireJoinsUptoSaid : Prop := wireJoinsUptoRow.holds Tryd.pinned (OpenSpec.upto wireJoinsSpec)

/-- 'norialaw01.WireShort', WHERE WHAT IT READS IS OF BULK AT MOST 1048576: true; the input reads as it did. -/
def wireShortUptoRow : OpenClaim := { program := "ytpilcnkgpgkboaadoor", sum := "2ab2f6a80c8de8bdbdadeb64d0173a502403b3bda2c464854fe1831716618703", func := "noria/norialaw01.WireShort", spec := "wireShort", inPlace := ["internal/reflectlite.TypeOf"], unfollowed := true, recurses := true, named := ["noria/wire.errShort", "noria/wire.errWrong"], apart := false, laid := [("noria/wire.errShort", laid_noria_wire_errShort), ("noria/wire.errWrong", laid_noria_wire_errWrong)], narrowed := true }
def WireShortUptoSaid : Prop := wireShortUptoRow.holds Tryd.pinned (OpenSpec.upto wireShortSpec)

/-- 'norialaw01.WireKinds', WHERE WHAT IT READS IS OF BULK AT MOST 1048576: true; the input reads as it did. -/
def wireKindsUptoRow : OpenClaim := { program := "ytpilcnkgpgkboaadoor", sum := "2ab2f6a80c8de8bdbdadeb64d0173a502403b3bda2c464854fe1831716618703", func := "noria/norialaw01.WireKinds", spec := "wireKinds", inPlace := ["internal/reflectlite.TypeOf"], unfollowed := true, recurses := true, named := ["noria/wire.errShort", "noria/wire.errWrong"], apart := false, laid := [("noria/wire.errShort", laid_noria_wire_errShort), ("noria/wire.errWrong", laid_noria_wire_errWrong)], narrowed := true }
def WireKindsUptoSaid : Prop := wireKindsUptoRow.holds Tryd.pinned (OpenSpec.upto wireKindsSpec)

/-- 'norialaw01.WireParses', WHERE WHAT IT READS IS OF BULK AT MOST 1048576: true; the input reads as it did. -/
def wireParsesUptoRow : OpenClaim := { program := "ytpilcnkgpgkboaadoor", sum := "2ab2f6a80c8de8bdbdadeb64d0173a502403b3bda2c464854fe1831716618703", func := "noria/norialaw01.WireParses", spec := "wireParses", inPlace := ["internal/reflectlite.TypeOf"], unfollowed := true, recurses := true, named := ["noria/wire.errShort", "noria/wire.errWrong"], apart := false, laid := [("noria/wire.errShort", laid_noria_wire_errShort), ("noria/wire.errWrong", laid_noria_wire_errWrong)], narrowed := true }
def WireParsesUptoSaid : Prop := wireParsesUptoRow.holds Tryd.pinned (OpenSpec.upto wireParsesSpec)

/-- 'norialaw01.WireBack', WHERE WHAT IT READS IS OF BULK AT MOST 1048576: true; the input reads as it did. -/
def wireBackUptoRow : OpenClaim := { program := "ytpilcnkgpgkboaadoor", sum := "2ab2f6a80c8de8bdbdadeb64d0173a502403b3bda2c464854fe1831716618703", func := "noria/norialaw01.WireBack", spec := "wireBack", inPlace := ["internal/reflectlite.TypeOf"], unfollowed := true, recurses := true, named := ["noria/wire.errShort", "noria/wire.errWrong"], apart := false, laid := [("noria/wire.errShort", laid_noria_wire_errShort), ("noria/wire.errWrong", laid_noria_wire_errWrong)], narrowed := true }
def WireBackUptoSaid : Prop := wireBackUptoRow.holds Tryd.pinned (OpenSpec.upto wireBackSpec)

/-- 'norialaw01.WireLast', WHERE WHAT IT READS IS OF BULK AT MOST 1048576: true; the input reads as it did. -/
def wireLastUptoRow : OpenClaim := { program := "ytpilcnkgpgkboaadoor", sum := "2ab2f6a80c8de8bdbdadeb64d0173a502403b3bda2c464854fe1831716618703", func := "noria/norialaw01.WireLast", spec := "wireLast", inPlace := ["internal/reflectlite.TypeOf"], unfollowed := true, recurses := true, named := ["noria/wire.errShort", "noria/wire.errWrong"], apart := false, laid := [("noria/wire.errShort", laid_noria_wire_errShort), ("noria/wire.errWrong", laid_noria_wire_errWrong)], narrowed := true }
def WireLastUptoSaid : Prop := wireLastUptoRow.holds Tryd.pinned (OpenSpec.upto wireLastSpec)

end Rows
end Go.Proofs.YtpilcnkgpgkboaaDoor
