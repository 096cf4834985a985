/- errors.As: what the model itself answers. -/
import Derived.Test.YtahlhldkcekbfaaGreatDoorGa
namespace Go.Proofs.YtahlhldkcekbfaaGreatDoor
open Go Go.V Go.RowKit Go.Extern Go.Extern.Rtype Go.Extern.Stop Go.Stop
set_option linter.unusedVariables false
set_option linter.unusedSimpArgs false

theorem ext_ok {P : Program} {f : FuncId} {fn : Func} {e : Array Value → Sem Value} {args : Array Value} {w w' : World} {v : Value} (hf : P.funcs[f]? = some fn) (hname : (fn.name == "runtime.NumGoroutine") = false)
    (hb : fn.body.isNone = true) (hn : Extern.findNext fn = none) (he : Extern.find fn = some e) (h : (e args).run P w = .ok v w') : (callFunc f args).run P w = .ok (.value v) w' := by
  rw [run_callFunc_extern hf hname hb hn he, h]; rfl
theorem cValueOfrefused (t : Addr) (w : World) : (callFunc 84 #[.iface 128 (.pointer (some t))]).run Tryz.prog w = .ok (.value (RVl 128 ⟨w.heap.size, 0, none⟩ 150)) (w.alloc (.cells #[.pointer (some t)] 128)) :=
  ext_ok (e := fun args => ReflectliteValue.unpack (args.getD 0 (.tuple #[]))) Tryz.func84 (by kernel_rfl) (by kernel_rfl) (by kernel_rfl) (by kernel_rfl) (valueOfrefused t w)
theorem cTyperefused (a : Addr) (w : World) : (callFunc 85 #[RVl 128 a 150]).run Tryz.prog w = .ok (.value (RTI 128)) w :=
  ext_ok (e := ReflectliteValue.methodAny (ReflectliteValue.valueError "reflectlite.Value.Type" 0) (fun t _ _ _ => ReflectliteType.toType t)) Tryz.func85 (by kernel_rfl) (by kernel_rfl) (by kernel_rfl) (by kernel_rfl) (typerefused a w)
theorem cKindPrefused (w : World) : (callFunc 146 #[.pointer (some ⟨4, 128, none⟩)]).run Tryz.prog w = .ok (.value (.int .u8 22)) w :=
  ext_ok (e := ReflectliteType.abiMethod fun t => do pure (.int .u8 (← Rtype.kind t))) Tryz.func146 (by kernel_rfl) (by kernel_rfl) (by kernel_rfl) (by kernel_rfl) (kindPrefused w)
theorem cKindrefused (w : World) : (callFunc 146 #[.pointer (some ⟨4, 124, none⟩)]).run Tryz.prog w = .ok (.value (.int .u8 25)) w :=
  ext_ok (e := ReflectliteType.abiMethod fun t => do pure (.int .u8 (← Rtype.kind t))) Tryz.func146 (by kernel_rfl) (by kernel_rfl) (by kernel_rfl) (by kernel_rfl) (kindrefused w)
theorem cElemrefused (w : World) : (callFunc 158 #[RT 128]).run Tryz.prog w = .ok (.value (RTI 124)) w :=
  ext_ok (e := ReflectliteType.method ReflectliteType.elem) Tryz.func158 (by kernel_rfl) (by kernel_rfl) (by kernel_rfl) (by kernel_rfl) (elemrefused w)
theorem cImplrefused (w : World) : (callFunc 159 #[RT 124, RTI 97]).run Tryz.prog w = .ok (.value (.bool true)) w :=
  ext_ok (e := ReflectliteType.relation "Implements" ReflectliteType.implements_) Tryz.func159 (by kernel_rfl) (by kernel_rfl) (by kernel_rfl) (by kernel_rfl) (implrefused w)
theorem cAssignrefused (w : World) : (callFunc 156 #[RT 124, RTI 124]).run Tryz.prog w = .ok (.value (.bool true)) w :=
  ext_ok (e := ReflectliteType.relation "AssignableTo" ReflectliteType.assignableTo) Tryz.func156 (by kernel_rfl) (by kernel_rfl) (by kernel_rfl) (by kernel_rfl) (assignrefused w)
theorem cIsNilrefused (a p : Addr) (w : World) (ha : w.cell? a = some (.pointer (some p))) : (callFunc 86 #[RVl 128 a 150]).run Tryz.prog w = .ok (.value (.bool false)) w :=
  ext_ok (e := ReflectliteValue.method (ReflectliteValue.valueError "reflectlite.Value.IsNil" 0) ReflectliteValue.isNil) Tryz.func86 (by kernel_rfl) (by kernel_rfl) (by kernel_rfl) (by kernel_rfl) (isNilrefused a p w ha)
theorem cTypeOfW (v : Value) (w : World) : (callFunc 98 #[.iface 124 v]).run Tryz.prog w = .ok (.value (RTI 124)) w :=
  ext_ok (e := ReflectliteType.typeOf) Tryz.func98 (by kernel_rfl) (by kernel_rfl) (by kernel_rfl) (by kernel_rfl) (typeOfW v w)
theorem cValueOfW (s : Int) (w : World) : (callFunc 84 #[Wrong s]).run Tryz.prog w = .ok (.value (RVl 124 ⟨w.heap.size, 0, none⟩ 153)) (w.alloc (.cells #[.int .i64 s] 124)) :=
  ext_ok (e := fun args => ReflectliteValue.unpack (args.getD 0 (.tuple #[]))) Tryz.func84 (by kernel_rfl) (by kernel_rfl) (by kernel_rfl) (by kernel_rfl) (valueOfW s w)
theorem cElemVW (a p : Addr) (w : World) (ha : w.cell? a = some (.pointer (some p))) : (callFunc 99 #[RVl 128 a 150]).run Tryz.prog w = .ok (.value (RVl 124 p 409)) w :=
  ext_ok (e := ReflectliteValue.method (ReflectliteValue.valueError "reflectlite.Value.Elem" 0) ReflectliteValue.elem) Tryz.func99 (by kernel_rfl) (by kernel_rfl) (by kernel_rfl) (by kernel_rfl) (elemVW a p w ha)
theorem cSetW (ta : Addr) (b : Nat) (s : Int) (old : Value) (w : World) (hb : w.cell? ⟨b, 0, none⟩ = some (.int .i64 s)) (ht : w.cell? ta = some old) (hf : w.frozen? ta = false) : (callFunc 100 #[RVl 124 ta 409, RVl 124 ⟨b, 0, none⟩ 153]).run Tryz.prog w = .ok (.value (.tuple #[])) (w.setCell ta (.int .i64 s)) :=
  ext_ok (e := ReflectliteValue.set) Tryz.func100 (by kernel_rfl) (by kernel_rfl) (by kernel_rfl) (by kernel_rfl) (setW ta b s old w hb ht hf)
end Go.Proofs.YtahlhldkcekbfaaGreatDoor
