/- errors.As, of a wrong: at a placed (missed), at a wrong (met), of nil. -/
import Derived.Test.YtahlhldkcekbfaaGreatDoorVH
import Derived.Test.YtahlhldkcekbfaaGreatDoorTab
import Derived.Stop.Asserts
namespace Go.Proofs.YtahlhldkcekbfaaGreatDoor
open Go Go.V Go.RowKit Go.Extern Go.Extern.Rtype Go.Extern.Stop Go.Stop
set_option linter.unusedVariables false
set_option linter.unusedSimpArgs false

section
variable {P : Program} {ops : Array Oper} {Q : Post} {ds : List Deferred} {f : Env} {w w' : World} {rest : List Oper}
variable {d : Option Nat} {ty : TypeId} {pos : String} {af : Array Edge} {g : Option (Nat × Bool)}
/-- A call of a function of the library's that the model itself answers, and that turns the world. -/
theorem wr_callXW {h : FuncId} {args : Array Operand} {ats : Array TypeId} {vs : List Value} {v : Value} (hw : wantedE ops f ⟨d, .call { callee := .value (.func h), args := args, argTypes := ats }, ty, pos, af, g⟩ = true)
    (hc : (callFunc h vs.toArray).run P w = .ok (.value v) w') (hargs : args.toList.map (ev f) = vs) (kk : Wr P ops Q ds rest (setO f d v) w') : Wr P ops Q ds (⟨d, .call { callee := .value (.func h), args := args, argTypes := ats }, ty, pos, af, g⟩ :: rest) f w := by
  have hm : args.map (ev f) = vs.toArray := by
    rw [← hargs]; apply Array.toList_inj.1; simp
  refine wr_val hw ?_ kk
  simp only [execOp, resolve, hm, ev, Deferred.ofValue, Sem.run_bind, Sem.run_pure, Result.andThen_ok, invoke, Array.empty_append, Array.append_empty]
  exact hc
end
abbrev RT (t : TypeId) : Value := .agg #[.pointer (some ⟨4, t, none⟩)]
abbrev RTI (t : TypeId) : Value := .iface 161 (RT t)
abbrev RVl (t : TypeId) (a : Addr) (fl : Int) : Value := .agg #[.pointer (some ⟨4, t, none⟩), .pointer (some a), .int .u64 fl]
/-- What an error's number is told by. -/
abbrev Wrong (s : Int) : Value := .iface 124 (.agg #[.int .i64 s])
/-- errors.errorType. -/
def ErrT (w : World) : Prop := ∃ T fr, w.heap[0]? = some (.cells #[RTI 97] T fr)
theorem ErrT.keep {w w' : World} (h : ErrT w) (k : Keeps NoB w w') : ErrT w' := by
  obtain ⟨T, fr, h⟩ := h
  exact ⟨T, fr, k.heap h (fun h => h)⟩
theorem rlm (z : Sem Value) (f : TypeId → Addr → Nat → Nat → Sem Value) (v : Value) :
    ReflectliteValue.method z f #[v] = (do match ← ReflectliteValue.parts v with | none => z | some (t, a, fl) => f t a fl (fl % 32)) := rfl
theorem valueOfrefused (t : Addr) (w : World) : (ReflectliteValue.unpack (.iface 128 (.pointer (some t)))).run Tryz.prog w = .ok (RVl 128 ⟨w.heap.size, 0, none⟩ 150) (w.alloc (.cells #[.pointer (some t)] 128)) := by kernel_rfl
theorem typerefused (a : Addr) (w : World) : (ReflectliteValue.methodAny (ReflectliteValue.valueError "reflectlite.Value.Type" 0) (fun t _ _ _ => ReflectliteType.toType t) #[RVl 128 a 150]).run Tryz.prog w = .ok (RTI 128) w := by kernel_rfl
theorem kindPrefused (w : World) : ((ReflectliteType.abiMethod fun t => do pure (.int .u8 (← Rtype.kind t))) #[.pointer (some ⟨4, 128, none⟩)]).run Tryz.prog w = .ok (.int .u8 22) w := by kernel_rfl
theorem kindrefused (w : World) : ((ReflectliteType.abiMethod fun t => do pure (.int .u8 (← Rtype.kind t))) #[.pointer (some ⟨4, 124, none⟩)]).run Tryz.prog w = .ok (.int .u8 25) w := by kernel_rfl
theorem partsrefused (a : Addr) (w : World) : (ReflectliteValue.parts (RVl 128 a 150)).run Tryz.prog w = .ok (some (128, a, 150)) w := by kernel_rfl
theorem elemrefused (w : World) : (ReflectliteType.method ReflectliteType.elem #[RT 128]).run Tryz.prog w = .ok (RTI 124) w := by kernel_rfl
theorem implrefused (w : World) : (ReflectliteType.relation "Implements" ReflectliteType.implements_ #[RT 124, RTI 97]).run Tryz.prog w = .ok (.bool true) w := by kernel_rfl
theorem assignrefused (w : World) : (ReflectliteType.relation "AssignableTo" ReflectliteType.assignableTo #[RT 124, RTI 124]).run Tryz.prog w = .ok (.bool true) w := by kernel_rfl
theorem isNilrefused (a p : Addr) (W : World) (ha : W.cell? a = some (.pointer (some p))) :
    (ReflectliteValue.method (ReflectliteValue.valueError "reflectlite.Value.IsNil" 0) ReflectliteValue.isNil #[RVl 128 a 150]).run Tryz.prog W = .ok (.bool false) W := by
  rw [rlm]
  simp only [Sem.run_bind, partsrefused, Result.andThen]
  simp [ReflectliteValue.isNil, loadVar, isAgg, underlying, Tryz.underlying128, ha, Result.andThen]
theorem mKind (h : Value) (w : World) : (Go.method (Tryz.prog.types.size + Made.depth) 161 (.agg #[h]) "Kind").run Tryz.prog w = .ok (146, h) w := by kernel_rfl
theorem mElem (h : Value) (w : World) : (Go.method (Tryz.prog.types.size + Made.depth) 161 (.agg #[h]) "Elem").run Tryz.prog w = .ok (158, .agg #[h]) w := by kernel_rfl
theorem mImplements (h : Value) (w : World) : (Go.method (Tryz.prog.types.size + Made.depth) 161 (.agg #[h]) "Implements").run Tryz.prog w = .ok (159, .agg #[h]) w := by kernel_rfl
theorem mAssignableTo (h : Value) (w : World) : (Go.method (Tryz.prog.types.size + Made.depth) 161 (.agg #[h]) "AssignableTo").run Tryz.prog w = .ok (156, .agg #[h]) w := by kernel_rfl
theorem typeOfW (v : Value) (w : World) : (ReflectliteType.typeOf #[.iface 124 v]).run Tryz.prog w = .ok (RTI 124) w := by kernel_rfl
theorem valueOfW (s : Int) (w : World) : (ReflectliteValue.unpack (Wrong s)).run Tryz.prog w = .ok (RVl 124 ⟨w.heap.size, 0, none⟩ 153) (w.alloc (.cells #[.int .i64 s] 124)) := by kernel_rfl
theorem elemOfW (w : World) : (Rtype.elem? 128).run Tryz.prog w = .ok (some 124) w := by kernel_rfl
theorem mkW (p : Addr) (w : World) : (ReflectliteValue.mk 124 p ReflectliteValue.flagAddr).run Tryz.prog w = .ok (RVl 124 p 409) w := by kernel_rfl
theorem elemVW (a p : Addr) (W : World) (ha : W.cell? a = some (.pointer (some p))) :
    (ReflectliteValue.method (ReflectliteValue.valueError "reflectlite.Value.Elem" 0) ReflectliteValue.elem #[RVl 128 a 150]).run Tryz.prog W = .ok (RVl 124 p 409) W := by
  rw [rlm]
  simp only [Sem.run_bind, partsrefused, Result.andThen]
  simp [ReflectliteValue.elem, loadVar, isAgg, underlying, Tryz.underlying128, ha, Result.andThen, elemOfW, mkW]
theorem rls (v x : Value) : ReflectliteValue.set #[v, x] = (do
    let (some (dst, a, fl), some (src, b, _)) := (← ReflectliteValue.parts v, ← ReflectliteValue.parts x)
      | unsupported (.noEntry "extern/(internal/reflectlite.Value).Set.zeroValue")
    if fl / ReflectliteValue.flagAddr % 2 == 0 then unsupported (.noEntry "extern/(internal/reflectlite.Value).Set.unaddressable")
    let val ← loadVar src b
    if ← Rtype.directlyAssignable dst src then storeVar dst a val
    else if ← Rtype.implements dst src then
      if (← Rtype.kind src) == 20 then
        match val with
        | .nilIface => unsupported (.noEntry "extern/reflectlite: a nil value of one interface type handed on as a value of another")
        | _ => storeVar dst a val
      else storeVar dst a (.iface src val)
    else panicString ("reflectlite.Set: value of type " ++ (← Rtype.spelt src) ++ " is not assignable to type " ++ (← Rtype.spelt dst))
    pure (.tuple #[])) := rfl
theorem partsWa (a : Addr) (w : World) : (ReflectliteValue.parts (RVl 124 a 409)).run Tryz.prog w = .ok (some (124, a, 409)) w := by kernel_rfl
theorem partsW (a : Addr) (w : World) : (ReflectliteValue.parts (RVl 124 a 153)).run Tryz.prog w = .ok (some (124, a, 153)) w := by kernel_rfl
theorem directW (w : World) : (Rtype.directlyAssignable 124 124).run Tryz.prog w = .ok true w := by kernel_rfl
theorem loadW (b : Nat) (s : Int) (W : World) (hb : W.cell? ⟨b, 0, none⟩ = some (.int .i64 s)) : (loadVar 124 ⟨b, 0, none⟩).run Tryz.prog W = .ok (.agg #[.int .i64 s]) W :=
  run_loadAgg (P := Tryz.prog) (t := 124) (cs := [.int .i64 s]) inferInstance inferInstance rfl rfl (fun j u h => by
    match j, h with
    | 0, h => cases h; exact hb
    | j + 1, h => simp at h)
theorem storeW (ta : Addr) (s : Int) (old : Value) (W : World) (ht : W.cell? ta = some old) (hf : W.frozen? ta = false) : (storeVar 124 ta (.agg #[.int .i64 s])).run Tryz.prog W = .ok () (W.setCell ta (.int .i64 s)) := by
  have hs : (sizeOf 124).run Tryz.prog W = .ok 1 W := by kernel_rfl
  simp only [storeVar, Sem.run_bind, hs, Result.andThen_ok, Value.cells]
  simp only [List.size_toArray, List.length_cons, List.length_nil, Nat.zero_add, ne_eq, not_true_eq_false, if_false, storeCells, Sem.run_bind, Sem.run_pure]
  have h0 : ta.add 0 = ta := by cases ta; rfl
  rw [h0, run_store Tryz.prog W ta _ _ (by rfl), ht]
  simp [hf]
theorem setW (ta : Addr) (b : Nat) (s : Int) (old : Value) (W : World) (hb : W.cell? ⟨b, 0, none⟩ = some (.int .i64 s)) (ht : W.cell? ta = some old) (hf : W.frozen? ta = false) :
    (ReflectliteValue.set #[RVl 124 ta 409, RVl 124 ⟨b, 0, none⟩ 153]).run Tryz.prog W = .ok (.tuple #[]) (W.setCell ta (.int .i64 s)) := by
  rw [rls]
  simp only [Sem.run_bind, partsWa, partsW, Result.andThen, loadW b s W hb]
  simp [ReflectliteValue.flagAddr, Result.andThen, directW, loadW b s W hb, storeW ta s old W ht hf]
end Go.Proofs.YtahlhldkcekbfaaGreatDoor
