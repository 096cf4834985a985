/- The calculus, seventh text: structs built; interface values compared, asked, called; a range over a function. -/
import Derived.Test.YthlbgeonobicbaaDoorV6
import Derived.LaidEql
import Derived.Stop.Asserts
import Derived.Laws.Externs
namespace Go.V
open Go.RowKit
set_option linter.unusedVariables false
set_option linter.unusedSimpArgs false
set_option linter.unusedSectionVars false

/-- Where a struct type's fields lie, and how many cells each has. -/
class Plc (P : Program) (t : TypeId) (pl : outParam (List (Nat × Nat))) : Prop where
  h : ∃ fs, P.underlying t = some (.struct fs) ∧ fs.toList.map (fun f => (f.offset, (P.info? f.type).map (·.size))) = pl.map (fun p => (p.1, some p.2))
def fillL (pl : List (Nat × Nat)) : List Value → List (Nat × Value) → List Value
  | cs, [] => cs
  | cs, (i, v) :: r => match pl[i]? with
    | some (off, size) => fillL pl (cs.take off ++ v.cells.toList ++ cs.drop (off + size)) r
    | none => []
def fillOk (pl : List (Nat × Nat)) (n : Nat) : List (Nat × Value) → Bool
  | [] => true
  | (i, v) :: r => (match pl[i]? with
    | some (off, size) => Nat.beq v.cells.size size && Nat.ble (off + size) n
    | none => false) && fillOk pl n r
theorem fillL_eq (pl : List (Nat × Nat)) : ∀ (ps : List (Nat × Value)) (cs : Array Value), fillOk pl cs.size ps = true → Instr.fill (pl[·]?) cs ps = some (fillL pl cs.toList ps).toArray
  | [], cs, _ => by simp [Instr.fill, fillL]
  | (i, v) :: r, cs, h => by
    simp only [fillOk, Bool.and_eq_true] at h
    cases hp : pl[i]? with
    | none => rw [hp] at h; exact absurd h.1 (by simp)
    | some os =>
      obtain ⟨off, size⟩ := os
      rw [hp] at h
      simp only [Bool.and_eq_true] at h
      have h1 : v.cells.size = size := Nat.eq_of_beq_eq_true h.1.1
      have h2 : off + size ≤ cs.size := by simpa using h.1.2
      simp only [Instr.fill, fillL, hp]
      rw [if_neg (by simp only [Bool.or_eq_true, decide_eq_true_eq]; omega)]
      have hf := zipIdx_fold off v.cells.toList 0 cs (by simp [h1]; omega)
      simp only [Nat.add_zero, Array.length_toList, h1] at hf
      have hz : (v.cells.zipIdx.foldl (fun cs (c, j) => cs.setIfInBounds (off + j) c) cs).toList = cs.toList.take off ++ v.cells.toList ++ cs.toList.drop (off + size) := by
        rw [zipIdx_toList_fold]; exact hf
      have hsz : (v.cells.zipIdx.foldl (fun cs (c, j) => cs.setIfInBounds (off + j) c) cs).size = cs.size := by
        rw [← Array.length_toList, hz, List.length_append, List.length_append, List.length_take, List.length_drop, Array.length_toList, Array.length_toList, h1]; omega
      rw [fillL_eq pl r _ (by rw [hsz]; exact h.2), hz]
section ops
variable {P : Program} {ops : Array Oper} {Q : Post} {ds : List Deferred} {f : Env} {w w' : World} {rest : List Oper}
variable {d : Option Nat} {ty : TypeId} {pos : String} {af : Array Edge} {g : Option (Nat × Bool)}
theorem run_places : ∀ (fs : List Field) (pl : List (Nat × Nat)), fs.map (fun f => (f.offset, (P.info? f.type).map (·.size))) = pl.map (fun p => (p.1, some p.2)) →
    (fs.mapM fun f => do pure (f.offset, ← sizeOf f.type) : Sem (List (Nat × Nat))).run P w = .ok pl w
  | [], [], _ => rfl
  | [], _ :: _, h => by simp at h
  | _ :: _, [], h => by simp at h
  | f :: fs, p :: pl, h => by
    simp only [List.map_cons, List.cons.injEq, Prod.mk.injEq] at h
    obtain ⟨⟨h1, h2⟩, h3⟩ := h
    have hs : (sizeOf f.type).run P w = .ok p.2 w := by
      cases hi : P.info? f.type with
      | none => rw [hi] at h2; cases h2
      | some i => rw [hi] at h2; simp at h2; simp [sizeOf, typeInfo, hi, h2]
    simp only [List.mapM_cons, Sem.run_bind, hs, Result.andThen_ok, Sem.run_pure, run_places fs pl h3, h1]
theorem wr_build {t : TypeId} {z : Value} {n by' : Nat} {pl : List (Nat × Nat)} {parts : Array (Nat × Operand)} {ps : List (Nat × Value)} {cs : List Value} [I : Info P t z n by'] [L : Plc P t pl] (hw : wantedE ops f ⟨d, .build t parts, ty, pos, af, g⟩ = true)
    (hp : parts.toList.map (fun p => (p.1, ev f p.2)) = ps) (hok : fillOk pl z.cells.size ps = true) (hc : fillL pl z.cells.toList ps = cs) (kk : Wr P ops Q ds rest (setO f d (.agg cs.toArray)) w) :
    Wr P ops Q ds (⟨d, .build t parts, ty, pos, af, g⟩ :: rest) f w := by
  obtain ⟨fs, h1, h2⟩ := L.h
  have hpl : ∀ F : Nat × Operand → Nat × Value, (∀ p, F p = (p.1, ev f p.2)) → (parts.map F).toList = ps := fun F hF => by
    rw [← hp, Array.toList_map]; exact List.map_congr_left fun p _ => hF p
  refine wr_val (v := .agg cs.toArray) hw ?_ kk
  simp only [execOp, Instr.build, Sem.run_bind, run_zero I, Result.andThen_ok, underlying, run_program, h1, Sem.run_pure]
  rw [Array.mapM_eq_mapM_toList]
  simp only [Sem.run_map, run_places fs.toList pl h2, Result.andThen_ok]
  rw [hpl _ (fun p => rfl)]
  have := fillL_eq pl ps z.cells hok
  rw [hc] at this
  simp only [List.getElem?_toArray, this, Sem.run_pure, Result.andThen_ok]

/-! ### Interface values -/
theorem wr_bin {op : BinOp} {t t' : TypeId} {x y : Operand} {a b v : Value} (hw : wantedE ops f ⟨d, .binOp op t x y t', ty, pos, af, g⟩ = true) (hx : ev f x = a) (hy : ev f y = b) (hg : (eqGuard op t x y a b).run P w = .ok () w) (h : (binOp op t a b).run P w = .ok v w)
    (kk : Wr P ops Q ds rest (setO f d v) w) : Wr P ops Q ds (⟨d, .binOp op t x y t', ty, pos, af, g⟩ :: rest) f w :=
  wr_v (s := do eqGuard op t x y (ev f x) (ev f y); binOp op t (ev f x) (ev f y)) hw rfl (by rw [hx, hy]; simp only [Sem.run_bind, hg, Result.andThen_ok, h]) kk
theorem equalIn_nil_nil {t : TypeId} {ms : Array (String × TypeId)} (n : Nat) (U : P.underlying t = some (.interface ms)) : (Op.equalIn (n + 1) t .nilIface .nilIface).run P w = .ok true w := by
  simp only [Op.equalIn, underlying, Sem.run_bind, run_program, Result.andThen_ok, U, Sem.run_pure]
theorem equalIn_if_nil {t t2 : TypeId} {v : Value} {ms : Array (String × TypeId)} (n : Nat) (U : P.underlying t = some (.interface ms)) : (Op.equalIn (n + 1) t (.iface t2 v) .nilIface).run P w = .ok false w := by
  simp only [Op.equalIn, underlying, Sem.run_bind, run_program, Result.andThen_ok, U, Sem.run_pure]
theorem equalIn_if_types {t t1 t2 : TypeId} {v1 v2 : Value} {ms : Array (String × TypeId)} (n : Nat) (U : P.underlying t = some (.interface ms)) (h : t1 ≠ t2) : (Op.equalIn (n + 1) t (.iface t1 v1) (.iface t2 v2)).run P w = .ok false w := by
  simp only [Op.equalIn, underlying, Sem.run_bind, run_program, Result.andThen_ok, U, Sem.run_pure]
  rw [if_pos h]; rfl
theorem wr_eqnil_t {t t' : TypeId} {x : Operand} {ms : Array (String × TypeId)} [U : Und P t (.interface ms)] (hw : wantedE ops f ⟨d, .binOp .eql t x (.const .nilIface) t', ty, pos, af, g⟩ = true) (hx : ev f x = .nilIface)
    (kk : Wr P ops Q ds rest (setO f d (.bool true)) w) : Wr P ops Q ds (⟨d, .binOp .eql t x (.const .nilIface) t', ty, pos, af, g⟩ :: rest) f w :=
  wr_bin hw hx rfl (by simp [eqGuard]) (by
    have : (Op.equal t .nilIface .nilIface).run P w = .ok true w := equalIn_nil_nil 9999 U.h
    show ((do pure (Value.bool (← Op.equal t .nilIface .nilIface)) : Sem Value)).run P w = _
    simp only [Sem.run_bind, this, Result.andThen_ok]; rfl) kk
theorem wr_eqnil_f {t t' t2 : TypeId} {x : Operand} {v : Value} {ms : Array (String × TypeId)} [U : Und P t (.interface ms)] (hw : wantedE ops f ⟨d, .binOp .eql t x (.const .nilIface) t', ty, pos, af, g⟩ = true) (hx : ev f x = .iface t2 v)
    (kk : Wr P ops Q ds rest (setO f d (.bool false)) w) : Wr P ops Q ds (⟨d, .binOp .eql t x (.const .nilIface) t', ty, pos, af, g⟩ :: rest) f w :=
  wr_bin hw hx rfl (by simp [eqGuard]) (by
    have : (Op.equal t (.iface t2 v) .nilIface).run P w = .ok false w := equalIn_if_nil 9999 U.h
    show ((do pure (Value.bool (← Op.equal t (.iface t2 v) .nilIface)) : Sem Value)).run P w = _
    simp only [Sem.run_bind, this, Result.andThen_ok]; rfl) kk
theorem wr_nenil_f {t t' : TypeId} {x : Operand} {ms : Array (String × TypeId)} [U : Und P t (.interface ms)] (hw : wantedE ops f ⟨d, .binOp .neq t x (.const .nilIface) t', ty, pos, af, g⟩ = true) (hx : ev f x = .nilIface)
    (kk : Wr P ops Q ds rest (setO f d (.bool false)) w) : Wr P ops Q ds (⟨d, .binOp .neq t x (.const .nilIface) t', ty, pos, af, g⟩ :: rest) f w :=
  wr_bin hw hx rfl (by simp [eqGuard]) (by
    have : (Op.equal t .nilIface .nilIface).run P w = .ok true w := equalIn_nil_nil 9999 U.h
    show ((do pure (Value.bool (!(← Op.equal t .nilIface .nilIface))) : Sem Value)).run P w = _
    simp only [Sem.run_bind, this, Result.andThen_ok]; rfl) kk
theorem wr_nenil_t {t t' t2 : TypeId} {x : Operand} {v : Value} {ms : Array (String × TypeId)} [U : Und P t (.interface ms)] (hw : wantedE ops f ⟨d, .binOp .neq t x (.const .nilIface) t', ty, pos, af, g⟩ = true) (hx : ev f x = .iface t2 v)
    (kk : Wr P ops Q ds rest (setO f d (.bool true)) w) : Wr P ops Q ds (⟨d, .binOp .neq t x (.const .nilIface) t', ty, pos, af, g⟩ :: rest) f w :=
  wr_bin hw hx rfl (by simp [eqGuard]) (by
    have : (Op.equal t (.iface t2 v) .nilIface).run P w = .ok false w := equalIn_if_nil 9999 U.h
    show ((do pure (Value.bool (!(← Op.equal t (.iface t2 v) .nilIface))) : Sem Value)).run P w = _
    simp only [Sem.run_bind, this, Result.andThen_ok]; rfl) kk
theorem wr_eqif {t t' t1 t2 : TypeId} {x y : Operand} {v1 v2 : Value} {r : Bool} (hw : wantedE ops f ⟨d, .binOp .eql t x y t', ty, pos, af, g⟩ = true) (hx : ev f x = .iface t1 v1) (hy : ev f y = .iface t2 v2) (h : (binOp .eql t (.iface t1 v1) (.iface t2 v2)).run P w = .ok (.bool r) w)
    (kk : Wr P ops Q ds rest (setO f d (.bool r)) w) : Wr P ops Q ds (⟨d, .binOp .eql t x y t', ty, pos, af, g⟩ :: rest) f w :=
  wr_bin hw hx hy (by simp [eqGuard]) h kk
theorem run_eqif_types {t t1 t2 : TypeId} {v1 v2 : Value} {ms : Array (String × TypeId)} (U : Und P t (.interface ms)) (h : t1 ≠ t2) : (binOp .eql t (.iface t1 v1) (.iface t2 v2)).run P w = .ok (.bool false) w := by
  have : (Op.equal t (.iface t1 v1) (.iface t2 v2)).run P w = .ok false w := equalIn_if_types 9999 U.h h
  show ((do pure (Value.bool (← Op.equal t (.iface t1 v1) (.iface t2 v2))) : Sem Value)).run P w = _
  simp only [Sem.run_bind, this, Result.andThen_ok]; rfl
/-- A call of a function of the library's that the model itself answers. -/
theorem wr_callX {h : FuncId} {args : Array Operand} {ats : Array TypeId} {vs : List Value} {v : Value} (hw : wantedE ops f ⟨d, .call { callee := .value (.func h), args := args, argTypes := ats }, ty, pos, af, g⟩ = true)
    (hc : (callFunc h vs.toArray).run P w = .ok (.value v) w) (hargs : args.toList.map (ev f) = vs) (kk : Wr P ops Q ds rest (setO f d v) w) : Wr P ops Q ds (⟨d, .call { callee := .value (.func h), args := args, argTypes := ats }, ty, pos, af, g⟩ :: rest) f w := by
  have hm : args.map (ev f) = vs.toArray := by
    rw [← hargs]; apply Array.toList_inj.1; simp
  refine wr_val hw ?_ kk
  simp only [execOp, resolve, hm, ev, Deferred.ofValue, Sem.run_bind, Sem.run_pure, Result.andThen_ok, invoke, Array.empty_append, Array.append_empty]
  exact hc
/-- A method called on an interface value. -/
theorem run_invoke {x : Operand} {name : String} {args : Array Operand} {ats : Array TypeId} {t : TypeId} {v rv : Value} {h : FuncId} {vs : List Value} (hx : ev f x = .iface t v) (hm : (Go.method (P.types.size + Made.depth) t v name).run P w = .ok (h, rv) w) (hargs : args.toList.map (ev f) = vs) :
    (execOp (ev f) ⟨d, .call { callee := .invoke x name, args := args, argTypes := ats }, ty, pos, af, g⟩).run P w = (callFunc h (rv :: vs).toArray).run P w := by
  have hm' : args.map (ev f) = vs.toArray := by
    rw [← hargs]; apply Array.toList_inj.1; simp
  have he : (#[Value.iface t v] ++ vs.toArray).extract 1 (#[Value.iface t v] ++ vs.toArray).size = vs.toArray := by
    apply Array.toList_inj.1; simp
  have h0 : (#[Value.iface t v] ++ vs.toArray)[0]? = some (.iface t v) := by simp
  simp only [execOp, resolve, hm', hx, Sem.run_bind, Sem.run_pure, Result.andThen_ok, invoke, h0, he, callMethod, run_program, hm]
  rw [show #[rv] ++ vs.toArray = (rv :: vs).toArray from by apply Array.toList_inj.1; simp]
theorem wr_invokeX {x : Operand} {name : String} {args : Array Operand} {ats : Array TypeId} {t : TypeId} {v rv u : Value} {h : FuncId} {vs : List Value} (hw : wantedE ops f ⟨d, .call { callee := .invoke x name, args := args, argTypes := ats }, ty, pos, af, g⟩ = true)
    (hx : ev f x = .iface t v) (hm : (Go.method (P.types.size + Made.depth) t v name).run P w = .ok (h, rv) w) (hc : (callFunc h (rv :: vs).toArray).run P w = .ok (.value u) w) (hargs : args.toList.map (ev f) = vs) (kk : Wr P ops Q ds rest (setO f d u) w) :
    Wr P ops Q ds (⟨d, .call { callee := .invoke x name, args := args, argTypes := ats }, ty, pos, af, g⟩ :: rest) f w :=
  wr_val hw (by rw [run_invoke hx hm hargs]; exact hc) kk
theorem wr_invoke {x : Operand} {name : String} {args : Array Operand} {ats : Array TypeId} {t : TypeId} {v rv : Value} {h : FuncId} {vs : List Value} {R : Value → World → Prop} [E : Ent P h] (hw : wantedE ops f ⟨d, .call { callee := .invoke x name, args := args, argTypes := ats }, ty, pos, af, g⟩ = true)
    (hm : (Go.method (P.types.size + Made.depth) t v name).run P w = .ok (h, rv) w) (hc : Ca P h (rv :: vs).toArray w R) (hx : ev f x = .iface t v) (hargs : args.toList.map (ev f) = vs) (kk : ∀ v w', R v w' → Wr P ops Q ds rest (setO f d v) w') :
    Wr P ops Q ds (⟨d, .call { callee := .invoke x name, args := args, argTypes := ats }, ty, pos, af, g⟩ :: rest) f w := by
  refine wr_step hw ?_
  rw [run_invoke hx hm hargs, callFunc_run E.h]
  exact hc.inn _ kk
theorem wr_assert {x : Operand} {xT t2 : TypeId} {ok : Bool} {a v : Value} (hw : wantedE ops f ⟨d, .typeAssert x xT t2 ok, ty, pos, af, g⟩ = true) (hx : ev f x = a) (h : (Instr.typeAssert a xT t2 ok).run P w = .ok v w) (kk : Wr P ops Q ds rest (setO f d v) w) :
    Wr P ops Q ds (⟨d, .typeAssert x xT t2 ok, ty, pos, af, g⟩ :: rest) f w :=
  wr_v (s := Instr.typeAssert (ev f x) xT t2 ok) hw rfl (by rw [hx]; exact h) kk
end ops

/-! ### A range over a function -/
abbrev yieldV (l : Nat) : Value := .func (.yield l) #[] #[]
theorem rp_foldl {n : Nat} {ds : List Deferred} : ∀ (l : List (Tmp × Value)) (t0 : Array Value) (f : Env), Rp n ds ⟨t0, ds⟩ f → (∀ p ∈ l, p.1 < n) → Rp n ds ⟨l.foldl (fun t p => t.setIfInBounds p.1 p.2) t0, ds⟩ (l.foldl (fun (f : Env) p => f.set p.1 p.2) f)
  | [], _, _, h, _ => h
  | p :: l, t0, f, h, hl => rp_foldl l _ _ (h.put (d := some p.1) (by simpa [dstOk] using hl p (by simp)) p.2) fun q hq => hl q (by simp [hq])
/-- A call of a round's yield: the loop's left sides are assigned, the body is walked, on the frame that the loop was entered with. -/
theorem callV_yield {P : Program} {n : Nat} {l : Nat} {rec : Loop} {args : List Value} {w : World} {R : Value → World → Prop} {f : Env} {f' : Env}
    (hl : w.heap[l]? = some (.loop rec)) (hsz : args.length = rec.params.size) (hrp : Rp n [] ⟨rec.tmps, []⟩ f) (hps : rec.params.toList.all (Nat.blt · n) = true)
    (hok : codeOk n rec.assign = true ∧ codeOk n rec.body = true) (hf' : (rec.params.toList.zip args).foldl (fun (f : Env) p => f.set p.1 p.2) f = f')
    (h : Wc (some l) P n rec.assign (thenE (fun ds f w' => ∃ rec', w'.heap[l]? = some (.loop rec') ∧ rec'.state = .ready ∧ Wc (some l) P n rec.body (fun e ds f w'' => ∃ rec'', w''.heap[l]? = some (.loop rec'') ∧ (match e with
        | .normal => R (.bool true) (w''.putObj l (.loop { rec'' with state := .ready, pending := none }))
        | .ret => R (.bool false) (w''.putObj l (.loop { rec'' with state := .done, pending := some .ret }))
        | .exit id => R (.bool false) (w''.putObj l (.loop { rec'' with state := .done, pending := some (.exit id) }))
        | _ => False)) ds f (w'.putObj l (.loop { rec' with state := .busy }))) (fun _ _ _ _ => False)) [] f' w) : CallV P (yieldV l) args.toArray w R := by
  have hrun : ((do let d ← Deferred.ofValue (yieldV l) args.toArray; invoke d.target d.args : Sem Next)).run P w = .ok (.round l rec.fn ((rec.params.zip args.toArray).foldl (fun tmps (t, a) => tmps.setIfInBounds t a) rec.tmps) rec.assign rec.body) w := by
    simp only [Deferred.ofValue, Sem.run_bind, Sem.run_pure, Result.andThen_ok, invoke, Array.empty_append]
    exact run_yield hl (by simpa using hsz)
  refine CallV.mk ?_
  rw [hrun]
  have htm : (rec.params.zip args.toArray).foldl (fun tmps (t, a) => tmps.setIfInBounds t a) rec.tmps = (rec.params.toList.zip args).foldl (fun t p => t.setIfInBounds p.1 p.2) rec.tmps := by
    rw [← Array.foldl_toList]; simp
  rw [htm]
  have hr := rp_foldl (n := n) (ds := []) (rec.params.toList.zip args) rec.tmps f hrp fun p hp => by
    have := List.all_eq_true.1 hps p.1 (List.of_mem_zip hp).1
    simpa using this
  rw [hf'] at hr
  refine roundIn_of_wpIn (F := Fence.wide) trivial (wpIn_mono (h.up hok.1 _ hr) ?_)
  rintro e a₁ w₁ ⟨ds₁, f₁, hr₁, hq⟩
  cases e with
  | normal =>
    obtain ⟨rec', h1, h2, h3⟩ := hq
    refine ⟨_, run_beginRound h1 h2, wpIn_mono (h3.up hok.2 _ hr₁) ?_⟩
    rintro e a₂ w₂ ⟨ds₂, f₂, hr₂, rec'', h4, h5⟩
    cases e with
    | normal => exact ⟨_, _, run_endRound none h4, h5⟩
    | ret => exact ⟨_, _, run_endRound (some .ret) h4, h5⟩
    | exit id => exact ⟨_, _, run_endRound (some (.exit id)) h4, h5⟩
    | _ => exact h5.elim
  | _ => exact hq.elim
/-- for .. := range g { .. }: g, a function value, is called with the loop's yield; what it leaves pending is done then. -/
theorem wc_rangeFunc {P : Program} {n : Nat} {Q : Post} {ds : List Deferred} {f : Env} {w : World} {x : Operand} {ps : Array Tmp} {assign body : Code} {gf : FuncId} {cap : Array Value} [E : Ent P gf]
    (hx : ev f x = .func (.func gf) #[] cap)
    (h : ∀ (fn : FuncId) (tm : Array Value), Rp n [] ⟨tm, []⟩ f → codeOk n assign = true ∧ codeOk n body = true ∧ ps.toList.all (Nat.blt · n) = true →
      Ca P gf (#[yieldV (w.heap.size + 1)] ++ cap) ((w.alloc (.deferred (some []))).alloc (.loop { state := .ready, pending := none, fn, tmps := tm, params := ps, assign, body, defers := w.heap.size }))
        fun _ w' => ∃ rec, w'.heap[w.heap.size + 1]? = some (.loop rec) ∧ rec.state ≠ .busy ∧ (match rec.pending with
          | none => Q .normal ({ target := .collected w.heap.size, args := #[] } :: ds) f (w'.putObj (w.heap.size + 1) (.loop { rec with state := .exhausted }))
          | some c => codeOk n c = true ∧ Wc none P n c Q ({ target := .collected w.heap.size, args := #[] } :: ds) f (w'.putObj (w.heap.size + 1) (.loop { rec with state := .exhausted })))) :
    Wc none P n (.rangeFunc x ps assign body) Q ds f w := by
  refine Wc.mk ?_
  intro hok a ha
  simp only [codeOk, Bool.and_eq_true] at hok
  obtain ⟨hox, hops, hoa, hob⟩ := hok
  refine wpIn_rangeFunc ?_
  intro fn hfn
  have hev : a.eval x = .func (.func gf) #[] cap := (ha.eval hox).trans hx
  have hrp : Rp n [] ⟨a.tmps, []⟩ f := ⟨ha.size, rfl, ha.get⟩
  have hca := h fn a.tmps hrp ⟨hoa, hob, hops⟩
  refine ⟨w.heap.size + 1, [{ target := .collected w.heap.size, args := #[] }], _, { target := .fn (.func gf) cap, args := #[yieldV (w.heap.size + 1)] }, ((w.alloc (.deferred (some []))).alloc (.loop { state := .ready, pending := none, fn, tmps := a.tmps, params := ps, assign, body, defers := w.heap.size })), gf, #[yieldV (w.heap.size + 1)] ++ cap, _, run_enterLoop_outer _ _ _ _ _, ?_, fun _ _ => trivial, ?_, (fun h => by cases h), hca.inn' _ ?_⟩
  · simp only [resolve, rangeCall, hev, Deferred.ofValue, Sem.run_pure]
    simp [Act.eval]
  · simp only [invoke]; exact callFunc_run E.h _ _
  · rintro v w' ⟨rec, h1, h2, h3⟩
    refine ⟨rec.pending, _, run_endLoop h1 h2, ?_⟩
    have hrp' : Rp n ({ target := .collected w.heap.size, args := #[] } :: ds) { a with defers := [{ target := .collected w.heap.size, args := #[] }] ++ a.defers } f := ⟨ha.size, by simp [ha.dfr], ha.get⟩
    cases hp : rec.pending with
    | none => rw [hp] at h3; exact ⟨_, f, hrp', h3⟩
    | some c => rw [hp] at h3; exact h3.2.up h3.1 _ hrp'
/-! ### For the walk -/
@[reducible] def cmpP (op : BinOp) (a b : Int) : Prop := match op with
  | .lss => a < b
  | .leq => a ≤ b
  | .gtr => b < a
  | .geq => b ≤ a
  | .eql => a = b
  | .neq => a ≠ b
  | _ => False
@[reducible] def cmpN (op : BinOp) (a b : Int) : Prop := match op with
  | .lss => b ≤ a
  | .leq => b < a
  | .gtr => a ≤ b
  | .geq => a < b
  | .eql => a ≠ b
  | .neq => a = b
  | _ => False
theorem cmpT {op : BinOp} {a b : Int} (h : cmpP op a b) : (Op.intCmp op a b : Sem Value) = pure (.bool true) := by
  cases op <;> first | exact cmp_lt_t h | exact cmp_le_t h | exact cmp_gt_t h | exact cmp_ge_t h | exact cmp_eq_t h | exact cmp_ne_t h | exact absurd h (fun h => h)
theorem cmpF {op : BinOp} {a b : Int} (h : cmpN op a b) : (Op.intCmp op a b : Sem Value) = pure (.bool false) := by
  cases op <;> first | exact cmp_lt_f h | exact cmp_le_f h | exact cmp_gt_f h | exact cmp_ge_f h | exact cmp_eq_f h | exact cmp_ne_f h | exact absurd h (fun h => h)
@[reducible] def kIn (k : IntKind) (n : Int) : Prop := match k with
  | .i64 => -9223372036854775808 ≤ n ∧ n ≤ 9223372036854775807
  | .u64 => 0 ≤ n ∧ n ≤ 18446744073709551615
  | .i32 => -2147483648 ≤ n ∧ n ≤ 2147483647
  | .u32 => 0 ≤ n ∧ n ≤ 4294967295
  | .u16 => 0 ≤ n ∧ n ≤ 65535
  | .u8 => 0 ≤ n ∧ n ≤ 255
  | _ => False
theorem w_fit {k : IntKind} {n : Int} (h : kIn k n) : k.wrap n = n := by
  cases k <;> first | exact w_i64 h | exact w_u64 h | exact w_i32 h | exact w_u32 h | exact w_u16 h | exact w_u8 h | exact absurd h (fun h => h)
theorem hAl {w : World} {o o' : Obj} {b : Nat} (h : b ≠ w.heap.size) (k : w.heap[b]? = some o) : (w.alloc o').heap[b]? = some o := (heap_alloc_ne w o' h).trans k
theorem hPu {w : World} {b c : Nat} {o o' : Obj} (h : c ≠ b) (k : w.heap[c]? = some o) : (w.putObj b o').heap[c]? = some o := (heap_put_ne w o' h).trans k
end Go.V
