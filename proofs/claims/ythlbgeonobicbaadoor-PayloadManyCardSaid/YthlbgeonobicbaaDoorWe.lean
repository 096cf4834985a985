/- errors.Is, at nil, at a sentinel, at wire's at around one. -/
import Derived.Test.YthlbgeonobicbaaDoorWd
namespace Go.Proofs.YthlbgeonobicbaaDoor
open Go Go.V Go.RowKit Go.Extern Go.Extern.Rtype
set_option linter.unusedVariables false
set_option linter.unusedSimpArgs false

abbrev Er (p : Addr) : Value := .iface 171 (.pointer (some p))
abbrev At (k : Int) (e : Value) : Value := .iface 150 (.agg #[.int .i64 k, e])
theorem is_typeOf (v : Value) (w : World) : (Extern.ReflectliteType.typeOf #[.iface 171 v]).run Tryd.prog w = .ok (.iface 161 (.agg #[.pointer (some ⟨3, 171, none⟩)])) w := by kernel_rfl
theorem is_comparable (w : World) : ((Extern.ReflectliteType.method fun t => do noPackHeld "Comparable" t; pure (Value.bool (← typeInfo t).comparable)) #[.agg #[.pointer (some ⟨3, 171, none⟩)]]).run Tryd.prog w = .ok (.bool true) w := by kernel_rfl
theorem is_mComparable (v : Value) (w : World) : (Go.method (Tryd.prog.types.size + Made.depth) 161 v "Comparable").run Tryd.prog w = .ok (118, v) w := by kernel_rfl
theorem is_mUnwrap (v : Value) (w : World) : (Go.method (Tryd.prog.types.size + Made.depth) 150 v "Unwrap").run Tryd.prog w = .ok (114, v) w := by kernel_rfl
theorem is_comp : (Tryd.prog.info? 171).map (·.comparable) = some true := by kernel_rfl
theorem is_size : (Tryd.prog.info? 194).map (·.size) = some 1 := by kernel_rfl
theorem noIsE (v : Value) (xT : TypeId) (w : World) : (Instr.typeAssert (.iface 171 v) xT 163 true).run Tryd.prog w = .ok (.tuple #[.nilIface, .bool false]) w := run_typeAssert_lacksB Tryd.underlying163 (by kernel_rfl) (by kernel_rfl) v xT w
theorem noUnwrapE (v : Value) (xT : TypeId) (w : World) : (Instr.typeAssert (.iface 171 v) xT 166 true).run Tryd.prog w = .ok (.tuple #[.nilIface, .bool false]) w := run_typeAssert_lacksB Tryd.underlying166 (by kernel_rfl) (by kernel_rfl) v xT w
theorem noUnwrapsE (v : Value) (xT : TypeId) (w : World) : (Instr.typeAssert (.iface 171 v) xT 168 true).run Tryd.prog w = .ok (.tuple #[.nilIface, .bool false]) w := run_typeAssert_lacksB Tryd.underlying168 (by kernel_rfl) (by kernel_rfl) v xT w
theorem noIsW (v : Value) (xT : TypeId) (w : World) : (Instr.typeAssert (.iface 150 v) xT 163 true).run Tryd.prog w = .ok (.tuple #[.nilIface, .bool false]) w := run_typeAssert_lacksB Tryd.underlying163 (by kernel_rfl) (by kernel_rfl) v xT w
theorem hasUnwrapW (v : Value) (xT : TypeId) (w : World) : (Instr.typeAssert (.iface 150 v) xT 166 true).run Tryd.prog w = .ok (.tuple #[.iface 150 v, .bool true]) w := run_typeAssert_hasB Tryd.underlying166 (by kernel_rfl) v xT w
theorem call_typeOf (v : Value) (w : World) : (callFunc 90 #[.iface 171 v]).run Tryd.prog w = .ok (.value (.iface 161 (.agg #[.pointer (some ⟨3, 171, none⟩)]))) w := by
  rw [@run_callFunc_extern Tryd.prog 90 _ Extern.ReflectliteType.typeOf Tryd.func90 (by kernel_rfl) (by kernel_rfl) (by kernel_rfl) (by kernel_rfl), is_typeOf]; rfl
theorem call_comparable (w : World) : (callFunc 118 #[.agg #[.pointer (some ⟨3, 171, none⟩)]]).run Tryd.prog w = .ok (.value (.bool true)) w := by
  rw [@run_callFunc_extern Tryd.prog 118 _ (Extern.ReflectliteType.method fun t => do noPackHeld "Comparable" t; pure (Value.bool (← typeInfo t).comparable)) Tryd.func118 (by kernel_rfl) (by kernel_rfl) (by kernel_rfl) (by kernel_rfl), is_comparable]; rfl
theorem run_eqEr {p q : Addr} {cp cq : Array Value} {tp tq : TypeId} {w : World} (hp : w.heap[p.block]? = some (.cells cp tp (0, 0))) (hq : w.heap[q.block]? = some (.cells cq tq (0, 0))) :
    (binOp .eql 126 (Er p) (Er q)).run Tryd.prog w = .ok (.bool (decide (p = q))) w := by
  obtain ⟨i, hi, hcmp⟩ := Option.map_eq_some_iff.1 is_comp
  obtain ⟨j, hj, hjs⟩ := Option.map_eq_some_iff.1 is_size
  by_cases e : p = q
  · subst e
    rw [decide_eq_true rfl]
    exact run_eql_iface_ptr_same (P := Tryd.prog) w p Tryd.underlying126 Tryd.underlying171 hi hcmp hj
  · rw [decide_eq_false e]
    exact run_eql_iface_ptr_other (P := Tryd.prog) w Tryd.underlying126 Tryd.underlying171 hi hcmp hj (by rw [hjs]; decide) e hp hq
set_option maxRecDepth 100000 in
theorem unwrap_ca (k : Int) (e : Value) (h1 : e.oneCell' = true) (w : World) : Ca Tryd.prog 114 #[.agg #[.int .i64 k, e]] w fun v w' => v = e ∧ Keeps NoB w w' := by
  refine ca_of_body (args := [.agg #[.int .i64 k, e]]) Tryd.func114 rfl (by kernel_rfl) ?_
  have hc : (Value.agg #[.int .i64 k, e]).cells = #[.int .i64 k, e] := rfl
  (repeat first | (apply wr_assign; exact rfl; with_reducible (conv => enter [6, 3]; whnf)) | apply wr_end | apply wc_seq | apply wc_region | (apply wr_fieldAddr; iterate 2 exact rfl) | (apply wr_box; iterate 2 exact rfl) | (apply wr_load; (iterate 3 exact rfl); (focus repeat first | with_reducible assumption | exact heap_alloc_same _ _ | exact World.putObj_heap_same (by first | omega | (simp only [World.size_alloc, World.putObj_size, ne_eq]; omega)) | ((first | refine hAl ?_ ?_ | refine hPu ?_ ?_); focus first | omega | (simp only [World.size_alloc, World.putObj_size, ne_eq]; omega))); exact rfl; conv => enter [6, 3]; whnf) | (apply wc_ret; try simp only [thenE, inBlockE, bodyQ]))
  exact leave1 (v := e) rfl rfl ⟨rfl, (Keeps.refl _ _).alloc _⟩
def isArg (wrap : Bool) (k : Int) (p : Addr) : Value := if wrap then At k (Er p) else Er p
set_option maxRecDepth 100000 in
set_option maxHeartbeats 1000000 in
theorem is_ca (wrap : Bool) (k : Int) (p q : Addr) {cp cq : Array Value} {tp tq : TypeId} {w : World} (hp : w.heap[p.block]? = some (.cells cp tp (0, 0))) (hq : w.heap[q.block]? = some (.cells cq tq (0, 0))) :
    Ca Tryd.prog 91 #[isArg wrap k p, Er q, .bool true] w fun v w' => v = .bool (decide (p = q)) ∧ Keeps NoB w w' := by
  refine ca_of_body (args := [isArg wrap k p, Er q, .bool true]) Tryd.func91 rfl (by kernel_rfl) ?_
  (repeat first | (apply wr_assign; exact rfl; with_reducible (conv => enter [6, 3]; whnf)) | apply wr_end | apply wc_seq | apply wc_region | apply wc_block)
  refine wc_loopL (α := Bool) (fun x => [(0, isArg x k p), (1, Er q), (2, .bool true)]) (fun x ds w' => ds = [] ∧ Keeps NoB w w') (fun x => cond x 1 0) wrap ⟨rfl, Keeps.refl _ _⟩ ⟨rfl, rfl, rfl, trivial⟩ ?_
  rintro b ds f0 w2 ⟨rfl, hk2⟩
  have hp2 := hk2.heap hp (fun h => h)
  have hq2 := hk2.heap hq (fun h => h)
  cases b
  · by_cases e : p = q
    · have heq := run_eqEr hp2 hq2
      rw [decide_eq_true e] at heq
      dsimp only [isArg]
      (repeat first | (apply wr_move; exact rfl; with_reducible (conv => enter [6, 3]; whnf)) | apply wc_seq | apply wc_region | apply wc_block)
      refine wr_bin rfl rfl rfl (by simp [eqGuard]) heq ?_
      (repeat first | (apply wr_assign; exact rfl; with_reducible (conv => enter [6, 3]; whnf)) | apply wr_end | apply wc_seq | apply wc_region | (apply wr_pick (t := true); (iterate 2 exact rfl); with_reducible (conv => enter [6, 3]; whnf)) | (apply wc_true; exact rfl) | (apply wc_ret; try simp only [thenE, inBlockE, bodyQ]))
      exact leave1 (v := .bool true) rfl rfl ⟨by rw [decide_eq_true e], hk2⟩
    · have heq := run_eqEr hp2 hq2
      rw [decide_eq_false e] at heq
      dsimp only [isArg]
      (repeat first | (apply wr_move; exact rfl; with_reducible (conv => enter [6, 3]; whnf)) | apply wc_seq | apply wc_region | apply wc_block)
      refine wr_bin rfl rfl rfl (by simp [eqGuard]) heq ?_
      (repeat first | (apply wr_move; exact rfl; with_reducible (conv => enter [6, 3]; whnf)) | apply wr_end | apply wc_seq | apply wc_region | apply wc_skip | (apply wr_pick (t := true); (iterate 2 exact rfl); with_reducible (conv => enter [6, 3]; whnf)) | (apply wc_false; exact rfl))
      refine wr_assert rfl rfl (noIsE _ _ _) ?_
      (repeat first | (apply wr_move; exact rfl; with_reducible (conv => enter [6, 3]; whnf)) | (apply wr_assign; exact rfl; with_reducible (conv => enter [6, 3]; whnf)) | apply wr_end | apply wc_seq | apply wc_region | apply wc_skip | apply wc_block | (apply wr_pick (t := false); (iterate 2 exact rfl); with_reducible (conv => enter [6, 3]; whnf)) | (apply wr_extract; (iterate 3 exact rfl); with_reducible (conv => enter [6, 3]; whnf)) | (apply wc_false; exact rfl) | (apply wr_skip; exact rfl))
      refine wr_assert rfl rfl (noUnwrapE _ _ _) ?_
      (repeat first | apply wr_end | apply wc_seq | apply wc_region | (apply wr_extract; (iterate 3 exact rfl); with_reducible (conv => enter [6, 3]; whnf)) | (apply wc_false; exact rfl))
      refine wr_assert rfl rfl (noUnwrapsE _ _ _) ?_
      (repeat first | (apply wr_assign; exact rfl; with_reducible (conv => enter [6, 3]; whnf)) | apply wr_end | apply wc_seq | apply wc_region | (apply wr_extract; (iterate 3 exact rfl); with_reducible (conv => enter [6, 3]; whnf)) | (apply wc_false; exact rfl) | (apply wc_ret; try simp only [thenE, inBlockE, bodyQ]))
      exact leave1 (v := .bool false) rfl rfl ⟨by rw [decide_eq_false e], hk2⟩
  · dsimp only [isArg]
    (repeat first | (apply wr_move; exact rfl; with_reducible (conv => enter [6, 3]; whnf)) | apply wc_seq | apply wc_region | apply wc_block)
    refine wr_bin rfl rfl rfl (by simp [eqGuard]) (run_eqif_types inferInstance (by decide)) ?_
    (repeat first | (apply wr_move; exact rfl; with_reducible (conv => enter [6, 3]; whnf)) | apply wr_end | apply wc_seq | apply wc_region | apply wc_skip | (apply wr_pick (t := true); (iterate 2 exact rfl); with_reducible (conv => enter [6, 3]; whnf)) | (apply wc_false; exact rfl))
    refine wr_assert rfl rfl (noIsW _ _ _) ?_
    (repeat first | (apply wr_move; exact rfl; with_reducible (conv => enter [6, 3]; whnf)) | (apply wr_assign; exact rfl; with_reducible (conv => enter [6, 3]; whnf)) | apply wr_end | apply wc_seq | apply wc_region | apply wc_skip | apply wc_block | (apply wr_pick (t := false); (iterate 2 exact rfl); with_reducible (conv => enter [6, 3]; whnf)) | (apply wr_extract; (iterate 3 exact rfl); with_reducible (conv => enter [6, 3]; whnf)) | (apply wc_false; exact rfl) | (apply wr_skip; exact rfl))
    refine wr_assert rfl rfl (hasUnwrapW _ _ _) ?_
    (repeat first | (apply wr_move; exact rfl; with_reducible (conv => enter [6, 3]; whnf)) | (apply wr_assign; exact rfl; with_reducible (conv => enter [6, 3]; whnf)) | apply wr_end | apply wc_seq | apply wc_region | (apply wr_extract; (iterate 3 exact rfl); with_reducible (conv => enter [6, 3]; whnf)) | (apply wc_true; exact rfl))
    refine wr_invoke (vs := []) rfl (is_mUnwrap _ _) (unwrap_ca k (Er p) rfl w2) rfl rfl ?_
    rintro v w3 ⟨rfl, hk3⟩
    (repeat first | (apply wr_move; exact rfl; with_reducible (conv => enter [6, 3]; whnf)) | (apply wr_assign; exact rfl; with_reducible (conv => enter [6, 3]; whnf)) | apply wr_end | apply wc_seq | apply wc_region | apply wc_skip | (apply wr_eqnil_f; iterate 2 exact rfl) | (apply wc_false; exact rfl))
    exact ⟨false, Nat.zero_lt_one, ⟨rfl, hk2.trans hk3⟩, rfl, rfl, rfl, trivial⟩
set_option maxRecDepth 100000 in
set_option maxHeartbeats 1000000 in
theorem Is_ca (wrap : Bool) (k : Int) (p q : Addr) {cp cq : Array Value} {tp tq : TypeId} {w : World} (hp : w.heap[p.block]? = some (.cells cp tp (0, 0))) (hq : w.heap[q.block]? = some (.cells cq tq (0, 0))) :
    Ca Tryd.prog 81 #[isArg wrap k p, Er q] w fun v w' => v = .bool (decide (p = q)) ∧ Keeps NoB w w' := by
  obtain ⟨t, v, hv⟩ : ∃ t v, isArg wrap k p = .iface t v := by cases wrap <;> exact ⟨_, _, rfl⟩
  refine ca_of_body (args := [isArg wrap k p, Er q]) Tryd.func81 rfl (by kernel_rfl) ?_
  (repeat first | (apply wr_move; exact rfl; with_reducible (conv => enter [6, 3]; whnf)) | (apply wr_assign; exact rfl; with_reducible (conv => enter [6, 3]; whnf)) | apply wr_end | apply wc_seq | apply wc_region)
  refine wr_eqnil_f rfl hv ?_
  (repeat first | (apply wr_move; exact rfl; with_reducible (conv => enter [6, 3]; whnf)) | apply wr_end | apply wc_seq | apply wc_region | apply wc_skip | (apply wr_pick (t := false); (iterate 2 exact rfl); with_reducible (conv => enter [6, 3]; whnf)) | (apply wr_eqnil_f; iterate 2 exact rfl) | (apply wc_false; exact rfl))
  refine wr_callX (vs := [Er q]) rfl (call_typeOf _ _) rfl ?_
  refine wr_invokeX (vs := []) rfl rfl (is_mComparable _ _) (call_comparable _) rfl ?_
  (repeat first | (apply wr_move; exact rfl; with_reducible (conv => enter [6, 3]; whnf)) | (apply wr_assign; exact rfl; with_reducible (conv => enter [6, 3]; whnf)) | apply wr_end | apply wc_seq | apply wc_region)
  refine wr_call (vs := [isArg wrap k p, Er q, .bool true]) rfl (is_ca wrap k p q hp hq) rfl ?_
  rintro v w1 ⟨rfl, hk1⟩
  (repeat first | (apply wr_assign; exact rfl; with_reducible (conv => enter [6, 3]; whnf)) | apply wr_end | (apply wc_ret; try simp only [thenE, inBlockE, bodyQ]))
  exact leave1 (v := .bool (decide (p = q))) rfl rfl ⟨rfl, hk1⟩
set_option maxRecDepth 100000 in
set_option maxHeartbeats 1000000 in
theorem Is_nil (q : Addr) (w : World) : Ca Tryd.prog 81 #[.nilIface, Er q] w fun v w' => v = .bool false ∧ w' = w := by
  refine ca_of_body (args := [.nilIface, Er q]) Tryd.func81 rfl (by kernel_rfl) ?_
  (repeat first | (apply wr_move; exact rfl; with_reducible (conv => enter [6, 3]; whnf)) | (apply wr_assign; exact rfl; with_reducible (conv => enter [6, 3]; whnf)) | apply wr_end | apply wc_seq | apply wc_region | (apply wr_pick (t := true); (iterate 2 exact rfl); with_reducible (conv => enter [6, 3]; whnf)) | (apply wr_eqnil_t; iterate 2 exact rfl) | (apply wc_true; exact rfl) | (apply wr_skip; exact rfl))
  refine wr_bin rfl rfl rfl (by simp [eqGuard]) (run_eql_iface_nil_left _ _ _ Tryd.underlying126) ?_
  (repeat first | (apply wr_assign; exact rfl; with_reducible (conv => enter [6, 3]; whnf)) | apply wr_end | (apply wc_ret; try simp only [thenE, inBlockE, bodyQ]))
  exact leave1 (v := .bool false) rfl rfl ⟨rfl, rfl⟩
end Go.Proofs.YthlbgeonobicbaaDoor
