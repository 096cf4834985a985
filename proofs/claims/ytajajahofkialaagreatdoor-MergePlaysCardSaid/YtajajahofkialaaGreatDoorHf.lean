/- errors.Is, at nil, at a sentinel, at merge's refused around one; right. -/
import Derived.Test.YtajajahofkialaaGreatDoorHe
namespace Go.Proofs.YtajajahofkialaaGreatDoor
open Go Go.V Go.RowKit Go.Extern Go.Extern.Rtype
set_option linter.unusedVariables false
set_option linter.unusedSimpArgs false


abbrev Er (p : Addr) : Value := .iface 187 (.pointer (some p))
abbrev At (k : TY) (e : Value) : Value := .iface 103 (.agg #[.int .i64 k.1, .int .i64 k.2, e])
theorem is_typeOf (v : Value) (w : World) : (Extern.ReflectliteType.typeOf #[.iface 187 v]).run Tryz.prog w = .ok (.iface 117 (.agg #[.pointer (some ⟨8, 187, none⟩)])) w := by kernel_rfl
theorem is_comparable (w : World) : ((Extern.ReflectliteType.method fun t => do noPackHeld "Comparable" t; pure (Value.bool (← typeInfo t).comparable)) #[.agg #[.pointer (some ⟨8, 187, none⟩)]]).run Tryz.prog w = .ok (.bool true) w := by kernel_rfl
theorem is_mComparable (v : Value) (w : World) : (Go.method (Tryz.prog.types.size + Made.depth) 117 v "Comparable").run Tryz.prog w = .ok (163, v) w := by kernel_rfl
theorem is_mUnwrap (v : Value) (w : World) : (Go.method (Tryz.prog.types.size + Made.depth) 103 v "Unwrap").run Tryz.prog w = .ok (159, v) w := by kernel_rfl
theorem is_comp : (Tryz.prog.info? 187).map (·.comparable) = some true := by kernel_rfl
theorem is_size : (Tryz.prog.info? 212).map (·.size) = some 1 := by kernel_rfl
theorem noIsE (v : Value) (xT : TypeId) (w : World) : (Instr.typeAssert (.iface 187 v) xT 119 true).run Tryz.prog w = .ok (.tuple #[.nilIface, .bool false]) w := run_typeAssert_lacksB Tryz.underlying119 (by kernel_rfl) (by kernel_rfl) v xT w
theorem noUnwrapE (v : Value) (xT : TypeId) (w : World) : (Instr.typeAssert (.iface 187 v) xT 122 true).run Tryz.prog w = .ok (.tuple #[.nilIface, .bool false]) w := run_typeAssert_lacksB Tryz.underlying122 (by kernel_rfl) (by kernel_rfl) v xT w
theorem noUnwrapsE (v : Value) (xT : TypeId) (w : World) : (Instr.typeAssert (.iface 187 v) xT 123 true).run Tryz.prog w = .ok (.tuple #[.nilIface, .bool false]) w := run_typeAssert_lacksB Tryz.underlying123 (by kernel_rfl) (by kernel_rfl) v xT w
theorem noIsW (v : Value) (xT : TypeId) (w : World) : (Instr.typeAssert (.iface 103 v) xT 119 true).run Tryz.prog w = .ok (.tuple #[.nilIface, .bool false]) w := run_typeAssert_lacksB Tryz.underlying119 (by kernel_rfl) (by kernel_rfl) v xT w
theorem hasUnwrapW (v : Value) (xT : TypeId) (w : World) : (Instr.typeAssert (.iface 103 v) xT 122 true).run Tryz.prog w = .ok (.tuple #[.iface 103 v, .bool true]) w := run_typeAssert_hasB Tryz.underlying122 (by kernel_rfl) v xT w
theorem call_typeOf (v : Value) (w : World) : (callFunc 64 #[.iface 187 v]).run Tryz.prog w = .ok (.value (.iface 117 (.agg #[.pointer (some ⟨8, 187, none⟩)]))) w := by
  rw [@run_callFunc_extern Tryz.prog 64 _ Extern.ReflectliteType.typeOf Tryz.func64 (by kernel_rfl) (by kernel_rfl) (by kernel_rfl) (by kernel_rfl), is_typeOf]; rfl
theorem call_comparable (w : World) : (callFunc 163 #[.agg #[.pointer (some ⟨8, 187, none⟩)]]).run Tryz.prog w = .ok (.value (.bool true)) w := by
  rw [@run_callFunc_extern Tryz.prog 163 _ (Extern.ReflectliteType.method fun t => do noPackHeld "Comparable" t; pure (Value.bool (← typeInfo t).comparable)) Tryz.func163 (by kernel_rfl) (by kernel_rfl) (by kernel_rfl) (by kernel_rfl), is_comparable]; rfl
theorem run_eqEr {p q : Addr} {cp cq : Array Value} {tp tq : TypeId} {w : World} (hp : w.heap[p.block]? = some (.cells cp tp (0, 0))) (hq : w.heap[q.block]? = some (.cells cq tq (0, 0))) :
    (binOp .eql 81 (Er p) (Er q)).run Tryz.prog w = .ok (.bool (decide (p = q))) w := by
  obtain ⟨i, hi, hcmp⟩ := Option.map_eq_some_iff.1 is_comp
  obtain ⟨j, hj, hjs⟩ := Option.map_eq_some_iff.1 is_size
  by_cases e : p = q
  · subst e
    rw [decide_eq_true rfl]
    exact run_eql_iface_ptr_same (P := Tryz.prog) w p Tryz.underlying81 Tryz.underlying187 hi hcmp hj
  · rw [decide_eq_false e]
    exact run_eql_iface_ptr_other (P := Tryz.prog) w Tryz.underlying81 Tryz.underlying187 hi hcmp hj (by rw [hjs]; decide) e hp hq
set_option maxRecDepth 100000 in
theorem unwrap_ca (k : TY) (e : Value) (h1 : e.oneCell' = true) (w : World) : Ca Tryz.prog 159 #[.agg #[.int .i64 k.1, .int .i64 k.2, e]] w fun v w' => v = e ∧ Keeps NoB w w' := by
  refine ca_of_body (args := [.agg #[.int .i64 k.1, .int .i64 k.2, e]]) Tryz.func159 rfl (by kernel_rfl) ?_
  have hc : (Value.agg #[.int .i64 k.1, .int .i64 k.2, e]).cells = #[.int .i64 k.1, .int .i64 k.2, e] := rfl
  (repeat first | (apply wr_assign; exact rfl; with_reducible (conv => enter [6, 3]; whnf)) | apply wr_end | apply wc_seq | apply wc_region | (apply wr_fieldAddr; iterate 2 exact rfl) | (apply wr_box; iterate 2 exact rfl) | (apply wr_load; (iterate 3 exact rfl); (focus repeat first | with_reducible assumption | exact heap_alloc_same _ _ | exact World.putObj_heap_same (by first | omega | (simp only [World.size_alloc, World.putObj_size, ne_eq]; omega)) | ((first | refine hAl ?_ ?_ | refine hPu ?_ ?_); focus first | omega | (simp only [World.size_alloc, World.putObj_size, ne_eq]; omega))); exact rfl; conv => enter [6, 3]; whnf) | (apply wc_ret; try simp only [thenE, inBlockE, bodyQ]))
  exact leave1 (v := e) rfl rfl ⟨rfl, (Keeps.refl _ _).alloc _⟩
def isArg (wrap : Bool) (k : TY) (p : Addr) : Value := if wrap then At k (Er p) else Er p
set_option maxRecDepth 100000 in
set_option maxHeartbeats 1000000 in
theorem is_ca (wrap : Bool) (k : TY) (p q : Addr) {cp cq : Array Value} {tp tq : TypeId} {w : World} (hp : w.heap[p.block]? = some (.cells cp tp (0, 0))) (hq : w.heap[q.block]? = some (.cells cq tq (0, 0))) :
    Ca Tryz.prog 65 #[isArg wrap k p, Er q, .bool true] w fun v w' => v = .bool (decide (p = q)) ∧ Keeps NoB w w' := by
  refine ca_of_body (args := [isArg wrap k p, Er q, .bool true]) Tryz.func65 rfl (by kernel_rfl) ?_
  (repeat first | (apply wr_assign; exact rfl; with_reducible (conv => enter [6, 3]; whnf)) | apply wr_end | apply wc_seq | apply wc_region | apply wc_block)
  refine wc_loopL (α := Bool) (fun x => [(0, isArg x k p), (1, Er q), (2, .bool true)]) (fun x ds w' => ds = [] ∧ Keeps NoB w w') (fun x => cond x 1 0) wrap ⟨rfl, Keeps.refl _ _⟩ ⟨rfl, rfl, rfl, trivial⟩ ?_
  rintro b ds f0 w2 ⟨rfl, hk2⟩
  have hp2 := hk2.heap hp (fun h => h)
  have hq2 := hk2.heap hq (fun h => h)
  cases b
  · by_cases e : p = q
    · have heq := run_eqEr hp2 hq2
      rw [decide_eq_true e] at heq
      dsimp only [isArg]
      (repeat first | (apply wr_move; exact rfl; with_reducible (conv => enter [6, 3]; whnf)) | apply wc_seq | apply wc_region | apply wc_block)
      refine wr_bin rfl rfl rfl (by simp [eqGuard]) heq ?_
      (repeat first | (apply wr_assign; exact rfl; with_reducible (conv => enter [6, 3]; whnf)) | apply wr_end | apply wc_seq | apply wc_region | (apply wr_pick (t := true); (iterate 2 exact rfl); with_reducible (conv => enter [6, 3]; whnf)) | (apply wc_true; exact rfl) | (apply wc_ret; try simp only [thenE, inBlockE, bodyQ]))
      exact leave1 (v := .bool true) rfl rfl ⟨by rw [decide_eq_true e], hk2⟩
    · have heq := run_eqEr hp2 hq2
      rw [decide_eq_false e] at heq
      dsimp only [isArg]
      (repeat first | (apply wr_move; exact rfl; with_reducible (conv => enter [6, 3]; whnf)) | apply wc_seq | apply wc_region | apply wc_block)
      refine wr_bin rfl rfl rfl (by simp [eqGuard]) heq ?_
      (repeat first | (apply wr_move; exact rfl; with_reducible (conv => enter [6, 3]; whnf)) | apply wr_end | apply wc_seq | apply wc_region | apply wc_skip | (apply wr_pick (t := true); (iterate 2 exact rfl); with_reducible (conv => enter [6, 3]; whnf)) | (apply wc_false; exact rfl))
      refine wr_assert rfl rfl (noIsE _ _ _) ?_
      (repeat first | (apply wr_move; exact rfl; with_reducible (conv => enter [6, 3]; whnf)) | (apply wr_assign; exact rfl; with_reducible (conv => enter [6, 3]; whnf)) | apply wr_end | apply wc_seq | apply wc_region | apply wc_skip | apply wc_block | (apply wr_pick (t := false); (iterate 2 exact rfl); with_reducible (conv => enter [6, 3]; whnf)) | (apply wr_extract; (iterate 3 exact rfl); with_reducible (conv => enter [6, 3]; whnf)) | (apply wc_false; exact rfl) | (apply wr_skip; exact rfl))
      refine wr_assert rfl rfl (noUnwrapE _ _ _) ?_
      (repeat first | apply wr_end | apply wc_seq | apply wc_region | (apply wr_extract; (iterate 3 exact rfl); with_reducible (conv => enter [6, 3]; whnf)) | (apply wc_false; exact rfl))
      refine wr_assert rfl rfl (noUnwrapsE _ _ _) ?_
      (repeat first | (apply wr_assign; exact rfl; with_reducible (conv => enter [6, 3]; whnf)) | apply wr_end | apply wc_seq | apply wc_region | (apply wr_extract; (iterate 3 exact rfl); with_reducible (conv => enter [6, 3]; whnf)) | (apply wc_false; exact rfl) | (apply wc_ret; try simp only [thenE, inBlockE, bodyQ]))
      exact leave1 (v := .bool false) rfl rfl ⟨by rw [decide_eq_false e], hk2⟩
  · dsimp only [isArg]
    (repeat first | (apply wr_move; exact rfl; with_reducible (conv => enter [6, 3]; whnf)) | apply wc_seq | apply wc_region | apply wc_block)
    refine wr_bin rfl rfl rfl (by simp [eqGuard]) (run_eqif_types inferInstance (by decide)) ?_
    (repeat first | (apply wr_move; exact rfl; with_reducible (conv => enter [6, 3]; whnf)) | apply wr_end | apply wc_seq | apply wc_region | apply wc_skip | (apply wr_pick (t := true); (iterate 2 exact rfl); with_reducible (conv => enter [6, 3]; whnf)) | (apply wc_false; exact rfl))
    refine wr_assert rfl rfl (noIsW _ _ _) ?_
    (repeat first | (apply wr_move; exact rfl; with_reducible (conv => enter [6, 3]; whnf)) | (apply wr_assign; exact rfl; with_reducible (conv => enter [6, 3]; whnf)) | apply wr_end | apply wc_seq | apply wc_region | apply wc_skip | apply wc_block | (apply wr_pick (t := false); (iterate 2 exact rfl); with_reducible (conv => enter [6, 3]; whnf)) | (apply wr_extract; (iterate 3 exact rfl); with_reducible (conv => enter [6, 3]; whnf)) | (apply wc_false; exact rfl) | (apply wr_skip; exact rfl))
    refine wr_assert rfl rfl (hasUnwrapW _ _ _) ?_
    (repeat first | (apply wr_move; exact rfl; with_reducible (conv => enter [6, 3]; whnf)) | (apply wr_assign; exact rfl; with_reducible (conv => enter [6, 3]; whnf)) | apply wr_end | apply wc_seq | apply wc_region | (apply wr_extract; (iterate 3 exact rfl); with_reducible (conv => enter [6, 3]; whnf)) | (apply wc_true; exact rfl))
    refine wr_invoke (vs := []) rfl (is_mUnwrap _ _) (unwrap_ca k (Er p) rfl w2) rfl rfl ?_
    rintro v w3 ⟨rfl, hk3⟩
    (repeat first | (apply wr_move; exact rfl; with_reducible (conv => enter [6, 3]; whnf)) | (apply wr_assign; exact rfl; with_reducible (conv => enter [6, 3]; whnf)) | apply wr_end | apply wc_seq | apply wc_region | apply wc_skip | (apply wr_eqnil_f; iterate 2 exact rfl) | (apply wc_false; exact rfl))
    exact ⟨false, Nat.zero_lt_one, ⟨rfl, hk2.trans hk3⟩, rfl, rfl, rfl, trivial⟩
set_option maxRecDepth 100000 in
set_option maxHeartbeats 1000000 in
theorem Is_ca (wrap : Bool) (k : TY) (p q : Addr) {cp cq : Array Value} {tp tq : TypeId} {w : World} (hp : w.heap[p.block]? = some (.cells cp tp (0, 0))) (hq : w.heap[q.block]? = some (.cells cq tq (0, 0))) :
    Ca Tryz.prog 42 #[isArg wrap k p, Er q] w fun v w' => v = .bool (decide (p = q)) ∧ Keeps NoB w w' := by
  obtain ⟨t, v, hv⟩ : ∃ t v, isArg wrap k p = .iface t v := by cases wrap <;> exact ⟨_, _, rfl⟩
  refine ca_of_body (args := [isArg wrap k p, Er q]) Tryz.func42 rfl (by kernel_rfl) ?_
  (repeat first | (apply wr_move; exact rfl; with_reducible (conv => enter [6, 3]; whnf)) | (apply wr_assign; exact rfl; with_reducible (conv => enter [6, 3]; whnf)) | apply wr_end | apply wc_seq | apply wc_region)
  refine wr_eqnil_f rfl hv ?_
  (repeat first | (apply wr_move; exact rfl; with_reducible (conv => enter [6, 3]; whnf)) | apply wr_end | apply wc_seq | apply wc_region | apply wc_skip | (apply wr_pick (t := false); (iterate 2 exact rfl); with_reducible (conv => enter [6, 3]; whnf)) | (apply wr_eqnil_f; iterate 2 exact rfl) | (apply wc_false; exact rfl))
  refine wr_callX (vs := [Er q]) rfl (call_typeOf _ _) rfl ?_
  refine wr_invokeX (vs := []) rfl rfl (is_mComparable _ _) (call_comparable _) rfl ?_
  (repeat first | (apply wr_move; exact rfl; with_reducible (conv => enter [6, 3]; whnf)) | (apply wr_assign; exact rfl; with_reducible (conv => enter [6, 3]; whnf)) | apply wr_end | apply wc_seq | apply wc_region)
  refine wr_call (vs := [isArg wrap k p, Er q, .bool true]) rfl (is_ca wrap k p q hp hq) rfl ?_
  rintro v w1 ⟨rfl, hk1⟩
  (repeat first | (apply wr_assign; exact rfl; with_reducible (conv => enter [6, 3]; whnf)) | apply wr_end | (apply wc_ret; try simp only [thenE, inBlockE, bodyQ]))
  exact leave1 (v := .bool (decide (p = q))) rfl rfl ⟨rfl, hk1⟩
set_option maxRecDepth 100000 in
set_option maxHeartbeats 1000000 in
theorem Is_nil (q : Addr) (w : World) : Ca Tryz.prog 42 #[.nilIface, Er q] w fun v w' => v = .bool false ∧ w' = w := by
  refine ca_of_body (args := [.nilIface, Er q]) Tryz.func42 rfl (by kernel_rfl) ?_
  (repeat first | (apply wr_move; exact rfl; with_reducible (conv => enter [6, 3]; whnf)) | (apply wr_assign; exact rfl; with_reducible (conv => enter [6, 3]; whnf)) | apply wr_end | apply wc_seq | apply wc_region | (apply wr_pick (t := true); (iterate 2 exact rfl); with_reducible (conv => enter [6, 3]; whnf)) | (apply wr_eqnil_t; iterate 2 exact rfl) | (apply wc_true; exact rfl) | (apply wr_skip; exact rfl))
  refine wr_bin rfl rfl rfl (by simp [eqGuard]) (run_eql_iface_nil_left _ _ _ Tryz.underlying81) ?_
  (repeat first | (apply wr_assign; exact rfl; with_reducible (conv => enter [6, 3]; whnf)) | apply wr_end | (apply wc_ret; try simp only [thenE, inBlockE, bodyQ]))
  exact leave1 (v := .bool false) rfl rfl ⟨rfl, rfl⟩
/-- The sentinels. -/
structure GloM (w : World) (p q : Addr) : Prop where
  many : ∃ t r, w.heap[1]? = some (.cells #[Er p] t r)
  who : ∃ t r, w.heap[0]? = some (.cells #[Er q] t r)
  bp : ∃ c t, w.heap[p.block]? = some (.cells c t (0, 0))
  bq : ∃ c t, w.heap[q.block]? = some (.cells c t (0, 0))
  ne : p ≠ q
theorem GloM.keep {w w' : World} {p q : Addr} (h : GloM w p q) (k : Keeps NoB w w') : GloM w' p q := by
  obtain ⟨⟨t0, r0, h0⟩, ⟨t1, r1, h1⟩, ⟨c2, t2, h2⟩, ⟨c3, t3, h3⟩, h4⟩ := h
  exact ⟨⟨t0, r0, k.heap h0 (fun h => h)⟩, ⟨t1, r1, k.heap h1 (fun h => h)⟩, ⟨c2, t2, k.heap h2 (fun h => h)⟩, ⟨c3, t3, k.heap h3 (fun h => h)⟩, h4⟩
/-- Writing maps leaves them. -/
theorem GloM.keepD {D : Nat → Prop} {w w' : World} {p q : Addr} (h : GloM w p q) (k : Keeps D w w') (hD : ∀ b, D b → ∀ c t r, w.heap[b]? ≠ some (.cells c t r)) : GloM w' p q := by
  obtain ⟨⟨t0, r0, h0⟩, ⟨t1, r1, h1⟩, ⟨c2, t2, h2⟩, ⟨c3, t3, h3⟩, h4⟩ := h
  exact ⟨⟨t0, r0, k.heap h0 (fun e => hD _ e _ _ _ h0)⟩, ⟨t1, r1, k.heap h1 (fun e => hD _ e _ _ _ h1)⟩, ⟨c2, t2, k.heap h2 (fun e => hD _ e _ _ _ h2)⟩, ⟨c3, t3, k.heap h3 (fun e => hD _ e _ _ _ h3)⟩, h4⟩
theorem mD_nc {w : World} {n0 ab wb : Nat} {cb : List Nat} {Wn : WF} (h : MgAt w n0 ab wb cb Wn) : ∀ b, mD wb cb b → ∀ c t r, w.heap[b]? ≠ some (.cells c t r) := by
  rintro b hb c t r e
  obtain ⟨M, hM, _⟩ := h.want
  rcases hb with rfl | hb
  · exact map_ne hM e rfl
  · obtain ⟨i, hi⟩ := List.getElem?_of_mem hb
    exact mapb_ne (h.cnt i b hi) e rfl
set_option maxRecDepth 100000 in
set_option maxHeartbeats 2000000 in
theorem right_ca (t : TY) {w : World} {p q : Addr} (hg : GloM w p q) : Ca Tryz.prog 63 #[encT t] w fun v w' => v = (if inDom t then .nilIface else At t (Er q)) ∧ Keeps NoB w w' := by
  obtain ⟨a, b⟩ := t
  refine ca_of_body (args := [encT (a, b)]) Tryz.func63 rfl (by kernel_rfl) ?_
  apply wc_seq
  apply wc_region
  refine wr_box (v := encT (a, b)) rfl rfl ?_
  refine wr_name ?_
  intro w1 hww1
  obtain ⟨bw1, hbw1⟩ : ∃ b, b = (w).heap.size := ⟨_, rfl⟩
  have hkw1 : Keeps NoB w w1 := by rw [hww1]; exact (Keeps.refl NoB w).alloc _
  have hcw1 : (w1).heap[bw1]? = some (.cells ([.int .i64 a, .int .i64 b]).toArray 78 (0, 0)) := by rw [hww1, hbw1]; exact heap_alloc_same _ _
  rw [← hbw1]
  clear hww1
  obtain ⟨t1, r1, hw⟩ := (hg.keep hkw1).who
  by_cases h1 : 1 ≤ a
  · by_cases h2 : a ≤ 32
    · by_cases h3 : 1 ≤ b
      · by_cases h4 : b ≤ 5
        · rw [if_pos (show inDom (a, b) from ⟨h1, h2, h3, h4⟩)]
          (repeat first | (apply wr_move; exact rfl; with_reducible (conv => enter [6, 3]; whnf)) | (apply wr_assign; exact rfl; with_reducible (conv => enter [6, 3]; whnf)) | apply wr_end | apply wc_seq | apply wc_region | apply wc_skip | (apply wr_fieldAddr; iterate 2 exact rfl) | (apply wr_load; (iterate 3 exact rfl); (focus repeat first | with_reducible assumption | exact heap_alloc_same _ _ | exact World.putObj_heap_same (by first | omega | (simp only [World.size_alloc, World.putObj_size, ne_eq]; omega)) | ((first | refine hAl ?_ ?_ | refine hPu ?_ ?_); focus first | omega | (simp only [World.size_alloc, World.putObj_size, ne_eq]; omega))); exact rfl; conv => enter [6, 3]; whnf) | (apply wr_cmp; (iterate 3 exact rfl); exact cmpF (by dsimp only [cmpN]; first | done | omega)) | (apply wr_pick (t := false); (iterate 2 exact rfl); with_reducible (conv => enter [6, 3]; whnf)) | (apply wc_false; exact rfl) | (apply wc_ret; try simp only [thenE, inBlockE, bodyQ]))
          exact leave1 (v := .nilIface) rfl rfl ⟨rfl, hkw1⟩
        · rw [if_neg (show ¬ inDom (a, b) from fun h => h4 h.2.2.2)]
          (repeat first | (apply wr_move; exact rfl; with_reducible (conv => enter [6, 3]; whnf)) | (apply wr_assign; exact rfl; with_reducible (conv => enter [6, 3]; whnf)) | apply wr_end | apply wc_seq | apply wc_region | (apply wr_fieldAddr; iterate 2 exact rfl) | (apply wr_load; (iterate 3 exact rfl); (focus repeat first | with_reducible assumption | exact heap_alloc_same _ _ | exact World.putObj_heap_same (by first | omega | (simp only [World.size_alloc, World.putObj_size, ne_eq]; omega)) | ((first | refine hAl ?_ ?_ | refine hPu ?_ ?_); focus first | omega | (simp only [World.size_alloc, World.putObj_size, ne_eq]; omega))); exact rfl; conv => enter [6, 3]; whnf) | (apply wr_cmp; (iterate 3 exact rfl); exact cmpT (by dsimp only [cmpP]; first | done | omega)) | (apply wr_cmp; (iterate 3 exact rfl); exact cmpF (by dsimp only [cmpN]; first | done | omega)) | (apply wr_pick (t := false); (iterate 2 exact rfl); with_reducible (conv => enter [6, 3]; whnf)) | (apply wc_true; exact rfl))
          refine wr_loadAll (cs := [.int .i64 a, .int .i64 b]) rfl rfl rfl hcw1 rfl ?_
          (repeat first | (apply wr_load; (iterate 3 exact rfl); (focus repeat first | with_reducible assumption | exact heap_alloc_same _ _ | exact World.putObj_heap_same (by first | omega | (simp only [World.size_alloc, World.putObj_size, ne_eq]; omega)) | ((first | refine hAl ?_ ?_ | refine hPu ?_ ?_); focus first | omega | (simp only [World.size_alloc, World.putObj_size, ne_eq]; omega))); exact rfl; conv => enter [6, 3]; whnf))
          refine wr_build (ps := [(0, .agg #[.int .i64 a, .int .i64 b]), (1, Er q)]) (cs := [.int .i64 a, .int .i64 b, Er q]) rfl rfl rfl rfl ?_
          refine wr_makeIface (v := .agg #[.int .i64 a, .int .i64 b, Er q]) rfl rfl rfl ?_
          (repeat first | (apply wr_assign; exact rfl; with_reducible (conv => enter [6, 3]; whnf)) | apply wr_end | (apply wc_ret; try simp only [thenE, inBlockE, bodyQ]))
          exact leave1 (v := At (a, b) (Er q)) rfl rfl ⟨rfl, hkw1⟩
      · rw [if_neg (show ¬ inDom (a, b) from fun h => h3 h.2.2.1)]
        (repeat first | (apply wr_move; exact rfl; with_reducible (conv => enter [6, 3]; whnf)) | (apply wr_assign; exact rfl; with_reducible (conv => enter [6, 3]; whnf)) | apply wr_end | apply wc_seq | apply wc_region | (apply wr_fieldAddr; iterate 2 exact rfl) | (apply wr_load; (iterate 3 exact rfl); (focus repeat first | with_reducible assumption | exact heap_alloc_same _ _ | exact World.putObj_heap_same (by first | omega | (simp only [World.size_alloc, World.putObj_size, ne_eq]; omega)) | ((first | refine hAl ?_ ?_ | refine hPu ?_ ?_); focus first | omega | (simp only [World.size_alloc, World.putObj_size, ne_eq]; omega))); exact rfl; conv => enter [6, 3]; whnf) | (apply wr_cmp; (iterate 3 exact rfl); exact cmpT (by dsimp only [cmpP]; first | done | omega)) | (apply wr_cmp; (iterate 3 exact rfl); exact cmpF (by dsimp only [cmpN]; first | done | omega)) | (apply wr_pick (t := true); (iterate 2 exact rfl); with_reducible (conv => enter [6, 3]; whnf)) | (apply wr_pick (t := false); (iterate 2 exact rfl); with_reducible (conv => enter [6, 3]; whnf)) | (apply wc_true; exact rfl) | (apply wr_skip; exact rfl))
        refine wr_loadAll (cs := [.int .i64 a, .int .i64 b]) rfl rfl rfl hcw1 rfl ?_
        (repeat first | (apply wr_load; (iterate 3 exact rfl); (focus repeat first | with_reducible assumption | exact heap_alloc_same _ _ | exact World.putObj_heap_same (by first | omega | (simp only [World.size_alloc, World.putObj_size, ne_eq]; omega)) | ((first | refine hAl ?_ ?_ | refine hPu ?_ ?_); focus first | omega | (simp only [World.size_alloc, World.putObj_size, ne_eq]; omega))); exact rfl; conv => enter [6, 3]; whnf))
        refine wr_build (ps := [(0, .agg #[.int .i64 a, .int .i64 b]), (1, Er q)]) (cs := [.int .i64 a, .int .i64 b, Er q]) rfl rfl rfl rfl ?_
        refine wr_makeIface (v := .agg #[.int .i64 a, .int .i64 b, Er q]) rfl rfl rfl ?_
        (repeat first | (apply wr_assign; exact rfl; with_reducible (conv => enter [6, 3]; whnf)) | apply wr_end | (apply wc_ret; try simp only [thenE, inBlockE, bodyQ]))
        exact leave1 (v := At (a, b) (Er q)) rfl rfl ⟨rfl, hkw1⟩
    · rw [if_neg (show ¬ inDom (a, b) from fun h => h2 h.2.1)]
      (repeat first | (apply wr_move; exact rfl; with_reducible (conv => enter [6, 3]; whnf)) | (apply wr_assign; exact rfl; with_reducible (conv => enter [6, 3]; whnf)) | apply wr_end | apply wc_seq | apply wc_region | (apply wr_fieldAddr; iterate 2 exact rfl) | (apply wr_load; (iterate 3 exact rfl); (focus repeat first | with_reducible assumption | exact heap_alloc_same _ _ | exact World.putObj_heap_same (by first | omega | (simp only [World.size_alloc, World.putObj_size, ne_eq]; omega)) | ((first | refine hAl ?_ ?_ | refine hPu ?_ ?_); focus first | omega | (simp only [World.size_alloc, World.putObj_size, ne_eq]; omega))); exact rfl; conv => enter [6, 3]; whnf) | (apply wr_cmp; (iterate 3 exact rfl); exact cmpT (by dsimp only [cmpP]; first | done | omega)) | (apply wr_cmp; (iterate 3 exact rfl); exact cmpF (by dsimp only [cmpN]; first | done | omega)) | (apply wr_pick (t := true); (iterate 2 exact rfl); with_reducible (conv => enter [6, 3]; whnf)) | (apply wr_pick (t := false); (iterate 2 exact rfl); with_reducible (conv => enter [6, 3]; whnf)) | (apply wc_true; exact rfl) | (apply wr_skip; exact rfl))
      refine wr_loadAll (cs := [.int .i64 a, .int .i64 b]) rfl rfl rfl hcw1 rfl ?_
      (repeat first | (apply wr_load; (iterate 3 exact rfl); (focus repeat first | with_reducible assumption | exact heap_alloc_same _ _ | exact World.putObj_heap_same (by first | omega | (simp only [World.size_alloc, World.putObj_size, ne_eq]; omega)) | ((first | refine hAl ?_ ?_ | refine hPu ?_ ?_); focus first | omega | (simp only [World.size_alloc, World.putObj_size, ne_eq]; omega))); exact rfl; conv => enter [6, 3]; whnf))
      refine wr_build (ps := [(0, .agg #[.int .i64 a, .int .i64 b]), (1, Er q)]) (cs := [.int .i64 a, .int .i64 b, Er q]) rfl rfl rfl rfl ?_
      refine wr_makeIface (v := .agg #[.int .i64 a, .int .i64 b, Er q]) rfl rfl rfl ?_
      (repeat first | (apply wr_assign; exact rfl; with_reducible (conv => enter [6, 3]; whnf)) | apply wr_end | (apply wc_ret; try simp only [thenE, inBlockE, bodyQ]))
      exact leave1 (v := At (a, b) (Er q)) rfl rfl ⟨rfl, hkw1⟩
  · rw [if_neg (show ¬ inDom (a, b) from fun h => h1 h.1)]
    (repeat first | (apply wr_move; exact rfl; with_reducible (conv => enter [6, 3]; whnf)) | (apply wr_assign; exact rfl; with_reducible (conv => enter [6, 3]; whnf)) | apply wr_end | apply wc_seq | apply wc_region | (apply wr_fieldAddr; iterate 2 exact rfl) | (apply wr_load; (iterate 3 exact rfl); (focus repeat first | with_reducible assumption | exact heap_alloc_same _ _ | exact World.putObj_heap_same (by first | omega | (simp only [World.size_alloc, World.putObj_size, ne_eq]; omega)) | ((first | refine hAl ?_ ?_ | refine hPu ?_ ?_); focus first | omega | (simp only [World.size_alloc, World.putObj_size, ne_eq]; omega))); exact rfl; conv => enter [6, 3]; whnf) | (apply wr_cmp; (iterate 3 exact rfl); exact cmpT (by dsimp only [cmpP]; first | done | omega)) | (apply wr_pick (t := true); (iterate 2 exact rfl); with_reducible (conv => enter [6, 3]; whnf)) | (apply wc_true; exact rfl) | (apply wr_skip; exact rfl))
    refine wr_loadAll (cs := [.int .i64 a, .int .i64 b]) rfl rfl rfl hcw1 rfl ?_
    (repeat first | (apply wr_load; (iterate 3 exact rfl); (focus repeat first | with_reducible assumption | exact heap_alloc_same _ _ | exact World.putObj_heap_same (by first | omega | (simp only [World.size_alloc, World.putObj_size, ne_eq]; omega)) | ((first | refine hAl ?_ ?_ | refine hPu ?_ ?_); focus first | omega | (simp only [World.size_alloc, World.putObj_size, ne_eq]; omega))); exact rfl; conv => enter [6, 3]; whnf))
    refine wr_build (ps := [(0, .agg #[.int .i64 a, .int .i64 b]), (1, Er q)]) (cs := [.int .i64 a, .int .i64 b, Er q]) rfl rfl rfl rfl ?_
    refine wr_makeIface (v := .agg #[.int .i64 a, .int .i64 b, Er q]) rfl rfl rfl ?_
    (repeat first | (apply wr_assign; exact rfl; with_reducible (conv => enter [6, 3]; whnf)) | apply wr_end | (apply wc_ret; try simp only [thenE, inBlockE, bodyQ]))
    exact leave1 (v := At (a, b) (Er q)) rfl rfl ⟨rfl, hkw1⟩
end Go.Proofs.YtajajahofkialaaGreatDoor
