/- errors.Is, at nil, at a sentinel, at wire's at around one. -/
import Derived.Test.YthlbgeonobicbaaDoorM7
import Derived.Test.YthlbgeonobicbaaDoorShelf
import Derived.Test.YthlbgeonobicbaaDoorM4
namespace Go.Proofs.YthlbgeonobicbaaDoor
open Go Go.V Go.RowKit Go.Extern Go.Extern.Rtype
set_option linter.unusedVariables false
set_option linter.unusedSimpArgs false

abbrev Er (p : Addr) : Value := .iface 171 (.pointer (some p))
abbrev At (k : Int) (e : Value) : Value := .iface 150 (.agg #[.int .i64 k, e])
theorem is_typeOf (v : Value) (w : World) : (Extern.ReflectliteType.typeOf #[.iface 171 v]).run Tryd.prog w = .ok (.iface 161 (.agg #[.pointer (some ⟨3, 171, none⟩)])) w := by kernel_rfl
theorem is_comparable (w : World) : ((Extern.ReflectliteType.method fun t => do noPackHeld "Comparable" t; pure (Value.bool (← typeInfo t).comparable)) #[.agg #[.pointer (some ⟨3, 171, none⟩)]]).run Tryd.prog w = .ok (.bool true) w := by kernel_rfl
theorem is_mComparable (v : Value) (w : World) : (Go.method (Tryd.prog.types.size + Made.depth) 161 v "Comparable").run Tryd.prog w = .ok (118, v) w := by kernel_rfl
theorem is_mUnwrap (v : Value) (w : World) : (Go.method (Tryd.prog.types.size + Made.depth) 150 v "Unwrap").run Tryd.prog w = .ok (114, v) w := by kernel_rfl
theorem is_comp : (Tryd.prog.info? 171).map (·.comparable) = some true := by kernel_rfl
theorem is_size : (Tryd.prog.info? 194).map (·.size) = some 1 := by kernel_rfl
theorem noIsE (v : Value) (xT : TypeId) (w : World) : (Instr.typeAssert (.iface 171 v) xT 163 true).run Tryd.prog w = .ok (.tuple #[.nilIface, .bool false]) w := run_typeAssert_lacksB Tryd.underlying163 (by kernel_rfl) (by kernel_rfl) v xT w
theorem noUnwrapE (v : Value) (xT : TypeId) (w : World) : (Instr.typeAssert (.iface 171 v) xT 166 true).run Tryd.prog w = .ok (.tuple #[.nilIface, .bool false]) w := run_typeAssert_lacksB Tryd.underlying166 (by kernel_rfl) (by kernel_rfl) v xT w
theorem noUnwrapsE (v : Value) (xT : TypeId) (w : World) : (Instr.typeAssert (.iface 171 v) xT 168 true).run Tryd.prog w = .ok (.tuple #[.nilIface, .bool false]) w := run_typeAssert_lacksB Tryd.underlying168 (by kernel_rfl) (by kernel_rfl) v xT w
theorem noIsW (v : Value) (xT : TypeId) (w : World) : (Instr.typeAssert (.iface 150 v) xT 163 true).run Tryd.prog w = .ok (.tuple #[.nilIface, .bool false]) w := run_typeAssert_lacksB Tryd.underlying163 (by kernel_rfl) (by kernel_rfl) v xT w
theorem hasUnwrapW (v : Value) (xT : TypeId) (w : World) : (Instr.typeAssert (.iface 150 v) xT 166 true).run Tryd.prog w = .ok (.tuple #[.iface 150 v, .bool true]) w := run_typeAssert_hasB Tryd.underlying166 (by kernel_rfl) v xT w
theorem call_typeOf (v : Value) (w : World) : (callFunc 90 #[.iface 171 v]).run Tryd.prog w = .ok (.value (.iface 161 (.agg #[.pointer (some ⟨3, 171, none⟩)]))) w := by
  rw [@run_callFunc_extern Tryd.prog 90 _ Extern.ReflectliteType.typeOf Tryd.func90 (by kernel_rfl) (by kernel_rfl) (by kernel_rfl) (by kernel_rfl), is_typeOf]; rfl
theorem call_comparable (w : World) : (callFunc 118 #[.agg #[.pointer (some ⟨3, 171, none⟩)]]).run Tryd.prog w = .ok (.value (.bool true)) w := by
  rw [@run_callFunc_extern Tryd.prog 118 _ (Extern.ReflectliteType.method fun t => do noPackHeld "Comparable" t; pure (Value.bool (← typeInfo t).comparable)) Tryd.func118 (by kernel_rfl) (by kernel_rfl) (by kernel_rfl) (by kernel_rfl), is_comparable]; rfl
theorem run_eqEr {p q : Addr} {cp cq : Array Value} {tp tq : TypeId} {w : World} (hp : w.heap[p.block]? = some (.cells cp tp (0, 0))) (hq : w.heap[q.block]? = some (.cells cq tq (0, 0))) :
    (binOp .eql 126 (Er p) (Er q)).run Tryd.prog w = .ok (.bool (decide (p = q))) w := by
  obtain ⟨i, hi, hcmp⟩ := Option.map_eq_some_iff.1 is_comp
  obtain ⟨j, hj, hjs⟩ := Option.map_eq_some_iff.1 is_size
  by_cases e : p = q
  · subst e
    rw [decide_eq_true rfl]
    exact run_eql_iface_ptr_same (P := Tryd.prog) w p Tryd.underlying126 Tryd.underlying171 hi hcmp hj
  · rw [decide_eq_false e]
    exact run_eql_iface_ptr_other (P := Tryd.prog) w Tryd.underlying126 Tryd.underlying171 hi hcmp hj (by rw [hjs]; decide) e hp hq
set_option maxRecDepth 100000 in
theorem unwrap_ca (k : Int) (e : Value) (h1 : e.oneCell' = true) (w : World) : Ca Tryd.prog 114 #[.agg #[.int .i64 k, e]] w fun v w' => v = e ∧ Keeps NoB w w' := by
  refine ca_of_body (args := [.agg #[.int .i64 k, e]]) Tryd.func114 rfl (by kernel_rfl) ?_
  have hc : (Value.agg #[.int .i64 k, e]).cells = #[.int .i64 k, e] := rfl
  (repeat first | (apply wr_assign; exact rfl; with_reducible (conv => enter [6, 3]; whnf)) | apply wr_end | apply wc_seq | apply wc_region | (apply wr_fieldAddr; iterate 2 exact rfl) | (apply wr_box; iterate 2 exact rfl) | (apply wr_load; (iterate 3 exact rfl); (focus repeat first | with_reducible assumption | exact heap_alloc_same _ _ | exact World.putObj_heap_same (by first | omega | (simp only [World.size_alloc, World.putObj_size, ne_eq]; omega)) | ((first | refine hAl ?_ ?_ | refine hPu ?_ ?_); focus first | omega | (simp only [World.size_alloc, World.putObj_size, ne_eq]; omega))); exact rfl; conv => enter [6, 3]; whnf) | (apply wc_ret; try simp only [thenE, inBlockE, bodyQ]))
  exact leave1 (v := e) rfl rfl ⟨rfl, (Keeps.refl _ _).alloc _⟩
def isArg (wrap : Bool) (k : Int) (p : Addr) : Value := if wrap then At k (Er p) else Er p
set_option maxRecDepth 100000 in
set_option maxHeartbeats 1000000 in
theorem is_ca (wrap : Bool) (k : Int) (p q : Addr) {cp cq : Array Value} {tp tq : TypeId} {w : World} (hp : w.heap[p.block]? = some (.cells cp tp (0, 0))) (hq : w.heap[q.block]? = some (.cells cq tq (0, 0))) :
    Ca Tryd.prog 91 #[isArg wrap k p, Er q, .bool true] w fun v w' => v = .bool (decide (p = q)) ∧ Keeps NoB w w' := by
  refine ca_of_body (args := [isArg wrap k p, Er q, .bool true]) Tryd.func91 rfl (by kernel_rfl) ?_
  (repeat first | (apply wr_assign; exact rfl; with_reducible (conv => enter [6, 3]; whnf)) | apply wr_end | apply wc_seq | apply wc_region | apply wc_block)
  refine wc_loopL (α := Bool) (fun x => [(0, isArg x k p), (1, Er q), (2, .bool true)]) (fun x ds w' => ds = [] ∧ Keeps NoB w w') (fun x => cond x 1 0) wrap ⟨rfl, Keeps.refl _ _⟩ ⟨rfl, rfl, rfl, trivial⟩ ?_
  rintro b ds f0 w2 ⟨rfl, hk2⟩
  have hp2 := hk2.heap hp (fun h => h)
  have hq2 := hk2.heap hq (fun h => h)
  cases b
  · by_cases e : p = q
    · have heq := run_eqEr hp2 hq2
      rw [decide_eq_true e] at heq
      dsimp only [isArg]
      (repeat first | (apply wr_move; exact rfl; with_reducible (conv => enter [6, 3]; whnf)) | apply wc_seq | apply wc_region | apply wc_block)
      refine wr_bin rfl rfl rfl (by simp [eqGuard]) heq ?_
      (repeat first | (apply wr_assign; exact rfl; with_reducible (conv => enter [6, 3]; whnf)) | apply wr_end | apply wc_seq | apply wc_region | (apply wr_pick (t := true); (iterate 2 exact rfl); with_reducible (conv => enter [6, 3]; whnf)) | (apply wc_true; exact rfl) | (apply wc_ret; try simp only [thenE, inBlockE, bodyQ]))
      exact leave1 (v := .bool true) rfl rfl ⟨by rw [decide_eq_true e], hk2⟩
    · have heq := run_eqEr hp2 hq2
      rw [decide_eq_false e] at heq
      dsimp only [isArg]
      (repeat first | (apply wr_move; exact rfl; with_reducible (conv => enter [6, 3]; whnf)) | apply wc_seq | apply wc_region | apply wc_block)
      refine wr_bin rfl rfl rfl (by simp [eqGuard]) heq ?_
      (repeat first | (apply wr_move; exact rfl; with_reducible (conv => enter [6, 3]; whnf)) | apply wr_end | apply wc_seq | apply wc_region | apply wc_skip | (apply wr_pick (t := true); (iterate 2 exact rfl); with_reducible (conv => enter [6, 3]; whnf)) | (apply wc_false; exact rfl))
      refine wr_assert rfl rfl (noIsE _ _ _) ?_
      (repeat first | (apply wr_move; exact rfl; with_reducible (conv => enter [6, 3]; whnf)) | (apply wr_assign; exact rfl; with_reducible (conv => enter [6, 3]; whnf)) | apply wr_end | apply wc_seq | apply wc_region | apply wc_skip | apply wc_block | (apply wr_pick (t := false); (iterate 2 exact rfl); with_reducible (conv => enter [6, 3]; whnf)) | (apply wr_extract; (iterate 3 exact rfl); with_reducible (conv => enter [6, 3]; whnf)) | (apply wc_false; exact rfl) | (apply wr_skip; exact rfl))
      refine wr_assert rfl rfl (noUnwrapE _ _ _) ?_
      (repeat first | apply wr_end | apply wc_seq | apply wc_region | (apply wr_extract; (iterate 3 exact rfl); with_reducible (conv => enter [6, 3]; whnf)) | (apply wc_false; exact rfl))
      refine wr_assert rfl rfl (noUnwrapsE _ _ _) ?_
      (repeat first | (apply wr_assign; exact rfl; with_reducible (conv => enter [6, 3]; whnf)) | apply wr_end | apply wc_seq | apply wc_region | (apply wr_extract; (iterate 3 exact rfl); with_reducible (conv => enter [6, 3]; whnf)) | (apply wc_false; exact rfl) | (apply wc_ret; try simp only [thenE, inBlockE, bodyQ]))
      exact leave1 (v := .bool false) rfl rfl ⟨by rw [decide_eq_false e], hk2⟩
  · dsimp only [isArg]
    (repeat first | (apply wr_move; exact rfl; with_reducible (conv => enter [6, 3]; whnf)) | apply wc_seq | apply wc_region | apply wc_block)
    refine wr_bin rfl rfl rfl (by simp [eqGuard]) (run_eqif_types inferInstance (by decide)) ?_
    (repeat first | (apply wr_move; exact rfl; with_reducible (conv => enter [6, 3]; whnf)) | apply wr_end | apply wc_seq | apply wc_region | apply wc_skip | (apply wr_pick (t := true); (iterate 2 exact rfl); with_reducible (conv => enter [6, 3]; whnf)) | (apply wc_false; exact rfl))
    refine wr_assert rfl rfl (noIsW _ _ _) ?_
    (repeat first | (apply wr_move; exact rfl; with_reducible (conv => enter [6, 3]; whnf)) | (apply wr_assign; exact rfl; with_reducible (conv => enter [6, 3]; whnf)) | apply wr_end | apply wc_seq | apply wc_region | apply wc_skip | apply wc_block | (apply wr_pick (t := false); (iterate 2 exact rfl); with_reducible (conv => enter [6, 3]; whnf)) | (apply wr_extract; (iterate 3 exact rfl); with_reducible (conv => enter [6, 3]; whnf)) | (apply wc_false; exact rfl) | (apply wr_skip; exact rfl))
    refine wr_assert rfl rfl (hasUnwrapW _ _ _) ?_
    (repeat first | (apply wr_move; exact rfl; with_reducible (conv => enter [6, 3]; whnf)) | (apply wr_assign; exact rfl; with_reducible (conv => enter [6, 3]; whnf)) | apply wr_end | apply wc_seq | apply wc_region | (apply wr_extract; (iterate 3 exact rfl); with_reducible (conv => enter [6, 3]; whnf)) | (apply wc_true; exact rfl))
    refine wr_invoke (vs := []) rfl (is_mUnwrap _ _) (unwrap_ca k (Er p) rfl w2) rfl rfl ?_
    rintro v w3 ⟨rfl, hk3⟩
    (repeat first | (apply wr_move; exact rfl; with_reducible (conv => enter [6, 3]; whnf)) | (apply wr_assign; exact rfl; with_reducible (conv => enter [6, 3]; whnf)) | apply wr_end | apply wc_seq | apply wc_region | apply wc_skip | (apply wr_eqnil_f; iterate 2 exact rfl) | (apply wc_false; exact rfl))
    exact ⟨false, Nat.zero_lt_one, ⟨rfl, hk2.trans hk3⟩, rfl, rfl, rfl, trivial⟩
set_option maxRecDepth 100000 in
set_option maxHeartbeats 1000000 in
theorem Is_ca (wrap : Bool) (k : Int) (p q : Addr) {cp cq : Array Value} {tp tq : TypeId} {w : World} (hp : w.heap[p.block]? = some (.cells cp tp (0, 0))) (hq : w.heap[q.block]? = some (.cells cq tq (0, 0))) :
    Ca Tryd.prog 81 #[isArg wrap k p, Er q] w fun v w' => v = .bool (decide (p = q)) ∧ Keeps NoB w w' := by
  obtain ⟨t, v, hv⟩ : ∃ t v, isArg wrap k p = .iface t v := by cases wrap <;> exact ⟨_, _, rfl⟩
  refine ca_of_body (args := [isArg wrap k p, Er q]) Tryd.func81 rfl (by kernel_rfl) ?_
  (repeat first | (apply wr_move; exact rfl; with_reducible (conv => enter [6, 3]; whnf)) | (apply wr_assign; exact rfl; with_reducible (conv => enter [6, 3]; whnf)) | apply wr_end | apply wc_seq | apply wc_region)
  refine wr_eqnil_f rfl hv ?_
  (repeat first | (apply wr_move; exact rfl; with_reducible (conv => enter [6, 3]; whnf)) | apply wr_end | apply wc_seq | apply wc_region | apply wc_skip | (apply wr_pick (t := false); (iterate 2 exact rfl); with_reducible (conv => enter [6, 3]; whnf)) | (apply wr_eqnil_f; iterate 2 exact rfl) | (apply wc_false; exact rfl))
  refine wr_callX (vs := [Er q]) rfl (call_typeOf _ _) rfl ?_
  refine wr_invokeX (vs := []) rfl rfl (is_mComparable _ _) (call_comparable _) rfl ?_
  (repeat first | (apply wr_move; exact rfl; with_reducible (conv => enter [6, 3]; whnf)) | (apply wr_assign; exact rfl; with_reducible (conv => enter [6, 3]; whnf)) | apply wr_end | apply wc_seq | apply wc_region)
  refine wr_call (vs := [isArg wrap k p, Er q, .bool true]) rfl (is_ca wrap k p q hp hq) rfl ?_
  rintro v w1 ⟨rfl, hk1⟩
  (repeat first | (apply wr_assign; exact rfl; with_reducible (conv => enter [6, 3]; whnf)) | apply wr_end | (apply wc_ret; try simp only [thenE, inBlockE, bodyQ]))
  exact leave1 (v := .bool (decide (p = q))) rfl rfl ⟨rfl, hk1⟩
set_option maxRecDepth 100000 in
set_option maxHeartbeats 1000000 in
theorem Is_nil (q : Addr) (w : World) : Ca Tryd.prog 81 #[.nilIface, Er q] w fun v w' => v = .bool false ∧ w' = w := by
  refine ca_of_body (args := [.nilIface, Er q]) Tryd.func81 rfl (by kernel_rfl) ?_
  (repeat first | (apply wr_move; exact rfl; with_reducible (conv => enter [6, 3]; whnf)) | (apply wr_assign; exact rfl; with_reducible (conv => enter [6, 3]; whnf)) | apply wr_end | apply wc_seq | apply wc_region | (apply wr_pick (t := true); (iterate 2 exact rfl); with_reducible (conv => enter [6, 3]; whnf)) | (apply wr_eqnil_t; iterate 2 exact rfl) | (apply wc_true; exact rfl) | (apply wr_skip; exact rfl))
  refine wr_bin rfl rfl rfl (by simp [eqGuard]) (run_eql_iface_nil_left _ _ _ Tryd.underlying126) ?_
  (repeat first | (apply wr_assign; exact rfl; with_reducible (conv => enter [6, 3]; whnf)) | apply wr_end | (apply wc_ret; try simp only [thenE, inBlockE, bodyQ]))
  exact leave1 (v := .bool false) rfl rfl ⟨rfl, rfl⟩
end Go.Proofs.YthlbgeonobicbaaDoor

namespace Go.Proofs.YthlbgeonobicbaaDoor
open Go Go.V Go.RowKit
set_option linter.unusedVariables false
set_option linter.unusedSimpArgs false

set_option maxRecDepth 100000 in
theorem clone_ca (s : List UInt8) (hs : s.length ≤ 281474976710656) (w : World) : Ca Tryd.prog 82 #[S s] w fun v w' => v = S s ∧ Keeps NoB w w' := by
  refine ca_of_body (args := [S s]) Tryd.func82 rfl (by kernel_rfl) ?_
  (repeat first | (apply wr_move; exact rfl; with_reducible (conv => enter [6, 3]; whnf)) | (apply wr_assign; exact rfl; with_reducible (conv => enter [6, 3]; whnf)) | apply wr_end | apply wc_seq | apply wc_region)
  refine wr_call (vs := [S s]) rfl (Ca.of_calls (R' := fun v w' => v = S s ∧ Keeps NoB w w') (Tryd.stringslite_Clone ⟨s.toArray⟩ w (by rw [S_size]; exact hs)) (fun e w' ⟨h1, h2⟩ => ⟨_, h1, rfl, Keeps.of_below h2⟩)) rfl ?_
  rintro v w1 ⟨rfl, hk⟩
  (repeat first | (apply wr_assign; exact rfl; with_reducible (conv => enter [6, 3]; whnf)) | apply wr_end | (apply wc_ret; try simp only [thenE, inBlockE, bodyQ]))
  exact leave1 (v := S s) rfl rfl ⟨rfl, hk⟩

inductive TR
  | ok (f : WF) (rest : List UInt8)
  | short
  | wrong
/-- A field off the front. -/
def takeF (s : List UInt8) : TR := match readVarint s with
  | none => .short
  | some (tag, n) => if 4294967296 ≤ tag ∨ tag < 8 then .wrong else
    if tag % 8 = 0 then (match readVarint (s.drop n) with
      | none => .short
      | some (v, m) => .ok ⟨(tag / 8 : Nat), 0, v, []⟩ ((s.drop n).drop m)) else
    if tag % 8 = 2 then (match readVarint (s.drop n) with
      | none => .short
      | some (v, m) => if ((s.drop n).drop m).length < v then .short else .ok ⟨(tag / 8 : Nat), 2, 0, ((s.drop n).drop m).take v⟩ (((s.drop n).drop m).drop v)) else
    if tag % 8 = 1 then (if (s.drop n).length < 8 then .short else .ok ⟨(tag / 8 : Nat), 1, 0, (s.drop n).take 8⟩ ((s.drop n).drop 8)) else
    if tag % 8 = 5 then (if (s.drop n).length < 4 then .short else .ok ⟨(tag / 8 : Nat), 5, 0, (s.drop n).take 4⟩ ((s.drop n).drop 4)) else .wrong
theorem rv_bounds : ∀ (l : List UInt8) (k acc n m : Nat), acc < 128 ^ k → rv k acc l = some (n, m) → n < 18446744073709551616 ∧ k + 1 ≤ m ∧ m ≤ k + l.length
  | [], k, acc, n, m, _, h => by simp [rv] at h
  | b :: l, k, acc, n, m, ha, h => by
    have hb := b.toNat_lt
    simp only [rv] at h
    split at h
    · cases h
    · rename_i hk
      split at h
      · cases h
      · rename_i hbad
        split at h
        · rename_i hlt
          simp only [Option.some.injEq, Prod.mk.injEq] at h
          obtain ⟨rfl, rfl⟩ := h
          have := chunk_fits (k := k) (c := b.toNat) (by omega) hlt (fun e => by have : ¬ 1 < b.toNat := fun h => hbad ⟨e, h⟩; omega)
          simp; omega
        · rename_i hge
          have := rv_bounds l (k + 1) _ n m (by
            have : (b.toNat - 128 + 1) * 128 ^ k ≤ 128 * 128 ^ k := Nat.mul_le_mul_right _ (by omega)
            rw [Nat.pow_succ, Nat.mul_comm _ 128]
            rw [Nat.add_mul, Nat.one_mul] at this; omega) h
          simp; omega
theorem readVarint_bounds {s : List UInt8} {n m : Nat} (h : readVarint s = some (n, m)) : n < 18446744073709551616 ∧ 1 ≤ m ∧ m ≤ s.length := by
  have := rv_bounds s 0 0 n m (by decide) h; omega
/-- The package's two errors. -/
structure Glo (w : World) (p q : Addr) : Prop where
  hs : ∃ t r, w.heap[0]? = some (.cells #[Er p] t r)
  hw : ∃ t r, w.heap[1]? = some (.cells #[Er q] t r)
  hp : ∃ c t, w.heap[p.block]? = some (.cells c t (0, 0))
  hq : ∃ c t, w.heap[q.block]? = some (.cells c t (0, 0))
  ne : p ≠ q
def takeR (p q : Addr) (v : Value) : TR → Prop
  | .ok f r => v = .tuple #[f.v, S r, .nilIface]
  | .short => ∃ (f : WF) (r : List UInt8), v = .tuple #[f.v, S r, Er p]
  | .wrong => ∃ (f : WF) (r : List UInt8), v = .tuple #[f.v, S r, Er q]
set_option maxRecDepth 100000 in
set_option maxHeartbeats 4000000 in
theorem take_ca (s : List UInt8) (hs : s.length ≤ 4611686018427387904) {p q : Addr} {w : World} (hg : Glo w p q) : Ca Tryd.prog 89 #[S s] w fun v w' => takeR p q v (takeF s) ∧ Keeps NoB w w' := by
  obtain ⟨⟨t0, r0, hg0⟩, ⟨t1, r1, hg1⟩, _, _, _⟩ := hg
  refine ca_of_body (args := [S s]) Tryd.func89 rfl (by kernel_rfl) ?_
  (repeat first | (apply wr_move; exact rfl; with_reducible (conv => enter [6, 3]; whnf)) | (apply wr_assign; exact rfl; with_reducible (conv => enter [6, 3]; whnf)) | apply wr_end | apply wc_seq | apply wc_region | (apply wr_alloc; exact rfl))
  refine wr_call (vs := [S s]) rfl (readVarint_ca s _) rfl ?_
  rintro v w1 ⟨rfl, rfl⟩
  have hr0 := heap_alloc_same w (.cells (Value.agg #[.int .i64 0, .int .i64 0, .int .u64 0, S []]).cells 101)
  have hg0' := (heap_alloc_ne w (.cells (Value.agg #[.int .i64 0, .int .i64 0, .int .u64 0, S []]).cells 101) (Nat.ne_of_lt (lt_of_heap hg0))).trans hg0
  have hg1' := (heap_alloc_ne w (.cells (Value.agg #[.int .i64 0, .int .i64 0, .int .u64 0, S []]).cells 101) (Nat.ne_of_lt (lt_of_heap hg1))).trans hg1
  have hk0 := (Keeps.refl NoB w).alloc (.cells (Value.agg #[.int .i64 0, .int .i64 0, .int .u64 0, S []]).cells 101)
  cases hrv : readVarint s with
  | none =>
    have hT : takeF s = .short := by unfold takeF; rw [hrv]
    dsimp only [rvV]
    (repeat first | (apply wr_move; exact rfl; with_reducible (conv => enter [6, 3]; whnf)) | (apply wr_assign; exact rfl; with_reducible (conv => enter [6, 3]; whnf)) | apply wr_end | apply wc_seq | apply wc_region | (apply wr_not; iterate 2 exact rfl) | (apply wr_extract; (iterate 3 exact rfl); with_reducible (conv => enter [6, 3]; whnf)) | (apply wc_true; exact rfl))
    refine wc_drawS (l := _) (S := fun w' => w'.heap[w.heap.size]? = some (.cells #[.int .i64 0, .int .i64 0, .int .u64 0, S []] 101 (0, 0)) ∧ w'.heap[0]? = some (.cells #[Er p] t0 r0) ∧ Keeps NoB w w') (by kernel_rfl) (by kernel_rfl) ⟨hr0, hg0', hk0.drew⟩ ?_
    apply ch_step
    focus
      intro w' hS
      obtain ⟨h1, h2, h3⟩ := hS
      refine wr_loadAll (cs := [.int .i64 0, .int .i64 0, .int .u64 0, S []]) rfl rfl rfl h1 rfl ?_
      apply wr_nil
      exact ⟨rfl, h1, h2, h3⟩
    apply ch_step
    focus
      intro w' hS
      obtain ⟨h1, h2, h3⟩ := hS
      apply wr_move; exact rfl
      apply wr_nil
      exact ⟨rfl, h1, h2, h3⟩
    apply ch_step
    focus
      intro w' hS
      obtain ⟨h1, h2, h3⟩ := hS
      refine wr_load rfl rfl rfl h2 rfl ?_
      apply wr_nil
      exact ⟨rfl, h1, h2, h3⟩
    apply ch_step
    focus
      intro w' hS
      obtain ⟨h1, h2, h3⟩ := hS
      refine wr_storeAll (cs := [.int .i64 0, .int .i64 0, .int .u64 0, S []]) rfl rfl rfl (by intro u hu; simp at hu; rcases hu with rfl | rfl | rfl | rfl <;> rfl) h1 rfl rfl ?_
      apply wr_nil
      exact ⟨rfl, World.putObj_heap_same (lt_of_heap h1), (heap_put_ne _ _ (by have := lt_of_heap hg0; have := lt_of_heap hg1; omega)).trans h2, h3.put _ (fun h => by omega)⟩
    apply ch_step
    focus
      intro w' hS
      obtain ⟨h1, h2, h3⟩ := hS
      apply wr_assign; exact rfl
      apply wr_nil
      exact ⟨rfl, h1, h2, h3⟩
    apply ch_step
    focus
      intro w' hS
      obtain ⟨h1, h2, h3⟩ := hS
      apply wr_assign; exact rfl
      apply wr_nil
      exact ⟨rfl, h1, h2, h3⟩
    refine ch_nil ?_
    intro w' hS
    obtain ⟨h1, h2, h3⟩ := hS
    (repeat first | (apply wc_ret; try simp only [thenE, inBlockE, bodyQ]))
    refine leaveN (vs := [.agg #[.int .i64 0, .int .i64 0, .int .u64 0, S []], S s, Er p]) (resv_cells (cs := [.int .i64 0, .int .i64 0, .int .u64 0, S []]) rfl rfl h1 rfl (resv_tmp rfl (resv_tmp rfl resv_nil))) ⟨by rw [hT]; exact ⟨⟨0, 0, 0, []⟩, s, rfl⟩, h3⟩
  | some nk =>
    obtain ⟨tag, n⟩ := nk
    obtain ⟨hb1, hb2, hb3⟩ := readVarint_bounds hrv
    dsimp only [rvV]
    by_cases hbad : 4294967296 ≤ tag ∨ tag < 8
    · have hT : takeF s = .wrong := by unfold takeF; rw [hrv]; exact if_pos hbad
      have hc : 4294967296 ≤ tag ∨ tag < 4294967296 ∧ tag < 8 := by omega
      clear hbad
      rcases hc with hc | hc
      all_goals
        (repeat first | (apply wr_move; exact rfl; with_reducible (conv => enter [6, 3]; whnf)) | (apply wr_assign; exact rfl; with_reducible (conv => enter [6, 3]; whnf)) | apply wr_end | apply wc_seq | apply wc_region | apply wc_skip | (apply wr_not; iterate 2 exact rfl) | (apply wr_cmp; (iterate 3 exact rfl); exact cmpT (by dsimp only [cmpP]; first | done | omega)) | (apply wr_cmp; (iterate 3 exact rfl); exact cmpF (by dsimp only [cmpN]; first | done | omega)) | (apply wr_pick (t := true); (iterate 2 exact rfl); with_reducible (conv => enter [6, 3]; whnf)) | (apply wr_pick (t := false); (iterate 2 exact rfl); with_reducible (conv => enter [6, 3]; whnf)) | (apply wr_extract; (iterate 3 exact rfl); with_reducible (conv => enter [6, 3]; whnf)) | (apply wc_true; exact rfl) | (apply wc_false; exact rfl) | (apply wr_skip; exact rfl))
        refine wc_drawS (l := _) (S := fun w' => w'.heap[w.heap.size]? = some (.cells #[.int .i64 0, .int .i64 0, .int .u64 0, S []] 101 (0, 0)) ∧ w'.heap[1]? = some (.cells #[Er q] t1 r1) ∧ Keeps NoB w w') (by kernel_rfl) (by kernel_rfl) ⟨hr0, hg1', hk0.drew⟩ ?_
        apply ch_step
        focus
          intro w' hS
          obtain ⟨h1, h2, h3⟩ := hS
          refine wr_loadAll (cs := [.int .i64 0, .int .i64 0, .int .u64 0, S []]) rfl rfl rfl h1 rfl ?_
          apply wr_nil
          exact ⟨rfl, h1, h2, h3⟩
        apply ch_step
        focus
          intro w' hS
          obtain ⟨h1, h2, h3⟩ := hS
          apply wr_move; exact rfl
          apply wr_nil
          exact ⟨rfl, h1, h2, h3⟩
        apply ch_step
        focus
          intro w' hS
          obtain ⟨h1, h2, h3⟩ := hS
          refine wr_load rfl rfl rfl h2 rfl ?_
          apply wr_nil
          exact ⟨rfl, h1, h2, h3⟩
        apply ch_step
        focus
          intro w' hS
          obtain ⟨h1, h2, h3⟩ := hS
          refine wr_storeAll (cs := [.int .i64 0, .int .i64 0, .int .u64 0, S []]) rfl rfl rfl (by intro u hu; simp at hu; rcases hu with rfl | rfl | rfl | rfl <;> rfl) h1 rfl rfl ?_
          apply wr_nil
          exact ⟨rfl, World.putObj_heap_same (lt_of_heap h1), (heap_put_ne _ _ (by have := lt_of_heap hg0; have := lt_of_heap hg1; omega)).trans h2, h3.put _ (fun h => by omega)⟩
        apply ch_step
        focus
          intro w' hS
          obtain ⟨h1, h2, h3⟩ := hS
          apply wr_assign; exact rfl
          apply wr_nil
          exact ⟨rfl, h1, h2, h3⟩
        apply ch_step
        focus
          intro w' hS
          obtain ⟨h1, h2, h3⟩ := hS
          apply wr_assign; exact rfl
          apply wr_nil
          exact ⟨rfl, h1, h2, h3⟩
        refine ch_nil ?_
        intro w' hS
        obtain ⟨h1, h2, h3⟩ := hS
        (repeat first | (apply wc_ret; try simp only [thenE, inBlockE, bodyQ]))
        refine leaveN (vs := [.agg #[.int .i64 0, .int .i64 0, .int .u64 0, S []], S s, Er q]) (resv_cells (cs := [.int .i64 0, .int .i64 0, .int .u64 0, S []]) rfl rfl h1 rfl (resv_tmp rfl (resv_tmp rfl resv_nil))) ⟨by rw [hT]; exact ⟨⟨0, 0, 0, []⟩, s, rfl⟩, h3⟩
    · have hk8 : tag % 8 < 8 := Nat.mod_lt _ (by decide)
      (repeat first | (apply wr_move; exact rfl; with_reducible (conv => enter [6, 3]; whnf)) | (apply wr_assign; exact rfl; with_reducible (conv => enter [6, 3]; whnf)) | apply wr_end | apply wc_seq | apply wc_region | apply wc_skip | (apply wr_not; iterate 2 exact rfl) | (apply wr_cmp; (iterate 3 exact rfl); exact cmpF (by dsimp only [cmpN]; first | done | omega)) | (apply wr_pick (t := false); (iterate 2 exact rfl); with_reducible (conv => enter [6, 3]; whnf)) | (apply wr_extract; (iterate 3 exact rfl); with_reducible (conv => enter [6, 3]; whnf)) | (apply wc_false; exact rfl))
      refine wr_quoN (n := tag) (m := 8) rfl rfl rfl (by decide) (w_u64 (by omega)) ?_
      (repeat first | (apply wr_move; exact rfl; with_reducible (conv => enter [6, 3]; whnf)) | (apply wr_conv; (iterate 2 exact rfl); exact w_fit (by dsimp only [kIn]; first | done | omega)))
      refine wr_remN (n := tag) (m := 8) rfl rfl rfl (by decide) ?_
      (repeat first | (apply wr_move; exact rfl; with_reducible (conv => enter [6, 3]; whnf)) | apply wr_end | apply wc_seq | apply wc_region | (apply wr_fieldAddr; iterate 2 exact rfl) | (apply wr_conv; (iterate 2 exact rfl); exact w_fit (by dsimp only [kIn]; first | done | omega)) | (apply wr_store; (iterate 3 exact rfl); (first | exact rfl | with_reducible assumption); (focus repeat first | with_reducible assumption | exact heap_alloc_same _ _ | exact World.putObj_heap_same (by first | omega | (simp only [World.size_alloc, World.putObj_size, ne_eq]; omega)) | ((first | refine hAl ?_ ?_ | refine hPu ?_ ?_); focus first | omega | (simp only [World.size_alloc, World.putObj_size, ne_eq]; omega))); exact rfl))
      refine wr_sl_from (l := s) (i := n) rfl rfl rfl hb3 ?_
      (repeat first | (apply wr_assign; exact rfl; with_reducible (conv => enter [6, 3]; whnf)) | apply wr_end | apply wc_seq | apply wc_region)
      refine wr_call rfl (sizes_ca _) rfl ?_
      rintro v w2 ⟨bm, rfl, hm, hkS⟩
      have hr2 := hkS.heap (b := w.heap.size) (o := .cells #[.int .i64 ((tag / 8 : Nat) : Int), .int .i64 ((tag % 8 : Nat) : Int), .int .u64 0, S []] 101 (0, 0)) (by focus repeat first | with_reducible assumption | exact heap_alloc_same _ _ | exact World.putObj_heap_same (by first | omega | (simp only [World.size_alloc, World.putObj_size, ne_eq]; omega)) | ((first | refine hAl ?_ ?_ | refine hPu ?_ ?_); focus first | omega | (simp only [World.size_alloc, World.putObj_size, ne_eq]; omega))) (fun h => h)
      have hg2 := hkS.heap (b := 0) (o := .cells #[Er p] t0 r0) ((heap_put_ne _ _ (by have := lt_of_heap hg0; omega)).trans ((heap_put_ne _ _ (by have := lt_of_heap hg0; omega)).trans hg0')) (fun h => h)
      have hg3 := hkS.heap (b := 1) (o := .cells #[Er q] t1 r1) ((heap_put_ne _ _ (by have := lt_of_heap hg1; omega)).trans ((heap_put_ne _ _ (by have := lt_of_heap hg1; omega)).trans hg1')) (fun h => h)
      have hk2 := ((hk0.put _ (fun h => by omega)).put _ (fun h => by omega)).trans hkS
      clear hkS hr0 hg0' hg1' hk0
      (repeat first | (apply wr_move; exact rfl; with_reducible (conv => enter [6, 3]; whnf)) | (apply wr_assign; exact rfl; with_reducible (conv => enter [6, 3]; whnf)) | apply wr_end | apply wc_seq | apply wc_region | (apply wr_fieldAddr; iterate 2 exact rfl) | (apply wr_load; (iterate 3 exact rfl); (focus repeat first | with_reducible assumption | exact heap_alloc_same _ _ | exact World.putObj_heap_same (by first | omega | (simp only [World.size_alloc, World.putObj_size, ne_eq]; omega)) | ((first | refine hAl ?_ ?_ | refine hPu ?_ ?_); focus first | omega | (simp only [World.size_alloc, World.putObj_size, ne_eq]; omega))); exact rfl; conv => enter [6, 3]; whnf))
      refine wr_lookupOk (enc := encI .i64) (a := ((tag % 8 : Nat) : Int)) rfl rfl hm rfl ?_
      have hsz := sizes_get ((tag % 8 : Nat) : Int)
      rw [hsz.1, hsz.2]
      clear hsz
      have hT : takeF s = if tag % 8 = 0 then (match readVarint (s.drop n) with
          | none => .short
          | some (v, m) => .ok ⟨(tag / 8 : Nat), 0, v, []⟩ ((s.drop n).drop m)) else
        if tag % 8 = 2 then (match readVarint (s.drop n) with
          | none => .short
          | some (v, m) => if ((s.drop n).drop m).length < v then .short else .ok ⟨(tag / 8 : Nat), 2, 0, ((s.drop n).drop m).take v⟩ (((s.drop n).drop m).drop v)) else
        if tag % 8 = 1 then (if (s.drop n).length < 8 then .short else .ok ⟨(tag / 8 : Nat), 1, 0, (s.drop n).take 8⟩ ((s.drop n).drop 8)) else
        if tag % 8 = 5 then (if (s.drop n).length < 4 then .short else .ok ⟨(tag / 8 : Nat), 5, 0, (s.drop n).take 4⟩ ((s.drop n).drop 4)) else .wrong := by
        unfold takeF; rw [hrv]; exact if_neg hbad
      have hsl : (s.drop n).length ≤ 4611686018427387904 := by rw [List.length_drop]; omega
      generalize hs1 : s.drop n = s1 at hT hsl ⊢
      by_cases h0 : tag % 8 = 0
      · rw [if_pos h0] at hT
        rw [h0, if_neg (by decide), if_neg (by decide), decide_eq_true (by decide)]
        rw [h0] at hr2
        (repeat first | (apply wr_move; exact rfl; with_reducible (conv => enter [6, 3]; whnf)) | (apply wr_assign; exact rfl; with_reducible (conv => enter [6, 3]; whnf)) | apply wr_end | apply wc_seq | apply wc_region | (apply wr_fieldAddr; iterate 2 exact rfl) | (apply wr_load; (iterate 3 exact rfl); (focus repeat first | with_reducible assumption | exact heap_alloc_same _ _ | exact World.putObj_heap_same (by first | omega | (simp only [World.size_alloc, World.putObj_size, ne_eq]; omega)) | ((first | refine hAl ?_ ?_ | refine hPu ?_ ?_); focus first | omega | (simp only [World.size_alloc, World.putObj_size, ne_eq]; omega))); exact rfl; conv => enter [6, 3]; whnf) | (apply wr_cmp; (iterate 3 exact rfl); exact cmpT (by dsimp only [cmpP]; first | done | omega)) | (apply wr_pick (t := true); (iterate 2 exact rfl); with_reducible (conv => enter [6, 3]; whnf)) | (apply wr_conv; (iterate 2 exact rfl); exact w_fit (by dsimp only [kIn]; first | done | omega)) | (apply wr_extract; (iterate 3 exact rfl); with_reducible (conv => enter [6, 3]; whnf)) | (apply wc_true; exact rfl) | (apply wr_skip; exact rfl))
        refine wr_call (vs := [S s1]) rfl (readVarint_ca s1 _) rfl ?_
        rintro v w3 ⟨rfl, rfl⟩
        cases hrv2 : readVarint s1 with
        | none =>
          rw [hrv2] at hT
          dsimp only [rvV]
          (repeat first | (apply wr_move; exact rfl; with_reducible (conv => enter [6, 3]; whnf)) | (apply wr_assign; exact rfl; with_reducible (conv => enter [6, 3]; whnf)) | apply wr_end | apply wc_seq | apply wc_region | (apply wr_not; iterate 2 exact rfl) | (apply wr_extract; (iterate 3 exact rfl); with_reducible (conv => enter [6, 3]; whnf)) | (apply wc_true; exact rfl))
          refine wc_drawS (l := _) (S := fun w' => w'.heap[w.heap.size]? = some (.cells #[.int .i64 ((tag / 8 : Nat) : Int), .int .i64 0, .int .u64 0, S []] 101 (0, 0)) ∧ w'.heap[0]? = some (.cells #[Er p] t0 r0) ∧ Keeps NoB w w') (by kernel_rfl) (by kernel_rfl) ⟨hr2, hg2, hk2.drew⟩ ?_
          apply ch_step
          focus
            intro w' hS
            obtain ⟨h1, h2, h3⟩ := hS
            refine wr_loadAll (cs := [.int .i64 ((tag / 8 : Nat) : Int), .int .i64 0, .int .u64 0, S []]) rfl rfl rfl h1 rfl ?_
            apply wr_nil
            exact ⟨rfl, h1, h2, h3⟩
          apply ch_step
          focus
            intro w' hS
            obtain ⟨h1, h2, h3⟩ := hS
            apply wr_move; exact rfl
            apply wr_nil
            exact ⟨rfl, h1, h2, h3⟩
          apply ch_step
          focus
            intro w' hS
            obtain ⟨h1, h2, h3⟩ := hS
            refine wr_load rfl rfl rfl h2 rfl ?_
            apply wr_nil
            exact ⟨rfl, h1, h2, h3⟩
          apply ch_step
          focus
            intro w' hS
            obtain ⟨h1, h2, h3⟩ := hS
            refine wr_storeAll (cs := [.int .i64 ((tag / 8 : Nat) : Int), .int .i64 0, .int .u64 0, S []]) rfl rfl rfl (by intro u hu; simp at hu; rcases hu with rfl | rfl | rfl | rfl <;> rfl) h1 rfl rfl ?_
            apply wr_nil
            exact ⟨rfl, World.putObj_heap_same (lt_of_heap h1), (heap_put_ne _ _ (by have := lt_of_heap hg0; have := lt_of_heap hg1; omega)).trans h2, h3.put _ (fun h => by omega)⟩
          apply ch_step
          focus
            intro w' hS
            obtain ⟨h1, h2, h3⟩ := hS
            apply wr_assign; exact rfl
            apply wr_nil
            exact ⟨rfl, h1, h2, h3⟩
          apply ch_step
          focus
            intro w' hS
            obtain ⟨h1, h2, h3⟩ := hS
            apply wr_assign; exact rfl
            apply wr_nil
            exact ⟨rfl, h1, h2, h3⟩
          refine ch_nil ?_
          intro w' hS
          obtain ⟨h1, h2, h3⟩ := hS
          (repeat first | (apply wc_ret; try simp only [thenE, inBlockE, bodyQ]))
          refine leaveN (vs := [.agg #[.int .i64 ((tag / 8 : Nat) : Int), .int .i64 0, .int .u64 0, S []], S s1, Er p]) (resv_cells (cs := [.int .i64 ((tag / 8 : Nat) : Int), .int .i64 0, .int .u64 0, S []]) rfl rfl h1 rfl (resv_tmp rfl (resv_tmp rfl resv_nil))) ⟨by rw [hT]; exact ⟨⟨((tag / 8 : Nat) : Int), 0, 0, []⟩, s1, rfl⟩, h3⟩
        | some vm =>
          obtain ⟨v, m⟩ := vm
          obtain ⟨hc1, hc2, hc3⟩ := readVarint_bounds hrv2
          rw [hrv2] at hT
          dsimp only [rvV]
          (repeat first | (apply wr_move; exact rfl; with_reducible (conv => enter [6, 3]; whnf)) | (apply wr_assign; exact rfl; with_reducible (conv => enter [6, 3]; whnf)) | apply wr_end | apply wc_seq | apply wc_region | apply wc_skip | (apply wr_not; iterate 2 exact rfl) | (apply wr_extract; (iterate 3 exact rfl); with_reducible (conv => enter [6, 3]; whnf)) | (apply wc_false; exact rfl))
          have hlt3 := lt_of_heap hr2
          refine wr_sl_from (l := s1) (i := m) rfl rfl rfl hc3 ?_
          (repeat first | (apply wr_move; exact rfl; with_reducible (conv => enter [6, 3]; whnf)) | (apply wr_assign; exact rfl; with_reducible (conv => enter [6, 3]; whnf)) | apply wr_end | apply wc_seq | apply wc_region | apply wc_skip | apply wc_block | (apply wr_fieldAddr; iterate 2 exact rfl) | (apply wr_not; iterate 2 exact rfl) | (apply wr_len_str; iterate 2 exact rfl) | (apply wr_load; (iterate 3 exact rfl); (focus repeat first | with_reducible assumption | exact heap_alloc_same _ _ | exact World.putObj_heap_same (by first | omega | (simp only [World.size_alloc, World.putObj_size, ne_eq]; omega)) | ((first | refine hAl ?_ ?_ | refine hPu ?_ ?_); focus first | omega | (simp only [World.size_alloc, World.putObj_size, ne_eq]; omega))); exact rfl; conv => enter [6, 3]; whnf) | (apply wr_cmp; (iterate 3 exact rfl); exact cmpT (by dsimp only [cmpP]; first | done | omega)) | (apply wr_cmp; (iterate 3 exact rfl); exact cmp_lt _ _) | (apply wr_conv; (iterate 2 exact rfl); (first | exact w_fit (by dsimp only [kIn]; first | done | omega) | with_reducible assumption | rfl)) | (apply wr_store; (iterate 3 exact rfl); (first | exact rfl | with_reducible assumption); (focus repeat first | with_reducible assumption | exact heap_alloc_same _ _ | exact World.putObj_heap_same (by first | omega | (simp only [World.size_alloc, World.putObj_size, ne_eq]; omega)) | ((first | refine hAl ?_ ?_ | refine hPu ?_ ?_); focus first | omega | (simp only [World.size_alloc, World.putObj_size, ne_eq]; omega))); exact rfl) | (apply wc_true; exact rfl) | (apply wc_false; exact rfl))
          refine wr_sl_to (l := List.drop m s1) (j := 0) rfl rfl rfl (Nat.zero_le _) ?_
          (repeat first | apply wr_end | apply wc_seq | (apply wr_fieldAddr; iterate 2 exact rfl) | (apply wr_store; (iterate 3 exact rfl); (first | exact rfl | with_reducible assumption); (focus repeat first | with_reducible assumption | exact heap_alloc_same _ _ | exact World.putObj_heap_same (by first | omega | (simp only [World.size_alloc, World.putObj_size, ne_eq]; omega)) | ((first | refine hAl ?_ ?_ | refine hPu ?_ ?_); focus first | omega | (simp only [World.size_alloc, World.putObj_size, ne_eq]; omega))); exact rfl))
          refine wc_drawS (l := _) (S := fun w' => w'.heap[w.heap.size]? = some (.cells #[.int .i64 ((tag / 8 : Nat) : Int), .int .i64 0, .int .u64 (v : Int), S []] 101 (0, 0)) ∧ Keeps NoB w w') (by kernel_rfl) (by kernel_rfl) (by exact ⟨World.putObj_heap_same (lt_of_heap (World.putObj_heap_same (o := .cells #[.int .i64 ((tag / 8 : Nat) : Int), .int .i64 0, .int .u64 (v : Int), S []] 101 (0, 0)) (lt_of_heap hr2))), Keeps.drew ((hk2.put _ (fun h => by omega)).put _ (fun h => by omega))⟩) ?_
          apply ch_step
          focus
            intro w' hS
            obtain ⟨h1, h3⟩ := hS
            refine wr_loadAll (cs := [.int .i64 ((tag / 8 : Nat) : Int), .int .i64 0, .int .u64 (v : Int), S []]) rfl rfl rfl h1 rfl ?_
            apply wr_nil
            exact ⟨rfl, h1, h3⟩
          apply ch_step
          focus
            intro w' hS
            obtain ⟨h1, h3⟩ := hS
            apply wr_move; exact rfl
            apply wr_nil
            exact ⟨rfl, h1, h3⟩
          apply ch_step
          focus
            intro w' hS
            obtain ⟨h1, h3⟩ := hS
            apply wr_move; exact rfl
            apply wr_nil
            exact ⟨rfl, h1, h3⟩
          apply ch_step
          focus
            intro w' hS
            obtain ⟨h1, h3⟩ := hS
            refine wr_sl_from (l := List.drop m s1) (i := 0) rfl rfl rfl (Nat.zero_le _) ?_
            apply wr_nil
            exact ⟨rfl, h1, h3⟩
          apply ch_step
          focus
            intro w' hS
            obtain ⟨h1, h3⟩ := hS
            refine wr_storeAll (cs := [.int .i64 ((tag / 8 : Nat) : Int), .int .i64 0, .int .u64 (v : Int), S []]) rfl rfl rfl (by intro u hu; simp at hu; rcases hu with rfl | rfl | rfl | rfl <;> rfl) h1 rfl rfl ?_
            apply wr_nil
            exact ⟨rfl, World.putObj_heap_same (lt_of_heap h1), h3.put _ (fun h => by omega)⟩
          apply ch_step
          focus
            intro w' hS
            obtain ⟨h1, h3⟩ := hS
            apply wr_assign; exact rfl
            apply wr_nil
            exact ⟨rfl, h1, h3⟩
          apply ch_step
          focus
            intro w' hS
            obtain ⟨h1, h3⟩ := hS
            apply wr_assign; exact rfl
            apply wr_nil
            exact ⟨rfl, h1, h3⟩
          refine ch_nil ?_
          intro w' hS
          obtain ⟨h1, h3⟩ := hS
          (repeat first | (apply wc_ret; try simp only [thenE, inBlockE, bodyQ]))
          refine leaveN (vs := [.agg #[.int .i64 ((tag / 8 : Nat) : Int), .int .i64 0, .int .u64 (v : Int), S []], S (List.drop 0 (List.drop m s1)), .nilIface]) (resv_cells (cs := [.int .i64 ((tag / 8 : Nat) : Int), .int .i64 0, .int .u64 (v : Int), S []]) rfl rfl h1 rfl (resv_tmp rfl (resv_tmp rfl resv_nil))) ⟨by rw [hT]; rfl, h3⟩
      · rw [if_neg h0] at hT
        have h0' : ((tag % 8 : Nat) : Int) ≠ 0 := by omega
        by_cases h2 : tag % 8 = 2
        · rw [if_pos h2] at hT
          rw [h2, if_neg (by decide), if_neg (by decide), decide_eq_false (by decide)]
          rw [h2] at hr2
          (repeat first | (apply wr_move; exact rfl; with_reducible (conv => enter [6, 3]; whnf)) | (apply wr_assign; exact rfl; with_reducible (conv => enter [6, 3]; whnf)) | apply wr_end | apply wc_seq | apply wc_region | (apply wr_fieldAddr; iterate 2 exact rfl) | (apply wr_load; (iterate 3 exact rfl); (focus repeat first | with_reducible assumption | exact heap_alloc_same _ _ | exact World.putObj_heap_same (by first | omega | (simp only [World.size_alloc, World.putObj_size, ne_eq]; omega)) | ((first | refine hAl ?_ ?_ | refine hPu ?_ ?_); focus first | omega | (simp only [World.size_alloc, World.putObj_size, ne_eq]; omega))); exact rfl; conv => enter [6, 3]; whnf) | (apply wr_cmp; (iterate 3 exact rfl); exact cmpT (by dsimp only [cmpP]; first | done | omega)) | (apply wr_cmp; (iterate 3 exact rfl); exact cmpF (by dsimp only [cmpN]; first | done | omega)) | (apply wr_pick (t := false); (iterate 2 exact rfl); with_reducible (conv => enter [6, 3]; whnf)) | (apply wr_conv; (iterate 2 exact rfl); exact w_fit (by dsimp only [kIn]; first | done | omega)) | (apply wr_extract; (iterate 3 exact rfl); with_reducible (conv => enter [6, 3]; whnf)) | (apply wc_true; exact rfl))
          refine wr_call (vs := [S s1]) rfl (readVarint_ca s1 _) rfl ?_
          rintro v w3 ⟨rfl, rfl⟩
          cases hrv2 : readVarint s1 with
          | none =>
            rw [hrv2] at hT
            dsimp only [rvV]
            (repeat first | (apply wr_move; exact rfl; with_reducible (conv => enter [6, 3]; whnf)) | (apply wr_assign; exact rfl; with_reducible (conv => enter [6, 3]; whnf)) | apply wr_end | apply wc_seq | apply wc_region | (apply wr_not; iterate 2 exact rfl) | (apply wr_extract; (iterate 3 exact rfl); with_reducible (conv => enter [6, 3]; whnf)) | (apply wc_true; exact rfl))
            refine wc_drawS (l := _) (S := fun w' => w'.heap[w.heap.size]? = some (.cells #[.int .i64 ((tag / 8 : Nat) : Int), .int .i64 2, .int .u64 0, S []] 101 (0, 0)) ∧ w'.heap[0]? = some (.cells #[Er p] t0 r0) ∧ Keeps NoB w w') (by kernel_rfl) (by kernel_rfl) ⟨hr2, hg2, hk2.drew⟩ ?_
            apply ch_step
            focus
              intro w' hS
              obtain ⟨h1, h2, h3⟩ := hS
              refine wr_loadAll (cs := [.int .i64 ((tag / 8 : Nat) : Int), .int .i64 2, .int .u64 0, S []]) rfl rfl rfl h1 rfl ?_
              apply wr_nil
              exact ⟨rfl, h1, h2, h3⟩
            apply ch_step
            focus
              intro w' hS
              obtain ⟨h1, h2, h3⟩ := hS
              apply wr_move; exact rfl
              apply wr_nil
              exact ⟨rfl, h1, h2, h3⟩
            apply ch_step
            focus
              intro w' hS
              obtain ⟨h1, h2, h3⟩ := hS
              refine wr_load rfl rfl rfl h2 rfl ?_
              apply wr_nil
              exact ⟨rfl, h1, h2, h3⟩
            apply ch_step
            focus
              intro w' hS
              obtain ⟨h1, h2, h3⟩ := hS
              refine wr_storeAll (cs := [.int .i64 ((tag / 8 : Nat) : Int), .int .i64 2, .int .u64 0, S []]) rfl rfl rfl (by intro u hu; simp at hu; rcases hu with rfl | rfl | rfl | rfl <;> rfl) h1 rfl rfl ?_
              apply wr_nil
              exact ⟨rfl, World.putObj_heap_same (lt_of_heap h1), (heap_put_ne _ _ (by have := lt_of_heap hg0; have := lt_of_heap hg1; omega)).trans h2, h3.put _ (fun h => by omega)⟩
            apply ch_step
            focus
              intro w' hS
              obtain ⟨h1, h2, h3⟩ := hS
              apply wr_assign; exact rfl
              apply wr_nil
              exact ⟨rfl, h1, h2, h3⟩
            apply ch_step
            focus
              intro w' hS
              obtain ⟨h1, h2, h3⟩ := hS
              apply wr_assign; exact rfl
              apply wr_nil
              exact ⟨rfl, h1, h2, h3⟩
            refine ch_nil ?_
            intro w' hS
            obtain ⟨h1, h2, h3⟩ := hS
            (repeat first | (apply wc_ret; try simp only [thenE, inBlockE, bodyQ]))
            refine leaveN (vs := [.agg #[.int .i64 ((tag / 8 : Nat) : Int), .int .i64 2, .int .u64 0, S []], S s1, Er p]) (resv_cells (cs := [.int .i64 ((tag / 8 : Nat) : Int), .int .i64 2, .int .u64 0, S []]) rfl rfl h1 rfl (resv_tmp rfl (resv_tmp rfl resv_nil))) ⟨by rw [hT]; exact ⟨⟨((tag / 8 : Nat) : Int), 2, 0, []⟩, s1, rfl⟩, h3⟩
          | some vm =>
            obtain ⟨v, m⟩ := vm
            obtain ⟨hc1, hc2, hc3⟩ := readVarint_bounds hrv2
            rw [hrv2] at hT
            dsimp only [rvV] at hT ⊢
            have hdl : (s1.drop m).length ≤ 4611686018427387904 := by rw [List.length_drop]; omega
            (repeat first | (apply wr_move; exact rfl; with_reducible (conv => enter [6, 3]; whnf)) | (apply wr_assign; exact rfl; with_reducible (conv => enter [6, 3]; whnf)) | apply wr_end | apply wc_seq | apply wc_region | apply wc_skip | (apply wr_not; iterate 2 exact rfl) | (apply wr_extract; (iterate 3 exact rfl); with_reducible (conv => enter [6, 3]; whnf)) | (apply wc_false; exact rfl))
            refine wr_sl_from (l := s1) (i := m) rfl rfl rfl hc3 ?_
            generalize s1.drop m = s2 at hT hdl ⊢
            by_cases hv : s2.length < v
            · rw [if_pos hv] at hT
              (repeat first | (apply wr_move; exact rfl; with_reducible (conv => enter [6, 3]; whnf)) | (apply wr_assign; exact rfl; with_reducible (conv => enter [6, 3]; whnf)) | apply wr_end | apply wc_seq | apply wc_region | apply wc_block | (apply wr_fieldAddr; iterate 2 exact rfl) | (apply wr_not; iterate 2 exact rfl) | (apply wr_len_str; iterate 2 exact rfl) | (apply wr_load; (iterate 3 exact rfl); (focus repeat first | with_reducible assumption | exact heap_alloc_same _ _ | exact World.putObj_heap_same (by first | omega | (simp only [World.size_alloc, World.putObj_size, ne_eq]; omega)) | ((first | refine hAl ?_ ?_ | refine hPu ?_ ?_); focus first | omega | (simp only [World.size_alloc, World.putObj_size, ne_eq]; omega))); exact rfl; conv => enter [6, 3]; whnf) | (apply wr_cmp; (iterate 3 exact rfl); exact cmpT (by dsimp only [cmpP]; first | done | omega)) | (apply wr_cmp; (iterate 3 exact rfl); exact cmpF (by dsimp only [cmpN]; first | done | omega)) | (apply wr_conv; (iterate 2 exact rfl); exact w_fit (by dsimp only [kIn]; first | done | omega)) | (apply wc_true; exact rfl) | (apply wc_false; exact rfl))
              refine wc_drawS (l := _) (S := fun w' => w'.heap[w.heap.size]? = some (.cells #[.int .i64 ((tag / 8 : Nat) : Int), .int .i64 2, .int .u64 0, S []] 101 (0, 0)) ∧ w'.heap[0]? = some (.cells #[Er p] t0 r0) ∧ Keeps NoB w w') (by kernel_rfl) (by kernel_rfl) ⟨hr2, hg2, hk2.drew⟩ ?_
              apply ch_step
              focus
                intro w' hS
                obtain ⟨h1, h2, h3⟩ := hS
                refine wr_loadAll (cs := [.int .i64 ((tag / 8 : Nat) : Int), .int .i64 2, .int .u64 0, S []]) rfl rfl rfl h1 rfl ?_
                apply wr_nil
                exact ⟨rfl, h1, h2, h3⟩
              apply ch_step
              focus
                intro w' hS
                obtain ⟨h1, h2, h3⟩ := hS
                apply wr_move; exact rfl
                apply wr_nil
                exact ⟨rfl, h1, h2, h3⟩
              apply ch_step
              focus
                intro w' hS
                obtain ⟨h1, h2, h3⟩ := hS
                refine wr_load rfl rfl rfl h2 rfl ?_
                apply wr_nil
                exact ⟨rfl, h1, h2, h3⟩
              apply ch_step
              focus
                intro w' hS
                obtain ⟨h1, h2, h3⟩ := hS
                refine wr_storeAll (cs := [.int .i64 ((tag / 8 : Nat) : Int), .int .i64 2, .int .u64 0, S []]) rfl rfl rfl (by intro u hu; simp at hu; rcases hu with rfl | rfl | rfl | rfl <;> rfl) h1 rfl rfl ?_
                apply wr_nil
                exact ⟨rfl, World.putObj_heap_same (lt_of_heap h1), (heap_put_ne _ _ (by have := lt_of_heap hg0; have := lt_of_heap hg1; omega)).trans h2, h3.put _ (fun h => by omega)⟩
              apply ch_step
              focus
                intro w' hS
                obtain ⟨h1, h2, h3⟩ := hS
                apply wr_assign; exact rfl
                apply wr_nil
                exact ⟨rfl, h1, h2, h3⟩
              apply ch_step
              focus
                intro w' hS
                obtain ⟨h1, h2, h3⟩ := hS
                apply wr_assign; exact rfl
                apply wr_nil
                exact ⟨rfl, h1, h2, h3⟩
              refine ch_nil ?_
              intro w' hS
              obtain ⟨h1, h2, h3⟩ := hS
              (repeat first | (apply wc_ret; try simp only [thenE, inBlockE, bodyQ]))
              refine leaveN (vs := [.agg #[.int .i64 ((tag / 8 : Nat) : Int), .int .i64 2, .int .u64 0, S []], S s2, Er p]) (resv_cells (cs := [.int .i64 ((tag / 8 : Nat) : Int), .int .i64 2, .int .u64 0, S []]) rfl rfl h1 rfl (resv_tmp rfl (resv_tmp rfl resv_nil))) ⟨by rw [hT]; exact ⟨⟨((tag / 8 : Nat) : Int), 2, 0, []⟩, s2, rfl⟩, h3⟩
            · rw [if_neg hv] at hT
              have hvl : v ≤ s2.length := by omega
              (repeat first | (apply wr_move; exact rfl; with_reducible (conv => enter [6, 3]; whnf)) | (apply wr_assign; exact rfl; with_reducible (conv => enter [6, 3]; whnf)) | apply wr_end | apply wc_seq | apply wc_region | apply wc_skip | apply wc_block | (apply wr_fieldAddr; iterate 2 exact rfl) | (apply wr_not; iterate 2 exact rfl) | (apply wr_len_str; iterate 2 exact rfl) | (apply wr_load; (iterate 3 exact rfl); (focus repeat first | with_reducible assumption | exact heap_alloc_same _ _ | exact World.putObj_heap_same (by first | omega | (simp only [World.size_alloc, World.putObj_size, ne_eq]; omega)) | ((first | refine hAl ?_ ?_ | refine hPu ?_ ?_); focus first | omega | (simp only [World.size_alloc, World.putObj_size, ne_eq]; omega))); exact rfl; conv => enter [6, 3]; whnf) | (apply wr_cmp; (iterate 3 exact rfl); exact cmpF (by dsimp only [cmpN]; first | done | omega)) | (apply wr_conv; (iterate 2 exact rfl); exact w_fit (by dsimp only [kIn]; first | done | omega)) | (apply wc_false; exact rfl))
              refine wr_sl_to (l := s2) (j := v) rfl rfl rfl hvl ?_
              (repeat first | apply wr_end | apply wc_seq | (apply wr_fieldAddr; iterate 2 exact rfl) | (apply wr_store; (iterate 3 exact rfl); (first | exact rfl | with_reducible assumption); (focus repeat first | with_reducible assumption | exact heap_alloc_same _ _ | exact World.putObj_heap_same (by first | omega | (simp only [World.size_alloc, World.putObj_size, ne_eq]; omega)) | ((first | refine hAl ?_ ?_ | refine hPu ?_ ?_); focus first | omega | (simp only [World.size_alloc, World.putObj_size, ne_eq]; omega))); exact rfl))
              refine wc_drawS (l := _) (S := fun w' => w'.heap[w.heap.size]? = some (.cells #[.int .i64 ((tag / 8 : Nat) : Int), .int .i64 2, .int .u64 0, S (List.take v s2)] 101 (0, 0)) ∧ Keeps NoB w w') (by kernel_rfl) (by kernel_rfl) (by exact ⟨World.putObj_heap_same (lt_of_heap hr2), Keeps.drew (hk2.put _ (fun h => by omega))⟩) ?_
              apply ch_step
              focus
                intro w' hS
                obtain ⟨h1, h3⟩ := hS
                refine wr_loadAll (cs := [.int .i64 ((tag / 8 : Nat) : Int), .int .i64 2, .int .u64 0, S (List.take v s2)]) rfl rfl rfl h1 rfl ?_
                apply wr_nil
                exact ⟨rfl, h1, h3⟩
              apply ch_step
              focus
                intro w' hS
                obtain ⟨h1, h3⟩ := hS
                apply wr_move; exact rfl
                apply wr_nil
                exact ⟨rfl, h1, h3⟩
              apply ch_step
              focus
                intro w' hS
                obtain ⟨h1, h3⟩ := hS
                apply wr_move; exact rfl
                apply wr_nil
                exact ⟨rfl, h1, h3⟩
              apply ch_step
              focus
                intro w' hS
                obtain ⟨h1, h3⟩ := hS
                refine wr_sl_from (l := s2) (i := v) rfl rfl rfl hvl ?_
                apply wr_nil
                exact ⟨rfl, h1, h3⟩
              apply ch_step
              focus
                intro w' hS
                obtain ⟨h1, h3⟩ := hS
                refine wr_storeAll (cs := [.int .i64 ((tag / 8 : Nat) : Int), .int .i64 2, .int .u64 0, S (List.take v s2)]) rfl rfl rfl (by intro u hu; simp at hu; rcases hu with rfl | rfl | rfl | rfl <;> rfl) h1 rfl rfl ?_
                apply wr_nil
                exact ⟨rfl, World.putObj_heap_same (lt_of_heap h1), h3.put _ (fun h => by omega)⟩
              apply ch_step
              focus
                intro w' hS
                obtain ⟨h1, h3⟩ := hS
                apply wr_assign; exact rfl
                apply wr_nil
                exact ⟨rfl, h1, h3⟩
              apply ch_step
              focus
                intro w' hS
                obtain ⟨h1, h3⟩ := hS
                apply wr_assign; exact rfl
                apply wr_nil
                exact ⟨rfl, h1, h3⟩
              refine ch_nil ?_
              intro w' hS
              obtain ⟨h1, h3⟩ := hS
              (repeat first | (apply wc_ret; try simp only [thenE, inBlockE, bodyQ]))
              refine leaveN (vs := [.agg #[.int .i64 ((tag / 8 : Nat) : Int), .int .i64 2, .int .u64 0, S (List.take v s2)], S (List.drop v (s2)), .nilIface]) (resv_cells (cs := [.int .i64 ((tag / 8 : Nat) : Int), .int .i64 2, .int .u64 0, S (List.take v s2)]) rfl rfl h1 rfl (resv_tmp rfl (resv_tmp rfl resv_nil))) ⟨by rw [hT]; rfl, h3⟩
        · rw [if_neg h2] at hT
          have h2' : ((tag % 8 : Nat) : Int) ≠ 2 := by omega
          by_cases h1 : tag % 8 = 1
          · rw [if_pos h1] at hT
            rw [h1, if_pos (by decide), decide_eq_true (by decide)]
            rw [h1] at hr2
            by_cases hv : s1.length < 8
            · rw [if_pos hv] at hT
              (repeat first | (apply wr_move; exact rfl; with_reducible (conv => enter [6, 3]; whnf)) | (apply wr_assign; exact rfl; with_reducible (conv => enter [6, 3]; whnf)) | apply wr_end | apply wc_seq | apply wc_region | apply wc_skip | apply wc_block | (apply wr_fieldAddr; iterate 2 exact rfl) | (apply wr_not; iterate 2 exact rfl) | (apply wr_len_str; iterate 2 exact rfl) | (apply wr_load; (iterate 3 exact rfl); (focus repeat first | with_reducible assumption | exact heap_alloc_same _ _ | exact World.putObj_heap_same (by first | omega | (simp only [World.size_alloc, World.putObj_size, ne_eq]; omega)) | ((first | refine hAl ?_ ?_ | refine hPu ?_ ?_); focus first | omega | (simp only [World.size_alloc, World.putObj_size, ne_eq]; omega))); exact rfl; conv => enter [6, 3]; whnf) | (apply wr_cmp; (iterate 3 exact rfl); exact cmpT (by dsimp only [cmpP]; first | done | omega)) | (apply wr_cmp; (iterate 3 exact rfl); exact cmpF (by dsimp only [cmpN]; first | done | omega)) | (apply wr_pick (t := false); (iterate 2 exact rfl); with_reducible (conv => enter [6, 3]; whnf)) | (apply wr_conv; (iterate 2 exact rfl); exact w_fit (by dsimp only [kIn]; first | done | omega)) | (apply wr_extract; (iterate 3 exact rfl); with_reducible (conv => enter [6, 3]; whnf)) | (apply wc_true; exact rfl) | (apply wc_false; exact rfl))
              refine wc_drawS (l := _) (S := fun w' => w'.heap[w.heap.size]? = some (.cells #[.int .i64 ((tag / 8 : Nat) : Int), .int .i64 1, .int .u64 0, S []] 101 (0, 0)) ∧ w'.heap[0]? = some (.cells #[Er p] t0 r0) ∧ Keeps NoB w w') (by kernel_rfl) (by kernel_rfl) ⟨hr2, hg2, hk2.drew⟩ ?_
              apply ch_step
              focus
                intro w' hS
                obtain ⟨h1, h2, h3⟩ := hS
                refine wr_loadAll (cs := [.int .i64 ((tag / 8 : Nat) : Int), .int .i64 1, .int .u64 0, S []]) rfl rfl rfl h1 rfl ?_
                apply wr_nil
                exact ⟨rfl, h1, h2, h3⟩
              apply ch_step
              focus
                intro w' hS
                obtain ⟨h1, h2, h3⟩ := hS
                apply wr_move; exact rfl
                apply wr_nil
                exact ⟨rfl, h1, h2, h3⟩
              apply ch_step
              focus
                intro w' hS
                obtain ⟨h1, h2, h3⟩ := hS
                refine wr_load rfl rfl rfl h2 rfl ?_
                apply wr_nil
                exact ⟨rfl, h1, h2, h3⟩
              apply ch_step
              focus
                intro w' hS
                obtain ⟨h1, h2, h3⟩ := hS
                refine wr_storeAll (cs := [.int .i64 ((tag / 8 : Nat) : Int), .int .i64 1, .int .u64 0, S []]) rfl rfl rfl (by intro u hu; simp at hu; rcases hu with rfl | rfl | rfl | rfl <;> rfl) h1 rfl rfl ?_
                apply wr_nil
                exact ⟨rfl, World.putObj_heap_same (lt_of_heap h1), (heap_put_ne _ _ (by have := lt_of_heap hg0; have := lt_of_heap hg1; omega)).trans h2, h3.put _ (fun h => by omega)⟩
              apply ch_step
              focus
                intro w' hS
                obtain ⟨h1, h2, h3⟩ := hS
                apply wr_assign; exact rfl
                apply wr_nil
                exact ⟨rfl, h1, h2, h3⟩
              apply ch_step
              focus
                intro w' hS
                obtain ⟨h1, h2, h3⟩ := hS
                apply wr_assign; exact rfl
                apply wr_nil
                exact ⟨rfl, h1, h2, h3⟩
              refine ch_nil ?_
              intro w' hS
              obtain ⟨h1, h2, h3⟩ := hS
              (repeat first | (apply wc_ret; try simp only [thenE, inBlockE, bodyQ]))
              refine leaveN (vs := [.agg #[.int .i64 ((tag / 8 : Nat) : Int), .int .i64 1, .int .u64 0, S []], S s1, Er p]) (resv_cells (cs := [.int .i64 ((tag / 8 : Nat) : Int), .int .i64 1, .int .u64 0, S []]) rfl rfl h1 rfl (resv_tmp rfl (resv_tmp rfl resv_nil))) ⟨by rw [hT]; exact ⟨⟨((tag / 8 : Nat) : Int), 1, 0, []⟩, s1, rfl⟩, h3⟩
            · rw [if_neg hv] at hT
              have hvl : 8 ≤ s1.length := by omega
              (repeat first | (apply wr_move; exact rfl; with_reducible (conv => enter [6, 3]; whnf)) | (apply wr_assign; exact rfl; with_reducible (conv => enter [6, 3]; whnf)) | apply wr_end | apply wc_seq | apply wc_region | apply wc_skip | apply wc_block | (apply wr_fieldAddr; iterate 2 exact rfl) | (apply wr_not; iterate 2 exact rfl) | (apply wr_len_str; iterate 2 exact rfl) | (apply wr_load; (iterate 3 exact rfl); (focus repeat first | with_reducible assumption | exact heap_alloc_same _ _ | exact World.putObj_heap_same (by first | omega | (simp only [World.size_alloc, World.putObj_size, ne_eq]; omega)) | ((first | refine hAl ?_ ?_ | refine hPu ?_ ?_); focus first | omega | (simp only [World.size_alloc, World.putObj_size, ne_eq]; omega))); exact rfl; conv => enter [6, 3]; whnf) | (apply wr_cmp; (iterate 3 exact rfl); exact cmpF (by dsimp only [cmpN]; first | done | omega)) | (apply wr_pick (t := false); (iterate 2 exact rfl); with_reducible (conv => enter [6, 3]; whnf)) | (apply wr_conv; (iterate 2 exact rfl); exact w_fit (by dsimp only [kIn]; first | done | omega)) | (apply wr_extract; (iterate 3 exact rfl); with_reducible (conv => enter [6, 3]; whnf)) | (apply wc_false; exact rfl))
              refine wr_sl_to (l := s1) (j := 8) rfl rfl rfl hvl ?_
              (repeat first | apply wr_end | apply wc_seq | (apply wr_fieldAddr; iterate 2 exact rfl) | (apply wr_store; (iterate 3 exact rfl); (first | exact rfl | with_reducible assumption); (focus repeat first | with_reducible assumption | exact heap_alloc_same _ _ | exact World.putObj_heap_same (by first | omega | (simp only [World.size_alloc, World.putObj_size, ne_eq]; omega)) | ((first | refine hAl ?_ ?_ | refine hPu ?_ ?_); focus first | omega | (simp only [World.size_alloc, World.putObj_size, ne_eq]; omega))); exact rfl))
              refine wc_drawS (l := _) (S := fun w' => w'.heap[w.heap.size]? = some (.cells #[.int .i64 ((tag / 8 : Nat) : Int), .int .i64 1, .int .u64 0, S (List.take 8 s1)] 101 (0, 0)) ∧ Keeps NoB w w') (by kernel_rfl) (by kernel_rfl) (by exact ⟨World.putObj_heap_same (lt_of_heap hr2), Keeps.drew (hk2.put _ (fun h => by omega))⟩) ?_
              apply ch_step
              focus
                intro w' hS
                obtain ⟨h1, h3⟩ := hS
                refine wr_loadAll (cs := [.int .i64 ((tag / 8 : Nat) : Int), .int .i64 1, .int .u64 0, S (List.take 8 s1)]) rfl rfl rfl h1 rfl ?_
                apply wr_nil
                exact ⟨rfl, h1, h3⟩
              apply ch_step
              focus
                intro w' hS
                obtain ⟨h1, h3⟩ := hS
                apply wr_move; exact rfl
                apply wr_nil
                exact ⟨rfl, h1, h3⟩
              apply ch_step
              focus
                intro w' hS
                obtain ⟨h1, h3⟩ := hS
                apply wr_move; exact rfl
                apply wr_nil
                exact ⟨rfl, h1, h3⟩
              apply ch_step
              focus
                intro w' hS
                obtain ⟨h1, h3⟩ := hS
                refine wr_sl_from (l := s1) (i := 8) rfl rfl rfl hvl ?_
                apply wr_nil
                exact ⟨rfl, h1, h3⟩
              apply ch_step
              focus
                intro w' hS
                obtain ⟨h1, h3⟩ := hS
                refine wr_storeAll (cs := [.int .i64 ((tag / 8 : Nat) : Int), .int .i64 1, .int .u64 0, S (List.take 8 s1)]) rfl rfl rfl (by intro u hu; simp at hu; rcases hu with rfl | rfl | rfl | rfl <;> rfl) h1 rfl rfl ?_
                apply wr_nil
                exact ⟨rfl, World.putObj_heap_same (lt_of_heap h1), h3.put _ (fun h => by omega)⟩
              apply ch_step
              focus
                intro w' hS
                obtain ⟨h1, h3⟩ := hS
                apply wr_assign; exact rfl
                apply wr_nil
                exact ⟨rfl, h1, h3⟩
              apply ch_step
              focus
                intro w' hS
                obtain ⟨h1, h3⟩ := hS
                apply wr_assign; exact rfl
                apply wr_nil
                exact ⟨rfl, h1, h3⟩
              refine ch_nil ?_
              intro w' hS
              obtain ⟨h1, h3⟩ := hS
              (repeat first | (apply wc_ret; try simp only [thenE, inBlockE, bodyQ]))
              refine leaveN (vs := [.agg #[.int .i64 ((tag / 8 : Nat) : Int), .int .i64 1, .int .u64 0, S (List.take 8 s1)], S (List.drop 8 (s1)), .nilIface]) (resv_cells (cs := [.int .i64 ((tag / 8 : Nat) : Int), .int .i64 1, .int .u64 0, S (List.take 8 s1)]) rfl rfl h1 rfl (resv_tmp rfl (resv_tmp rfl resv_nil))) ⟨by rw [hT]; rfl, h3⟩
          · rw [if_neg h1] at hT
            by_cases h5 : tag % 8 = 5
            · rw [if_pos h5] at hT
              rw [h5, if_neg (by decide), if_pos (by decide), decide_eq_true (by decide)]
              rw [h5] at hr2
              by_cases hv : s1.length < 4
              · rw [if_pos hv] at hT
                (repeat first | (apply wr_move; exact rfl; with_reducible (conv => enter [6, 3]; whnf)) | (apply wr_assign; exact rfl; with_reducible (conv => enter [6, 3]; whnf)) | apply wr_end | apply wc_seq | apply wc_region | apply wc_skip | apply wc_block | (apply wr_fieldAddr; iterate 2 exact rfl) | (apply wr_not; iterate 2 exact rfl) | (apply wr_len_str; iterate 2 exact rfl) | (apply wr_load; (iterate 3 exact rfl); (focus repeat first | with_reducible assumption | exact heap_alloc_same _ _ | exact World.putObj_heap_same (by first | omega | (simp only [World.size_alloc, World.putObj_size, ne_eq]; omega)) | ((first | refine hAl ?_ ?_ | refine hPu ?_ ?_); focus first | omega | (simp only [World.size_alloc, World.putObj_size, ne_eq]; omega))); exact rfl; conv => enter [6, 3]; whnf) | (apply wr_cmp; (iterate 3 exact rfl); exact cmpT (by dsimp only [cmpP]; first | done | omega)) | (apply wr_cmp; (iterate 3 exact rfl); exact cmpF (by dsimp only [cmpN]; first | done | omega)) | (apply wr_pick (t := false); (iterate 2 exact rfl); with_reducible (conv => enter [6, 3]; whnf)) | (apply wr_conv; (iterate 2 exact rfl); exact w_fit (by dsimp only [kIn]; first | done | omega)) | (apply wr_extract; (iterate 3 exact rfl); with_reducible (conv => enter [6, 3]; whnf)) | (apply wc_true; exact rfl) | (apply wc_false; exact rfl))
                refine wc_drawS (l := _) (S := fun w' => w'.heap[w.heap.size]? = some (.cells #[.int .i64 ((tag / 8 : Nat) : Int), .int .i64 5, .int .u64 0, S []] 101 (0, 0)) ∧ w'.heap[0]? = some (.cells #[Er p] t0 r0) ∧ Keeps NoB w w') (by kernel_rfl) (by kernel_rfl) ⟨hr2, hg2, hk2.drew⟩ ?_
                apply ch_step
                focus
                  intro w' hS
                  obtain ⟨h1, h2, h3⟩ := hS
                  refine wr_loadAll (cs := [.int .i64 ((tag / 8 : Nat) : Int), .int .i64 5, .int .u64 0, S []]) rfl rfl rfl h1 rfl ?_
                  apply wr_nil
                  exact ⟨rfl, h1, h2, h3⟩
                apply ch_step
                focus
                  intro w' hS
                  obtain ⟨h1, h2, h3⟩ := hS
                  apply wr_move; exact rfl
                  apply wr_nil
                  exact ⟨rfl, h1, h2, h3⟩
                apply ch_step
                focus
                  intro w' hS
                  obtain ⟨h1, h2, h3⟩ := hS
                  refine wr_load rfl rfl rfl h2 rfl ?_
                  apply wr_nil
                  exact ⟨rfl, h1, h2, h3⟩
                apply ch_step
                focus
                  intro w' hS
                  obtain ⟨h1, h2, h3⟩ := hS
                  refine wr_storeAll (cs := [.int .i64 ((tag / 8 : Nat) : Int), .int .i64 5, .int .u64 0, S []]) rfl rfl rfl (by intro u hu; simp at hu; rcases hu with rfl | rfl | rfl | rfl <;> rfl) h1 rfl rfl ?_
                  apply wr_nil
                  exact ⟨rfl, World.putObj_heap_same (lt_of_heap h1), (heap_put_ne _ _ (by have := lt_of_heap hg0; have := lt_of_heap hg1; omega)).trans h2, h3.put _ (fun h => by omega)⟩
                apply ch_step
                focus
                  intro w' hS
                  obtain ⟨h1, h2, h3⟩ := hS
                  apply wr_assign; exact rfl
                  apply wr_nil
                  exact ⟨rfl, h1, h2, h3⟩
                apply ch_step
                focus
                  intro w' hS
                  obtain ⟨h1, h2, h3⟩ := hS
                  apply wr_assign; exact rfl
                  apply wr_nil
                  exact ⟨rfl, h1, h2, h3⟩
                refine ch_nil ?_
                intro w' hS
                obtain ⟨h1, h2, h3⟩ := hS
                (repeat first | (apply wc_ret; try simp only [thenE, inBlockE, bodyQ]))
                refine leaveN (vs := [.agg #[.int .i64 ((tag / 8 : Nat) : Int), .int .i64 5, .int .u64 0, S []], S s1, Er p]) (resv_cells (cs := [.int .i64 ((tag / 8 : Nat) : Int), .int .i64 5, .int .u64 0, S []]) rfl rfl h1 rfl (resv_tmp rfl (resv_tmp rfl resv_nil))) ⟨by rw [hT]; exact ⟨⟨((tag / 8 : Nat) : Int), 5, 0, []⟩, s1, rfl⟩, h3⟩
              · rw [if_neg hv] at hT
                have hvl : 4 ≤ s1.length := by omega
                (repeat first | (apply wr_move; exact rfl; with_reducible (conv => enter [6, 3]; whnf)) | (apply wr_assign; exact rfl; with_reducible (conv => enter [6, 3]; whnf)) | apply wr_end | apply wc_seq | apply wc_region | apply wc_skip | apply wc_block | (apply wr_fieldAddr; iterate 2 exact rfl) | (apply wr_not; iterate 2 exact rfl) | (apply wr_len_str; iterate 2 exact rfl) | (apply wr_load; (iterate 3 exact rfl); (focus repeat first | with_reducible assumption | exact heap_alloc_same _ _ | exact World.putObj_heap_same (by first | omega | (simp only [World.size_alloc, World.putObj_size, ne_eq]; omega)) | ((first | refine hAl ?_ ?_ | refine hPu ?_ ?_); focus first | omega | (simp only [World.size_alloc, World.putObj_size, ne_eq]; omega))); exact rfl; conv => enter [6, 3]; whnf) | (apply wr_cmp; (iterate 3 exact rfl); exact cmpF (by dsimp only [cmpN]; first | done | omega)) | (apply wr_pick (t := false); (iterate 2 exact rfl); with_reducible (conv => enter [6, 3]; whnf)) | (apply wr_conv; (iterate 2 exact rfl); exact w_fit (by dsimp only [kIn]; first | done | omega)) | (apply wr_extract; (iterate 3 exact rfl); with_reducible (conv => enter [6, 3]; whnf)) | (apply wc_false; exact rfl))
                refine wr_sl_to (l := s1) (j := 4) rfl rfl rfl hvl ?_
                (repeat first | apply wr_end | apply wc_seq | (apply wr_fieldAddr; iterate 2 exact rfl) | (apply wr_store; (iterate 3 exact rfl); (first | exact rfl | with_reducible assumption); (focus repeat first | with_reducible assumption | exact heap_alloc_same _ _ | exact World.putObj_heap_same (by first | omega | (simp only [World.size_alloc, World.putObj_size, ne_eq]; omega)) | ((first | refine hAl ?_ ?_ | refine hPu ?_ ?_); focus first | omega | (simp only [World.size_alloc, World.putObj_size, ne_eq]; omega))); exact rfl))
                refine wc_drawS (l := _) (S := fun w' => w'.heap[w.heap.size]? = some (.cells #[.int .i64 ((tag / 8 : Nat) : Int), .int .i64 5, .int .u64 0, S (List.take 4 s1)] 101 (0, 0)) ∧ Keeps NoB w w') (by kernel_rfl) (by kernel_rfl) (by exact ⟨World.putObj_heap_same (lt_of_heap hr2), Keeps.drew (hk2.put _ (fun h => by omega))⟩) ?_
                apply ch_step
                focus
                  intro w' hS
                  obtain ⟨h1, h3⟩ := hS
                  refine wr_loadAll (cs := [.int .i64 ((tag / 8 : Nat) : Int), .int .i64 5, .int .u64 0, S (List.take 4 s1)]) rfl rfl rfl h1 rfl ?_
                  apply wr_nil
                  exact ⟨rfl, h1, h3⟩
                apply ch_step
                focus
                  intro w' hS
                  obtain ⟨h1, h3⟩ := hS
                  apply wr_move; exact rfl
                  apply wr_nil
                  exact ⟨rfl, h1, h3⟩
                apply ch_step
                focus
                  intro w' hS
                  obtain ⟨h1, h3⟩ := hS
                  apply wr_move; exact rfl
                  apply wr_nil
                  exact ⟨rfl, h1, h3⟩
                apply ch_step
                focus
                  intro w' hS
                  obtain ⟨h1, h3⟩ := hS
                  refine wr_sl_from (l := s1) (i := 4) rfl rfl rfl hvl ?_
                  apply wr_nil
                  exact ⟨rfl, h1, h3⟩
                apply ch_step
                focus
                  intro w' hS
                  obtain ⟨h1, h3⟩ := hS
                  refine wr_storeAll (cs := [.int .i64 ((tag / 8 : Nat) : Int), .int .i64 5, .int .u64 0, S (List.take 4 s1)]) rfl rfl rfl (by intro u hu; simp at hu; rcases hu with rfl | rfl | rfl | rfl <;> rfl) h1 rfl rfl ?_
                  apply wr_nil
                  exact ⟨rfl, World.putObj_heap_same (lt_of_heap h1), h3.put _ (fun h => by omega)⟩
                apply ch_step
                focus
                  intro w' hS
                  obtain ⟨h1, h3⟩ := hS
                  apply wr_assign; exact rfl
                  apply wr_nil
                  exact ⟨rfl, h1, h3⟩
                apply ch_step
                focus
                  intro w' hS
                  obtain ⟨h1, h3⟩ := hS
                  apply wr_assign; exact rfl
                  apply wr_nil
                  exact ⟨rfl, h1, h3⟩
                refine ch_nil ?_
                intro w' hS
                obtain ⟨h1, h3⟩ := hS
                (repeat first | (apply wc_ret; try simp only [thenE, inBlockE, bodyQ]))
                refine leaveN (vs := [.agg #[.int .i64 ((tag / 8 : Nat) : Int), .int .i64 5, .int .u64 0, S (List.take 4 s1)], S (List.drop 4 (s1)), .nilIface]) (resv_cells (cs := [.int .i64 ((tag / 8 : Nat) : Int), .int .i64 5, .int .u64 0, S (List.take 4 s1)]) rfl rfl h1 rfl (resv_tmp rfl (resv_tmp rfl resv_nil))) ⟨by rw [hT]; rfl, h3⟩
            · rw [if_neg h5] at hT
              rw [if_neg (by omega), if_neg (by omega), decide_eq_false (by omega)]
              (repeat first | (apply wr_move; exact rfl; with_reducible (conv => enter [6, 3]; whnf)) | (apply wr_assign; exact rfl; with_reducible (conv => enter [6, 3]; whnf)) | apply wr_end | apply wc_seq | apply wc_region | apply wc_skip | apply wc_block | (apply wr_fieldAddr; iterate 2 exact rfl) | (apply wr_not; iterate 2 exact rfl) | (apply wr_load; (iterate 3 exact rfl); (focus repeat first | with_reducible assumption | exact heap_alloc_same _ _ | exact World.putObj_heap_same (by first | omega | (simp only [World.size_alloc, World.putObj_size, ne_eq]; omega)) | ((first | refine hAl ?_ ?_ | refine hPu ?_ ?_); focus first | omega | (simp only [World.size_alloc, World.putObj_size, ne_eq]; omega))); exact rfl; conv => enter [6, 3]; whnf) | (apply wr_cmp; (iterate 3 exact rfl); exact cmpF (by dsimp only [cmpN]; first | done | omega)) | (apply wr_pick (t := false); (iterate 2 exact rfl); with_reducible (conv => enter [6, 3]; whnf)) | (apply wr_conv; (iterate 2 exact rfl); exact w_fit (by dsimp only [kIn]; first | done | omega)) | (apply wr_extract; (iterate 3 exact rfl); with_reducible (conv => enter [6, 3]; whnf)) | (apply wc_true; exact rfl) | (apply wc_false; exact rfl))
              refine wc_drawS (l := _) (S := fun w' => w'.heap[w.heap.size]? = some (.cells #[.int .i64 ((tag / 8 : Nat) : Int), .int .i64 ((tag % 8 : Nat) : Int), .int .u64 0, S []] 101 (0, 0)) ∧ w'.heap[1]? = some (.cells #[Er q] t1 r1) ∧ Keeps NoB w w') (by kernel_rfl) (by kernel_rfl) ⟨hr2, hg3, hk2.drew⟩ ?_
              apply ch_step
              focus
                intro w' hS
                obtain ⟨h1, h2, h3⟩ := hS
                refine wr_loadAll (cs := [.int .i64 ((tag / 8 : Nat) : Int), .int .i64 ((tag % 8 : Nat) : Int), .int .u64 0, S []]) rfl rfl rfl h1 rfl ?_
                apply wr_nil
                exact ⟨rfl, h1, h2, h3⟩
              apply ch_step
              focus
                intro w' hS
                obtain ⟨h1, h2, h3⟩ := hS
                apply wr_move; exact rfl
                apply wr_nil
                exact ⟨rfl, h1, h2, h3⟩
              apply ch_step
              focus
                intro w' hS
                obtain ⟨h1, h2, h3⟩ := hS
                refine wr_load rfl rfl rfl h2 rfl ?_
                apply wr_nil
                exact ⟨rfl, h1, h2, h3⟩
              apply ch_step
              focus
                intro w' hS
                obtain ⟨h1, h2, h3⟩ := hS
                refine wr_storeAll (cs := [.int .i64 ((tag / 8 : Nat) : Int), .int .i64 ((tag % 8 : Nat) : Int), .int .u64 0, S []]) rfl rfl rfl (by intro u hu; simp at hu; rcases hu with rfl | rfl | rfl | rfl <;> rfl) h1 rfl rfl ?_
                apply wr_nil
                exact ⟨rfl, World.putObj_heap_same (lt_of_heap h1), (heap_put_ne _ _ (by have := lt_of_heap hg0; have := lt_of_heap hg1; omega)).trans h2, h3.put _ (fun h => by omega)⟩
              apply ch_step
              focus
                intro w' hS
                obtain ⟨h1, h2, h3⟩ := hS
                apply wr_assign; exact rfl
                apply wr_nil
                exact ⟨rfl, h1, h2, h3⟩
              apply ch_step
              focus
                intro w' hS
                obtain ⟨h1, h2, h3⟩ := hS
                apply wr_assign; exact rfl
                apply wr_nil
                exact ⟨rfl, h1, h2, h3⟩
              refine ch_nil ?_
              intro w' hS
              obtain ⟨h1, h2, h3⟩ := hS
              (repeat first | (apply wc_ret; try simp only [thenE, inBlockE, bodyQ]))
              refine leaveN (vs := [.agg #[.int .i64 ((tag / 8 : Nat) : Int), .int .i64 ((tag % 8 : Nat) : Int), .int .u64 0, S []], S s1, Er q]) (resv_cells (cs := [.int .i64 ((tag / 8 : Nat) : Int), .int .i64 ((tag % 8 : Nat) : Int), .int .u64 0, S []]) rfl rfl h1 rfl (resv_tmp rfl (resv_tmp rfl resv_nil))) ⟨by rw [hT]; exact ⟨⟨((tag / 8 : Nat) : Int), ((tag % 8 : Nat) : Int), 0, []⟩, s1, rfl⟩, h3⟩
end Go.Proofs.YthlbgeonobicbaaDoor

namespace Go.Proofs.YthlbgeonobicbaaDoor
open Go Go.V Go.RowKit
set_option linter.unusedVariables false
set_option linter.unusedSimpArgs false

theorem takeF_lt {s : List UInt8} {f : WF} {r : List UInt8} (h : takeF s = .ok f r) : r.length < s.length := by
  unfold takeF at h
  cases hrv : readVarint s with
  | none => rw [hrv] at h; cases h
  | some nk =>
    obtain ⟨tag, n⟩ := nk
    obtain ⟨_, h1, h2⟩ := readVarint_bounds hrv
    rw [hrv] at h
    dsimp only at h
    split at h
    · cases h
    · split at h
      · split at h
        · cases h
        · simp only [TR.ok.injEq] at h
          rw [← h.2]; simp; omega
      · split at h
        · split at h
          · cases h
          · split at h
            · cases h
            · simp only [TR.ok.injEq] at h
              rw [← h.2]; simp; omega
        · split at h
          · split at h
            · cases h
            · simp only [TR.ok.injEq] at h
              rw [← h.2]; simp; omega
          · split at h
            · split at h
              · cases h
              · simp only [TR.ok.injEq] at h
                rw [← h.2]; simp; omega
            · cases h
/-- The fields of bytes. -/
def parseF (s : List UInt8) : Option (List WF) := if s = [] then some [] else
  match h : takeF s with
  | .ok f r => (parseF r).map (f :: ·)
  | _ => none
termination_by s.length
decreasing_by exact takeF_lt h
theorem parseF_nil : parseF [] = some [] := by unfold parseF; rw [if_pos rfl]
theorem parseF_ok {s : List UInt8} {f : WF} {r : List UInt8} (hs : s ≠ []) (h : takeF s = .ok f r) : parseF s = (parseF r).map (f :: ·) := by
  rw [parseF, if_neg hs]
  split
  · rename_i f' r' h'; rw [h] at h'; cases h'; rfl
  · rename_i h'; exact absurd h (h' f r)
theorem parseF_no {s : List UInt8} (hs : s ≠ []) (h : takeF s = .short ∨ takeF s = .wrong) : parseF s = none := by
  rw [parseF, if_neg hs]
  split
  · rename_i f' r' h'; rw [h'] at h; rcases h with h | h <;> cases h
  · rfl
set_option maxRecDepth 100000 in
theorem fields_ca (s : List UInt8) (w : World) : Ca Tryd.prog 80 #[S s] w fun v w' => v = .func (.func 88) #[] #[.pointer (some ⟨w.heap.size, 0, none⟩)] ∧
    w'.heap[w.heap.size]? = some (.cells #[S s] 9 (0, 0)) ∧ Keeps NoB w w' ∧ w'.heap.size = w.heap.size + 1 := by
  refine ca_of_body (args := [S s]) Tryd.func80 rfl (by kernel_rfl) ?_
  (repeat first | (apply wr_assign; exact rfl; with_reducible (conv => enter [6, 3]; whnf)) | apply wr_end | apply wc_seq | apply wc_region | (apply wr_box; iterate 2 exact rfl))
  refine wr_makeFunc (v1 := []) (v2 := [.pointer (some ⟨w.heap.size, 0, none⟩)]) rfl rfl rfl ?_
  (repeat first | (apply wr_assign; exact rfl; with_reducible (conv => enter [6, 3]; whnf)) | apply wr_end | (apply wc_ret; try simp only [thenE, inBlockE, bodyQ]))
  exact leave1 (v := .func (.func 88) #[] #[.pointer (some ⟨w.heap.size, 0, none⟩)]) rfl rfl ⟨rfl, heap_alloc_same _ _, (Keeps.refl _ _).alloc _, by simp⟩
set_option maxRecDepth 100000 in
set_option maxHeartbeats 2000000 in
theorem fields1_ca {yv : Value} {bs : Nat} {p q : Addr} {I : List UInt8 → World → Prop} {J : World → Prop} (hst : ∀ s w w', I s w → Keeps (· = bs) w w' → I s w') (hglo : ∀ s w, I s w → Glo w p q)
    (hok : ∀ s f r w, I s w → s ≠ [] → takeF s = .ok f r → CallV Tryd.prog yv #[f.v, .nilIface] w fun v w' => v = .bool true ∧ I r w' ∧ w'.heap[bs]? = w.heap[bs]?)
    (herr : ∀ s (f : WF) k e w, I s w → s ≠ [] → (takeF s = .short ∧ e = Er p ∨ takeF s = .wrong ∧ e = Er q) → CallV Tryd.prog yv #[f.v, At k e] w fun v w' => J w')
    {s : List UInt8} {w : World} (h0 : I s w) (hb : w.heap[bs]? = some (.cells #[S s] 9 (0, 0))) (hs : s.length ≤ 4611686018427387904) :
    Ca Tryd.prog 88 #[yv, .pointer (some ⟨bs, 0, none⟩)] w fun v w' => ((parseF s).isSome = true ∧ I [] w') ∨ (parseF s = none ∧ J w') := by
  refine ca_of_body (args := [yv, .pointer (some ⟨bs, 0, none⟩)]) Tryd.func88 rfl (by kernel_rfl) ?_
  (repeat first | (apply wr_assign; exact rfl; with_reducible (conv => enter [6, 3]; whnf)) | apply wr_end | apply wc_seq | apply wc_region | apply wc_block | (apply wr_len_str; iterate 2 exact rfl) | (apply wr_load; (iterate 3 exact rfl); (focus repeat first | with_reducible assumption | exact heap_alloc_same _ _ | exact World.putObj_heap_same (by first | omega | (simp only [World.size_alloc, World.putObj_size, ne_eq]; omega)) | ((first | refine hAl ?_ ?_ | refine hPu ?_ ?_); focus first | omega | (simp only [World.size_alloc, World.putObj_size, ne_eq]; omega))); exact rfl; conv => enter [6, 3]; whnf))
  refine wc_loopL (α := List UInt8) (fun x => [(0, yv), (1, .pointer (some ⟨bs, 0, none⟩)), (3, .int .i64 (s.length : Int))])
    (fun x ds w' => ds = [] ∧ I x w' ∧ w'.heap[bs]? = some (.cells #[S x] 9 (0, 0)) ∧ (parseF s).isSome = (parseF x).isSome ∧ x.length ≤ s.length) List.length s ⟨rfl, h0, hb, rfl, Nat.le_refl _⟩ ⟨rfl, rfl, rfl, trivial⟩ ?_
  rintro x ds f0 w2 ⟨rfl, hI, hb2, hps, hxl⟩
  by_cases hx : x = []
  · subst hx
    (repeat first | apply wr_end | apply wc_seq | apply wc_region | (apply wr_load; (iterate 3 exact rfl); (focus repeat first | with_reducible assumption | exact heap_alloc_same _ _ | exact World.putObj_heap_same (by first | omega | (simp only [World.size_alloc, World.putObj_size, ne_eq]; omega)) | ((first | refine hAl ?_ ?_ | refine hPu ?_ ?_); focus first | omega | (simp only [World.size_alloc, World.putObj_size, ne_eq]; omega))); exact rfl; conv => enter [6, 3]; whnf) | (apply wr_strnec; (iterate 3 exact rfl); (first | exact decide_eq_true (by with_reducible assumption) | exact decide_eq_false (by with_reducible assumption) | exact decide_eq_true rfl | exact rfl); with_reducible (conv => enter [6, 3]; whnf)) | (apply wc_false; exact rfl) | (apply wc_exit; try simp only [thenE, inBlockE, bodyQ, ↓reduceIte, Nat.reduceEqDiff]))
    refine leave0 rfl (.inl ⟨by rw [hps, parseF_nil]; rfl, hI⟩)
  · (repeat first | apply wr_end | apply wc_seq | apply wc_region | apply wc_skip | apply wc_block | (apply wr_load; (iterate 3 exact rfl); (focus repeat first | with_reducible assumption | exact heap_alloc_same _ _ | exact World.putObj_heap_same (by first | omega | (simp only [World.size_alloc, World.putObj_size, ne_eq]; omega)) | ((first | refine hAl ?_ ?_ | refine hPu ?_ ?_); focus first | omega | (simp only [World.size_alloc, World.putObj_size, ne_eq]; omega))); exact rfl; conv => enter [6, 3]; whnf) | (apply wr_strnec; (iterate 3 exact rfl); (first | exact decide_eq_true (by with_reducible assumption) | exact decide_eq_false (by with_reducible assumption) | exact decide_eq_true rfl | exact rfl); with_reducible (conv => enter [6, 3]; whnf)) | (apply wc_true; exact rfl))
    refine wr_call (vs := [S x]) rfl (take_ca x (by omega) (hglo x w2 hI)) rfl ?_
    rintro v w3 ⟨hv, hk3⟩
    have hI3 := hst x w2 w3 hI (hk3.mono fun _ _ h => h.elim)
    have hb3 := hk3.heap hb2 (fun h => h)
    have hsz3 := lt_of_heap hb3
    cases hT : takeF x with
    | ok f r =>
      rw [hT] at hv
      simp only [takeR] at hv
      subst hv
      obtain ⟨fn, fk, fv, fs⟩ := f
      dsimp only [WF.v]
      (repeat first | (apply wr_move; exact rfl; with_reducible (conv => enter [6, 3]; whnf)) | (apply wr_alloc; exact rfl) | (apply wr_extract; (iterate 3 exact rfl); with_reducible (conv => enter [6, 3]; whnf)))
      refine wr_storeAll (cs := [.int .i64 fn, .int .i64 fk, .int .u64 (fv : Int), S fs]) rfl rfl rfl (by intro u hu; simp at hu; rcases hu with rfl | rfl | rfl | rfl <;> rfl) (heap_alloc_same _ _) rfl rfl ?_
      (repeat first | (apply wr_move; exact rfl; with_reducible (conv => enter [6, 3]; whnf)) | (apply wr_assign; exact rfl; with_reducible (conv => enter [6, 3]; whnf)) | apply wr_end | apply wc_seq | apply wc_region | apply wc_skip | (apply wr_nenil_f; iterate 2 exact rfl) | (apply wc_false; exact rfl))
      refine wr_loadAll (cs := [.int .i64 fn, .int .i64 fk, .int .u64 (fv : Int), S fs]) rfl rfl rfl (by focus repeat first | with_reducible assumption | exact heap_alloc_same _ _ | exact World.putObj_heap_same (by first | omega | (simp only [World.size_alloc, World.putObj_size, ne_eq]; omega)) | ((first | refine hAl ?_ ?_ | refine hPu ?_ ?_); focus first | omega | (simp only [World.size_alloc, World.putObj_size, ne_eq]; omega))) rfl ?_
      refine wr_callv (vs := [.agg #[.int .i64 fn, .int .i64 fk, .int .u64 (fv : Int), S fs], .nilIface]) rfl (hok x ⟨fn, fk, fv, fs⟩ r _ (hst x w3 _ hI3 (((Keeps.refl _ w3).alloc _).put _ (fun h => by omega))) hx hT) rfl rfl ?_
      rintro v w4 ⟨rfl, hI4, hb4⟩
      have hb4' : w4.heap[bs]? = some (.cells #[S x] 9 (0, 0)) := hb4.trans ((heap_put_ne _ _ (by omega)).trans ((heap_alloc_ne _ _ (by omega)).trans hb3))
      (repeat first | (apply wr_move; exact rfl; with_reducible (conv => enter [6, 3]; whnf)) | apply wr_end | apply wc_region | apply wc_skip | (apply wr_not; iterate 2 exact rfl) | (apply wr_store; (iterate 3 exact rfl); (first | exact rfl | with_reducible assumption); (focus repeat first | with_reducible assumption | exact heap_alloc_same _ _ | exact World.putObj_heap_same (by first | omega | (simp only [World.size_alloc, World.putObj_size, ne_eq]; omega)) | ((first | refine hAl ?_ ?_ | refine hPu ?_ ?_); focus first | omega | (simp only [World.size_alloc, World.putObj_size, ne_eq]; omega))); exact rfl) | (apply wc_false; exact rfl) | (apply wr_nil; try simp only [thenE, inBlockE, bodyQ]))
      refine ⟨r, takeF_lt hT, ⟨by trivial, hst r w4 _ hI4 ((Keeps.refl _ w4).put _ (fun h => rfl)), World.putObj_heap_same (lt_of_heap hb4'), ?_, by have := takeF_lt hT; omega⟩, rfl, rfl, rfl, trivial⟩
      rw [hps, parseF_ok hx hT]; simp
    | short =>
      rw [hT] at hv
      obtain ⟨⟨fn, fk, fv, fs⟩, r, rfl⟩ := hv
      dsimp only [WF.v]
      (repeat first | (apply wr_move; exact rfl; with_reducible (conv => enter [6, 3]; whnf)) | (apply wr_alloc; exact rfl) | (apply wr_extract; (iterate 3 exact rfl); with_reducible (conv => enter [6, 3]; whnf)))
      refine wr_storeAll (cs := [.int .i64 fn, .int .i64 fk, .int .u64 (fv : Int), S fs]) rfl rfl rfl (by intro u hu; simp at hu; rcases hu with rfl | rfl | rfl | rfl <;> rfl) (heap_alloc_same _ _) rfl rfl ?_
      (repeat first | (apply wr_move; exact rfl; with_reducible (conv => enter [6, 3]; whnf)) | (apply wr_assign; exact rfl; with_reducible (conv => enter [6, 3]; whnf)) | apply wr_end | apply wc_seq | apply wc_region | (apply wr_nenil_t; iterate 2 exact rfl) | (apply wc_true; exact rfl))
      refine wr_loadAll (cs := [.int .i64 fn, .int .i64 fk, .int .u64 (fv : Int), S fs]) rfl rfl rfl (by focus repeat first | with_reducible assumption | exact heap_alloc_same _ _ | exact World.putObj_heap_same (by first | omega | (simp only [World.size_alloc, World.putObj_size, ne_eq]; omega)) | ((first | refine hAl ?_ ?_ | refine hPu ?_ ?_); focus first | omega | (simp only [World.size_alloc, World.putObj_size, ne_eq]; omega))) rfl ?_
      (repeat first | (apply wr_move; exact rfl; with_reducible (conv => enter [6, 3]; whnf)) | (apply wr_len_str; iterate 2 exact rfl) | (apply wr_load; (iterate 3 exact rfl); (focus repeat first | with_reducible assumption | exact heap_alloc_same _ _ | exact World.putObj_heap_same (by first | omega | (simp only [World.size_alloc, World.putObj_size, ne_eq]; omega)) | ((first | refine hAl ?_ ?_ | refine hPu ?_ ?_); focus first | omega | (simp only [World.size_alloc, World.putObj_size, ne_eq]; omega))); exact rfl; conv => enter [6, 3]; whnf) | (apply wr_sub; (iterate 3 exact rfl); exact w_fit (by dsimp only [kIn]; first | done | omega)))
      refine wr_build (ps := [(0, .int .i64 ((s.length : Int) - (x.length : Int))), (1, Er p)]) (cs := [.int .i64 ((s.length : Int) - (x.length : Int)), Er p]) rfl rfl rfl rfl ?_
      refine wr_makeIface rfl rfl rfl ?_
      refine wr_callv (vs := [.agg #[.int .i64 fn, .int .i64 fk, .int .u64 (fv : Int), S fs], At ((s.length : Int) - (x.length : Int)) (Er p)]) rfl (herr x ⟨fn, fk, fv, fs⟩ _ (Er p) _ (hst x w3 _ hI3 (((Keeps.refl _ w3).alloc _).put _ (fun h => by omega))) hx (.inl ⟨hT, rfl⟩)) rfl rfl ?_
      rintro v w4 hJ
      (repeat first | apply wr_end | (apply wc_ret; try simp only [thenE, inBlockE, bodyQ]))
      exact leave0 rfl (.inr ⟨by have := parseF_no hx (.inl hT); rw [this] at hps; simpa using hps, hJ⟩)
    | wrong =>
      rw [hT] at hv
      obtain ⟨⟨fn, fk, fv, fs⟩, r, rfl⟩ := hv
      dsimp only [WF.v]
      (repeat first | (apply wr_move; exact rfl; with_reducible (conv => enter [6, 3]; whnf)) | (apply wr_alloc; exact rfl) | (apply wr_extract; (iterate 3 exact rfl); with_reducible (conv => enter [6, 3]; whnf)))
      refine wr_storeAll (cs := [.int .i64 fn, .int .i64 fk, .int .u64 (fv : Int), S fs]) rfl rfl rfl (by intro u hu; simp at hu; rcases hu with rfl | rfl | rfl | rfl <;> rfl) (heap_alloc_same _ _) rfl rfl ?_
      (repeat first | (apply wr_move; exact rfl; with_reducible (conv => enter [6, 3]; whnf)) | (apply wr_assign; exact rfl; with_reducible (conv => enter [6, 3]; whnf)) | apply wr_end | apply wc_seq | apply wc_region | (apply wr_nenil_t; iterate 2 exact rfl) | (apply wc_true; exact rfl))
      refine wr_loadAll (cs := [.int .i64 fn, .int .i64 fk, .int .u64 (fv : Int), S fs]) rfl rfl rfl (by focus repeat first | with_reducible assumption | exact heap_alloc_same _ _ | exact World.putObj_heap_same (by first | omega | (simp only [World.size_alloc, World.putObj_size, ne_eq]; omega)) | ((first | refine hAl ?_ ?_ | refine hPu ?_ ?_); focus first | omega | (simp only [World.size_alloc, World.putObj_size, ne_eq]; omega))) rfl ?_
      (repeat first | (apply wr_move; exact rfl; with_reducible (conv => enter [6, 3]; whnf)) | (apply wr_len_str; iterate 2 exact rfl) | (apply wr_load; (iterate 3 exact rfl); (focus repeat first | with_reducible assumption | exact heap_alloc_same _ _ | exact World.putObj_heap_same (by first | omega | (simp only [World.size_alloc, World.putObj_size, ne_eq]; omega)) | ((first | refine hAl ?_ ?_ | refine hPu ?_ ?_); focus first | omega | (simp only [World.size_alloc, World.putObj_size, ne_eq]; omega))); exact rfl; conv => enter [6, 3]; whnf) | (apply wr_sub; (iterate 3 exact rfl); exact w_fit (by dsimp only [kIn]; first | done | omega)))
      refine wr_build (ps := [(0, .int .i64 ((s.length : Int) - (x.length : Int))), (1, Er q)]) (cs := [.int .i64 ((s.length : Int) - (x.length : Int)), Er q]) rfl rfl rfl rfl ?_
      refine wr_makeIface rfl rfl rfl ?_
      refine wr_callv (vs := [.agg #[.int .i64 fn, .int .i64 fk, .int .u64 (fv : Int), S fs], At ((s.length : Int) - (x.length : Int)) (Er q)]) rfl (herr x ⟨fn, fk, fv, fs⟩ _ (Er q) _ (hst x w3 _ hI3 (((Keeps.refl _ w3).alloc _).put _ (fun h => by omega))) hx (.inr ⟨hT, rfl⟩)) rfl rfl ?_
      rintro v w4 hJ
      (repeat first | apply wr_end | (apply wc_ret; try simp only [thenE, inBlockE, bodyQ]))
      exact leave0 rfl (.inr ⟨by have := parseF_no hx (.inr hT); rw [this] at hps; simpa using hps, hJ⟩)
end Go.Proofs.YthlbgeonobicbaaDoor

namespace Go.Proofs.YthlbgeonobicbaaDoor
open Go Go.V Go.RowKit
set_option linter.unusedVariables false
set_option linter.unusedSimpArgs false

theorem Glo.lts {w : World} {p q : Addr} (h : Glo w p q) : 2 ≤ w.heap.size ∧ p.block < w.heap.size ∧ q.block < w.heap.size := by
  obtain ⟨⟨t0, r0, h0⟩, ⟨t1, r1, h1⟩, ⟨_, _, hp⟩, ⟨_, _, hq⟩, _⟩ := h
  exact ⟨lt_of_heap h1, lt_of_heap hp, lt_of_heap hq⟩
theorem Glo.keep {w w' : World} {p q : Addr} {D : Nat → Prop} (h : Glo w p q) (k : Keeps D w w') (hd : ∀ i, i < w.heap.size → ¬ D i) : Glo w' p q := by
  obtain ⟨l1, l2, l3⟩ := h.lts
  obtain ⟨⟨t0, r0, h0⟩, ⟨t1, r1, h1⟩, ⟨_, _, hp⟩, ⟨_, _, hq⟩, hne⟩ := h
  exact ⟨⟨_, _, k.heap h0 (hd _ (lt_of_heap h0))⟩, ⟨_, _, k.heap h1 (hd _ (lt_of_heap h1))⟩, ⟨_, _, k.heap hp (hd _ l2)⟩, ⟨_, _, k.heap hq (hd _ l3)⟩, hne⟩
theorem parseF_len : ∀ (n : Nat) (s : List UInt8) (l : List WF), s.length ≤ n → parseF s = some l → l.length ≤ s.length
  | 0, s, l, hn, h => by
    have : s = [] := List.eq_nil_of_length_eq_zero (by omega)
    subst this
    rw [parseF_nil] at h; cases h; exact Nat.le_refl _
  | n + 1, s, l, hn, h => by
    by_cases hs : s = []
    · subst hs; rw [parseF_nil] at h; cases h; exact Nat.le_refl _
    · cases hT : takeF s with
      | ok f r =>
        rw [parseF_ok hs hT] at h
        have hlt := takeF_lt hT
        cases hp : parseF r with
        | none => rw [hp] at h; cases h
        | some l' =>
          rw [hp] at h; simp at h; subst h
          have := parseF_len n r l' (by omega) hp
          simp; omega
      | short => rw [parseF_no hs (.inl hT)] at h; cases h
      | wrong => rw [parseF_no hs (.inr hT)] at h; cases h
theorem takeF_s {s : List UInt8} {n k : Int} {m : Nat} {t r : List UInt8} (h : takeF s = .ok ⟨n, k, m, t⟩ r) : t.length ≤ s.length := by
  unfold takeF at h
  cases hrv : readVarint s with
  | none => rw [hrv] at h; cases h
  | some nk =>
    obtain ⟨tag, n⟩ := nk
    rw [hrv] at h
    dsimp only at h
    split at h
    · cases h
    · split at h
      · split at h
        · cases h
        · simp only [TR.ok.injEq, WF.mk.injEq] at h
          rw [← h.1.2.2.2]; simp
      · split at h
        · split at h
          · cases h
          · split at h
            · cases h
            · simp only [TR.ok.injEq, WF.mk.injEq] at h
              rw [← h.1.2.2.2]; simp only [List.length_take, List.length_drop]; omega
        · split at h
          · split at h
            · cases h
            · simp only [TR.ok.injEq, WF.mk.injEq] at h
              rw [← h.1.2.2.2]; simp only [List.length_take, List.length_drop]; omega
          · split at h
            · split at h
              · cases h
              · simp only [TR.ok.injEq, WF.mk.injEq] at h
                rw [← h.1.2.2.2]; simp only [List.length_take, List.length_drop]; omega
            · cases h
/-- How many fields stand in front. -/
def cntF (s : List UInt8) : Nat := if s = [] then 0 else
  match h : takeF s with
  | .ok f r => cntF r + 1
  | _ => 0
termination_by s.length
decreasing_by exact takeF_lt h
theorem cntF_ok {s : List UInt8} {f : WF} {r : List UInt8} (hs : s ≠ []) (h : takeF s = .ok f r) : cntF s = cntF r + 1 := by
  rw [cntF, if_neg hs]
  split
  · rename_i f' r' h'; rw [h] at h'; cases h'; rfl
  · rename_i h'; exact absurd h (h' f r)
theorem cntF_le : ∀ (n : Nat) (s : List UInt8), s.length ≤ n → cntF s ≤ s.length
  | 0, s, hn => by
    have : s = [] := List.eq_nil_of_length_eq_zero (by omega)
    subst this
    rw [cntF, if_pos rfl]; exact Nat.le_refl _
  | n + 1, s, hn => by
    by_cases hs : s = []
    · subst hs; rw [cntF, if_pos rfl]; exact Nat.zero_le _
    · cases hT : takeF s with
      | ok f r =>
        have hlt := takeF_lt hT
        have := cntF_le n r (by omega)
        rw [cntF_ok hs hT]; omega
      | short =>
        rw [cntF, if_neg hs]
        split
        · rename_i f' r' h'; rw [hT] at h'; cases h'
        · exact Nat.zero_le _
      | wrong =>
        rw [cntF, if_neg hs]
        split
        · rename_i f' r' h'; rw [hT] at h'; cases h'
        · exact Nat.zero_le _
/-- What holds between two rounds. -/
structure PI (w : World) (c : LoopC) (D : Nat) (s : List UInt8) (acc : List WF) (v : Value) (rest : List UInt8) (w' : World) : Prop where
  L : w'.heap[D + 1]? = some (.loop (c.at .ready none))
  hD : w'.heap[D]? = some (.deferred (some []))
  A0 : w'.heap[w.heap.size]? = some (.cells #[.slice none 0 0] 81 (0, 0))
  A1 : w'.heap[w.heap.size + 1]? = some (.cells #[.bool false] 4 (0, 0))
  A2 : w'.heap[w.heap.size + 2]? = some (.cells #[v] 81 (0, 0))
  own : w'.ownsRow (D + 2) 101 4 v acc.length (FL acc)
  k : Keeps NoB w w'
  eq : parseF s = (parseF rest).map (acc ++ ·)
  len : acc.length + cntF rest = cntF s ∧ rest.length ≤ s.length
def parseR (s : List UInt8) (w : World) (v : Value) (w' : World) : Prop := match parseF s with
  | some l => ∃ sl, v = .tuple #[sl, .bool true] ∧ w'.ownsRow w.heap.size 101 4 sl l.length (FL l)
  | none => v = .tuple #[.slice none 0 0, .bool false]
theorem own_base {w : World} {base base' : Nat} {e : TypeId} {sz n : Nat} {v : Value} {xs : List Value} (h : w.ownsRow base e sz v n xs) (hb : base' ≤ base) : w.ownsRow base' e sz v n xs := by
  refine ⟨h.1, ?_⟩
  rcases h.2 with hn | ⟨g, cap, cur, h1, h2, h3⟩
  · exact .inl hn
  · exact .inr ⟨g, cap, cur, h1, by omega, h3⟩
set_option maxRecDepth 100000 in
set_option maxHeartbeats 4000000 in
theorem parse_ca' (s : List UInt8) (hs : s.length ≤ 281474976710656) (hcn : cntF s ≤ 1000000000000) {p q : Addr} {w : World} (hg : Glo w p q) : Ca Tryd.prog 56 #[S s] w fun v w' => parseR s w v w' ∧ Keeps NoB w w' := by
  obtain ⟨gl1, gl2, gl3⟩ := hg.lts
  refine ca_of_body (args := [S s]) Tryd.func56 rfl (by kernel_rfl) ?_
  (repeat first | (apply wr_move; exact rfl; with_reducible (conv => enter [6, 3]; whnf)) | apply wr_end | apply wc_seq | apply wc_region | (apply wr_alloc; exact rfl))
  refine wr_call (vs := [S s]) rfl (fields_ca s _) rfl ?_
  rintro v w2 ⟨hv, hbs, hk2, hsz2⟩
  simp only [World.size_alloc] at hv hbs hsz2
  have hv' : v = .func (.func 88) #[] #[.pointer (some ⟨w.heap.size + 3, 0, none⟩)] := hv
  clear hv
  subst hv'
  have hA0 := hk2.heap (b := w.heap.size) (o := .cells #[.slice none 0 0] 81 (0, 0)) (by focus repeat first | with_reducible assumption | exact heap_alloc_same _ _ | exact World.putObj_heap_same (by first | omega | (simp only [World.size_alloc, World.putObj_size, ne_eq]; omega)) | ((first | refine hAl ?_ ?_ | refine hPu ?_ ?_); focus first | omega | (simp only [World.size_alloc, World.putObj_size, ne_eq]; omega))) (fun h => h)
  have hA1 := hk2.heap (b := w.heap.size + 1) (o := .cells #[.bool false] 4 (0, 0)) ((heap_alloc_ne _ _ (by simp)).trans (heap_alloc_at _ _ (by simp))) (fun h => h)
  have hA2 := hk2.heap (b := w.heap.size + 2) (o := .cells #[.slice none 0 0] 81 (0, 0)) (heap_alloc_at _ _ (by simp)) (fun h => h)
  have hkw2 := ((((Keeps.refl NoB w).alloc _).alloc _).alloc _).trans hk2
  clear hk2
  (repeat first | apply wr_end | apply wc_block)
  refine wc_keep [(2, .pointer (some ⟨w.heap.size, 0, none⟩)), (3, .pointer (some ⟨w.heap.size + 1, 0, none⟩)), (4, .pointer (some ⟨w.heap.size + 2, 0, none⟩)), (8, .func (.func 88) #[] #[.pointer (some ⟨w.heap.size + 3, 0, none⟩)])]
    ⟨rfl, by show Value.pointer _ = _; simp, by show Value.pointer _ = _; simp, rfl, trivial⟩ ?_
  intro fr0
  refine wc_rangeC rfl ?_
  intro c w3 hcp hca hcb hrp hok hD hL hk3 hsz3
  have hst : ∀ rest w' w'', (∃ acc v, PI w c w2.heap.size s acc v rest w') → Keeps (· = w.heap.size + 3) w' w'' → ∃ acc v, PI w c w2.heap.size s acc v rest w'' := by
    rintro rest w' w'' ⟨acc, v, h⟩ k
    refine ⟨acc, v, k.heap h.L (by omega), k.heap h.hD (by omega), k.heap h.A0 (by omega), k.heap h.A1 (by omega), k.heap h.A2 (by omega), own_keep h.own k (fun b hb e => by have := (h.own.lt b hb).1; omega), h.k.trans' k (fun i hi e => by omega), h.eq, h.len⟩
  have hglo : ∀ rest w', (∃ acc v, PI w c w2.heap.size s acc v rest w') → Glo w' p q := fun rest w' ⟨acc, v, h⟩ => hg.keep h.k fun i hi h => h
  show Ca _ _ #[yieldV (w2.heap.size + 1), .pointer (some ⟨w.heap.size + 3, 0, none⟩)] _ _
  refine Ca.mono (fields1_ca (p := p) (q := q) (bs := w.heap.size + 3) (I := fun rest w' => ∃ acc v, PI w c w2.heap.size s acc v rest w')
    (J := fun w' => w'.heap[w2.heap.size + 1]? = some (.loop (c.at .done (some .ret))) ∧ w'.heap[w2.heap.size]? = some (.deferred (some [])) ∧ w'.heap[w.heap.size]? = some (.cells #[.slice none 0 0] 81 (0, 0)) ∧ w'.heap[w.heap.size + 1]? = some (.cells #[.bool false] 4 (0, 0)) ∧ Keeps NoB w w')
    hst hglo ?_ ?_ (s := s) (w := w3) ?_ ?_ (by omega)) ?_
  · -- a field
    rintro x ⟨fn, fk, fv, fs⟩ r w4 ⟨acc, v, hP⟩ hx hT
    obtain ⟨hL4, hD4, hA04, hA14, hA24, hown4, hk4, heq4, hlen4⟩ := hP
    have hg4 := hglo x w4 ⟨acc, v, hL4, hD4, hA04, hA14, hA24, hown4, hk4, heq4, hlen4⟩
    obtain ⟨⟨t0, r0, hg0⟩, ⟨t1, r1, hg1⟩, ⟨cp, tp, hgp⟩, ⟨cq, tq, hgq⟩, _⟩ := hg4
    have hsz4 := lt_of_heap hL4
    have hfl : fs.length ≤ x.length := takeF_s hT
    have hrl := takeF_lt hT
    have hcx := cntF_ok hx hT
    refine callV_yieldC (c := c) (args := [.agg #[.int .i64 fn, .int .i64 fk, .int .u64 (fv : Int), S fs], .nilIface]) hL4 (by rw [hcp]; rfl) hrp hok.2.2 ⟨hok.1, hok.2.1⟩ (f' := setL fr0 [(10, .nilIface), (9, .agg #[.int .i64 fn, .int .i64 fk, .int .u64 (fv : Int), S fs]), (2, .pointer (some ⟨w.heap.size, 0, none⟩)), (3, .pointer (some ⟨w.heap.size + 1, 0, none⟩)), (4, .pointer (some ⟨w.heap.size + 2, 0, none⟩)), (8, .func (.func 88) #[] #[.pointer (some ⟨w.heap.size + 3, 0, none⟩)])]) (by rw [hcp]; rfl) ?_
    rw [hca]
    (repeat first | apply wc_seq | apply wc_region | (apply wr_alloc; exact rfl))
    refine wr_storeAll (cs := [.int .i64 fn, .int .i64 fk, .int .u64 (fv : Int), S fs]) rfl rfl rfl (by intro u hu; simp at hu; rcases hu with rfl | rfl | rfl | rfl <;> rfl) (heap_alloc_same _ _) rfl rfl ?_
    (repeat first | (apply wr_assign; exact rfl; with_reducible (conv => enter [6, 3]; whnf)) | apply wr_end | apply wc_region)
    refine ⟨(heap_put_ne _ _ (by omega)).trans ((heap_alloc_ne _ _ (by omega)).trans hL4), ?_⟩
    rw [hcb]
    (repeat first | (apply wr_move; exact rfl; with_reducible (conv => enter [6, 3]; whnf)) | apply wc_seq | apply wc_region | apply wc_block | (apply wr_load; (iterate 3 exact rfl); (focus repeat first | with_reducible assumption | exact heap_alloc_same _ _ | exact World.putObj_heap_same (by first | omega | (simp only [World.size_alloc, World.putObj_size, ne_eq]; omega)) | ((first | refine hAl ?_ ?_ | refine hPu ?_ ?_); focus first | omega | (simp only [World.size_alloc, World.putObj_size, ne_eq]; omega))); exact rfl; conv => enter [6, 3]; whnf))
    refine wr_call (vs := [.nilIface, Er p]) rfl (Is_nil p _) rfl ?_
    rintro v5 w5 ⟨rfl, rfl⟩
    (repeat first | (apply wr_move; exact rfl; with_reducible (conv => enter [6, 3]; whnf)) | (apply wr_load; (iterate 3 exact rfl); (focus repeat first | with_reducible assumption | exact heap_alloc_same _ _ | exact World.putObj_heap_same (by first | omega | (simp only [World.size_alloc, World.putObj_size, ne_eq]; omega)) | ((first | refine hAl ?_ ?_ | refine hPu ?_ ?_); focus first | omega | (simp only [World.size_alloc, World.putObj_size, ne_eq]; omega))); exact rfl; conv => enter [6, 3]; whnf))
    refine wr_call (vs := [.nilIface, Er q]) rfl (Is_nil q _) rfl ?_
    rintro v5 w5 ⟨rfl, rfl⟩
    (repeat first | apply wr_end | apply wc_seq | apply wc_region | apply wc_skip | (apply wr_fieldAddr; iterate 2 exact rfl) | (apply wr_load; (iterate 3 exact rfl); (focus repeat first | with_reducible assumption | exact heap_alloc_same _ _ | exact World.putObj_heap_same (by first | omega | (simp only [World.size_alloc, World.putObj_size, ne_eq]; omega)) | ((first | refine hAl ?_ ?_ | refine hPu ?_ ?_); focus first | omega | (simp only [World.size_alloc, World.putObj_size, ne_eq]; omega))); exact rfl; conv => enter [6, 3]; whnf) | (apply wr_pick (t := false); (iterate 2 exact rfl); with_reducible (conv => enter [6, 3]; whnf)) | (apply wc_false; exact rfl))
    refine wr_call (vs := [S fs]) rfl (clone_ca fs (by omega) _) rfl ?_
    rintro v5 w5 ⟨rfl, hk5⟩
    have hf5 := hk5.heap (b := w4.heap.size) (o := .cells #[.int .i64 fn, .int .i64 fk, .int .u64 (fv : Int), S fs] 101 (0, 0)) (by focus repeat first | with_reducible assumption | exact heap_alloc_same _ _ | exact World.putObj_heap_same (by first | omega | (simp only [World.size_alloc, World.putObj_size, ne_eq]; omega)) | ((first | refine hAl ?_ ?_ | refine hPu ?_ ?_); focus first | omega | (simp only [World.size_alloc, World.putObj_size, ne_eq]; omega))) (fun h => h)
    have hL5 := hk5.heap (b := w2.heap.size + 1) (o := .loop (c.at .busy none)) (World.putObj_heap_same (by simp; omega)) (fun h => h)
    have hkk5 : Keeps (· = w2.heap.size + 1) w4 w5 := ((((Keeps.refl (fun k => k = w2.heap.size + 1) w4).alloc _).put _ (fun h => by omega)).put _ (fun h => rfl)).trans' hk5 (fun i hi h => h.elim)
    clear hk5
    have hA25 := hkk5.heap hA24 (by omega)
    have hsz5 := lt_of_heap hf5
    (repeat first | apply wr_end | apply wc_region | (apply wr_fieldAddr; iterate 2 exact rfl) | (apply wr_load; (iterate 3 exact rfl); (focus repeat first | with_reducible assumption | exact heap_alloc_same _ _ | exact World.putObj_heap_same (by first | omega | (simp only [World.size_alloc, World.putObj_size, ne_eq]; omega)) | ((first | refine hAl ?_ ?_ | refine hPu ?_ ?_); focus first | omega | (simp only [World.size_alloc, World.putObj_size, ne_eq]; omega))); exact rfl; conv => enter [6, 3]; whnf) | (apply wr_store; (iterate 3 exact rfl); (first | exact rfl | with_reducible assumption); (focus repeat first | with_reducible assumption | exact heap_alloc_same _ _ | exact World.putObj_heap_same (by first | omega | (simp only [World.size_alloc, World.putObj_size, ne_eq]; omega)) | ((first | refine hAl ?_ ?_ | refine hPu ?_ ?_); focus first | omega | (simp only [World.size_alloc, World.putObj_size, ne_eq]; omega))); exact rfl))
    refine wr_loadAll (cs := [.int .i64 fn, .int .i64 fk, .int .u64 (fv : Int), S fs]) rfl rfl rfl (World.putObj_heap_same hsz5) rfl ?_
    refine wr_buildSlice (vs := [.agg #[.int .i64 fn, .int .i64 fk, .int .u64 (fv : Int), S fs]]) rfl rfl (by intro v hv; simp at hv; subst hv; rfl) rfl (by decide) (by decide) (by decide) ?_
    have hkk6 : Keeps (· = w2.heap.size + 1) w4 (w5.putObj w4.heap.size (.cells #[.int .i64 fn, .int .i64 fk, .int .u64 (fv : Int), S fs] 101 (0, 0))) := hkk5.put _ (fun h => by omega)
    have hown6 := own_keep hown4 hkk6 (fun b hb e => by have := (hown4.lt b hb).1; omega)
    refine wr_append (v := v) (n := acc.length) (m := 1) (news := [.int .i64 fn, .int .i64 fk, .int .u64 (fv : Int), S fs]) rfl rfl (hown6.alloc _) rfl (heap_alloc_same _ _) rfl (by intro u hu; simp at hu; rcases hu with rfl | rfl | rfl | rfl <;> rfl) rfl (by decide) (by omega) (by omega) (by simp; omega) ?_
    intro v7 w7 hown7 hk7 _
    have hkk7 : Keeps (fun k => k = w2.heap.size + 1 ∨ v.ownBlock = some k) w4 w7 := ((hkk6.alloc _).mono (fun _ _ h => Or.inl h)).trans' hk7 (fun i hi h => .inr h)
    have hnb : ∀ b, v.ownBlock = some b → w2.heap.size + 2 ≤ b := fun b hb => (hown4.lt b hb).1
    have hL7 : w7.heap[w2.heap.size + 1]? = some (.loop (c.at .busy none)) := hk7.heap ((heap_alloc_ne _ _ (by simp; omega)).trans ((heap_put_ne _ _ (by omega)).trans hL5)) (fun h => by have := hnb _ h; omega)
    have hA27 := hkk7.heap hA24 (fun h => by rcases h with h | h; omega; have := hnb _ h; omega)
    have hsz7 := hkk7.size
    have h17 := own_one hown7
    (repeat first | (apply wr_store; (iterate 3 exact rfl); (first | exact rfl | with_reducible assumption); (focus repeat first | with_reducible assumption | exact heap_alloc_same _ _ | exact World.putObj_heap_same (by first | omega | (simp only [World.size_alloc, World.putObj_size, ne_eq]; omega)) | ((first | refine hAl ?_ ?_ | refine hPu ?_ ?_); focus first | omega | (simp only [World.size_alloc, World.putObj_size, ne_eq]; omega))); exact rfl) | (apply wr_nil; try simp only [thenE, inBlockE, bodyQ]))
    refine ⟨(heap_put_ne _ _ (by omega)).trans hL7, rfl, ?_, ?_⟩
    · have hkk8 : Keeps (fun k => k = w2.heap.size + 1 ∨ k = w.heap.size + 2 ∨ v.ownBlock = some k) w4 ((w7.putObj (w.heap.size + 2) (.cells #[v7] 81 (0, 0))).putObj (w2.heap.size + 1) (.loop (c.at .ready none))) := ((hkk7.mono (fun _ _ h => by rcases h with h | h; exact .inl h; exact .inr (.inr h))).put _ (fun _ => .inr (.inl rfl))).put _ (fun _ => .inl rfl)
      have hno : ∀ i, i < w2.heap.size + 2 → i ≠ w2.heap.size + 1 → i ≠ w.heap.size + 2 → ¬ (i = w2.heap.size + 1 ∨ i = w.heap.size + 2 ∨ v.ownBlock = some i) := by
        rintro i h1 h2 h3 (h | h | h)
        · exact h2 h
        · exact h3 h
        · have := hnb _ h; omega
      refine ⟨acc ++ [⟨fn, fk, fv, fs⟩], v7, World.putObj_heap_same (by simp; omega), hkk8.heap hD4 (hno _ (by omega) (by omega) (by omega)), hkk8.heap hA04 (hno _ (by omega) (by omega) (by omega)), hkk8.heap hA14 (hno _ (by omega) (by omega) (by omega)),
        (heap_put_ne _ _ (by omega)).trans (World.putObj_heap_same (lt_of_heap hA27)), ?_, hk4.trans' hkk8 (fun i hi h => (hno i (by omega) (by omega) (by omega) h).elim), ?_, ⟨by simp; omega, by omega⟩⟩
      · rw [FL_snoc, List.length_append]
        have hkp : Keeps (fun k => k = w2.heap.size + 1 ∨ k = w.heap.size + 2) w7 ((w7.putObj (w.heap.size + 2) (.cells #[v7] 81 (0, 0))).putObj (w2.heap.size + 1) (.loop (c.at .ready none))) := ((Keeps.refl _ w7).put _ (fun _ => .inr rfl)).put _ (fun _ => .inl rfl)
        exact own_keep hown7 hkp (fun b hb e => by have := (hown7.lt b hb).1; omega)
      · rw [heq4, parseF_ok hx hT]
        cases parseF r <;> simp
    · refine (heap_put_ne _ _ (by omega)).trans ((heap_put_ne _ _ (by omega)).trans (hkk7.block _ (by omega) ?_))
      rintro (h | h)
      · omega
      · have := hnb _ h; omega
  · -- an error
    rintro x ⟨fn, fk, fv, fs⟩ k e w4 ⟨acc, v, hP⟩ hx hT
    obtain ⟨hL4, hD4, hA04, hA14, hA24, hown4, hk4, heq4, hlen4⟩ := hP
    have hg4 := hglo x w4 ⟨acc, v, hL4, hD4, hA04, hA14, hA24, hown4, hk4, heq4, hlen4⟩
    obtain ⟨⟨t0, r0, hg0⟩, ⟨t1, r1, hg1⟩, ⟨cp, tp, hgp⟩, ⟨cq, tq, hgq⟩, hpq⟩ := hg4
    have hsz4 := lt_of_heap hL4
    have hkp := hk4.size
    refine callV_yieldC (c := c) (args := [.agg #[.int .i64 fn, .int .i64 fk, .int .u64 (fv : Int), S fs], At k e]) hL4 (by rw [hcp]; rfl) hrp hok.2.2 ⟨hok.1, hok.2.1⟩ (f' := setL fr0 [(10, At k e), (9, .agg #[.int .i64 fn, .int .i64 fk, .int .u64 (fv : Int), S fs]), (2, .pointer (some ⟨w.heap.size, 0, none⟩)), (3, .pointer (some ⟨w.heap.size + 1, 0, none⟩)), (4, .pointer (some ⟨w.heap.size + 2, 0, none⟩)), (8, .func (.func 88) #[] #[.pointer (some ⟨w.heap.size + 3, 0, none⟩)])]) (by rw [hcp]; rfl) ?_
    rw [hca]
    rcases hT with ⟨hT, rfl⟩ | ⟨hT, rfl⟩
    all_goals
      (repeat first | apply wc_seq | apply wc_region | (apply wr_alloc; exact rfl))
      refine wr_storeAll (cs := [.int .i64 fn, .int .i64 fk, .int .u64 (fv : Int), S fs]) rfl rfl rfl (by intro u hu; simp at hu; rcases hu with rfl | rfl | rfl | rfl <;> rfl) (heap_alloc_same _ _) rfl rfl ?_
      (repeat first | (apply wr_assign; exact rfl; with_reducible (conv => enter [6, 3]; whnf)) | apply wr_end | apply wc_region)
      refine ⟨(heap_put_ne _ _ (by omega)).trans ((heap_alloc_ne _ _ (by omega)).trans hL4), ?_⟩
      rw [hcb]
      (repeat first | (apply wr_move; exact rfl; with_reducible (conv => enter [6, 3]; whnf)) | apply wc_seq | apply wc_region | apply wc_block | (apply wr_load; (iterate 3 exact rfl); (focus repeat first | with_reducible assumption | exact heap_alloc_same _ _ | exact World.putObj_heap_same (by first | omega | (simp only [World.size_alloc, World.putObj_size, ne_eq]; omega)) | ((first | refine hAl ?_ ?_ | refine hPu ?_ ?_); focus first | omega | (simp only [World.size_alloc, World.putObj_size, ne_eq]; omega))); exact rfl; conv => enter [6, 3]; whnf))
    · refine wr_call (vs := [At k (Er p), Er p]) rfl (Is_ca true k p p (cp := cp) (tp := tp) (cq := cp) (tq := tp) (by focus repeat first | with_reducible assumption | exact heap_alloc_same _ _ | exact World.putObj_heap_same (by first | omega | (simp only [World.size_alloc, World.putObj_size, ne_eq]; omega)) | ((first | refine hAl ?_ ?_ | refine hPu ?_ ?_); focus first | omega | (simp only [World.size_alloc, World.putObj_size, ne_eq]; omega))) (by focus repeat first | with_reducible assumption | exact heap_alloc_same _ _ | exact World.putObj_heap_same (by first | omega | (simp only [World.size_alloc, World.putObj_size, ne_eq]; omega)) | ((first | refine hAl ?_ ?_ | refine hPu ?_ ?_); focus first | omega | (simp only [World.size_alloc, World.putObj_size, ne_eq]; omega)))) rfl ?_
      rintro v5 w5 ⟨rfl, hk5⟩
      rw [decide_eq_true rfl]
      have hkk5 : Keeps (fun k => k = w2.heap.size + 1) w4 w5 := ((((Keeps.refl (fun k => k = w2.heap.size + 1) w4).alloc _).put _ (fun h => by omega)).put _ (fun h => rfl)).trans' hk5 (fun i hi h => h.elim)
      have hL5 := hk5.heap (b := w2.heap.size + 1) (o := .loop (c.at .busy none)) (World.putObj_heap_same (by simp; omega)) (fun h => h)
      have hA05 := hkk5.heap hA04 (by omega)
      have hA15 := hkk5.heap hA14 (by omega)
      have hD5 := hkk5.heap hD4 (by omega)
      have hk5w := hk4.trans' hkk5 (fun i hi h => by omega)
      clear hk5 hkk5
      (repeat first | (apply wr_move; exact rfl; with_reducible (conv => enter [6, 3]; whnf)) | apply wr_end | apply wc_seq | apply wc_region | (apply wr_pick (t := true); (iterate 2 exact rfl); with_reducible (conv => enter [6, 3]; whnf)) | (apply wr_store; (iterate 3 exact rfl); (first | exact rfl | with_reducible assumption); (focus repeat first | with_reducible assumption | exact heap_alloc_same _ _ | exact World.putObj_heap_same (by first | omega | (simp only [World.size_alloc, World.putObj_size, ne_eq]; omega)) | ((first | refine hAl ?_ ?_ | refine hPu ?_ ?_); focus first | omega | (simp only [World.size_alloc, World.putObj_size, ne_eq]; omega))); exact rfl) | (apply wc_true; exact rfl) | (apply wc_ret; try simp only [thenE, inBlockE, bodyQ]) | (apply wr_skip; exact rfl))
      refine ⟨(heap_put_ne _ _ (by omega)).trans ((heap_put_ne _ _ (by omega)).trans hL5), World.putObj_heap_same (by simp; exact lt_of_heap hL5), (heap_put_ne _ _ (by omega)).trans ((heap_put_ne _ _ (by omega)).trans ((heap_put_ne _ _ (by omega)).trans hD5)), (heap_put_ne _ _ (by omega)).trans ((heap_put_ne _ _ (by omega)).trans (World.putObj_heap_same (lt_of_heap hA05))), (heap_put_ne _ _ (by omega)).trans (World.putObj_heap_same (by simp; exact lt_of_heap hA15)), ((hk5w.put _ (fun h => by omega)).put _ (fun h => by omega)).put _ (fun h => by omega)⟩
    · refine wr_call (vs := [At k (Er q), Er p]) rfl (Is_ca true k q p (cp := cq) (tp := tq) (cq := cp) (tq := tp) (by focus repeat first | with_reducible assumption | exact heap_alloc_same _ _ | exact World.putObj_heap_same (by first | omega | (simp only [World.size_alloc, World.putObj_size, ne_eq]; omega)) | ((first | refine hAl ?_ ?_ | refine hPu ?_ ?_); focus first | omega | (simp only [World.size_alloc, World.putObj_size, ne_eq]; omega))) (by focus repeat first | with_reducible assumption | exact heap_alloc_same _ _ | exact World.putObj_heap_same (by first | omega | (simp only [World.size_alloc, World.putObj_size, ne_eq]; omega)) | ((first | refine hAl ?_ ?_ | refine hPu ?_ ?_); focus first | omega | (simp only [World.size_alloc, World.putObj_size, ne_eq]; omega)))) rfl ?_
      rintro v5 w5 ⟨rfl, hk5⟩
      rw [decide_eq_false (Ne.symm hpq)]
      have hkk5 : Keeps (fun k => k = w2.heap.size + 1) w4 w5 := ((((Keeps.refl (fun k => k = w2.heap.size + 1) w4).alloc _).put _ (fun h => by omega)).put _ (fun h => rfl)).trans' hk5 (fun i hi h => h.elim)
      have hL5 := hk5.heap (b := w2.heap.size + 1) (o := .loop (c.at .busy none)) (World.putObj_heap_same (by simp; omega)) (fun h => h)
      have hgq5 := hkk5.heap hgq (by omega)
      have hg15 := hkk5.heap hg1 (by omega)
      clear hk5
      (repeat first | (apply wr_move; exact rfl; with_reducible (conv => enter [6, 3]; whnf)) | (apply wr_load; (iterate 3 exact rfl); (focus repeat first | with_reducible assumption | exact heap_alloc_same _ _ | exact World.putObj_heap_same (by first | omega | (simp only [World.size_alloc, World.putObj_size, ne_eq]; omega)) | ((first | refine hAl ?_ ?_ | refine hPu ?_ ?_); focus first | omega | (simp only [World.size_alloc, World.putObj_size, ne_eq]; omega))); exact rfl; conv => enter [6, 3]; whnf))
      refine wr_call (vs := [At k (Er q), Er q]) rfl (Is_ca true k q q (cp := cq) (tp := tq) (cq := cq) (tq := tq) hgq5 hgq5) rfl ?_
      rintro v6 w6 ⟨rfl, hk6⟩
      rw [decide_eq_true rfl]
      have hkk6 := hkk5.trans' hk6 (fun i hi h => h.elim)
      have hL6 := hk6.heap hL5 (fun h => h)
      have hA05 := hkk6.heap hA04 (by omega)
      have hA15 := hkk6.heap hA14 (by omega)
      have hD5 := hkk6.heap hD4 (by omega)
      have hk5w := hk4.trans' hkk6 (fun i hi h => by omega)
      clear hk6 hkk5 hkk6
      (repeat first | apply wr_end | apply wc_seq | apply wc_region | (apply wr_pick (t := false); (iterate 2 exact rfl); with_reducible (conv => enter [6, 3]; whnf)) | (apply wr_store; (iterate 3 exact rfl); (first | exact rfl | with_reducible assumption); (focus repeat first | with_reducible assumption | exact heap_alloc_same _ _ | exact World.putObj_heap_same (by first | omega | (simp only [World.size_alloc, World.putObj_size, ne_eq]; omega)) | ((first | refine hAl ?_ ?_ | refine hPu ?_ ?_); focus first | omega | (simp only [World.size_alloc, World.putObj_size, ne_eq]; omega))); exact rfl) | (apply wc_true; exact rfl) | (apply wc_ret; try simp only [thenE, inBlockE, bodyQ]))
      refine ⟨(heap_put_ne _ _ (by omega)).trans ((heap_put_ne _ _ (by omega)).trans hL6), World.putObj_heap_same (by simp; exact lt_of_heap hL6), (heap_put_ne _ _ (by omega)).trans ((heap_put_ne _ _ (by omega)).trans ((heap_put_ne _ _ (by omega)).trans hD5)), (heap_put_ne _ _ (by omega)).trans ((heap_put_ne _ _ (by omega)).trans (World.putObj_heap_same (lt_of_heap hA05))), (heap_put_ne _ _ (by omega)).trans (World.putObj_heap_same (by simp; exact lt_of_heap hA15)), ((hk5w.put _ (fun h => by omega)).put _ (fun h => by omega)).put _ (fun h => by omega)⟩
  · -- ahead of the first
    exact ⟨[], .slice none 0 0, hL, hD, hk3.heap hA0 (fun h => h), hk3.heap hA1 (fun h => h), hk3.heap hA2 (fun h => h), ⟨rfl, .inl ⟨rfl, rfl⟩⟩, hkw2.trans hk3, by cases parseF s <;> simp, ⟨by simp, Nat.le_refl _⟩⟩
  · exact hk3.heap hbs (fun h => h)
  · rintro v w' (⟨hsome, acc, r, hP⟩ | ⟨hnone, hL', hD', hA0', hA1', hk'⟩)
    · left
      obtain ⟨hL4, hD4, hA04, hA14, hA24, hown4, hk4, heq4, hlen4⟩ := hP
      have h1r := own_one hown4
      refine ⟨hL4, ?_⟩
      simp only [inBlockE, thenE]
      have hD4' := (heap_put_ne w' (b := w2.heap.size + 1) (.loop (c.at .exhausted none)) (by omega : w2.heap.size ≠ w2.heap.size + 1)).trans hD4
      have hA04' := (heap_put_ne w' (b := w2.heap.size + 1) (.loop (c.at .exhausted none)) (by omega : w.heap.size ≠ w2.heap.size + 1)).trans hA04
      have hA14' := (heap_put_ne w' (b := w2.heap.size + 1) (.loop (c.at .exhausted none)) (by omega : w.heap.size + 1 ≠ w2.heap.size + 1)).trans hA14
      have hA24' := (heap_put_ne w' (b := w2.heap.size + 1) (.loop (c.at .exhausted none)) (by omega : w.heap.size + 2 ≠ w2.heap.size + 1)).trans hA24
      have hown4' := own_keep hown4 ((Keeps.refl (fun k => k = w2.heap.size + 1) w').put (b := w2.heap.size + 1) (.loop (c.at .exhausted none)) (fun _ => rfl)) (fun b hb e => by have := (hown4.lt b hb).1; omega)
      have hk4' := hk4.put (b := w2.heap.size + 1) (.loop (c.at .exhausted none)) (fun h => by omega)
      generalize w'.putObj (w2.heap.size + 1) (.loop (c.at .exhausted none)) = w8 at hD4' hA04' hA14' hA24' hown4' hk4' ⊢
      (repeat first | apply wr_end | apply wc_seq | apply wc_region | (apply wr_load; (iterate 3 exact rfl); (focus repeat first | with_reducible assumption | exact heap_alloc_same _ _ | exact World.putObj_heap_same (by first | omega | (simp only [World.size_alloc, World.putObj_size, ne_eq]; omega)) | ((first | refine hAl ?_ ?_ | refine hPu ?_ ?_); focus first | omega | (simp only [World.size_alloc, World.putObj_size, ne_eq]; omega))); exact rfl; conv => enter [6, 3]; whnf) | (apply wr_store; (iterate 3 exact rfl); (first | exact rfl | with_reducible assumption); (focus repeat first | with_reducible assumption | exact heap_alloc_same _ _ | exact World.putObj_heap_same (by first | omega | (simp only [World.size_alloc, World.putObj_size, ne_eq]; omega)) | ((first | refine hAl ?_ ?_ | refine hPu ?_ ?_); focus first | omega | (simp only [World.size_alloc, World.putObj_size, ne_eq]; omega))); exact rfl) | (apply wc_ret; try simp only [thenE, inBlockE, bodyQ]))
      refine ⟨w2.heap.size, rfl, (heap_put_ne _ _ (by omega)).trans ((heap_put_ne _ _ (by omega)).trans hD4'), ?_⟩
      refine leaveN (vs := [r, .bool true]) (resv_cell (b := w.heap.size) (v := r) (c := #[r]) rfl rfl ((heap_put_ne _ _ (by omega)).trans ((heap_put_ne _ _ (by omega)).trans (World.putObj_heap_same (lt_of_heap hA04')))) rfl (resv_cell (b := w.heap.size + 1) (v := .bool true) (c := #[.bool true]) rfl rfl ((heap_put_ne _ _ (by omega)).trans (World.putObj_heap_same (by simp; exact lt_of_heap hA14'))) rfl resv_nil)) ⟨?_, ((hk4'.put _ (fun h => by omega)).put _ (fun h => by omega)).put _ (fun h => by omega)⟩
      rw [parseF_nil] at heq4
      unfold parseR
      rw [heq4]
      simp only [Option.map_some, List.append_nil]
      refine ⟨r, rfl, own_base (own_keep hown4' (((Keeps.refl (fun k => k < w2.heap.size + 2) w8).put _ (fun h => by omega)).put _ (fun h => by omega) |>.put _ (fun h => by omega)) (fun b hb e => by have := (hown4.lt b hb).1; omega)) (by omega)⟩
    · right
      refine ⟨.ret, hL', rfl, wc_ret ?_⟩
      simp only [inBlockE, thenE, bodyQ]
      refine ⟨w2.heap.size, rfl, (heap_put_ne _ _ (by omega)).trans hD', ?_⟩
      refine leaveN (vs := [.slice none 0 0, .bool false]) (resv_cell (b := w.heap.size) (v := .slice none 0 0) (c := #[.slice none 0 0]) rfl rfl ((heap_put_ne _ _ (by omega)).trans ((heap_put_ne _ _ (by omega)).trans hA0')) rfl (resv_cell (b := w.heap.size + 1) (v := .bool false) (c := #[.bool false]) rfl rfl ((heap_put_ne _ _ (by omega)).trans ((heap_put_ne _ _ (by omega)).trans hA1')) rfl resv_nil)) ⟨?_, (hk'.put _ (fun h => by omega)).put _ (fun h => by omega)⟩
      unfold parseR
      rw [hnone]; rfl
theorem parse_ca (s : List UInt8) (hs : s.length ≤ 1000000000000) {p q : Addr} {w : World} (hg : Glo w p q) : Ca Tryd.prog 56 #[S s] w fun v w' => parseR s w v w' ∧ Keeps NoB w w' :=
  parse_ca' s (by omega) (Nat.le_trans (cntF_le _ s (Nat.le_refl _)) hs) hg
end Go.Proofs.YthlbgeonobicbaaDoor

namespace Go.Proofs.YthlbgeonobicbaaDoor
open Go Go.V Go.RowKit
set_option linter.unusedVariables false
set_option linter.unusedSimpArgs false

set_option maxRecDepth 100000 in
set_option maxHeartbeats 1000000 in
theorem rvarint_ca (n : Nat) (hn : n < 18446744073709551616) (w : World) :
    Ca Tryd.prog 65 #[.int .u64 (n : Int)] w fun v w' => v = S (varint n) ∧ Keeps NoB w w' := by
  refine ca_of_body (args := [.int .u64 (n : Int)]) Tryd.func65 rfl (by kernel_rfl) ?_
  (repeat first | (apply wr_assign; exact rfl; with_reducible (conv => enter [6, 3]; whnf)) | apply wr_end | apply wc_seq | apply wc_region | apply wc_block)
  refine wc_loopL (α := Nat × Value × List UInt8) (fun x => [(0, .int .u64 (x.1 : Int)), (3, x.2.1)])
    (fun x ds w' => ds = [] ∧ x.1 < 18446744073709551616 ∧ x.2.2.length ≤ 10 ∧ x.2.2 ++ varint x.1 = varint n ∧ w'.ownsRow w.heap.size 5 1 x.2.1 x.2.2.length (bytesV x.2.2) ∧ Keeps NoB w w') (fun x => x.1) (n, .slice none 0 0, []) ⟨rfl, hn, by simp, rfl, ⟨rfl, .inl ⟨rfl, rfl⟩⟩, Keeps.refl _ _⟩ ⟨rfl, rfl, trivial⟩ ?_
  rintro ⟨m, v2, pre⟩ ds f0 w2 ⟨rfl, hm, hpl, hpre, ho2, hk2⟩
  simp only at hm hpl hpre ho2
  dsimp only
  have hvl := varint_le 9 n (by omega)
  have hle : pre.length + (varint m).length ≤ 10 := by rw [← List.length_append, hpre]; exact hvl
  have hpos : 1 ≤ (varint m).length := by unfold varint; split <;> simp
  have hs2 := hk2.size
  by_cases hlt : m < 128
  · (repeat first | (apply wr_move; exact rfl; with_reducible (conv => enter [6, 3]; whnf)) | apply wr_end | apply wc_seq | apply wc_region | (apply wr_cmp; (iterate 3 exact rfl); exact cmpF (by dsimp only [cmpN]; first | done | omega)) | (apply wr_conv; (iterate 2 exact rfl); exact w_fit (by dsimp only [kIn]; first | done | omega)) | (apply wc_false; exact rfl) | (apply wc_exit; try simp only [thenE, inBlockE, bodyQ, ↓reduceIte, Nat.reduceEqDiff]))
    refine wr_buildSlice (vs := [.int .u8 (m : Int)]) rfl rfl (by intro v hv; simp at hv; subst hv; rfl) rfl (by decide) (by decide) (by decide) ?_
    refine wr_append (v := v2) (n := pre.length) (m := 1) (news := [.int .u8 (m : Int)]) rfl rfl (ho2.alloc _) rfl (heap_alloc_same _ _) rfl (by intro v hv; simp at hv; subst hv; rfl) rfl (by decide) (by omega) (by omega) (by simp; omega) ?_
    intro v3 w3 ho3 hk3 _
    have hb : bytesV pre ++ [.int .u8 (m : Int)] = bytesV (pre ++ [UInt8.ofNat m]) := by rw [bytesV_snoc]; simp; omega
    rw [hb] at ho3
    refine wr_bytes2str rfl rfl (SlR.of_own ho3) ?_
    (repeat first | (apply wr_assign; exact rfl; with_reducible (conv => enter [6, 3]; whnf)) | apply wr_end | (apply wc_ret; try simp only [thenE, inBlockE, bodyQ]))
    refine leave1 (v := S (pre ++ [UInt8.ofNat m])) rfl rfl ⟨?_, ?_⟩
    · rw [← hpre, varint_lt hlt]
    · exact (hk2.alloc _).trans' hk3 fun i hi h => absurd (ho2.lt i h).1 (by omega)
  · (repeat first | (apply wr_move; exact rfl; with_reducible (conv => enter [6, 3]; whnf)) | apply wr_end | apply wc_seq | apply wc_region | apply wc_skip | apply wc_block | (apply wr_cmp; (iterate 3 exact rfl); exact cmpT (by dsimp only [cmpP]; first | done | omega)) | (apply wc_true; exact rfl))
    refine wr_remN (n := m) (m := 128) rfl rfl rfl (by decide) ?_
    (repeat first | (apply wr_add; (iterate 3 exact rfl); exact w_fit (by dsimp only [kIn]; first | done | omega)) | (apply wr_conv; (iterate 2 exact rfl); exact w_fit (by dsimp only [kIn]; first | done | omega)))
    have hb8 : ((m % 128 : Nat) : Int) + 128 = ((UInt8.ofNat (m % 128 + 128)).toNat : Int) := by simp; omega
    rw [hb8]
    refine wr_buildSlice (vs := [.int .u8 ((UInt8.ofNat (m % 128 + 128)).toNat : Int)]) rfl rfl (by intro v hv; simp at hv; subst hv; rfl) rfl (by decide) (by decide) (by decide) ?_
    refine wr_append (v := v2) (n := pre.length) (m := 1) (news := [.int .u8 ((UInt8.ofNat (m % 128 + 128)).toNat : Int)]) rfl rfl (ho2.alloc _) rfl (heap_alloc_same _ _) rfl (by intro v hv; simp at hv; subst hv; rfl) rfl (by decide) (by omega) (by omega) (by simp; omega) ?_
    intro v3 w3 ho3 hk3 _
    rw [← bytesV_snoc] at ho3
    (repeat first | (apply wr_move; exact rfl; with_reducible (conv => enter [6, 3]; whnf)) | (apply wr_assign; exact rfl; with_reducible (conv => enter [6, 3]; whnf)) | apply wr_end | apply wc_region)
    refine wr_quoN (n := m) (m := 128) rfl rfl rfl (by decide) (w_u64 (by omega)) ?_
    (repeat first | (apply wr_assign; exact rfl; with_reducible (conv => enter [6, 3]; whnf)) | (apply wr_nil; try simp only [thenE, inBlockE, bodyQ]))
    rw [varint_ge (by omega)] at hpre hle
    refine ⟨(m / 128, v3, pre ++ [UInt8.ofNat (m % 128 + 128)]), by simp only; omega, ⟨by trivial, by simp only; omega, ?_, ?_, ?_, ?_⟩, rfl, rfl, trivial⟩
    · simp at hle ⊢; omega
    · simpa using hpre
    · simpa using ho3
    · exact (hk2.alloc _).trans' hk3 fun i hi h => absurd (ho2.lt i h).1 (by omega)
set_option maxRecDepth 100000 in
set_option maxHeartbeats 1000000 in
theorem rreadVarint_ca (s : List UInt8) (hs : s.length ≤ 9223372036854775807) (w : World) :
    Ca Tryd.prog 58 #[S s] w fun v w' => v = rvV (readVarint s) ∧ w' = w := by
  refine ca_of_body (args := [S s]) Tryd.func58 rfl (by kernel_rfl) ?_
  (repeat first | (apply wr_assign; exact rfl; with_reducible (conv => enter [6, 3]; whnf)) | apply wr_end | apply wc_seq | apply wc_region | apply wc_block)
  refine wc_loopL (α := Nat × Nat) (fun x => [(0, S s), (5, .int .u64 (x.2 : Int)), (6, .int .i64 (x.1 : Int))])
    (fun x ds w' => ds = [] ∧ w' = w ∧ x.1 ≤ 10 ∧ x.1 ≤ s.length ∧ x.2 < 128 ^ x.1 ∧ rv x.1 x.2 (s.drop x.1) = readVarint s) (fun x => 10 - x.1) (0, 0) ⟨rfl, rfl, Nat.zero_le _, Nat.zero_le _, by decide, rfl⟩ ⟨rfl, rfl, rfl, trivial⟩ ?_
  rintro ⟨k, acc⟩ ds f0 w1 ⟨rfl, rfl, hk, hks, hacc, hrv⟩
  simp only at hk hks hacc hrv
  dsimp only
  by_cases hlt : k < s.length ∧ k < 10
  · obtain ⟨hl1, hl2⟩ := hlt
    obtain ⟨b, hb⟩ : ∃ b, s[k]? = some b := ⟨s[k]'(by omega), List.getElem?_eq_getElem _⟩
    have hdrop : s.drop k = b :: s.drop (k + 1) := by
      rw [List.drop_eq_getElem_cons (by omega)]; congr 1
      exact Option.some.inj ((List.getElem?_eq_getElem (by omega)).symm.trans hb)
    rw [hdrop, rv_cons (by omega)] at hrv
    have hbl := b.toNat_lt
    (repeat first | (apply wr_move; exact rfl; with_reducible (conv => enter [6, 3]; whnf)) | apply wr_end | apply wc_seq | apply wc_region | apply wc_skip | apply wc_block | (apply wr_len_str; iterate 2 exact rfl) | (apply wr_cmp; (iterate 3 exact rfl); exact cmpT (by dsimp only [cmpP]; first | done | omega)) | (apply wr_pick (t := true); (iterate 2 exact rfl); with_reducible (conv => enter [6, 3]; whnf)) | (apply wc_true; exact rfl))
    refine wr_index_str (b := b) rfl rfl rfl (by omega) (by simpa using hb) ?_
    by_cases hbad : k = 9 ∧ 1 < b.toNat
    · rw [if_pos hbad] at hrv
      obtain ⟨h9, hb1⟩ := hbad
      (repeat first | (apply wr_move; exact rfl; with_reducible (conv => enter [6, 3]; whnf)) | (apply wr_assign; exact rfl; with_reducible (conv => enter [6, 3]; whnf)) | apply wr_end | apply wc_seq | apply wc_region | (apply wr_cmp; (iterate 3 exact rfl); exact cmpT (by dsimp only [cmpP]; first | done | omega)) | (apply wr_pick (t := true); (iterate 2 exact rfl); with_reducible (conv => enter [6, 3]; whnf)) | (apply wr_conv; (iterate 2 exact rfl); exact w_fit (by dsimp only [kIn]; first | done | omega)) | (apply wc_true; exact rfl) | (apply wc_ret; try simp only [thenE, inBlockE, bodyQ]))
      refine leave3 (v1 := .int .u64 0) (v2 := .int .i64 0) (v3 := .bool false) rfl rfl rfl rfl ⟨by rw [← hrv]; rfl, rfl⟩
    · rw [if_neg hbad] at hrv
      have hc9 : k = 9 → b.toNat % 128 ≤ 1 := fun e => by have : ¬ 1 < b.toNat := fun h => hbad ⟨e, h⟩; omega
      have hfit := chunk_fits (k := k) (c := b.toNat % 128) (by omega) (by omega) hc9
      have hor := or_chunk hacc hfit
      have hsh : IntKind.u64.wrap ((b.toNat % 128 * 2 ^ (7 * k) : Nat) : Int) = ((b.toNat % 128 * 128 ^ k : Nat) : Int) := by
        rw [pow7]; exact w_u64 (by omega)
      have h9' : k = 9 ∧ b.toNat ≤ 1 ∨ k ≠ 9 := by omega
      have fin : ∀ (hl : b.toNat < 128), rvV (readVarint s) = .tuple #[.int .u64 ((acc + b.toNat % 128 * 128 ^ k : Nat) : Int), .int .i64 ((k : Int) + 1), .bool true] := fun hl => by
        rw [if_pos hl] at hrv
        rw [← hrv, Nat.mod_eq_of_lt hl]; rfl
      have nxt : ∀ (hl : ¬ b.toNat < 128), rv (k + 1) (acc + b.toNat % 128 * 128 ^ k) (s.drop (k + 1)) = readVarint s := fun hl => by
        rw [if_neg hl] at hrv
        rw [← hrv, show b.toNat % 128 = b.toNat - 128 by omega]
      have hnx : acc + b.toNat % 128 * 128 ^ k < 128 ^ (k + 1) := by
        have : (b.toNat % 128 + 1) * 128 ^ k ≤ 128 * 128 ^ k := Nat.mul_le_mul_right _ (by omega)
        rw [Nat.pow_succ, Nat.mul_comm _ 128]
        rw [Nat.add_mul, Nat.one_mul] at this; omega
      clear hrv hc9 hfit
      rcases h9' with ⟨h9, hb1⟩ | h9
      all_goals
        (repeat first | (apply wr_move; exact rfl; with_reducible (conv => enter [6, 3]; whnf)) | (apply wr_assign; exact rfl; with_reducible (conv => enter [6, 3]; whnf)) | apply wr_end | apply wc_seq | apply wc_region | apply wc_skip | (apply wr_cmp; (iterate 3 exact rfl); exact cmpT (by dsimp only [cmpP]; first | done | omega)) | (apply wr_cmp; (iterate 3 exact rfl); exact cmpF (by dsimp only [cmpN]; first | done | omega)) | (apply wr_pick (t := true); (iterate 2 exact rfl); with_reducible (conv => enter [6, 3]; whnf)) | (apply wr_pick (t := false); (iterate 2 exact rfl); with_reducible (conv => enter [6, 3]; whnf)) | (apply wr_conv; (iterate 2 exact rfl); exact w_fit (by dsimp only [kIn]; first | done | omega)) | (apply wc_false; exact rfl) | (apply wr_skip; exact rfl))
        refine wr_remN (n := b.toNat) (m := 128) rfl rfl rfl (by decide) ?_
        (repeat first | (apply wr_move; exact rfl; with_reducible (conv => enter [6, 3]; whnf)) | (apply wr_mul; (iterate 3 exact rfl); exact w_fit (by dsimp only [kIn]; first | done | omega)))
        refine wr_shlN (7 * k) rfl rfl (by simp; rfl) (by simp [IntKind.bits]; omega) hsh ?_
        by_cases hl : b.toNat < 128
        · (repeat first | (apply wr_move; exact rfl; with_reducible (conv => enter [6, 3]; whnf)) | (apply wr_assign; exact rfl; with_reducible (conv => enter [6, 3]; whnf)) | apply wr_end | apply wc_seq | apply wc_region | (apply wr_cmp; (iterate 3 exact rfl); exact cmpT (by dsimp only [cmpP]; first | done | omega)) | (apply wr_add; (iterate 3 exact rfl); exact w_fit (by dsimp only [kIn]; first | done | omega)) | (apply wr_bits; exact rfl; (focus (simp; done)); (iterate 2 exact rfl); assumption) | (apply wc_true; exact rfl) | (apply wc_ret; try simp only [thenE, inBlockE, bodyQ]))
          refine leave3 rfl rfl rfl rfl ⟨(fin hl).symm, rfl⟩
        · first
            | (exfalso; omega)
            | ((repeat first | (apply wr_move; exact rfl; with_reducible (conv => enter [6, 3]; whnf)) | (apply wr_assign; exact rfl; with_reducible (conv => enter [6, 3]; whnf)) | apply wr_end | apply wc_seq | apply wc_region | apply wc_skip | (apply wr_cmp; (iterate 3 exact rfl); exact cmpF (by dsimp only [cmpN]; first | done | omega)) | (apply wr_add; (iterate 3 exact rfl); exact w_fit (by dsimp only [kIn]; first | done | omega)) | (apply wr_bits; exact rfl; (focus (simp; done)); (iterate 2 exact rfl); assumption) | (apply wc_false; exact rfl))
               refine ⟨(k + 1, acc + b.toNat % 128 * 128 ^ k), by simp only; omega, ⟨rfl, rfl, by simp only; omega, by simp only; omega, hnx, nxt hl⟩, rfl, rfl, rfl, trivial⟩)
  · have hnone : readVarint s = none := by
      rw [← hrv]
      rcases Nat.lt_or_ge k 10 with h | h
      · have : s.drop k = [] := List.drop_eq_nil_of_le (by omega)
        rw [this]; rfl
      · obtain rfl : k = 10 := by omega
        exact rv_ten _
    have hc : (¬ k < s.length) ∨ (k < s.length ∧ ¬ k < 10) := by omega
    clear hlt
    rcases hc with hc | hc
    all_goals
      (repeat first | (apply wr_move; exact rfl; with_reducible (conv => enter [6, 3]; whnf)) | (apply wr_assign; exact rfl; with_reducible (conv => enter [6, 3]; whnf)) | apply wr_end | apply wc_seq | apply wc_region | (apply wr_len_str; iterate 2 exact rfl) | (apply wr_cmp; (iterate 3 exact rfl); exact cmpT (by dsimp only [cmpP]; first | done | omega)) | (apply wr_cmp; (iterate 3 exact rfl); exact cmpF (by dsimp only [cmpN]; first | done | omega)) | (apply wr_pick (t := true); (iterate 2 exact rfl); with_reducible (conv => enter [6, 3]; whnf)) | (apply wr_pick (t := false); (iterate 2 exact rfl); with_reducible (conv => enter [6, 3]; whnf)) | (apply wc_false; exact rfl) | (apply wc_exit; try simp only [thenE, inBlockE, bodyQ, ↓reduceIte, Nat.reduceEqDiff]) | (apply wc_ret; try simp only [thenE, inBlockE, bodyQ]) | (apply wr_skip; exact rfl))
      refine leave3 (v1 := .int .u64 0) (v2 := .int .i64 0) (v3 := .bool false) rfl rfl rfl rfl ⟨by rw [hnone]; rfl, rfl⟩
end Go.Proofs.YthlbgeonobicbaaDoor
