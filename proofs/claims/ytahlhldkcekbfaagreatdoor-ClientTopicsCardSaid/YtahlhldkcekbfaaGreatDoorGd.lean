/- The client's small functions. -/
import Derived.Test.YtahlhldkcekbfaaGreatDoorGc
namespace Go.Proofs.YtahlhldkcekbfaaGreatDoor
open Go Go.V Go.RowKit
set_option linter.unusedVariables false
set_option linter.unusedSimpArgs false

def erV : Option Int → Value
  | none => .nilIface
  | some e => Wrong e
def errOf (is : Bool) (e : Int) : Option Int := if is then none else some e
def firstO (L : List (Option Int)) : Option Int := (L.find? (·.isSome)).join
def typedB (k : Int) : Bool := decide (1 ≤ k ∧ k ≤ 5)
theorem erV_one (a : Option Int) : (erV a).oneCell' = true := by cases a <;> rfl
theorem typed_ca (k : Int) (w : World) : Ca Tryz.prog 40 #[.int .i64 k] w fun v w' => v = .bool (typedB k) ∧ w' = w := by
  refine ca_of_body (args := [.int .i64 k]) Tryz.func40 rfl (by kernel_rfl) ?_
  unfold typedB
  by_cases h1 : 1 ≤ k
  · by_cases h2 : k ≤ 5
    · rw [decide_eq_true ⟨h1, h2⟩]
      (repeat first | (apply wr_move; exact rfl; with_reducible (conv => enter [6, 3]; whnf)) | (apply wr_assign; exact rfl; with_reducible (conv => enter [6, 3]; whnf)) | apply wr_end | apply wc_seq | apply wc_region | (apply wr_cmp; (iterate 3 exact rfl); exact cmpT (by dsimp only [cmpP]; first | done | omega)) | (apply wr_pick (t := true); (iterate 2 exact rfl); with_reducible (conv => enter [6, 3]; whnf)) | (apply wc_ret; try simp only [thenE, inBlockE, bodyQ]))
      exact leave1 (v := .bool true) rfl rfl ⟨rfl, by trivial⟩
    · rw [decide_eq_false (fun h => h2 h.2)]
      (repeat first | (apply wr_move; exact rfl; with_reducible (conv => enter [6, 3]; whnf)) | (apply wr_assign; exact rfl; with_reducible (conv => enter [6, 3]; whnf)) | apply wr_end | apply wc_seq | apply wc_region | (apply wr_cmp; (iterate 3 exact rfl); exact cmpT (by dsimp only [cmpP]; first | done | omega)) | (apply wr_cmp; (iterate 3 exact rfl); exact cmpF (by dsimp only [cmpN]; first | done | omega)) | (apply wr_pick (t := true); (iterate 2 exact rfl); with_reducible (conv => enter [6, 3]; whnf)) | (apply wc_ret; try simp only [thenE, inBlockE, bodyQ]))
      exact leave1 (v := .bool false) rfl rfl ⟨rfl, by trivial⟩
  · rw [decide_eq_false (fun h => h1 h.1)]
    (repeat first | (apply wr_move; exact rfl; with_reducible (conv => enter [6, 3]; whnf)) | (apply wr_assign; exact rfl; with_reducible (conv => enter [6, 3]; whnf)) | apply wr_end | apply wc_seq | apply wc_region | (apply wr_cmp; (iterate 3 exact rfl); exact cmpF (by dsimp only [cmpN]; first | done | omega)) | (apply wr_pick (t := false); (iterate 2 exact rfl); with_reducible (conv => enter [6, 3]; whnf)) | (apply wc_ret; try simp only [thenE, inBlockE, bodyQ]) | (apply wr_skip; exact rfl))
    exact leave1 (v := .bool false) rfl rfl ⟨rfl, by trivial⟩
theorem need_ca (is : Bool) (e : Int) (w : World) : Ca Tryz.prog 35 #[.bool is, .int .i64 e] w fun v w' => v = erV (errOf is e) ∧ w' = w := by
  refine ca_of_body (args := [.bool is, .int .i64 e]) Tryz.func35 rfl (by kernel_rfl) ?_
  cases is with
  | true =>
    (repeat first | (apply wr_move; exact rfl; with_reducible (conv => enter [6, 3]; whnf)) | (apply wr_assign; exact rfl; with_reducible (conv => enter [6, 3]; whnf)) | apply wr_end | apply wc_seq | apply wc_region | (apply wc_true; exact rfl) | (apply wc_ret; try simp only [thenE, inBlockE, bodyQ]))
    exact leave1 (v := .nilIface) rfl rfl ⟨rfl, by trivial⟩
  | false =>
    (repeat first | (apply wr_move; exact rfl; with_reducible (conv => enter [6, 3]; whnf)) | (apply wr_assign; exact rfl; with_reducible (conv => enter [6, 3]; whnf)) | apply wr_end | apply wc_seq | apply wc_region | apply wc_skip | (apply wc_false; exact rfl))
    refine wr_build (ps := [(0, .int .i64 e)]) (cs := [.int .i64 e]) rfl rfl rfl rfl ?_
    refine wr_makeIface (v := .agg #[.int .i64 e]) rfl rfl rfl ?_
    (repeat first | (apply wr_assign; exact rfl; with_reducible (conv => enter [6, 3]; whnf)) | apply wr_end | (apply wc_ret; try simp only [thenE, inBlockE, bodyQ]))
    exact leave1 (v := Wrong e) rfl rfl ⟨rfl, by trivial⟩
theorem neq_eq (t : TypeId) (a : Option Int) : binOp .neq t (erV a) .nilIface = (do pure (Value.bool (!(← Op.equal t (erV a) .nilIface))) : Sem Value) := by cases a <;> rfl
set_option maxRecDepth 100000 in
theorem run_neEr (a : Option Int) (w : World) : (binOp .neq 97 (erV a) .nilIface).run Tryz.prog w = .ok (.bool a.isSome) w := by
  have : (Op.equal 97 (erV a) .nilIface).run Tryz.prog w = .ok a.isNone w := by
    cases a with
    | none => exact equalIn_nil_nil 9999 Tryz.underlying97
    | some s => exact equalIn_if_nil 9999 Tryz.underlying97
  rw [neq_eq]
  simp only [Sem.run_bind, this, Result.andThen_ok]
  cases a <;> rfl
set_option maxRecDepth 100000 in
theorem first_ca (L : List (Option Int)) (hL : L.length ≤ 1000) (g : Nat) (T : TypeId) (fr : Nat × Nat) (w : World) (hg : w.heap[g]? = some (.cells (L.map erV).toArray T fr)) :
    Ca Tryz.prog 34 #[.slice (some ⟨g, 0, none⟩) L.length L.length] w fun v w' => v = erV (firstO L) ∧ w' = w := by
  refine ca_of_body (args := [.slice (some ⟨g, 0, none⟩) L.length L.length]) Tryz.func34 rfl (by kernel_rfl) ?_
  (repeat first | (apply wr_move; exact rfl; with_reducible (conv => enter [6, 3]; whnf)) | (apply wr_assign; exact rfl; with_reducible (conv => enter [6, 3]; whnf)) | apply wr_end | apply wc_seq | apply wc_region | apply wc_block | (apply wr_len_slice; iterate 2 exact rfl))
  refine wc_loopL (α := Nat) (fun i => [(2, .nilIface), (5, .slice (some ⟨g, 0, none⟩) L.length L.length), (6, .int .i64 (L.length : Int)), (7, .int .i64 (i : Int))])
    (fun i ds w' => (ds = [] ∧ w' = w) ∧ i ≤ L.length ∧ firstO L = firstO (L.drop i)) (fun i => L.length - i) 0 ⟨⟨rfl, rfl⟩, by omega, rfl⟩ ⟨rfl, rfl, rfl, rfl, trivial⟩ ?_
  rintro i ds f0 w2 ⟨⟨rfl, rfl⟩, hi, hf⟩
  try dsimp only at hf ⊢
  by_cases hlt : i < L.length
  · obtain ⟨a, ha⟩ : ∃ a, L[i]? = some a := ⟨L[i], by simp [hlt]⟩
    have hd : L.drop i = a :: L.drop (i + 1) := by
      rw [List.drop_eq_getElem_cons hlt]
      rw [(List.getElem?_eq_some_iff.1 ha).2]
    (repeat first | apply wr_end | apply wc_seq | apply wc_region | apply wc_skip | apply wc_block | (apply wr_cmp; (iterate 3 exact rfl); exact cmpT (by dsimp only [cmpP]; first | done | omega)) | (apply wc_true; exact rfl))
    refine wr_indexAddr (i := i) rfl rfl rfl hlt ?_
    refine wr_load (v := erV a) rfl rfl rfl hg (by simp [ha]) ?_
    (repeat first | (apply wr_move; exact rfl; with_reducible (conv => enter [6, 3]; whnf)) | (apply wr_assign; exact rfl; with_reducible (conv => enter [6, 3]; whnf)) | apply wr_end | apply wc_seq | apply wc_region)
    refine wr_bin rfl rfl rfl (by cases a <;> simp [eqGuard, erV]) (run_neEr a _) ?_
    cases a with
    | none =>
      (repeat first | (apply wr_move; exact rfl; with_reducible (conv => enter [6, 3]; whnf)) | apply wr_end | apply wc_region | apply wc_skip | (apply wr_add; (iterate 3 exact rfl); exact w_fit (by dsimp only [kIn]; first | done | omega)) | (apply wc_false; exact rfl))
      exact ⟨i + 1, by omega, ⟨⟨by trivial, by trivial⟩, by omega, by rw [hf, hd]; rfl⟩, rfl, rfl, rfl, rfl, trivial⟩
    | some e =>
      (repeat first | (apply wr_move; exact rfl; with_reducible (conv => enter [6, 3]; whnf)) | (apply wr_assign; exact rfl; with_reducible (conv => enter [6, 3]; whnf)) | apply wr_end | apply wc_seq | apply wc_region | (apply wc_true; exact rfl) | (apply wc_ret; try simp only [thenE, inBlockE, bodyQ]))
      exact leave1 (v := Wrong e) rfl rfl ⟨by rw [hf, hd]; rfl, by trivial⟩
  · have : L.drop i = [] := List.drop_of_length_le (by omega)
    rw [this] at hf
    (repeat first | (apply wr_assign; exact rfl; with_reducible (conv => enter [6, 3]; whnf)) | apply wr_end | apply wc_seq | apply wc_region | (apply wr_cmp; (iterate 3 exact rfl); exact cmpF (by dsimp only [cmpN]; first | done | omega)) | (apply wc_false; exact rfl) | (apply wc_exit; try simp only [thenE, inBlockE, bodyQ, ↓reduceIte, Nat.reduceEqDiff]) | (apply wc_ret; try simp only [thenE, inBlockE, bodyQ]))
    exact leave1 (v := .nilIface) rfl rfl ⟨by rw [hf]; rfl, by trivial⟩
set_option maxRecDepth 100000 in
theorem told_ca (a : Option Int) (w : World) (hE : ErrT w) : Ca Tryz.prog 37 #[erV a] w fun v w' => v = .int .i64 (a.getD 0) ∧ Keeps NoB w w' := by
  refine ca_of_body (args := [erV a]) Tryz.func37 rfl (by kernel_rfl) ?_
  (repeat first | (apply wr_move; exact rfl; with_reducible (conv => enter [6, 3]; whnf)) | (apply wr_assign; exact rfl; with_reducible (conv => enter [6, 3]; whnf)) | apply wr_end | apply wc_seq | apply wc_region | (apply wr_alloc; exact rfl))
  refine wr_name ?_
  intro w1 hw1
  obtain ⟨b1, hb1⟩ : ∃ b, b = w.heap.size := ⟨_, rfl⟩
  have hk1 : Keeps NoB w w1 := by rw [hw1]; exact (Keeps.refl NoB w).alloc _
  have hc1 : w1.heap[b1]? = some (.cells #[.int .i64 0] 124 (0, 0)) := by rw [hw1, hb1]; exact heap_alloc_same _ _
  rw [← hb1]
  clear hw1
  refine wr_makeIface (v := .pointer (some ⟨b1, 0, none⟩)) rfl rfl rfl ?_
  cases a with
  | none =>
    refine wr_call (vs := [.nilIface, .iface 128 (.pointer (some ⟨b1, 0, none⟩))]) rfl (asNil_ca _ _) rfl ?_
    rintro v w2 ⟨rfl, rfl⟩
    (repeat first | (apply wr_assign; exact rfl; with_reducible (conv => enter [6, 3]; whnf)) | apply wr_end | apply wc_seq | apply wc_region | apply wc_skip | (apply wc_false; exact rfl) | (apply wc_ret; try simp only [thenE, inBlockE, bodyQ]))
    exact leave1 (v := .int .i64 0) rfl rfl ⟨rfl, hk1⟩
  | some e =>
    refine wr_call (vs := [Wrong e, .iface 128 (.pointer (some ⟨b1, 0, none⟩))]) rfl (asHit_ca e b1 (.int .i64 0) (hE.keep hk1) hc1) rfl ?_
    rintro v w2 ⟨rfl, hc2, hk2⟩
    (repeat first | (apply wr_assign; exact rfl; with_reducible (conv => enter [6, 3]; whnf)) | apply wr_end | apply wc_seq | apply wc_region | (apply wr_fieldAddr; iterate 2 exact rfl) | (apply wr_load; (iterate 3 exact rfl); (focus repeat first | with_reducible assumption | exact heap_alloc_same _ _ | exact World.putObj_heap_same (by first | omega | (simp only [World.size_alloc, World.putObj_size, ne_eq]; omega)) | ((first | refine hAl ?_ ?_ | refine hPu ?_ ?_); focus first | omega | (simp only [World.size_alloc, World.putObj_size, ne_eq]; omega))); exact rfl; conv => enter [6, 3]; whnf) | (apply wc_true; exact rfl) | (apply wc_ret; try simp only [thenE, inBlockE, bodyQ]))
    exact leave1 (v := .int .i64 e) rfl rfl ⟨rfl, hk1.trans' hk2 (fun i hi e => by omega)⟩
set_option maxRecDepth 100000 in
theorem short_ca (L : List (Value × Nat)) (hL : L.length ≤ 1000) (hs : ∀ x ∈ L, ∃ a c, x.1 = .slice a x.2 c) (g : Nat) (T : TypeId) (fr : Nat × Nat) (w : World) (hg : w.heap[g]? = some (.cells (L.map (·.1)).toArray T fr)) :
    Ca Tryz.prog 41 #[.slice (some ⟨g, 0, none⟩) L.length L.length] w fun v w' => v = .bool (L.all fun x => decide (x.2 ≤ 64)) ∧ w' = w := by
  refine ca_of_body (args := [.slice (some ⟨g, 0, none⟩) L.length L.length]) Tryz.func41 rfl (by kernel_rfl) ?_
  (repeat first | (apply wr_move; exact rfl; with_reducible (conv => enter [6, 3]; whnf)) | (apply wr_assign; exact rfl; with_reducible (conv => enter [6, 3]; whnf)) | apply wr_end | apply wc_seq | apply wc_region | apply wc_block | (apply wr_len_slice; iterate 2 exact rfl))
  refine wc_loopL (α := Nat) (fun i => [(2, .bool false), (5, .slice (some ⟨g, 0, none⟩) L.length L.length), (6, .int .i64 (L.length : Int)), (7, .int .i64 (i : Int))])
    (fun i ds w' => (ds = [] ∧ w' = w) ∧ i ≤ L.length ∧ (L.all fun x => decide (x.2 ≤ 64)) = ((L.drop i).all fun x => decide (x.2 ≤ 64))) (fun i => L.length - i) 0 ⟨⟨rfl, rfl⟩, by omega, rfl⟩ ⟨rfl, rfl, rfl, rfl, trivial⟩ ?_
  rintro i ds f0 w2 ⟨⟨rfl, rfl⟩, hi, hf⟩
  try dsimp only at hf ⊢
  by_cases hlt : i < L.length
  · obtain ⟨x, ha⟩ : ∃ a, L[i]? = some a := ⟨L[i], by simp [hlt]⟩
    have hd : L.drop i = x :: L.drop (i + 1) := by
      rw [List.drop_eq_getElem_cons hlt]
      rw [(List.getElem?_eq_some_iff.1 ha).2]
    obtain ⟨a, c, hx⟩ := hs x (List.mem_of_getElem? ha)
    obtain ⟨xv, n⟩ := x
    dsimp only at hx
    subst hx
    (repeat first | apply wr_end | apply wc_seq | apply wc_region | apply wc_skip | apply wc_block | (apply wr_cmp; (iterate 3 exact rfl); exact cmpT (by dsimp only [cmpP]; first | done | omega)) | (apply wc_true; exact rfl))
    refine wr_indexAddr (i := i) rfl rfl rfl hlt ?_
    refine wr_load (v := .slice a n c) rfl rfl rfl hg (by simp [ha]) ?_
    by_cases hn : n ≤ 64
    · skip
      (repeat first | (apply wr_move; exact rfl; with_reducible (conv => enter [6, 3]; whnf)) | (apply wr_assign; exact rfl; with_reducible (conv => enter [6, 3]; whnf)) | apply wr_end | apply wc_seq | apply wc_region | apply wc_skip | (apply wr_len_slice; iterate 2 exact rfl) | (apply wr_cmp; (iterate 3 exact rfl); exact cmpF (by dsimp only [cmpN]; first | done | omega)) | (apply wr_add; (iterate 3 exact rfl); exact w_fit (by dsimp only [kIn]; first | done | omega)) | (apply wc_false; exact rfl))
      exact ⟨i + 1, by omega, ⟨⟨by trivial, by trivial⟩, by omega, by rw [hf, hd]; simp [hn]⟩, rfl, rfl, rfl, rfl, trivial⟩
    · skip
      (repeat first | (apply wr_move; exact rfl; with_reducible (conv => enter [6, 3]; whnf)) | (apply wr_assign; exact rfl; with_reducible (conv => enter [6, 3]; whnf)) | apply wr_end | apply wc_seq | apply wc_region | (apply wr_len_slice; iterate 2 exact rfl) | (apply wr_cmp; (iterate 3 exact rfl); exact cmpT (by dsimp only [cmpP]; first | done | omega)) | (apply wc_true; exact rfl) | (apply wc_ret; try simp only [thenE, inBlockE, bodyQ]))
      exact leave1 (v := .bool false) rfl rfl ⟨by rw [hf, hd]; simp [hn], by trivial⟩
  · have : L.drop i = [] := List.drop_of_length_le (by omega)
    rw [this] at hf
    (repeat first | (apply wr_assign; exact rfl; with_reducible (conv => enter [6, 3]; whnf)) | apply wr_end | apply wc_seq | apply wc_region | (apply wr_cmp; (iterate 3 exact rfl); exact cmpF (by dsimp only [cmpN]; first | done | omega)) | (apply wc_false; exact rfl) | (apply wc_exit; try simp only [thenE, inBlockE, bodyQ, ↓reduceIte, Nat.reduceEqDiff]) | (apply wc_ret; try simp only [thenE, inBlockE, bodyQ]))
    exact leave1 (v := .bool true) rfl rfl ⟨by rw [hf]; rfl, by trivial⟩
end Go.Proofs.YtahlhldkcekbfaaGreatDoor
