/- strings.Clone, wire.take: what they do. -/
import Derived.Test.YthlbgeonobicbaaDoorWe
import Derived.Test.YthlbgeonobicbaaDoorShelf
namespace Go.Proofs.YthlbgeonobicbaaDoor
open Go Go.V Go.RowKit
set_option linter.unusedVariables false
set_option linter.unusedSimpArgs false

set_option maxRecDepth 100000 in
theorem clone_ca (s : List UInt8) (hs : s.length ≤ 281474976710656) (w : World) : Ca Tryd.prog 82 #[S s] w fun v w' => v = S s ∧ Keeps NoB w w' := by
  refine ca_of_body (args := [S s]) Tryd.func82 rfl (by kernel_rfl) ?_
  (repeat first | (apply wr_move; exact rfl; with_reducible (conv => enter [6, 3]; whnf)) | (apply wr_assign; exact rfl; with_reducible (conv => enter [6, 3]; whnf)) | apply wr_end | apply wc_seq | apply wc_region)
  refine wr_call (vs := [S s]) rfl (Ca.of_calls (R' := fun v w' => v = S s ∧ Keeps NoB w w') (Tryd.stringslite_Clone ⟨s.toArray⟩ w (by rw [S_size]; exact hs)) (fun e w' ⟨h1, h2⟩ => ⟨_, h1, rfl, Keeps.of_below h2⟩)) rfl ?_
  rintro v w1 ⟨rfl, hk⟩
  (repeat first | (apply wr_assign; exact rfl; with_reducible (conv => enter [6, 3]; whnf)) | apply wr_end | (apply wc_ret; try simp only [thenE, inBlockE, bodyQ]))
  exact leave1 (v := S s) rfl rfl ⟨rfl, hk⟩

inductive TR
  | ok (f : WF) (rest : List UInt8)
  | short
  | wrong
/-- A field off the front. -/
def takeF (s : List UInt8) : TR := match readVarint s with
  | none => .short
  | some (tag, n) => if 4294967296 ≤ tag ∨ tag < 8 then .wrong else
    if tag % 8 = 0 then (match readVarint (s.drop n) with
      | none => .short
      | some (v, m) => .ok ⟨(tag / 8 : Nat), 0, v, []⟩ ((s.drop n).drop m)) else
    if tag % 8 = 2 then (match readVarint (s.drop n) with
      | none => .short
      | some (v, m) => if ((s.drop n).drop m).length < v then .short else .ok ⟨(tag / 8 : Nat), 2, 0, ((s.drop n).drop m).take v⟩ (((s.drop n).drop m).drop v)) else
    if tag % 8 = 1 then (if (s.drop n).length < 8 then .short else .ok ⟨(tag / 8 : Nat), 1, 0, (s.drop n).take 8⟩ ((s.drop n).drop 8)) else
    if tag % 8 = 5 then (if (s.drop n).length < 4 then .short else .ok ⟨(tag / 8 : Nat), 5, 0, (s.drop n).take 4⟩ ((s.drop n).drop 4)) else .wrong
theorem rv_bounds : ∀ (l : List UInt8) (k acc n m : Nat), acc < 128 ^ k → rv k acc l = some (n, m) → n < 18446744073709551616 ∧ k + 1 ≤ m ∧ m ≤ k + l.length
  | [], k, acc, n, m, _, h => by simp [rv] at h
  | b :: l, k, acc, n, m, ha, h => by
    have hb := b.toNat_lt
    simp only [rv] at h
    split at h
    · cases h
    · rename_i hk
      split at h
      · cases h
      · rename_i hbad
        split at h
        · rename_i hlt
          simp only [Option.some.injEq, Prod.mk.injEq] at h
          obtain ⟨rfl, rfl⟩ := h
          have := chunk_fits (k := k) (c := b.toNat) (by omega) hlt (fun e => by have : ¬ 1 < b.toNat := fun h => hbad ⟨e, h⟩; omega)
          simp; omega
        · rename_i hge
          have := rv_bounds l (k + 1) _ n m (by
            have : (b.toNat - 128 + 1) * 128 ^ k ≤ 128 * 128 ^ k := Nat.mul_le_mul_right _ (by omega)
            rw [Nat.pow_succ, Nat.mul_comm _ 128]
            rw [Nat.add_mul, Nat.one_mul] at this; omega) h
          simp; omega
theorem readVarint_bounds {s : List UInt8} {n m : Nat} (h : readVarint s = some (n, m)) : n < 18446744073709551616 ∧ 1 ≤ m ∧ m ≤ s.length := by
  have := rv_bounds s 0 0 n m (by decide) h; omega
/-- The package's two errors. -/
structure Glo (w : World) (p q : Addr) : Prop where
  hs : ∃ t r, w.heap[0]? = some (.cells #[Er p] t r)
  hw : ∃ t r, w.heap[1]? = some (.cells #[Er q] t r)
  hp : ∃ c t, w.heap[p.block]? = some (.cells c t (0, 0))
  hq : ∃ c t, w.heap[q.block]? = some (.cells c t (0, 0))
  ne : p ≠ q
def takeR (p q : Addr) (v : Value) : TR → Prop
  | .ok f r => v = .tuple #[f.v, S r, .nilIface]
  | .short => ∃ (f : WF) (r : List UInt8), v = .tuple #[f.v, S r, Er p]
  | .wrong => ∃ (f : WF) (r : List UInt8), v = .tuple #[f.v, S r, Er q]
set_option maxRecDepth 100000 in
set_option maxHeartbeats 4000000 in
theorem take_ca (s : List UInt8) (hs : s.length ≤ 4611686018427387904) {p q : Addr} {w : World} (hg : Glo w p q) : Ca Tryd.prog 89 #[S s] w fun v w' => takeR p q v (takeF s) ∧ Keeps NoB w w' := by
  obtain ⟨⟨t0, r0, hg0⟩, ⟨t1, r1, hg1⟩, _, _, _⟩ := hg
  refine ca_of_body (args := [S s]) Tryd.func89 rfl (by kernel_rfl) ?_
  (repeat first | (apply wr_move; exact rfl; with_reducible (conv => enter [6, 3]; whnf)) | (apply wr_assign; exact rfl; with_reducible (conv => enter [6, 3]; whnf)) | apply wr_end | apply wc_seq | apply wc_region | (apply wr_alloc; exact rfl))
  refine wr_call (vs := [S s]) rfl (readVarint_ca s _) rfl ?_
  rintro v w1 ⟨rfl, rfl⟩
  have hr0 := heap_alloc_same w (.cells (Value.agg #[.int .i64 0, .int .i64 0, .int .u64 0, S []]).cells 101)
  have hg0' := (heap_alloc_ne w (.cells (Value.agg #[.int .i64 0, .int .i64 0, .int .u64 0, S []]).cells 101) (Nat.ne_of_lt (lt_of_heap hg0))).trans hg0
  have hg1' := (heap_alloc_ne w (.cells (Value.agg #[.int .i64 0, .int .i64 0, .int .u64 0, S []]).cells 101) (Nat.ne_of_lt (lt_of_heap hg1))).trans hg1
  have hk0 := (Keeps.refl NoB w).alloc (.cells (Value.agg #[.int .i64 0, .int .i64 0, .int .u64 0, S []]).cells 101)
  cases hrv : readVarint s with
  | none =>
    have hT : takeF s = .short := by unfold takeF; rw [hrv]
    dsimp only [rvV]
    (repeat first | (apply wr_move; exact rfl; with_reducible (conv => enter [6, 3]; whnf)) | (apply wr_assign; exact rfl; with_reducible (conv => enter [6, 3]; whnf)) | apply wr_end | apply wc_seq | apply wc_region | (apply wr_not; iterate 2 exact rfl) | (apply wr_extract; (iterate 3 exact rfl); with_reducible (conv => enter [6, 3]; whnf)) | (apply wc_true; exact rfl))
    refine wc_drawS (l := _) (S := fun w' => w'.heap[w.heap.size]? = some (.cells #[.int .i64 0, .int .i64 0, .int .u64 0, S []] 101 (0, 0)) ∧ w'.heap[0]? = some (.cells #[Er p] t0 r0) ∧ Keeps NoB w w') (by kernel_rfl) (by kernel_rfl) ⟨hr0, hg0', hk0.drew⟩ ?_
    apply ch_step
    focus
      intro w' hS
      obtain ⟨h1, h2, h3⟩ := hS
      refine wr_loadAll (cs := [.int .i64 0, .int .i64 0, .int .u64 0, S []]) rfl rfl rfl h1 rfl ?_
      apply wr_nil
      exact ⟨rfl, h1, h2, h3⟩
    apply ch_step
    focus
      intro w' hS
      obtain ⟨h1, h2, h3⟩ := hS
      apply wr_move; exact rfl
      apply wr_nil
      exact ⟨rfl, h1, h2, h3⟩
    apply ch_step
    focus
      intro w' hS
      obtain ⟨h1, h2, h3⟩ := hS
      refine wr_load rfl rfl rfl h2 rfl ?_
      apply wr_nil
      exact ⟨rfl, h1, h2, h3⟩
    apply ch_step
    focus
      intro w' hS
      obtain ⟨h1, h2, h3⟩ := hS
      refine wr_storeAll (cs := [.int .i64 0, .int .i64 0, .int .u64 0, S []]) rfl rfl rfl (by intro u hu; simp at hu; rcases hu with rfl | rfl | rfl | rfl <;> rfl) h1 rfl rfl ?_
      apply wr_nil
      exact ⟨rfl, World.putObj_heap_same (lt_of_heap h1), (heap_put_ne _ _ (by have := lt_of_heap hg0; have := lt_of_heap hg1; omega)).trans h2, h3.put _ (fun h => by omega)⟩
    apply ch_step
    focus
      intro w' hS
      obtain ⟨h1, h2, h3⟩ := hS
      apply wr_assign; exact rfl
      apply wr_nil
      exact ⟨rfl, h1, h2, h3⟩
    apply ch_step
    focus
      intro w' hS
      obtain ⟨h1, h2, h3⟩ := hS
      apply wr_assign; exact rfl
      apply wr_nil
      exact ⟨rfl, h1, h2, h3⟩
    refine ch_nil ?_
    intro w' hS
    obtain ⟨h1, h2, h3⟩ := hS
    (repeat first | (apply wc_ret; try simp only [thenE, inBlockE, bodyQ]))
    refine leaveN (vs := [.agg #[.int .i64 0, .int .i64 0, .int .u64 0, S []], S s, Er p]) (resv_cells (cs := [.int .i64 0, .int .i64 0, .int .u64 0, S []]) rfl rfl h1 rfl (resv_tmp rfl (resv_tmp rfl resv_nil))) ⟨by rw [hT]; exact ⟨⟨0, 0, 0, []⟩, s, rfl⟩, h3⟩
  | some nk =>
    obtain ⟨tag, n⟩ := nk
    obtain ⟨hb1, hb2, hb3⟩ := readVarint_bounds hrv
    dsimp only [rvV]
    by_cases hbad : 4294967296 ≤ tag ∨ tag < 8
    · have hT : takeF s = .wrong := by unfold takeF; rw [hrv]; exact if_pos hbad
      have hc : 4294967296 ≤ tag ∨ tag < 4294967296 ∧ tag < 8 := by omega
      clear hbad
      rcases hc with hc | hc
      all_goals
        (repeat first | (apply wr_move; exact rfl; with_reducible (conv => enter [6, 3]; whnf)) | (apply wr_assign; exact rfl; with_reducible (conv => enter [6, 3]; whnf)) | apply wr_end | apply wc_seq | apply wc_region | apply wc_skip | (apply wr_not; iterate 2 exact rfl) | (apply wr_cmp; (iterate 3 exact rfl); exact cmpT (by dsimp only [cmpP]; first | done | omega)) | (apply wr_cmp; (iterate 3 exact rfl); exact cmpF (by dsimp only [cmpN]; first | done | omega)) | (apply wr_pick (t := true); (iterate 2 exact rfl); with_reducible (conv => enter [6, 3]; whnf)) | (apply wr_pick (t := false); (iterate 2 exact rfl); with_reducible (conv => enter [6, 3]; whnf)) | (apply wr_extract; (iterate 3 exact rfl); with_reducible (conv => enter [6, 3]; whnf)) | (apply wc_true; exact rfl) | (apply wc_false; exact rfl) | (apply wr_skip; exact rfl))
        refine wc_drawS (l := _) (S := fun w' => w'.heap[w.heap.size]? = some (.cells #[.int .i64 0, .int .i64 0, .int .u64 0, S []] 101 (0, 0)) ∧ w'.heap[1]? = some (.cells #[Er q] t1 r1) ∧ Keeps NoB w w') (by kernel_rfl) (by kernel_rfl) ⟨hr0, hg1', hk0.drew⟩ ?_
        apply ch_step
        focus
          intro w' hS
          obtain ⟨h1, h2, h3⟩ := hS
          refine wr_loadAll (cs := [.int .i64 0, .int .i64 0, .int .u64 0, S []]) rfl rfl rfl h1 rfl ?_
          apply wr_nil
          exact ⟨rfl, h1, h2, h3⟩
        apply ch_step
        focus
          intro w' hS
          obtain ⟨h1, h2, h3⟩ := hS
          apply wr_move; exact rfl
          apply wr_nil
          exact ⟨rfl, h1, h2, h3⟩
        apply ch_step
        focus
          intro w' hS
          obtain ⟨h1, h2, h3⟩ := hS
          refine wr_load rfl rfl rfl h2 rfl ?_
          apply wr_nil
          exact ⟨rfl, h1, h2, h3⟩
        apply ch_step
        focus
          intro w' hS
          obtain ⟨h1, h2, h3⟩ := hS
          refine wr_storeAll (cs := [.int .i64 0, .int .i64 0, .int .u64 0, S []]) rfl rfl rfl (by intro u hu; simp at hu; rcases hu with rfl | rfl | rfl | rfl <;> rfl) h1 rfl rfl ?_
          apply wr_nil
          exact ⟨rfl, World.putObj_heap_same (lt_of_heap h1), (heap_put_ne _ _ (by have := lt_of_heap hg0; have := lt_of_heap hg1; omega)).trans h2, h3.put _ (fun h => by omega)⟩
        apply ch_step
        focus
          intro w' hS
          obtain ⟨h1, h2, h3⟩ := hS
          apply wr_assign; exact rfl
          apply wr_nil
          exact ⟨rfl, h1, h2, h3⟩
        apply ch_step
        focus
          intro w' hS
          obtain ⟨h1, h2, h3⟩ := hS
          apply wr_assign; exact rfl
          apply wr_nil
          exact ⟨rfl, h1, h2, h3⟩
        refine ch_nil ?_
        intro w' hS
        obtain ⟨h1, h2, h3⟩ := hS
        (repeat first | (apply wc_ret; try simp only [thenE, inBlockE, bodyQ]))
        refine leaveN (vs := [.agg #[.int .i64 0, .int .i64 0, .int .u64 0, S []], S s, Er q]) (resv_cells (cs := [.int .i64 0, .int .i64 0, .int .u64 0, S []]) rfl rfl h1 rfl (resv_tmp rfl (resv_tmp rfl resv_nil))) ⟨by rw [hT]; exact ⟨⟨0, 0, 0, []⟩, s, rfl⟩, h3⟩
    · have hk8 : tag % 8 < 8 := Nat.mod_lt _ (by decide)
      (repeat first | (apply wr_move; exact rfl; with_reducible (conv => enter [6, 3]; whnf)) | (apply wr_assign; exact rfl; with_reducible (conv => enter [6, 3]; whnf)) | apply wr_end | apply wc_seq | apply wc_region | apply wc_skip | (apply wr_not; iterate 2 exact rfl) | (apply wr_cmp; (iterate 3 exact rfl); exact cmpF (by dsimp only [cmpN]; first | done | omega)) | (apply wr_pick (t := false); (iterate 2 exact rfl); with_reducible (conv => enter [6, 3]; whnf)) | (apply wr_extract; (iterate 3 exact rfl); with_reducible (conv => enter [6, 3]; whnf)) | (apply wc_false; exact rfl))
      refine wr_quoN (n := tag) (m := 8) rfl rfl rfl (by decide) (w_u64 (by omega)) ?_
      (repeat first | (apply wr_move; exact rfl; with_reducible (conv => enter [6, 3]; whnf)) | (apply wr_conv; (iterate 2 exact rfl); exact w_fit (by dsimp only [kIn]; first | done | omega)))
      refine wr_remN (n := tag) (m := 8) rfl rfl rfl (by decide) ?_
      (repeat first | (apply wr_move; exact rfl; with_reducible (conv => enter [6, 3]; whnf)) | apply wr_end | apply wc_seq | apply wc_region | (apply wr_fieldAddr; iterate 2 exact rfl) | (apply wr_conv; (iterate 2 exact rfl); exact w_fit (by dsimp only [kIn]; first | done | omega)) | (apply wr_store; (iterate 3 exact rfl); (first | exact rfl | with_reducible assumption); (focus repeat first | with_reducible assumption | exact heap_alloc_same _ _ | exact World.putObj_heap_same (by first | omega | (simp only [World.size_alloc, World.putObj_size, ne_eq]; omega)) | ((first | refine hAl ?_ ?_ | refine hPu ?_ ?_); focus first | omega | (simp only [World.size_alloc, World.putObj_size, ne_eq]; omega))); exact rfl))
      refine wr_sl_from (l := s) (i := n) rfl rfl rfl hb3 ?_
      (repeat first | (apply wr_assign; exact rfl; with_reducible (conv => enter [6, 3]; whnf)) | apply wr_end | apply wc_seq | apply wc_region)
      refine wr_call rfl (sizes_ca _) rfl ?_
      rintro v w2 ⟨bm, rfl, hm, hkS⟩
      have hr2 := hkS.heap (b := w.heap.size) (o := .cells #[.int .i64 ((tag / 8 : Nat) : Int), .int .i64 ((tag % 8 : Nat) : Int), .int .u64 0, S []] 101 (0, 0)) (by focus repeat first | with_reducible assumption | exact heap_alloc_same _ _ | exact World.putObj_heap_same (by first | omega | (simp only [World.size_alloc, World.putObj_size, ne_eq]; omega)) | ((first | refine hAl ?_ ?_ | refine hPu ?_ ?_); focus first | omega | (simp only [World.size_alloc, World.putObj_size, ne_eq]; omega))) (fun h => h)
      have hg2 := hkS.heap (b := 0) (o := .cells #[Er p] t0 r0) ((heap_put_ne _ _ (by have := lt_of_heap hg0; omega)).trans ((heap_put_ne _ _ (by have := lt_of_heap hg0; omega)).trans hg0')) (fun h => h)
      have hg3 := hkS.heap (b := 1) (o := .cells #[Er q] t1 r1) ((heap_put_ne _ _ (by have := lt_of_heap hg1; omega)).trans ((heap_put_ne _ _ (by have := lt_of_heap hg1; omega)).trans hg1')) (fun h => h)
      have hk2 := ((hk0.put _ (fun h => by omega)).put _ (fun h => by omega)).trans hkS
      clear hkS hr0 hg0' hg1' hk0
      (repeat first | (apply wr_move; exact rfl; with_reducible (conv => enter [6, 3]; whnf)) | (apply wr_assign; exact rfl; with_reducible (conv => enter [6, 3]; whnf)) | apply wr_end | apply wc_seq | apply wc_region | (apply wr_fieldAddr; iterate 2 exact rfl) | (apply wr_load; (iterate 3 exact rfl); (focus repeat first | with_reducible assumption | exact heap_alloc_same _ _ | exact World.putObj_heap_same (by first | omega | (simp only [World.size_alloc, World.putObj_size, ne_eq]; omega)) | ((first | refine hAl ?_ ?_ | refine hPu ?_ ?_); focus first | omega | (simp only [World.size_alloc, World.putObj_size, ne_eq]; omega))); exact rfl; conv => enter [6, 3]; whnf))
      refine wr_lookupOk (enc := encI .i64) (a := ((tag % 8 : Nat) : Int)) rfl rfl hm rfl ?_
      have hsz := sizes_get ((tag % 8 : Nat) : Int)
      rw [hsz.1, hsz.2]
      clear hsz
      have hT : takeF s = if tag % 8 = 0 then (match readVarint (s.drop n) with
          | none => .short
          | some (v, m) => .ok ⟨(tag / 8 : Nat), 0, v, []⟩ ((s.drop n).drop m)) else
        if tag % 8 = 2 then (match readVarint (s.drop n) with
          | none => .short
          | some (v, m) => if ((s.drop n).drop m).length < v then .short else .ok ⟨(tag / 8 : Nat), 2, 0, ((s.drop n).drop m).take v⟩ (((s.drop n).drop m).drop v)) else
        if tag % 8 = 1 then (if (s.drop n).length < 8 then .short else .ok ⟨(tag / 8 : Nat), 1, 0, (s.drop n).take 8⟩ ((s.drop n).drop 8)) else
        if tag % 8 = 5 then (if (s.drop n).length < 4 then .short else .ok ⟨(tag / 8 : Nat), 5, 0, (s.drop n).take 4⟩ ((s.drop n).drop 4)) else .wrong := by
        unfold takeF; rw [hrv]; exact if_neg hbad
      have hsl : (s.drop n).length ≤ 4611686018427387904 := by rw [List.length_drop]; omega
      generalize hs1 : s.drop n = s1 at hT hsl ⊢
      by_cases h0 : tag % 8 = 0
      · rw [if_pos h0] at hT
        rw [h0, if_neg (by decide), if_neg (by decide), decide_eq_true (by decide)]
        rw [h0] at hr2
        (repeat first | (apply wr_move; exact rfl; with_reducible (conv => enter [6, 3]; whnf)) | (apply wr_assign; exact rfl; with_reducible (conv => enter [6, 3]; whnf)) | apply wr_end | apply wc_seq | apply wc_region | (apply wr_fieldAddr; iterate 2 exact rfl) | (apply wr_load; (iterate 3 exact rfl); (focus repeat first | with_reducible assumption | exact heap_alloc_same _ _ | exact World.putObj_heap_same (by first | omega | (simp only [World.size_alloc, World.putObj_size, ne_eq]; omega)) | ((first | refine hAl ?_ ?_ | refine hPu ?_ ?_); focus first | omega | (simp only [World.size_alloc, World.putObj_size, ne_eq]; omega))); exact rfl; conv => enter [6, 3]; whnf) | (apply wr_cmp; (iterate 3 exact rfl); exact cmpT (by dsimp only [cmpP]; first | done | omega)) | (apply wr_pick (t := true); (iterate 2 exact rfl); with_reducible (conv => enter [6, 3]; whnf)) | (apply wr_conv; (iterate 2 exact rfl); exact w_fit (by dsimp only [kIn]; first | done | omega)) | (apply wr_extract; (iterate 3 exact rfl); with_reducible (conv => enter [6, 3]; whnf)) | (apply wc_true; exact rfl) | (apply wr_skip; exact rfl))
        refine wr_call (vs := [S s1]) rfl (readVarint_ca s1 _) rfl ?_
        rintro v w3 ⟨rfl, rfl⟩
        cases hrv2 : readVarint s1 with
        | none =>
          rw [hrv2] at hT
          dsimp only [rvV]
          (repeat first | (apply wr_move; exact rfl; with_reducible (conv => enter [6, 3]; whnf)) | (apply wr_assign; exact rfl; with_reducible (conv => enter [6, 3]; whnf)) | apply wr_end | apply wc_seq | apply wc_region | (apply wr_not; iterate 2 exact rfl) | (apply wr_extract; (iterate 3 exact rfl); with_reducible (conv => enter [6, 3]; whnf)) | (apply wc_true; exact rfl))
          refine wc_drawS (l := _) (S := fun w' => w'.heap[w.heap.size]? = some (.cells #[.int .i64 ((tag / 8 : Nat) : Int), .int .i64 0, .int .u64 0, S []] 101 (0, 0)) ∧ w'.heap[0]? = some (.cells #[Er p] t0 r0) ∧ Keeps NoB w w') (by kernel_rfl) (by kernel_rfl) ⟨hr2, hg2, hk2.drew⟩ ?_
          apply ch_step
          focus
            intro w' hS
            obtain ⟨h1, h2, h3⟩ := hS
            refine wr_loadAll (cs := [.int .i64 ((tag / 8 : Nat) : Int), .int .i64 0, .int .u64 0, S []]) rfl rfl rfl h1 rfl ?_
            apply wr_nil
            exact ⟨rfl, h1, h2, h3⟩
          apply ch_step
          focus
            intro w' hS
            obtain ⟨h1, h2, h3⟩ := hS
            apply wr_move; exact rfl
            apply wr_nil
            exact ⟨rfl, h1, h2, h3⟩
          apply ch_step
          focus
            intro w' hS
            obtain ⟨h1, h2, h3⟩ := hS
            refine wr_load rfl rfl rfl h2 rfl ?_
            apply wr_nil
            exact ⟨rfl, h1, h2, h3⟩
          apply ch_step
          focus
            intro w' hS
            obtain ⟨h1, h2, h3⟩ := hS
            refine wr_storeAll (cs := [.int .i64 ((tag / 8 : Nat) : Int), .int .i64 0, .int .u64 0, S []]) rfl rfl rfl (by intro u hu; simp at hu; rcases hu with rfl | rfl | rfl | rfl <;> rfl) h1 rfl rfl ?_
            apply wr_nil
            exact ⟨rfl, World.putObj_heap_same (lt_of_heap h1), (heap_put_ne _ _ (by have := lt_of_heap hg0; have := lt_of_heap hg1; omega)).trans h2, h3.put _ (fun h => by omega)⟩
          apply ch_step
          focus
            intro w' hS
            obtain ⟨h1, h2, h3⟩ := hS
            apply wr_assign; exact rfl
            apply wr_nil
            exact ⟨rfl, h1, h2, h3⟩
          apply ch_step
          focus
            intro w' hS
            obtain ⟨h1, h2, h3⟩ := hS
            apply wr_assign; exact rfl
            apply wr_nil
            exact ⟨rfl, h1, h2, h3⟩
          refine ch_nil ?_
          intro w' hS
          obtain ⟨h1, h2, h3⟩ := hS
          (repeat first | (apply wc_ret; try simp only [thenE, inBlockE, bodyQ]))
          refine leaveN (vs := [.agg #[.int .i64 ((tag / 8 : Nat) : Int), .int .i64 0, .int .u64 0, S []], S s1, Er p]) (resv_cells (cs := [.int .i64 ((tag / 8 : Nat) : Int), .int .i64 0, .int .u64 0, S []]) rfl rfl h1 rfl (resv_tmp rfl (resv_tmp rfl resv_nil))) ⟨by rw [hT]; exact ⟨⟨((tag / 8 : Nat) : Int), 0, 0, []⟩, s1, rfl⟩, h3⟩
        | some vm =>
          obtain ⟨v, m⟩ := vm
          obtain ⟨hc1, hc2, hc3⟩ := readVarint_bounds hrv2
          rw [hrv2] at hT
          dsimp only [rvV]
          (repeat first | (apply wr_move; exact rfl; with_reducible (conv => enter [6, 3]; whnf)) | (apply wr_assign; exact rfl; with_reducible (conv => enter [6, 3]; whnf)) | apply wr_end | apply wc_seq | apply wc_region | apply wc_skip | (apply wr_not; iterate 2 exact rfl) | (apply wr_extract; (iterate 3 exact rfl); with_reducible (conv => enter [6, 3]; whnf)) | (apply wc_false; exact rfl))
          have hlt3 := lt_of_heap hr2
          refine wr_sl_from (l := s1) (i := m) rfl rfl rfl hc3 ?_
          (repeat first | (apply wr_move; exact rfl; with_reducible (conv => enter [6, 3]; whnf)) | (apply wr_assign; exact rfl; with_reducible (conv => enter [6, 3]; whnf)) | apply wr_end | apply wc_seq | apply wc_region | apply wc_skip | apply wc_block | (apply wr_fieldAddr; iterate 2 exact rfl) | (apply wr_not; iterate 2 exact rfl) | (apply wr_len_str; iterate 2 exact rfl) | (apply wr_load; (iterate 3 exact rfl); (focus repeat first | with_reducible assumption | exact heap_alloc_same _ _ | exact World.putObj_heap_same (by first | omega | (simp only [World.size_alloc, World.putObj_size, ne_eq]; omega)) | ((first | refine hAl ?_ ?_ | refine hPu ?_ ?_); focus first | omega | (simp only [World.size_alloc, World.putObj_size, ne_eq]; omega))); exact rfl; conv => enter [6, 3]; whnf) | (apply wr_cmp; (iterate 3 exact rfl); exact cmpT (by dsimp only [cmpP]; first | done | omega)) | (apply wr_cmp; (iterate 3 exact rfl); exact cmp_lt _ _) | (apply wr_conv; (iterate 2 exact rfl); (first | exact w_fit (by dsimp only [kIn]; first | done | omega) | with_reducible assumption | rfl)) | (apply wr_store; (iterate 3 exact rfl); (first | exact rfl | with_reducible assumption); (focus repeat first | with_reducible assumption | exact heap_alloc_same _ _ | exact World.putObj_heap_same (by first | omega | (simp only [World.size_alloc, World.putObj_size, ne_eq]; omega)) | ((first | refine hAl ?_ ?_ | refine hPu ?_ ?_); focus first | omega | (simp only [World.size_alloc, World.putObj_size, ne_eq]; omega))); exact rfl) | (apply wc_true; exact rfl) | (apply wc_false; exact rfl))
          refine wr_sl_to (l := List.drop m s1) (j := 0) rfl rfl rfl (Nat.zero_le _) ?_
          (repeat first | apply wr_end | apply wc_seq | (apply wr_fieldAddr; iterate 2 exact rfl) | (apply wr_store; (iterate 3 exact rfl); (first | exact rfl | with_reducible assumption); (focus repeat first | with_reducible assumption | exact heap_alloc_same _ _ | exact World.putObj_heap_same (by first | omega | (simp only [World.size_alloc, World.putObj_size, ne_eq]; omega)) | ((first | refine hAl ?_ ?_ | refine hPu ?_ ?_); focus first | omega | (simp only [World.size_alloc, World.putObj_size, ne_eq]; omega))); exact rfl))
          refine wc_drawS (l := _) (S := fun w' => w'.heap[w.heap.size]? = some (.cells #[.int .i64 ((tag / 8 : Nat) : Int), .int .i64 0, .int .u64 (v : Int), S []] 101 (0, 0)) ∧ Keeps NoB w w') (by kernel_rfl) (by kernel_rfl) (by exact ⟨World.putObj_heap_same (lt_of_heap (World.putObj_heap_same (o := .cells #[.int .i64 ((tag / 8 : Nat) : Int), .int .i64 0, .int .u64 (v : Int), S []] 101 (0, 0)) (lt_of_heap hr2))), Keeps.drew ((hk2.put _ (fun h => by omega)).put _ (fun h => by omega))⟩) ?_
          apply ch_step
          focus
            intro w' hS
            obtain ⟨h1, h3⟩ := hS
            refine wr_loadAll (cs := [.int .i64 ((tag / 8 : Nat) : Int), .int .i64 0, .int .u64 (v : Int), S []]) rfl rfl rfl h1 rfl ?_
            apply wr_nil
            exact ⟨rfl, h1, h3⟩
          apply ch_step
          focus
            intro w' hS
            obtain ⟨h1, h3⟩ := hS
            apply wr_move; exact rfl
            apply wr_nil
            exact ⟨rfl, h1, h3⟩
          apply ch_step
          focus
            intro w' hS
            obtain ⟨h1, h3⟩ := hS
            apply wr_move; exact rfl
            apply wr_nil
            exact ⟨rfl, h1, h3⟩
          apply ch_step
          focus
            intro w' hS
            obtain ⟨h1, h3⟩ := hS
            refine wr_sl_from (l := List.drop m s1) (i := 0) rfl rfl rfl (Nat.zero_le _) ?_
            apply wr_nil
            exact ⟨rfl, h1, h3⟩
          apply ch_step
          focus
            intro w' hS
            obtain ⟨h1, h3⟩ := hS
            refine wr_storeAll (cs := [.int .i64 ((tag / 8 : Nat) : Int), .int .i64 0, .int .u64 (v : Int), S []]) rfl rfl rfl (by intro u hu; simp at hu; rcases hu with rfl | rfl | rfl | rfl <;> rfl) h1 rfl rfl ?_
            apply wr_nil
            exact ⟨rfl, World.putObj_heap_same (lt_of_heap h1), h3.put _ (fun h => by omega)⟩
          apply ch_step
          focus
            intro w' hS
            obtain ⟨h1, h3⟩ := hS
            apply wr_assign; exact rfl
            apply wr_nil
            exact ⟨rfl, h1, h3⟩
          apply ch_step
          focus
            intro w' hS
            obtain ⟨h1, h3⟩ := hS
            apply wr_assign; exact rfl
            apply wr_nil
            exact ⟨rfl, h1, h3⟩
          refine ch_nil ?_
          intro w' hS
          obtain ⟨h1, h3⟩ := hS
          (repeat first | (apply wc_ret; try simp only [thenE, inBlockE, bodyQ]))
          refine leaveN (vs := [.agg #[.int .i64 ((tag / 8 : Nat) : Int), .int .i64 0, .int .u64 (v : Int), S []], S (List.drop 0 (List.drop m s1)), .nilIface]) (resv_cells (cs := [.int .i64 ((tag / 8 : Nat) : Int), .int .i64 0, .int .u64 (v : Int), S []]) rfl rfl h1 rfl (resv_tmp rfl (resv_tmp rfl resv_nil))) ⟨by rw [hT]; rfl, h3⟩
      · rw [if_neg h0] at hT
        have h0' : ((tag % 8 : Nat) : Int) ≠ 0 := by omega
        by_cases h2 : tag % 8 = 2
        · rw [if_pos h2] at hT
          rw [h2, if_neg (by decide), if_neg (by decide), decide_eq_false (by decide)]
          rw [h2] at hr2
          (repeat first | (apply wr_move; exact rfl; with_reducible (conv => enter [6, 3]; whnf)) | (apply wr_assign; exact rfl; with_reducible (conv => enter [6, 3]; whnf)) | apply wr_end | apply wc_seq | apply wc_region | (apply wr_fieldAddr; iterate 2 exact rfl) | (apply wr_load; (iterate 3 exact rfl); (focus repeat first | with_reducible assumption | exact heap_alloc_same _ _ | exact World.putObj_heap_same (by first | omega | (simp only [World.size_alloc, World.putObj_size, ne_eq]; omega)) | ((first | refine hAl ?_ ?_ | refine hPu ?_ ?_); focus first | omega | (simp only [World.size_alloc, World.putObj_size, ne_eq]; omega))); exact rfl; conv => enter [6, 3]; whnf) | (apply wr_cmp; (iterate 3 exact rfl); exact cmpT (by dsimp only [cmpP]; first | done | omega)) | (apply wr_cmp; (iterate 3 exact rfl); exact cmpF (by dsimp only [cmpN]; first | done | omega)) | (apply wr_pick (t := false); (iterate 2 exact rfl); with_reducible (conv => enter [6, 3]; whnf)) | (apply wr_conv; (iterate 2 exact rfl); exact w_fit (by dsimp only [kIn]; first | done | omega)) | (apply wr_extract; (iterate 3 exact rfl); with_reducible (conv => enter [6, 3]; whnf)) | (apply wc_true; exact rfl))
          refine wr_call (vs := [S s1]) rfl (readVarint_ca s1 _) rfl ?_
          rintro v w3 ⟨rfl, rfl⟩
          cases hrv2 : readVarint s1 with
          | none =>
            rw [hrv2] at hT
            dsimp only [rvV]
            (repeat first | (apply wr_move; exact rfl; with_reducible (conv => enter [6, 3]; whnf)) | (apply wr_assign; exact rfl; with_reducible (conv => enter [6, 3]; whnf)) | apply wr_end | apply wc_seq | apply wc_region | (apply wr_not; iterate 2 exact rfl) | (apply wr_extract; (iterate 3 exact rfl); with_reducible (conv => enter [6, 3]; whnf)) | (apply wc_true; exact rfl))
            refine wc_drawS (l := _) (S := fun w' => w'.heap[w.heap.size]? = some (.cells #[.int .i64 ((tag / 8 : Nat) : Int), .int .i64 2, .int .u64 0, S []] 101 (0, 0)) ∧ w'.heap[0]? = some (.cells #[Er p] t0 r0) ∧ Keeps NoB w w') (by kernel_rfl) (by kernel_rfl) ⟨hr2, hg2, hk2.drew⟩ ?_
            apply ch_step
            focus
              intro w' hS
              obtain ⟨h1, h2, h3⟩ := hS
              refine wr_loadAll (cs := [.int .i64 ((tag / 8 : Nat) : Int), .int .i64 2, .int .u64 0, S []]) rfl rfl rfl h1 rfl ?_
              apply wr_nil
              exact ⟨rfl, h1, h2, h3⟩
            apply ch_step
            focus
              intro w' hS
              obtain ⟨h1, h2, h3⟩ := hS
              apply wr_move; exact rfl
              apply wr_nil
              exact ⟨rfl, h1, h2, h3⟩
            apply ch_step
            focus
              intro w' hS
              obtain ⟨h1, h2, h3⟩ := hS
              refine wr_load rfl rfl rfl h2 rfl ?_
              apply wr_nil
              exact ⟨rfl, h1, h2, h3⟩
            apply ch_step
            focus
              intro w' hS
              obtain ⟨h1, h2, h3⟩ := hS
              refine wr_storeAll (cs := [.int .i64 ((tag / 8 : Nat) : Int), .int .i64 2, .int .u64 0, S []]) rfl rfl rfl (by intro u hu; simp at hu; rcases hu with rfl | rfl | rfl | rfl <;> rfl) h1 rfl rfl ?_
              apply wr_nil
              exact ⟨rfl, World.putObj_heap_same (lt_of_heap h1), (heap_put_ne _ _ (by have := lt_of_heap hg0; have := lt_of_heap hg1; omega)).trans h2, h3.put _ (fun h => by omega)⟩
            apply ch_step
            focus
              intro w' hS
              obtain ⟨h1, h2, h3⟩ := hS
              apply wr_assign; exact rfl
              apply wr_nil
              exact ⟨rfl, h1, h2, h3⟩
            apply ch_step
            focus
              intro w' hS
              obtain ⟨h1, h2, h3⟩ := hS
              apply wr_assign; exact rfl
              apply wr_nil
              exact ⟨rfl, h1, h2, h3⟩
            refine ch_nil ?_
            intro w' hS
            obtain ⟨h1, h2, h3⟩ := hS
            (repeat first | (apply wc_ret; try simp only [thenE, inBlockE, bodyQ]))
            refine leaveN (vs := [.agg #[.int .i64 ((tag / 8 : Nat) : Int), .int .i64 2, .int .u64 0, S []], S s1, Er p]) (resv_cells (cs := [.int .i64 ((tag / 8 : Nat) : Int), .int .i64 2, .int .u64 0, S []]) rfl rfl h1 rfl (resv_tmp rfl (resv_tmp rfl resv_nil))) ⟨by rw [hT]; exact ⟨⟨((tag / 8 : Nat) : Int), 2, 0, []⟩, s1, rfl⟩, h3⟩
          | some vm =>
            obtain ⟨v, m⟩ := vm
            obtain ⟨hc1, hc2, hc3⟩ := readVarint_bounds hrv2
            rw [hrv2] at hT
            dsimp only [rvV] at hT ⊢
            have hdl : (s1.drop m).length ≤ 4611686018427387904 := by rw [List.length_drop]; omega
            (repeat first | (apply wr_move; exact rfl; with_reducible (conv => enter [6, 3]; whnf)) | (apply wr_assign; exact rfl; with_reducible (conv => enter [6, 3]; whnf)) | apply wr_end | apply wc_seq | apply wc_region | apply wc_skip | (apply wr_not; iterate 2 exact rfl) | (apply wr_extract; (iterate 3 exact rfl); with_reducible (conv => enter [6, 3]; whnf)) | (apply wc_false; exact rfl))
            refine wr_sl_from (l := s1) (i := m) rfl rfl rfl hc3 ?_
            generalize s1.drop m = s2 at hT hdl ⊢
            by_cases hv : s2.length < v
            · rw [if_pos hv] at hT
              (repeat first | (apply wr_move; exact rfl; with_reducible (conv => enter [6, 3]; whnf)) | (apply wr_assign; exact rfl; with_reducible (conv => enter [6, 3]; whnf)) | apply wr_end | apply wc_seq | apply wc_region | apply wc_block | (apply wr_fieldAddr; iterate 2 exact rfl) | (apply wr_not; iterate 2 exact rfl) | (apply wr_len_str; iterate 2 exact rfl) | (apply wr_load; (iterate 3 exact rfl); (focus repeat first | with_reducible assumption | exact heap_alloc_same _ _ | exact World.putObj_heap_same (by first | omega | (simp only [World.size_alloc, World.putObj_size, ne_eq]; omega)) | ((first | refine hAl ?_ ?_ | refine hPu ?_ ?_); focus first | omega | (simp only [World.size_alloc, World.putObj_size, ne_eq]; omega))); exact rfl; conv => enter [6, 3]; whnf) | (apply wr_cmp; (iterate 3 exact rfl); exact cmpT (by dsimp only [cmpP]; first | done | omega)) | (apply wr_cmp; (iterate 3 exact rfl); exact cmpF (by dsimp only [cmpN]; first | done | omega)) | (apply wr_conv; (iterate 2 exact rfl); exact w_fit (by dsimp only [kIn]; first | done | omega)) | (apply wc_true; exact rfl) | (apply wc_false; exact rfl))
              refine wc_drawS (l := _) (S := fun w' => w'.heap[w.heap.size]? = some (.cells #[.int .i64 ((tag / 8 : Nat) : Int), .int .i64 2, .int .u64 0, S []] 101 (0, 0)) ∧ w'.heap[0]? = some (.cells #[Er p] t0 r0) ∧ Keeps NoB w w') (by kernel_rfl) (by kernel_rfl) ⟨hr2, hg2, hk2.drew⟩ ?_
              apply ch_step
              focus
                intro w' hS
                obtain ⟨h1, h2, h3⟩ := hS
                refine wr_loadAll (cs := [.int .i64 ((tag / 8 : Nat) : Int), .int .i64 2, .int .u64 0, S []]) rfl rfl rfl h1 rfl ?_
                apply wr_nil
                exact ⟨rfl, h1, h2, h3⟩
              apply ch_step
              focus
                intro w' hS
                obtain ⟨h1, h2, h3⟩ := hS
                apply wr_move; exact rfl
                apply wr_nil
                exact ⟨rfl, h1, h2, h3⟩
              apply ch_step
              focus
                intro w' hS
                obtain ⟨h1, h2, h3⟩ := hS
                refine wr_load rfl rfl rfl h2 rfl ?_
                apply wr_nil
                exact ⟨rfl, h1, h2, h3⟩
              apply ch_step
              focus
                intro w' hS
                obtain ⟨h1, h2, h3⟩ := hS
                refine wr_storeAll (cs := [.int .i64 ((tag / 8 : Nat) : Int), .int .i64 2, .int .u64 0, S []]) rfl rfl rfl (by intro u hu; simp at hu; rcases hu with rfl | rfl | rfl | rfl <;> rfl) h1 rfl rfl ?_
                apply wr_nil
                exact ⟨rfl, World.putObj_heap_same (lt_of_heap h1), (heap_put_ne _ _ (by have := lt_of_heap hg0; have := lt_of_heap hg1; omega)).trans h2, h3.put _ (fun h => by omega)⟩
              apply ch_step
              focus
                intro w' hS
                obtain ⟨h1, h2, h3⟩ := hS
                apply wr_assign; exact rfl
                apply wr_nil
                exact ⟨rfl, h1, h2, h3⟩
              apply ch_step
              focus
                intro w' hS
                obtain ⟨h1, h2, h3⟩ := hS
                apply wr_assign; exact rfl
                apply wr_nil
                exact ⟨rfl, h1, h2, h3⟩
              refine ch_nil ?_
              intro w' hS
              obtain ⟨h1, h2, h3⟩ := hS
              (repeat first | (apply wc_ret; try simp only [thenE, inBlockE, bodyQ]))
              refine leaveN (vs := [.agg #[.int .i64 ((tag / 8 : Nat) : Int), .int .i64 2, .int .u64 0, S []], S s2, Er p]) (resv_cells (cs := [.int .i64 ((tag / 8 : Nat) : Int), .int .i64 2, .int .u64 0, S []]) rfl rfl h1 rfl (resv_tmp rfl (resv_tmp rfl resv_nil))) ⟨by rw [hT]; exact ⟨⟨((tag / 8 : Nat) : Int), 2, 0, []⟩, s2, rfl⟩, h3⟩
            · rw [if_neg hv] at hT
              have hvl : v ≤ s2.length := by omega
              (repeat first | (apply wr_move; exact rfl; with_reducible (conv => enter [6, 3]; whnf)) | (apply wr_assign; exact rfl; with_reducible (conv => enter [6, 3]; whnf)) | apply wr_end | apply wc_seq | apply wc_region | apply wc_skip | apply wc_block | (apply wr_fieldAddr; iterate 2 exact rfl) | (apply wr_not; iterate 2 exact rfl) | (apply wr_len_str; iterate 2 exact rfl) | (apply wr_load; (iterate 3 exact rfl); (focus repeat first | with_reducible assumption | exact heap_alloc_same _ _ | exact World.putObj_heap_same (by first | omega | (simp only [World.size_alloc, World.putObj_size, ne_eq]; omega)) | ((first | refine hAl ?_ ?_ | refine hPu ?_ ?_); focus first | omega | (simp only [World.size_alloc, World.putObj_size, ne_eq]; omega))); exact rfl; conv => enter [6, 3]; whnf) | (apply wr_cmp; (iterate 3 exact rfl); exact cmpF (by dsimp only [cmpN]; first | done | omega)) | (apply wr_conv; (iterate 2 exact rfl); exact w_fit (by dsimp only [kIn]; first | done | omega)) | (apply wc_false; exact rfl))
              refine wr_sl_to (l := s2) (j := v) rfl rfl rfl hvl ?_
              (repeat first | apply wr_end | apply wc_seq | (apply wr_fieldAddr; iterate 2 exact rfl) | (apply wr_store; (iterate 3 exact rfl); (first | exact rfl | with_reducible assumption); (focus repeat first | with_reducible assumption | exact heap_alloc_same _ _ | exact World.putObj_heap_same (by first | omega | (simp only [World.size_alloc, World.putObj_size, ne_eq]; omega)) | ((first | refine hAl ?_ ?_ | refine hPu ?_ ?_); focus first | omega | (simp only [World.size_alloc, World.putObj_size, ne_eq]; omega))); exact rfl))
              refine wc_drawS (l := _) (S := fun w' => w'.heap[w.heap.size]? = some (.cells #[.int .i64 ((tag / 8 : Nat) : Int), .int .i64 2, .int .u64 0, S (List.take v s2)] 101 (0, 0)) ∧ Keeps NoB w w') (by kernel_rfl) (by kernel_rfl) (by exact ⟨World.putObj_heap_same (lt_of_heap hr2), Keeps.drew (hk2.put _ (fun h => by omega))⟩) ?_
              apply ch_step
              focus
                intro w' hS
                obtain ⟨h1, h3⟩ := hS
                refine wr_loadAll (cs := [.int .i64 ((tag / 8 : Nat) : Int), .int .i64 2, .int .u64 0, S (List.take v s2)]) rfl rfl rfl h1 rfl ?_
                apply wr_nil
                exact ⟨rfl, h1, h3⟩
              apply ch_step
              focus
                intro w' hS
                obtain ⟨h1, h3⟩ := hS
                apply wr_move; exact rfl
                apply wr_nil
                exact ⟨rfl, h1, h3⟩
              apply ch_step
              focus
                intro w' hS
                obtain ⟨h1, h3⟩ := hS
                apply wr_move; exact rfl
                apply wr_nil
                exact ⟨rfl, h1, h3⟩
              apply ch_step
              focus
                intro w' hS
                obtain ⟨h1, h3⟩ := hS
                refine wr_sl_from (l := s2) (i := v) rfl rfl rfl hvl ?_
                apply wr_nil
                exact ⟨rfl, h1, h3⟩
              apply ch_step
              focus
                intro w' hS
                obtain ⟨h1, h3⟩ := hS
                refine wr_storeAll (cs := [.int .i64 ((tag / 8 : Nat) : Int), .int .i64 2, .int .u64 0, S (List.take v s2)]) rfl rfl rfl (by intro u hu; simp at hu; rcases hu with rfl | rfl | rfl | rfl <;> rfl) h1 rfl rfl ?_
                apply wr_nil
                exact ⟨rfl, World.putObj_heap_same (lt_of_heap h1), h3.put _ (fun h => by omega)⟩
              apply ch_step
              focus
                intro w' hS
                obtain ⟨h1, h3⟩ := hS
                apply wr_assign; exact rfl
                apply wr_nil
                exact ⟨rfl, h1, h3⟩
              apply ch_step
              focus
                intro w' hS
                obtain ⟨h1, h3⟩ := hS
                apply wr_assign; exact rfl
                apply wr_nil
                exact ⟨rfl, h1, h3⟩
              refine ch_nil ?_
              intro w' hS
              obtain ⟨h1, h3⟩ := hS
              (repeat first | (apply wc_ret; try simp only [thenE, inBlockE, bodyQ]))
              refine leaveN (vs := [.agg #[.int .i64 ((tag / 8 : Nat) : Int), .int .i64 2, .int .u64 0, S (List.take v s2)], S (List.drop v (s2)), .nilIface]) (resv_cells (cs := [.int .i64 ((tag / 8 : Nat) : Int), .int .i64 2, .int .u64 0, S (List.take v s2)]) rfl rfl h1 rfl (resv_tmp rfl (resv_tmp rfl resv_nil))) ⟨by rw [hT]; rfl, h3⟩
        · rw [if_neg h2] at hT
          have h2' : ((tag % 8 : Nat) : Int) ≠ 2 := by omega
          by_cases h1 : tag % 8 = 1
          · rw [if_pos h1] at hT
            rw [h1, if_pos (by decide), decide_eq_true (by decide)]
            rw [h1] at hr2
            by_cases hv : s1.length < 8
            · rw [if_pos hv] at hT
              (repeat first | (apply wr_move; exact rfl; with_reducible (conv => enter [6, 3]; whnf)) | (apply wr_assign; exact rfl; with_reducible (conv => enter [6, 3]; whnf)) | apply wr_end | apply wc_seq | apply wc_region | apply wc_skip | apply wc_block | (apply wr_fieldAddr; iterate 2 exact rfl) | (apply wr_not; iterate 2 exact rfl) | (apply wr_len_str; iterate 2 exact rfl) | (apply wr_load; (iterate 3 exact rfl); (focus repeat first | with_reducible assumption | exact heap_alloc_same _ _ | exact World.putObj_heap_same (by first | omega | (simp only [World.size_alloc, World.putObj_size, ne_eq]; omega)) | ((first | refine hAl ?_ ?_ | refine hPu ?_ ?_); focus first | omega | (simp only [World.size_alloc, World.putObj_size, ne_eq]; omega))); exact rfl; conv => enter [6, 3]; whnf) | (apply wr_cmp; (iterate 3 exact rfl); exact cmpT (by dsimp only [cmpP]; first | done | omega)) | (apply wr_cmp; (iterate 3 exact rfl); exact cmpF (by dsimp only [cmpN]; first | done | omega)) | (apply wr_pick (t := false); (iterate 2 exact rfl); with_reducible (conv => enter [6, 3]; whnf)) | (apply wr_conv; (iterate 2 exact rfl); exact w_fit (by dsimp only [kIn]; first | done | omega)) | (apply wr_extract; (iterate 3 exact rfl); with_reducible (conv => enter [6, 3]; whnf)) | (apply wc_true; exact rfl) | (apply wc_false; exact rfl))
              refine wc_drawS (l := _) (S := fun w' => w'.heap[w.heap.size]? = some (.cells #[.int .i64 ((tag / 8 : Nat) : Int), .int .i64 1, .int .u64 0, S []] 101 (0, 0)) ∧ w'.heap[0]? = some (.cells #[Er p] t0 r0) ∧ Keeps NoB w w') (by kernel_rfl) (by kernel_rfl) ⟨hr2, hg2, hk2.drew⟩ ?_
              apply ch_step
              focus
                intro w' hS
                obtain ⟨h1, h2, h3⟩ := hS
                refine wr_loadAll (cs := [.int .i64 ((tag / 8 : Nat) : Int), .int .i64 1, .int .u64 0, S []]) rfl rfl rfl h1 rfl ?_
                apply wr_nil
                exact ⟨rfl, h1, h2, h3⟩
              apply ch_step
              focus
                intro w' hS
                obtain ⟨h1, h2, h3⟩ := hS
                apply wr_move; exact rfl
                apply wr_nil
                exact ⟨rfl, h1, h2, h3⟩
              apply ch_step
              focus
                intro w' hS
                obtain ⟨h1, h2, h3⟩ := hS
                refine wr_load rfl rfl rfl h2 rfl ?_
                apply wr_nil
                exact ⟨rfl, h1, h2, h3⟩
              apply ch_step
              focus
                intro w' hS
                obtain ⟨h1, h2, h3⟩ := hS
                refine wr_storeAll (cs := [.int .i64 ((tag / 8 : Nat) : Int), .int .i64 1, .int .u64 0, S []]) rfl rfl rfl (by intro u hu; simp at hu; rcases hu with rfl | rfl | rfl | rfl <;> rfl) h1 rfl rfl ?_
                apply wr_nil
                exact ⟨rfl, World.putObj_heap_same (lt_of_heap h1), (heap_put_ne _ _ (by have := lt_of_heap hg0; have := lt_of_heap hg1; omega)).trans h2, h3.put _ (fun h => by omega)⟩
              apply ch_step
              focus
                intro w' hS
                obtain ⟨h1, h2, h3⟩ := hS
                apply wr_assign; exact rfl
                apply wr_nil
                exact ⟨rfl, h1, h2, h3⟩
              apply ch_step
              focus
                intro w' hS
                obtain ⟨h1, h2, h3⟩ := hS
                apply wr_assign; exact rfl
                apply wr_nil
                exact ⟨rfl, h1, h2, h3⟩
              refine ch_nil ?_
              intro w' hS
              obtain ⟨h1, h2, h3⟩ := hS
              (repeat first | (apply wc_ret; try simp only [thenE, inBlockE, bodyQ]))
              refine leaveN (vs := [.agg #[.int .i64 ((tag / 8 : Nat) : Int), .int .i64 1, .int .u64 0, S []], S s1, Er p]) (resv_cells (cs := [.int .i64 ((tag / 8 : Nat) : Int), .int .i64 1, .int .u64 0, S []]) rfl rfl h1 rfl (resv_tmp rfl (resv_tmp rfl resv_nil))) ⟨by rw [hT]; exact ⟨⟨((tag / 8 : Nat) : Int), 1, 0, []⟩, s1, rfl⟩, h3⟩
            · rw [if_neg hv] at hT
              have hvl : 8 ≤ s1.length := by omega
              (repeat first | (apply wr_move; exact rfl; with_reducible (conv => enter [6, 3]; whnf)) | (apply wr_assign; exact rfl; with_reducible (conv => enter [6, 3]; whnf)) | apply wr_end | apply wc_seq | apply wc_region | apply wc_skip | apply wc_block | (apply wr_fieldAddr; iterate 2 exact rfl) | (apply wr_not; iterate 2 exact rfl) | (apply wr_len_str; iterate 2 exact rfl) | (apply wr_load; (iterate 3 exact rfl); (focus repeat first | with_reducible assumption | exact heap_alloc_same _ _ | exact World.putObj_heap_same (by first | omega | (simp only [World.size_alloc, World.putObj_size, ne_eq]; omega)) | ((first | refine hAl ?_ ?_ | refine hPu ?_ ?_); focus first | omega | (simp only [World.size_alloc, World.putObj_size, ne_eq]; omega))); exact rfl; conv => enter [6, 3]; whnf) | (apply wr_cmp; (iterate 3 exact rfl); exact cmpF (by dsimp only [cmpN]; first | done | omega)) | (apply wr_pick (t := false); (iterate 2 exact rfl); with_reducible (conv => enter [6, 3]; whnf)) | (apply wr_conv; (iterate 2 exact rfl); exact w_fit (by dsimp only [kIn]; first | done | omega)) | (apply wr_extract; (iterate 3 exact rfl); with_reducible (conv => enter [6, 3]; whnf)) | (apply wc_false; exact rfl))
              refine wr_sl_to (l := s1) (j := 8) rfl rfl rfl hvl ?_
              (repeat first | apply wr_end | apply wc_seq | (apply wr_fieldAddr; iterate 2 exact rfl) | (apply wr_store; (iterate 3 exact rfl); (first | exact rfl | with_reducible assumption); (focus repeat first | with_reducible assumption | exact heap_alloc_same _ _ | exact World.putObj_heap_same (by first | omega | (simp only [World.size_alloc, World.putObj_size, ne_eq]; omega)) | ((first | refine hAl ?_ ?_ | refine hPu ?_ ?_); focus first | omega | (simp only [World.size_alloc, World.putObj_size, ne_eq]; omega))); exact rfl))
              refine wc_drawS (l := _) (S := fun w' => w'.heap[w.heap.size]? = some (.cells #[.int .i64 ((tag / 8 : Nat) : Int), .int .i64 1, .int .u64 0, S (List.take 8 s1)] 101 (0, 0)) ∧ Keeps NoB w w') (by kernel_rfl) (by kernel_rfl) (by exact ⟨World.putObj_heap_same (lt_of_heap hr2), Keeps.drew (hk2.put _ (fun h => by omega))⟩) ?_
              apply ch_step
              focus
                intro w' hS
                obtain ⟨h1, h3⟩ := hS
                refine wr_loadAll (cs := [.int .i64 ((tag / 8 : Nat) : Int), .int .i64 1, .int .u64 0, S (List.take 8 s1)]) rfl rfl rfl h1 rfl ?_
                apply wr_nil
                exact ⟨rfl, h1, h3⟩
              apply ch_step
              focus
                intro w' hS
                obtain ⟨h1, h3⟩ := hS
                apply wr_move; exact rfl
                apply wr_nil
                exact ⟨rfl, h1, h3⟩
              apply ch_step
              focus
                intro w' hS
                obtain ⟨h1, h3⟩ := hS
                apply wr_move; exact rfl
                apply wr_nil
                exact ⟨rfl, h1, h3⟩
              apply ch_step
              focus
                intro w' hS
                obtain ⟨h1, h3⟩ := hS
                refine wr_sl_from (l := s1) (i := 8) rfl rfl rfl hvl ?_
                apply wr_nil
                exact ⟨rfl, h1, h3⟩
              apply ch_step
              focus
                intro w' hS
                obtain ⟨h1, h3⟩ := hS
                refine wr_storeAll (cs := [.int .i64 ((tag / 8 : Nat) : Int), .int .i64 1, .int .u64 0, S (List.take 8 s1)]) rfl rfl rfl (by intro u hu; simp at hu; rcases hu with rfl | rfl | rfl | rfl <;> rfl) h1 rfl rfl ?_
                apply wr_nil
                exact ⟨rfl, World.putObj_heap_same (lt_of_heap h1), h3.put _ (fun h => by omega)⟩
              apply ch_step
              focus
                intro w' hS
                obtain ⟨h1, h3⟩ := hS
                apply wr_assign; exact rfl
                apply wr_nil
                exact ⟨rfl, h1, h3⟩
              apply ch_step
              focus
                intro w' hS
                obtain ⟨h1, h3⟩ := hS
                apply wr_assign; exact rfl
                apply wr_nil
                exact ⟨rfl, h1, h3⟩
              refine ch_nil ?_
              intro w' hS
              obtain ⟨h1, h3⟩ := hS
              (repeat first | (apply wc_ret; try simp only [thenE, inBlockE, bodyQ]))
              refine leaveN (vs := [.agg #[.int .i64 ((tag / 8 : Nat) : Int), .int .i64 1, .int .u64 0, S (List.take 8 s1)], S (List.drop 8 (s1)), .nilIface]) (resv_cells (cs := [.int .i64 ((tag / 8 : Nat) : Int), .int .i64 1, .int .u64 0, S (List.take 8 s1)]) rfl rfl h1 rfl (resv_tmp rfl (resv_tmp rfl resv_nil))) ⟨by rw [hT]; rfl, h3⟩
          · rw [if_neg h1] at hT
            by_cases h5 : tag % 8 = 5
            · rw [if_pos h5] at hT
              rw [h5, if_neg (by decide), if_pos (by decide), decide_eq_true (by decide)]
              rw [h5] at hr2
              by_cases hv : s1.length < 4
              · rw [if_pos hv] at hT
                (repeat first | (apply wr_move; exact rfl; with_reducible (conv => enter [6, 3]; whnf)) | (apply wr_assign; exact rfl; with_reducible (conv => enter [6, 3]; whnf)) | apply wr_end | apply wc_seq | apply wc_region | apply wc_skip | apply wc_block | (apply wr_fieldAddr; iterate 2 exact rfl) | (apply wr_not; iterate 2 exact rfl) | (apply wr_len_str; iterate 2 exact rfl) | (apply wr_load; (iterate 3 exact rfl); (focus repeat first | with_reducible assumption | exact heap_alloc_same _ _ | exact World.putObj_heap_same (by first | omega | (simp only [World.size_alloc, World.putObj_size, ne_eq]; omega)) | ((first | refine hAl ?_ ?_ | refine hPu ?_ ?_); focus first | omega | (simp only [World.size_alloc, World.putObj_size, ne_eq]; omega))); exact rfl; conv => enter [6, 3]; whnf) | (apply wr_cmp; (iterate 3 exact rfl); exact cmpT (by dsimp only [cmpP]; first | done | omega)) | (apply wr_cmp; (iterate 3 exact rfl); exact cmpF (by dsimp only [cmpN]; first | done | omega)) | (apply wr_pick (t := false); (iterate 2 exact rfl); with_reducible (conv => enter [6, 3]; whnf)) | (apply wr_conv; (iterate 2 exact rfl); exact w_fit (by dsimp only [kIn]; first | done | omega)) | (apply wr_extract; (iterate 3 exact rfl); with_reducible (conv => enter [6, 3]; whnf)) | (apply wc_true; exact rfl) | (apply wc_false; exact rfl))
                refine wc_drawS (l := _) (S := fun w' => w'.heap[w.heap.size]? = some (.cells #[.int .i64 ((tag / 8 : Nat) : Int), .int .i64 5, .int .u64 0, S []] 101 (0, 0)) ∧ w'.heap[0]? = some (.cells #[Er p] t0 r0) ∧ Keeps NoB w w') (by kernel_rfl) (by kernel_rfl) ⟨hr2, hg2, hk2.drew⟩ ?_
                apply ch_step
                focus
                  intro w' hS
                  obtain ⟨h1, h2, h3⟩ := hS
                  refine wr_loadAll (cs := [.int .i64 ((tag / 8 : Nat) : Int), .int .i64 5, .int .u64 0, S []]) rfl rfl rfl h1 rfl ?_
                  apply wr_nil
                  exact ⟨rfl, h1, h2, h3⟩
                apply ch_step
                focus
                  intro w' hS
                  obtain ⟨h1, h2, h3⟩ := hS
                  apply wr_move; exact rfl
                  apply wr_nil
                  exact ⟨rfl, h1, h2, h3⟩
                apply ch_step
                focus
                  intro w' hS
                  obtain ⟨h1, h2, h3⟩ := hS
                  refine wr_load rfl rfl rfl h2 rfl ?_
                  apply wr_nil
                  exact ⟨rfl, h1, h2, h3⟩
                apply ch_step
                focus
                  intro w' hS
                  obtain ⟨h1, h2, h3⟩ := hS
                  refine wr_storeAll (cs := [.int .i64 ((tag / 8 : Nat) : Int), .int .i64 5, .int .u64 0, S []]) rfl rfl rfl (by intro u hu; simp at hu; rcases hu with rfl | rfl | rfl | rfl <;> rfl) h1 rfl rfl ?_
                  apply wr_nil
                  exact ⟨rfl, World.putObj_heap_same (lt_of_heap h1), (heap_put_ne _ _ (by have := lt_of_heap hg0; have := lt_of_heap hg1; omega)).trans h2, h3.put _ (fun h => by omega)⟩
                apply ch_step
                focus
                  intro w' hS
                  obtain ⟨h1, h2, h3⟩ := hS
                  apply wr_assign; exact rfl
                  apply wr_nil
                  exact ⟨rfl, h1, h2, h3⟩
                apply ch_step
                focus
                  intro w' hS
                  obtain ⟨h1, h2, h3⟩ := hS
                  apply wr_assign; exact rfl
                  apply wr_nil
                  exact ⟨rfl, h1, h2, h3⟩
                refine ch_nil ?_
                intro w' hS
                obtain ⟨h1, h2, h3⟩ := hS
                (repeat first | (apply wc_ret; try simp only [thenE, inBlockE, bodyQ]))
                refine leaveN (vs := [.agg #[.int .i64 ((tag / 8 : Nat) : Int), .int .i64 5, .int .u64 0, S []], S s1, Er p]) (resv_cells (cs := [.int .i64 ((tag / 8 : Nat) : Int), .int .i64 5, .int .u64 0, S []]) rfl rfl h1 rfl (resv_tmp rfl (resv_tmp rfl resv_nil))) ⟨by rw [hT]; exact ⟨⟨((tag / 8 : Nat) : Int), 5, 0, []⟩, s1, rfl⟩, h3⟩
              · rw [if_neg hv] at hT
                have hvl : 4 ≤ s1.length := by omega
                (repeat first | (apply wr_move; exact rfl; with_reducible (conv => enter [6, 3]; whnf)) | (apply wr_assign; exact rfl; with_reducible (conv => enter [6, 3]; whnf)) | apply wr_end | apply wc_seq | apply wc_region | apply wc_skip | apply wc_block | (apply wr_fieldAddr; iterate 2 exact rfl) | (apply wr_not; iterate 2 exact rfl) | (apply wr_len_str; iterate 2 exact rfl) | (apply wr_load; (iterate 3 exact rfl); (focus repeat first | with_reducible assumption | exact heap_alloc_same _ _ | exact World.putObj_heap_same (by first | omega | (simp only [World.size_alloc, World.putObj_size, ne_eq]; omega)) | ((first | refine hAl ?_ ?_ | refine hPu ?_ ?_); focus first | omega | (simp only [World.size_alloc, World.putObj_size, ne_eq]; omega))); exact rfl; conv => enter [6, 3]; whnf) | (apply wr_cmp; (iterate 3 exact rfl); exact cmpF (by dsimp only [cmpN]; first | done | omega)) | (apply wr_pick (t := false); (iterate 2 exact rfl); with_reducible (conv => enter [6, 3]; whnf)) | (apply wr_conv; (iterate 2 exact rfl); exact w_fit (by dsimp only [kIn]; first | done | omega)) | (apply wr_extract; (iterate 3 exact rfl); with_reducible (conv => enter [6, 3]; whnf)) | (apply wc_false; exact rfl))
                refine wr_sl_to (l := s1) (j := 4) rfl rfl rfl hvl ?_
                (repeat first | apply wr_end | apply wc_seq | (apply wr_fieldAddr; iterate 2 exact rfl) | (apply wr_store; (iterate 3 exact rfl); (first | exact rfl | with_reducible assumption); (focus repeat first | with_reducible assumption | exact heap_alloc_same _ _ | exact World.putObj_heap_same (by first | omega | (simp only [World.size_alloc, World.putObj_size, ne_eq]; omega)) | ((first | refine hAl ?_ ?_ | refine hPu ?_ ?_); focus first | omega | (simp only [World.size_alloc, World.putObj_size, ne_eq]; omega))); exact rfl))
                refine wc_drawS (l := _) (S := fun w' => w'.heap[w.heap.size]? = some (.cells #[.int .i64 ((tag / 8 : Nat) : Int), .int .i64 5, .int .u64 0, S (List.take 4 s1)] 101 (0, 0)) ∧ Keeps NoB w w') (by kernel_rfl) (by kernel_rfl) (by exact ⟨World.putObj_heap_same (lt_of_heap hr2), Keeps.drew (hk2.put _ (fun h => by omega))⟩) ?_
                apply ch_step
                focus
                  intro w' hS
                  obtain ⟨h1, h3⟩ := hS
                  refine wr_loadAll (cs := [.int .i64 ((tag / 8 : Nat) : Int), .int .i64 5, .int .u64 0, S (List.take 4 s1)]) rfl rfl rfl h1 rfl ?_
                  apply wr_nil
                  exact ⟨rfl, h1, h3⟩
                apply ch_step
                focus
                  intro w' hS
                  obtain ⟨h1, h3⟩ := hS
                  apply wr_move; exact rfl
                  apply wr_nil
                  exact ⟨rfl, h1, h3⟩
                apply ch_step
                focus
                  intro w' hS
                  obtain ⟨h1, h3⟩ := hS
                  apply wr_move; exact rfl
                  apply wr_nil
                  exact ⟨rfl, h1, h3⟩
                apply ch_step
                focus
                  intro w' hS
                  obtain ⟨h1, h3⟩ := hS
                  refine wr_sl_from (l := s1) (i := 4) rfl rfl rfl hvl ?_
                  apply wr_nil
                  exact ⟨rfl, h1, h3⟩
                apply ch_step
                focus
                  intro w' hS
                  obtain ⟨h1, h3⟩ := hS
                  refine wr_storeAll (cs := [.int .i64 ((tag / 8 : Nat) : Int), .int .i64 5, .int .u64 0, S (List.take 4 s1)]) rfl rfl rfl (by intro u hu; simp at hu; rcases hu with rfl | rfl | rfl | rfl <;> rfl) h1 rfl rfl ?_
                  apply wr_nil
                  exact ⟨rfl, World.putObj_heap_same (lt_of_heap h1), h3.put _ (fun h => by omega)⟩
                apply ch_step
                focus
                  intro w' hS
                  obtain ⟨h1, h3⟩ := hS
                  apply wr_assign; exact rfl
                  apply wr_nil
                  exact ⟨rfl, h1, h3⟩
                apply ch_step
                focus
                  intro w' hS
                  obtain ⟨h1, h3⟩ := hS
                  apply wr_assign; exact rfl
                  apply wr_nil
                  exact ⟨rfl, h1, h3⟩
                refine ch_nil ?_
                intro w' hS
                obtain ⟨h1, h3⟩ := hS
                (repeat first | (apply wc_ret; try simp only [thenE, inBlockE, bodyQ]))
                refine leaveN (vs := [.agg #[.int .i64 ((tag / 8 : Nat) : Int), .int .i64 5, .int .u64 0, S (List.take 4 s1)], S (List.drop 4 (s1)), .nilIface]) (resv_cells (cs := [.int .i64 ((tag / 8 : Nat) : Int), .int .i64 5, .int .u64 0, S (List.take 4 s1)]) rfl rfl h1 rfl (resv_tmp rfl (resv_tmp rfl resv_nil))) ⟨by rw [hT]; rfl, h3⟩
            · rw [if_neg h5] at hT
              rw [if_neg (by omega), if_neg (by omega), decide_eq_false (by omega)]
              (repeat first | (apply wr_move; exact rfl; with_reducible (conv => enter [6, 3]; whnf)) | (apply wr_assign; exact rfl; with_reducible (conv => enter [6, 3]; whnf)) | apply wr_end | apply wc_seq | apply wc_region | apply wc_skip | apply wc_block | (apply wr_fieldAddr; iterate 2 exact rfl) | (apply wr_not; iterate 2 exact rfl) | (apply wr_load; (iterate 3 exact rfl); (focus repeat first | with_reducible assumption | exact heap_alloc_same _ _ | exact World.putObj_heap_same (by first | omega | (simp only [World.size_alloc, World.putObj_size, ne_eq]; omega)) | ((first | refine hAl ?_ ?_ | refine hPu ?_ ?_); focus first | omega | (simp only [World.size_alloc, World.putObj_size, ne_eq]; omega))); exact rfl; conv => enter [6, 3]; whnf) | (apply wr_cmp; (iterate 3 exact rfl); exact cmpF (by dsimp only [cmpN]; first | done | omega)) | (apply wr_pick (t := false); (iterate 2 exact rfl); with_reducible (conv => enter [6, 3]; whnf)) | (apply wr_conv; (iterate 2 exact rfl); exact w_fit (by dsimp only [kIn]; first | done | omega)) | (apply wr_extract; (iterate 3 exact rfl); with_reducible (conv => enter [6, 3]; whnf)) | (apply wc_true; exact rfl) | (apply wc_false; exact rfl))
              refine wc_drawS (l := _) (S := fun w' => w'.heap[w.heap.size]? = some (.cells #[.int .i64 ((tag / 8 : Nat) : Int), .int .i64 ((tag % 8 : Nat) : Int), .int .u64 0, S []] 101 (0, 0)) ∧ w'.heap[1]? = some (.cells #[Er q] t1 r1) ∧ Keeps NoB w w') (by kernel_rfl) (by kernel_rfl) ⟨hr2, hg3, hk2.drew⟩ ?_
              apply ch_step
              focus
                intro w' hS
                obtain ⟨h1, h2, h3⟩ := hS
                refine wr_loadAll (cs := [.int .i64 ((tag / 8 : Nat) : Int), .int .i64 ((tag % 8 : Nat) : Int), .int .u64 0, S []]) rfl rfl rfl h1 rfl ?_
                apply wr_nil
                exact ⟨rfl, h1, h2, h3⟩
              apply ch_step
              focus
                intro w' hS
                obtain ⟨h1, h2, h3⟩ := hS
                apply wr_move; exact rfl
                apply wr_nil
                exact ⟨rfl, h1, h2, h3⟩
              apply ch_step
              focus
                intro w' hS
                obtain ⟨h1, h2, h3⟩ := hS
                refine wr_load rfl rfl rfl h2 rfl ?_
                apply wr_nil
                exact ⟨rfl, h1, h2, h3⟩
              apply ch_step
              focus
                intro w' hS
                obtain ⟨h1, h2, h3⟩ := hS
                refine wr_storeAll (cs := [.int .i64 ((tag / 8 : Nat) : Int), .int .i64 ((tag % 8 : Nat) : Int), .int .u64 0, S []]) rfl rfl rfl (by intro u hu; simp at hu; rcases hu with rfl | rfl | rfl | rfl <;> rfl) h1 rfl rfl ?_
                apply wr_nil
                exact ⟨rfl, World.putObj_heap_same (lt_of_heap h1), (heap_put_ne _ _ (by have := lt_of_heap hg0; have := lt_of_heap hg1; omega)).trans h2, h3.put _ (fun h => by omega)⟩
              apply ch_step
              focus
                intro w' hS
                obtain ⟨h1, h2, h3⟩ := hS
                apply wr_assign; exact rfl
                apply wr_nil
                exact ⟨rfl, h1, h2, h3⟩
              apply ch_step
              focus
                intro w' hS
                obtain ⟨h1, h2, h3⟩ := hS
                apply wr_assign; exact rfl
                apply wr_nil
                exact ⟨rfl, h1, h2, h3⟩
              refine ch_nil ?_
              intro w' hS
              obtain ⟨h1, h2, h3⟩ := hS
              (repeat first | (apply wc_ret; try simp only [thenE, inBlockE, bodyQ]))
              refine leaveN (vs := [.agg #[.int .i64 ((tag / 8 : Nat) : Int), .int .i64 ((tag % 8 : Nat) : Int), .int .u64 0, S []], S s1, Er q]) (resv_cells (cs := [.int .i64 ((tag / 8 : Nat) : Int), .int .i64 ((tag % 8 : Nat) : Int), .int .u64 0, S []]) rfl rfl h1 rfl (resv_tmp rfl (resv_tmp rfl resv_nil))) ⟨by rw [hT]; exact ⟨⟨((tag / 8 : Nat) : Int), ((tag % 8 : Nat) : Int), 0, []⟩, s1, rfl⟩, h3⟩
end Go.Proofs.YthlbgeonobicbaaDoor
