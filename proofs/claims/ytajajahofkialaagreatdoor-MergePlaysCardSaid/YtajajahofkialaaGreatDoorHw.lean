/- Who wants a name: their ids, sorted. -/
import Derived.Test.YtajajahofkialaaGreatDoorHk2
namespace Go.Proofs.YtajajahofkialaaGreatDoor
open Go Go.V Go.RowKit
set_option linter.unusedVariables false
set_option linter.unusedSimpArgs false

/-- Who wants it, in order. -/
def whoL (Wn : WF) (kk : Int) (x : TT) : List Int := ((List.range 33).filter fun id : Nat => hasP (Wn ((id : Int), kk)) x).map fun id : Nat => (id : Int)
theorem sorted_eq : ∀ {a b : List Int}, a.Pairwise (· < ·) → b.Pairwise (· < ·) → (∀ x, x ∈ a ↔ x ∈ b) → a = b
  | [], [], _, _, _ => rfl
  | [], y :: b, _, _, h => by have := (h y).2 (by simp); cases this
  | x :: a, [], _, _, h => by have := (h x).1 (by simp); cases this
  | x :: a, y :: b, ha, hb, h => by
    obtain ⟨ha1, ha2⟩ := List.pairwise_cons.1 ha
    obtain ⟨hb1, hb2⟩ := List.pairwise_cons.1 hb
    have hxy : x = y := by
      rcases List.mem_cons.1 ((h x).1 (by simp)) with e | h1
      · exact e
      · rcases List.mem_cons.1 ((h y).2 (by simp)) with e | h2
        · exact e.symm
        · have h3 := hb1 x h1
          have h4 := ha1 y h2
          omega
    subst hxy
    rw [sorted_eq ha2 hb2 (fun z => ?_)]
    constructor
    · intro hz
      rcases List.mem_cons.1 ((h z).1 (List.mem_cons_of_mem _ hz)) with e | h1
      · have := ha1 z hz; omega
      · exact h1
    · intro hz
      rcases List.mem_cons.1 ((h z).2 (List.mem_cons_of_mem _ hz)) with e | h1
      · have := hb1 z hz; omega
      · exact h1
theorem whoL_sorted (Wn : WF) (kk : Int) (x : TT) : (whoL Wn kk x).Pairwise (· < ·) := by
  unfold whoL
  refine List.Pairwise.map _ (fun a b hab => ?_) (List.Pairwise.filter _ List.pairwise_lt_range)
  omega
theorem who_sorted {Wn : WF} (hd : ∀ t, ¬ inDom t → Wn t = noneP) {kk : Int} {x : TT} {out : List Int} (hn : out.Nodup) (hm : ∀ y, y ∈ out ↔ hasP (Wn (y, kk)) x = true) : out.mergeSort (fun x y => decide (x ≤ y)) = whoL Wn kk x := by
  refine sorted_eq ?_ (whoL_sorted Wn kk x) (fun y => ?_)
  · have h1 : (out.mergeSort (fun x y => decide (x ≤ y))).Pairwise (fun a b => decide (a ≤ b) = true) := List.pairwise_mergeSort (fun a b c => by simp; omega) (fun a b => by simp; omega) out
    have h2 : (out.mergeSort (fun x y => decide (x ≤ y))).Nodup := (List.mergeSort_perm out _).nodup_iff.2 hn
    refine (h1.and h2).imp fun {a b} h => ?_
    obtain ⟨h3, h4⟩ := h
    have h3 := of_decide_eq_true h3
    omega
  · rw [List.mem_mergeSort, hm]
    unfold whoL
    rw [List.mem_map]
    constructor
    · intro h
      obtain ⟨⟨h1, h2, _, _⟩, _⟩ := has_dom hd h
      obtain ⟨n, rfl⟩ := Int.eq_ofNat_of_zero_le (show 0 ≤ y by dsimp only at h1; omega)
      exact ⟨n, List.mem_filter.2 ⟨List.mem_range.2 (by dsimp only at h2; omega), h⟩, rfl⟩
    · rintro ⟨i, hi, rfl⟩
      exact (List.mem_filter.1 hi).2
set_option maxRecDepth 100000 in
set_option maxHeartbeats 4000000 in
theorem whoV_ca {w : World} {n0 ab wb : Nat} {cb : List Nat} {Wn : WF} (h : MgAt w n0 ab wb cb Wn) (kk : Int) (x : TT) (hx : x.length ≤ 9223372036854775807) :
    Ca Tryz.prog 25 #[.pointer (some ⟨ab, 0, none⟩), .agg #[.int .i64 kk, S x]] w fun v w' => w'.ownsRow w.heap.size 3 1 v (whoL Wn kk x).length (IL (whoL Wn kk x)) ∧ Keeps NoB w w' := by
  refine ca_of_body (args := [.pointer (some ⟨ab, 0, none⟩), .agg #[.int .i64 kk, S x]]) Tryz.func25 rfl (by kernel_rfl) ?_
  apply wc_seq
  apply wc_region
  refine wr_box (v := .agg #[.int .i64 kk, S x]) rfl rfl ?_
  refine wr_name ?_
  intro w1 hww1
  obtain ⟨bw1, hbw1⟩ : ∃ b, b = (w).heap.size := ⟨_, rfl⟩
  have hkw1 : Keeps NoB w w1 := by rw [hww1]; exact (Keeps.refl NoB w).alloc _
  have hcw1 : (w1).heap[bw1]? = some (.cells ([.int .i64 kk, S x]).toArray 55 (0, 0)) := by rw [hww1, hbw1]; exact heap_alloc_same _ _
  rw [← hbw1]
  clear hww1
  have h1 := h.keepN hkw1
  obtain ⟨M, hM, hMW⟩ := h1.want
  have hMn := map_nodup hM
  have hMl : M.length ≤ 160 := by
    have := nodup_len (M.map (·.1)) ((List.range 32).flatMap fun i : Nat => (List.range 5).map fun j : Nat => (((i : Int) + 1, (j : Int) + 1) : TY)) hMn (fun t ht => by
      obtain ⟨p, hp, rfl⟩ := List.mem_map.1 ht
      obtain ⟨i, hi⟩ := List.getElem?_of_mem hp
      have hg := hMW p.1
      have hin : inDom p.1 := Classical.byContradiction fun hn => by
        unfold WantV at hg
        rw [if_pos (h1.dom _ hn), getM_at hMn hi] at hg
        cases hg
      obtain ⟨a1, a2, a3, a4⟩ := hin
      refine List.mem_flatMap.2 ⟨(p.1.1 - 1).toNat, List.mem_range.2 (by omega), List.mem_map.2 ⟨(p.1.2 - 1).toNat, List.mem_range.2 (by omega), Prod.ext ?_ ?_⟩⟩
      · show (((p.1.1 - 1).toNat : Nat) : Int) + 1 = p.1.1; omega
      · show (((p.1.2 - 1).toNat : Nat) : Int) + 1 = p.1.2; omega)
    rw [List.length_map] at this
    refine Nat.le_trans this ?_
    decide +kernel
  have hz1 := hkw1.size
  have hc1 := h1.cells
  (repeat first | (apply wr_move; exact rfl; with_reducible (conv => enter [6, 3]; whnf)) | (apply wr_assign; exact rfl; with_reducible (conv => enter [6, 3]; whnf)) | apply wr_end | apply wc_seq | apply wc_region | (apply wr_fieldAddr; iterate 2 exact rfl) | (apply wr_nilCheck; iterate 2 exact rfl) | (apply wr_load; (iterate 3 exact rfl); (focus repeat first | with_reducible assumption | exact heap_alloc_same _ _ | exact World.putObj_heap_same (by first | omega | (simp only [World.size_alloc, World.putObj_size, ne_eq]; omega)) | ((first | refine hAl ?_ ?_ | refine hPu ?_ ?_); focus first | omega | (simp only [World.size_alloc, World.putObj_size, ne_eq]; omega))); exact rfl; conv => enter [6, 3]; whnf))
  refine wr_rangeM rfl rfl hM ?_
  intro w2 hI2 hk2
  obtain ⟨r, hr⟩ : ∃ b, b = w1.heap.size := ⟨_, rfl⟩
  rw [← hr] at hI2 ⊢
  have hc12 := hk2.heap hcw1 (fun h => h)
  have hk02 := hkw1.trans hk2
  have hlr := lt_of_heap hcw1
  (repeat first | apply wr_end | apply wc_block)
  refine wc_loopL (α := List Nat × List Int × Value) (fun p => [(3, .pointer (some ⟨bw1, 0, none⟩)), (5, p.2.2), (12, .pointer (some ⟨r, 0, none⟩))])
    (fun p ds w' => ds = [] ∧ IterAt w' encT r wb M p.1 ∧ WhoI Wn kk x M p.1 p.2.1 ∧ p.2.1.length ≤ p.1.length ∧ w'.ownsRow w1.heap.size 3 1 p.2.2 p.2.1.length (IL p.2.1) ∧ w'.heap[bw1]? = some (.cells #[.int .i64 kk, S x] 55 (0, 0)) ∧ Keeps NoB w1 w') (fun p => M.length - p.1.length) ([], [], nilV)
    ⟨rfl, hI2, ⟨List.nodup_nil, fun y => by simp⟩, Nat.le_refl _, own_nilV _ _ _ _, hc12, hk2⟩ ⟨rfl, rfl, rfl, trivial⟩ ?_
  rintro ⟨idx, out, ov⟩ ds f0 w3 ⟨rfl, hI3, hW3, hol, ho3, hc13, hk3⟩
  dsimp only at hI3 hW3 hol ho3 ⊢
  have hidx := iter_idx hI3
  (repeat first | apply wc_seq | apply wc_region)
  refine wr_nextM rfl rfl hI3 ?_ ?_
  · intro w4 hall hk4
    have ho4 := own_keep ho3 hk4 (fun _ _ h => h)
    have hlen : out.mergeSort (fun x y => decide (x ≤ y)) = whoL Wn kk x := who_sorted h.dom hW3.nd (fun y => by
      rw [hW3.mem]
      constructor
      · rintro ⟨i, _, p, hp, e, hh⟩
        rw [← e]; exact hh
      · intro hh
        obtain ⟨hd, hn⟩ := has_dom h.dom hh
        have hg := hMW (y, kk)
        unfold WantV at hg
        rw [if_neg hn] at hg
        obtain ⟨v, hg, _⟩ := hg
        obtain ⟨i, hi⟩ := getM_in hg
        exact ⟨i, hall i (List.getElem?_eq_some_iff.1 hi).1, _, hi, rfl, hh⟩)
    obtain ⟨oa, oc, rfl⟩ := own_sl ho4
    (repeat first | (apply wr_move; exact rfl; with_reducible (conv => enter [6, 3]; whnf)) | apply wr_end | apply wc_seq | apply wc_region | (apply wr_extract; (iterate 3 exact rfl); with_reducible (conv => enter [6, 3]; whnf)) | (apply wc_false; exact rfl) | (apply wc_exit; try simp only [thenE, inBlockE, bodyQ, ↓reduceIte, Nat.reduceEqDiff]))
    refine wr_call (vs := [.slice oa out.length oc]) rfl (sortI_ca w4 ho4 (by omega)) rfl ?_
    rintro v w5 ⟨rfl, ho5, hk5⟩
    (repeat first | (apply wr_move; exact rfl; with_reducible (conv => enter [6, 3]; whnf)) | (apply wr_assign; exact rfl; with_reducible (conv => enter [6, 3]; whnf)) | apply wr_end | apply wc_seq | apply wc_region | (apply wc_ret; try simp only [thenE, inBlockE, bodyQ]))
    rw [hlen] at ho5
    rw [show out.length = (whoL Wn kk x).length by rw [← hlen, List.length_mergeSort]] at ho5 ⊢
    refine leave1 (v := .slice oa (whoL Wn kk x).length oc) rfl rfl ⟨own_down ho5 (by have := hkw1.size; omega), hkw1.trans ((hk3.trans hk4).trans' hk5 (fun q hq e => by have := V.F.own_geF ho4 e; omega))⟩
  · intro w4 i p hni hp hI4 hE4 hk4
    have hidx4 := iter_idx hI4
    rw [List.length_append, List.length_singleton] at hidx4
    have hIt3 := iter_isIt hI3
    have hrz : w.heap.size ≤ r := by omega
    have ho4 := own_keep ho3 hk4 (fun q hq e => by
      obtain ⟨a1, a2, a3, a4, hr0⟩ := hIt3
      have e : q = r := e
      subst e
      rcases ho3.2 with ⟨rfl, _⟩ | ⟨g, cap, cur, rfl, _, hg, _⟩
      · cases hq
      · simp [Value.ownBlock] at hq
        subst hq
        rw [hr0] at hg; cases hg)
    have hc14 := hk4.heap hc13 (fun e => by omega)
    have hk14 : Keeps NoB w1 w4 := hk3.trans' hk4 (fun i hi e => by omega)
    have hgp := getM_at hMn hp
    have hgw := hMW p.1
    unfold WantV at hgw
    by_cases hno : Wn p.1 = noneP
    · rw [if_pos hno, hgp] at hgw; cases hgw
    rw [if_neg hno, hgp] at hgw
    obtain ⟨pv, hpv, hpo⟩ := hgw
    injection hpv with hpv
    obtain ⟨⟨pa, pb⟩, pval⟩ := p
    dsimp only at hpv hpo hno hgp
    subst hpv
    have hpo4 := own_keep hpo hk14 (fun _ _ h => h)
    have hpsm := h.small (pa, pb)
    (repeat first | apply wr_end | apply wc_seq | apply wc_region | apply wc_skip | apply wc_block | (apply wr_extract; (iterate 3 exact rfl); with_reducible (conv => enter [6, 3]; whnf)) | (apply wc_true; exact rfl))
    refine wr_entryM rfl rfl hE4 ?_
    apply wr_extract; (iterate 3 exact rfl); with_reducible (conv => enter [6, 3]; whnf)
    apply wr_extract; (iterate 3 exact rfl); with_reducible (conv => enter [6, 3]; whnf)
    apply wr_alloc
    focus exact rfl
    refine wr_name ?_
    intro w5 hww5
    obtain ⟨bw5, hbw5⟩ : ∃ b, b = (w4).heap.size := ⟨_, rfl⟩
    have hkw5 : Keeps NoB w4 w5 := by rw [hww5]; exact (Keeps.refl NoB w4).alloc _
    have hcw5 : (w5).heap[bw5]? = some (.cells ([.int .i64 0, .int .i64 0]).toArray 78 (0, 0)) := by rw [hww5, hbw5]; exact heap_alloc_same _ _
    rw [← hbw5]
    clear hww5
    apply wr_alloc
    focus exact rfl
    refine wr_name ?_
    intro w6 hww6
    obtain ⟨bw6, hbw6⟩ : ∃ b, b = (w5).heap.size := ⟨_, rfl⟩
    have hkw6 : Keeps NoB w5 w6 := by rw [hww6]; exact (Keeps.refl NoB w5).alloc _
    have hcw6 : (w6).heap[bw6]? = some (.cells ([.bool false, nilV]).toArray 41 (0, 0)) := by rw [hww6, hbw6]; exact heap_alloc_same _ _
    rw [← hbw6]
    clear hww6
    have hc56 := hkw6.heap hcw5 (fun h => h)
    have hl5 := lt_of_heap hcw5
    refine wr_storeAll (cs := [.int .i64 pa, .int .i64 pb]) rfl rfl rfl (by intro u hu; simp at hu; rcases hu with rfl | rfl <;> rfl) hc56 (rfl) (rfl) ?_
    refine wr_name ?_
    intro w7 hww7
    have hkw7 : Keeps (· = bw5) w6 w7 := by rw [hww7]; exact (Keeps.refl _ w6).put _ (fun _ => rfl)
    have hcw7 : (w7).heap[bw5]? = some (.cells ([.int .i64 pa, .int .i64 pb]).toArray 78 (0, 0)) := by rw [hww7]; exact World.putObj_heap_same (lt_of_heap hc56)
    clear hww7
    have hc67 := hkw7.heap hcw6 (fun e => by omega)
    refine wr_storeAll (cs := [.bool (Wn (pa, pb)).1, pv]) rfl rfl rfl (by intro u hu; simp at hu; rcases hu with rfl | rfl; rfl; exact own_one hpo) hc67 (rfl) (rfl) ?_
    refine wr_name ?_
    intro w8 hww8
    have hkw8 : Keeps (· = bw6) w7 w8 := by rw [hww8]; exact (Keeps.refl _ w7).put _ (fun _ => rfl)
    have hcw8 : (w8).heap[bw6]? = some (.cells ([.bool (Wn (pa, pb)).1, pv]).toArray 41 (0, 0)) := by rw [hww8]; exact World.putObj_heap_same (lt_of_heap hc67)
    clear hww8
    have hc78 := hkw8.heap hcw7 (fun e => by omega)
    have hk48 : Keeps NoB w4 w8 := ((hkw5.trans hkw6).trans' hkw7 (fun i hi e => by omega)).trans' hkw8 (fun i hi e => by omega)
    have hc18 := hk48.heap hc14 (fun h => h)
    have ho8 := own_keep ho4 hk48 (fun _ _ h => h)
    have hI8 := hI4.keep hk48 (fun h => h) (fun h => h)
    have hpo8 := own_keep hpo4 hk48 (fun _ _ h => h)
    have hk18 := hk14.trans hk48
    by_cases hpk : pb = kk
    · subst hpk
      cases hh : hasP (Wn (pa, pb)) x with
      | true =>
        have hnew : pa ∉ out := fun hm => by
          obtain ⟨j, hj, q, hq, e, _⟩ := (hW3.mem pa).1 hm
          have := map_keys_inj hMn hq hp e
          subst this
          exact hni hj
        (repeat first | (apply wr_move; exact rfl; with_reducible (conv => enter [6, 3]; whnf)) | apply wr_end | apply wc_seq | apply wc_region | (apply wr_fieldAddr; iterate 2 exact rfl) | (apply wr_load; (iterate 3 exact rfl); (focus repeat first | with_reducible assumption | exact heap_alloc_same _ _ | exact World.putObj_heap_same (by first | omega | (simp only [World.size_alloc, World.putObj_size, ne_eq]; omega)) | ((first | refine hAl ?_ ?_ | refine hPu ?_ ?_); focus first | omega | (simp only [World.size_alloc, World.putObj_size, ne_eq]; omega))); exact rfl; conv => enter [6, 3]; whnf) | (apply wr_cmp; (iterate 3 exact rfl); exact cmpT (by dsimp only [cmpP]; first | done | omega)))
        refine wr_loadAll (cs := [.bool (Wn (pa, pb)).1, pv]) rfl rfl rfl hcw8 rfl ?_
        (repeat first | (apply wr_fieldAddr; iterate 2 exact rfl) | (apply wr_load; (iterate 3 exact rfl); (focus repeat first | with_reducible assumption | exact heap_alloc_same _ _ | exact World.putObj_heap_same (by first | omega | (simp only [World.size_alloc, World.putObj_size, ne_eq]; omega)) | ((first | refine hAl ?_ ?_ | refine hPu ?_ ?_); focus first | omega | (simp only [World.size_alloc, World.putObj_size, ne_eq]; omega))); exact rfl; conv => enter [6, 3]; whnf))
        refine wr_call (vs := [SetV (Wn (pa, pb)).1 pv, S x]) rfl (has_cb true hh hx ⟨pv, rfl, SlR.of_own hpo8⟩ (by omega)) rfl ?_
        rintro v w9 ⟨rfl, hk9⟩
        have hc79 := hk9.heap hc78 (fun h => h)
        (repeat first | (apply wr_move; exact rfl; with_reducible (conv => enter [6, 3]; whnf)) | apply wr_end | apply wc_region | (apply wr_fieldAddr; iterate 2 exact rfl) | (apply wr_load; (iterate 3 exact rfl); (focus repeat first | with_reducible assumption | exact heap_alloc_same _ _ | exact World.putObj_heap_same (by first | omega | (simp only [World.size_alloc, World.putObj_size, ne_eq]; omega)) | ((first | refine hAl ?_ ?_ | refine hPu ?_ ?_); focus first | omega | (simp only [World.size_alloc, World.putObj_size, ne_eq]; omega))); exact rfl; conv => enter [6, 3]; whnf) | (apply wr_pick (t := true); (iterate 2 exact rfl); with_reducible (conv => enter [6, 3]; whnf)) | (apply wc_true; exact rfl))
        refine wr_buildSlice (vs := [.int .i64 pa]) rfl rfl (by intro v hv; simp at hv; subst hv; rfl) rfl (by decide) (by decide) (by decide) ?_
        have hk9a : Keeps NoB w8 (w9.alloc (.cells (List.flatMap (fun v : Value => v.cells.toList) [.int .i64 pa]).toArray 3)) := hk9.alloc _
        have ho9 := own_keep ho8 hk9a (fun _ _ h => h)
        refine wr_append (base := w1.heap.size) (v := ov) (n := out.length) (m := 1) (news := [.int .i64 pa]) rfl rfl ho9 rfl (heap_alloc_same _ _) rfl (by intro u hu; simp at hu; subst hu; rfl) rfl (by decide) (by omega) (by omega) (Nat.le_trans hk18.size hk9a.size) ?_
        intro v10 w10 ho10 hk10 _
        have hI9 := hI8.keep hk9a (fun h => h) (fun h => h)
        have hnc : ∀ q, ov.ownBlock = some q → Dc (w9.alloc (.cells (List.flatMap (fun v : Value => v.cells.toList) [.int .i64 pa]).toArray 3)) q := fun q hq => by
          rcases ho9.2 with ⟨rfl, _⟩ | ⟨g, cap, cur, rfl, _, hg, _⟩
          · cases hq
          · simp [Value.ownBlock] at hq
            subst hq
            exact .inl ⟨_, _, _, hg⟩
        have hI10 := hI9.keep hk10 (fun e => (iter_isIt hI9).dc (hnc _ e)) (fun e => map_dc hI9.map (hnc _ e))
        have hc110 := hk10.heap (hk9a.heap hc18 (fun h => h)) (fun e => V.F.own_neT ho9 (hk9a.heap hc18 (fun h => h)) (by decide) _ e rfl)
        (repeat first | (apply wr_assign; exact rfl; with_reducible (conv => enter [6, 3]; whnf)) | (apply wr_nil; try simp only [thenE, inBlockE, bodyQ]))
        refine ⟨(idx ++ [i], out ++ [pa], v10), by dsimp only; rw [List.length_append, List.length_singleton]; omega, ⟨by trivial, hI10, ⟨?_, fun y => ?_⟩, by simp; omega, ?_, hc110, ((hk18.trans hk9a).trans' hk10 (fun q hq e => by have := V.F.own_geF ho9 e; omega))⟩, rfl, rfl, rfl, trivial⟩
        · rw [List.nodup_append]
          exact ⟨hW3.nd, by simp, fun a ha b hb e => by simp at hb; subst hb; subst e; exact hnew ha⟩
        · dsimp only
          rw [List.mem_append, List.mem_singleton, hW3.mem]
          constructor
          · rintro (⟨j, hj, q, hq⟩ | rfl)
            · exact ⟨j, List.mem_append_left _ hj, q, hq⟩
            · exact ⟨i, List.mem_append_right _ List.mem_cons_self, _, hp, rfl, hh⟩
          · rintro ⟨j, hj, q, hq, e, hhq⟩
            rcases List.mem_append.1 hj with hj | hj
            · exact .inl ⟨j, hj, q, hq, e, hhq⟩
            · simp at hj
              subst hj
              rw [hp] at hq
              cases hq
              right
              exact (congrArg Prod.fst e).symm
        · dsimp only
          rw [List.length_append, List.length_singleton]
          simpa [IL] using ho10
      | false =>
        (repeat first | (apply wr_move; exact rfl; with_reducible (conv => enter [6, 3]; whnf)) | apply wr_end | apply wc_seq | apply wc_region | (apply wr_fieldAddr; iterate 2 exact rfl) | (apply wr_load; (iterate 3 exact rfl); (focus repeat first | with_reducible assumption | exact heap_alloc_same _ _ | exact World.putObj_heap_same (by first | omega | (simp only [World.size_alloc, World.putObj_size, ne_eq]; omega)) | ((first | refine hAl ?_ ?_ | refine hPu ?_ ?_); focus first | omega | (simp only [World.size_alloc, World.putObj_size, ne_eq]; omega))); exact rfl; conv => enter [6, 3]; whnf) | (apply wr_cmp; (iterate 3 exact rfl); exact cmpT (by dsimp only [cmpP]; first | done | omega)))
        refine wr_loadAll (cs := [.bool (Wn (pa, pb)).1, pv]) rfl rfl rfl hcw8 rfl ?_
        (repeat first | (apply wr_fieldAddr; iterate 2 exact rfl) | (apply wr_load; (iterate 3 exact rfl); (focus repeat first | with_reducible assumption | exact heap_alloc_same _ _ | exact World.putObj_heap_same (by first | omega | (simp only [World.size_alloc, World.putObj_size, ne_eq]; omega)) | ((first | refine hAl ?_ ?_ | refine hPu ?_ ?_); focus first | omega | (simp only [World.size_alloc, World.putObj_size, ne_eq]; omega))); exact rfl; conv => enter [6, 3]; whnf))
        refine wr_call (vs := [SetV (Wn (pa, pb)).1 pv, S x]) rfl (has_cb false hh hx ⟨pv, rfl, SlR.of_own hpo8⟩ (by omega)) rfl ?_
        rintro v w9 ⟨rfl, hk9⟩
        (repeat first | apply wr_end | apply wc_skip | (apply wr_pick (t := true); (iterate 2 exact rfl); with_reducible (conv => enter [6, 3]; whnf)) | (apply wc_false; exact rfl))
        refine ⟨(idx ++ [i], out, ov), by dsimp only; rw [List.length_append, List.length_singleton]; omega, ⟨by trivial, hI8.keep (hk9) (fun h => h) (fun h => h), ⟨hW3.nd, fun y => ?_⟩, by simp; omega, own_keep ho8 (hk9) (fun _ _ h => h), (hk9).heap hc18 (fun h => h), hk18.trans (hk9)⟩, rfl, rfl, rfl, trivial⟩
        dsimp only
        rw [hW3.mem]
        constructor
        focus
          rintro ⟨j, hj, q, hq⟩
          exact ⟨j, List.mem_append_left _ hj, q, hq⟩
        rintro ⟨j, hj, q, hq, e, hhq⟩
        rcases List.mem_append.1 hj with hj | hj
        focus exact ⟨j, hj, q, hq, e, hhq⟩
        exfalso
        simp at hj
        subst hj
        rw [hp] at hq
        cases hq
        dsimp only at hhq; rw [hh] at hhq; cases hhq
    · skip
      (repeat first | (apply wr_move; exact rfl; with_reducible (conv => enter [6, 3]; whnf)) | apply wr_end | apply wc_seq | apply wc_region | apply wc_skip | (apply wr_fieldAddr; iterate 2 exact rfl) | (apply wr_load; (iterate 3 exact rfl); (focus repeat first | with_reducible assumption | exact heap_alloc_same _ _ | exact World.putObj_heap_same (by first | omega | (simp only [World.size_alloc, World.putObj_size, ne_eq]; omega)) | ((first | refine hAl ?_ ?_ | refine hPu ?_ ?_); focus first | omega | (simp only [World.size_alloc, World.putObj_size, ne_eq]; omega))); exact rfl; conv => enter [6, 3]; whnf) | (apply wr_cmp; (iterate 3 exact rfl); exact cmpF (by dsimp only [cmpN]; first | done | omega)) | (apply wr_pick (t := false); (iterate 2 exact rfl); with_reducible (conv => enter [6, 3]; whnf)) | (apply wc_false; exact rfl) | (apply wr_skip; exact rfl))
      refine ⟨(idx ++ [i], out, ov), by dsimp only; rw [List.length_append, List.length_singleton]; omega, ⟨by trivial, hI8.keep (Keeps.refl NoB w8) (fun h => h) (fun h => h), ⟨hW3.nd, fun y => ?_⟩, by simp; omega, own_keep ho8 (Keeps.refl NoB w8) (fun _ _ h => h), (Keeps.refl NoB w8).heap hc18 (fun h => h), hk18.trans (Keeps.refl NoB w8)⟩, rfl, rfl, rfl, trivial⟩
      dsimp only
      rw [hW3.mem]
      constructor
      focus
        rintro ⟨j, hj, q, hq⟩
        exact ⟨j, List.mem_append_left _ hj, q, hq⟩
      rintro ⟨j, hj, q, hq, e, hhq⟩
      rcases List.mem_append.1 hj with hj | hj
      focus exact ⟨j, hj, q, hq, e, hhq⟩
      exfalso
      simp at hj
      subst hj
      rw [hp] at hq
      cases hq
      exact hpk (congrArg Prod.snd e)
end Go.Proofs.YtajajahofkialaaGreatDoor
