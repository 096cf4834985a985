/- merge: Who, Keys, Drop of nobody. -/
import Derived.Test.YtajajahofkialaaGreatDoorHi2
namespace Go.Proofs.YtajajahofkialaaGreatDoor
open Go Go.V Go.RowKit
set_option linter.unusedVariables false
set_option linter.unusedSimpArgs false

/-- How many of a type want a name. -/
def whoN (Wn : WF) (kk : Int) (x : TT) : Nat := (List.range 33).countP fun id : Nat => hasP (Wn ((id : Int), kk)) x
theorem has_dom {Wn : WF} (hd : ∀ t, ¬ inDom t → Wn t = noneP) {t : TY} {x : TT} (h : hasP (Wn t) x = true) : inDom t ∧ Wn t ≠ noneP := by
  have hn : Wn t ≠ noneP := fun e => by
    rw [e, hasP_def] at h
    simp [noneP] at h
  refine ⟨Classical.byContradiction fun h2 => hn (hd t h2), hn⟩
theorem who_len {Wn : WF} (hd : ∀ t, ¬ inDom t → Wn t = noneP) {kk : Int} {x : TT} {out : List Int} (hn : out.Nodup) (hm : ∀ y, y ∈ out ↔ hasP (Wn (y, kk)) x = true) : out.length = whoN Wn kk x := by
  have h1 : whoN Wn kk x = (((List.range 33).filter fun id : Nat => hasP (Wn ((id : Int), kk)) x).map fun id : Nat => (id : Int)).length := by
    unfold whoN
    rw [List.length_map, List.countP_eq_length_filter]
  have hmem : ∀ y, y ∈ (((List.range 33).filter fun id : Nat => hasP (Wn ((id : Int), kk)) x).map fun id : Nat => (id : Int)) ↔ hasP (Wn (y, kk)) x = true := fun y => by
    rw [List.mem_map]
    constructor
    · rintro ⟨i, hi, rfl⟩
      exact (List.mem_filter.1 hi).2
    · intro h
      obtain ⟨⟨h1, h2, _, _⟩, _⟩ := has_dom hd h
      obtain ⟨n, rfl⟩ := Int.eq_ofNat_of_zero_le (show 0 ≤ y by dsimp only at h1; omega)
      exact ⟨n, List.mem_filter.2 ⟨List.mem_range.2 (by dsimp only at h2; omega), h⟩, rfl⟩
  have hnd : (((List.range 33).filter fun id : Nat => hasP (Wn ((id : Int), kk)) x).map fun id : Nat => (id : Int)).Nodup := by
    refine List.Pairwise.map _ (fun a b hab e => hab (by omega)) (List.Pairwise.filter _ List.nodup_range)
  rw [h1]
  exact Nat.le_antisymm (nodup_len _ _ hn (fun y hy => (hmem y).2 ((hm y).1 hy))) (nodup_len _ _ hnd (fun y hy => (hm y).2 ((hmem y).1 hy)))
theorem map_keys_inj {M : List (TY × Value)} (hn : (M.map (·.1)).Nodup) {i j : Nat} {p q : TY × Value} (hi : M[i]? = some p) (hj : M[j]? = some q) (e : p.1 = q.1) : i = j := by
  have h1 : (M.map (·.1))[i]? = some p.1 := by rw [List.getElem?_map, hi]; rfl
  have h2 : (M.map (·.1))[j]? = some q.1 := by rw [List.getElem?_map, hj]; rfl
  obtain ⟨a1, a2⟩ := List.getElem?_eq_some_iff.1 h1
  obtain ⟨b1, b2⟩ := List.getElem?_eq_some_iff.1 h2
  rcases Nat.lt_trichotomy i j with h | h | h
  · exact absurd (a2.trans (e.trans b2.symm)) (List.pairwise_iff_getElem.1 hn i j a1 b1 h)
  · exact h
  · exact absurd (b2.trans (e.symm.trans a2.symm)) (List.pairwise_iff_getElem.1 hn j i b1 a1 h)
theorem getM_at {M : List (TY × Value)} (hn : (M.map (·.1)).Nodup) {i : Nat} {p : TY × Value} (hi : M[i]? = some p) : getM M p.1 = some p.2 := by
  unfold getM
  cases hf : M.find? (fun q => decide (q.1 = p.1)) with
  | none =>
    rw [List.find?_eq_none] at hf
    exact absurd (by simp) (hf p (List.mem_of_getElem? hi))
  | some q =>
    have h1 := List.find?_some hf
    simp at h1
    obtain ⟨j, hj⟩ := List.getElem?_of_mem (List.mem_of_find?_eq_some hf)
    have := map_keys_inj hn hj hi h1
    subst this
    rw [hi] at hj
    cases hj
    rfl
theorem getM_in {M : List (TY × Value)} {t : TY} {v : Value} (h : getM M t = some v) : ∃ i : Nat, M[i]? = some (t, v) := by
  unfold getM at h
  obtain ⟨p, hp, rfl⟩ := Option.map_eq_some_iff.1 h
  have h1 := List.find?_some hp
  simp at h1
  subst h1
  exact List.getElem?_of_mem (List.mem_of_find?_eq_some hp)
theorem map_nodup {w : World} {b : Nat} {M : List (TY × Value)} (h : MapAt w encT b M) : (M.map (·.1)).Nodup := by
  obtain ⟨es, c, _, _, hn, _⟩ := h
  exact hn
/-- Who is met, out of the places met. -/
structure WhoI (Wn : WF) (kk : Int) (x : TT) (M : List (TY × Value)) (idx : List Nat) (out : List Int) : Prop where
  nd : out.Nodup
  mem : ∀ y, y ∈ out ↔ ∃ i ∈ idx, ∃ p, M[i]? = some p ∧ p.1 = (y, kk) ∧ hasP (Wn p.1) x = true
set_option maxRecDepth 100000 in
set_option maxHeartbeats 4000000 in
theorem whoM_ca {w : World} {n0 ab wb : Nat} {cb : List Nat} {Wn : WF} (h : MgAt w n0 ab wb cb Wn) (kk : Int) (x : TT) (hx : x.length ≤ 9223372036854775807) :
    Ca Tryz.prog 25 #[.pointer (some ⟨ab, 0, none⟩), .agg #[.int .i64 kk, S x]] w fun v w' => (∃ a c, v = .slice a (whoN Wn kk x) c) ∧ Keeps NoB w w' := by
  refine ca_of_body (args := [.pointer (some ⟨ab, 0, none⟩), .agg #[.int .i64 kk, S x]]) Tryz.func25 rfl (by kernel_rfl) ?_
  apply wc_seq
  apply wc_region
  refine wr_box (v := .agg #[.int .i64 kk, S x]) rfl rfl ?_
  refine wr_name ?_
  intro w1 hww1
  obtain ⟨bw1, hbw1⟩ : ∃ b, b = (w).heap.size := ⟨_, rfl⟩
  have hkw1 : Keeps NoB w w1 := by rw [hww1]; exact (Keeps.refl NoB w).alloc _
  have hcw1 : (w1).heap[bw1]? = some (.cells ([.int .i64 kk, S x]).toArray 55 (0, 0)) := by rw [hww1, hbw1]; exact heap_alloc_same _ _
  rw [← hbw1]
  clear hww1
  have h1 := h.keepN hkw1
  obtain ⟨M, hM, hMW⟩ := h1.want
  have hMn := map_nodup hM
  have hMl : M.length ≤ 160 := by
    have := nodup_len (M.map (·.1)) ((List.range 32).flatMap fun i : Nat => (List.range 5).map fun j : Nat => (((i : Int) + 1, (j : Int) + 1) : TY)) hMn (fun t ht => by
      obtain ⟨p, hp, rfl⟩ := List.mem_map.1 ht
      obtain ⟨i, hi⟩ := List.getElem?_of_mem hp
      have hg := hMW p.1
      have hin : inDom p.1 := Classical.byContradiction fun hn => by
        unfold WantV at hg
        rw [if_pos (h1.dom _ hn), getM_at hMn hi] at hg
        cases hg
      obtain ⟨a1, a2, a3, a4⟩ := hin
      refine List.mem_flatMap.2 ⟨(p.1.1 - 1).toNat, List.mem_range.2 (by omega), List.mem_map.2 ⟨(p.1.2 - 1).toNat, List.mem_range.2 (by omega), Prod.ext ?_ ?_⟩⟩
      · show (((p.1.1 - 1).toNat : Nat) : Int) + 1 = p.1.1; omega
      · show (((p.1.2 - 1).toNat : Nat) : Int) + 1 = p.1.2; omega)
    rw [List.length_map] at this
    refine Nat.le_trans this ?_
    decide +kernel
  have hz1 := hkw1.size
  have hc1 := h1.cells
  (repeat first | (apply wr_move; exact rfl; with_reducible (conv => enter [6, 3]; whnf)) | (apply wr_assign; exact rfl; with_reducible (conv => enter [6, 3]; whnf)) | apply wr_end | apply wc_seq | apply wc_region | (apply wr_fieldAddr; iterate 2 exact rfl) | (apply wr_nilCheck; iterate 2 exact rfl) | (apply wr_load; (iterate 3 exact rfl); (focus repeat first | with_reducible assumption | exact heap_alloc_same _ _ | exact World.putObj_heap_same (by first | omega | (simp only [World.size_alloc, World.putObj_size, ne_eq]; omega)) | ((first | refine hAl ?_ ?_ | refine hPu ?_ ?_); focus first | omega | (simp only [World.size_alloc, World.putObj_size, ne_eq]; omega))); exact rfl; conv => enter [6, 3]; whnf))
  refine wr_rangeM rfl rfl hM ?_
  intro w2 hI2 hk2
  obtain ⟨r, hr⟩ : ∃ b, b = w1.heap.size := ⟨_, rfl⟩
  rw [← hr] at hI2 ⊢
  have hc12 := hk2.heap hcw1 (fun h => h)
  have hk02 := hkw1.trans hk2
  have hlr := lt_of_heap hcw1
  (repeat first | apply wr_end | apply wc_block)
  refine wc_loopL (α := List Nat × List Int × Value) (fun p => [(3, .pointer (some ⟨bw1, 0, none⟩)), (5, p.2.2), (12, .pointer (some ⟨r, 0, none⟩))])
    (fun p ds w' => ds = [] ∧ IterAt w' encT r wb M p.1 ∧ WhoI Wn kk x M p.1 p.2.1 ∧ p.2.1.length ≤ p.1.length ∧ w'.ownsRow w1.heap.size 3 1 p.2.2 p.2.1.length (IL p.2.1) ∧ w'.heap[bw1]? = some (.cells #[.int .i64 kk, S x] 55 (0, 0)) ∧ Keeps NoB w1 w') (fun p => M.length - p.1.length) ([], [], nilV)
    ⟨rfl, hI2, ⟨List.nodup_nil, fun y => by simp⟩, Nat.le_refl _, own_nilV _ _ _ _, hc12, hk2⟩ ⟨rfl, rfl, rfl, trivial⟩ ?_
  rintro ⟨idx, out, ov⟩ ds f0 w3 ⟨rfl, hI3, hW3, hol, ho3, hc13, hk3⟩
  dsimp only at hI3 hW3 hol ho3 ⊢
  have hidx := iter_idx hI3
  (repeat first | apply wc_seq | apply wc_region)
  refine wr_nextM rfl rfl hI3 ?_ ?_
  · intro w4 hall hk4
    have ho4 := own_keep ho3 hk4 (fun _ _ h => h)
    have hlen : out.length = whoN Wn kk x := who_len h.dom hW3.nd (fun y => by
      rw [hW3.mem]
      constructor
      · rintro ⟨i, _, p, hp, e, hh⟩
        rw [← e]; exact hh
      · intro hh
        obtain ⟨hd, hn⟩ := has_dom h.dom hh
        have hg := hMW (y, kk)
        unfold WantV at hg
        rw [if_neg hn] at hg
        obtain ⟨v, hg, _⟩ := hg
        obtain ⟨i, hi⟩ := getM_in hg
        exact ⟨i, hall i (List.getElem?_eq_some_iff.1 hi).1, _, hi, rfl, hh⟩)
    obtain ⟨oa, oc, rfl⟩ := own_sl ho4
    (repeat first | (apply wr_move; exact rfl; with_reducible (conv => enter [6, 3]; whnf)) | apply wr_end | apply wc_seq | apply wc_region | (apply wr_extract; (iterate 3 exact rfl); with_reducible (conv => enter [6, 3]; whnf)) | (apply wc_false; exact rfl) | (apply wc_exit; try simp only [thenE, inBlockE, bodyQ, ↓reduceIte, Nat.reduceEqDiff]))
    refine wr_call (vs := [.slice oa out.length oc]) rfl (sortI_ca w4 ho4 (by omega)) rfl ?_
    rintro v w5 ⟨rfl, ho5, hk5⟩
    (repeat first | (apply wr_move; exact rfl; with_reducible (conv => enter [6, 3]; whnf)) | (apply wr_assign; exact rfl; with_reducible (conv => enter [6, 3]; whnf)) | apply wr_end | apply wc_seq | apply wc_region | (apply wc_ret; try simp only [thenE, inBlockE, bodyQ]))
    refine leave1 (v := .slice oa out.length oc) rfl rfl ⟨⟨oa, oc, by rw [hlen]⟩, hkw1.trans ((hk3.trans hk4).trans' hk5 (fun q hq e => by have := V.F.own_geF ho4 e; omega))⟩
  · intro w4 i p hni hp hI4 hE4 hk4
    have hidx4 := iter_idx hI4
    rw [List.length_append, List.length_singleton] at hidx4
    have hIt3 := iter_isIt hI3
    have hrz : w.heap.size ≤ r := by omega
    have ho4 := own_keep ho3 hk4 (fun q hq e => by
      obtain ⟨a1, a2, a3, a4, hr0⟩ := hIt3
      have e : q = r := e
      subst e
      rcases ho3.2 with ⟨rfl, _⟩ | ⟨g, cap, cur, rfl, _, hg, _⟩
      · cases hq
      · simp [Value.ownBlock] at hq
        subst hq
        rw [hr0] at hg; cases hg)
    have hc14 := hk4.heap hc13 (fun e => by omega)
    have hk14 : Keeps NoB w1 w4 := hk3.trans' hk4 (fun i hi e => by omega)
    have hgp := getM_at hMn hp
    have hgw := hMW p.1
    unfold WantV at hgw
    by_cases hno : Wn p.1 = noneP
    · rw [if_pos hno, hgp] at hgw; cases hgw
    rw [if_neg hno, hgp] at hgw
    obtain ⟨pv, hpv, hpo⟩ := hgw
    injection hpv with hpv
    obtain ⟨⟨pa, pb⟩, pval⟩ := p
    dsimp only at hpv hpo hno hgp
    subst hpv
    have hpo4 := own_keep hpo hk14 (fun _ _ h => h)
    have hpsm := h.small (pa, pb)
    (repeat first | apply wr_end | apply wc_seq | apply wc_region | apply wc_skip | apply wc_block | (apply wr_extract; (iterate 3 exact rfl); with_reducible (conv => enter [6, 3]; whnf)) | (apply wc_true; exact rfl))
    refine wr_entryM rfl rfl hE4 ?_
    apply wr_extract; (iterate 3 exact rfl); with_reducible (conv => enter [6, 3]; whnf)
    apply wr_extract; (iterate 3 exact rfl); with_reducible (conv => enter [6, 3]; whnf)
    apply wr_alloc
    focus exact rfl
    refine wr_name ?_
    intro w5 hww5
    obtain ⟨bw5, hbw5⟩ : ∃ b, b = (w4).heap.size := ⟨_, rfl⟩
    have hkw5 : Keeps NoB w4 w5 := by rw [hww5]; exact (Keeps.refl NoB w4).alloc _
    have hcw5 : (w5).heap[bw5]? = some (.cells ([.int .i64 0, .int .i64 0]).toArray 78 (0, 0)) := by rw [hww5, hbw5]; exact heap_alloc_same _ _
    rw [← hbw5]
    clear hww5
    apply wr_alloc
    focus exact rfl
    refine wr_name ?_
    intro w6 hww6
    obtain ⟨bw6, hbw6⟩ : ∃ b, b = (w5).heap.size := ⟨_, rfl⟩
    have hkw6 : Keeps NoB w5 w6 := by rw [hww6]; exact (Keeps.refl NoB w5).alloc _
    have hcw6 : (w6).heap[bw6]? = some (.cells ([.bool false, nilV]).toArray 41 (0, 0)) := by rw [hww6, hbw6]; exact heap_alloc_same _ _
    rw [← hbw6]
    clear hww6
    have hc56 := hkw6.heap hcw5 (fun h => h)
    have hl5 := lt_of_heap hcw5
    refine wr_storeAll (cs := [.int .i64 pa, .int .i64 pb]) rfl rfl rfl (by intro u hu; simp at hu; rcases hu with rfl | rfl <;> rfl) hc56 (rfl) (rfl) ?_
    refine wr_name ?_
    intro w7 hww7
    have hkw7 : Keeps (· = bw5) w6 w7 := by rw [hww7]; exact (Keeps.refl _ w6).put _ (fun _ => rfl)
    have hcw7 : (w7).heap[bw5]? = some (.cells ([.int .i64 pa, .int .i64 pb]).toArray 78 (0, 0)) := by rw [hww7]; exact World.putObj_heap_same (lt_of_heap hc56)
    clear hww7
    have hc67 := hkw7.heap hcw6 (fun e => by omega)
    refine wr_storeAll (cs := [.bool (Wn (pa, pb)).1, pv]) rfl rfl rfl (by intro u hu; simp at hu; rcases hu with rfl | rfl; rfl; exact own_one hpo) hc67 (rfl) (rfl) ?_
    refine wr_name ?_
    intro w8 hww8
    have hkw8 : Keeps (· = bw6) w7 w8 := by rw [hww8]; exact (Keeps.refl _ w7).put _ (fun _ => rfl)
    have hcw8 : (w8).heap[bw6]? = some (.cells ([.bool (Wn (pa, pb)).1, pv]).toArray 41 (0, 0)) := by rw [hww8]; exact World.putObj_heap_same (lt_of_heap hc67)
    clear hww8
    have hc78 := hkw8.heap hcw7 (fun e => by omega)
    have hk48 : Keeps NoB w4 w8 := ((hkw5.trans hkw6).trans' hkw7 (fun i hi e => by omega)).trans' hkw8 (fun i hi e => by omega)
    have hc18 := hk48.heap hc14 (fun h => h)
    have ho8 := own_keep ho4 hk48 (fun _ _ h => h)
    have hI8 := hI4.keep hk48 (fun h => h) (fun h => h)
    have hpo8 := own_keep hpo4 hk48 (fun _ _ h => h)
    have hk18 := hk14.trans hk48
    by_cases hpk : pb = kk
    · subst hpk
      cases hh : hasP (Wn (pa, pb)) x with
      | true =>
        have hnew : pa ∉ out := fun hm => by
          obtain ⟨j, hj, q, hq, e, _⟩ := (hW3.mem pa).1 hm
          have := map_keys_inj hMn hq hp e
          subst this
          exact hni hj
        (repeat first | (apply wr_move; exact rfl; with_reducible (conv => enter [6, 3]; whnf)) | apply wr_end | apply wc_seq | apply wc_region | (apply wr_fieldAddr; iterate 2 exact rfl) | (apply wr_load; (iterate 3 exact rfl); (focus repeat first | with_reducible assumption | exact heap_alloc_same _ _ | exact World.putObj_heap_same (by first | omega | (simp only [World.size_alloc, World.putObj_size, ne_eq]; omega)) | ((first | refine hAl ?_ ?_ | refine hPu ?_ ?_); focus first | omega | (simp only [World.size_alloc, World.putObj_size, ne_eq]; omega))); exact rfl; conv => enter [6, 3]; whnf) | (apply wr_cmp; (iterate 3 exact rfl); exact cmpT (by dsimp only [cmpP]; first | done | omega)))
        refine wr_loadAll (cs := [.bool (Wn (pa, pb)).1, pv]) rfl rfl rfl hcw8 rfl ?_
        (repeat first | (apply wr_fieldAddr; iterate 2 exact rfl) | (apply wr_load; (iterate 3 exact rfl); (focus repeat first | with_reducible assumption | exact heap_alloc_same _ _ | exact World.putObj_heap_same (by first | omega | (simp only [World.size_alloc, World.putObj_size, ne_eq]; omega)) | ((first | refine hAl ?_ ?_ | refine hPu ?_ ?_); focus first | omega | (simp only [World.size_alloc, World.putObj_size, ne_eq]; omega))); exact rfl; conv => enter [6, 3]; whnf))
        refine wr_call (vs := [SetV (Wn (pa, pb)).1 pv, S x]) rfl (has_cb true hh hx ⟨pv, rfl, SlR.of_own hpo8⟩ (by omega)) rfl ?_
        rintro v w9 ⟨rfl, hk9⟩
        have hc79 := hk9.heap hc78 (fun h => h)
        (repeat first | (apply wr_move; exact rfl; with_reducible (conv => enter [6, 3]; whnf)) | apply wr_end | apply wc_region | (apply wr_fieldAddr; iterate 2 exact rfl) | (apply wr_load; (iterate 3 exact rfl); (focus repeat first | with_reducible assumption | exact heap_alloc_same _ _ | exact World.putObj_heap_same (by first | omega | (simp only [World.size_alloc, World.putObj_size, ne_eq]; omega)) | ((first | refine hAl ?_ ?_ | refine hPu ?_ ?_); focus first | omega | (simp only [World.size_alloc, World.putObj_size, ne_eq]; omega))); exact rfl; conv => enter [6, 3]; whnf) | (apply wr_pick (t := true); (iterate 2 exact rfl); with_reducible (conv => enter [6, 3]; whnf)) | (apply wc_true; exact rfl))
        refine wr_buildSlice (vs := [.int .i64 pa]) rfl rfl (by intro v hv; simp at hv; subst hv; rfl) rfl (by decide) (by decide) (by decide) ?_
        have hk9a : Keeps NoB w8 (w9.alloc (.cells (List.flatMap (fun v : Value => v.cells.toList) [.int .i64 pa]).toArray 3)) := hk9.alloc _
        have ho9 := own_keep ho8 hk9a (fun _ _ h => h)
        refine wr_append (base := w1.heap.size) (v := ov) (n := out.length) (m := 1) (news := [.int .i64 pa]) rfl rfl ho9 rfl (heap_alloc_same _ _) rfl (by intro u hu; simp at hu; subst hu; rfl) rfl (by decide) (by omega) (by omega) (Nat.le_trans hk18.size hk9a.size) ?_
        intro v10 w10 ho10 hk10 _
        have hI9 := hI8.keep hk9a (fun h => h) (fun h => h)
        have hnc : ∀ q, ov.ownBlock = some q → Dc (w9.alloc (.cells (List.flatMap (fun v : Value => v.cells.toList) [.int .i64 pa]).toArray 3)) q := fun q hq => by
          rcases ho9.2 with ⟨rfl, _⟩ | ⟨g, cap, cur, rfl, _, hg, _⟩
          · cases hq
          · simp [Value.ownBlock] at hq
            subst hq
            exact .inl ⟨_, _, _, hg⟩
        have hI10 := hI9.keep hk10 (fun e => (iter_isIt hI9).dc (hnc _ e)) (fun e => map_dc hI9.map (hnc _ e))
        have hc110 := hk10.heap (hk9a.heap hc18 (fun h => h)) (fun e => V.F.own_neT ho9 (hk9a.heap hc18 (fun h => h)) (by decide) _ e rfl)
        (repeat first | (apply wr_assign; exact rfl; with_reducible (conv => enter [6, 3]; whnf)) | (apply wr_nil; try simp only [thenE, inBlockE, bodyQ]))
        refine ⟨(idx ++ [i], out ++ [pa], v10), by dsimp only; rw [List.length_append, List.length_singleton]; omega, ⟨by trivial, hI10, ⟨?_, fun y => ?_⟩, by simp; omega, ?_, hc110, ((hk18.trans hk9a).trans' hk10 (fun q hq e => by have := V.F.own_geF ho9 e; omega))⟩, rfl, rfl, rfl, trivial⟩
        · rw [List.nodup_append]
          exact ⟨hW3.nd, by simp, fun a ha b hb e => by simp at hb; subst hb; subst e; exact hnew ha⟩
        · dsimp only
          rw [List.mem_append, List.mem_singleton, hW3.mem]
          constructor
          · rintro (⟨j, hj, q, hq⟩ | rfl)
            · exact ⟨j, List.mem_append_left _ hj, q, hq⟩
            · exact ⟨i, List.mem_append_right _ List.mem_cons_self, _, hp, rfl, hh⟩
          · rintro ⟨j, hj, q, hq, e, hhq⟩
            rcases List.mem_append.1 hj with hj | hj
            · exact .inl ⟨j, hj, q, hq, e, hhq⟩
            · simp at hj
              subst hj
              rw [hp] at hq
              cases hq
              right
              exact (congrArg Prod.fst e).symm
        · dsimp only
          rw [List.length_append, List.length_singleton]
          simpa [IL] using ho10
      | false =>
        (repeat first | (apply wr_move; exact rfl; with_reducible (conv => enter [6, 3]; whnf)) | apply wr_end | apply wc_seq | apply wc_region | (apply wr_fieldAddr; iterate 2 exact rfl) | (apply wr_load; (iterate 3 exact rfl); (focus repeat first | with_reducible assumption | exact heap_alloc_same _ _ | exact World.putObj_heap_same (by first | omega | (simp only [World.size_alloc, World.putObj_size, ne_eq]; omega)) | ((first | refine hAl ?_ ?_ | refine hPu ?_ ?_); focus first | omega | (simp only [World.size_alloc, World.putObj_size, ne_eq]; omega))); exact rfl; conv => enter [6, 3]; whnf) | (apply wr_cmp; (iterate 3 exact rfl); exact cmpT (by dsimp only [cmpP]; first | done | omega)))
        refine wr_loadAll (cs := [.bool (Wn (pa, pb)).1, pv]) rfl rfl rfl hcw8 rfl ?_
        (repeat first | (apply wr_fieldAddr; iterate 2 exact rfl) | (apply wr_load; (iterate 3 exact rfl); (focus repeat first | with_reducible assumption | exact heap_alloc_same _ _ | exact World.putObj_heap_same (by first | omega | (simp only [World.size_alloc, World.putObj_size, ne_eq]; omega)) | ((first | refine hAl ?_ ?_ | refine hPu ?_ ?_); focus first | omega | (simp only [World.size_alloc, World.putObj_size, ne_eq]; omega))); exact rfl; conv => enter [6, 3]; whnf))
        refine wr_call (vs := [SetV (Wn (pa, pb)).1 pv, S x]) rfl (has_cb false hh hx ⟨pv, rfl, SlR.of_own hpo8⟩ (by omega)) rfl ?_
        rintro v w9 ⟨rfl, hk9⟩
        (repeat first | apply wr_end | apply wc_skip | (apply wr_pick (t := true); (iterate 2 exact rfl); with_reducible (conv => enter [6, 3]; whnf)) | (apply wc_false; exact rfl))
        refine ⟨(idx ++ [i], out, ov), by dsimp only; rw [List.length_append, List.length_singleton]; omega, ⟨by trivial, hI8.keep (hk9) (fun h => h) (fun h => h), ⟨hW3.nd, fun y => ?_⟩, by simp; omega, own_keep ho8 (hk9) (fun _ _ h => h), (hk9).heap hc18 (fun h => h), hk18.trans (hk9)⟩, rfl, rfl, rfl, trivial⟩
        dsimp only
        rw [hW3.mem]
        constructor
        focus
          rintro ⟨j, hj, q, hq⟩
          exact ⟨j, List.mem_append_left _ hj, q, hq⟩
        rintro ⟨j, hj, q, hq, e, hhq⟩
        rcases List.mem_append.1 hj with hj | hj
        focus exact ⟨j, hj, q, hq, e, hhq⟩
        exfalso
        simp at hj
        subst hj
        rw [hp] at hq
        cases hq
        dsimp only at hhq; rw [hh] at hhq; cases hhq
    · skip
      (repeat first | (apply wr_move; exact rfl; with_reducible (conv => enter [6, 3]; whnf)) | apply wr_end | apply wc_seq | apply wc_region | apply wc_skip | (apply wr_fieldAddr; iterate 2 exact rfl) | (apply wr_load; (iterate 3 exact rfl); (focus repeat first | with_reducible assumption | exact heap_alloc_same _ _ | exact World.putObj_heap_same (by first | omega | (simp only [World.size_alloc, World.putObj_size, ne_eq]; omega)) | ((first | refine hAl ?_ ?_ | refine hPu ?_ ?_); focus first | omega | (simp only [World.size_alloc, World.putObj_size, ne_eq]; omega))); exact rfl; conv => enter [6, 3]; whnf) | (apply wr_cmp; (iterate 3 exact rfl); exact cmpF (by dsimp only [cmpN]; first | done | omega)) | (apply wr_pick (t := false); (iterate 2 exact rfl); with_reducible (conv => enter [6, 3]; whnf)) | (apply wc_false; exact rfl) | (apply wr_skip; exact rfl))
      refine ⟨(idx ++ [i], out, ov), by dsimp only; rw [List.length_append, List.length_singleton]; omega, ⟨by trivial, hI8.keep (Keeps.refl NoB w8) (fun h => h) (fun h => h), ⟨hW3.nd, fun y => ?_⟩, by simp; omega, own_keep ho8 (Keeps.refl NoB w8) (fun _ _ h => h), (Keeps.refl NoB w8).heap hc18 (fun h => h), hk18.trans (Keeps.refl NoB w8)⟩, rfl, rfl, rfl, trivial⟩
      dsimp only
      rw [hW3.mem]
      constructor
      focus
        rintro ⟨j, hj, q, hq⟩
        exact ⟨j, List.mem_append_left _ hj, q, hq⟩
      rintro ⟨j, hj, q, hq, e, hhq⟩
      rcases List.mem_append.1 hj with hj | hj
      focus exact ⟨j, hj, q, hq, e, hhq⟩
      exfalso
      simp at hj
      subst hj
      rw [hp] at hq
      cases hq
      exact hpk (congrArg Prod.snd e)
end Go.Proofs.YtajajahofkialaaGreatDoor

namespace Go.Proofs.YtajajahofkialaaGreatDoor
open Go Go.V Go.RowKit
set_option linter.unusedVariables false
set_option linter.unusedSimpArgs false

theorem dec_len {i : Nat} (hi : i < 100) : (Lib.decDigits i).length ≤ 2 := by
  by_cases h : i < 10
  · rw [Lib.decDigits_one h]; simp
  · rw [Lib.decDigits_two h hi]; simp
def keyT (Wn : WF) (k : Nat) (x : TT) : TT := x ++ [32] ++ Lib.decDigits (cntW Wn k x).toNat
def keysL (Wn : WF) (k : Nat) : TX := (listP (unionK Wn k)).map (keyT Wn k)
theorem unionK_fine (Wn : WF) (k : Nat) : Fine (unionK Wn k) := ofP_fine _
theorem unionK_len {Wn : WF} (hs : small Wn) (k : Nat) : (unionK Wn k).2.length ≤ 3400000 := Nat.le_trans (ofP_le _) (allL_len hs k)
set_option maxRecDepth 100000 in
set_option maxHeartbeats 4000000 in
theorem keysM2_ca {w : World} {n0 ab wb : Nat} {cb : List Nat} {Wn : WF} (h : MgAt w n0 ab wb cb Wn) (k : Nat) (hk1 : 1 ≤ k) (hk5 : k ≤ 5) :
    Ca Tryz.prog 28 #[.pointer (some ⟨ab, 0, none⟩), .int .i64 (k : Int)] w fun v w' => w'.ownsRow w.heap.size 9 1 v (keysL Wn k).length (SL (keysL Wn k)) ∧ Keeps NoB w w' := by
  refine ca_of_body (args := [.pointer (some ⟨ab, 0, none⟩), .int .i64 (k : Int)]) Tryz.func28 rfl (by kernel_rfl) ?_
  obtain ⟨b, hb⟩ : ∃ b, cb[k]? = some b := ⟨cb[k]'(by rw [h.len]; omega), by simp [h.len, show k < 6 by omega]⟩
  have hcellb : (GMg wb cb).toArray[0 + 1 + k * 1]? = some (.map (some b)) := by rw [Nat.zero_add, Nat.mul_one]; exact GMg_get hb
  obtain ⟨U, hU⟩ : ∃ U, U = unionK Wn k := ⟨_, rfl⟩
  have hUl := unionK_len h.small k
  have hUf := unionK_fine Wn k
  rw [← hU] at hUl hUf
  (repeat first | (apply wr_move; exact rfl; with_reducible (conv => enter [6, 3]; whnf)) | (apply wr_assign; exact rfl; with_reducible (conv => enter [6, 3]; whnf)) | apply wr_end | apply wc_seq | apply wc_region)
  refine wr_call (vs := [.pointer (some ⟨ab, 0, none⟩), .int .i64 (k : Int)]) rfl (unionM_ca h k hk1 hk5) rfl ?_
  rintro v w1 ⟨hu, hk01⟩
  rw [← hU] at hu
  refine wr_call (vs := [v]) rfl (list_ca U v w1 hu.toR (by omega)) rfl ?_
  rintro lv w2 ⟨hlv, hk12⟩
  obtain ⟨la, lc, rfl, _, hat⟩ := slr_strs hlv
  have hk02 := hk01.trans hk12
  have hll := listP_le U
  have hkl : keysL Wn k = (listP U).map (keyT Wn k) := by unfold keysL; rw [← hU]
  rw [hkl]
  (repeat first | (apply wr_move; exact rfl; with_reducible (conv => enter [6, 3]; whnf)) | apply wr_end | apply wc_block | (apply wr_len_slice; iterate 2 exact rfl))
  refine wc_loopL (α := Nat × Value) (fun p => [(0, .pointer (some ⟨ab, 0, none⟩)), (1, .int .i64 (k : Int)), (5, p.2), (11, .slice la (listP U).length lc), (12, .int .i64 ((listP U).length : Int)), (13, .int .i64 (p.1 : Int))])
    (fun p ds w' => ds = [] ∧ p.1 ≤ (listP U).length ∧ w'.ownsRow w2.heap.size 9 1 p.2 p.1 (SL (((listP U).take p.1).map (keyT Wn k))) ∧ Keeps NoB w2 w') (fun p => (listP U).length - p.1) (0, nilV)
    ⟨rfl, Nat.zero_le _, own_nilV _ _ _ _, Keeps.refl _ _⟩ ⟨rfl, rfl, rfl, rfl, rfl, rfl, trivial⟩ ?_
  rintro ⟨i, ov⟩ ds f0 w3 ⟨rfl, hi, ho3, hk23⟩
  dsimp only at hi ho3 ⊢
  have hk03 := hk02.trans hk23
  by_cases hlt : i < (listP U).length
  rotate_left
  · have hie : i = (listP U).length := by omega
    subst hie
    rw [List.take_length] at ho3
    have hml : ((listP U).map (keyT Wn k)).length = (listP U).length := List.length_map _
    rw [hml]
    (repeat first | (apply wr_move; exact rfl; with_reducible (conv => enter [6, 3]; whnf)) | (apply wr_assign; exact rfl; with_reducible (conv => enter [6, 3]; whnf)) | apply wr_end | apply wc_seq | apply wc_region | (apply wr_cmp; (iterate 3 exact rfl); exact cmpF (by dsimp only [cmpN]; first | done | omega)) | (apply wc_false; exact rfl) | (apply wc_exit; try simp only [thenE, inBlockE, bodyQ, ↓reduceIte, Nat.reduceEqDiff]) | (apply wc_ret; try simp only [thenE, inBlockE, bodyQ]))
    exact leave1 (v := ov) rfl rfl ⟨own_down ho3 hk02.size, hk03⟩
  obtain ⟨b0, o0, rfl, cur, ee, fr, hb0, hr⟩ := hat (by omega)
  obtain ⟨x, hx⟩ : ∃ x, (listP U)[i]? = some x := ⟨(listP U)[i], by simp [hlt]⟩
  have hb3 := hk23.heap hb0 (fun h => h)
  have hc3 := hk03.heap h.cells (fun h => h)
  have hxl := listP_ok hUf x (List.mem_of_getElem? hx)
  have hxl2 : x.length ≤ 64 := by
    rcases (mem_listP U x).1 (List.mem_of_getElem? hx) with ⟨_, rfl⟩ | h1
    · decide
    · exact nameOk_le (hUf.2 x h1)
  obtain ⟨C, hC, hCg⟩ := (h.cnt k b hb).keep hk03 (fun h => h)
  have hcb := cntW_bound Wn k x
  obtain ⟨m, hm⟩ : ∃ m : Nat, m = (cntW Wn k x).toNat := ⟨_, rfl⟩
  have hmx : cntW Wn k x = (m : Int) := by omega
  have hm33 : m < 100 := by omega
  have hdl := dec_len hm33
  (repeat first | apply wr_end | apply wc_seq | apply wc_region | apply wc_skip | apply wc_block | (apply wr_cmp; (iterate 3 exact rfl); exact cmpT (by dsimp only [cmpP]; first | done | omega)) | (apply wc_true; exact rfl))
  refine wr_indexAddr (i := i) rfl rfl rfl hlt ?_
  refine wr_load (v := S x) rfl rfl rfl hb3 (hr i x hx) ?_
  (repeat first | (apply wr_move; exact rfl; with_reducible (conv => enter [6, 3]; whnf)) | (apply wr_assign; exact rfl; with_reducible (conv => enter [6, 3]; whnf)) | apply wr_end | apply wc_region)
  refine wr_cat (a := x) (b := [32]) rfl rfl rfl (by simp only [List.length_cons, List.length_nil]; omega) ?_
  (repeat first | (apply wr_move; exact rfl; with_reducible (conv => enter [6, 3]; whnf)) | (apply wr_fieldAddr; iterate 2 exact rfl) | (apply wr_nilCheck; iterate 2 exact rfl))
  refine wr_indexArr (i := k) rfl rfl rfl (by omega) ?_
  refine wr_load (v := .map (some b)) rfl rfl rfl hc3 hcellb ?_
  (repeat first | (apply wr_move; exact rfl; with_reducible (conv => enter [6, 3]; whnf)))
  refine wr_lookup (l := C) (a := x) rfl rfl hC rfl ?_
  rw [CntAt.get (w := w3) (b := b) hCg x, hmx]
  refine wr_call (vs := [.int .i64 (m : Int)]) rfl (itoa_ca m hm33 w3) rfl ?_
  rintro v w4 ⟨rfl, e⟩
  rw [e]
  clear e
  refine wr_cat (a := x ++ [32]) (b := Lib.decDigits m) rfl rfl rfl (by simp only [List.length_append, List.length_cons, List.length_nil]; omega) ?_
  refine wr_buildSlice (vs := [S (x ++ [32] ++ Lib.decDigits m)]) rfl rfl (by intro v hv; simp at hv; subst hv; rfl) rfl (by decide) (by decide) (by decide) ?_
  have hk4 : Keeps NoB w3 (w3.alloc (.cells (List.flatMap (fun v : Value => v.cells.toList) [S (x ++ [32] ++ Lib.decDigits m)]).toArray 9)) := (Keeps.refl _ _).alloc _
  have ho4 := own_keep ho3 hk4 (fun _ _ h => h)
  refine wr_append (base := w2.heap.size) (v := ov) (n := i) (m := 1) (news := [S (x ++ [32] ++ Lib.decDigits m)]) rfl rfl ho4 rfl (heap_alloc_same _ _) rfl (by intro u hu; simp at hu; subst hu; rfl) rfl (by decide) (by omega) (by omega) (Nat.le_trans hk23.size hk4.size) ?_
  intro v5 w5 ho5 hk5 _
  have hk25 : Keeps NoB w2 w5 := (hk23.trans hk4).trans' hk5 (fun q hq e => by have := V.F.own_geF ho4 e; omega)
  (repeat first | (apply wr_move; exact rfl; with_reducible (conv => enter [6, 3]; whnf)) | (apply wr_assign; exact rfl; with_reducible (conv => enter [6, 3]; whnf)) | apply wr_end | apply wc_region | (apply wr_add; (iterate 3 exact rfl); exact w_fit (by dsimp only [kIn]; first | done | omega)) | (apply wr_nil; try simp only [thenE, inBlockE, bodyQ]))
  refine ⟨(i + 1, v5), by dsimp only; omega, ⟨by trivial, hlt, ?_, hk25⟩, rfl, rfl, rfl, rfl, rfl, rfl, trivial⟩
  dsimp only
  rw [List.take_add_one, hx]
  simp only [Option.toList_some, List.map_append, List.map_cons, List.map_nil, SL]
  have hkt : keyT Wn k x = x ++ [32] ++ Lib.decDigits m := by unfold keyT; rw [← hm]
  rw [hkt]
  exact ho5
set_option maxRecDepth 100000 in
set_option maxHeartbeats 2000000 in
theorem unionZ_ca {w : World} {ab : Nat} {kk : Int} (hk : ¬ (1 ≤ kk ∧ kk ≤ 5)) :
    Ca Tryz.prog 18 #[.pointer (some ⟨ab, 0, none⟩), .int .i64 kk] w fun v w' => v = SetV false nilV ∧ Keeps NoB w w' := by
  refine ca_of_body (args := [.pointer (some ⟨ab, 0, none⟩), .int .i64 kk]) Tryz.func18 rfl (by kernel_rfl) ?_
  apply wc_seq
  apply wc_region
  apply wr_alloc
  focus exact rfl
  refine wr_name ?_
  intro w1 hww1
  obtain ⟨bw1, hbw1⟩ : ∃ b, b = (w).heap.size := ⟨_, rfl⟩
  have hkw1 : Keeps NoB w w1 := by rw [hww1]; exact (Keeps.refl NoB w).alloc _
  have hcw1 : (w1).heap[bw1]? = some (.cells ([.bool false, nilV]).toArray 41 (0, 0)) := by rw [hww1, hbw1]; exact heap_alloc_same _ _
  rw [← hbw1]
  clear hww1
  by_cases h1 : 1 ≤ kk
  · have h5 : ¬ kk ≤ 5 := fun h => hk ⟨h1, h⟩
    (repeat first | (apply wr_move; exact rfl; with_reducible (conv => enter [6, 3]; whnf)) | apply wr_end | apply wc_seq | apply wc_region | (apply wr_cmp; (iterate 3 exact rfl); exact cmpT (by dsimp only [cmpP]; first | done | omega)) | (apply wr_cmp; (iterate 3 exact rfl); exact cmpF (by dsimp only [cmpN]; first | done | omega)) | (apply wr_pick (t := false); (iterate 2 exact rfl); with_reducible (conv => enter [6, 3]; whnf)) | (apply wc_true; exact rfl))
    refine wr_build (ps := []) (cs := [.bool false, nilV]) rfl rfl rfl rfl ?_
    refine wr_storeAll (cs := [.bool false, nilV]) rfl rfl rfl zset_one hcw1 rfl rfl ?_
    (repeat first | apply wr_end | (apply wc_ret; try simp only [thenE, inBlockE, bodyQ]))
    exact leaveN (vs := [SetV false nilV]) (resv_cells (cs := [.bool false, nilV]) (e := 41) (fr := (0, 0)) rfl rfl (World.putObj_heap_same (lt_of_heap hcw1)) rfl resv_nil) ⟨rfl, hkw1.trans' ((Keeps.refl (· = bw1) w1).put _ (fun _ => rfl)) (fun i hi e => by omega)⟩
  · (repeat first | (apply wr_move; exact rfl; with_reducible (conv => enter [6, 3]; whnf)) | apply wr_end | apply wc_seq | apply wc_region | (apply wr_cmp; (iterate 3 exact rfl); exact cmpT (by dsimp only [cmpP]; first | done | omega)) | (apply wr_pick (t := true); (iterate 2 exact rfl); with_reducible (conv => enter [6, 3]; whnf)) | (apply wc_true; exact rfl) | (apply wr_skip; exact rfl))
    refine wr_build (ps := []) (cs := [.bool false, nilV]) rfl rfl rfl rfl ?_
    refine wr_storeAll (cs := [.bool false, nilV]) rfl rfl rfl zset_one hcw1 rfl rfl ?_
    (repeat first | apply wr_end | (apply wc_ret; try simp only [thenE, inBlockE, bodyQ]))
    exact leaveN (vs := [SetV false nilV]) (resv_cells (cs := [.bool false, nilV]) (e := 41) (fr := (0, 0)) rfl rfl (World.putObj_heap_same (lt_of_heap hcw1)) rfl resv_nil) ⟨rfl, hkw1.trans' ((Keeps.refl (· = bw1) w1).put _ (fun _ => rfl)) (fun i hi e => by omega)⟩
theorem zset_R (w : World) : SetR w noneP (SetV false nilV) := ⟨nilV, rfl, slr_none w⟩
set_option maxRecDepth 100000 in
set_option maxHeartbeats 2000000 in
theorem keysZ_ca {w : World} {ab : Nat} {kk : Int} (hk : ¬ (1 ≤ kk ∧ kk ≤ 5)) :
    Ca Tryz.prog 28 #[.pointer (some ⟨ab, 0, none⟩), .int .i64 kk] w fun v w' => v = nilV ∧ Keeps NoB w w' := by
  refine ca_of_body (args := [.pointer (some ⟨ab, 0, none⟩), .int .i64 kk]) Tryz.func28 rfl (by kernel_rfl) ?_
  (repeat first | (apply wr_move; exact rfl; with_reducible (conv => enter [6, 3]; whnf)) | (apply wr_assign; exact rfl; with_reducible (conv => enter [6, 3]; whnf)) | apply wr_end | apply wc_seq | apply wc_region)
  refine wr_call (vs := [.pointer (some ⟨ab, 0, none⟩), .int .i64 kk]) rfl (unionZ_ca hk) rfl ?_
  rintro v w1 ⟨rfl, hk01⟩
  refine wr_call (vs := [SetV false nilV]) rfl (list_ca noneP _ w1 (zset_R w1) (by decide)) rfl ?_
  rintro lv w2 ⟨hlv, hk12⟩
  obtain ⟨la, lc, rfl, _, _⟩ := slr_strs hlv
  rw [show (listP noneP).length = 0 from rfl]
  (repeat first | (apply wr_move; exact rfl; with_reducible (conv => enter [6, 3]; whnf)) | apply wr_end | apply wc_block | (apply wr_len_slice; iterate 2 exact rfl))
  refine wc_loopL (α := Unit) (fun _ => [(5, nilV), (12, .int .i64 0), (13, .int .i64 0)]) (fun _ ds w' => ds = [] ∧ w' = w2) (fun _ => 0) () ⟨rfl, rfl⟩ ⟨rfl, rfl, rfl, trivial⟩ ?_
  rintro _ ds f0 w3 ⟨rfl, e⟩
  rw [e]
  clear e
  (repeat first | (apply wr_move; exact rfl; with_reducible (conv => enter [6, 3]; whnf)) | (apply wr_assign; exact rfl; with_reducible (conv => enter [6, 3]; whnf)) | apply wr_end | apply wc_seq | apply wc_region | (apply wr_cmp; (iterate 3 exact rfl); exact cmpF (by dsimp only [cmpN]; first | done | omega)) | (apply wc_false; exact rfl) | (apply wc_exit; try simp only [thenE, inBlockE, bodyQ, ↓reduceIte, Nat.reduceEqDiff]) | (apply wc_ret; try simp only [thenE, inBlockE, bodyQ]))
  exact leave1 (v := nilV) rfl rfl ⟨rfl, hk01.trans hk12⟩
set_option maxRecDepth 100000 in
set_option maxHeartbeats 4000000 in
theorem dropZ_ca {w : World} {n0 ab wb : Nat} {cb : List Nat} {Wn : WF} (h : MgAt w n0 ab wb cb Wn) (id : Int) (hid : ∀ kk, Wn (id, kk) = noneP) :
    Ca Tryz.prog 11 #[.pointer (some ⟨ab, 0, none⟩), .int .i64 id] w fun v w' => v = .int .i64 5 ∧ Keeps NoB w w' := by
  refine ca_of_body (args := [.pointer (some ⟨ab, 0, none⟩), .int .i64 id]) Tryz.func11 rfl (by kernel_rfl) ?_
  obtain ⟨M, hM, hMW⟩ := h.want
  have hMn := map_nodup hM
  have hc1 := h.cells
  (repeat first | (apply wr_move; exact rfl; with_reducible (conv => enter [6, 3]; whnf)) | (apply wr_assign; exact rfl; with_reducible (conv => enter [6, 3]; whnf)) | apply wr_end | apply wc_seq | apply wc_region | (apply wr_fieldAddr; iterate 2 exact rfl) | (apply wr_nilCheck; iterate 2 exact rfl) | (apply wr_load; (iterate 3 exact rfl); (focus repeat first | with_reducible assumption | exact heap_alloc_same _ _ | exact World.putObj_heap_same (by first | omega | (simp only [World.size_alloc, World.putObj_size, ne_eq]; omega)) | ((first | refine hAl ?_ ?_ | refine hPu ?_ ?_); focus first | omega | (simp only [World.size_alloc, World.putObj_size, ne_eq]; omega))); exact rfl; conv => enter [6, 3]; whnf))
  refine wr_rangeM rfl rfl hM ?_
  intro w2 hI2 hk2
  obtain ⟨r, hr⟩ : ∃ b, b = w.heap.size := ⟨_, rfl⟩
  rw [← hr] at hI2 ⊢
  (repeat first | apply wr_end | apply wc_block)
  refine wc_loopL (α := List Nat) (fun _ => [(1, .int .i64 id), (5, .int .i64 5), (11, .pointer (some ⟨r, 0, none⟩))])
    (fun idx ds w' => ds = [] ∧ IterAt w' encT r wb M idx ∧ Keeps NoB w w') (fun idx => M.length - idx.length) []
    ⟨rfl, hI2, hk2⟩ ⟨rfl, rfl, rfl, trivial⟩ ?_
  rintro idx ds f0 w3 ⟨rfl, hI3, hk3⟩
  have hidx := iter_idx hI3
  (repeat first | apply wc_seq | apply wc_region)
  refine wr_nextM rfl rfl hI3 ?_ ?_
  · intro w4 hall hk4
    (repeat first | (apply wr_move; exact rfl; with_reducible (conv => enter [6, 3]; whnf)) | (apply wr_assign; exact rfl; with_reducible (conv => enter [6, 3]; whnf)) | apply wr_end | apply wc_seq | apply wc_region | (apply wr_extract; (iterate 3 exact rfl); with_reducible (conv => enter [6, 3]; whnf)) | (apply wc_false; exact rfl) | (apply wc_exit; try simp only [thenE, inBlockE, bodyQ, ↓reduceIte, Nat.reduceEqDiff]) | (apply wc_ret; try simp only [thenE, inBlockE, bodyQ]))
    exact leave1 (v := .int .i64 5) rfl rfl ⟨rfl, hk3.trans hk4⟩
  · intro w4 i p hni hp hI4 hE4 hk4
    have hidx4 := iter_idx hI4
    rw [List.length_append, List.length_singleton] at hidx4
    have hk14 : Keeps NoB w w4 := hk3.trans' hk4 (fun i hi e => by omega)
    have hgp := getM_at hMn hp
    have hgw := hMW p.1
    unfold WantV at hgw
    by_cases hno : Wn p.1 = noneP
    · rw [if_pos hno, hgp] at hgw; cases hgw
    obtain ⟨⟨pa, pb⟩, pval⟩ := p
    have hne : pa ≠ id := fun e => hno (by dsimp only; rw [e]; exact hid pb)
    (repeat first | apply wr_end | apply wc_seq | apply wc_region | apply wc_skip | apply wc_block | (apply wr_extract; (iterate 3 exact rfl); with_reducible (conv => enter [6, 3]; whnf)) | (apply wc_true; exact rfl))
    refine wr_entryM rfl rfl hE4 ?_
    (repeat first | (apply wr_alloc; exact rfl) | (apply wr_extract; (iterate 3 exact rfl); with_reducible (conv => enter [6, 3]; whnf)))
    refine wr_storeAll (cs := [.int .i64 pa, .int .i64 pb]) rfl rfl rfl (by intro u hu; simp at hu; rcases hu with rfl | rfl <;> rfl) (heap_alloc_same _ _) rfl rfl ?_
    refine wr_name ?_
    intro w5 hww5
    obtain ⟨bw5, hbw5⟩ : ∃ b, b = (w4).heap.size := ⟨_, rfl⟩
    have hkw5 : Keeps NoB w4 w5 := by rw [hww5]; exact ((Keeps.refl NoB w4).alloc _).put _ (fun h => by omega)
    have hcw5 : (w5).heap[bw5]? = some (.cells ([.int .i64 pa, .int .i64 pb]).toArray 78 (0, 0)) := by rw [hww5, hbw5]; exact World.putObj_heap_same (by simp)
    rw [← hbw5]
    clear hww5
    have hI5 := hI4.keep hkw5 (fun h => h) (fun h => h)
    (repeat first | (apply wr_move; exact rfl; with_reducible (conv => enter [6, 3]; whnf)) | apply wr_end | apply wc_seq | apply wc_region | apply wc_skip | (apply wr_fieldAddr; iterate 2 exact rfl) | (apply wr_load; (iterate 3 exact rfl); (focus repeat first | with_reducible assumption | exact heap_alloc_same _ _ | exact World.putObj_heap_same (by first | omega | (simp only [World.size_alloc, World.putObj_size, ne_eq]; omega)) | ((first | refine hAl ?_ ?_ | refine hPu ?_ ?_); focus first | omega | (simp only [World.size_alloc, World.putObj_size, ne_eq]; omega))); exact rfl; conv => enter [6, 3]; whnf) | (apply wr_cmp; (iterate 3 exact rfl); exact cmpF (by dsimp only [cmpN]; first | done | omega)) | (apply wc_false; exact rfl))
    exact ⟨idx ++ [i], by rw [List.length_append, List.length_singleton]; omega, ⟨by trivial, hI5, hk14.trans hkw5⟩, rfl, rfl, rfl, trivial⟩
end Go.Proofs.YtajajahofkialaaGreatDoor
