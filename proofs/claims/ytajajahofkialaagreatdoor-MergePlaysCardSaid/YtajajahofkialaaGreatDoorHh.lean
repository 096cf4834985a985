/- merge: Set, Want, Lean, New. -/
import Derived.Test.YtajajahofkialaaGreatDoorHg
namespace Go.Proofs.YtajajahofkialaaGreatDoor
open Go Go.V Go.RowKit
set_option linter.unusedVariables false
set_option linter.unusedSimpArgs false

abbrev zL : List Value := [.bool false, nilV]
set_option maxRecDepth 100000 in
set_option maxHeartbeats 8000000 in
theorem set_no {w : World} {ab : Nat} {p q : Addr} (hg : GloM w p q) (t : TY) (ht : ¬ inDom t) {s : PS} {sv : Value} (hs : SetR w s sv) :
    Ca Tryz.prog 41 #[.pointer (some ⟨ab, 0, none⟩), encT t, sv] w fun v w' => v = .tuple #[SetV false nilV, SetV false nilV, At t (Er q)] ∧ Keeps NoB w w' := by
  obtain ⟨nv, rfl, hnv⟩ := hs
  obtain ⟨id, k⟩ := t
  obtain ⟨na, nc, hne, _⟩ := slr_strs hnv
  have hn1 : nv.oneCell' = true := by rw [hne]; rfl
  refine ca_of_body (args := [.pointer (some ⟨ab, 0, none⟩), encT (id, k), SetV s.1 nv]) Tryz.func41 rfl (by kernel_rfl) ?_
  apply wc_seq
  apply wc_region
  refine wr_box (v := encT (id, k)) rfl rfl ?_
  refine wr_name ?_
  intro w1 hww1
  obtain ⟨bw1, hbw1⟩ : ∃ b, b = (w).heap.size := ⟨_, rfl⟩
  have hkw1 : Keeps NoB w w1 := by rw [hww1]; exact (Keeps.refl NoB w).alloc _
  have hcw1 : (w1).heap[bw1]? = some (.cells ([.int .i64 id, .int .i64 k]).toArray 78 (0, 0)) := by rw [hww1, hbw1]; exact heap_alloc_same _ _
  rw [← hbw1]
  clear hww1
  refine wr_box (v := SetV s.1 nv) rfl rfl ?_
  refine wr_name ?_
  intro w2 hww2
  obtain ⟨bw2, hbw2⟩ : ∃ b, b = (w1).heap.size := ⟨_, rfl⟩
  have hkw2 : Keeps NoB w1 w2 := by rw [hww2]; exact (Keeps.refl NoB w1).alloc _
  have hcw2 : (w2).heap[bw2]? = some (.cells ([.bool s.1, nv]).toArray 41 (0, 0)) := by rw [hww2, hbw2]; exact heap_alloc_same _ _
  rw [← hbw2]
  clear hww2
  apply wr_alloc
  focus exact rfl
  refine wr_name ?_
  intro w3 hww3
  obtain ⟨bw3, hbw3⟩ : ∃ b, b = (w2).heap.size := ⟨_, rfl⟩
  have hkw3 : Keeps NoB w2 w3 := by rw [hww3]; exact (Keeps.refl NoB w2).alloc _
  have hcw3 : (w3).heap[bw3]? = some (.cells ([.bool false, nilV]).toArray 41 (0, 0)) := by rw [hww3, hbw3]; exact heap_alloc_same _ _
  rw [← hbw3]
  clear hww3
  apply wr_alloc
  focus exact rfl
  refine wr_name ?_
  intro w4 hww4
  obtain ⟨bw4, hbw4⟩ : ∃ b, b = (w3).heap.size := ⟨_, rfl⟩
  have hkw4 : Keeps NoB w3 w4 := by rw [hww4]; exact (Keeps.refl NoB w3).alloc _
  have hcw4 : (w4).heap[bw4]? = some (.cells ([.bool false, nilV]).toArray 41 (0, 0)) := by rw [hww4, hbw4]; exact heap_alloc_same _ _
  rw [← hbw4]
  clear hww4
  have hk24 := hkw3.trans hkw4
  have hk14 := hkw2.trans hk24
  have hk04 := hkw1.trans hk14
  have hg4 := hg.keep hk04
  have hc14 := hk14.heap hcw1 (fun h => h)
  have hc34 := hkw4.heap hcw3 (fun h => h)
  have hl1 := lt_of_heap hcw1
  have hl2 := lt_of_heap hcw2
  have hl3 := lt_of_heap hcw3
  have hl4 := lt_of_heap hcw4
  (repeat first | (apply wr_assign; exact rfl; with_reducible (conv => enter [6, 3]; whnf)) | apply wr_end | apply wc_seq | apply wc_region)
  refine wr_loadAll (cs := [.int .i64 id, .int .i64 k]) rfl rfl rfl hc14 rfl ?_
  refine wr_call (vs := [encT (id, k)]) rfl (right_ca (id, k) hg4) rfl ?_
  rintro v w5 ⟨rfl, hk5⟩
  rw [if_neg ht]
  have hc35 := hk5.heap hc34 (fun h => h)
  have hc45 := hk5.heap hcw4 (fun h => h)
  (repeat first | (apply wr_move; exact rfl; with_reducible (conv => enter [6, 3]; whnf)) | (apply wr_assign; exact rfl; with_reducible (conv => enter [6, 3]; whnf)) | apply wr_end | apply wc_seq | apply wc_region | (apply wr_nenil_t; iterate 2 exact rfl) | (apply wc_true; exact rfl))
  refine V.L.wc_drawL (l := _) (V.L.duo w5.drew 3 4 bw3 bw4 zO zO zO zO) (by kernel_rfl) (by kernel_rfl) ⟨Keeps.refl _ _, (show w5.drew.heap[bw3]? = some zO from hc35), (show w5.drew.heap[bw4]? = some zO from hc45)⟩ ?_
  apply V.L.ch_step
  focus
    apply duoS_read rfl rfl
    intro w hk hb1 hb2
    refine wr_loadAll (cs := [.bool false, nilV]) rfl rfl rfl hb1 rfl ?_
    apply wr_nil
    exact ⟨rfl, Keeps.refl _ _⟩
  apply V.L.ch_step
  focus
    apply duoS_read rfl rfl
    intro w hk hb1 hb2
    refine wr_loadAll (cs := [.bool false, nilV]) rfl rfl rfl hb2 rfl ?_
    apply wr_nil
    exact ⟨rfl, Keeps.refl _ _⟩
  apply V.L.ch_step
  focus
    apply duoS_read rfl rfl
    intro w hk hb1 hb2
    apply wr_move; exact rfl; with_reducible (conv => enter [6, 3]; whnf)
    apply wr_nil
    exact ⟨rfl, Keeps.refl _ _⟩
  apply V.L.ch_step
  focus
    apply V.L.duo_st1 (by omega) rfl
    intro w hk hb
    refine wr_storeAll (cs := [.bool false, nilV]) rfl rfl rfl (zset_one) hb rfl rfl ?_
    apply wr_nil
    exact ⟨rfl, rfl⟩
  apply V.L.ch_step
  focus
    apply V.L.duo_st2 (by omega) rfl
    intro w hk hb
    refine wr_storeAll (cs := [.bool false, nilV]) rfl rfl rfl (zset_one) hb rfl rfl ?_
    apply wr_nil
    exact ⟨rfl, rfl⟩
  apply V.L.ch_step
  focus
    apply duoS_read rfl rfl
    intro w hk hb1 hb2
    apply wr_assign; exact rfl; with_reducible (conv => enter [6, 3]; whnf)
    apply wr_nil
    exact ⟨rfl, Keeps.refl _ _⟩
  refine V.L.ch_nil ?_
  intro w14 hS
  obtain ⟨hk14', hc314, hc414⟩ := V.L.duo_end hS (by kernel_rfl) (by kernel_rfl)
  have hk514 : Keeps (fun q => q = bw3 ∨ q = bw4) w5 w14 := (Keeps.refl NoB w5).drew.upD.trans hk14'
  (repeat first | (apply wc_ret; try simp only [thenE, inBlockE, bodyQ]))
  exact leaveN (vs := [SetV false nilV, SetV false nilV, At (id, k) (Er q)]) (resv_cells (cs := [.bool false, nilV]) (e := 41) (fr := (0, 0)) rfl rfl hc314 rfl (resv_cells (cs := [.bool false, nilV]) (e := 41) (fr := (0, 0)) rfl rfl hc414 rfl (resv_tmp rfl resv_nil))) ⟨rfl, (hk04.trans hk5).trans' hk514 (fun i hi e => by have := hkw1.size; have := hkw2.size; have := hkw3.size; omega)⟩
/-- What Set tells, and leaves. -/
def SetMOut (w' : World) (ab wb : Nat) (cb : List Nat) (Wn : WF) (t : TY) (s : PS) (v : Value) : Prop :=
  (∃ k : Nat, (k : Int) = t.2 ∧ inDom t ∧ fitsS Wn t k s = true ∧ MgAt w' 0 ab wb cb (updW Wn t s) ∧ ∃ mv lv, v = .tuple #[mv, lv, .int .i64 0] ∧ SetR w' (lessP (unionK (updW Wn t s) k) (unionK Wn k)) mv ∧ SetR w' (lessP (unionK Wn k) (unionK (updW Wn t s) k)) lv) ∨
  (∃ k : Nat, (k : Int) = t.2 ∧ inDom t ∧ fitsS Wn t k s = false ∧ MgAt w' 0 ab wb cb Wn ∧ v = .tuple #[SetV false nilV, SetV false nilV, .int .i64 4]) ∨
  (¬ inDom t ∧ MgAt w' 0 ab wb cb Wn ∧ v = .tuple #[SetV false nilV, SetV false nilV, .int .i64 1])
/- The end: $1 the code, $2 $3 the two sets' cells, $4 $5 they are of one cell each. -/
set_option maxRecDepth 100000 in
set_option maxHeartbeats 16000000 in
theorem setM_ca {w : World} {ab wb : Nat} {cb : List Nat} {Wn : WF} (h : MgAt w 0 ab wb cb Wn) {p q : Addr} (hg : GloM w p q) (t : TY) {s : PS} {sv : Value} (hs : SetR w s sv) (hsf : Fine s) (hsl : s.2.length ≤ 90000) :
    Ca Tryz.prog 13 #[.pointer (some ⟨ab, 0, none⟩), .int .i64 t.1, .int .i64 t.2, sv] w fun v w' => SetMOut w' ab wb cb Wn t s v ∧ Keeps (mD wb cb) w w' := by
  obtain ⟨nv, rfl, hnv⟩ := hs
  obtain ⟨id, kk⟩ := t
  obtain ⟨na, nc, hne, _⟩ := slr_strs hnv
  have hn1 : nv.oneCell' = true := by rw [hne]; rfl
  refine ca_of_body (args := [.pointer (some ⟨ab, 0, none⟩), .int .i64 id, .int .i64 kk, SetV s.1 nv]) Tryz.func13 rfl (by kernel_rfl) ?_
  apply wc_seq
  apply wc_region
  refine wr_box (v := SetV s.1 nv) rfl rfl ?_
  refine wr_name ?_
  intro w1 hww1
  obtain ⟨bw1, hbw1⟩ : ∃ b, b = (w).heap.size := ⟨_, rfl⟩
  have hkw1 : Keeps NoB w w1 := by rw [hww1]; exact (Keeps.refl NoB w).alloc _
  have hcw1 : (w1).heap[bw1]? = some (.cells ([.bool s.1, nv]).toArray 41 (0, 0)) := by rw [hww1, hbw1]; exact heap_alloc_same _ _
  rw [← hbw1]
  clear hww1
  apply wr_alloc
  focus exact rfl
  refine wr_name ?_
  intro w2 hww2
  obtain ⟨bw2, hbw2⟩ : ∃ b, b = (w1).heap.size := ⟨_, rfl⟩
  have hkw2 : Keeps NoB w1 w2 := by rw [hww2]; exact (Keeps.refl NoB w1).alloc _
  have hcw2 : (w2).heap[bw2]? = some (.cells ([.bool false, nilV]).toArray 41 (0, 0)) := by rw [hww2, hbw2]; exact heap_alloc_same _ _
  rw [← hbw2]
  clear hww2
  apply wr_alloc
  focus exact rfl
  refine wr_name ?_
  intro w3 hww3
  obtain ⟨bw3, hbw3⟩ : ∃ b, b = (w2).heap.size := ⟨_, rfl⟩
  have hkw3 : Keeps NoB w2 w3 := by rw [hww3]; exact (Keeps.refl NoB w2).alloc _
  have hcw3 : (w3).heap[bw3]? = some (.cells ([.bool false, nilV]).toArray 41 (0, 0)) := by rw [hww3, hbw3]; exact heap_alloc_same _ _
  rw [← hbw3]
  clear hww3
  have hk13 := hkw2.trans hkw3
  have hk03 := hkw1.trans hk13
  have hc13 := hk13.heap hcw1 (fun h => h)
  have hc23 := hkw3.heap hcw2 (fun h => h)
  have hl1 := lt_of_heap hcw1
  have hl2 := lt_of_heap hcw2
  have hl3 := lt_of_heap hcw3
  have hls := listP_le s
  (repeat first | (apply wr_move; exact rfl; with_reducible (conv => enter [6, 3]; whnf)) | (apply wr_assign; exact rfl; with_reducible (conv => enter [6, 3]; whnf)) | apply wr_end | apply wc_seq | apply wc_region)
  refine wr_build (ps := [(0, .int .i64 id), (1, .int .i64 kk)]) (cs := [.int .i64 id, .int .i64 kk]) rfl rfl rfl rfl ?_
  refine wr_loadAll (cs := [.bool s.1, nv]) rfl rfl rfl hc13 rfl ?_
  refine wr_call (vs := [SetV s.1 nv]) rfl (list_ca s _ w3 ⟨nv, rfl, hnv.keep hk03 (fun _ _ h => h)⟩ (by omega)) rfl ?_
  rintro lv w4 ⟨hlv, hk4⟩
  refine wr_call (vs := [lv]) rfl (ofO_ca (listP s) lv w4 hlv (by omega) (listP_ok hsf)) rfl ?_
  rintro sv w5 ⟨hsv, hk5⟩
  rw [ofP_listP hsf] at hsv
  have hk05 := (hk03.trans hk4).trans hk5
  have hk35 := hk4.trans hk5
  have h5 := h.keepN hk05
  have hg5 := hg.keep hk05
  have hc25 := hk35.heap hc23 (fun h => h)
  have hc35 := hk35.heap hcw3 (fun h => h)
  have hz1 := hkw1.size
  have hz2' := hkw2.size
  by_cases ht : inDom (id, kk)
  · obtain ⟨k, rfl⟩ := Int.eq_ofNat_of_zero_le (show 0 ≤ kk by have := ht.2.2.1; simp at this; omega)
    refine wr_call (vs := [.pointer (some ⟨ab, 0, none⟩), encT (id, (k : Int)), sv]) rfl (set_ca h5 hg5 id k ht (hsv.down (Nat.zero_le _)) hsf (by omega)) rfl ?_
    rintro v w6 ⟨hR, hk6⟩
    have hnc := mD_nc h5
    have hc26 := hk6.heap hc25 (fun e => hnc _ e _ _ _ hc25)
    have hc36 := hk6.heap hc35 (fun e => hnc _ e _ _ _ hc35)
    have hg6 := hg5.keepD hk6 hnc
    have hkm : Keeps (mD wb cb) w w6 := hk05.upD.trans hk6
    obtain ⟨⟨tp, rp, hgp⟩, ⟨tq, rq, hgq⟩, ⟨cp, ttp, hbp⟩, ⟨cq, ttq, hbq⟩, hpq⟩ := hg6
    have hgl : ∀ {b : Nat} {o : Obj}, w.heap[b]? = some o → b ≠ bw2 ∧ b ≠ bw3 := fun hb => by
      have := lt_of_heap hb
      omega
    have hgn : (1 ≠ bw2 ∧ 1 ≠ bw3) ∧ (0 ≠ bw2 ∧ 0 ≠ bw3) := by
      obtain ⟨⟨_, _, g1⟩, ⟨_, _, g2⟩, _⟩ := hg
      exact ⟨hgl g1, hgl g2⟩
    have hgb : (p.block ≠ bw2 ∧ p.block ≠ bw3) ∧ (q.block ≠ bw2 ∧ q.block ≠ bw3) := by
      obtain ⟨_, _, ⟨_, _, g1⟩, ⟨_, _, g2⟩, _⟩ := hg
      exact ⟨hgl g1, hgl g2⟩
    rcases hR with ⟨hfit, hMg, mv, lv, rfl, ⟨mn, rfl, hmr⟩, ⟨ln, rfl, hlr⟩⟩ | ⟨hfit, hMg, rfl⟩
    · obtain ⟨U1, hU1⟩ : ∃ U, U = lessP (unionK (updW Wn (id, (k : Int)) s) k) (unionK Wn k) := ⟨_, rfl⟩
      obtain ⟨U2, hU2⟩ : ∃ U, U = lessP (unionK Wn k) (unionK (updW Wn (id, (k : Int)) s) k) := ⟨_, rfl⟩
      rw [← hU1] at hmr
      rw [← hU2] at hlr
      rw [← hU1, ← hU2]
      have hR1 : SetR w6 U1 (SetV U1.1 mn) := ⟨mn, rfl, hmr⟩
      have hR2 : SetR w6 U2 (SetV U2.1 ln) := ⟨ln, rfl, hlr⟩
      have zne : ∀ (j : Nat) (t : TT), (#[.bool false, nilV] : Array Value)[j]? ≠ some (S t) := setCells_ne false nilV (fun t h => by cases h)
      have ho1 : ∀ u ∈ ([.bool U1.1, mn] : List Value), u.oneCell' = true := by intro u hu; simp at hu; rcases hu with rfl | rfl; rfl; exact hR1.one.1
      have ho2 : ∀ u ∈ ([.bool U2.1, ln] : List Value), u.oneCell' = true := by intro u hu; simp at hu; rcases hu with rfl | rfl; rfl; exact hR2.one.1
      (repeat first | (apply wr_move; exact rfl; with_reducible (conv => enter [6, 3]; whnf)) | (apply wr_extract; (iterate 3 exact rfl); with_reducible (conv => enter [6, 3]; whnf)))
      refine wr_storeAll (cs := [.bool U1.1, mn]) rfl rfl rfl (ho1) hc26 (rfl) (rfl) ?_
      refine wr_name ?_
      intro w7 hww7
      have hkw7 : Keeps (· = bw2) w6 w7 := by rw [hww7]; exact (Keeps.refl _ w6).put _ (fun _ => rfl)
      have hcw7 : (w7).heap[bw2]? = some (.cells ([.bool U1.1, mn]).toArray 41 (0, 0)) := by rw [hww7]; exact World.putObj_heap_same (lt_of_heap hc26)
      clear hww7
      have hc37 := hkw7.heap hc36 (fun e => by omega)
      refine wr_storeAll (cs := [.bool U2.1, ln]) rfl rfl rfl (ho2) hc37 (rfl) (rfl) ?_
      refine wr_name ?_
      intro wz hwwz
      have hkwz : Keeps (· = bw3) w7 wz := by rw [hwwz]; exact (Keeps.refl _ w7).put _ (fun _ => rfl)
      have hcwz : (wz).heap[bw3]? = some (.cells ([.bool U2.1, ln]).toArray 41 (0, 0)) := by rw [hwwz]; exact World.putObj_heap_same (lt_of_heap hc37)
      clear hwwz
      have hz2 := hkwz.heap hcw7 (fun e => by omega)
      have hz3 := hcwz
      have hR1z := (hR1.put hkw7 hc26 zne).put hkwz hc37 zne
      have hR2z := (hR2.put hkw7 hc26 zne).put hkwz hc37 zne
      have hMz := (hMg.keepC hkw7 hc26 (by decide) (by decide)).keepC hkwz hc37 (by decide) (by decide)
      have hgpz := hkwz.heap (hkw7.heap hgp hgn.1.1) hgn.1.2
      have hgqz := hkwz.heap (hkw7.heap hgq hgn.2.1) hgn.2.2
      have hkz : Keeps (mD wb cb) w wz := (hkm.trans' hkw7 (fun i hi e => by omega)).trans' hkwz (fun i hi e => by omega)
      (repeat first | (apply wr_move; exact rfl; with_reducible (conv => enter [6, 3]; whnf)) | (apply wr_assign; exact rfl; with_reducible (conv => enter [6, 3]; whnf)) | apply wr_end | apply wc_seq | apply wc_region | apply wc_block | (apply wr_load; (iterate 3 exact rfl); (focus repeat first | with_reducible assumption | exact heap_alloc_same _ _ | exact World.putObj_heap_same (by first | omega | (simp only [World.size_alloc, World.putObj_size, ne_eq]; omega)) | ((first | refine hAl ?_ ?_ | refine hPu ?_ ?_); focus first | omega | (simp only [World.size_alloc, World.putObj_size, ne_eq]; omega))); exact rfl; conv => enter [6, 3]; whnf))
      refine wr_call (vs := [.nilIface, Er q]) rfl (Is_nil q wz) rfl ?_
      rintro v w' ⟨rfl, e⟩
      rw [e]
      clear e
      (repeat first | (apply wr_move; exact rfl; with_reducible (conv => enter [6, 3]; whnf)) | (apply wr_assign; exact rfl; with_reducible (conv => enter [6, 3]; whnf)) | apply wr_end | apply wc_seq | apply wc_region | (apply wr_load; (iterate 3 exact rfl); (focus repeat first | with_reducible assumption | exact heap_alloc_same _ _ | exact World.putObj_heap_same (by first | omega | (simp only [World.size_alloc, World.putObj_size, ne_eq]; omega)) | ((first | refine hAl ?_ ?_ | refine hPu ?_ ?_); focus first | omega | (simp only [World.size_alloc, World.putObj_size, ne_eq]; omega))); exact rfl; conv => enter [6, 3]; whnf) | (apply wc_false; exact rfl))
      refine wr_call (vs := [.nilIface, Er p]) rfl (Is_nil p wz) rfl ?_
      rintro v w' ⟨rfl, e⟩
      rw [e]
      clear e
      (repeat first | (apply wr_assign; exact rfl; with_reducible (conv => enter [6, 3]; whnf)) | apply wr_end | apply wc_seq | apply wc_skip | (apply wc_false; exact rfl))
      refine V.L.wc_drawL (l := _) (V.L.duo wz.drew 2 3 bw2 bw3 (.cells (([.bool U1.1, mn] : List Value)).toArray 41 (0, 0)) (.cells (([.bool U2.1, ln] : List Value)).toArray 41 (0, 0)) (.cells (([.bool U1.1, mn] : List Value)).toArray 41 (0, 0)) (.cells (([.bool U2.1, ln] : List Value)).toArray 41 (0, 0))) (by kernel_rfl) (by kernel_rfl) ⟨Keeps.refl _ _, (show wz.drew.heap[bw2]? = _ from hz2), (show wz.drew.heap[bw3]? = _ from hz3)⟩ ?_
      apply V.L.ch_step
      focus
        apply duoS_read rfl rfl
        intro w hk hb1 hb2
        refine wr_loadAll (cs := [.bool U1.1, mn]) rfl rfl rfl hb1 rfl ?_
        apply wr_nil
        exact ⟨rfl, Keeps.refl _ _⟩
      apply V.L.ch_step
      focus
        apply duoS_read rfl rfl
        intro w hk hb1 hb2
        refine wr_loadAll (cs := [.bool U2.1, ln]) rfl rfl rfl hb2 rfl ?_
        apply wr_nil
        exact ⟨rfl, Keeps.refl _ _⟩
      apply V.L.ch_step
      focus
        apply V.L.duo_st1 (by omega) rfl
        intro w hk hb
        refine wr_storeAll (cs := [.bool U1.1, mn]) rfl rfl rfl (ho1) hb rfl rfl ?_
        apply wr_nil
        exact ⟨rfl, rfl⟩
      apply V.L.ch_step
      focus
        apply V.L.duo_st2 (by omega) rfl
        intro w hk hb
        refine wr_storeAll (cs := [.bool U2.1, ln]) rfl rfl rfl (ho2) hb rfl rfl ?_
        apply wr_nil
        exact ⟨rfl, rfl⟩
      apply V.L.ch_step
      focus
        apply duoS_read rfl rfl
        intro w hk hb1 hb2
        apply wr_assign; exact rfl; with_reducible (conv => enter [6, 3]; whnf)
        apply wr_nil
        exact ⟨rfl, Keeps.refl _ _⟩
      refine V.L.ch_nil ?_
      intro wy hS
      obtain ⟨hky', hy2, hy3⟩ := V.L.duo_end hS (by kernel_rfl) (by kernel_rfl)
      have hkzy : Keeps NoB wz wy := by
        have h1 : Keeps (fun q => q = bw2 ∨ q = bw3) wz wy := (Keeps.refl NoB wz).drew.upD.trans hky'
        exact ⟨h1.os, h1.tape, h1.output, h1.size, fun i hi _ => by
          by_cases e3 : i = bw2
          · subst e3; rw [hy2, hz2]
          · by_cases e4 : i = bw3
            · subst e4; rw [hy3, hz3]
            · exact h1.block i hi (fun e => e.elim e3 e4)⟩
      (repeat first | (apply wc_ret; try simp only [thenE, inBlockE, bodyQ]))
      refine leaveN (vs := [SetV U1.1 mn, SetV U2.1 ln, .int .i64 0]) (resv_cells (cs := [.bool U1.1, mn]) (e := 41) (fr := (0, 0)) rfl rfl hy2 rfl (resv_cells (cs := [.bool U2.1, ln]) (e := 41) (fr := (0, 0)) rfl rfl hy3 rfl (resv_tmp rfl resv_nil))) ⟨.inl ⟨k, rfl, ht, hfit, hMz.keepN hkzy, _, _, rfl, ?_, ?_⟩, hkz.trans hkzy.upD⟩
      · rw [← hU1]; exact hR1z.keep hkzy
      · rw [← hU2]; exact hR2z.keep hkzy
    · (repeat first | (apply wr_move; exact rfl; with_reducible (conv => enter [6, 3]; whnf)) | (apply wr_extract; (iterate 3 exact rfl); with_reducible (conv => enter [6, 3]; whnf)))
      refine wr_storeAll (cs := [.bool false, nilV]) rfl rfl rfl (zset_one) hc26 (rfl) (rfl) ?_
      refine wr_name ?_
      intro w7 hww7
      have hkw7 : Keeps (· = bw2) w6 w7 := by rw [hww7]; exact (Keeps.refl _ w6).put _ (fun _ => rfl)
      have hcw7 : (w7).heap[bw2]? = some (.cells ([.bool false, nilV]).toArray 41 (0, 0)) := by rw [hww7]; exact World.putObj_heap_same (lt_of_heap hc26)
      clear hww7
      have hc37 := hkw7.heap hc36 (fun e => by omega)
      refine wr_storeAll (cs := [.bool false, nilV]) rfl rfl rfl (zset_one) hc37 (rfl) (rfl) ?_
      refine wr_name ?_
      intro w8 hww8
      have hkw8 : Keeps (· = bw3) w7 w8 := by rw [hww8]; exact (Keeps.refl _ w7).put _ (fun _ => rfl)
      have hcw8 : (w8).heap[bw3]? = some (.cells ([.bool false, nilV]).toArray 41 (0, 0)) := by rw [hww8]; exact World.putObj_heap_same (lt_of_heap hc37)
      clear hww8
      have hz28 := hkw8.heap hcw7 (fun e => by omega)
      have hz38 := hcw8
      have hMz := (hMg.keepC hkw7 hc26 (by decide) (by decide)).keepC hkw8 hc37 (by decide) (by decide)
      have hgp8 := hkw8.heap (hkw7.heap hgp hgn.1.1) hgn.1.2
      have hgq8 := hkw8.heap (hkw7.heap hgq hgn.2.1) hgn.2.2
      have hbp8 := hkw8.heap (hkw7.heap hbp hgb.1.1) hgb.1.2
      have hbq8 := hkw8.heap (hkw7.heap hbq hgb.2.1) hgb.2.2
      have hk8 : Keeps (mD wb cb) w w8 := (hkm.trans' hkw7 (fun i hi e => by omega)).trans' hkw8 (fun i hi e => by omega)
      (repeat first | (apply wr_move; exact rfl; with_reducible (conv => enter [6, 3]; whnf)) | (apply wr_assign; exact rfl; with_reducible (conv => enter [6, 3]; whnf)) | apply wr_end | apply wc_seq | apply wc_region | apply wc_block | (apply wr_load; (iterate 3 exact rfl); (focus repeat first | with_reducible assumption | exact heap_alloc_same _ _ | exact World.putObj_heap_same (by first | omega | (simp only [World.size_alloc, World.putObj_size, ne_eq]; omega)) | ((first | refine hAl ?_ ?_ | refine hPu ?_ ?_); focus first | omega | (simp only [World.size_alloc, World.putObj_size, ne_eq]; omega))); exact rfl; conv => enter [6, 3]; whnf))
      refine wr_call (vs := [isArg true (id, (k : Int)) p, Er q]) rfl (Is_ca true (id, (k : Int)) p q hbp8 hbq8) rfl ?_
      rintro v w9 ⟨rfl, hk9⟩
      rw [decide_eq_false hpq]
      have hgp9 := hk9.heap hgp8 (fun h => h)
      have hbp9 := hk9.heap hbp8 (fun h => h)
      (repeat first | (apply wr_move; exact rfl; with_reducible (conv => enter [6, 3]; whnf)) | (apply wr_assign; exact rfl; with_reducible (conv => enter [6, 3]; whnf)) | apply wr_end | apply wc_seq | apply wc_region | (apply wr_load; (iterate 3 exact rfl); (focus repeat first | with_reducible assumption | exact heap_alloc_same _ _ | exact World.putObj_heap_same (by first | omega | (simp only [World.size_alloc, World.putObj_size, ne_eq]; omega)) | ((first | refine hAl ?_ ?_ | refine hPu ?_ ?_); focus first | omega | (simp only [World.size_alloc, World.putObj_size, ne_eq]; omega))); exact rfl; conv => enter [6, 3]; whnf) | (apply wc_false; exact rfl))
      refine wr_call (vs := [isArg true (id, (k : Int)) p, Er p]) rfl (Is_ca true (id, (k : Int)) p p hbp9 hbp9) rfl ?_
      rintro v wz ⟨rfl, hkz'⟩
      rw [decide_eq_true rfl]
      have hz2 := (hk9.trans hkz').heap hz28 (fun h => h)
      have hz3 := (hk9.trans hkz').heap hz38 (fun h => h)
      (repeat first | (apply wr_assign; exact rfl; with_reducible (conv => enter [6, 3]; whnf)) | apply wr_end | apply wc_seq | (apply wc_true; exact rfl))
      refine V.L.wc_drawL (l := _) (V.L.duo wz.drew 2 3 bw2 bw3 (.cells ((zL : List Value)).toArray 41 (0, 0)) (.cells ((zL : List Value)).toArray 41 (0, 0)) (.cells ((zL : List Value)).toArray 41 (0, 0)) (.cells ((zL : List Value)).toArray 41 (0, 0))) (by kernel_rfl) (by kernel_rfl) ⟨Keeps.refl _ _, (show wz.drew.heap[bw2]? = _ from hz2), (show wz.drew.heap[bw3]? = _ from hz3)⟩ ?_
      apply V.L.ch_step
      focus
        apply duoS_read rfl rfl
        intro w hk hb1 hb2
        refine wr_loadAll (cs := zL) rfl rfl rfl hb1 rfl ?_
        apply wr_nil
        exact ⟨rfl, Keeps.refl _ _⟩
      apply V.L.ch_step
      focus
        apply duoS_read rfl rfl
        intro w hk hb1 hb2
        refine wr_loadAll (cs := zL) rfl rfl rfl hb2 rfl ?_
        apply wr_nil
        exact ⟨rfl, Keeps.refl _ _⟩
      apply V.L.ch_step
      focus
        apply V.L.duo_st1 (by omega) rfl
        intro w hk hb
        refine wr_storeAll (cs := zL) rfl rfl rfl (zset_one) hb rfl rfl ?_
        apply wr_nil
        exact ⟨rfl, rfl⟩
      apply V.L.ch_step
      focus
        apply V.L.duo_st2 (by omega) rfl
        intro w hk hb
        refine wr_storeAll (cs := zL) rfl rfl rfl (zset_one) hb rfl rfl ?_
        apply wr_nil
        exact ⟨rfl, rfl⟩
      apply V.L.ch_step
      focus
        apply duoS_read rfl rfl
        intro w hk hb1 hb2
        apply wr_assign; exact rfl; with_reducible (conv => enter [6, 3]; whnf)
        apply wr_nil
        exact ⟨rfl, Keeps.refl _ _⟩
      refine V.L.ch_nil ?_
      intro wy hS
      obtain ⟨hky', hy2, hy3⟩ := V.L.duo_end hS (by kernel_rfl) (by kernel_rfl)
      have hkzy : Keeps NoB wz wy := by
        have h1 : Keeps (fun q => q = bw2 ∨ q = bw3) wz wy := (Keeps.refl NoB wz).drew.upD.trans hky'
        exact ⟨h1.os, h1.tape, h1.output, h1.size, fun i hi _ => by
          by_cases e3 : i = bw2
          · subst e3; rw [hy2, hz2]
          · by_cases e4 : i = bw3
            · subst e4; rw [hy3, hz3]
            · exact h1.block i hi (fun e => e.elim e3 e4)⟩
      (repeat first | (apply wc_ret; try simp only [thenE, inBlockE, bodyQ]))
      exact leaveN (vs := [SetV false nilV, SetV false nilV, .int .i64 4]) (resv_cells (cs := [.bool false, nilV]) (e := 41) (fr := (0, 0)) rfl rfl hy2 rfl (resv_cells (cs := [.bool false, nilV]) (e := 41) (fr := (0, 0)) rfl rfl hy3 rfl (resv_tmp rfl resv_nil))) ⟨.inr (.inl ⟨k, rfl, ht, hfit, ((hMz.keepN hk9).keepN hkz').keepN hkzy, rfl⟩), hk8.trans ((hk9.trans hkz').trans hkzy).upD⟩
  · refine wr_call (vs := [.pointer (some ⟨ab, 0, none⟩), encT (id, kk), sv]) rfl (set_no hg5 (id, kk) ht hsv.toR) rfl ?_
    rintro v w6 ⟨rfl, hk6⟩
    have hc26 := hk6.heap hc25 (fun h => h)
    have hc36 := hk6.heap hc35 (fun h => h)
    have hg6 := hg5.keep hk6
    have h6 := h5.keepN hk6
    have hkm := hk05.trans hk6
    obtain ⟨⟨tp, rp, hgp⟩, ⟨tq, rq, hgq⟩, ⟨cp, ttp, hbp⟩, ⟨cq, ttq, hbq⟩, hpq⟩ := hg6
    have hgl : ∀ {b : Nat} {o : Obj}, w.heap[b]? = some o → b ≠ bw2 ∧ b ≠ bw3 := fun hb => by
      have := lt_of_heap hb
      omega
    have hgn : 0 ≠ bw2 ∧ 0 ≠ bw3 := by
      obtain ⟨_, ⟨_, _, g2⟩, _⟩ := hg
      exact hgl g2
    have hgb : q.block ≠ bw2 ∧ q.block ≠ bw3 := by
      obtain ⟨_, _, _, ⟨_, _, g2⟩, _⟩ := hg
      exact hgl g2
    (repeat first | (apply wr_move; exact rfl; with_reducible (conv => enter [6, 3]; whnf)) | (apply wr_extract; (iterate 3 exact rfl); with_reducible (conv => enter [6, 3]; whnf)))
    refine wr_storeAll (cs := [.bool false, nilV]) rfl rfl rfl (zset_one) hc26 (rfl) (rfl) ?_
    refine wr_name ?_
    intro w7 hww7
    have hkw7 : Keeps (· = bw2) w6 w7 := by rw [hww7]; exact (Keeps.refl _ w6).put _ (fun _ => rfl)
    have hcw7 : (w7).heap[bw2]? = some (.cells ([.bool false, nilV]).toArray 41 (0, 0)) := by rw [hww7]; exact World.putObj_heap_same (lt_of_heap hc26)
    clear hww7
    have hc37 := hkw7.heap hc36 (fun e => by omega)
    refine wr_storeAll (cs := [.bool false, nilV]) rfl rfl rfl (zset_one) hc37 (rfl) (rfl) ?_
    refine wr_name ?_
    intro w8 hww8
    have hkw8 : Keeps (· = bw3) w7 w8 := by rw [hww8]; exact (Keeps.refl _ w7).put _ (fun _ => rfl)
    have hcw8 : (w8).heap[bw3]? = some (.cells ([.bool false, nilV]).toArray 41 (0, 0)) := by rw [hww8]; exact World.putObj_heap_same (lt_of_heap hc37)
    clear hww8
    have hz28 := hkw8.heap hcw7 (fun e => by omega)
    have hMz := (h6.keepC hkw7 hc26 (by decide) (by decide)).keepC hkw8 hc37 (by decide) (by decide)
    have hgq8 := hkw8.heap (hkw7.heap hgq hgn.1) hgn.2
    have hbq8 := hkw8.heap (hkw7.heap hbq hgb.1) hgb.2
    have hk8 : Keeps NoB w w8 := (hkm.trans' hkw7 (fun i hi e => by omega)).trans' hkw8 (fun i hi e => by omega)
    (repeat first | (apply wr_move; exact rfl; with_reducible (conv => enter [6, 3]; whnf)) | (apply wr_assign; exact rfl; with_reducible (conv => enter [6, 3]; whnf)) | apply wr_end | apply wc_seq | apply wc_region | apply wc_block | (apply wr_load; (iterate 3 exact rfl); (focus repeat first | with_reducible assumption | exact heap_alloc_same _ _ | exact World.putObj_heap_same (by first | omega | (simp only [World.size_alloc, World.putObj_size, ne_eq]; omega)) | ((first | refine hAl ?_ ?_ | refine hPu ?_ ?_); focus first | omega | (simp only [World.size_alloc, World.putObj_size, ne_eq]; omega))); exact rfl; conv => enter [6, 3]; whnf))
    refine wr_call (vs := [isArg true (id, kk) q, Er q]) rfl (Is_ca true (id, kk) q q hbq8 hbq8) rfl ?_
    rintro v wz ⟨rfl, hkz'⟩
    rw [decide_eq_true rfl]
    have hz2 := hkz'.heap hz28 (fun h => h)
    have hz3 := hkz'.heap hcw8 (fun h => h)
    (repeat first | (apply wr_assign; exact rfl; with_reducible (conv => enter [6, 3]; whnf)) | apply wr_end | apply wc_seq | (apply wc_true; exact rfl))
    refine V.L.wc_drawL (l := _) (V.L.duo wz.drew 2 3 bw2 bw3 (.cells ((zL : List Value)).toArray 41 (0, 0)) (.cells ((zL : List Value)).toArray 41 (0, 0)) (.cells ((zL : List Value)).toArray 41 (0, 0)) (.cells ((zL : List Value)).toArray 41 (0, 0))) (by kernel_rfl) (by kernel_rfl) ⟨Keeps.refl _ _, (show wz.drew.heap[bw2]? = _ from hz2), (show wz.drew.heap[bw3]? = _ from hz3)⟩ ?_
    apply V.L.ch_step
    focus
      apply duoS_read rfl rfl
      intro w hk hb1 hb2
      refine wr_loadAll (cs := zL) rfl rfl rfl hb1 rfl ?_
      apply wr_nil
      exact ⟨rfl, Keeps.refl _ _⟩
    apply V.L.ch_step
    focus
      apply duoS_read rfl rfl
      intro w hk hb1 hb2
      refine wr_loadAll (cs := zL) rfl rfl rfl hb2 rfl ?_
      apply wr_nil
      exact ⟨rfl, Keeps.refl _ _⟩
    apply V.L.ch_step
    focus
      apply V.L.duo_st1 (by omega) rfl
      intro w hk hb
      refine wr_storeAll (cs := zL) rfl rfl rfl (zset_one) hb rfl rfl ?_
      apply wr_nil
      exact ⟨rfl, rfl⟩
    apply V.L.ch_step
    focus
      apply V.L.duo_st2 (by omega) rfl
      intro w hk hb
      refine wr_storeAll (cs := zL) rfl rfl rfl (zset_one) hb rfl rfl ?_
      apply wr_nil
      exact ⟨rfl, rfl⟩
    apply V.L.ch_step
    focus
      apply duoS_read rfl rfl
      intro w hk hb1 hb2
      apply wr_assign; exact rfl; with_reducible (conv => enter [6, 3]; whnf)
      apply wr_nil
      exact ⟨rfl, Keeps.refl _ _⟩
    refine V.L.ch_nil ?_
    intro wy hS
    obtain ⟨hky', hy2, hy3⟩ := V.L.duo_end hS (by kernel_rfl) (by kernel_rfl)
    have hkzy : Keeps NoB wz wy := by
      have h1 : Keeps (fun q => q = bw2 ∨ q = bw3) wz wy := (Keeps.refl NoB wz).drew.upD.trans hky'
      exact ⟨h1.os, h1.tape, h1.output, h1.size, fun i hi _ => by
        by_cases e3 : i = bw2
        · subst e3; rw [hy2, hz2]
        · by_cases e4 : i = bw3
          · subst e4; rw [hy3, hz3]
          · exact h1.block i hi (fun e => e.elim e3 e4)⟩
    (repeat first | (apply wc_ret; try simp only [thenE, inBlockE, bodyQ]))
    exact leaveN (vs := [SetV false nilV, SetV false nilV, .int .i64 1]) (resv_cells (cs := [.bool false, nilV]) (e := 41) (fr := (0, 0)) rfl rfl hy2 rfl (resv_cells (cs := [.bool false, nilV]) (e := 41) (fr := (0, 0)) rfl rfl hy3 rfl (resv_tmp rfl resv_nil))) ⟨.inr (.inr ⟨ht, (hMz.keepN hkz').keepN hkzy, rfl⟩), ((hk8.trans hkz').trans hkzy).upD⟩
end Go.Proofs.YtajajahofkialaaGreatDoor
