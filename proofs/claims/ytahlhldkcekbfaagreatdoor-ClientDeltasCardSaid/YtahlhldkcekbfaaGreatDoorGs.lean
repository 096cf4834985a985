/- ClientDeltas. -/
import Derived.Test.YtahlhldkcekbfaaGreatDoorGm
import Derived.Test.YtahlhldkcekbfaaGreatDoorGl
import Derived.Test.YtahlhldkcekbfaaGreatDoorGt
namespace Go.Proofs.YtahlhldkcekbfaaGreatDoor
open Go Go.V Go.RowKit
set_option linter.unusedVariables false
set_option linter.unusedSimpArgs false

theorem delta_step {a W : PS} (ha : Fine a) (hW : Fine W) : lessP (unionP [a, ofP (listP (lessP W a))]) (ofP (listP (lessP a W))) = W := by
  rw [ofP_listP (lessP_fine hW), ofP_listP (lessP_fine ha)]
  refine fine_ext (lessP_fine (union_fine2 ha (lessP_fine hW))) hW ?_ fun x => ?_
  · show ((unionP [a, lessP W a]).1 && !(a.1 && !W.1)) = W.1
    rw [union_all2]
    show ((a.1 || (W.1 && !a.1)) && !(a.1 && !W.1)) = W.1
    cases a.1 <;> cases W.1 <;> rfl
  · rw [mem_lessP, mem_union2, mem_lessP, mem_lessP]
    by_cases h1 : x ∈ a.2 <;> by_cases h2 : x ∈ W.2 <;> simp [h1, h2]
theorem ofR_ca {W : PS} (hW : Fine W) (hl : (listP W).length ≤ 8796093022000) {sl : Value} {w : World} (hsl : SlR w 1 sl (listP W).length (SL (listP W))) :
    Ca Tryz.prog 13 #[sl] w fun v w' => SetR w' W v ∧ Keeps NoB w w' :=
  (ofO_ca (listP W) sl w hsl hl (listP_ok hW)).mono fun v w' h => by
    have h1 := h.1.toR
    rw [ofP_listP hW] at h1
    exact ⟨h1, h.2⟩
theorem askE_gen {c : CLc} {k : Int} {W : PS} {hn : Nat} {t : TPc} (ht : topicOf c k = t) (hk : typedB k = true) (hl : W.2.length ≤ 63) (hl2 : t.1.1.2.length ≤ 63) (hh : hn ≤ 64) : askE c k W hn = if (t.2.1 && sameP t.1.1 W) = true then some 5 else none := by
  have h1 := listP_le W
  have h2 : (moreL c t.1.1 W).length ≤ 64 := by
    unfold moreL
    split
    · have := listP_le (lessP W t.1.1)
      have := lessP_le W t.1.1
      omega
    · simp
  have h3 : (lessL c t.1.1 W).length ≤ 64 := by
    unfold lessL
    split
    · have := listP_le (lessP t.1.1 W)
      have := lessP_le t.1.1 W
      omega
    · simp
  unfold askE
  rw [ht, hk, decide_eq_true (show (listP W).length ≤ 64 by omega), decide_eq_true h2, decide_eq_true h3, decide_eq_true hh]
  cases t.2.1 <;> cases sameP t.1.1 W <;> rfl
theorem GCl_ne {w : World} {c : CLc} (h : CliAt w c) : ∀ (j : Nat) (t : TT), (GCl c).toArray[j]? ≠ some (S t) := by
  intro j t e
  rw [List.getElem?_toArray] at e
  have hm := List.mem_of_getElem? e
  simp only [GCl, List.mem_cons, List.mem_flatMap] at hm
  rcases hm with hm | ⟨y, hy, hm⟩
  · cases hm
  · simp only [GTp, GSt, List.cons_append, List.nil_append, List.mem_cons, List.not_mem_nil, or_false] at hm
    obtain ⟨a, cp, e2, _⟩ := slr_strs (h.at' y hy).1
    rcases hm with hm | hm | hm | hm
    · cases hm
    · rw [e2] at hm; cases hm
    · cases hm
    · cases hm
theorem SetR.one {w : World} {s : PS} {a : Bool} {v : Value} (h : SetR w s (SetV a v)) : v.oneCell' = true ∧ ∀ t : TT, v ≠ S t := by
  obtain ⟨nv, e, hs⟩ := h
  obtain ⟨an, cn, e2, _⟩ := slr_strs hs
  have : v = nv := by
    injection e with e
    injection e with e
    simp at e
    exact e.2
  subst this
  rw [e2]
  exact ⟨rfl, fun t h => by cases h⟩
set_option maxRecDepth 100000 in
set_option maxHeartbeats 16000000 in
theorem deltas_law (L : List (Value × List Nat)) (lv : Value) {w : World} (hE : ErrT w) (hlv : SlR w 1 lv L.length (L.map (·.1))) (hL : ∀ p ∈ L, SlR w 1 p.1 p.2.length (IB p.2) ∧ ∀ x ∈ p.2, x < 256) :
    Ca Tryz.prog 8 #[lv] w fun v w' => v = .bool true ∧ Keeps NoB w w' := by
  obtain ⟨la, lc, rfl, hlcap, hlat⟩ := hlv.shape
  refine ca_of_body (args := [.slice la L.length lc]) Tryz.func8 rfl (by kernel_rfl) ?_
  (repeat first | (apply wr_assign; exact rfl; with_reducible (conv => enter [6, 3]; whnf)) | apply wr_end | apply wc_seq | apply wc_region)
  refine wr_call (vs := []) rfl (examples_ca hE) rfl ?_
  rintro v w1 ⟨rfl, hk1⟩
  have hz1 := hk1.size
  have hE1 := hE.keep hk1
  (repeat first | (apply wr_move; exact rfl; with_reducible (conv => enter [6, 3]; whnf)) | (apply wr_assign; exact rfl; with_reducible (conv => enter [6, 3]; whnf)) | apply wr_end | apply wc_seq | apply wc_region | apply wc_skip | (apply wr_not; iterate 2 exact rfl) | (apply wc_false; exact rfl))
  refine wr_call (vs := [.bool true]) rfl (newCl_ca true w1) rfl ?_
  rintro v w2 ⟨rfl, hk2⟩
  (repeat first | (apply wr_alloc; exact rfl))
  refine wr_storeAll (cs := GCl (newC true)) rfl rfl rfl (GCl_one (newC_at w2 true)) (heap_alloc_same _ _) rfl rfl ?_
  refine wr_name ?_
  intro w3 hww3
  obtain ⟨bw3, hbw3⟩ : ∃ b, b = (w2).heap.size := ⟨_, rfl⟩
  have hkw3 : Keeps NoB w2 w3 := by rw [hww3]; exact ((Keeps.refl NoB w2).alloc _).put _ (fun h => by omega)
  have hcw3 : (w3).heap[bw3]? = some (.cells (GCl (newC true)).toArray 32 (0, 0)) := by rw [hww3, hbw3]; exact World.putObj_heap_same (by simp)
  rw [← hbw3]
  clear hww3
  have hk03 := (hk1.trans hk2).trans hkw3
  have hz12 := (hk1.trans hk2).size
  (repeat first | apply wr_end | apply wc_seq | apply wc_region)
  refine wr_call (vs := [.bool false]) rfl (newCl_ca false w3) rfl ?_
  rintro v w4 ⟨rfl, hk4⟩
  (repeat first | (apply wr_alloc; exact rfl))
  refine wr_storeAll (cs := GCl (newC false)) rfl rfl rfl (GCl_one (newC_at w4 false)) (heap_alloc_same _ _) rfl rfl ?_
  refine wr_name ?_
  intro w5 hww5
  obtain ⟨bw5, hbw5⟩ : ∃ b, b = (w4).heap.size := ⟨_, rfl⟩
  have hkw5 : Keeps NoB w4 w5 := by rw [hww5]; exact ((Keeps.refl NoB w4).alloc _).put _ (fun h => by omega)
  have hcw5 : (w5).heap[bw5]? = some (.cells (GCl (newC false)).toArray 32 (0, 0)) := by rw [hww5, hbw5]; exact World.putObj_heap_same (by simp)
  rw [← hbw5]
  clear hww5
  have hk05 := (hk03.trans hk4).trans hkw5
  have hc35 := (hk4.trans hkw5).heap hcw3 (fun h => h)
  have hl35 := lt_of_heap (hk4.heap hcw3 (fun h => h))
  have hz04 := (hk03.trans hk4).size
  (repeat first | apply wr_end | apply wc_seq | apply wc_region)
  refine wr_build (ps := []) (cs := [.bool false, nilV]) rfl rfl rfl rfl ?_
  (repeat first | (apply wr_alloc; exact rfl))
  refine wr_storeAll (cs := [.bool false, nilV]) rfl rfl rfl (by intro u hu; simp at hu; rcases hu with rfl | rfl <;> rfl) (heap_alloc_same _ _) rfl rfl ?_
  refine wr_name ?_
  intro w6 hww6
  obtain ⟨bw6, hbw6⟩ : ∃ b, b = (w5).heap.size := ⟨_, rfl⟩
  have hkw6 : Keeps NoB w5 w6 := by rw [hww6]; exact ((Keeps.refl NoB w5).alloc _).put _ (fun h => by omega)
  have hcw6 : (w6).heap[bw6]? = some (.cells ([.bool false, nilV]).toArray 26 (0, 0)) := by rw [hww6, hbw6]; exact World.putObj_heap_same (by simp)
  rw [← hbw6]
  clear hww6
  have hk06 := hk05.trans hkw6
  have hc36 := hkw6.heap hc35 (fun h => h)
  have hc56 := hkw6.heap hcw5 (fun h => h)
  have hl56 := lt_of_heap hcw5
  have hz05 := hk05.size
  (repeat first | (apply wr_assign; exact rfl; with_reducible (conv => enter [6, 3]; whnf)) | apply wr_end | apply wc_seq | apply wc_region | apply wc_block)
  refine wc_loopL (α := Nat × CLc × CLc × PS × Value) (fun p => [(0, .slice la L.length lc), (3, .bool true), (4, .pointer (some ⟨bw3, 0, none⟩)), (5, .pointer (some ⟨bw5, 0, none⟩)), (6, .pointer (some ⟨bw6, 0, none⟩)), (7, .int .i64 (p.1 : Int))])
    (fun p ds w' => ds = [] ∧ p.1 ≤ L.length ∧ CliO w' w.heap.size p.2.1 ∧ CliO w' w.heap.size p.2.2.1 ∧ (∃ nv, topicOf p.2.1 2 = ((p.2.2.2.1, nv), decide (0 < p.1), 0)) ∧ (∃ nv, topicOf p.2.2.1 2 = ((p.2.2.2.1, nv), decide (0 < p.1), 0)) ∧ p.2.1.1 = true ∧ p.2.2.1.1 = false ∧
      Fine p.2.2.2.1 ∧ p.2.2.2.1.2.length ≤ 12 ∧ SetR w' p.2.2.2.1 (SetV p.2.2.2.1.1 p.2.2.2.2) ∧ w'.heap[bw3]? = some (.cells (GCl p.2.1).toArray 32 (0, 0)) ∧ w'.heap[bw5]? = some (.cells (GCl p.2.2.1).toArray 32 (0, 0)) ∧
      w'.heap[bw6]? = some (.cells [.bool p.2.2.2.1.1, p.2.2.2.2].toArray 26 (0, 0)) ∧ Keeps NoB w w') (fun p => L.length - p.1) (0, newC true, newC false, (false, []), nilV)
    ⟨rfl, Nat.zero_le _, newC_O _ _ _, newC_O _ _ _, ⟨nilV, topicOf_new _ _⟩, ⟨nilV, topicOf_new _ _⟩, rfl, rfl, nil_fine false, by decide, ⟨nilV, rfl, slr_none _⟩, hc36, hc56, hcw6, hk06⟩ ⟨rfl, rfl, rfl, rfl, rfl, rfl, trivial⟩ ?_
  clear hcw3 hcw5 hcw6 hc35 hc36 hc56
  rintro ⟨i, c, cw, at', av⟩ ds f0 w7 ⟨rfl, hi, hO, hOw, ⟨tv, ht⟩, ⟨tw, htw⟩, hd, hdw, hatf, hatl, hatR, hc, hcw, hca, hk07⟩
  dsimp only at hi hO hOw ht htw hd hdw hatf hatl hatR hc hcw hca ⊢
  by_cases hlt : i < L.length
  rotate_left
  · (repeat first | (apply wr_move; exact rfl; with_reducible (conv => enter [6, 3]; whnf)) | (apply wr_assign; exact rfl; with_reducible (conv => enter [6, 3]; whnf)) | apply wr_end | apply wc_seq | apply wc_region | (apply wr_len_slice; iterate 2 exact rfl) | (apply wr_cmp; (iterate 3 exact rfl); exact cmpF (by dsimp only [cmpN]; first | done | omega)) | (apply wr_pick (t := false); (iterate 2 exact rfl); with_reducible (conv => enter [6, 3]; whnf)) | (apply wc_false; exact rfl) | (apply wc_exit; try simp only [thenE, inBlockE, bodyQ, ↓reduceIte, Nat.reduceEqDiff]) | (apply wc_ret; try simp only [thenE, inBlockE, bodyQ]) | (apply wr_skip; exact rfl))
    exact leave1 (v := .bool true) rfl rfl ⟨rfl, hk07⟩
  by_cases hlt2 : i < 10
  rotate_left
  · (repeat first | (apply wr_move; exact rfl; with_reducible (conv => enter [6, 3]; whnf)) | (apply wr_assign; exact rfl; with_reducible (conv => enter [6, 3]; whnf)) | apply wr_end | apply wc_seq | apply wc_region | (apply wr_len_slice; iterate 2 exact rfl) | (apply wr_cmp; (iterate 3 exact rfl); exact cmpT (by dsimp only [cmpP]; first | done | omega)) | (apply wr_cmp; (iterate 3 exact rfl); exact cmpF (by dsimp only [cmpN]; first | done | omega)) | (apply wr_pick (t := true); (iterate 2 exact rfl); with_reducible (conv => enter [6, 3]; whnf)) | (apply wc_false; exact rfl) | (apply wc_exit; try simp only [thenE, inBlockE, bodyQ, ↓reduceIte, Nat.reduceEqDiff]) | (apply wc_ret; try simp only [thenE, inBlockE, bodyQ]))
    exact leave1 (v := .bool true) rfl rfl ⟨rfl, hk07⟩
  obtain ⟨b, o, rfl, cur, e, fr, hb, hr⟩ := hlat (by omega)
  obtain ⟨p, hp⟩ : ∃ p, L[i]? = some p := ⟨L[i], by simp [hlt]⟩
  obtain ⟨hps, hp8⟩ := hL p (List.mem_of_getElem? hp)
  have hcell : cur[o + i * 1]? = some p.1 := by rw [Nat.mul_one, hr i (by omega)]; simp [hp]
  have hb7 := hk07.heap hb (fun h => h)
  have hp1 : p.1.oneCell' = true := by obtain ⟨_, _, e, _⟩ := hps.shape; rw [e]; rfl
  have hz7 := hk07.size
  (repeat first | (apply wr_move; exact rfl; with_reducible (conv => enter [6, 3]; whnf)) | apply wr_end | apply wc_seq | apply wc_region | apply wc_skip | apply wc_block | (apply wr_len_slice; iterate 2 exact rfl) | (apply wr_cmp; (iterate 3 exact rfl); exact cmpT (by dsimp only [cmpP]; first | done | omega)) | (apply wr_pick (t := true); (iterate 2 exact rfl); with_reducible (conv => enter [6, 3]; whnf)) | (apply wc_true; exact rfl))
  refine wr_indexAddr (i := i) rfl rfl rfl hlt ?_
  refine wr_load (v := p.1) rfl rfl rfl hb7 hcell ?_
  refine wr_call (vs := [p.1, .int .i64 (12 : Nat)]) rfl (few_ca p.2 p.1 12 (by decide) w7 (hps.keep hk07 (fun _ _ h => h)) hp8) rfl ?_
  rintro v w8 ⟨hfw, hk8⟩
  have hle := namesF_le p.2 12
  refine wr_call (vs := [v]) rfl (ofO_ca (namesF p.2 12) v w8 (SlR.of_own hfw) (by omega) (namesF_ok p.2 12)) rfl ?_
  rintro sv w9 ⟨hsv, hk9⟩
  obtain ⟨W, hW⟩ : ∃ W, W = ofP (namesF p.2 12) := ⟨_, rfl⟩
  have hWf : Fine W := by rw [hW]; exact ofP_fine _
  have hWl : W.2.length ≤ 12 := by rw [hW]; have := ofP_le (namesF p.2 12); omega
  rw [← hW] at hsv
  obtain ⟨nv, rfl, hnv⟩ := hsv
  clear hW hfw
  have hk79 := hk8.trans hk9
  have hz79 := hk79.size
  (repeat first | (apply wr_alloc; exact rfl))
  refine wr_storeAll (cs := [.bool W.1, nv]) rfl rfl rfl (by intro u hu; simp at hu; rcases hu with rfl | rfl; rfl; exact own_one hnv) (heap_alloc_same _ _) rfl rfl ?_
  refine wr_name ?_
  intro wa hwwa
  obtain ⟨bwa, hbwa⟩ : ∃ b, b = (w9).heap.size := ⟨_, rfl⟩
  have hkwa : Keeps NoB w9 wa := by rw [hwwa]; exact ((Keeps.refl NoB w9).alloc _).put _ (fun h => by omega)
  have hcwa : (wa).heap[bwa]? = some (.cells ([.bool W.1, nv]).toArray 26 (0, 0)) := by rw [hwwa, hbwa]; exact World.putObj_heap_same (by simp)
  rw [← hbwa]
  clear hwwa
  have hk7a := hk79.trans hkwa
  have hOa := hO.keep hk7a
  have hca' := hk7a.heap hc (fun h => h)
  have hl1 := hO.len
  have hlw := hOw.len
  have hk0a := hk07.trans hk7a
  have hnva : wa.ownsRow w.heap.size 9 1 nv W.2.length (SL W.2) := own_down (own_keep hnv hkwa (fun _ _ h => h)) (by have := hk8.size; omega)
  have hWRa : SetR wa W (SetV W.1 nv) := ⟨nv, rfl, SlR.of_own hnva⟩
  (repeat first | apply wr_end | apply wc_seq | apply wc_region)
  refine wr_loadAll (cs := GCl c) rfl rfl rfl hca' (GCl_len hl1) ?_
  refine wr_loadAll (cs := [.bool W.1, nv]) rfl rfl rfl hcwa rfl ?_
  refine wr_call (vs := [CliV c, .int .i64 2, SetV W.1 nv, nilV]) rfl (ask_cb hOa.at (hE.keep hk0a) 2 hWRa hWf (by omega) (hv := []) (by decide) (slR_nilH _)) rfl ?_
  rintro v wb ⟨hR, hkb⟩
  have heA := askE_gen (hn := ([] : List HV).length) ht (by decide) (W := W) (by omega) (by dsimp only; omega) (by decide)
  have heB := askE_gen (hn := ([] : List HV).length) htw (by decide) (W := W) (by omega) (by dsimp only; omega) (by decide)
  dsimp only at heA heB
  have hk7b := hk7a.trans hkb
  have hl79 : bw3 < w9.heap.size ∧ bw5 < w9.heap.size ∧ bw6 < w9.heap.size := by
    have := lt_of_heap (hk79.heap hc (fun h => h))
    have := lt_of_heap (hk79.heap hcw (fun h => h))
    have := lt_of_heap (hk79.heap hca (fun h => h))
    omega
  cases hsm : (decide (0 < i) && sameP at' W) with
  | true =>
    rw [hsm, if_pos rfl] at heA heB
    simp only [Bool.and_eq_true, decide_eq_true_eq] at hsm
    obtain ⟨hi0, hsm2⟩ := hsm
    rcases hR with ⟨e, he, rfl⟩ | ⟨he, _⟩
    rotate_left
    focus
      rw [heA] at he; cases he
    rw [heA] at he
    injection he with he
    subst he
    apply wr_move; exact rfl; with_reducible (conv => enter [6, 3]; whnf)
    apply wr_extract; (iterate 3 exact rfl); with_reducible (conv => enter [6, 3]; whnf)
    apply wr_extract; (iterate 3 exact rfl); with_reducible (conv => enter [6, 3]; whnf)
    apply wr_extract; (iterate 3 exact rfl); with_reducible (conv => enter [6, 3]; whnf)
    apply wr_alloc
    focus exact rfl
    refine wr_name ?_
    intro wxa hwwxa
    obtain ⟨bwxa, hbwxa⟩ : ∃ b, b = (wb).heap.size := ⟨_, rfl⟩
    have hkwxa : Keeps NoB wb wxa := by rw [hwwxa]; exact (Keeps.refl NoB wb).alloc _
    have hcwxa : (wxa).heap[bwxa]? = some (.cells (GCl (newC false)).toArray 32 (0, 0)) := by rw [hwwxa, hbwxa]; exact heap_alloc_same _ _
    rw [← hbwxa]
    clear hwwxa
    apply wr_alloc
    focus exact rfl
    refine wr_name ?_
    intro wxb hwwxb
    obtain ⟨bwxb, hbwxb⟩ : ∃ b, b = (wxa).heap.size := ⟨_, rfl⟩
    have hkwxb : Keeps NoB wxa wxb := by rw [hwwxb]; exact (Keeps.refl NoB wxa).alloc _
    have hcwxb : (wxb).heap[bwxb]? = some (.cells (zeroRq).toArray 42 (0, 0)) := by rw [hwwxb, hbwxb]; exact heap_alloc_same _ _
    rw [← hbwxb]
    clear hwwxb
    have hcawx := hkwxb.heap hcwxa (fun h => h)
    have hlrwx := lt_of_heap hcwxa
    refine wr_storeAll (cs := GCl (c)) rfl rfl rfl (GCl_one (hOa.keep hkb).at) hcawx (GCl_len hl1) (rfl) ?_
    refine wr_name ?_
    intro wxc hwwxc
    have hkwxc : Keeps (· = bwxa) wxb wxc := by rw [hwwxc]; exact (Keeps.refl _ wxb).put _ (fun _ => rfl)
    have hcwxc : (wxc).heap[bwxa]? = some (.cells (GCl (c)).toArray 32 (0, 0)) := by rw [hwwxc]; exact World.putObj_heap_same (lt_of_heap hcawx)
    clear hwwxc
    have hcbwx := hkwxc.heap hcwxb (fun e => by omega)
    refine wr_storeAll (cs := zeroRq) rfl rfl rfl (zeroRq_one) hcbwx (rfl) (rfl) ?_
    refine wr_name ?_
    intro wxd hwwxd
    have hkwxd : Keeps (· = bwxb) wxc wxd := by rw [hwwxd]; exact (Keeps.refl _ wxc).put _ (fun _ => rfl)
    have hcwxd : (wxd).heap[bwxb]? = some (.cells (zeroRq).toArray 42 (0, 0)) := by rw [hwwxd]; exact World.putObj_heap_same (lt_of_heap hcbwx)
    clear hwwxd
    have hccwx := hkwxd.heap hcwxc (fun e => by omega)
    have hkkwx : Keeps NoB wb wxd := ((hkwxa.trans hkwxb).trans' hkwxc (fun i hi e => by omega)).trans' hkwxd (fun i hi e => by omega)
    have hk7x := hk7b.trans hkkwx
    have hkax := hkb.trans hkkwx
    (repeat first | (apply wr_assign; exact rfl; with_reducible (conv => enter [6, 3]; whnf)) | apply wr_end | apply wc_seq | apply wc_region)
    refine wr_loadAll (cs := GCl cw) rfl rfl rfl (hk7x.heap hcw (fun h => h)) (GCl_len hlw) ?_
    refine wr_loadAll (cs := [.bool W.1, nv]) rfl rfl rfl (hkax.heap hcwa (fun h => h)) rfl ?_
    refine wr_call (vs := [CliV cw, .int .i64 2, SetV W.1 nv, nilV]) rfl (ask_cb (hOw.keep hk7x).at (hE.keep (hk07.trans hk7x)) 2 (hWRa.keep hkax) hWf (by omega) (hv := []) (by decide) (slR_nilH _)) rfl ?_
    rintro v wc ⟨hR2, hkc⟩
    rcases hR2 with ⟨e, he, rfl⟩ | ⟨he, _⟩
    rotate_left
    focus
      rw [heB] at he; cases he
    rw [heB] at he
    injection he with he
    subst he
    apply wr_move; exact rfl; with_reducible (conv => enter [6, 3]; whnf)
    apply wr_extract; (iterate 3 exact rfl); with_reducible (conv => enter [6, 3]; whnf)
    apply wr_extract; (iterate 3 exact rfl); with_reducible (conv => enter [6, 3]; whnf)
    apply wr_extract; (iterate 3 exact rfl); with_reducible (conv => enter [6, 3]; whnf)
    apply wr_alloc
    focus exact rfl
    refine wr_name ?_
    intro wya hwwya
    obtain ⟨bwya, hbwya⟩ : ∃ b, b = (wc).heap.size := ⟨_, rfl⟩
    have hkwya : Keeps NoB wc wya := by rw [hwwya]; exact (Keeps.refl NoB wc).alloc _
    have hcwya : (wya).heap[bwya]? = some (.cells (GCl (newC false)).toArray 32 (0, 0)) := by rw [hwwya, hbwya]; exact heap_alloc_same _ _
    rw [← hbwya]
    clear hwwya
    apply wr_alloc
    focus exact rfl
    refine wr_name ?_
    intro wyb hwwyb
    obtain ⟨bwyb, hbwyb⟩ : ∃ b, b = (wya).heap.size := ⟨_, rfl⟩
    have hkwyb : Keeps NoB wya wyb := by rw [hwwyb]; exact (Keeps.refl NoB wya).alloc _
    have hcwyb : (wyb).heap[bwyb]? = some (.cells (zeroRq).toArray 42 (0, 0)) := by rw [hwwyb, hbwyb]; exact heap_alloc_same _ _
    rw [← hbwyb]
    clear hwwyb
    have hcawy := hkwyb.heap hcwya (fun h => h)
    have hlrwy := lt_of_heap hcwya
    refine wr_storeAll (cs := GCl (cw)) rfl rfl rfl (GCl_one ((hOw.keep hk7x).keep hkc).at) hcawy (GCl_len hlw) (rfl) ?_
    refine wr_name ?_
    intro wyc hwwyc
    have hkwyc : Keeps (· = bwya) wyb wyc := by rw [hwwyc]; exact (Keeps.refl _ wyb).put _ (fun _ => rfl)
    have hcwyc : (wyc).heap[bwya]? = some (.cells (GCl (cw)).toArray 32 (0, 0)) := by rw [hwwyc]; exact World.putObj_heap_same (lt_of_heap hcawy)
    clear hwwyc
    have hcbwy := hkwyc.heap hcwyb (fun e => by omega)
    refine wr_storeAll (cs := zeroRq) rfl rfl rfl (zeroRq_one) hcbwy (rfl) (rfl) ?_
    refine wr_name ?_
    intro wyd hwwyd
    have hkwyd : Keeps (· = bwyb) wyc wyd := by rw [hwwyd]; exact (Keeps.refl _ wyc).put _ (fun _ => rfl)
    have hcwyd : (wyd).heap[bwyb]? = some (.cells (zeroRq).toArray 42 (0, 0)) := by rw [hwwyd]; exact World.putObj_heap_same (lt_of_heap hcbwy)
    clear hwwyd
    have hccwy := hkwyd.heap hcwyc (fun e => by omega)
    have hkkwy : Keeps NoB wc wyd := ((hkwya.trans hkwyb).trans' hkwyc (fun i hi e => by omega)).trans' hkwyd (fun i hi e => by omega)
    have hk7y := (hk7x.trans hkc).trans hkkwy
    have hkay := (hkax.trans hkc).trans hkkwy
    have hkxy := hkc.trans hkkwy
    have hzab := (hkwa.trans hkb).size
    have hzbc := (hkkwx.trans hkc).size
    (repeat first | (apply wr_move; exact rfl; with_reducible (conv => enter [6, 3]; whnf)) | (apply wr_assign; exact rfl; with_reducible (conv => enter [6, 3]; whnf)) | apply wr_end | apply wc_seq | apply wc_region | (apply wr_cmp; (iterate 3 exact rfl); exact cmpT (by dsimp only [cmpP]; first | done | omega)) | (apply wr_cmp; (iterate 3 exact rfl); exact cmpF (by dsimp only [cmpN]; first | done | omega)))
    refine wr_loadAll (cs := [.bool at'.1, av]) rfl rfl rfl (hk7y.heap hca (fun h => h)) rfl ?_
    refine wr_loadAll (cs := [.bool W.1, nv]) rfl rfl rfl (hkay.heap hcwa (fun h => h)) rfl ?_
    refine wr_call (vs := [SetV at'.1 av, SetV W.1 nv]) rfl (same_cb true hsm2 (hatR.keep hk7y) (hWRa.keep hkay) (by omega) (by omega)) rfl ?_
    rintro v wd ⟨rfl, hkd⟩
    (repeat first | (apply wr_pick (t := true); (iterate 2 exact rfl); with_reducible (conv => enter [6, 3]; whnf)))
    refine wr_boolNe (c := false) rfl rfl rfl rfl ?_
    have hk7d := hk7y.trans hkd
    have hkxd := hkxy.trans hkd
    have hOd := hO.keep hk7d
    have hOwd := hOw.keep hk7d
    have hatd := hatR.keep hk7d
    have hcd := hk7d.heap hc (fun h => h)
    have hcwd := hk7d.heap hcw (fun h => h)
    have hcad := hk7d.heap hca (fun h => h)
    (repeat first | (apply wr_move; exact rfl; with_reducible (conv => enter [6, 3]; whnf)) | apply wr_end | apply wc_seq | apply wc_region | apply wc_skip | (apply wr_cmp; (iterate 3 exact rfl); exact cmpT (by dsimp only [cmpP]; first | done | omega)) | (apply wr_cmp; (iterate 3 exact rfl); exact cmpF (by dsimp only [cmpN]; first | done | omega)) | (apply wr_pick (t := true); (iterate 2 exact rfl); with_reducible (conv => enter [6, 3]; whnf)) | (apply wr_pick (t := false); (iterate 2 exact rfl); with_reducible (conv => enter [6, 3]; whnf)) | (apply wc_false; exact rfl))
    refine wr_loadAll (cs := GCl c) rfl rfl rfl (hkxd.heap hccwx (fun h => h)) (GCl_len hl1) ?_
    refine wr_storeAll (cs := GCl c) rfl rfl rfl (GCl_one hOd.at) hcd (GCl_len hl1) (GCl_len hl1) ?_
    refine wr_name ?_
    intro we hwwe
    have hkwe : Keeps (· = bw3) wd we := by rw [hwwe]; exact (Keeps.refl _ wd).put _ (fun _ => rfl)
    have hcwe : (we).heap[bw3]? = some (.cells (GCl c).toArray 32 (0, 0)) := by rw [hwwe]; exact World.putObj_heap_same (lt_of_heap hcd)
    clear hwwe
    have hOwe := hOwd.keep1 hkwe hcd (by decide)
    have hOe := hOd.keep1 hkwe hcd (by decide)
    have hate := hatd.put hkwe hcd (GCl_ne hOd.at)
    have hcwe5 := hkwe.heap hcwd (fun e => by omega)
    have hcae := hkwe.heap hcad (fun e => by omega)
    (repeat first | apply wr_end | apply wc_seq | apply wc_region)
    refine wr_loadAll (cs := GCl cw) rfl rfl rfl (hkwe.heap (hkd.heap hccwy (fun h => h)) (fun e => by omega)) (GCl_len hlw) ?_
    refine wr_storeAll (cs := GCl cw) rfl rfl rfl (GCl_one hOwe.at) hcwe5 (GCl_len hlw) (GCl_len hlw) ?_
    refine wr_name ?_
    intro wf hwwf
    have hkwf : Keeps (· = bw5) we wf := by rw [hwwf]; exact (Keeps.refl _ we).put _ (fun _ => rfl)
    have hcwf : (wf).heap[bw5]? = some (.cells (GCl cw).toArray 32 (0, 0)) := by rw [hwwf]; exact World.putObj_heap_same (lt_of_heap hcwe5)
    clear hwwf
    have hOwf := hOwe.keep1 hkwf hcwe5 (by decide)
    have hOf := hOe.keep1 hkwf hcwe5 (by decide)
    have hatg := hate.put hkwf hcwe5 (GCl_ne hOwe.at)
    have hcf := hkwf.heap hcwe (fun e => by omega)
    have hcaf := hkwf.heap hcae (fun e => by omega)
    have hk0f : Keeps NoB w wf := ((hk07.trans hk7d).trans' hkwe (fun q hq e => by omega)).trans' hkwf (fun q hq e => by omega)
    (repeat first | (apply wr_move; exact rfl; with_reducible (conv => enter [6, 3]; whnf)) | (apply wr_assign; exact rfl; with_reducible (conv => enter [6, 3]; whnf)) | apply wr_end | apply wc_seq | apply wc_region | apply wc_skip | (apply wr_cmp; (iterate 3 exact rfl); exact cmpF (by dsimp only [cmpN]; first | done | omega)) | (apply wr_add; (iterate 3 exact rfl); exact w_fit (by dsimp only [kIn]; first | done | omega)) | (apply wc_false; exact rfl))
    exact ⟨(i + 1, c, cw, at', av), by dsimp only; omega, ⟨by trivial, by dsimp only; omega, hOf, hOwf, ⟨tv, by dsimp only; rw [ht, decide_eq_true hi0, decide_eq_true (Nat.succ_pos i)]⟩, ⟨tw, by dsimp only; rw [htw, decide_eq_true hi0, decide_eq_true (Nat.succ_pos i)]⟩, hd, hdw, hatf, hatl, hatg, hcf, hcwf, hcaf, hk0f⟩, rfl, rfl, rfl, rfl, rfl, rfl, trivial⟩
  | false =>
    rw [hsm, if_neg (by decide)] at heA heB
    by_cases hi0 : 0 < i
    · have hsm2 : sameP at' W = false := by rw [decide_eq_true hi0, Bool.true_and] at hsm; exact hsm
      rcases hR with ⟨e, he, rfl⟩ | ⟨_, hR⟩
      focus
        rw [heA] at he; cases he
      obtain ⟨nv1, sub, uns, hav, rfl, hnv1, ⟨ls, hls, hsub⟩, ⟨lu, hlu, huns⟩, ⟨lh, hlh, hhav⟩⟩ := hR
      have hls : ls = listP (lessP W at') := by rw [hls, if_pos hd]; unfold moreL; rw [if_pos hd, ht]
      have hlu : lu = listP (lessP at' W) := by rw [hlu]; unfold lessL; rw [if_pos hd, ht]
      have hlh : lh = [] := by rw [hlh, if_pos hd]; unfold hadL; split <;> rfl
      subst hls hlu hlh
      have hOb1 : CliO wb w.heap.size (askC c 2 W nv1) := askC_O (hOa.keep hkb) 2 (own_down hnv1 hk0a.size) (by omega) hWf
      have ht1 : topicOf (askC c 2 W nv1) 2 = ((W, nv1), true, 0) := by rw [topicOf_ask hl1 (by decide), ht]
      have hd1 : (askC c 2 W nv1).1 = true := hd
      rw [show (if c.1 = true then 0 else (topicOf c 2).2.2) = 0 by rw [if_pos hd]]
      obtain ⟨c1, hc1⟩ : ∃ c1, c1 = askC c 2 W nv1 := ⟨_, rfl⟩
      rw [← hc1] at hOb1 ht1 hd1 ⊢
      have hl1' := hOb1.len
      clear hc1
      rw [hd]
      apply wr_move; exact rfl; with_reducible (conv => enter [6, 3]; whnf)
      apply wr_extract; (iterate 3 exact rfl); with_reducible (conv => enter [6, 3]; whnf)
      apply wr_extract; (iterate 3 exact rfl); with_reducible (conv => enter [6, 3]; whnf)
      apply wr_extract; (iterate 3 exact rfl); with_reducible (conv => enter [6, 3]; whnf)
      apply wr_alloc
      focus exact rfl
      refine wr_name ?_
      intro wxa hwwxa
      obtain ⟨bwxa, hbwxa⟩ : ∃ b, b = (wb).heap.size := ⟨_, rfl⟩
      have hkwxa : Keeps NoB wb wxa := by rw [hwwxa]; exact (Keeps.refl NoB wb).alloc _
      have hcwxa : (wxa).heap[bwxa]? = some (.cells (GCl (newC false)).toArray 32 (0, 0)) := by rw [hwwxa, hbwxa]; exact heap_alloc_same _ _
      rw [← hbwxa]
      clear hwwxa
      apply wr_alloc
      focus exact rfl
      refine wr_name ?_
      intro wxb hwwxb
      obtain ⟨bwxb, hbwxb⟩ : ∃ b, b = (wxa).heap.size := ⟨_, rfl⟩
      have hkwxb : Keeps NoB wxa wxb := by rw [hwwxb]; exact (Keeps.refl NoB wxa).alloc _
      have hcwxb : (wxb).heap[bwxb]? = some (.cells (zeroRq).toArray 42 (0, 0)) := by rw [hwwxb, hbwxb]; exact heap_alloc_same _ _
      rw [← hbwxb]
      clear hwwxb
      have hcawx := hkwxb.heap hcwxa (fun h => h)
      have hlrwx := lt_of_heap hcwxa
      refine wr_storeAll (cs := GCl (c1)) rfl rfl rfl (GCl_one hOb1.at) hcawx (GCl_len hl1') (rfl) ?_
      refine wr_name ?_
      intro wxc hwwxc
      have hkwxc : Keeps (· = bwxa) wxb wxc := by rw [hwwxc]; exact (Keeps.refl _ wxb).put _ (fun _ => rfl)
      have hcwxc : (wxc).heap[bwxa]? = some (.cells (GCl (c1)).toArray 32 (0, 0)) := by rw [hwwxc]; exact World.putObj_heap_same (lt_of_heap hcawx)
      clear hwwxc
      have hcbwx := hkwxc.heap hcwxb (fun e => by omega)
      refine wr_storeAll (cs := GRq 2 true 0 sub uns hav []) rfl rfl rfl (GRq_one (own_one hsub) (own_one huns) (own_one hhav)) hcbwx (rfl) (rfl) ?_
      refine wr_name ?_
      intro wxd hwwxd
      have hkwxd : Keeps (· = bwxb) wxc wxd := by rw [hwwxd]; exact (Keeps.refl _ wxc).put _ (fun _ => rfl)
      have hcwxd : (wxd).heap[bwxb]? = some (.cells (GRq 2 true 0 sub uns hav []).toArray 42 (0, 0)) := by rw [hwwxd]; exact World.putObj_heap_same (lt_of_heap hcbwx)
      clear hwwxd
      have hccwx := hkwxd.heap hcwxc (fun e => by omega)
      have hkkwx : Keeps NoB wb wxd := ((hkwxa.trans hkwxb).trans' hkwxc (fun i hi e => by omega)).trans' hkwxd (fun i hi e => by omega)
      have hk7x := hk7b.trans hkkwx
      have hkax := hkb.trans hkkwx
      (repeat first | (apply wr_assign; exact rfl; with_reducible (conv => enter [6, 3]; whnf)) | apply wr_end | apply wc_seq | apply wc_region)
      refine wr_loadAll (cs := GCl cw) rfl rfl rfl (hk7x.heap hcw (fun h => h)) (GCl_len hlw) ?_
      refine wr_loadAll (cs := [.bool W.1, nv]) rfl rfl rfl (hkax.heap hcwa (fun h => h)) rfl ?_
      refine wr_call (vs := [CliV cw, .int .i64 2, SetV W.1 nv, nilV]) rfl (ask_cb (hOw.keep hk7x).at (hE.keep (hk07.trans hk7x)) 2 (hWRa.keep hkax) hWf (by omega) (hv := []) (by decide) (slR_nilH _)) rfl ?_
      rintro v wc ⟨hR2, hkc⟩
      rcases hR2 with ⟨e, he, rfl⟩ | ⟨_, hR2⟩
      focus
        rw [heB] at he; cases he
      obtain ⟨nv2, sub2, uns2, hav2, rfl, hnv2, ⟨ls2, hls2, hsub2⟩, ⟨lu2, hlu2, huns2⟩, ⟨lh2, hlh2, hhav2⟩⟩ := hR2
      have hnw : ¬ cw.1 = true := by rw [hdw]; decide
      have hls2 : ls2 = listP W := by rw [hls2, if_neg hnw]
      have hlu2 : lu2 = [] := by rw [hlu2]; unfold lessL; rw [if_neg hnw]
      have hlh2 : lh2 = [] := by rw [hlh2, if_neg hnw]
      subst hls2 hlu2 hlh2
      have hOc1 : CliO wc w.heap.size (askC cw 2 W nv2) := askC_O ((hOw.keep hk7x).keep hkc) 2 (own_down hnv2 (hk07.trans hk7x).size) (by omega) hWf
      have ht2 : topicOf (askC cw 2 W nv2) 2 = ((W, nv2), true, 0) := by rw [topicOf_ask hlw (by decide), htw]
      have hd2 : (askC cw 2 W nv2).1 = false := hdw
      rw [show (if cw.1 = true then 0 else (topicOf cw 2).2.2) = 0 by rw [if_neg hnw, htw]]
      obtain ⟨c2, hc2⟩ : ∃ c2, c2 = askC cw 2 W nv2 := ⟨_, rfl⟩
      rw [← hc2] at hOc1 ht2 hd2 ⊢
      have hl2' := hOc1.len
      clear hc2
      rw [hdw]
      apply wr_move; exact rfl; with_reducible (conv => enter [6, 3]; whnf)
      apply wr_extract; (iterate 3 exact rfl); with_reducible (conv => enter [6, 3]; whnf)
      apply wr_extract; (iterate 3 exact rfl); with_reducible (conv => enter [6, 3]; whnf)
      apply wr_extract; (iterate 3 exact rfl); with_reducible (conv => enter [6, 3]; whnf)
      apply wr_alloc
      focus exact rfl
      refine wr_name ?_
      intro wya hwwya
      obtain ⟨bwya, hbwya⟩ : ∃ b, b = (wc).heap.size := ⟨_, rfl⟩
      have hkwya : Keeps NoB wc wya := by rw [hwwya]; exact (Keeps.refl NoB wc).alloc _
      have hcwya : (wya).heap[bwya]? = some (.cells (GCl (newC false)).toArray 32 (0, 0)) := by rw [hwwya, hbwya]; exact heap_alloc_same _ _
      rw [← hbwya]
      clear hwwya
      apply wr_alloc
      focus exact rfl
      refine wr_name ?_
      intro wyb hwwyb
      obtain ⟨bwyb, hbwyb⟩ : ∃ b, b = (wya).heap.size := ⟨_, rfl⟩
      have hkwyb : Keeps NoB wya wyb := by rw [hwwyb]; exact (Keeps.refl NoB wya).alloc _
      have hcwyb : (wyb).heap[bwyb]? = some (.cells (zeroRq).toArray 42 (0, 0)) := by rw [hwwyb, hbwyb]; exact heap_alloc_same _ _
      rw [← hbwyb]
      clear hwwyb
      have hcawy := hkwyb.heap hcwya (fun h => h)
      have hlrwy := lt_of_heap hcwya
      refine wr_storeAll (cs := GCl (c2)) rfl rfl rfl (GCl_one hOc1.at) hcawy (GCl_len hl2') (rfl) ?_
      refine wr_name ?_
      intro wyc hwwyc
      have hkwyc : Keeps (· = bwya) wyb wyc := by rw [hwwyc]; exact (Keeps.refl _ wyb).put _ (fun _ => rfl)
      have hcwyc : (wyc).heap[bwya]? = some (.cells (GCl (c2)).toArray 32 (0, 0)) := by rw [hwwyc]; exact World.putObj_heap_same (lt_of_heap hcawy)
      clear hwwyc
      have hcbwy := hkwyc.heap hcwyb (fun e => by omega)
      refine wr_storeAll (cs := GRq 2 false 0 sub2 uns2 hav2 []) rfl rfl rfl (GRq_one (own_one hsub2) (own_one huns2) (own_one hhav2)) hcbwy (rfl) (rfl) ?_
      refine wr_name ?_
      intro wyd hwwyd
      have hkwyd : Keeps (· = bwyb) wyc wyd := by rw [hwwyd]; exact (Keeps.refl _ wyc).put _ (fun _ => rfl)
      have hcwyd : (wyd).heap[bwyb]? = some (.cells (GRq 2 false 0 sub2 uns2 hav2 []).toArray 42 (0, 0)) := by rw [hwwyd]; exact World.putObj_heap_same (lt_of_heap hcbwy)
      clear hwwyd
      have hccwy := hkwyd.heap hcwyc (fun e => by omega)
      have hkkwy : Keeps NoB wc wyd := ((hkwya.trans hkwyb).trans' hkwyc (fun i hi e => by omega)).trans' hkwyd (fun i hi e => by omega)
      have hk7y := (hk7x.trans hkc).trans hkkwy
      have hkay := (hkax.trans hkc).trans hkkwy
      have hkxy := hkc.trans hkkwy
      have hzab := (hkwa.trans hkb).size
      have hzbc := (hkkwx.trans hkc).size
      (repeat first | (apply wr_move; exact rfl; with_reducible (conv => enter [6, 3]; whnf)) | (apply wr_assign; exact rfl; with_reducible (conv => enter [6, 3]; whnf)) | apply wr_end | apply wc_seq | apply wc_region | (apply wr_cmp; (iterate 3 exact rfl); exact cmpT (by dsimp only [cmpP]; first | done | omega)) | (apply wr_cmp; (iterate 3 exact rfl); exact cmpF (by dsimp only [cmpN]; first | done | omega)))
      refine wr_loadAll (cs := [.bool at'.1, av]) rfl rfl rfl (hk7y.heap hca (fun h => h)) rfl ?_
      refine wr_loadAll (cs := [.bool W.1, nv]) rfl rfl rfl (hkay.heap hcwa (fun h => h)) rfl ?_
      refine wr_call (vs := [SetV at'.1 av, SetV W.1 nv]) rfl (same_cb false hsm2 (hatR.keep hk7y) (hWRa.keep hkay) (by omega) (by omega)) rfl ?_
      rintro v wd ⟨rfl, hkd⟩
      (repeat first | (apply wr_pick (t := true); (iterate 2 exact rfl); with_reducible (conv => enter [6, 3]; whnf)))
      refine wr_boolNe (c := false) rfl rfl rfl rfl ?_
      have hk7d := hk7y.trans hkd
      have hkxd := hkxy.trans hkd
      have hOd := hO.keep hk7d
      have hOwd := hOw.keep hk7d
      have hatd := hatR.keep hk7d
      have hcd := hk7d.heap hc (fun h => h)
      have hcwd := hk7d.heap hcw (fun h => h)
      have hcad := hk7d.heap hca (fun h => h)
      have hO1d := (hOb1.keep hkkwx).keep hkxd
      have hO2d := (hOc1.keep hkkwy).keep hkd
      have hWad := own_keep hnva (hkay.trans hkd) (fun _ _ h => h)
      have hs1d := own_keep (own_keep hsub hkkwx (fun _ _ h => h)) hkxd (fun _ _ h => h)
      have hu1d := own_keep (own_keep huns hkkwx (fun _ _ h => h)) hkxd (fun _ _ h => h)
      have hh1d := own_keep (own_keep hhav hkkwx (fun _ _ h => h)) hkxd (fun _ _ h => h)
      have hs2d := own_keep (own_keep hsub2 hkkwy (fun _ _ h => h)) hkd (fun _ _ h => h)
      have hu2d := own_keep (own_keep huns2 hkkwy (fun _ _ h => h)) hkd (fun _ _ h => h)
      have hh2d := own_keep (own_keep hhav2 hkkwy (fun _ _ h => h)) hkd (fun _ _ h => h)
      (repeat first | (apply wr_move; exact rfl; with_reducible (conv => enter [6, 3]; whnf)) | apply wr_end | apply wc_seq | apply wc_region | apply wc_skip | (apply wr_cmp; (iterate 3 exact rfl); exact cmpF (by dsimp only [cmpN]; first | done | omega)) | (apply wr_pick (t := false); (iterate 2 exact rfl); with_reducible (conv => enter [6, 3]; whnf)) | (apply wc_false; exact rfl) | (apply wr_skip; exact rfl))
      refine wr_loadAll (cs := GCl c1) rfl rfl rfl (hkxd.heap hccwx (fun h => h)) (GCl_len hl1') ?_
      refine wr_storeAll (cs := GCl c1) rfl rfl rfl (GCl_one hO1d.at) hcd (GCl_len hl1') (GCl_len hl1) ?_
      refine wr_name ?_
      intro we hwwe
      have hkwe : Keeps (· = bw3) wd we := by rw [hwwe]; exact (Keeps.refl _ wd).put _ (fun _ => rfl)
      have hcwe : (we).heap[bw3]? = some (.cells (GCl c1).toArray 32 (0, 0)) := by rw [hwwe]; exact World.putObj_heap_same (lt_of_heap hcd)
      clear hwwe
      have hO2e := hO2d.keep1 hkwe hcd (by decide)
      have hO1e := hO1d.keep1 hkwe hcd (by decide)
      have hate := hatd.put hkwe hcd (GCl_ne hOd.at)
      have hcwe5 := hkwe.heap hcwd (fun e => by omega)
      have hcae := hkwe.heap hcad (fun e => by omega)
      (repeat first | apply wr_end | apply wc_seq | apply wc_region)
      refine wr_loadAll (cs := GCl c2) rfl rfl rfl (hkwe.heap (hkd.heap hccwy (fun h => h)) (fun e => by omega)) (GCl_len hl2') ?_
      refine wr_storeAll (cs := GCl c2) rfl rfl rfl (GCl_one hO2e.at) hcwe5 (GCl_len hl2') (GCl_len hlw) ?_
      refine wr_name ?_
      intro wf hwwf
      have hkwf : Keeps (· = bw5) we wf := by rw [hwwf]; exact (Keeps.refl _ we).put _ (fun _ => rfl)
      have hcwf : (wf).heap[bw5]? = some (.cells (GCl c2).toArray 32 (0, 0)) := by rw [hwwf]; exact World.putObj_heap_same (lt_of_heap hcwe5)
      clear hwwf
      have hO2f := hO2e.keep1 hkwf hcwe5 (by decide)
      have hO1f := hO1e.keep1 hkwf hcwe5 (by decide)
      have hatg := hate.put hkwf hcwe5 (GCl_ne (hOwd.keep1 hkwe hcd (by decide)).at)
      have hcf := hkwf.heap hcwe (fun e => by omega)
      have hcaf := hkwf.heap hcae (fun e => by omega)
      have hk0f : Keeps NoB w wf := ((hk07.trans hk7d).trans' hkwe (fun q hq e => by omega)).trans' hkwf (fun q hq e => by omega)
      have mv : ∀ {T : TypeId} {base sz m : Nat} {v : Value} {xs : List Value}, wd.ownsRow base T sz v m xs → T ≠ 32 → wf.ownsRow base T sz v m xs := fun ho hT => by
        have o1 := own_keep ho hkwe (V.F.own_neT ho hcd hT)
        exact own_keep o1 hkwf (V.F.own_neT o1 hcwe5 hT)
      have hWf' := mv hWad (by decide)
      have hs1 := mv hs1d (by decide)
      have hu1 := mv hu1d (by decide)
      have hh1 := mv hh1d (by decide)
      have hs2 := mv hs2d (by decide)
      have hu2 := mv hu2d (by decide)
      have hh2 := mv hh2d (by decide)
      have hcWf := hkwf.heap (hkwe.heap ((hkay.trans hkd).heap hcwa (fun h => h)) (fun e => by omega)) (fun e => by omega)
      have hr1 := hkwf.heap (hkwe.heap (hkxd.heap hcwxd (fun h => h)) (fun e => by omega)) (fun e => by omega)
      have hr2 := hkwf.heap (hkwe.heap (hkd.heap hcwyd (fun h => h)) (fun e => by omega)) (fun e => by omega)
      have hll1 := listP_le (lessP W at')
      have hll2 := lessP_le W at'
      have hll3 := listP_le (lessP at' W)
      have hll4 := lessP_le at' W
      have hll5 := listP_le W
      have hk0 : ∀ {w'}, Keeps NoB wf.drew w' → Keeps NoB wf w' := fun hk => (Keeps.refl NoB wf).drew.trans hk
      (repeat first | (apply wr_move; exact rfl; with_reducible (conv => enter [6, 3]; whnf)) | apply wr_end | apply wc_seq | apply wc_region | (apply wr_cmp; (iterate 3 exact rfl); exact cmpT (by dsimp only [cmpP]; first | done | omega)) | (apply wc_true; exact rfl))
      refine wc_drawP (l := _) 7 _ (by kernel_rfl) (by kernel_rfl) rfl (by kernel_rfl) (by kernel_rfl) (by decide) ?_
      apply chP_pure
      focus
        intro xx w' hk hF
        refine wr_loadAll (cs := [.bool at'.1, av]) rfl rfl rfl ((hk0 hk).heap hcaf (fun h => h)) rfl ?_
        apply wr_nil
        exact ⟨rfl, Keeps.refl _ _⟩
      focus (intro xx yy h; rfl)
      focus kernel_rfl
      apply chP_pure
      focus
        intro xx w' hk hF
        refine wr_fieldAddr rfl rfl ?_
        apply wr_nil
        exact ⟨rfl, Keeps.refl _ _⟩
      focus (intro xx yy h; rfl)
      focus kernel_rfl
      apply chP_pure
      focus
        intro xx w' hk hF
        refine wr_load (v := sub) rfl rfl rfl ((hk0 hk).heap hr1 (fun h => h)) rfl ?_
        apply wr_nil
        exact ⟨rfl, Keeps.refl _ _⟩
      focus (intro xx yy h; rfl)
      focus kernel_rfl
      refine chP_fact (fun y => y) (fun y w' => SetR w' (unionP [at', ofP (listP (lessP W at'))]) y) (fun y w' w'' h k => h.keep k) ?_ ?_
      focus
        intro xx w' hk hF
        refine wr_call (vs := [SetV at'.1 av, sub]) rfl (add_ca at' (listP (lessP W at')) _ _ w' (hatg.keep (hk0 hk)) (SlR.of_own (own_keep hs1 (hk0 hk) (fun _ _ h => h))) (by omega) (by omega) (listP_ok (lessP_fine hWf))) rfl ?_
        rintro v w'' ⟨hR, hkc⟩
        apply wr_nil
        exact ⟨v, rfl, hR, hkc⟩
      apply chP_pure
      focus
        intro xx w' hk hF
        refine wr_fieldAddr rfl rfl ?_
        apply wr_nil
        exact ⟨rfl, Keeps.refl _ _⟩
      focus (intro xx yy h; rfl)
      focus kernel_rfl
      apply chP_pure
      focus
        intro xx w' hk hF
        refine wr_load (v := uns) rfl rfl rfl ((hk0 hk).heap hr1 (fun h => h)) rfl ?_
        apply wr_nil
        exact ⟨rfl, Keeps.refl _ _⟩
      focus (intro xx yy h; rfl)
      focus kernel_rfl
      refine chP_fact (fun y => y) (fun y w' => SetR w' (lessP (unionP [at', ofP (listP (lessP W at'))]) (ofP (listP (lessP at' W)))) y) (fun y w' w'' h k => h.keep k) ?_ ?_
      focus
        intro xx w' hk hF
        refine wr_call (vs := [xx 3, uns]) rfl (drop_ca (unionP [at', ofP (listP (lessP W at'))]) (listP (lessP at' W)) _ _ w' (hF 3 (by kernel_rfl)) (SlR.of_own (own_keep hu1 (hk0 hk) (fun _ _ h => h))) (by have := unionP_le [at', ofP (listP (lessP W at'))]; have := ofP_le (listP (lessP W at')); simp only [List.flatMap_cons, List.flatMap_nil, List.append_nil, List.length_append] at *; omega) (by omega) (listP_ok (lessP_fine hatf))) rfl ?_
        rintro v w'' ⟨hR, hkc⟩
        apply wr_nil
        exact ⟨v, rfl, hR, hkc⟩
      refine chP_nil ?_
      intro xx wg hkg hF
      have hkfg := hk0 hkg
      obtain ⟨nvg, hxg, hsg⟩ : SetR wg (lessP (unionP [at', ofP (listP (lessP W at'))]) (ofP (listP (lessP at' W)))) (xx 6) := hF 6 (by decide)
      clear hF
      rw [delta_step hatf hWf] at hxg hsg
      have hsg1 : SetR wg W (SetV W.1 nvg) := ⟨nvg, rfl, hsg⟩
      have hcag := hkfg.heap hcaf (fun h => h)
      dsimp only [Nat.reduceAdd]
      rw [hxg]
      clear hxg hsg
      skip
      refine wr_storeAll (cs := [.bool W.1, nvg]) rfl rfl rfl (by intro u hu; simp at hu; rcases hu with rfl | rfl; rfl; exact hsg1.one.1) hcag (rfl) (rfl) ?_
      refine wr_name ?_
      intro wh hwwh
      have hkwh : Keeps (· = bw6) wg wh := by rw [hwwh]; exact (Keeps.refl _ wg).put _ (fun _ => rfl)
      have hcwh : (wh).heap[bw6]? = some (.cells ([.bool W.1, nvg]).toArray 26 (0, 0)) := by rw [hwwh]; exact World.putObj_heap_same (lt_of_heap hcag)
      clear hwwh
      have hath := hsg1.put hkwh hcag (setCells_ne _ _ hatR.one.2)
      have mv2 : ∀ {T : TypeId} {base sz m : Nat} {v : Value} {xs : List Value}, wf.ownsRow base T sz v m xs → T ≠ 26 → wh.ownsRow base T sz v m xs := fun ho hT => by
        have o1 := own_keep ho hkfg (fun _ _ h => h)
        exact own_keep o1 hkwh (V.F.own_neT o1 hcag hT)
      have hWh := mv2 hWf' (by decide)
      have hs1h := mv2 hs1 (by decide)
      have hu1h := mv2 hu1 (by decide)
      have hh1h := mv2 hh1 (by decide)
      have hs2h := mv2 hs2 (by decide)
      have hu2h := mv2 hu2 (by decide)
      have hh2h := mv2 hh2 (by decide)
      have hO1h := (hO1f.keep hkfg).keep1 hkwh hcag (by decide)
      have hO2h := (hO2f.keep hkfg).keep1 hkwh hcag (by decide)
      have hch := hkwh.heap (hkfg.heap hcf (fun h => h)) (fun e => by omega)
      have hcwh2 := hkwh.heap (hkfg.heap hcwf (fun h => h)) (fun e => by omega)
      have hcWh := hkwh.heap (hkfg.heap hcWf (fun h => h)) (fun e => by omega)
      have hr1h := hkwh.heap (hkfg.heap hr1 (fun h => h)) (fun e => by omega)
      have hr2h := hkwh.heap (hkfg.heap hr2 (fun h => h)) (fun e => by omega)
      have hk0h : Keeps NoB w wh := (hk0f.trans hkfg).trans' hkwh (fun q hq e => by omega)
      clear hk0
      have hk0 : ∀ {w'}, Keeps NoB wh.drew w' → Keeps NoB wh w' := fun hk => (Keeps.refl NoB wh).drew.trans hk
      have hWR : ∀ {w'}, Keeps NoB wh w' → SetR w' W (SetV W.1 nv) := fun hk => ⟨nv, rfl, SlR.of_own (own_keep hWh hk (fun _ _ h => h))⟩
      have rd : ∀ {T : TypeId} {base sz m : Nat} {v : Value} {xs : List Value} {w' : World}, wh.ownsRow base T sz v m xs → Keeps NoB wh w' → SlR w' sz v m xs := fun ho hk => SlR.of_own (own_keep ho hk (fun _ _ h => h))
      (repeat first | apply wr_end | apply wc_seq)
      refine wc_drawP (l := _) 22 _ (by kernel_rfl) (by kernel_rfl) rfl (by kernel_rfl) (by kernel_rfl) (by decide) ?_
      apply chP_pure
      focus
        intro xx w' hk hF
        refine wr_loadAll (cs := [.bool W.1, nvg]) rfl rfl rfl ((hk0 hk).heap hcwh (fun h => h)) rfl ?_
        apply wr_nil
        exact ⟨rfl, Keeps.refl _ _⟩
      focus (intro xx yy h; rfl)
      focus kernel_rfl
      apply chP_pure
      focus
        intro xx w' hk hF
        refine wr_loadAll (cs := [.bool W.1, nv]) rfl rfl rfl ((hk0 hk).heap hcWh (fun h => h)) rfl ?_
        apply wr_nil
        exact ⟨rfl, Keeps.refl _ _⟩
      focus (intro xx yy h; rfl)
      focus kernel_rfl
      apply chP_pure
      focus
        intro xx w' hk hF
        refine wr_call (vs := [SetV W.1 nvg, SetV W.1 nv]) rfl (same_cb true (sameP_self W) (hath.keep (hk0 hk)) (hWR (hk0 hk)) (by omega) (by omega)) rfl ?_
        rintro v w'' ⟨rfl, hkc⟩
        apply wr_nil
        exact ⟨rfl, hkc⟩
      focus (intro xx yy h; rfl)
      focus kernel_rfl
      apply chP_pure
      focus
        intro xx w' hk hF
        apply wr_not; iterate 2 exact rfl
        apply wr_nil
        exact ⟨rfl, Keeps.refl _ _⟩
      focus (intro xx yy h; rfl)
      focus kernel_rfl
      apply chP_pure
      focus
        intro xx w' hk hF
        apply wr_move; exact rfl; with_reducible (conv => enter [6, 3]; whnf)
        apply wr_nil
        exact ⟨rfl, Keeps.refl _ _⟩
      focus (intro xx yy h; rfl)
      focus kernel_rfl
      apply chP_pure
      focus
        intro xx w' hk hF
        refine wr_fieldAddr rfl rfl ?_
        apply wr_nil
        exact ⟨rfl, Keeps.refl _ _⟩
      focus (intro xx yy h; rfl)
      focus kernel_rfl
      apply chP_pure
      focus
        intro xx w' hk hF
        refine wr_load (v := sub2) rfl rfl rfl ((hk0 hk).heap hr2h (fun h => h)) rfl ?_
        apply wr_nil
        exact ⟨rfl, Keeps.refl _ _⟩
      focus (intro xx yy h; rfl)
      focus kernel_rfl
      refine chP_fact (fun y => y) (fun y w' => SetR w' W y) (fun y w' w'' h k => h.keep k) ?_ ?_
      focus
        intro xx w' hk hF
        refine wr_call (vs := [sub2]) rfl (ofR_ca hWf (by omega) (rd hs2h (hk0 hk))) rfl ?_
        rintro v w'' ⟨hR, hkc⟩
        apply wr_nil
        exact ⟨v, rfl, hR, hkc⟩
      apply chP_pure
      focus
        intro xx w' hk hF
        refine wr_loadAll (cs := [.bool W.1, nv]) rfl rfl rfl ((hk0 hk).heap hcWh (fun h => h)) rfl ?_
        apply wr_nil
        exact ⟨rfl, Keeps.refl _ _⟩
      focus (intro xx yy h; rfl)
      focus kernel_rfl
      apply chP_pure
      focus
        intro xx w' hk hF
        refine wr_call (vs := [xx 7, SetV W.1 nv]) rfl (same_cb true (sameP_self W) (hF 7 (by kernel_rfl)) (hWR (hk0 hk)) (by omega) (by omega)) rfl ?_
        rintro v w'' ⟨rfl, hkc⟩
        apply wr_nil
        exact ⟨rfl, hkc⟩
      focus (intro xx yy h; rfl)
      focus kernel_rfl
      apply chP_pure
      focus
        intro xx w' hk hF
        apply wr_not; iterate 2 exact rfl
        apply wr_nil
        exact ⟨rfl, Keeps.refl _ _⟩
      focus (intro xx yy h; rfl)
      focus kernel_rfl
      apply chP_pure
      focus
        intro xx w' hk hF
        apply wr_pick (t := false); (iterate 2 exact rfl); with_reducible (conv => enter [6, 3]; whnf)
        apply wr_nil
        exact ⟨rfl, Keeps.refl _ _⟩
      focus (intro xx yy h; rfl)
      focus kernel_rfl
      apply chP_pure
      focus
        intro xx w' hk hF
        apply wr_move; exact rfl; with_reducible (conv => enter [6, 3]; whnf)
        apply wr_nil
        exact ⟨rfl, Keeps.refl _ _⟩
      focus (intro xx yy h; rfl)
      focus kernel_rfl
      apply chP_pure
      focus
        intro xx w' hk hF
        refine wr_loadAll (cs := GRq 2 true 0 sub uns hav []) rfl rfl rfl ((hk0 hk).heap hr1h (fun h => h)) rfl ?_
        apply wr_nil
        exact ⟨rfl, Keeps.refl _ _⟩
      focus (intro xx yy h; rfl)
      focus kernel_rfl
      apply chP_pure
      focus
        intro xx w' hk hF
        refine wr_call (vs := [.agg (GRq 2 true 0 sub uns hav []).toArray]) rfl (rightReq_ok (ls := listP (lessP W at')) (lu := listP (lessP at' W)) (lh := []) (by decide) (rd hs1h (hk0 hk)) (rd hu1h (hk0 hk)) (rd hh1h (hk0 hk)) (by omega) (by omega) (by decide) (fun x hx => starB_list (lessP_fine hWf) x hx) (fun x hx => starB_list (lessP_fine hatf) x hx) (by intro x hx; cases hx) (by decide) (fun h => by cases h)) rfl ?_
        rintro v w'' ⟨rfl, hkc⟩
        apply wr_nil
        exact ⟨rfl, hkc⟩
      focus (intro xx yy h; rfl)
      focus kernel_rfl
      apply chP_pure
      focus
        intro xx w' hk hF
        apply wr_not; iterate 2 exact rfl
        apply wr_nil
        exact ⟨rfl, Keeps.refl _ _⟩
      focus (intro xx yy h; rfl)
      focus kernel_rfl
      apply chP_pure
      focus
        intro xx w' hk hF
        apply wr_pick (t := false); (iterate 2 exact rfl); with_reducible (conv => enter [6, 3]; whnf)
        apply wr_nil
        exact ⟨rfl, Keeps.refl _ _⟩
      focus (intro xx yy h; rfl)
      focus kernel_rfl
      apply chP_pure
      focus
        intro xx w' hk hF
        apply wr_move; exact rfl; with_reducible (conv => enter [6, 3]; whnf)
        apply wr_nil
        exact ⟨rfl, Keeps.refl _ _⟩
      focus (intro xx yy h; rfl)
      focus kernel_rfl
      apply chP_pure
      focus
        intro xx w' hk hF
        refine wr_loadAll (cs := GRq 2 false 0 sub2 uns2 hav2 []) rfl rfl rfl ((hk0 hk).heap hr2h (fun h => h)) rfl ?_
        apply wr_nil
        exact ⟨rfl, Keeps.refl _ _⟩
      focus (intro xx yy h; rfl)
      focus kernel_rfl
      apply chP_pure
      focus
        intro xx w' hk hF
        refine wr_call (vs := [.agg (GRq 2 false 0 sub2 uns2 hav2 []).toArray]) rfl (rightReq_ok (ls := listP W) (lu := []) (lh := []) (by decide) (rd hs2h (hk0 hk)) (rd hu2h (hk0 hk)) (rd hh2h (hk0 hk)) (by omega) (by decide) (by decide) (fun x hx => starB_list hWf x hx) (by intro x hx; cases hx) (by intro x hx; cases hx) (by decide) (fun _ => ⟨rfl, rfl⟩)) rfl ?_
        rintro v w'' ⟨rfl, hkc⟩
        apply wr_nil
        exact ⟨rfl, hkc⟩
      focus (intro xx yy h; rfl)
      focus kernel_rfl
      apply chP_pure
      focus
        intro xx w' hk hF
        apply wr_not; iterate 2 exact rfl
        apply wr_nil
        exact ⟨rfl, Keeps.refl _ _⟩
      focus (intro xx yy h; rfl)
      focus kernel_rfl
      apply chP_pure
      focus
        intro xx w' hk hF
        apply wr_pick (t := false); (iterate 2 exact rfl); with_reducible (conv => enter [6, 3]; whnf)
        apply wr_nil
        exact ⟨rfl, Keeps.refl _ _⟩
      focus (intro xx yy h; rfl)
      focus kernel_rfl
      refine chP_nil ?_
      intro xx wi hki hF
      clear hF
      have hkhi := hk0 hki
      (repeat first | (apply wr_move; exact rfl; with_reducible (conv => enter [6, 3]; whnf)) | (apply wr_assign; exact rfl; with_reducible (conv => enter [6, 3]; whnf)) | apply wr_end | apply wc_region | apply wc_skip | (apply wr_add; (iterate 3 exact rfl); exact w_fit (by dsimp only [kIn]; first | done | omega)) | (apply wc_false; exact rfl))
      exact ⟨(i + 1, c1, c2, W, nvg), by dsimp only; omega, ⟨by trivial, by dsimp only; omega, hO1h.keep hkhi, hO2h.keep hkhi, ⟨nv1, by dsimp only; rw [ht1, decide_eq_true (Nat.succ_pos i)]⟩, ⟨nv2, by dsimp only; rw [ht2, decide_eq_true (Nat.succ_pos i)]⟩, hd1, hd2, hWf, hWl, hath.keep hkhi, hkhi.heap hch (fun h => h), hkhi.heap hcwh2 (fun h => h), hkhi.heap hcwh (fun h => h), hk0h.trans hkhi⟩, rfl, rfl, rfl, rfl, rfl, rfl, trivial⟩
    · skip
      rcases hR with ⟨e, he, rfl⟩ | ⟨_, hR⟩
      focus
        rw [heA] at he; cases he
      obtain ⟨nv1, sub, uns, hav, rfl, hnv1, ⟨ls, hls, hsub⟩, ⟨lu, hlu, huns⟩, ⟨lh, hlh, hhav⟩⟩ := hR
      have hls : ls = listP (lessP W at') := by rw [hls, if_pos hd]; unfold moreL; rw [if_pos hd, ht]
      have hlu : lu = listP (lessP at' W) := by rw [hlu]; unfold lessL; rw [if_pos hd, ht]
      have hlh : lh = [] := by rw [hlh, if_pos hd]; unfold hadL; split <;> rfl
      subst hls hlu hlh
      have hOb1 : CliO wb w.heap.size (askC c 2 W nv1) := askC_O (hOa.keep hkb) 2 (own_down hnv1 hk0a.size) (by omega) hWf
      have ht1 : topicOf (askC c 2 W nv1) 2 = ((W, nv1), true, 0) := by rw [topicOf_ask hl1 (by decide), ht]
      have hd1 : (askC c 2 W nv1).1 = true := hd
      rw [show (if c.1 = true then 0 else (topicOf c 2).2.2) = 0 by rw [if_pos hd]]
      obtain ⟨c1, hc1⟩ : ∃ c1, c1 = askC c 2 W nv1 := ⟨_, rfl⟩
      rw [← hc1] at hOb1 ht1 hd1 ⊢
      have hl1' := hOb1.len
      clear hc1
      rw [hd]
      apply wr_move; exact rfl; with_reducible (conv => enter [6, 3]; whnf)
      apply wr_extract; (iterate 3 exact rfl); with_reducible (conv => enter [6, 3]; whnf)
      apply wr_extract; (iterate 3 exact rfl); with_reducible (conv => enter [6, 3]; whnf)
      apply wr_extract; (iterate 3 exact rfl); with_reducible (conv => enter [6, 3]; whnf)
      apply wr_alloc
      focus exact rfl
      refine wr_name ?_
      intro wxa hwwxa
      obtain ⟨bwxa, hbwxa⟩ : ∃ b, b = (wb).heap.size := ⟨_, rfl⟩
      have hkwxa : Keeps NoB wb wxa := by rw [hwwxa]; exact (Keeps.refl NoB wb).alloc _
      have hcwxa : (wxa).heap[bwxa]? = some (.cells (GCl (newC false)).toArray 32 (0, 0)) := by rw [hwwxa, hbwxa]; exact heap_alloc_same _ _
      rw [← hbwxa]
      clear hwwxa
      apply wr_alloc
      focus exact rfl
      refine wr_name ?_
      intro wxb hwwxb
      obtain ⟨bwxb, hbwxb⟩ : ∃ b, b = (wxa).heap.size := ⟨_, rfl⟩
      have hkwxb : Keeps NoB wxa wxb := by rw [hwwxb]; exact (Keeps.refl NoB wxa).alloc _
      have hcwxb : (wxb).heap[bwxb]? = some (.cells (zeroRq).toArray 42 (0, 0)) := by rw [hwwxb, hbwxb]; exact heap_alloc_same _ _
      rw [← hbwxb]
      clear hwwxb
      have hcawx := hkwxb.heap hcwxa (fun h => h)
      have hlrwx := lt_of_heap hcwxa
      refine wr_storeAll (cs := GCl (c1)) rfl rfl rfl (GCl_one hOb1.at) hcawx (GCl_len hl1') (rfl) ?_
      refine wr_name ?_
      intro wxc hwwxc
      have hkwxc : Keeps (· = bwxa) wxb wxc := by rw [hwwxc]; exact (Keeps.refl _ wxb).put _ (fun _ => rfl)
      have hcwxc : (wxc).heap[bwxa]? = some (.cells (GCl (c1)).toArray 32 (0, 0)) := by rw [hwwxc]; exact World.putObj_heap_same (lt_of_heap hcawx)
      clear hwwxc
      have hcbwx := hkwxc.heap hcwxb (fun e => by omega)
      refine wr_storeAll (cs := GRq 2 true 0 sub uns hav []) rfl rfl rfl (GRq_one (own_one hsub) (own_one huns) (own_one hhav)) hcbwx (rfl) (rfl) ?_
      refine wr_name ?_
      intro wxd hwwxd
      have hkwxd : Keeps (· = bwxb) wxc wxd := by rw [hwwxd]; exact (Keeps.refl _ wxc).put _ (fun _ => rfl)
      have hcwxd : (wxd).heap[bwxb]? = some (.cells (GRq 2 true 0 sub uns hav []).toArray 42 (0, 0)) := by rw [hwwxd]; exact World.putObj_heap_same (lt_of_heap hcbwx)
      clear hwwxd
      have hccwx := hkwxd.heap hcwxc (fun e => by omega)
      have hkkwx : Keeps NoB wb wxd := ((hkwxa.trans hkwxb).trans' hkwxc (fun i hi e => by omega)).trans' hkwxd (fun i hi e => by omega)
      have hk7x := hk7b.trans hkkwx
      have hkax := hkb.trans hkkwx
      (repeat first | (apply wr_assign; exact rfl; with_reducible (conv => enter [6, 3]; whnf)) | apply wr_end | apply wc_seq | apply wc_region)
      refine wr_loadAll (cs := GCl cw) rfl rfl rfl (hk7x.heap hcw (fun h => h)) (GCl_len hlw) ?_
      refine wr_loadAll (cs := [.bool W.1, nv]) rfl rfl rfl (hkax.heap hcwa (fun h => h)) rfl ?_
      refine wr_call (vs := [CliV cw, .int .i64 2, SetV W.1 nv, nilV]) rfl (ask_cb (hOw.keep hk7x).at (hE.keep (hk07.trans hk7x)) 2 (hWRa.keep hkax) hWf (by omega) (hv := []) (by decide) (slR_nilH _)) rfl ?_
      rintro v wc ⟨hR2, hkc⟩
      rcases hR2 with ⟨e, he, rfl⟩ | ⟨_, hR2⟩
      focus
        rw [heB] at he; cases he
      obtain ⟨nv2, sub2, uns2, hav2, rfl, hnv2, ⟨ls2, hls2, hsub2⟩, ⟨lu2, hlu2, huns2⟩, ⟨lh2, hlh2, hhav2⟩⟩ := hR2
      have hnw : ¬ cw.1 = true := by rw [hdw]; decide
      have hls2 : ls2 = listP W := by rw [hls2, if_neg hnw]
      have hlu2 : lu2 = [] := by rw [hlu2]; unfold lessL; rw [if_neg hnw]
      have hlh2 : lh2 = [] := by rw [hlh2, if_neg hnw]
      subst hls2 hlu2 hlh2
      have hOc1 : CliO wc w.heap.size (askC cw 2 W nv2) := askC_O ((hOw.keep hk7x).keep hkc) 2 (own_down hnv2 (hk07.trans hk7x).size) (by omega) hWf
      have ht2 : topicOf (askC cw 2 W nv2) 2 = ((W, nv2), true, 0) := by rw [topicOf_ask hlw (by decide), htw]
      have hd2 : (askC cw 2 W nv2).1 = false := hdw
      rw [show (if cw.1 = true then 0 else (topicOf cw 2).2.2) = 0 by rw [if_neg hnw, htw]]
      obtain ⟨c2, hc2⟩ : ∃ c2, c2 = askC cw 2 W nv2 := ⟨_, rfl⟩
      rw [← hc2] at hOc1 ht2 hd2 ⊢
      have hl2' := hOc1.len
      clear hc2
      rw [hdw]
      apply wr_move; exact rfl; with_reducible (conv => enter [6, 3]; whnf)
      apply wr_extract; (iterate 3 exact rfl); with_reducible (conv => enter [6, 3]; whnf)
      apply wr_extract; (iterate 3 exact rfl); with_reducible (conv => enter [6, 3]; whnf)
      apply wr_extract; (iterate 3 exact rfl); with_reducible (conv => enter [6, 3]; whnf)
      apply wr_alloc
      focus exact rfl
      refine wr_name ?_
      intro wya hwwya
      obtain ⟨bwya, hbwya⟩ : ∃ b, b = (wc).heap.size := ⟨_, rfl⟩
      have hkwya : Keeps NoB wc wya := by rw [hwwya]; exact (Keeps.refl NoB wc).alloc _
      have hcwya : (wya).heap[bwya]? = some (.cells (GCl (newC false)).toArray 32 (0, 0)) := by rw [hwwya, hbwya]; exact heap_alloc_same _ _
      rw [← hbwya]
      clear hwwya
      apply wr_alloc
      focus exact rfl
      refine wr_name ?_
      intro wyb hwwyb
      obtain ⟨bwyb, hbwyb⟩ : ∃ b, b = (wya).heap.size := ⟨_, rfl⟩
      have hkwyb : Keeps NoB wya wyb := by rw [hwwyb]; exact (Keeps.refl NoB wya).alloc _
      have hcwyb : (wyb).heap[bwyb]? = some (.cells (zeroRq).toArray 42 (0, 0)) := by rw [hwwyb, hbwyb]; exact heap_alloc_same _ _
      rw [← hbwyb]
      clear hwwyb
      have hcawy := hkwyb.heap hcwya (fun h => h)
      have hlrwy := lt_of_heap hcwya
      refine wr_storeAll (cs := GCl (c2)) rfl rfl rfl (GCl_one hOc1.at) hcawy (GCl_len hl2') (rfl) ?_
      refine wr_name ?_
      intro wyc hwwyc
      have hkwyc : Keeps (· = bwya) wyb wyc := by rw [hwwyc]; exact (Keeps.refl _ wyb).put _ (fun _ => rfl)
      have hcwyc : (wyc).heap[bwya]? = some (.cells (GCl (c2)).toArray 32 (0, 0)) := by rw [hwwyc]; exact World.putObj_heap_same (lt_of_heap hcawy)
      clear hwwyc
      have hcbwy := hkwyc.heap hcwyb (fun e => by omega)
      refine wr_storeAll (cs := GRq 2 false 0 sub2 uns2 hav2 []) rfl rfl rfl (GRq_one (own_one hsub2) (own_one huns2) (own_one hhav2)) hcbwy (rfl) (rfl) ?_
      refine wr_name ?_
      intro wyd hwwyd
      have hkwyd : Keeps (· = bwyb) wyc wyd := by rw [hwwyd]; exact (Keeps.refl _ wyc).put _ (fun _ => rfl)
      have hcwyd : (wyd).heap[bwyb]? = some (.cells (GRq 2 false 0 sub2 uns2 hav2 []).toArray 42 (0, 0)) := by rw [hwwyd]; exact World.putObj_heap_same (lt_of_heap hcbwy)
      clear hwwyd
      have hccwy := hkwyd.heap hcwyc (fun e => by omega)
      have hkkwy : Keeps NoB wc wyd := ((hkwya.trans hkwyb).trans' hkwyc (fun i hi e => by omega)).trans' hkwyd (fun i hi e => by omega)
      have hk7y := (hk7x.trans hkc).trans hkkwy
      have hkay := (hkax.trans hkc).trans hkkwy
      have hkxy := hkc.trans hkkwy
      have hzab := (hkwa.trans hkb).size
      have hzbc := (hkkwx.trans hkc).size
      obtain ⟨wd, hwd⟩ : ∃ wd, wd = wyd := ⟨_, rfl⟩
      have hkd : Keeps NoB wyd wd := by rw [hwd]; exact Keeps.refl _ _
      rw [← hwd]
      clear hwd
      (repeat first | (apply wr_move; exact rfl; with_reducible (conv => enter [6, 3]; whnf)) | (apply wr_assign; exact rfl; with_reducible (conv => enter [6, 3]; whnf)) | apply wr_end | apply wc_seq | apply wc_region | (apply wr_cmp; (iterate 3 exact rfl); exact cmpF (by dsimp only [cmpN]; first | done | omega)) | (apply wr_pick (t := false); (iterate 2 exact rfl); with_reducible (conv => enter [6, 3]; whnf)) | (apply wr_skip; exact rfl))
      refine wr_boolNe (c := false) rfl rfl rfl rfl ?_
      have hk7d := hk7y.trans hkd
      have hkxd := hkxy.trans hkd
      have hOd := hO.keep hk7d
      have hOwd := hOw.keep hk7d
      have hatd := hatR.keep hk7d
      have hcd := hk7d.heap hc (fun h => h)
      have hcwd := hk7d.heap hcw (fun h => h)
      have hcad := hk7d.heap hca (fun h => h)
      have hO1d := (hOb1.keep hkkwx).keep hkxd
      have hO2d := (hOc1.keep hkkwy).keep hkd
      have hWad := own_keep hnva (hkay.trans hkd) (fun _ _ h => h)
      have hs1d := own_keep (own_keep hsub hkkwx (fun _ _ h => h)) hkxd (fun _ _ h => h)
      have hu1d := own_keep (own_keep huns hkkwx (fun _ _ h => h)) hkxd (fun _ _ h => h)
      have hh1d := own_keep (own_keep hhav hkkwx (fun _ _ h => h)) hkxd (fun _ _ h => h)
      have hs2d := own_keep (own_keep hsub2 hkkwy (fun _ _ h => h)) hkd (fun _ _ h => h)
      have hu2d := own_keep (own_keep huns2 hkkwy (fun _ _ h => h)) hkd (fun _ _ h => h)
      have hh2d := own_keep (own_keep hhav2 hkkwy (fun _ _ h => h)) hkd (fun _ _ h => h)
      (repeat first | (apply wr_move; exact rfl; with_reducible (conv => enter [6, 3]; whnf)) | apply wr_end | apply wc_seq | apply wc_region | apply wc_skip | (apply wr_cmp; (iterate 3 exact rfl); exact cmpF (by dsimp only [cmpN]; first | done | omega)) | (apply wr_pick (t := false); (iterate 2 exact rfl); with_reducible (conv => enter [6, 3]; whnf)) | (apply wc_false; exact rfl) | (apply wr_skip; exact rfl))
      refine wr_loadAll (cs := GCl c1) rfl rfl rfl (hkxd.heap hccwx (fun h => h)) (GCl_len hl1') ?_
      refine wr_storeAll (cs := GCl c1) rfl rfl rfl (GCl_one hO1d.at) hcd (GCl_len hl1') (GCl_len hl1) ?_
      refine wr_name ?_
      intro we hwwe
      have hkwe : Keeps (· = bw3) wd we := by rw [hwwe]; exact (Keeps.refl _ wd).put _ (fun _ => rfl)
      have hcwe : (we).heap[bw3]? = some (.cells (GCl c1).toArray 32 (0, 0)) := by rw [hwwe]; exact World.putObj_heap_same (lt_of_heap hcd)
      clear hwwe
      have hO2e := hO2d.keep1 hkwe hcd (by decide)
      have hO1e := hO1d.keep1 hkwe hcd (by decide)
      have hate := hatd.put hkwe hcd (GCl_ne hOd.at)
      have hcwe5 := hkwe.heap hcwd (fun e => by omega)
      have hcae := hkwe.heap hcad (fun e => by omega)
      (repeat first | apply wr_end | apply wc_seq | apply wc_region)
      refine wr_loadAll (cs := GCl c2) rfl rfl rfl (hkwe.heap (hkd.heap hccwy (fun h => h)) (fun e => by omega)) (GCl_len hl2') ?_
      refine wr_storeAll (cs := GCl c2) rfl rfl rfl (GCl_one hO2e.at) hcwe5 (GCl_len hl2') (GCl_len hlw) ?_
      refine wr_name ?_
      intro wf hwwf
      have hkwf : Keeps (· = bw5) we wf := by rw [hwwf]; exact (Keeps.refl _ we).put _ (fun _ => rfl)
      have hcwf : (wf).heap[bw5]? = some (.cells (GCl c2).toArray 32 (0, 0)) := by rw [hwwf]; exact World.putObj_heap_same (lt_of_heap hcwe5)
      clear hwwf
      have hO2f := hO2e.keep1 hkwf hcwe5 (by decide)
      have hO1f := hO1e.keep1 hkwf hcwe5 (by decide)
      have hatg := hate.put hkwf hcwe5 (GCl_ne (hOwd.keep1 hkwe hcd (by decide)).at)
      have hcf := hkwf.heap hcwe (fun e => by omega)
      have hcaf := hkwf.heap hcae (fun e => by omega)
      have hk0f : Keeps NoB w wf := ((hk07.trans hk7d).trans' hkwe (fun q hq e => by omega)).trans' hkwf (fun q hq e => by omega)
      have mv : ∀ {T : TypeId} {base sz m : Nat} {v : Value} {xs : List Value}, wd.ownsRow base T sz v m xs → T ≠ 32 → wf.ownsRow base T sz v m xs := fun ho hT => by
        have o1 := own_keep ho hkwe (V.F.own_neT ho hcd hT)
        exact own_keep o1 hkwf (V.F.own_neT o1 hcwe5 hT)
      have hWf' := mv hWad (by decide)
      have hs1 := mv hs1d (by decide)
      have hu1 := mv hu1d (by decide)
      have hh1 := mv hh1d (by decide)
      have hs2 := mv hs2d (by decide)
      have hu2 := mv hu2d (by decide)
      have hh2 := mv hh2d (by decide)
      have hcWf := hkwf.heap (hkwe.heap ((hkay.trans hkd).heap hcwa (fun h => h)) (fun e => by omega)) (fun e => by omega)
      have hr1 := hkwf.heap (hkwe.heap (hkxd.heap hcwxd (fun h => h)) (fun e => by omega)) (fun e => by omega)
      have hr2 := hkwf.heap (hkwe.heap (hkd.heap hcwyd (fun h => h)) (fun e => by omega)) (fun e => by omega)
      have hll1 := listP_le (lessP W at')
      have hll2 := lessP_le W at'
      have hll3 := listP_le (lessP at' W)
      have hll4 := lessP_le at' W
      have hll5 := listP_le W
      have hk0 : ∀ {w'}, Keeps NoB wf.drew w' → Keeps NoB wf w' := fun hk => (Keeps.refl NoB wf).drew.trans hk
      (repeat first | (apply wr_move; exact rfl; with_reducible (conv => enter [6, 3]; whnf)) | apply wr_end | apply wc_seq | apply wc_region | (apply wr_cmp; (iterate 3 exact rfl); exact cmpT (by dsimp only [cmpP]; first | done | omega)) | (apply wc_true; exact rfl))
      refine wc_drawP (l := _) 7 _ (by kernel_rfl) (by kernel_rfl) rfl (by kernel_rfl) (by kernel_rfl) (by decide) ?_
      apply chP_pure
      focus
        intro xx w' hk hF
        refine wr_loadAll (cs := [.bool at'.1, av]) rfl rfl rfl ((hk0 hk).heap hcaf (fun h => h)) rfl ?_
        apply wr_nil
        exact ⟨rfl, Keeps.refl _ _⟩
      focus (intro xx yy h; rfl)
      focus kernel_rfl
      apply chP_pure
      focus
        intro xx w' hk hF
        refine wr_fieldAddr rfl rfl ?_
        apply wr_nil
        exact ⟨rfl, Keeps.refl _ _⟩
      focus (intro xx yy h; rfl)
      focus kernel_rfl
      apply chP_pure
      focus
        intro xx w' hk hF
        refine wr_load (v := sub) rfl rfl rfl ((hk0 hk).heap hr1 (fun h => h)) rfl ?_
        apply wr_nil
        exact ⟨rfl, Keeps.refl _ _⟩
      focus (intro xx yy h; rfl)
      focus kernel_rfl
      refine chP_fact (fun y => y) (fun y w' => SetR w' (unionP [at', ofP (listP (lessP W at'))]) y) (fun y w' w'' h k => h.keep k) ?_ ?_
      focus
        intro xx w' hk hF
        refine wr_call (vs := [SetV at'.1 av, sub]) rfl (add_ca at' (listP (lessP W at')) _ _ w' (hatg.keep (hk0 hk)) (SlR.of_own (own_keep hs1 (hk0 hk) (fun _ _ h => h))) (by omega) (by omega) (listP_ok (lessP_fine hWf))) rfl ?_
        rintro v w'' ⟨hR, hkc⟩
        apply wr_nil
        exact ⟨v, rfl, hR, hkc⟩
      apply chP_pure
      focus
        intro xx w' hk hF
        refine wr_fieldAddr rfl rfl ?_
        apply wr_nil
        exact ⟨rfl, Keeps.refl _ _⟩
      focus (intro xx yy h; rfl)
      focus kernel_rfl
      apply chP_pure
      focus
        intro xx w' hk hF
        refine wr_load (v := uns) rfl rfl rfl ((hk0 hk).heap hr1 (fun h => h)) rfl ?_
        apply wr_nil
        exact ⟨rfl, Keeps.refl _ _⟩
      focus (intro xx yy h; rfl)
      focus kernel_rfl
      refine chP_fact (fun y => y) (fun y w' => SetR w' (lessP (unionP [at', ofP (listP (lessP W at'))]) (ofP (listP (lessP at' W)))) y) (fun y w' w'' h k => h.keep k) ?_ ?_
      focus
        intro xx w' hk hF
        refine wr_call (vs := [xx 3, uns]) rfl (drop_ca (unionP [at', ofP (listP (lessP W at'))]) (listP (lessP at' W)) _ _ w' (hF 3 (by kernel_rfl)) (SlR.of_own (own_keep hu1 (hk0 hk) (fun _ _ h => h))) (by have := unionP_le [at', ofP (listP (lessP W at'))]; have := ofP_le (listP (lessP W at')); simp only [List.flatMap_cons, List.flatMap_nil, List.append_nil, List.length_append] at *; omega) (by omega) (listP_ok (lessP_fine hatf))) rfl ?_
        rintro v w'' ⟨hR, hkc⟩
        apply wr_nil
        exact ⟨v, rfl, hR, hkc⟩
      refine chP_nil ?_
      intro xx wg hkg hF
      have hkfg := hk0 hkg
      obtain ⟨nvg, hxg, hsg⟩ : SetR wg (lessP (unionP [at', ofP (listP (lessP W at'))]) (ofP (listP (lessP at' W)))) (xx 6) := hF 6 (by decide)
      clear hF
      rw [delta_step hatf hWf] at hxg hsg
      have hsg1 : SetR wg W (SetV W.1 nvg) := ⟨nvg, rfl, hsg⟩
      have hcag := hkfg.heap hcaf (fun h => h)
      dsimp only [Nat.reduceAdd]
      rw [hxg]
      clear hxg hsg
      skip
      refine wr_storeAll (cs := [.bool W.1, nvg]) rfl rfl rfl (by intro u hu; simp at hu; rcases hu with rfl | rfl; rfl; exact hsg1.one.1) hcag (rfl) (rfl) ?_
      refine wr_name ?_
      intro wh hwwh
      have hkwh : Keeps (· = bw6) wg wh := by rw [hwwh]; exact (Keeps.refl _ wg).put _ (fun _ => rfl)
      have hcwh : (wh).heap[bw6]? = some (.cells ([.bool W.1, nvg]).toArray 26 (0, 0)) := by rw [hwwh]; exact World.putObj_heap_same (lt_of_heap hcag)
      clear hwwh
      have hath := hsg1.put hkwh hcag (setCells_ne _ _ hatR.one.2)
      have mv2 : ∀ {T : TypeId} {base sz m : Nat} {v : Value} {xs : List Value}, wf.ownsRow base T sz v m xs → T ≠ 26 → wh.ownsRow base T sz v m xs := fun ho hT => by
        have o1 := own_keep ho hkfg (fun _ _ h => h)
        exact own_keep o1 hkwh (V.F.own_neT o1 hcag hT)
      have hWh := mv2 hWf' (by decide)
      have hs1h := mv2 hs1 (by decide)
      have hu1h := mv2 hu1 (by decide)
      have hh1h := mv2 hh1 (by decide)
      have hs2h := mv2 hs2 (by decide)
      have hu2h := mv2 hu2 (by decide)
      have hh2h := mv2 hh2 (by decide)
      have hO1h := (hO1f.keep hkfg).keep1 hkwh hcag (by decide)
      have hO2h := (hO2f.keep hkfg).keep1 hkwh hcag (by decide)
      have hch := hkwh.heap (hkfg.heap hcf (fun h => h)) (fun e => by omega)
      have hcwh2 := hkwh.heap (hkfg.heap hcwf (fun h => h)) (fun e => by omega)
      have hcWh := hkwh.heap (hkfg.heap hcWf (fun h => h)) (fun e => by omega)
      have hr1h := hkwh.heap (hkfg.heap hr1 (fun h => h)) (fun e => by omega)
      have hr2h := hkwh.heap (hkfg.heap hr2 (fun h => h)) (fun e => by omega)
      have hk0h : Keeps NoB w wh := (hk0f.trans hkfg).trans' hkwh (fun q hq e => by omega)
      clear hk0
      have hk0 : ∀ {w'}, Keeps NoB wh.drew w' → Keeps NoB wh w' := fun hk => (Keeps.refl NoB wh).drew.trans hk
      have hWR : ∀ {w'}, Keeps NoB wh w' → SetR w' W (SetV W.1 nv) := fun hk => ⟨nv, rfl, SlR.of_own (own_keep hWh hk (fun _ _ h => h))⟩
      have rd : ∀ {T : TypeId} {base sz m : Nat} {v : Value} {xs : List Value} {w' : World}, wh.ownsRow base T sz v m xs → Keeps NoB wh w' → SlR w' sz v m xs := fun ho hk => SlR.of_own (own_keep ho hk (fun _ _ h => h))
      (repeat first | apply wr_end | apply wc_seq)
      refine wc_drawP (l := _) 22 _ (by kernel_rfl) (by kernel_rfl) rfl (by kernel_rfl) (by kernel_rfl) (by decide) ?_
      apply chP_pure
      focus
        intro xx w' hk hF
        refine wr_loadAll (cs := [.bool W.1, nvg]) rfl rfl rfl ((hk0 hk).heap hcwh (fun h => h)) rfl ?_
        apply wr_nil
        exact ⟨rfl, Keeps.refl _ _⟩
      focus (intro xx yy h; rfl)
      focus kernel_rfl
      apply chP_pure
      focus
        intro xx w' hk hF
        refine wr_loadAll (cs := [.bool W.1, nv]) rfl rfl rfl ((hk0 hk).heap hcWh (fun h => h)) rfl ?_
        apply wr_nil
        exact ⟨rfl, Keeps.refl _ _⟩
      focus (intro xx yy h; rfl)
      focus kernel_rfl
      apply chP_pure
      focus
        intro xx w' hk hF
        refine wr_call (vs := [SetV W.1 nvg, SetV W.1 nv]) rfl (same_cb true (sameP_self W) (hath.keep (hk0 hk)) (hWR (hk0 hk)) (by omega) (by omega)) rfl ?_
        rintro v w'' ⟨rfl, hkc⟩
        apply wr_nil
        exact ⟨rfl, hkc⟩
      focus (intro xx yy h; rfl)
      focus kernel_rfl
      apply chP_pure
      focus
        intro xx w' hk hF
        apply wr_not; iterate 2 exact rfl
        apply wr_nil
        exact ⟨rfl, Keeps.refl _ _⟩
      focus (intro xx yy h; rfl)
      focus kernel_rfl
      apply chP_pure
      focus
        intro xx w' hk hF
        apply wr_move; exact rfl; with_reducible (conv => enter [6, 3]; whnf)
        apply wr_nil
        exact ⟨rfl, Keeps.refl _ _⟩
      focus (intro xx yy h; rfl)
      focus kernel_rfl
      apply chP_pure
      focus
        intro xx w' hk hF
        refine wr_fieldAddr rfl rfl ?_
        apply wr_nil
        exact ⟨rfl, Keeps.refl _ _⟩
      focus (intro xx yy h; rfl)
      focus kernel_rfl
      apply chP_pure
      focus
        intro xx w' hk hF
        refine wr_load (v := sub2) rfl rfl rfl ((hk0 hk).heap hr2h (fun h => h)) rfl ?_
        apply wr_nil
        exact ⟨rfl, Keeps.refl _ _⟩
      focus (intro xx yy h; rfl)
      focus kernel_rfl
      refine chP_fact (fun y => y) (fun y w' => SetR w' W y) (fun y w' w'' h k => h.keep k) ?_ ?_
      focus
        intro xx w' hk hF
        refine wr_call (vs := [sub2]) rfl (ofR_ca hWf (by omega) (rd hs2h (hk0 hk))) rfl ?_
        rintro v w'' ⟨hR, hkc⟩
        apply wr_nil
        exact ⟨v, rfl, hR, hkc⟩
      apply chP_pure
      focus
        intro xx w' hk hF
        refine wr_loadAll (cs := [.bool W.1, nv]) rfl rfl rfl ((hk0 hk).heap hcWh (fun h => h)) rfl ?_
        apply wr_nil
        exact ⟨rfl, Keeps.refl _ _⟩
      focus (intro xx yy h; rfl)
      focus kernel_rfl
      apply chP_pure
      focus
        intro xx w' hk hF
        refine wr_call (vs := [xx 7, SetV W.1 nv]) rfl (same_cb true (sameP_self W) (hF 7 (by kernel_rfl)) (hWR (hk0 hk)) (by omega) (by omega)) rfl ?_
        rintro v w'' ⟨rfl, hkc⟩
        apply wr_nil
        exact ⟨rfl, hkc⟩
      focus (intro xx yy h; rfl)
      focus kernel_rfl
      apply chP_pure
      focus
        intro xx w' hk hF
        apply wr_not; iterate 2 exact rfl
        apply wr_nil
        exact ⟨rfl, Keeps.refl _ _⟩
      focus (intro xx yy h; rfl)
      focus kernel_rfl
      apply chP_pure
      focus
        intro xx w' hk hF
        apply wr_pick (t := false); (iterate 2 exact rfl); with_reducible (conv => enter [6, 3]; whnf)
        apply wr_nil
        exact ⟨rfl, Keeps.refl _ _⟩
      focus (intro xx yy h; rfl)
      focus kernel_rfl
      apply chP_pure
      focus
        intro xx w' hk hF
        apply wr_move; exact rfl; with_reducible (conv => enter [6, 3]; whnf)
        apply wr_nil
        exact ⟨rfl, Keeps.refl _ _⟩
      focus (intro xx yy h; rfl)
      focus kernel_rfl
      apply chP_pure
      focus
        intro xx w' hk hF
        refine wr_loadAll (cs := GRq 2 true 0 sub uns hav []) rfl rfl rfl ((hk0 hk).heap hr1h (fun h => h)) rfl ?_
        apply wr_nil
        exact ⟨rfl, Keeps.refl _ _⟩
      focus (intro xx yy h; rfl)
      focus kernel_rfl
      apply chP_pure
      focus
        intro xx w' hk hF
        refine wr_call (vs := [.agg (GRq 2 true 0 sub uns hav []).toArray]) rfl (rightReq_ok (ls := listP (lessP W at')) (lu := listP (lessP at' W)) (lh := []) (by decide) (rd hs1h (hk0 hk)) (rd hu1h (hk0 hk)) (rd hh1h (hk0 hk)) (by omega) (by omega) (by decide) (fun x hx => starB_list (lessP_fine hWf) x hx) (fun x hx => starB_list (lessP_fine hatf) x hx) (by intro x hx; cases hx) (by decide) (fun h => by cases h)) rfl ?_
        rintro v w'' ⟨rfl, hkc⟩
        apply wr_nil
        exact ⟨rfl, hkc⟩
      focus (intro xx yy h; rfl)
      focus kernel_rfl
      apply chP_pure
      focus
        intro xx w' hk hF
        apply wr_not; iterate 2 exact rfl
        apply wr_nil
        exact ⟨rfl, Keeps.refl _ _⟩
      focus (intro xx yy h; rfl)
      focus kernel_rfl
      apply chP_pure
      focus
        intro xx w' hk hF
        apply wr_pick (t := false); (iterate 2 exact rfl); with_reducible (conv => enter [6, 3]; whnf)
        apply wr_nil
        exact ⟨rfl, Keeps.refl _ _⟩
      focus (intro xx yy h; rfl)
      focus kernel_rfl
      apply chP_pure
      focus
        intro xx w' hk hF
        apply wr_move; exact rfl; with_reducible (conv => enter [6, 3]; whnf)
        apply wr_nil
        exact ⟨rfl, Keeps.refl _ _⟩
      focus (intro xx yy h; rfl)
      focus kernel_rfl
      apply chP_pure
      focus
        intro xx w' hk hF
        refine wr_loadAll (cs := GRq 2 false 0 sub2 uns2 hav2 []) rfl rfl rfl ((hk0 hk).heap hr2h (fun h => h)) rfl ?_
        apply wr_nil
        exact ⟨rfl, Keeps.refl _ _⟩
      focus (intro xx yy h; rfl)
      focus kernel_rfl
      apply chP_pure
      focus
        intro xx w' hk hF
        refine wr_call (vs := [.agg (GRq 2 false 0 sub2 uns2 hav2 []).toArray]) rfl (rightReq_ok (ls := listP W) (lu := []) (lh := []) (by decide) (rd hs2h (hk0 hk)) (rd hu2h (hk0 hk)) (rd hh2h (hk0 hk)) (by omega) (by decide) (by decide) (fun x hx => starB_list hWf x hx) (by intro x hx; cases hx) (by intro x hx; cases hx) (by decide) (fun _ => ⟨rfl, rfl⟩)) rfl ?_
        rintro v w'' ⟨rfl, hkc⟩
        apply wr_nil
        exact ⟨rfl, hkc⟩
      focus (intro xx yy h; rfl)
      focus kernel_rfl
      apply chP_pure
      focus
        intro xx w' hk hF
        apply wr_not; iterate 2 exact rfl
        apply wr_nil
        exact ⟨rfl, Keeps.refl _ _⟩
      focus (intro xx yy h; rfl)
      focus kernel_rfl
      apply chP_pure
      focus
        intro xx w' hk hF
        apply wr_pick (t := false); (iterate 2 exact rfl); with_reducible (conv => enter [6, 3]; whnf)
        apply wr_nil
        exact ⟨rfl, Keeps.refl _ _⟩
      focus (intro xx yy h; rfl)
      focus kernel_rfl
      refine chP_nil ?_
      intro xx wi hki hF
      clear hF
      have hkhi := hk0 hki
      (repeat first | (apply wr_move; exact rfl; with_reducible (conv => enter [6, 3]; whnf)) | (apply wr_assign; exact rfl; with_reducible (conv => enter [6, 3]; whnf)) | apply wr_end | apply wc_region | apply wc_skip | (apply wr_add; (iterate 3 exact rfl); exact w_fit (by dsimp only [kIn]; first | done | omega)) | (apply wc_false; exact rfl))
      exact ⟨(i + 1, c1, c2, W, nvg), by dsimp only; omega, ⟨by trivial, by dsimp only; omega, hO1h.keep hkhi, hO2h.keep hkhi, ⟨nv1, by dsimp only; rw [ht1, decide_eq_true (Nat.succ_pos i)]⟩, ⟨nv2, by dsimp only; rw [ht2, decide_eq_true (Nat.succ_pos i)]⟩, hd1, hd2, hWf, hWl, hath.keep hkhi, hkhi.heap hch (fun h => h), hkhi.heap hcwh2 (fun h => h), hkhi.heap hcwh (fun h => h), hk0h.trans hkhi⟩, rfl, rfl, rfl, rfl, rfl, rfl, trivial⟩
end Go.Proofs.YtahlhldkcekbfaaGreatDoor
