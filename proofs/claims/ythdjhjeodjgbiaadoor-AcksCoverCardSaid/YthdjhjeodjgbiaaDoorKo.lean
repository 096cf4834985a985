/- AcksDrop. -/
import Derived.Test.YthdjhjeodjgbiaaDoorKn
namespace Go.Proofs.YthdjhjeodjgbiaaDoor
open Go Go.V Go.RowKit
set_option linter.unusedVariables false
set_option linter.unusedSimpArgs false

abbrev kK : KY := (1, [107])
theorem kK_ok : keyOk kK := by decide +kernel
theorem stOkK (q : Nat) (h : 1 ≤ q) : stOk (kK, q, true, []) := ⟨kK_ok, by show ([107] : TT) ≠ [42]; decide, h, by show (0 : Nat) ≤ 256; decide, fun _ => rfl⟩
theorem subDrop (w : World) (id : Int) (L : List (KY × ND)) : Sub w L (L.map (dropN id)) := fun x hx q hq => by
  obtain ⟨y, hy, rfl⟩ := List.mem_map.1 hx
  exact .inl ⟨y, hy, hq⟩
def dropPN (id : Int) (p : PN) : PN := { p with T := setT p.T id 0 }
theorem PL_drop (id : Int) (L : List (KY × ND)) : PL (L.map (dropN id)) = (PL L).map fun x => (x.1, dropPN id x.2) := by
  unfold PL
  rw [List.map_map, List.map_map]
  rfl
def P1 (m n : Nat) : PN := noteP (noteP PN.new 2 (kK, m, true, [])) 3 (kK, n, true, [])
theorem P1_T (m n : Nat) : (P1 m n).T = setT (setT (fun _ => 0) 2 (max 0 m)) 3 (max 0 n) := by
  unfold P1 noteP PN.new
  simp [setT]
theorem P1_both (m n : Nat) : leastP (some (P1 m n)) [2, 3] = min m n := by
  unfold leastP
  dsimp only [List.foldl]
  rw [P1_T]
  simp [setT]
theorem P1_none (m n : Nat) : leastP (some (dropPN 2 (P1 m n))) [2, 3] = 0 := by
  unfold leastP dropPN
  dsimp only [List.foldl]
  rw [P1_T]
  simp [setT]
theorem P1_one (m n : Nat) (p : PN) (h : p.T = (dropPN 2 (P1 m n)).T) : leastP (some p) [3] = n := by
  unfold leastP
  dsimp only [List.foldl]
  rw [h]
  unfold dropPN
  dsimp only
  rw [P1_T]
  simp [setT]
set_option maxRecDepth 100000 in
set_option maxHeartbeats 8000000 in
theorem drop_law (x y : Nat) (hx : x < 256) (hy : y < 256) (w : World) : Ca Tryd.prog 6 #[.int .u8 (x : Int), .int .u8 (y : Int)] w fun v w' => v = .bool true ∧ Keeps NoB w w' := by
  refine ca_of_body (args := [.int .u8 (x : Int), .int .u8 (y : Int)]) Tryd.func6 rfl (by kernel_rfl) ?_
  (repeat first | (apply wr_assign; exact rfl; with_reducible (conv => enter [6, 3]; whnf)) | apply wr_end | apply wc_seq | apply wc_region)
  refine wr_call (vs := []) rfl (examples_ca w) rfl ?_
  rintro v w0 ⟨rfl, hk0⟩
  (repeat first | (apply wr_move; exact rfl; with_reducible (conv => enter [6, 3]; whnf)) | (apply wr_assign; exact rfl; with_reducible (conv => enter [6, 3]; whnf)) | apply wr_end | apply wc_seq | apply wc_region | apply wc_skip | (apply wr_not; iterate 2 exact rfl) | (apply wc_false; exact rfl))
  refine wr_call (vs := []) rfl (new_ca w0) rfl ?_
  rintro v w1 ⟨ab, mb, rfl, h1, hk1, hmb, hab⟩
  have hA1 : Above w0.heap.size mb [] := Above.nil hmb
  have hz1 := hk1.size
  (repeat first | (apply wr_move; exact rfl; with_reducible (conv => enter [6, 3]; whnf)) | (apply wr_assign; exact rfl; with_reducible (conv => enter [6, 3]; whnf)) | apply wr_end | apply wc_seq | apply wc_region)
  refine wr_ptrNil rfl rfl ?_
  (repeat first | apply wr_end | apply wc_seq | apply wc_region | apply wc_skip | (apply wc_false; exact rfl))
  refine wr_build (ps := [(0, .int .i64 kK.1), (1, S kK.2)]) (cs := [.int .i64 kK.1, S kK.2]) rfl rfl rfl rfl ?_
  (repeat first | (apply wr_alloc; exact rfl))
  refine wr_storeAll (cs := [.int .i64 kK.1, S kK.2]) rfl rfl rfl (by intro u hu; simp at hu; rcases hu with rfl | rfl <;> rfl) (heap_alloc_same _ _) rfl rfl ?_
  refine wr_name ?_
  intro w2 hww2
  obtain ⟨bw2, hbw2⟩ : ∃ b, b = (w1).heap.size := ⟨_, rfl⟩
  have hkw2 : Keeps NoB w1 w2 := by rw [hww2]; exact ((Keeps.refl NoB w1).alloc _).put _ (fun h => by omega)
  have hcw2 : (w2).heap[bw2]? = some (.cells #[.int .i64 kK.1, S kK.2] 27 (0, 0)) := by rw [hww2, hbw2]; exact World.putObj_heap_same (by simp)
  rw [← hbw2]
  clear hww2
  have h2 := h1.keep hkw2
  have hz2 := hkw2.size
  have hK2 := hk1.trans hkw2
  have hm : (1 : Int) + (x : Int) = ((1 + x : Nat) : Int) := by omega
  have hn : (1 : Int) + (y : Int) = ((1 + y : Nat) : Int) := by omega
  (repeat first | (apply wr_move; exact rfl; with_reducible (conv => enter [6, 3]; whnf)) | (apply wr_assign; exact rfl; with_reducible (conv => enter [6, 3]; whnf)) | apply wr_end | apply wc_seq | apply wc_region | (apply wr_add; (iterate 3 exact rfl); exact w_fit (by dsimp only [kIn]; first | done | omega)) | (apply wr_conv; (iterate 2 exact rfl); exact w_fit (by dsimp only [kIn]; first | done | omega)))
  refine wr_loadAll (cs := [.int .i64 kK.1, S kK.2]) rfl rfl rfl hcw2 rfl ?_
  (repeat first | (apply wr_move; exact rfl; with_reducible (conv => enter [6, 3]; whnf)))
  refine wr_build (ps := [(0, .agg #[.int .i64 kK.1, S kK.2]), (1, .int .u64 ((1 + x : Nat) : Int)), (2, .bool true)]) (cs := GS (kK, 1 + x, true, [])) rfl rfl rfl rfl ?_
  refine wr_call (vs := [.pointer (some ⟨ab, 0, none⟩), .int .i64 2, SdV (kK, 1 + x, true, [])]) rfl (note_ca h2 (by omega) 2 (kK, 1 + x, true, []) (by simp) (by simp) (by show 1 + x < _; omega)) rfl ?_
  rintro v w3 (⟨hnow3, _, _⟩ | ⟨_, rfl, Lw3, hw3, hpw3, hkw3, hsw3⟩)
  focus exact absurd ⟨stOkK (1 + x) (by omega), (by decide : idOk 2)⟩ hnow3
  have hc3 := hkw3.heap hcw2 (h2.free hcw2 (by decide) (by decide))
  have hz3 := hkw3.size
  have hK3 := hA1.keeps hK2 hkw3
  have hA3 := hA1.sub hsw3 (by omega)
  have hP3 : PL Lw3 = [(kK, noteP PN.new 2 (kK, 1 + x, true, []))] := hpw3.trans (putL_nil _ _)
  (repeat first | (apply wr_move; exact rfl; with_reducible (conv => enter [6, 3]; whnf)) | apply wr_end | apply wc_seq | apply wc_region)
  refine wr_loadAll (cs := [.int .i64 kK.1, S kK.2]) rfl rfl rfl hc3 rfl ?_
  (repeat first | (apply wr_move; exact rfl; with_reducible (conv => enter [6, 3]; whnf)))
  refine wr_build (ps := [(0, .agg #[.int .i64 kK.1, S kK.2]), (1, .int .u64 ((1 + y : Nat) : Int)), (2, .bool true)]) (cs := GS (kK, 1 + y, true, [])) rfl rfl rfl rfl ?_
  refine wr_call (vs := [.pointer (some ⟨ab, 0, none⟩), .int .i64 3, SdV (kK, 1 + y, true, [])]) rfl (note_ca hw3 (by omega) 3 (kK, 1 + y, true, []) (by simp) (by simp) (by show 1 + y < _; omega)) rfl ?_
  rintro v w4 (⟨hnow4, _, _⟩ | ⟨_, rfl, Lw4, hw4, hpw4, hkw4, hsw4⟩)
  focus exact absurd ⟨stOkK (1 + y) (by omega), (by decide : idOk 3)⟩ hnow4
  have hc4 := hkw4.heap hc3 (hw3.free hc3 (by decide) (by decide))
  have hz4 := hkw4.size
  have hK4 := hA3.keeps hK3 hkw4
  have hA4 := hA3.sub hsw4 (by omega)
  have hP4 : PL Lw4 = [(kK, P1 (1 + x) (1 + y))] := by rw [hpw4, hP3, getL_one, putL_one]; rfl
  have hG4 : (getL Lw4 kK).map (·.p) = some (P1 (1 + x) (1 + y)) := by rw [← getPL, hP4, getL_one]
  (repeat first | (apply wr_move; exact rfl; with_reducible (conv => enter [6, 3]; whnf)) | apply wr_end | apply wc_seq | apply wc_region)
  refine wr_loadAll (cs := [.int .i64 kK.1, S kK.2]) rfl rfl rfl hc4 rfl ?_
  refine wr_buildSlice (vs := ([2, 3] : List Int).map (Value.int .i64)) rfl rfl (by intro v hv; obtain ⟨z, _, rfl⟩ := List.mem_map.1 hv; rfl) rfl (by decide) (by decide) (by decide) ?_
  refine wr_name ?_
  intro w5 hww5
  obtain ⟨bw5, hbw5⟩ : ∃ b, b = (w4).heap.size := ⟨_, rfl⟩
  have hkw5 : Keeps NoB w4 w5 := by rw [hww5]; exact (Keeps.refl NoB w4).alloc _
  have hcw5 : (w5).heap[bw5]? = some (.cells (([2, 3] : List Int).map (Value.int .i64)).toArray 3 (0, 0)) := by rw [hww5, hbw5]; exact heap_alloc_same _ _
  rw [← hbw5]
  clear hww5
  have h5 := hw4.keep hkw5
  have hc5 := hkw5.heap hc4 (fun h => h)
  have hz5 := hkw5.size
  refine wr_call (vs := [.pointer (some ⟨ab, 0, none⟩), encK kK, .slice (some ⟨bw5, 0, none⟩) 2 2]) rfl (least_ca h5 kK [2, 3] _ (slR_block hcw5 rfl) (by decide)) rfl ?_
  rintro v w6 ⟨rfl, hk6⟩
  rw [hG4, P1_both]
  have h6 := h5.keep hk6
  have hc6 := hk6.heap hc5 (fun h => h)
  have hz6 := hk6.size
  have hK6 := (hK4.trans hkw5).trans hk6
  (repeat first | (apply wr_move; exact rfl; with_reducible (conv => enter [6, 3]; whnf)) | (apply wr_assign; exact rfl; with_reducible (conv => enter [6, 3]; whnf)) | apply wr_end | apply wc_seq | apply wc_region)
  refine wr_call (vs := [.pointer (some ⟨ab, 0, none⟩), .int .i64 2]) rfl (drop_ca h6 2) rfl ?_
  rintro v w7 ⟨rfl, h7, hk7⟩
  have hc7 := hk7.heap hc6 (h6.free hc6 (by decide) (by decide))
  have hz7 := hk7.size
  have hK7 := hA4.keeps hK6 hk7
  have hA7 := hA4.sub (subDrop w6 2 Lw4) (by omega)
  have hP7 : PL (Lw4.map (dropN 2)) = [(kK, dropPN 2 (P1 (1 + x) (1 + y)))] := by rw [PL_drop, hP4]; rfl
  (repeat first | (apply wr_move; exact rfl; with_reducible (conv => enter [6, 3]; whnf)) | apply wr_end | apply wc_seq | apply wc_region)
  refine wr_loadAll (cs := [.int .i64 kK.1, S kK.2]) rfl rfl rfl hc7 rfl ?_
  refine wr_buildSlice (vs := ([2, 3] : List Int).map (Value.int .i64)) rfl rfl (by intro v hv; obtain ⟨z, _, rfl⟩ := List.mem_map.1 hv; rfl) rfl (by decide) (by decide) (by decide) ?_
  refine wr_name ?_
  intro w8 hww8
  obtain ⟨bw8, hbw8⟩ : ∃ b, b = (w7).heap.size := ⟨_, rfl⟩
  have hkw8 : Keeps NoB w7 w8 := by rw [hww8]; exact (Keeps.refl NoB w7).alloc _
  have hcw8 : (w8).heap[bw8]? = some (.cells (([2, 3] : List Int).map (Value.int .i64)).toArray 3 (0, 0)) := by rw [hww8, hbw8]; exact heap_alloc_same _ _
  rw [← hbw8]
  clear hww8
  have h8 := h7.keep hkw8
  have hc8 := hkw8.heap hc7 (fun h => h)
  have hz8 := hkw8.size
  have hK8 := hK7.trans hkw8
  refine wr_call (vs := [.pointer (some ⟨ab, 0, none⟩), encK kK, .slice (some ⟨bw8, 0, none⟩) 2 2]) rfl (ready_ca h8 kK [2, 3] _ (slR_block hcw8 rfl) (by decide) (fun q hq => by cases hq; exact (h8).free hcw8 (by decide) (by decide)) (fun q hq => by cases hq; exact lt_of_heap hcw8)) rfl ?_
  rintro rw9 w9 ⟨Lw9, hw9, hpw9, how9, hkw9, hsw9⟩
  have hc9 := hkw9.heap hc8 (h8.free hc8 (by decide) (by decide))
  have hz9 := hkw9.size
  have hK9 := hA7.keeps hK8 hkw9
  have hA9 := hA7.sub hsw9 (by omega)
  have ho9 : w9.ownsRow w8.heap.size StT 5 rw9 0 [] := by
    have h99 := how9
    rw [hP7, getL_one] at h99
    unfold outsP readyO at h99
    dsimp only at h99
    rw [P1_none] at h99
    exact h99
  obtain ⟨a9, c9, rfl, _⟩ := own_row ho9
  have hP9 : PL Lw9 = [(kK, readyN (dropPN 2 (P1 (1 + x) (1 + y))) 0)] := by
    rw [hpw9, hP7]; unfold afterP; rw [getL_one]; dsimp only; rw [putL_one, P1_none]
  (repeat first | (apply wr_move; exact rfl; with_reducible (conv => enter [6, 3]; whnf)) | (apply wr_assign; exact rfl; with_reducible (conv => enter [6, 3]; whnf)) | apply wr_end | apply wc_seq | apply wc_region)
  refine wr_loadAll (cs := [.int .i64 kK.1, S kK.2]) rfl rfl rfl hc9 rfl ?_
  refine wr_buildSlice (vs := ([3] : List Int).map (Value.int .i64)) rfl rfl (by intro v hv; obtain ⟨z, _, rfl⟩ := List.mem_map.1 hv; rfl) rfl (by decide) (by decide) (by decide) ?_
  refine wr_name ?_
  intro wa hwwa
  obtain ⟨bwa, hbwa⟩ : ∃ b, b = (w9).heap.size := ⟨_, rfl⟩
  have hkwa : Keeps NoB w9 wa := by rw [hwwa]; exact (Keeps.refl NoB w9).alloc _
  have hcwa : (wa).heap[bwa]? = some (.cells (([3] : List Int).map (Value.int .i64)).toArray 3 (0, 0)) := by rw [hwwa, hbwa]; exact heap_alloc_same _ _
  rw [← hbwa]
  clear hwwa
  have ha := hw9.keep hkwa
  have hca := hkwa.heap hc9 (fun h => h)
  have hza := hkwa.size
  have hKa := hK9.trans hkwa
  refine wr_call (vs := [.pointer (some ⟨ab, 0, none⟩), encK kK, .slice (some ⟨bwa, 0, none⟩) 1 1]) rfl (ready_ca ha kK [3] _ (slR_block hcwa rfl) (by decide) (fun q hq => by cases hq; exact (ha).free hcwa (by decide) (by decide)) (fun q hq => by cases hq; exact lt_of_heap hcwa)) rfl ?_
  rintro rwb wb ⟨Lwb, hwb, hpwb, howb, hkwb, hswb⟩
  have hcb := hkwb.heap hca (ha.free hca (by decide) (by decide))
  have hzb := hkwb.size
  have hKb := hA9.keeps hKa hkwb
  have hAb := hA9.sub hswb (by omega)
  have hl3 : leastP (some (readyN (dropPN 2 (P1 (1 + x) (1 + y))) 0)) [3] = 1 + y := P1_one (1 + x) (1 + y) _ rfl
  have ht3 : (readyN (dropPN 2 (P1 (1 + x) (1 + y))) 0).told = 0 := rfl
  have hob : wb.ownsRow wa.heap.size StT 5 rwb 1 (GS (kK, 1 + y, true, [])) := by
    have h99 := howb
    rw [hP9, getL_one] at h99
    unfold outsP readyO at h99
    dsimp only at h99
    rw [hl3, ht3, if_pos (by omega)] at h99
    exact h99
  obtain ⟨ab', cb, rfl, hrb⟩ := own_row hob
  obtain ⟨gb, curb, rfl, hgb, hcgb, hrdb⟩ := hrb (by decide)
  have hPb : PL Lwb = [(kK, readyN (readyN (dropPN 2 (P1 (1 + x) (1 + y))) 0) (1 + y))] := by
    rw [hpwb, hP9]; unfold afterP; rw [getL_one]; dsimp only; rw [putL_one, hl3]
  have hcgr : ∀ (o : Nat) (v : Value), (GS (kK, 1 + y, true, []))[o]? = some v → curb[0 + 0 * 5 + o]? = some v := fun o v h => by
    simp only [Nat.zero_mul, Nat.zero_add]
    rw [hrdb o (by have := (List.getElem?_eq_some_iff.1 h).1; rw [GS_len] at this; omega), h]
  (repeat first | (apply wr_move; exact rfl; with_reducible (conv => enter [6, 3]; whnf)) | (apply wr_assign; exact rfl; with_reducible (conv => enter [6, 3]; whnf)) | apply wr_end | apply wc_seq | apply wc_region)
  refine wr_loadAll (cs := [.int .i64 kK.1, S kK.2]) rfl rfl rfl hcb rfl ?_
  refine wr_call (vs := [.pointer (some ⟨ab, 0, none⟩), encK kK, .slice none 0 0]) rfl (ready_ca hwb kK [] _ (slR_nil _ _) (by decide) (fun q hq => by cases hq) (fun q hq => by cases hq)) rfl ?_
  rintro rwc wc ⟨Lwc, hwc, hpwc, howc, hkwc, hswc⟩
  have hcc := hkwc.heap hcb (hwb.free hcb (by decide) (by decide))
  have hcgc := hkwc.heap hcgb (hwb.free hcgb (by decide) (by decide))
  have hzc := hkwc.size
  have hKc := hAb.keeps hKb hkwc
  have hAc := hAb.sub hswc (by omega)
  have hoc : wc.ownsRow wb.heap.size StT 5 rwc 0 [] := by
    have h99 := howc
    rw [hPb, getL_one] at h99
    exact h99
  obtain ⟨ac, cc, rfl, _⟩ := own_row hoc
  have hPc : PL Lwc = [(kK, readyN (readyN (readyN (dropPN 2 (P1 (1 + x) (1 + y))) 0) (1 + y)) 0)] := by
    rw [hpwc, hPb]; unfold afterP; rw [getL_one]; dsimp only; rw [putL_one]; rfl
  have hlc : Lwc.map (·.1) = [kK] := by rw [← PL_keys, hPc]; rfl
  (repeat first | (apply wr_move; exact rfl; with_reducible (conv => enter [6, 3]; whnf)) | (apply wr_assign; exact rfl; with_reducible (conv => enter [6, 3]; whnf)) | apply wr_end | apply wc_seq | apply wc_region)
  refine wr_loadAll (cs := [.int .i64 kK.1, S kK.2]) rfl rfl rfl hcc rfl ?_
  refine wr_call (vs := [.pointer (some ⟨ab, 0, none⟩), encK kK]) rfl (forget_ca hwc kK) rfl ?_
  rintro v wd ⟨rfl, hd, hkd⟩
  have hcd := hkd.heap hcc (map_cells' hwc.keys hcc)
  have hcgd := hkd.heap hcgc (map_cells' hwc.keys hcgc)
  have hKd := hAc.keeps hKc (hkd.mono fun q _ e => .inl e)
  have hdl : delL Lwc kK = [] := by
    unfold delL
    rw [List.filter_eq_nil_iff]
    intro x hx
    have : x.1 ∈ [kK] := by rw [← hlc]; exact List.mem_map.2 ⟨x, hx, rfl⟩
    simp at this
    simp [this]
  rw [hdl] at hd
  have hKz := hk0.trans hKd
  have hmin : (if (1 : Int) + (y : Int) < 1 + (x : Int) then (1 : Int) + (y : Int) else 1 + (x : Int)) = ((min (1 + x) (1 + y) : Nat) : Int) := by split <;> omega
  (repeat first | (apply wr_move; exact rfl; with_reducible (conv => enter [6, 3]; whnf)) | apply wr_end | apply wc_seq | apply wc_region)
  refine wr_min (c := ((min (1 + x) (1 + y) : Nat) : Int)) rfl rfl rfl hmin ?_
  (repeat first | (apply wr_move; exact rfl; with_reducible (conv => enter [6, 3]; whnf)) | (apply wr_len_slice; iterate 2 exact rfl) | (apply wr_cmp; (iterate 3 exact rfl); exact cmpT (by dsimp only [cmpP]; first | done | omega)) | (apply wr_pick (t := true); (iterate 2 exact rfl); with_reducible (conv => enter [6, 3]; whnf)))
  refine wr_indexAddr (i := 0) rfl rfl rfl (by decide) ?_
  (repeat first | (apply wr_fieldAddr; iterate 2 exact rfl))
  refine wr_load (v := .bool true) rfl rfl rfl hcgd (hcgr 3 _ rfl) ?_
  (repeat first | (apply wr_move; exact rfl; with_reducible (conv => enter [6, 3]; whnf)) | (apply wr_pick (t := true); (iterate 2 exact rfl); with_reducible (conv => enter [6, 3]; whnf)))
  refine wr_indexAddr (i := 0) rfl rfl rfl (by decide) ?_
  (repeat first | (apply wr_fieldAddr; iterate 2 exact rfl))
  refine wr_load (v := .int .u64 ((1 + y : Nat) : Int)) rfl rfl rfl hcgd (hcgr 2 _ rfl) ?_
  (repeat first | (apply wr_move; exact rfl; with_reducible (conv => enter [6, 3]; whnf)) | (apply wr_len_slice; iterate 2 exact rfl) | (apply wr_cmp; (iterate 3 exact rfl); exact cmpT (by dsimp only [cmpP]; first | done | omega)) | (apply wr_pick (t := true); (iterate 2 exact rfl); with_reducible (conv => enter [6, 3]; whnf)))
  refine wr_call (vs := [.pointer (some ⟨ab, 0, none⟩)]) rfl (keys_ca hd (by decide)) rfl ?_
  rintro v we ⟨l, hlp, _, hlo, hke⟩
  have hll : l.length = 0 := by rw [hlp.length_eq]; rfl
  obtain ⟨ad, cd, rfl, _⟩ := own_row hlo
  rw [hll]
  have hde := hd.keep hke
  have hce := hke.heap hcd (fun h => h)
  (repeat first | (apply wr_move; exact rfl; with_reducible (conv => enter [6, 3]; whnf)) | (apply wr_len_slice; iterate 2 exact rfl) | (apply wr_cmp; (iterate 3 exact rfl); exact cmpT (by dsimp only [cmpP]; first | done | omega)) | (apply wr_pick (t := true); (iterate 2 exact rfl); with_reducible (conv => enter [6, 3]; whnf)))
  refine wr_loadAll (cs := [.int .i64 kK.1, S kK.2]) rfl rfl rfl hce rfl ?_
  refine wr_buildSlice (vs := ([3] : List Int).map (Value.int .i64)) rfl rfl (by intro v hv; obtain ⟨z, _, rfl⟩ := List.mem_map.1 hv; rfl) rfl (by decide) (by decide) (by decide) ?_
  refine wr_name ?_
  intro wf hwwf
  obtain ⟨bwf, hbwf⟩ : ∃ b, b = (we).heap.size := ⟨_, rfl⟩
  have hkwf : Keeps NoB we wf := by rw [hwwf]; exact (Keeps.refl NoB we).alloc _
  have hcwf : (wf).heap[bwf]? = some (.cells (([3] : List Int).map (Value.int .i64)).toArray 3 (0, 0)) := by rw [hwwf, hbwf]; exact heap_alloc_same _ _
  rw [← hbwf]
  clear hwwf
  have hf := hde.keep hkwf
  refine wr_call (vs := [.pointer (some ⟨ab, 0, none⟩), encK kK, .slice (some ⟨bwf, 0, none⟩) 1 1]) rfl (least_ca hf kK [3] _ (slR_block hcwf rfl) (by decide)) rfl ?_
  rintro v wg ⟨rfl, hkg⟩
  rw [show leastP ((getL ([] : List (KY × ND)) kK).map (·.p)) [3] = 0 from rfl]
  (repeat first | (apply wr_assign; exact rfl; with_reducible (conv => enter [6, 3]; whnf)) | apply wr_end | (apply wr_cmp; (iterate 3 exact rfl); exact cmpT (by dsimp only [cmpP]; first | done | omega)) | (apply wr_pick (t := true); (iterate 2 exact rfl); with_reducible (conv => enter [6, 3]; whnf)) | (apply wc_ret; try simp only [thenE, inBlockE, bodyQ]))
  exact leave1 (v := .bool true) rfl rfl ⟨rfl, ((hKz.trans hke).trans hkwf).trans hkg⟩
end Go.Proofs.YthdjhjeodjgbiaaDoor
