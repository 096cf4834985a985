/- ClientTopics. -/
import Derived.Test.YtahlhldkcekbfaaGreatDoorGm
import Derived.Test.YtahlhldkcekbfaaGreatDoorGl
namespace Go.Proofs.YtahlhldkcekbfaaGreatDoor
open Go Go.V Go.RowKit
set_option linter.unusedVariables false
set_option linter.unusedSimpArgs false

set_option maxRecDepth 100000 in
set_option maxHeartbeats 8000000 in
theorem topics_law (delta : Bool) (a b : Nat) (ha : a < 256) (hb : b < 256) (bl : List Nat) (sl : Value) {w : World} (hE : ErrT w) (hsl : SlR w 1 sl bl.length (IB bl)) (hb8 : ∀ x ∈ bl, x < 256) :
    Ca Tryz.prog 4 #[.bool delta, .int .u8 (a : Int), .int .u8 (b : Int), sl] w fun v w' => v = .bool true ∧ Keeps NoB w w' := by
  refine ca_of_body (args := [.bool delta, .int .u8 (a : Int), .int .u8 (b : Int), sl]) Tryz.func4 rfl (by kernel_rfl) ?_
  (repeat first | (apply wr_assign; exact rfl; with_reducible (conv => enter [6, 3]; whnf)) | apply wr_end | apply wc_seq | apply wc_region)
  refine wr_call (vs := []) rfl (examples_ca hE) rfl ?_
  rintro v w1 ⟨rfl, hk1⟩
  have hz1 := hk1.size
  have hE1 := hE.keep hk1
  (repeat first | (apply wr_move; exact rfl; with_reducible (conv => enter [6, 3]; whnf)) | (apply wr_assign; exact rfl; with_reducible (conv => enter [6, 3]; whnf)) | apply wr_end | apply wc_seq | apply wc_region | apply wc_skip | (apply wr_not; iterate 2 exact rfl) | (apply wc_false; exact rfl))
  refine wr_remN (n := a) (m := 5) rfl rfl rfl (by decide) ?_
  have hk5 : a % 5 < 5 := Nat.mod_lt _ (by decide)
  (repeat first | (apply wr_move; exact rfl; with_reducible (conv => enter [6, 3]; whnf)) | (apply wr_assign; exact rfl; with_reducible (conv => enter [6, 3]; whnf)) | apply wr_end | apply wc_seq | apply wc_region | (apply wr_add; (iterate 3 exact rfl); exact w_fit (by dsimp only [kIn]; first | done | omega)) | (apply wr_conv; (iterate 2 exact rfl); exact w_fit (by dsimp only [kIn]; first | done | omega)))
  refine wr_remN (n := b) (m := 4) rfl rfl rfl (by decide) ?_
  have hb4 : b % 4 < 4 := Nat.mod_lt _ (by decide)
  (repeat first | (apply wr_add; (iterate 3 exact rfl); exact w_fit (by dsimp only [kIn]; first | done | omega)) | (apply wr_conv; (iterate 2 exact rfl); exact w_fit (by dsimp only [kIn]; first | done | omega)))
  refine wr_remN (n := 1 + a % 5 + b % 4) (m := 5) rfl rfl rfl (by decide) ?_
  have hm5 : (1 + a % 5 + b % 4) % 5 < 5 := Nat.mod_lt _ (by decide)
  (repeat first | (apply wr_move; exact rfl; with_reducible (conv => enter [6, 3]; whnf)) | (apply wr_assign; exact rfl; with_reducible (conv => enter [6, 3]; whnf)) | apply wr_end | apply wc_seq | apply wc_region | (apply wr_add; (iterate 3 exact rfl); exact w_fit (by dsimp only [kIn]; first | done | omega)))
  rw [show (1 : Int) + ((a % 5 : Nat) : Int) = ((1 + a % 5 : Nat) : Int) by omega, show (1 : Int) + (((1 + a % 5 + b % 4) % 5 : Nat) : Int) = ((1 + (1 + a % 5 + b % 4) % 5 : Nat) : Int) by omega]
  obtain ⟨k, hk⟩ : ∃ k, k = 1 + a % 5 := ⟨_, rfl⟩
  rw [← hk] at hm5 ⊢
  obtain ⟨m, hm⟩ : ∃ m, m = 1 + (k + b % 4) % 5 := ⟨_, rfl⟩
  rw [← hm]
  have hkm : (k : Int) ≠ (m : Int) := by omega
  have hkt : typedB (k : Int) = true := by unfold typedB; rw [decide_eq_true]; omega
  have hmt : typedB (m : Int) = true := by unfold typedB; rw [decide_eq_true]; omega
  have hml : m ≤ 5 := by omega
  clear hk hm
  refine wr_call (vs := [.bool delta]) rfl (newCl_ca delta w1) rfl ?_
  rintro v w2 ⟨rfl, hk2⟩
  have hk02 := hk1.trans hk2
  (repeat first | (apply wr_move; exact rfl; with_reducible (conv => enter [6, 3]; whnf)))
  refine wr_call (vs := [sl, .int .i64 (12 : Nat)]) rfl (few_ca bl sl 12 (by decide) w2 (hsl.keep hk02 (fun _ _ h => h)) hb8) rfl ?_
  rintro v w3 ⟨hfw, hk3⟩
  have hle := namesF_le bl 12
  refine wr_call (vs := [v]) rfl (ofO_ca (namesF bl 12) v w3 (SlR.of_own hfw) (by omega) (namesF_ok bl 12)) rfl ?_
  rintro sv w4 ⟨hsv, hk4⟩
  obtain ⟨W, hW⟩ : ∃ W, W = ofP (namesF bl 12) := ⟨_, rfl⟩
  have hWf : Fine W := by rw [hW]; exact ofP_fine _
  have hWl : W.2.length ≤ 12 := by rw [hW]; have := ofP_le (namesF bl 12); omega
  rw [← hW] at hsv
  clear hW hfw
  have hk04 := (hk02.trans hk3).trans hk4
  have hz1' := hk1.size
  have hz04 := hk04.size
  refine wr_call (vs := [CliV (newC delta), .int .i64 (k : Int), sv, nilV]) rfl (ask_cb (newC_at w4 delta) (hE.keep hk04) k hsv.toR hWf (by omega) (hv := []) (by decide) (slR_nilH _)) rfl ?_
  rintro v w5 ⟨hR, hk5'⟩
  rcases hR with ⟨e, he, _⟩ | ⟨_, hR⟩
  · rw [askE_zero (topicOf_new _ _) hkt (by omega) (by decide)] at he; cases he
  obtain ⟨nv, sub, uns, hav, rfl, hnv, ⟨ls, hls, hsub⟩, ⟨lu, hlu, huns⟩, ⟨lh, hlh, hhav⟩⟩ := hR
  obtain ⟨c1, hc1⟩ : ∃ c, c = askC (newC delta) k W nv := ⟨_, rfl⟩
  rw [← hc1]
  have hO5 : CliO w5 w.heap.size c1 := by rw [hc1]; exact askC_O (newC_O w5 _ delta) k (own_down hnv (by omega)) (by omega) hWf
  have ht1 : topicOf c1 (k : Int) = ((W, nv), true, 0) := by rw [hc1, topicOf_ask (by simp [newC]) hkt, topicOf_new]; rfl
  have ht1m : topicOf c1 (m : Int) = zeroT := by rw [hc1]; exact (topicOf_other hkt hmt hkm _).trans (topicOf_new _ _)
  have hd1 : c1.1 = delta := by rw [hc1]; rfl
  have hl1 := hO5.len
  have hk05 := hk04.trans hk5'
  clear hc1
  apply wr_move; exact rfl; with_reducible (conv => enter [6, 3]; whnf)
  apply wr_extract; (iterate 3 exact rfl); with_reducible (conv => enter [6, 3]; whnf)
  apply wr_extract; (iterate 3 exact rfl); with_reducible (conv => enter [6, 3]; whnf)
  apply wr_extract; (iterate 3 exact rfl); with_reducible (conv => enter [6, 3]; whnf)
  apply wr_alloc
  focus exact rfl
  refine wr_name ?_
  intro wxa hwwxa
  obtain ⟨bwxa, hbwxa⟩ : ∃ b, b = (w5).heap.size := ⟨_, rfl⟩
  have hkwxa : Keeps NoB w5 wxa := by rw [hwwxa]; exact (Keeps.refl NoB w5).alloc _
  have hcwxa : (wxa).heap[bwxa]? = some (.cells (GCl (newC false)).toArray 32 (0, 0)) := by rw [hwwxa, hbwxa]; exact heap_alloc_same _ _
  rw [← hbwxa]
  clear hwwxa
  apply wr_alloc
  focus exact rfl
  refine wr_name ?_
  intro wxb hwwxb
  obtain ⟨bwxb, hbwxb⟩ : ∃ b, b = (wxa).heap.size := ⟨_, rfl⟩
  have hkwxb : Keeps NoB wxa wxb := by rw [hwwxb]; exact (Keeps.refl NoB wxa).alloc _
  have hcwxb : (wxb).heap[bwxb]? = some (.cells (zeroRq).toArray 42 (0, 0)) := by rw [hwwxb, hbwxb]; exact heap_alloc_same _ _
  rw [← hbwxb]
  clear hwwxb
  have hcawx := hkwxb.heap hcwxa (fun h => h)
  have hlrwx := lt_of_heap hcwxa
  refine wr_storeAll (cs := GCl (c1)) rfl rfl rfl (GCl_one hO5.at) hcawx (GCl_len hl1) (rfl) ?_
  refine wr_name ?_
  intro wxc hwwxc
  have hkwxc : Keeps (· = bwxa) wxb wxc := by rw [hwwxc]; exact (Keeps.refl _ wxb).put _ (fun _ => rfl)
  have hcwxc : (wxc).heap[bwxa]? = some (.cells (GCl (c1)).toArray 32 (0, 0)) := by rw [hwwxc]; exact World.putObj_heap_same (lt_of_heap hcawx)
  clear hwwxc
  have hcbwx := hkwxc.heap hcwxb (fun e => by omega)
  refine wr_storeAll (cs := GRq k (newC delta).1 (if (newC delta).1 = true then 0 else (topicOf (newC delta) k).2.2) sub uns hav []) rfl rfl rfl (GRq_one (own_one hsub) (own_one huns) (own_one hhav)) hcbwx (rfl) (rfl) ?_
  refine wr_name ?_
  intro wxd hwwxd
  have hkwxd : Keeps (· = bwxb) wxc wxd := by rw [hwwxd]; exact (Keeps.refl _ wxc).put _ (fun _ => rfl)
  have hcwxd : (wxd).heap[bwxb]? = some (.cells (GRq k (newC delta).1 (if (newC delta).1 = true then 0 else (topicOf (newC delta) k).2.2) sub uns hav []).toArray 42 (0, 0)) := by rw [hwwxd]; exact World.putObj_heap_same (lt_of_heap hcbwx)
  clear hwwxd
  have hccwx := hkwxd.heap hcwxc (fun e => by omega)
  have hkkwx : Keeps NoB w5 wxd := ((hkwxa.trans hkwxb).trans' hkwxc (fun i hi e => by omega)).trans' hkwxd (fun i hi e => by omega)
  have hk06 := hk05.trans hkkwx
  have hz5 := hk05.size
  have hO6 := hO5.keep hkkwx
  have ht6 : takeE (rightB k delta false 9) c1 k delta 9 = none := by
    unfold takeE rightB
    rw [ht1, hd1, hkt]
    cases delta <;> rfl
  (repeat first | (apply wr_assign; exact rfl; with_reducible (conv => enter [6, 3]; whnf)) | apply wr_end | apply wc_seq | apply wc_region)
  refine wr_loadAll (cs := GCl c1) rfl rfl rfl hccwx (GCl_len hl1) ?_
  (repeat first | (apply wr_move; exact rfl; with_reducible (conv => enter [6, 3]; whnf)))
  refine wr_build (ps := [(0, .int .i64 (k : Int)), (1, .bool delta), (3, .int .u64 9)]) (cs := GRp k delta false 9 0 nilV nilV) rfl rfl rfl rfl ?_
  refine wr_call (vs := [CliV c1, .agg (GRp k delta false 9 0 nilV nilV).toArray]) rfl (take_ok hO6.at (hE.keep hk06) (by decide) ht6) rfl ?_
  rintro v w7 ⟨rfl, hk7⟩
  have hO7 : CliO w7 w.heap.size (takeC c1 k 9) := takeC_O (hO6.keep hk7) k (by decide)
  have ht2 : topicOf (takeC c1 k 9) k = ((W, nv), true, 9) := by rw [topicOf_take hl1 hkt, ht1]
  have ht2m : topicOf (takeC c1 k 9) m = zeroT := (topicOf_other hkt hmt hkm _).trans ht1m
  have hd2 : (takeC c1 k 9).1 = delta := hd1
  obtain ⟨c2, hc2⟩ : ∃ c, c = takeC c1 k 9 := ⟨_, rfl⟩
  rw [← hc2] at hO7 ht2 ht2m hd2 ⊢
  have hl2 := hO7.len
  clear hc2
  have hc7 := hk7.heap hccwx (fun h => h)
  (repeat first | (apply wr_move; exact rfl; with_reducible (conv => enter [6, 3]; whnf)) | (apply wr_extract; (iterate 3 exact rfl); with_reducible (conv => enter [6, 3]; whnf)))
  refine wr_storeAll (cs := GCl c2) rfl rfl rfl (GCl_one hO7.at) hc7 (GCl_len hl2) (GCl_len hl1) ?_
  refine wr_name ?_
  intro w8 hww8
  have hkw8 : Keeps (· = bwxa) w7 w8 := by rw [hww8]; exact (Keeps.refl _ w7).put _ (fun _ => rfl)
  have hcw8 : (w8).heap[bwxa]? = some (.cells (GCl c2).toArray 32 (0, 0)) := by rw [hww8]; exact World.putObj_heap_same (lt_of_heap hc7)
  clear hww8
  have hO8 := hO7.keep1 hkw8 hc7 (by decide)
  have hk08 : Keeps NoB w w8 := (hk06.trans hk7).trans' hkw8 (fun i hi e => by omega)
  have hE8 := hE.keep hk08
  have ht8 : takeE (rightB m delta false 9) c2 m delta 9 = some 7 := by
    unfold takeE rightB
    rw [ht2m, hd2, hmt]
    cases delta <;> rfl
  (repeat first | (apply wr_assign; exact rfl; with_reducible (conv => enter [6, 3]; whnf)) | apply wr_end | apply wc_seq | apply wc_region)
  refine wr_loadAll (cs := GCl c2) rfl rfl rfl hcw8 (GCl_len hl2) ?_
  (repeat first | (apply wr_move; exact rfl; with_reducible (conv => enter [6, 3]; whnf)))
  refine wr_build (ps := [(0, .int .i64 (m : Int)), (1, .bool delta), (3, .int .u64 9)]) (cs := GRp m delta false 9 0 nilV nilV) rfl rfl rfl rfl ?_
  refine wr_call (vs := [CliV c2, .agg (GRp m delta false 9 0 nilV nilV).toArray]) rfl (take_no hO8.at hE8 (by decide) ht8) rfl ?_
  rintro v w9 ⟨rfl, hk9⟩
  (repeat first | (apply wr_move; exact rfl; with_reducible (conv => enter [6, 3]; whnf)) | (apply wr_alloc; exact rfl) | (apply wr_extract; (iterate 3 exact rfl); with_reducible (conv => enter [6, 3]; whnf)))
  refine wr_storeAll (cs := GCl c2) rfl rfl rfl (GCl_one (hO8.keep hk9).at) (heap_alloc_same _ _) (GCl_len hl2) rfl ?_
  refine wr_name ?_
  intro wa hwwa
  obtain ⟨bwa, hbwa⟩ : ∃ b, b = (w9).heap.size := ⟨_, rfl⟩
  have hkwa : Keeps NoB w9 wa := by rw [hwwa]; exact ((Keeps.refl NoB w9).alloc _).put _ (fun h => by omega)
  have hcwa : (wa).heap[bwa]? = some (.cells (GCl c2).toArray 32 (0, 0)) := by rw [hwwa, hbwa]; exact World.putObj_heap_same (by simp)
  rw [← hbwa]
  clear hwwa
  have hk8a := hk9.trans hkwa
  have hca := hk8a.heap hcw8 (fun h => h)
  have hOa := hO8.keep hk8a
  (repeat first | (apply wr_assign; exact rfl; with_reducible (conv => enter [6, 3]; whnf)) | apply wr_end | apply wc_seq | apply wc_region)
  refine wr_loadAll (cs := GCl c2) rfl rfl rfl hca (GCl_len hl2) ?_
  (repeat first | (apply wr_move; exact rfl; with_reducible (conv => enter [6, 3]; whnf)))
  refine wr_call (vs := [CliV c2, .int .i64 (m : Int), S []]) rfl (answer_no hOa.at (hE8.keep hk8a) (by decide) (by unfold answerE; rw [ht2m, hmt]; rfl : answerE c2 m [] = some 5)) rfl ?_
  rintro v wb ⟨rfl, hkb⟩
  (repeat first | (apply wr_move; exact rfl; with_reducible (conv => enter [6, 3]; whnf)) | (apply wr_alloc; exact rfl) | (apply wr_extract; (iterate 3 exact rfl); with_reducible (conv => enter [6, 3]; whnf)))
  refine wr_storeAll (cs := zeroRq) rfl rfl rfl (zeroRq_one) (heap_alloc_same _ _) rfl rfl ?_
  refine wr_name ?_
  intro wc hwwc
  obtain ⟨bwc, hbwc⟩ : ∃ b, b = (wb).heap.size := ⟨_, rfl⟩
  have hkwc : Keeps NoB wb wc := by rw [hwwc]; exact ((Keeps.refl NoB wb).alloc _).put _ (fun h => by omega)
  have hcwc : (wc).heap[bwc]? = some (.cells (zeroRq).toArray 42 (0, 0)) := by rw [hwwc, hbwc]; exact World.putObj_heap_same (by simp)
  rw [← hbwc]
  clear hwwc
  have hk8c := (hk8a.trans hkb).trans hkwc
  have hcc := hk8c.heap hcw8 (fun h => h)
  have hOc := hO8.keep hk8c
  (repeat first | (apply wr_assign; exact rfl; with_reducible (conv => enter [6, 3]; whnf)) | apply wr_end | apply wc_seq | apply wc_region)
  refine wr_loadAll (cs := GCl c2) rfl rfl rfl hcc (GCl_len hl2) ?_
  (repeat first | (apply wr_move; exact rfl; with_reducible (conv => enter [6, 3]; whnf)))
  refine wr_call (vs := [CliV c2, .int .i64 (k : Int), S []]) rfl (answer_ok hOc.at (hE8.keep hk8c) (by decide) (by unfold answerE; rw [ht2, hkt]; rfl)) rfl ?_
  rintro v wd ⟨⟨s2, l2, rfl, _, hs2⟩, hkd⟩
  rw [ht2, hd2]
  dsimp only
  (repeat first | (apply wr_move; exact rfl; with_reducible (conv => enter [6, 3]; whnf)) | (apply wr_alloc; exact rfl) | (apply wr_extract; (iterate 3 exact rfl); with_reducible (conv => enter [6, 3]; whnf)))
  refine wr_storeAll (cs := GRq k delta 9 s2 nilV nilV []) rfl rfl rfl (GRq_one (own_one hs2) rfl rfl) (heap_alloc_same _ _) rfl rfl ?_
  refine wr_name ?_
  intro we hwwe
  obtain ⟨bwe, hbwe⟩ : ∃ b, b = (wd).heap.size := ⟨_, rfl⟩
  have hkwe : Keeps NoB wd we := by rw [hwwe]; exact ((Keeps.refl NoB wd).alloc _).put _ (fun h => by omega)
  have hcwe : (we).heap[bwe]? = some (.cells (GRq k delta 9 s2 nilV nilV []).toArray 42 (0, 0)) := by rw [hwwe, hbwe]; exact World.putObj_heap_same (by simp)
  rw [← hbwe]
  clear hwwe
  have hk8e := (hk8c.trans hkd).trans hkwe
  have hce := hk8e.heap hcw8 (fun h => h)
  have hOe := hO8.keep hk8e
  have hk0e := hk08.trans hk8e
  obtain ⟨n1, hn1⟩ : ∃ n1, n1 = we.heap.size := ⟨_, rfl⟩
  have hbn : bwxa < n1 := by rw [hn1]; exact lt_of_heap hce
  have hced : we.drew.heap[bwxa]? = _ := hce
  have hEd : ErrT we.drew := hE.keep hk0e.drew
  have hOd : CliO we.drew w.heap.size c2 := hOe.keep ((Keeps.refl NoB we).drew)
  have heq : askE c2 m exW ([] : List HV).length = none := askE_zero ht2m hmt (by decide) (by decide)
  (repeat first | (apply wr_assign; exact rfl; with_reducible (conv => enter [6, 3]; whnf)) | apply wr_end | apply wc_seq)
  refine V.F.wc_drawE (l := _) (V.F.E3 n1 bwxa 1000 11 TCl 12 TRq) (V.F.E30 bwxa 1000) 14 _ (by kernel_rfl) (by kernel_rfl) rfl (by kernel_rfl) (by kernel_rfl) (by decide) (V.F.e3_E0 (by rw [hn1]; exact Nat.le_refl _)) ?_
  apply V.F.chP_pure
  focus
    intro xx w' hk hF
    refine wr_loadAll (cs := GCl c2) rfl rfl rfl ((V.F.e3_mon (by kernel_rfl) hk).heap hced (fun h => h)) (GCl_len hl2) ?_
    apply wr_nil
    exact ⟨rfl, V.F.Kp.of (Keeps.refl _ _)⟩
  focus (intro xx yy h; rfl)
  focus kernel_rfl
  apply V.F.chP_pure
  focus
    intro xx w' hk hF
    apply wr_move; exact rfl; with_reducible (conv => enter [6, 3]; whnf)
    apply wr_nil
    exact ⟨rfl, V.F.Kp.of (Keeps.refl _ _)⟩
  focus (intro xx yy h; rfl)
  focus kernel_rfl
  refine V.F.chP_fact (fun y => .slice (some ⟨blkOf y, 0, none⟩) 1 1) (fun _ y w' => n1 ≤ blkOf y ∧ w'.heap[blkOf y]? = some (.cells (SL [[97]]).toArray 9 (0, 0))) (fun _ _ _ _ _ a => a) (by kernel_rfl) (fun x y w w' h k => ⟨h.1, V.F.blk_E3 h.2 (Nat.ne_of_lt (Nat.lt_of_lt_of_le hbn h.1)) (by decide) (by decide) k⟩) ?_ ?_
  focus
    intro xx w' hk hF
    have hsz := (V.F.e3_mon' hk).size
    refine wr_buildSlice (vs := [S [97]]) rfl rfl (by intro v hv; simp at hv; subst hv; rfl) rfl (by decide) (by decide) (by decide) ?_
    apply wr_nil
    exact ⟨.pointer (some ⟨w'.heap.size, 0, none⟩), rfl, ⟨hn1 ▸ hsz, heap_alloc_same _ _⟩, V.F.Kp.of ((Keeps.refl _ _).alloc _)⟩
  refine V.F.chP_fact (fun y => y) (fun _ y w' => SetO w' n1 (ofP [[97]]) y) (fun _ _ _ _ _ a => a) (by kernel_rfl) (fun x y w w' h k => setO_E3 h hbn (by decide) (by decide) k) ?_ ?_
  focus
    intro xx w' hk hF
    have hsz := (V.F.e3_mon' hk).size
    have h1 : n1 ≤ blkOf (xx 2) ∧ w'.heap[blkOf (xx 2)]? = some (.cells (SL [[97]]).toArray 9 (0, 0)) := hF 2 (by kernel_rfl)
    refine wr_call (vs := [.slice (some ⟨blkOf (xx 2), 0, none⟩) 1 1]) rfl (ofO_ca [[97]] _ w' (slR_blk h1.2 rfl) (by decide) (by decide)) rfl ?_
    rintro v w'' ⟨hR, hkc⟩
    apply wr_nil
    exact ⟨v, rfl, hR.down (hn1 ▸ hsz), V.F.Kp.of hkc⟩
  refine V.F.chP_fact (fun y => y) (fun _ y w' => AskOk w' n1 c2 m exW [] y) (fun _ _ _ _ _ a => a) (by kernel_rfl) (fun x y w w' h k => askOk_E3 h hbn (by decide) (by decide) (by decide) (by decide) k) ?_ ?_
  focus
    intro xx w' hk hF
    have hsz := (V.F.e3_mon' hk).size
    have hk0 := V.F.e3_mon (by kernel_rfl) hk
    have hO : SetO w' n1 (ofP [[97]]) (xx 3) := hF 3 (by kernel_rfl)
    rw [exO] at hO
    refine wr_call (vs := [CliV c2, .int .i64 (m : Int), xx 3, nilV]) rfl (ask_cb (hOd.keep hk0).at (hEd.keep hk0) m (W := exW) hO.toR exW_fine (by decide) (hv := []) (by decide) (slR_nilH _)) rfl ?_
    rintro v w'' ⟨hR, hkc⟩
    apply wr_nil
    refine ⟨v, rfl, ?_, V.F.Kp.of hkc⟩
    rcases hR with ⟨e, he, _⟩ | ⟨_, hR⟩
    · rw [heq] at he; cases he
    · exact hR.down (hn1 ▸ hsz)
  apply V.F.chP_pure
  focus
    intro xx w' hk hF
    apply wr_move; exact rfl; with_reducible (conv => enter [6, 3]; whnf)
    apply wr_nil
    exact ⟨rfl, V.F.Kp.of (Keeps.refl _ _)⟩
  focus (intro xx yy h; exact h 4 (by kernel_rfl))
  focus kernel_rfl
  refine V.F.chP_pure (v := fun x => tupI (x 4) 0) ?_ (fun x y h => congrArg (fun u => tupI u 0) (h 4 (by kernel_rfl))) (by kernel_rfl) ?_
  focus
    intro xx w' hk hF
    have hA : AskOk w' n1 c2 m exW [] (xx 4) := hF 4 (by kernel_rfl)
    obtain ⟨nv, sub, uns, hav, hx, _⟩ := hA
    refine wr_extract (v := tupI (xx 4) 0) rfl hx (by rw [hx]; rfl) ?_
    apply wr_nil
    exact ⟨rfl, V.F.Kp.of (Keeps.refl _ _)⟩
  refine V.F.chP_pure (v := fun x => tupI (x 4) 1) ?_ (fun x y h => congrArg (fun u => tupI u 1) (h 4 (by kernel_rfl))) (by kernel_rfl) ?_
  focus
    intro xx w' hk hF
    have hA : AskOk w' n1 c2 m exW [] (xx 4) := hF 4 (by kernel_rfl)
    obtain ⟨nv, sub, uns, hav, hx, _⟩ := hA
    refine wr_extract (v := tupI (xx 4) 1) rfl hx (by rw [hx]; rfl) ?_
    apply wr_nil
    exact ⟨rfl, V.F.Kp.of (Keeps.refl _ _)⟩
  refine V.F.chP_pure (v := fun x => tupI (x 4) 2) ?_ (fun x y h => congrArg (fun u => tupI u 2) (h 4 (by kernel_rfl))) (by kernel_rfl) ?_
  focus
    intro xx w' hk hF
    have hA : AskOk w' n1 c2 m exW [] (xx 4) := hF 4 (by kernel_rfl)
    obtain ⟨nv, sub, uns, hav, hx, _⟩ := hA
    refine wr_extract (v := tupI (xx 4) 2) rfl hx (by rw [hx]; rfl) ?_
    apply wr_nil
    exact ⟨rfl, V.F.Kp.of (Keeps.refl _ _)⟩
  refine V.F.chP_fact (fun y => .pointer (some ⟨blkOf y, 0, none⟩)) (fun _ y w' => V.F.Fr w' n1 32 25 (blkOf y)) (fun _ _ _ _ _ a => a) (by kernel_rfl) (fun x y w w' h k => h.keep k) ?_ ?_
  focus
    intro xx w' hk hF
    have hsz := (V.F.e3_mon' hk).size
    apply wr_alloc
    focus exact rfl
    apply wr_nil
    exact ⟨.pointer (some ⟨w'.heap.size, 0, none⟩), rfl, ⟨hn1 ▸ hsz, _, heap_alloc_same _ _, rfl⟩, V.F.Kp.of ((Keeps.refl _ _).alloc _)⟩
  refine V.F.chP_fact (fun y => .pointer (some ⟨blkOf y, 0, none⟩)) (fun _ y w' => V.F.Fr w' n1 42 7 (blkOf y)) (fun _ _ _ _ _ a => a) (by kernel_rfl) (fun x y w w' h k => h.keep k) ?_ ?_
  focus
    intro xx w' hk hF
    have hsz := (V.F.e3_mon' hk).size
    apply wr_alloc
    focus exact rfl
    apply wr_nil
    exact ⟨.pointer (some ⟨w'.heap.size, 0, none⟩), rfl, ⟨hn1 ▸ hsz, _, heap_alloc_same _ _, rfl⟩, V.F.Kp.of ((Keeps.refl _ _).alloc _)⟩
  refine V.F.chP_fact (fun _ => undef) (fun x _ w' => n1 ≤ blkOf (x 9) ∧ w'.heap[blkOf (x 9)]? = some (.cells (cellsV (tupI (x 4) 0)) 32 (0, 0))) (fun x x' y w h a => by rw [← h 4 (by kernel_rfl), ← h 9 (by kernel_rfl)]; exact a) (by kernel_rfl) (fun x y w w' h k => ⟨h.1, V.F.blk2_E3 h.2 (Nat.ne_of_lt (Nat.lt_of_lt_of_le hbn h.1)) (by decide) k⟩) ?_ ?_
  focus
    intro xx w' hk hF
    have hA : AskOk w' n1 c2 m exW [] (xx 4) := hF 4 (by kernel_rfl)
    obtain ⟨A, R, hx, hA1, hR1, hA2, hR2⟩ := hA.cells ((hOd.keep (V.F.e3_mon (by kernel_rfl) hk)).at) (by decide)
    obtain ⟨hfr, cs, hg, hcs⟩ : V.F.Fr w' n1 32 25 (blkOf (xx 9)) := hF 9 (by kernel_rfl)
    refine wr_storeAll (cs := A) rfl rfl (by show tupI (xx 4) 0 = _; rw [hx]; rfl) hA2 hg hA1 hcs ?_
    apply wr_nil
    exact ⟨undef, rfl, ⟨hfr, by rw [hx]; exact World.putObj_heap_same (lt_of_heap hg)⟩, V.F.Kp.put hg (by rw [List.size_toArray, hA1, hcs]) (.inr (.inl ⟨rfl, hfr, _, _, hg⟩))⟩
  refine V.F.chP_fact (fun _ => undef) (fun x _ w' => n1 ≤ blkOf (x 10) ∧ w'.heap[blkOf (x 10)]? = some (.cells (cellsV (tupI (x 4) 1)) 42 (0, 0))) (fun x x' y w h a => by rw [← h 4 (by kernel_rfl), ← h 10 (by kernel_rfl)]; exact a) (by kernel_rfl) (fun x y w w' h k => ⟨h.1, V.F.blk3_E3 h.2 (Nat.ne_of_lt (Nat.lt_of_lt_of_le hbn h.1)) (by decide) k⟩) ?_ ?_
  focus
    intro xx w' hk hF
    have hA : AskOk w' n1 c2 m exW [] (xx 4) := hF 4 (by kernel_rfl)
    obtain ⟨A, R, hx, hA1, hR1, hA2, hR2⟩ := hA.cells ((hOd.keep (V.F.e3_mon (by kernel_rfl) hk)).at) (by decide)
    obtain ⟨hfr, cs, hg, hcs⟩ : V.F.Fr w' n1 42 7 (blkOf (xx 10)) := hF 10 (by kernel_rfl)
    refine wr_storeAll (cs := R) rfl rfl (by show tupI (xx 4) 1 = _; rw [hx]; rfl) hR2 hg hR1 hcs ?_
    apply wr_nil
    exact ⟨undef, rfl, ⟨hfr, by rw [hx]; exact World.putObj_heap_same (lt_of_heap hg)⟩, V.F.Kp.put hg (by rw [List.size_toArray, hR1, hcs]) (.inr (.inr ⟨rfl, hfr, _, _, hg⟩))⟩
  refine V.F.chP_pure (v := fun x => tupI (x 4) 2) ?_ (fun x y h => congrArg (fun u => tupI u 2) (h 4 (by kernel_rfl))) (by kernel_rfl) ?_
  focus
    intro xx w' hk hF
    apply wr_assign; exact rfl
    apply wr_nil
    exact ⟨rfl, V.F.Kp.of (Keeps.refl _ _)⟩
  refine V.F.chP_nil ?_
  intro xx wf hkf' hF
  have hkf := V.F.e3_all0 hkf'
  obtain ⟨nv2, sub2, uns2, hav2, hx4, _⟩ : AskOk wf n1 c2 m exW [] (xx 4) := hF 4 (by decide)
  have hrf : n1 ≤ blkOf (xx 10) ∧ wf.heap[blkOf (xx 10)]? = some (.cells (cellsV (tupI (xx 4) 1)) 42 (0, 0)) := hF 12 (by decide)
  clear hF
  obtain ⟨rf, hrfe⟩ : ∃ r, r = blkOf (xx 10) := ⟨_, rfl⟩
  rw [hx4, ← hrfe] at hrf
  replace hrf : n1 ≤ rf ∧ wf.heap[rf]? = some (.cells (GRq m c2.1 (if c2.1 = true then 0 else (topicOf c2 m).2.2) sub2 uns2 hav2 []).toArray 42 (0, 0)) := hrf
  have hn0 : (if c2.1 = true then 0 else (topicOf c2 (m : Int)).2.2) = 0 := by rw [ht2m]; split <;> rfl
  rw [hn0] at hrf
  have hrf2 := hrf.2
  dsimp only [Nat.reduceAdd]
  rw [hx4, ← hrfe]
  have hkef : Keeps NoB we wf := (Keeps.refl NoB we).drew.trans hkf
  have hcwef := hkef.heap hcwe (fun h => h)
  (repeat first | (apply wr_move; exact rfl; with_reducible (conv => enter [6, 3]; whnf)) | (apply wr_assign; exact rfl; with_reducible (conv => enter [6, 3]; whnf)) | apply wr_end | apply wc_seq | apply wc_region | (apply wr_fieldAddr; iterate 2 exact rfl) | (apply wr_load; (iterate 3 exact rfl); (focus repeat first | with_reducible assumption | exact heap_alloc_same _ _ | exact World.putObj_heap_same (by first | omega | (simp only [World.size_alloc, World.putObj_size, ne_eq]; omega)) | ((first | refine hAl ?_ ?_ | refine hPu ?_ ?_); focus first | omega | (simp only [World.size_alloc, World.putObj_size, ne_eq]; omega))); exact rfl; conv => enter [6, 3]; whnf) | (apply wr_cmp; (iterate 3 exact rfl); exact cmpT (by dsimp only [cmpP]; first | done | omega)) | (apply wr_pick (t := true); (iterate 2 exact rfl); with_reducible (conv => enter [6, 3]; whnf)) | (apply wc_ret; try simp only [thenE, inBlockE, bodyQ]))
  exact leave1 (v := .bool true) rfl rfl ⟨rfl, hk0e.trans hkef⟩
end Go.Proofs.YtahlhldkcekbfaaGreatDoor
