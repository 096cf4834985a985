/- norialaw10.examples. -/
import Derived.Test.YtahlhldkcekbfaaGreatDoorGk
namespace Go.Proofs.YtahlhldkcekbfaaGreatDoor
open Go Go.V Go.RowKit
set_option linter.unusedVariables false
set_option linter.unusedSimpArgs false

abbrev exW : PS := (false, [[97]])
abbrev exH : List HV := [([97], 3), ([98], 4)]
theorem exW_fine : Fine exW := ⟨by simp [Rises], by decide⟩
theorem exO : ofP [[97]] = exW := by
  have := ofP_listP exW_fine
  exact this
theorem ask1_none : askE (newC true) 1 exW 2 = none := by decide
theorem own_le {w : World} {base sz n : Nat} {T : TypeId} {v : Value} {xs : List Value} (h : w.ownsRow base T sz v n xs) : xs.length = n * sz := h.1
set_option maxRecDepth 100000 in
set_option maxHeartbeats 8000000 in
theorem examples_ca {w : World} (hE : ErrT w) : Ca Tryz.prog 9 #[] w fun v w' => v = .bool true ∧ Keeps NoB w w' := by
  refine ca_of_body (args := []) Tryz.func9 rfl (by kernel_rfl) ?_
  (repeat first | (apply wr_assign; exact rfl; with_reducible (conv => enter [6, 3]; whnf)) | apply wr_end | apply wc_seq | apply wc_region)
  refine wr_call (vs := [.bool true]) rfl (newCl_ca true w) rfl ?_
  rintro v w1 ⟨rfl, hk1⟩
  (repeat first | (apply wr_alloc; exact rfl))
  refine wr_storeAll (cs := GCl (newC true)) rfl rfl rfl (GCl_one (newC_at w1 true)) (heap_alloc_same _ _) rfl rfl ?_
  refine wr_name ?_
  intro w2 hww2
  obtain ⟨bw2, hbw2⟩ : ∃ b, b = (w1).heap.size := ⟨_, rfl⟩
  have hkw2 : Keeps NoB w1 w2 := by rw [hww2]; exact ((Keeps.refl NoB w1).alloc _).put _ (fun h => by omega)
  have hcw2 : (w2).heap[bw2]? = some (.cells (GCl (newC true)).toArray 32 (0, 0)) := by rw [hww2, hbw2]; exact World.putObj_heap_same (by simp)
  rw [← hbw2]
  clear hww2
  have hz1 := hk1.size
  have hk2 := hk1.trans hkw2
  (repeat first | apply wr_end | apply wc_seq | apply wc_region)
  refine wr_loadAll (cs := GCl (newC true)) rfl rfl rfl hcw2 rfl ?_
  refine wr_call (vs := [CliV (newC true), .int .i64 1, S []]) rfl (answer_ca (newC_at w2 true) (hE.keep hk2) 1 [] (by decide)) rfl ?_
  rintro v w3 ⟨h3, hk3⟩
  rcases h3 with ⟨e3, he3, rfl⟩ | ⟨he3, _⟩
  rotate_left
  · exact absurd he3 (by decide)
  have : e3 = 5 := by
    have h : answerE (newC true) 1 [] = some 5 := by decide
    rw [h] at he3; injection he3 with he3; exact he3.symm
  subst this
  have hc3 := hk3.heap hcw2 (fun h => h)
  (repeat first | (apply wr_move; exact rfl; with_reducible (conv => enter [6, 3]; whnf)) | (apply wr_alloc; exact rfl) | (apply wr_extract; (iterate 3 exact rfl); with_reducible (conv => enter [6, 3]; whnf)))
  refine wr_storeAll (cs := zeroRq) rfl rfl rfl (zeroRq_one) (heap_alloc_same _ _) rfl rfl ?_
  refine wr_name ?_
  intro w4 hww4
  obtain ⟨bw4, hbw4⟩ : ∃ b, b = (w3).heap.size := ⟨_, rfl⟩
  have hkw4 : Keeps NoB w3 w4 := by rw [hww4]; exact ((Keeps.refl NoB w3).alloc _).put _ (fun h => by omega)
  have hcw4 : (w4).heap[bw4]? = some (.cells (zeroRq).toArray 42 (0, 0)) := by rw [hww4, hbw4]; exact World.putObj_heap_same (by simp)
  rw [← hbw4]
  clear hww4
  have hc4 := hkw4.heap hc3 (fun h => h)
  have hz2 := hk2.size
  have hk4 := (hk2.trans hk3).trans hkw4
  have hz4 := hk4.size
  have hl4 := lt_of_heap hc4
  obtain ⟨n1, hn1⟩ : ∃ n1, n1 = w4.heap.size := ⟨_, rfl⟩
  have hbn : bw2 < n1 := by rw [hn1]; exact hl4
  have hc4d : w4.drew.heap[bw2]? = _ := hc4
  have heq : askE (newC true) 1 exW exH.length = none := ask1_none
  have hE4 : ErrT w4.drew := hE.keep (hk4.drew)
  (repeat first | (apply wr_assign; exact rfl; with_reducible (conv => enter [6, 3]; whnf)) | apply wr_end | apply wc_seq)
  refine V.F.wc_drawE (l := _) (V.F.E3 n1 bw2 12 13 TRq 1000 TCl) (V.F.E30 bw2 12) 15 _ (by kernel_rfl) (by kernel_rfl) rfl (by kernel_rfl) (by kernel_rfl) (by decide) (V.F.e3_E0 (by rw [hn1]; exact Nat.le_refl _)) ?_
  apply V.F.chP_pure
  focus
    intro xx w' hk hF
    refine wr_loadAll (cs := GCl (newC true)) rfl rfl rfl ((V.F.e3_mon (by kernel_rfl) hk).heap hc4d (fun h => h)) rfl ?_
    apply wr_nil
    exact ⟨rfl, V.F.Kp.of (Keeps.refl _ _)⟩
  focus (intro xx yy h; rfl)
  focus kernel_rfl
  refine V.F.chP_fact (fun y => .slice (some ⟨blkOf y, 0, none⟩) 1 1) (fun _ y w' => n1 ≤ blkOf y ∧ w'.heap[blkOf y]? = some (.cells (SL [[97]]).toArray 9 (0, 0))) (fun _ _ _ _ _ a => a) (by kernel_rfl) (fun x y w w' h k => ⟨h.1, V.F.blk_E3 h.2 (Nat.ne_of_lt (Nat.lt_of_lt_of_le hbn h.1)) (by decide) (by decide) k⟩) ?_ ?_
  focus
    intro xx w' hk hF
    have hsz := (V.F.e3_mon' hk).size
    refine wr_buildSlice (vs := [S [97]]) rfl rfl (by intro v hv; simp at hv; subst hv; rfl) rfl (by decide) (by decide) (by decide) ?_
    apply wr_nil
    exact ⟨.pointer (some ⟨w'.heap.size, 0, none⟩), rfl, ⟨hn1 ▸ hsz, heap_alloc_same _ _⟩, V.F.Kp.of ((Keeps.refl _ _).alloc _)⟩
  refine V.F.chP_fact (fun y => y) (fun _ y w' => SetO w' n1 (ofP [[97]]) y) (fun _ _ _ _ _ a => a) (by kernel_rfl) (fun x y w w' h k => setO_E3 h hbn (by decide) (by decide) k) ?_ ?_
  focus
    intro xx w' hk hF
    have hsz := (V.F.e3_mon' hk).size
    have h1 : n1 ≤ blkOf (xx 1) ∧ w'.heap[blkOf (xx 1)]? = some (.cells (SL [[97]]).toArray 9 (0, 0)) := hF 1 (by kernel_rfl)
    refine wr_call (vs := [.slice (some ⟨blkOf (xx 1), 0, none⟩) 1 1]) rfl (ofO_ca [[97]] _ w' (slR_blk h1.2 rfl) (by decide) (by decide)) rfl ?_
    rintro v w'' ⟨hR, hkc⟩
    apply wr_nil
    exact ⟨v, rfl, hR.down (hn1 ▸ hsz), V.F.Kp.of hkc⟩
  apply V.F.chP_pure
  focus
    intro xx w' hk hF
    refine wr_build (ps := [(0, S [97]), (1, .int .u64 3)]) (cs := GHv ([97], 3)) rfl rfl rfl rfl ?_
    apply wr_nil
    exact ⟨rfl, V.F.Kp.of (Keeps.refl _ _)⟩
  focus (intro xx yy h; rfl)
  focus kernel_rfl
  apply V.F.chP_pure
  focus
    intro xx w' hk hF
    refine wr_build (ps := [(0, S [98]), (1, .int .u64 4)]) (cs := GHv ([98], 4)) rfl rfl rfl rfl ?_
    apply wr_nil
    exact ⟨rfl, V.F.Kp.of (Keeps.refl _ _)⟩
  focus (intro xx yy h; rfl)
  focus kernel_rfl
  refine V.F.chP_fact (fun y => .slice (some ⟨blkOf y, 0, none⟩) 2 2) (fun _ y w' => n1 ≤ blkOf y ∧ w'.heap[blkOf y]? = some (.cells (exH.flatMap GHv).toArray 55 (0, 0))) (fun _ _ _ _ _ a => a) (by kernel_rfl) (fun x y w w' h k => ⟨h.1, V.F.blk_E3 h.2 (Nat.ne_of_lt (Nat.lt_of_lt_of_le hbn h.1)) (by decide) (by decide) k⟩) ?_ ?_
  focus
    intro xx w' hk hF
    have hsz := (V.F.e3_mon' hk).size
    refine wr_buildSlice (vs := [.agg (GHv ([97], 3)).toArray, .agg (GHv ([98], 4)).toArray]) rfl rfl (by intro v hv; simp at hv; rcases hv with rfl | rfl <;> rfl) rfl (by decide) (by decide) (by decide) ?_
    apply wr_nil
    exact ⟨.pointer (some ⟨w'.heap.size, 0, none⟩), rfl, ⟨hn1 ▸ hsz, heap_alloc_same _ _⟩, V.F.Kp.of ((Keeps.refl _ _).alloc _)⟩
  refine V.F.chP_fact (fun y => y) (fun _ y w' => AskOk w' n1 (newC true) 1 exW exH y) (fun _ _ _ _ _ a => a) (by kernel_rfl) (fun x y w w' h k => askOk_E3 h hbn (by decide) (by decide) (by decide) (by decide) k) ?_ ?_
  focus
    intro xx w' hk hF
    have hsz := (V.F.e3_mon' hk).size
    have hk0 := V.F.e3_mon (by kernel_rfl) hk
    have hO : SetO w' n1 (ofP [[97]]) (xx 2) := hF 2 (by kernel_rfl)
    rw [exO] at hO
    have h5 : n1 ≤ blkOf (xx 5) ∧ w'.heap[blkOf (xx 5)]? = some (.cells (exH.flatMap GHv).toArray 55 (0, 0)) := hF 5 (by kernel_rfl)
    refine wr_call (vs := [CliV (newC true), .int .i64 1, xx 2, .slice (some ⟨blkOf (xx 5), 0, none⟩) 2 2]) rfl (ask_cb (newC_at w' true) (hE4.keep hk0) 1 (W := exW) hO.toR exW_fine (by decide) (hv := exH) (by decide) (slR_blk h5.2 rfl)) rfl ?_
    rintro v w'' ⟨hR, hkc⟩
    apply wr_nil
    refine ⟨v, rfl, ?_, V.F.Kp.of hkc⟩
    rcases hR with ⟨e, he, _⟩ | ⟨_, hR⟩
    · rw [heq] at he; cases he
    · exact hR.down (hn1 ▸ hsz)
  apply V.F.chP_pure
  focus
    intro xx w' hk hF
    apply wr_move; exact rfl; with_reducible (conv => enter [6, 3]; whnf)
    apply wr_nil
    exact ⟨rfl, V.F.Kp.of (Keeps.refl _ _)⟩
  focus (intro xx yy h; exact h 6 (by kernel_rfl))
  focus kernel_rfl
  refine V.F.chP_pure (v := fun x => tupI (x 6) 0) ?_ (fun x y h => congrArg (fun u => tupI u 0) (h 6 (by kernel_rfl))) (by kernel_rfl) ?_
  focus
    intro xx w' hk hF
    have hA : AskOk w' n1 (newC true) 1 exW exH (xx 6) := hF 6 (by kernel_rfl)
    obtain ⟨nv, sub, uns, hav, hx, _⟩ := hA
    refine wr_extract (v := tupI (xx 6) 0) rfl hx (by rw [hx]; rfl) ?_
    apply wr_nil
    exact ⟨rfl, V.F.Kp.of (Keeps.refl _ _)⟩
  refine V.F.chP_pure (v := fun x => tupI (x 6) 1) ?_ (fun x y h => congrArg (fun u => tupI u 1) (h 6 (by kernel_rfl))) (by kernel_rfl) ?_
  focus
    intro xx w' hk hF
    have hA : AskOk w' n1 (newC true) 1 exW exH (xx 6) := hF 6 (by kernel_rfl)
    obtain ⟨nv, sub, uns, hav, hx, _⟩ := hA
    refine wr_extract (v := tupI (xx 6) 1) rfl hx (by rw [hx]; rfl) ?_
    apply wr_nil
    exact ⟨rfl, V.F.Kp.of (Keeps.refl _ _)⟩
  refine V.F.chP_pure (v := fun x => tupI (x 6) 2) ?_ (fun x y h => congrArg (fun u => tupI u 2) (h 6 (by kernel_rfl))) (by kernel_rfl) ?_
  focus
    intro xx w' hk hF
    have hA : AskOk w' n1 (newC true) 1 exW exH (xx 6) := hF 6 (by kernel_rfl)
    obtain ⟨nv, sub, uns, hav, hx, _⟩ := hA
    refine wr_extract (v := tupI (xx 6) 2) rfl hx (by rw [hx]; rfl) ?_
    apply wr_nil
    exact ⟨rfl, V.F.Kp.of (Keeps.refl _ _)⟩
  refine V.F.chP_fact (fun y => .pointer (some ⟨blkOf y, 0, none⟩)) (fun _ y w' => V.F.Fr w' n1 42 7 (blkOf y)) (fun _ _ _ _ _ a => a) (by kernel_rfl) (fun x y w w' h k => h.keep k) ?_ ?_
  focus
    intro xx w' hk hF
    have hsz := (V.F.e3_mon' hk).size
    apply wr_alloc
    focus exact rfl
    apply wr_nil
    exact ⟨.pointer (some ⟨w'.heap.size, 0, none⟩), rfl, ⟨hn1 ▸ hsz, _, heap_alloc_same _ _, rfl⟩, V.F.Kp.of ((Keeps.refl _ _).alloc _)⟩
  refine V.F.chP_fact (fun _ => undef) (fun x _ w' => w'.heap[bw2]? = some (.cells (cellsV (tupI (x 6) 0)) 32 (0, 0))) (fun x x' y w h a => by rw [← h 6 (by kernel_rfl)]; exact a) (by kernel_rfl) (fun x y w w' h k => V.F.blk1_E3 h hbn k) ?_ ?_
  focus
    intro xx w' hk hF
    have hA : AskOk w' n1 (newC true) 1 exW exH (xx 6) := hF 6 (by kernel_rfl)
    have hk0 := V.F.e3_mon (by kernel_rfl) hk
    obtain ⟨A, R, hx, hA1, hR1, hA2, hR2⟩ := hA.cells (newC_at w' true) (by decide)
    have hg := hk0.heap hc4d (fun h => h)
    refine wr_storeAll (cs := A) rfl rfl (by show tupI (xx 6) 0 = _; rw [hx]; rfl) hA2 hg hA1 (by rfl) ?_
    apply wr_nil
    exact ⟨undef, rfl, by rw [hx]; exact World.putObj_heap_same (lt_of_heap hg), V.F.Kp.put hg (by rw [List.size_toArray, hA1]; exact Eq.symm (by rfl)) (.inl ⟨rfl, rfl, rfl⟩)⟩
  refine V.F.chP_fact (fun _ => undef) (fun x _ w' => n1 ≤ blkOf (x 11) ∧ w'.heap[blkOf (x 11)]? = some (.cells (cellsV (tupI (x 6) 1)) 42 (0, 0))) (fun x x' y w h a => by rw [← h 6 (by kernel_rfl), ← h 11 (by kernel_rfl)]; exact a) (by kernel_rfl) (fun x y w w' h k => ⟨h.1, V.F.blk2_E3 h.2 (Nat.ne_of_lt (Nat.lt_of_lt_of_le hbn h.1)) (by decide) k⟩) ?_ ?_
  focus
    intro xx w' hk hF
    have hA : AskOk w' n1 (newC true) 1 exW exH (xx 6) := hF 6 (by kernel_rfl)
    obtain ⟨A, R, hx, hA1, hR1, hA2, hR2⟩ := hA.cells (newC_at w' true) (by decide)
    obtain ⟨hfr, cs, hg, hcs⟩ : V.F.Fr w' n1 42 7 (blkOf (xx 11)) := hF 11 (by kernel_rfl)
    refine wr_storeAll (cs := R) rfl rfl (by show tupI (xx 6) 1 = _; rw [hx]; rfl) hR2 hg hR1 hcs ?_
    apply wr_nil
    exact ⟨undef, rfl, ⟨hfr, by rw [hx]; exact World.putObj_heap_same (lt_of_heap hg)⟩, V.F.Kp.put hg (by rw [List.size_toArray, hR1, hcs]) (.inr (.inl ⟨rfl, hfr, _, _, hg⟩))⟩
  refine V.F.chP_pure (v := fun x => tupI (x 6) 2) ?_ (fun x y h => congrArg (fun u => tupI u 2) (h 6 (by kernel_rfl))) (by kernel_rfl) ?_
  focus
    intro xx w' hk hF
    apply wr_assign; exact rfl
    apply wr_nil
    exact ⟨rfl, V.F.Kp.of (Keeps.refl _ _)⟩
  refine V.F.chP_nil ?_
  intro xx w5 hk5' hF
  have hk5 := V.F.e3_all hk5'
  obtain ⟨nv, sub, uns, hav, hx6, hnv, ⟨ls, hls, hsub⟩, ⟨lu, hlu, huns⟩, ⟨lh, hlh, hhav⟩⟩ : AskOk w5 n1 (newC true) 1 exW exH (xx 6) := hF 6 (by decide)
  have hc5 : w5.heap[bw2]? = some (.cells (cellsV (tupI (xx 6) 0)) 32 (0, 0)) := hF 12 (by decide)
  have hr5 : n1 ≤ blkOf (xx 11) ∧ w5.heap[blkOf (xx 11)]? = some (.cells (cellsV (tupI (xx 6) 1)) 42 (0, 0)) := hF 13 (by decide)
  clear hF
  rw [hx6] at hc5 hr5
  obtain ⟨r5, hr5e⟩ : ∃ r, r = blkOf (xx 11) := ⟨_, rfl⟩
  rw [← hr5e] at hr5
  replace hc5 : w5.heap[bw2]? = some (.cells (GCl (askC (newC true) 1 exW nv)).toArray 32 (0, 0)) := hc5
  replace hr5 : n1 ≤ r5 ∧ w5.heap[r5]? = some (.cells (GRq 1 true 0 sub uns hav []).toArray 42 (0, 0)) := hr5
  dsimp only [Nat.reduceAdd]
  rw [hx6, ← hr5e]
  obtain ⟨c1, hc1⟩ : ∃ c, c = askC (newC true) 1 exW nv := ⟨_, rfl⟩
  rw [← hc1] at hc5
  have hO5 : CliO w5 n1 c1 := by rw [hc1]; exact askC_O (newC_O w5 n1 true) 1 hnv (by decide) exW_fine
  have ht1 : topicOf c1 1 = ((exW, nv), true, 0) := by rw [hc1, topicOf_ask (by decide) (by decide)]; rfl
  have hd1 : c1.1 = true := by rw [hc1]; rfl
  have hl1 : c1.2.length = 6 := hO5.len
  obtain ⟨sa, sc, rfl⟩ := own_sl hsub
  obtain ⟨va, vc, rfl⟩ := own_sl hhav
  rw [show ls.length = 1 by rw [hls]; decide] at hr5
  rw [show lh.length = 1 by rw [hlh]; decide] at hr5
  clear hc1 hx6 hsub huns hhav hls hlu hlh
  have hk05 : Keeps NoB w w5 := (hk4.drew).trans' hk5 (fun i hi e => by omega)
  have hE5 : ErrT w5 := hE.keep hk05
  have hz5 : n1 ≤ w5.heap.size := by have := hk5.size; rw [hn1]; exact this
  have hn01 : w.heap.size ≤ n1 := by rw [hn1]; exact hz4
  obtain ⟨n0, hn0⟩ : ∃ n, n = n1 := ⟨_, rfl⟩
  rw [← hn0] at hO5 hr5 hn01 hbn hz5
  obtain ⟨n1, hn1⟩ : ∃ n1, n1 = w5.heap.size := ⟨_, rfl⟩
  have hbn : bw2 < n1 := by rw [hn1]; omega
  have hc5d : w5.drew.heap[bw2]? = _ := hc5
  have heq : askE c1 1 exW ([] : List HV).length = some 5 := by
    unfold askE
    rw [ht1]
    dsimp only
    rw [sameP_self]; rfl
  have hE5d : ErrT w5.drew := hE5
  have hO5d : CliO w5.drew n0 c1 := hO5.keep ((Keeps.refl NoB w5).drew)
  (repeat first | apply wr_end | apply wc_seq)
  refine V.F.wc_drawE (l := _) (V.F.E3 n1 bw2 1000 10 TCl 11 TRq) (V.F.E30 bw2 1000) 13 _ (by kernel_rfl) (by kernel_rfl) rfl (by kernel_rfl) (by kernel_rfl) (by decide) (V.F.e3_E0 (by rw [hn1]; exact Nat.le_refl _)) ?_
  apply V.F.chP_pure
  focus
    intro xx w' hk hF
    refine wr_loadAll (cs := GCl c1) rfl rfl rfl ((V.F.e3_mon (by kernel_rfl) hk).heap hc5d (fun h => h)) (GCl_len hl1) ?_
    apply wr_nil
    exact ⟨rfl, V.F.Kp.of (Keeps.refl _ _)⟩
  focus (intro xx yy h; rfl)
  focus kernel_rfl
  refine V.F.chP_fact (fun y => .slice (some ⟨blkOf y, 0, none⟩) 1 1) (fun _ y w' => n1 ≤ blkOf y ∧ w'.heap[blkOf y]? = some (.cells (SL [[97]]).toArray 9 (0, 0))) (fun _ _ _ _ _ a => a) (by kernel_rfl) (fun x y w w' h k => ⟨h.1, V.F.blk_E3 h.2 (Nat.ne_of_lt (Nat.lt_of_lt_of_le hbn h.1)) (by decide) (by decide) k⟩) ?_ ?_
  focus
    intro xx w' hk hF
    have hsz := (V.F.e3_mon' hk).size
    refine wr_buildSlice (vs := [S [97]]) rfl rfl (by intro v hv; simp at hv; subst hv; rfl) rfl (by decide) (by decide) (by decide) ?_
    apply wr_nil
    exact ⟨.pointer (some ⟨w'.heap.size, 0, none⟩), rfl, ⟨hn1 ▸ hsz, heap_alloc_same _ _⟩, V.F.Kp.of ((Keeps.refl _ _).alloc _)⟩
  refine V.F.chP_fact (fun y => y) (fun _ y w' => SetO w' n1 (ofP [[97]]) y) (fun _ _ _ _ _ a => a) (by kernel_rfl) (fun x y w w' h k => setO_E3 h hbn (by decide) (by decide) k) ?_ ?_
  focus
    intro xx w' hk hF
    have hsz := (V.F.e3_mon' hk).size
    have h1 : n1 ≤ blkOf (xx 1) ∧ w'.heap[blkOf (xx 1)]? = some (.cells (SL [[97]]).toArray 9 (0, 0)) := hF 1 (by kernel_rfl)
    refine wr_call (vs := [.slice (some ⟨blkOf (xx 1), 0, none⟩) 1 1]) rfl (ofO_ca [[97]] _ w' (slR_blk h1.2 rfl) (by decide) (by decide)) rfl ?_
    rintro v w'' ⟨hR, hkc⟩
    apply wr_nil
    exact ⟨v, rfl, hR.down (hn1 ▸ hsz), V.F.Kp.of hkc⟩
  apply V.F.chP_pure
  focus
    intro xx w' hk hF
    have hk0 := V.F.e3_mon (by kernel_rfl) hk
    have hO : SetO w' n1 (ofP [[97]]) (xx 2) := hF 2 (by kernel_rfl)
    rw [exO] at hO
    refine wr_call (vs := [CliV c1, .int .i64 1, xx 2, nilV]) rfl (ask_cb (hO5d.keep hk0).at (hE5d.keep hk0) 1 (W := exW) hO.toR exW_fine (by decide) (hv := []) (by decide) (slR_nilH _)) rfl ?_
    rintro v w'' ⟨hR, hkc⟩
    rcases hR with ⟨e, he, rfl⟩ | ⟨he, _⟩
    focus
      rw [heq] at he
      injection he with he
      subst he
      apply wr_nil
      exact ⟨rfl, V.F.Kp.of hkc⟩
    rw [heq] at he; cases he
  focus (intro xx yy h; rfl)
  focus kernel_rfl
  apply V.F.chP_pure
  focus
    intro xx w' hk hF
    apply wr_move; exact rfl; with_reducible (conv => enter [6, 3]; whnf)
    apply wr_nil
    exact ⟨rfl, V.F.Kp.of (Keeps.refl _ _)⟩
  focus (intro xx yy h; rfl)
  focus kernel_rfl
  apply V.F.chP_pure
  focus
    intro xx w' hk hF
    apply wr_extract; (iterate 3 exact rfl); with_reducible (conv => enter [6, 3]; whnf)
    apply wr_nil
    exact ⟨rfl, V.F.Kp.of (Keeps.refl _ _)⟩
  focus (intro xx yy h; rfl)
  focus kernel_rfl
  apply V.F.chP_pure
  focus
    intro xx w' hk hF
    apply wr_extract; (iterate 3 exact rfl); with_reducible (conv => enter [6, 3]; whnf)
    apply wr_nil
    exact ⟨rfl, V.F.Kp.of (Keeps.refl _ _)⟩
  focus (intro xx yy h; rfl)
  focus kernel_rfl
  apply V.F.chP_pure
  focus
    intro xx w' hk hF
    apply wr_extract; (iterate 3 exact rfl); with_reducible (conv => enter [6, 3]; whnf)
    apply wr_nil
    exact ⟨rfl, V.F.Kp.of (Keeps.refl _ _)⟩
  focus (intro xx yy h; rfl)
  focus kernel_rfl
  refine V.F.chP_fact (fun y => .pointer (some ⟨blkOf y, 0, none⟩)) (fun _ y w' => V.F.Fr w' n1 32 25 (blkOf y)) (fun _ _ _ _ _ a => a) (by kernel_rfl) (fun x y w w' h k => h.keep k) ?_ ?_
  focus
    intro xx w' hk hF
    have hsz := (V.F.e3_mon' hk).size
    apply wr_alloc
    focus exact rfl
    apply wr_nil
    exact ⟨.pointer (some ⟨w'.heap.size, 0, none⟩), rfl, ⟨hn1 ▸ hsz, _, heap_alloc_same _ _, rfl⟩, V.F.Kp.of ((Keeps.refl _ _).alloc _)⟩
  refine V.F.chP_fact (fun y => .pointer (some ⟨blkOf y, 0, none⟩)) (fun _ y w' => V.F.Fr w' n1 42 7 (blkOf y)) (fun _ _ _ _ _ a => a) (by kernel_rfl) (fun x y w w' h k => h.keep k) ?_ ?_
  focus
    intro xx w' hk hF
    have hsz := (V.F.e3_mon' hk).size
    apply wr_alloc
    focus exact rfl
    apply wr_nil
    exact ⟨.pointer (some ⟨w'.heap.size, 0, none⟩), rfl, ⟨hn1 ▸ hsz, _, heap_alloc_same _ _, rfl⟩, V.F.Kp.of ((Keeps.refl _ _).alloc _)⟩
  refine V.F.chP_fact (fun _ => undef) (fun x _ w' => n1 ≤ blkOf (x 8) ∧ w'.heap[blkOf (x 8)]? = some (.cells (GCl c1).toArray 32 (0, 0))) (fun x x' y w h a => by rw [← h 8 (by kernel_rfl)]; exact a) (by kernel_rfl) (fun x y w w' h k => ⟨h.1, V.F.blk2_E3 h.2 (Nat.ne_of_lt (Nat.lt_of_lt_of_le hbn h.1)) (by decide) k⟩) ?_ ?_
  focus
    intro xx w' hk hF
    obtain ⟨hfr, cs, hg, hcs⟩ : V.F.Fr w' n1 32 25 (blkOf (xx 8)) := hF 8 (by kernel_rfl)
    have hlen : (GCl c1).length = 25 := GCl_len hl1
    refine wr_storeAll (cs := GCl c1) rfl rfl rfl (GCl_one hO5d.at) hg hlen hcs ?_
    apply wr_nil
    exact ⟨undef, rfl, ⟨hfr, World.putObj_heap_same (lt_of_heap hg)⟩, V.F.Kp.put hg (by rw [List.size_toArray, hlen, hcs]) (.inr (.inl ⟨rfl, hfr, _, _, hg⟩))⟩
  refine V.F.chP_fact (fun _ => undef) (fun x _ w' => n1 ≤ blkOf (x 9) ∧ w'.heap[blkOf (x 9)]? = some (.cells (zeroRq).toArray 42 (0, 0))) (fun x x' y w h a => by rw [← h 9 (by kernel_rfl)]; exact a) (by kernel_rfl) (fun x y w w' h k => ⟨h.1, V.F.blk3_E3 h.2 (Nat.ne_of_lt (Nat.lt_of_lt_of_le hbn h.1)) (by decide) k⟩) ?_ ?_
  focus
    intro xx w' hk hF
    obtain ⟨hfr, cs, hg, hcs⟩ : V.F.Fr w' n1 42 7 (blkOf (xx 9)) := hF 9 (by kernel_rfl)
    have hlen : (zeroRq).length = 7 := rfl
    refine wr_storeAll (cs := zeroRq) rfl rfl rfl (zeroRq_one) hg hlen hcs ?_
    apply wr_nil
    exact ⟨undef, rfl, ⟨hfr, World.putObj_heap_same (lt_of_heap hg)⟩, V.F.Kp.put hg (by rw [List.size_toArray, hlen, hcs]) (.inr (.inr ⟨rfl, hfr, _, _, hg⟩))⟩
  apply V.F.chP_pure
  focus
    intro xx w' hk hF
    apply wr_assign; exact rfl; with_reducible (conv => enter [6, 3]; whnf)
    apply wr_nil
    exact ⟨rfl, V.F.Kp.of (Keeps.refl _ _)⟩
  focus (intro xx yy h; rfl)
  focus kernel_rfl
  refine V.F.chP_nil ?_
  intro yy w6 hk6' hF
  have hk6 : Keeps NoB w5 w6 := (Keeps.refl NoB w5).drew.trans (V.F.e3_all0 hk6')
  clear hF
  have hc6 := hk6.heap hc5 (fun h => h)
  have hr6 := hk6.heap hr5.2 (fun h => h)
  have hO6 := hO5.keep hk6
  have hE6 := hE5.keep hk6
  have ht6 : takeE (rightB 1 true false 2) c1 1 true 2 = none := by
    unfold takeE
    rw [ht1, hd1]; rfl
  (repeat first | apply wr_end | apply wc_seq | apply wc_region)
  refine wr_loadAll (cs := GCl c1) rfl rfl rfl hc6 (GCl_len hl1) ?_
  refine wr_build (ps := [(0, .int .i64 1), (1, .bool true), (3, .int .u64 2)]) (cs := GRp 1 true false 2 0 nilV nilV) rfl rfl rfl rfl ?_
  refine wr_call (vs := [CliV c1, .agg (GRp 1 true false 2 0 nilV nilV).toArray]) rfl (take_ok hO6.at hE6 (by decide) ht6) rfl ?_
  rintro v w7 ⟨rfl, hk7⟩
  have hO7 : CliO w7 n0 (takeC c1 1 2) := takeC_O (hO6.keep hk7) 1 (by decide)
  have ht2 : topicOf (takeC c1 1 2) 1 = ((exW, nv), true, 2) := by rw [topicOf_take hl1 (by decide), ht1]
  have hd2 : (takeC c1 1 2).1 = true := hd1
  obtain ⟨c2, hc2⟩ : ∃ c, c = takeC c1 1 2 := ⟨_, rfl⟩
  rw [← hc2] at hO7 ht2 hd2 ⊢
  have hl2 := hO7.len
  have hc7 := hk7.heap hc6 (fun h => h)
  (repeat first | (apply wr_move; exact rfl; with_reducible (conv => enter [6, 3]; whnf)) | (apply wr_extract; (iterate 3 exact rfl); with_reducible (conv => enter [6, 3]; whnf)))
  refine wr_storeAll (cs := GCl c2) rfl rfl rfl (GCl_one hO7.at) hc7 (GCl_len hl2) (GCl_len hl1) ?_
  refine wr_name ?_
  intro w8 hww8
  have hkw8 : Keeps (· = bw2) w7 w8 := by rw [hww8]; exact (Keeps.refl _ w7).put _ (fun _ => rfl)
  have hcw8 : (w8).heap[bw2]? = some (.cells (GCl c2).toArray 32 (0, 0)) := by rw [hww8]; exact World.putObj_heap_same (lt_of_heap hc7)
  clear hww8
  have hO8 : CliO w8 n0 c2 := hO7.keep1 hkw8 hc7 (by decide)
  have hr8 := hkw8.heap (hk7.heap hr6 (fun h => h)) (fun e => by have := hr5.1; omega)
  have hk08 : Keeps NoB w w8 := ((hk05.trans hk6).trans hk7).trans' hkw8 (fun i hi e => by have := hk2.size; omega)
  have hE8 := hE.keep hk08
  have ht8 : takeE (rightB 1 true false 2) c2 1 true 2 = some 6 := by
    unfold takeE
    rw [ht2, hd2]; rfl
  (repeat first | (apply wr_assign; exact rfl; with_reducible (conv => enter [6, 3]; whnf)) | apply wr_end | apply wc_seq | apply wc_region)
  refine wr_loadAll (cs := GCl c2) rfl rfl rfl hcw8 (GCl_len hl2) ?_
  refine wr_build (ps := [(0, .int .i64 1), (1, .bool true), (3, .int .u64 2)]) (cs := GRp 1 true false 2 0 nilV nilV) rfl rfl rfl rfl ?_
  refine wr_call (vs := [CliV c2, .agg (GRp 1 true false 2 0 nilV nilV).toArray]) rfl (take_no hO8.at hE8 (by decide) ht8) rfl ?_
  rintro v w9 ⟨rfl, hk9⟩
  (repeat first | (apply wr_move; exact rfl; with_reducible (conv => enter [6, 3]; whnf)) | (apply wr_alloc; exact rfl) | (apply wr_extract; (iterate 3 exact rfl); with_reducible (conv => enter [6, 3]; whnf)))
  refine wr_storeAll (cs := GCl c2) rfl rfl rfl (GCl_one hO8.at) (heap_alloc_same _ _) (GCl_len hl2) rfl ?_
  refine wr_name ?_
  intro wa hwwa
  obtain ⟨bwa, hbwa⟩ : ∃ b, b = (w9).heap.size := ⟨_, rfl⟩
  have hkwa : Keeps NoB w9 wa := by rw [hwwa]; exact ((Keeps.refl NoB w9).alloc _).put _ (fun h => by omega)
  have hcwa : (wa).heap[bwa]? = some (.cells (GCl c2).toArray 32 (0, 0)) := by rw [hwwa, hbwa]; exact World.putObj_heap_same (by simp)
  rw [← hbwa]
  clear hwwa
  have hca := (hk9.trans hkwa).heap hcw8 (fun h => h)
  have hra := (hk9.trans hkwa).heap hr8 (fun h => h)
  have hOa := (hO8.keep hk9).keep hkwa
  have hEa := (hE8.keep hk9).keep hkwa
  have hka := (hk08.trans hk9).trans hkwa
  (repeat first | (apply wr_assign; exact rfl; with_reducible (conv => enter [6, 3]; whnf)) | apply wr_end | apply wc_seq | apply wc_region)
  refine wr_loadAll (cs := GCl c2) rfl rfl rfl hca (GCl_len hl2) ?_
  refine wr_call (vs := [CliV c2, .int .i64 1, S [110, 111]]) rfl (answer_ok hOa.at hEa (by decide) (by unfold answerE; rw [ht2]; rfl)) rfl ?_
  rintro v wb ⟨⟨s2, l2, rfl, hl2e, hs2⟩, hkb⟩
  rw [ht2, hd2]
  dsimp only
  have hrb := hkb.heap hra (fun h => h)
  (repeat first | (apply wr_move; exact rfl; with_reducible (conv => enter [6, 3]; whnf)) | (apply wr_alloc; exact rfl) | (apply wr_extract; (iterate 3 exact rfl); with_reducible (conv => enter [6, 3]; whnf)))
  refine wr_storeAll (cs := GRq 1 true 2 s2 nilV nilV [110, 111]) rfl rfl rfl (GRq_one (own_one hs2) rfl rfl) (heap_alloc_same _ _) rfl rfl ?_
  refine wr_name ?_
  intro wc hwwc
  obtain ⟨bwc, hbwc⟩ : ∃ b, b = (wb).heap.size := ⟨_, rfl⟩
  have hkwc : Keeps NoB wb wc := by rw [hwwc]; exact ((Keeps.refl NoB wb).alloc _).put _ (fun h => by omega)
  have hcwc : (wc).heap[bwc]? = some (.cells (GRq 1 true 2 s2 nilV nilV [110, 111]).toArray 42 (0, 0)) := by rw [hwwc, hbwc]; exact World.putObj_heap_same (by simp)
  rw [← hbwc]
  clear hwwc
  have hrc := hkwc.heap hrb (fun h => h)
  (repeat first | (apply wr_move; exact rfl; with_reducible (conv => enter [6, 3]; whnf)) | (apply wr_assign; exact rfl; with_reducible (conv => enter [6, 3]; whnf)) | apply wr_end | apply wc_seq | apply wc_region | (apply wr_fieldAddr; iterate 2 exact rfl) | (apply wr_len_slice; iterate 2 exact rfl) | (apply wr_load; (iterate 3 exact rfl); (focus repeat first | with_reducible assumption | exact heap_alloc_same _ _ | exact World.putObj_heap_same (by first | omega | (simp only [World.size_alloc, World.putObj_size, ne_eq]; omega)) | ((first | refine hAl ?_ ?_ | refine hPu ?_ ?_); focus first | omega | (simp only [World.size_alloc, World.putObj_size, ne_eq]; omega))); exact rfl; conv => enter [6, 3]; whnf) | (apply wr_cmp; (iterate 3 exact rfl); exact cmpT (by dsimp only [cmpP]; first | done | omega)) | (apply wr_pick (t := true); (iterate 2 exact rfl); with_reducible (conv => enter [6, 3]; whnf)) | (apply wr_streqc; (iterate 3 exact rfl); (first | exact decide_eq_true (by with_reducible assumption) | exact decide_eq_false (by with_reducible assumption) | exact decide_eq_true rfl | exact rfl)) | (apply wc_ret; try simp only [thenE, inBlockE, bodyQ]))
  exact leave1 (v := .bool true) rfl rfl ⟨rfl, (hka.trans hkb).trans hkwc⟩
end Go.Proofs.YtahlhldkcekbfaaGreatDoor
