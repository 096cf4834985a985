/- The client: Answer. -/
import Derived.Test.YtahlhldkcekbfaaGreatDoorGh
namespace Go.Proofs.YtahlhldkcekbfaaGreatDoor
open Go Go.V Go.RowKit
set_option linter.unusedVariables false
set_option linter.unusedSimpArgs false

theorem typedX_ca {k : Int} {b : Bool} (h : typedB k = b) (w : World) : Ca Tryz.prog 40 #[.int .i64 k] w fun v w' => v = .bool b ∧ w' = w := by
  rw [← h]; exact typed_ca k w
theorem zeroRq_one : ∀ u ∈ zeroRq, u.oneCell' = true := by
  intro u hu
  simp only [zeroRq, GRq, List.mem_cons, List.not_mem_nil, or_false] at hu
  rcases hu with rfl | rfl | rfl | rfl | rfl | rfl | rfl <;> rfl
theorem GRq_one {k : Int} {d : Bool} {n : Nat} {a b c : Value} {dt : TT} (ha : a.oneCell' = true) (hb : b.oneCell' = true) (hc : c.oneCell' = true) : ∀ u ∈ GRq k d n a b c dt, u.oneCell' = true := by
  intro u hu
  simp only [GRq, List.mem_cons, List.not_mem_nil, or_false] at hu
  rcases hu with rfl | rfl | rfl | rfl | rfl | rfl | rfl
  · rfl
  · rfl
  · rfl
  · exact ha
  · exact hb
  · exact hc
  · rfl
theorem SetV_of {w : World} {t : TPc} (h : TpAt w t) : SetR w t.1.1 (SetV t.1.1.1 t.1.2) := ⟨t.1.2, rfl, h.1⟩
set_option maxRecDepth 100000 in
set_option maxHeartbeats 8000000 in
theorem answer_ca {c : CLc} {w : World} (h : CliAt w c) (hE : ErrT w) (k : Int) (dt : TT) (hdt : dt.length ≤ 9223372036854775807) :
    Ca Tryz.prog 14 #[CliV c, .int .i64 k, S dt] w fun v w' => ((∃ e, answerE c k dt = some e ∧ v = .tuple #[.agg zeroRq.toArray, .int .i64 e]) ∨
      (answerE c k dt = none ∧ ∃ sub, v = .tuple #[.agg (GRq k c.1 (topicOf c k).2.2 sub nilV nilV dt).toArray, .int .i64 0] ∧ (c.1 = true → sub = nilV) ∧ (c.1 = false → w'.ownsRow w.heap.size 9 1 sub (listP (topicOf c k).1.1).length (SL (listP (topicOf c k).1.1))))) ∧ Keeps NoB w w' := by
  refine ca_of_body (args := [CliV c, .int .i64 k, S dt]) Tryz.func14 rfl (by kernel_rfl) ?_
  apply wc_seq
  apply wc_region
  refine wr_box (v := CliV c) rfl rfl ?_
  refine wr_name ?_
  intro w1 hww1
  obtain ⟨bw1, hbw1⟩ : ∃ b, b = (w).heap.size := ⟨_, rfl⟩
  have hkw1 : Keeps NoB w w1 := by rw [hww1]; exact (Keeps.refl NoB w).alloc _
  have hcw1 : (w1).heap[bw1]? = some (.cells (GCl c).toArray 32 (0, 0)) := by rw [hww1, hbw1]; exact heap_alloc_same _ _
  rw [← hbw1]
  clear hww1
  apply wr_alloc
  focus exact rfl
  refine wr_name ?_
  intro w4 hww4
  obtain ⟨bw4, hbw4⟩ : ∃ b, b = (w1).heap.size := ⟨_, rfl⟩
  have hkw4 : Keeps NoB w1 w4 := by rw [hww4]; exact (Keeps.refl NoB w1).alloc _
  have hcw4 : (w4).heap[bw4]? = some (.cells (zeroRq).toArray 42 (0, 0)) := by rw [hww4, hbw4]; exact heap_alloc_same _ _
  rw [← hbw4]
  clear hww4
  have hk4 := hkw1.trans hkw4
  have hc14 := hkw4.heap hcw1 (fun h => h)
  have hz1 := hkw1.size
  (repeat first | (apply wr_assign; exact rfl; with_reducible (conv => enter [6, 3]; whnf)) | apply wr_end | apply wc_seq | apply wc_region)
  refine wr_loadAll (cs := GCl c) rfl rfl rfl hc14 (GCl_len h.len) ?_
  (repeat first | (apply wr_move; exact rfl; with_reducible (conv => enter [6, 3]; whnf)))
  refine wr_call (vs := [CliV c, .int .i64 k]) rfl (topic_ca (h.keep hk4) k) rfl ?_
  rintro v w5 ⟨rfl, hk5⟩
  obtain ⟨er, her⟩ : ∃ er, er = answerE c k dt := ⟨_, rfl⟩
  have heq := her
  unfold answerE at heq
  rw [← her]
  obtain ⟨t, ht⟩ : ∃ t, t = topicOf c k := ⟨_, rfl⟩
  have hta : TpAt w5 t := by rw [ht]; exact topicOf_at ((h.keep hk4).keep hk5) k
  rw [← ht] at heq ⊢
  (repeat first | (apply wr_alloc; exact rfl))
  refine wr_storeAll (cs := GTp t) rfl rfl rfl (GTp_one hta) (heap_alloc_same _ _) rfl rfl ?_
  refine wr_name ?_
  intro w6 hww6
  obtain ⟨bw6, hbw6⟩ : ∃ b, b = (w5).heap.size := ⟨_, rfl⟩
  have hkw6 : Keeps NoB w5 w6 := by rw [hww6]; exact ((Keeps.refl NoB w5).alloc _).put _ (fun h => by omega)
  have hcw6 : (w6).heap[bw6]? = some (.cells (GTp t).toArray 29 (0, 0)) := by rw [hww6, hbw6]; exact World.putObj_heap_same (by simp)
  rw [← hbw6]
  clear hww6
  have hk46 := hk5.trans hkw6
  have hkf6 := hk4.trans hk46
  have hc16 := hk46.heap hc14 (fun h => h)
  have hc46 := hk46.heap hcw4 (fun h => h)
  have hk0 : ∀ {w'}, Keeps NoB w6.drew w' → Keeps NoB w6 w' := fun hk => (Keeps.refl NoB w6).drew.trans hk
  have hno : t.2.2 ≤ 18446744073709551615 := hta.2.2
  by_cases hlt : 0 < t.2.2
  · rw [decide_eq_true hlt] at heq
    by_cases hd2 : dt.length ≤ 256
    · skip
      cases ht : typedB k with
      | true =>
        rw [ht, Bool.true_and] at heq
        (repeat first | apply wr_end | apply wc_seq)
        refine wc_drawP (l := _) 15 _ (by kernel_rfl) (by kernel_rfl) rfl (by kernel_rfl) (by kernel_rfl) (by decide) ?_
        apply chP_pure
        focus
          intro xx w' hk hF
          apply wr_move; exact rfl; with_reducible (conv => enter [6, 3]; whnf)
          apply wr_nil
          exact ⟨rfl, Keeps.refl _ _⟩
        focus (intro xx yy h; rfl)
        focus kernel_rfl
        apply chP_pure
        focus
          intro xx w' hk hF
          refine wr_call (vs := [.int .i64 k]) rfl (typedX_ca ht w') rfl ?_
          rintro v w'' ⟨rfl, rfl⟩
          apply wr_nil
          exact ⟨rfl, Keeps.refl _ _⟩
        focus (intro xx yy h; rfl)
        focus kernel_rfl
        apply chP_pure
        focus
          intro xx w' hk hF
          apply wr_move; exact rfl; with_reducible (conv => enter [6, 3]; whnf)
          apply wr_nil
          exact ⟨rfl, Keeps.refl _ _⟩
        focus (intro xx yy h; rfl)
        focus kernel_rfl
        apply chP_pure
        focus
          intro xx w' hk hF
          first
          | (refine wr_skip rfl ?_; apply wr_nil; exact ⟨rfl, Keeps.refl _ _⟩)
          | ((apply wr_move; exact rfl; with_reducible (conv => enter [6, 3]; whnf)); apply wr_nil; exact ⟨rfl, Keeps.refl _ _⟩)
        focus (intro xx yy h; rfl)
        focus kernel_rfl
        apply chP_pure
        focus
          intro xx w' hk hF
          first
          | (refine wr_skip rfl ?_; apply wr_nil; exact ⟨rfl, Keeps.refl _ _⟩)
          | ((apply wr_len_str; iterate 2 exact rfl); apply wr_nil; exact ⟨rfl, Keeps.refl _ _⟩)
        focus (intro xx yy h; rfl)
        focus kernel_rfl
        apply chP_pure
        focus
          intro xx w' hk hF
          first
          | (refine wr_skip rfl ?_; apply wr_nil; exact ⟨rfl, Keeps.refl _ _⟩)
          | ((refine wr_cmp (c := decide (dt.length ≤ 256)) rfl rfl rfl (by first | (rw [decide_eq_true (by assumption)]; exact cmpT (by dsimp only [cmpP]; omega)) | (rw [decide_eq_false (by assumption)]; exact cmpF (by dsimp only [cmpN]; omega))) ?_); apply wr_nil; exact ⟨rfl, Keeps.refl _ _⟩)
        focus (intro xx yy h; rfl)
        focus kernel_rfl
        apply chP_pure
        focus
          intro xx w' hk hF
          first
          | (apply wr_pick (t := true); (iterate 2 exact rfl); with_reducible (conv => enter [6, 3]; whnf); apply wr_nil; exact ⟨rfl, Keeps.refl _ _⟩)
          | (apply wr_pick (t := false); (iterate 2 exact rfl); with_reducible (conv => enter [6, 3]; whnf); apply wr_nil; exact ⟨rfl, Keeps.refl _ _⟩)
        focus (intro xx yy h; rfl)
        focus kernel_rfl
        apply chP_pure
        focus
          intro xx w' hk hF
          refine wr_call (vs := [.bool (decide (dt.length ≤ 256)), .int .i64 1]) rfl (need_ca (decide (dt.length ≤ 256)) 1 w') rfl ?_
          rintro v w'' ⟨rfl, rfl⟩
          apply wr_nil
          exact ⟨rfl, Keeps.refl _ _⟩
        focus (intro xx yy h; rfl)
        focus kernel_rfl
        apply chP_pure
        focus
          intro xx w' hk hF
          refine wr_fieldAddr rfl rfl ?_
          apply wr_nil
          exact ⟨rfl, Keeps.refl _ _⟩
        focus (intro xx yy h; rfl)
        focus kernel_rfl
        apply chP_pure
        focus
          intro xx w' hk hF
          refine wr_load (v := .int .u64 (t.2.2 : Int)) rfl rfl rfl ((hk0 hk).heap hcw6 (fun h => h)) rfl ?_
          apply wr_nil
          exact ⟨rfl, Keeps.refl _ _⟩
        focus (intro xx yy h; rfl)
        focus kernel_rfl
        apply chP_pure
        focus
          intro xx w' hk hF
          apply wr_cmp; (iterate 3 exact rfl); exact cmpT (by dsimp only [cmpP]; omega)
          apply wr_nil
          exact ⟨rfl, Keeps.refl _ _⟩
        focus (intro xx yy h; rfl)
        focus kernel_rfl
        apply chP_pure
        focus
          intro xx w' hk hF
          refine wr_call (vs := [.bool true, .int .i64 5]) rfl (need_ca true 5 w') rfl ?_
          rintro v w'' ⟨rfl, rfl⟩
          apply wr_nil
          exact ⟨rfl, Keeps.refl _ _⟩
        focus (intro xx yy h; rfl)
        focus kernel_rfl
        refine chP_fact (fun y => .slice (some ⟨blkOf y, 0, none⟩) 2 2) (fun y w' => w'.heap[blkOf y]? = some (.cells #[erV (errOf (decide (dt.length ≤ 256)) 1), erV (errOf true 5)] 97 (0, 0))) (fun y w' w'' h k => k.heap h (fun h => h)) ?_ ?_
        focus
          intro xx w' hk hF
          refine wr_buildSlice (vs := [erV (errOf (decide (dt.length ≤ 256)) 1), erV (errOf true 5)]) rfl rfl (by intro v hv; simp at hv; rcases hv with rfl | rfl <;> exact er_size _) rfl (by decide) (by decide) (by decide) ?_
          apply wr_nil
          exact ⟨.pointer (some ⟨w'.heap.size, 0, none⟩), rfl, (by rw [← er2]; exact heap_alloc_same _ _), (Keeps.refl _ _).alloc _⟩
        apply chP_pure
        focus
          intro xx w' hk hF
          refine wr_call (vs := [.slice (some ⟨blkOf (xx 12), 0, none⟩) 2 2]) rfl (first_ca [errOf (decide (dt.length ≤ 256)) 1, errOf true 5] (by simp) (blkOf (xx 12)) _ _ w' (hF 12 (by kernel_rfl))) rfl ?_
          rintro v w'' ⟨rfl, rfl⟩
          apply wr_nil
          exact ⟨rfl, Keeps.refl _ _⟩
        focus (intro xx yy h; rfl)
        focus kernel_rfl
        apply chP_pure
        focus
          intro xx w' hk hF
          apply wr_assign; exact rfl; with_reducible (conv => enter [6, 3]; whnf)
          apply wr_nil
          exact ⟨rfl, Keeps.refl _ _⟩
        focus (intro xx yy h; rfl)
        focus kernel_rfl
        refine chP_nil ?_
        intro xx w7 hk7' hF
        have hk7 := hk0 hk7'
        have hc17 := hk7.heap hc16 (fun h => h)
        have hc47 := hk7.heap hc46 (fun h => h)
        have hc67 := hk7.heap hcw6 (fun h => h)
        have hkf7 := hkf6.trans hk7
        clear hF
        rw [show firstO _ = er from heq.symm]
        (repeat first | (apply wr_move; exact rfl; with_reducible (conv => enter [6, 3]; whnf)) | apply wr_end | apply wc_seq | apply wc_region)
        refine wr_bin rfl rfl rfl (by cases er <;> simp [eqGuard, erV]) (run_neEr er _) ?_
        cases er with
        | some e =>
          (repeat first | apply wr_end | apply wc_seq | apply wc_region | (apply wc_true; exact rfl))
          refine wr_build (ps := []) (cs := zeroRq) rfl rfl rfl rfl ?_
          (repeat first | (apply wr_move; exact rfl; with_reducible (conv => enter [6, 3]; whnf)))
          refine wr_call (vs := [erV (some e)]) rfl (told_ca (some e) w7 (hE.keep hkf7)) rfl ?_
          rintro v w8 ⟨rfl, hk8⟩
          have hc48 := hk8.heap hc47 (fun h => h)
          refine wr_storeAll (cs := zeroRq) rfl rfl rfl zeroRq_one hc48 rfl rfl ?_
          (repeat first | (apply wr_assign; exact rfl; with_reducible (conv => enter [6, 3]; whnf)) | apply wr_end | (apply wc_ret; try simp only [thenE, inBlockE, bodyQ]))
          exact leaveN (vs := [.agg zeroRq.toArray, .int .i64 e]) (resv_cells (cs := zeroRq) (e := 42) (fr := (0, 0)) rfl rfl (World.putObj_heap_same (lt_of_heap hc48)) rfl (resv_tmp rfl resv_nil)) ⟨.inl ⟨e, by trivial, rfl⟩, (hkf7.trans hk8).trans' ((Keeps.refl (· = bw4) w8).put _ (fun _ => rfl)) (fun i hi e => by omega)⟩
        | none =>
          (repeat first | (apply wr_move; exact rfl; with_reducible (conv => enter [6, 3]; whnf)) | apply wr_end | apply wc_seq | apply wc_region | apply wc_skip | (apply wr_fieldAddr; iterate 2 exact rfl) | (apply wr_load; (iterate 3 exact rfl); (focus repeat first | with_reducible assumption | exact heap_alloc_same _ _ | exact World.putObj_heap_same (by first | omega | (simp only [World.size_alloc, World.putObj_size, ne_eq]; omega)) | ((first | refine hAl ?_ ?_ | refine hPu ?_ ?_); focus first | omega | (simp only [World.size_alloc, World.putObj_size, ne_eq]; omega))); exact rfl; conv => enter [6, 3]; whnf) | (apply wc_false; exact rfl))
          refine wr_build (ps := [(0, .int .i64 k), (1, .bool c.1), (2, .int .u64 (t.2.2 : Int)), (6, S dt)]) (cs := GRq k c.1 t.2.2 nilV nilV nilV dt) rfl rfl rfl rfl ?_
          (repeat first | (apply wr_alloc; exact rfl))
          refine wr_storeAll (cs := GRq k c.1 t.2.2 nilV nilV nilV dt) rfl rfl rfl (GRq_one rfl rfl rfl) (heap_alloc_same _ _) rfl rfl ?_
          refine wr_name ?_
          intro w8 hww8
          obtain ⟨bw8, hbw8⟩ : ∃ b, b = (w7).heap.size := ⟨_, rfl⟩
          have hkw8 : Keeps NoB w7 w8 := by rw [hww8]; exact ((Keeps.refl NoB w7).alloc _).put _ (fun h => by omega)
          have hcw8 : (w8).heap[bw8]? = some (.cells (GRq k c.1 t.2.2 nilV nilV nilV dt).toArray 42 (0, 0)) := by rw [hww8, hbw8]; exact World.putObj_heap_same (by simp)
          rw [← hbw8]
          clear hww8
          have hc18 := hkw8.heap hc17 (fun h => h)
          have hc48 := hkw8.heap hc47 (fun h => h)
          have hc68 := hkw8.heap hc67 (fun h => h)
          have hl47 := lt_of_heap hc47
          cases hd : c.1 with
          | true =>
            (repeat first | apply wr_end | apply wc_seq | apply wc_region | (apply wr_fieldAddr; iterate 2 exact rfl) | (apply wr_not; iterate 2 exact rfl) | (apply wr_load; (iterate 3 exact rfl); (focus repeat first | with_reducible assumption | exact heap_alloc_same _ _ | exact World.putObj_heap_same (by first | omega | (simp only [World.size_alloc, World.putObj_size, ne_eq]; omega)) | ((first | refine hAl ?_ ?_ | refine hPu ?_ ?_); focus first | omega | (simp only [World.size_alloc, World.putObj_size, ne_eq]; omega))); exact rfl; conv => enter [6, 3]; whnf))
            rw [hd]
            (repeat first | apply wc_seq | apply wc_region | apply wc_skip | (apply wc_false; exact rfl))
            refine wr_loadAll (cs := GRq k c.1 t.2.2 nilV nilV nilV dt) rfl rfl rfl hcw8 rfl ?_
            refine wr_storeAll (cs := GRq k c.1 t.2.2 nilV nilV nilV dt) rfl rfl rfl (GRq_one rfl rfl rfl) hc48 rfl rfl ?_
            (repeat first | (apply wr_assign; exact rfl; with_reducible (conv => enter [6, 3]; whnf)) | apply wr_end | (apply wc_ret; try simp only [thenE, inBlockE, bodyQ]))
            exact leaveN (vs := [.agg (GRq k c.1 t.2.2 nilV nilV nilV dt).toArray, .int .i64 0]) (resv_cells (cs := GRq k c.1 t.2.2 nilV nilV nilV dt) (e := 42) (fr := (0, 0)) rfl rfl (World.putObj_heap_same (lt_of_heap hc48)) rfl (resv_tmp rfl resv_nil)) ⟨.inr ⟨by trivial, nilV, by rw [hd]; rfl, (fun _ => rfl), (fun h => by cases h)⟩, (hkf7.trans hkw8).trans' ((Keeps.refl (· = bw4) w8).put _ (fun _ => rfl)) (fun i hi e => by omega)⟩
          | false =>
            (repeat first | apply wr_end | apply wc_seq | apply wc_region | (apply wr_fieldAddr; iterate 2 exact rfl) | (apply wr_not; iterate 2 exact rfl) | (apply wr_load; (iterate 3 exact rfl); (focus repeat first | with_reducible assumption | exact heap_alloc_same _ _ | exact World.putObj_heap_same (by first | omega | (simp only [World.size_alloc, World.putObj_size, ne_eq]; omega)) | ((first | refine hAl ?_ ?_ | refine hPu ?_ ?_); focus first | omega | (simp only [World.size_alloc, World.putObj_size, ne_eq]; omega))); exact rfl; conv => enter [6, 3]; whnf))
            rw [hd]
            (repeat first | apply wc_region | (apply wr_fieldAddr; iterate 2 exact rfl) | (apply wc_true; exact rfl))
            refine wr_loadAgg (cs := GSt t.1) rfl rfl rfl rfl (fun q u h => cell_of_heap hc68 (by
              match q, h with
              | 0, h => exact h
              | 1, h => exact h
              | q + 2, h => simp [GSt] at h)) ?_
            have hta8 := (hta.keep (hkw6.trans hk7)).keep hkw8
            refine wr_call (vs := [SetV t.1.1.1 t.1.2]) rfl (listO_ca t.1.1 _ w8 (SetV_of hta8) hta.2.1) rfl ?_
            rintro sv w9 ⟨hso, hk9⟩
            have hsv := SlR.of_own hso
            have hc49 := hk9.heap hc48 (fun h => h)
            have hc89 := hk9.heap hcw8 (fun h => h)
            obtain ⟨sa, sc, hse, _⟩ := slr_strs hsv
            have hs1 : sv.oneCell' = true := by rw [hse]; rfl
            have hz8 := (hkf7.trans hkw8).size
            have hk8s := hkw8.size
            (repeat first | apply wr_end | apply wc_seq | apply wc_region | (apply wr_fieldAddr; iterate 2 exact rfl) | (apply wr_store; (iterate 3 exact rfl); (first | exact rfl | with_reducible assumption); (focus repeat first | with_reducible assumption | exact heap_alloc_same _ _ | exact World.putObj_heap_same (by first | omega | (simp only [World.size_alloc, World.putObj_size, ne_eq]; omega)) | ((first | refine hAl ?_ ?_ | refine hPu ?_ ?_); focus first | omega | (simp only [World.size_alloc, World.putObj_size, ne_eq]; omega))); exact rfl))
            generalize hw10 : World.putObj w9 _ _ = w10
            have hc10 : w10.heap[bw8]? = some (.cells (GRq k c.1 t.2.2 sv nilV nilV dt).toArray 42 (0, 0)) := by rw [← hw10]; exact World.putObj_heap_same (lt_of_heap hc89)
            have hk10 : Keeps (· = bw8) w9 w10 := by rw [← hw10]; exact (Keeps.refl _ w9).put _ (fun _ => rfl)
            have hl8 := lt_of_heap hcw8
            have hsv10 := own_keep hso hk10 (fun q hq e => by have := own_ge hso hq; omega)
            have hc410 := hk10.heap hc49 (fun e => by omega)
            clear hw10
            skip
            refine wr_loadAll (cs := GRq k c.1 t.2.2 sv nilV nilV dt) rfl rfl rfl hc10 rfl ?_
            refine wr_storeAll (cs := GRq k c.1 t.2.2 sv nilV nilV dt) rfl rfl rfl (GRq_one hs1 rfl rfl) hc410 rfl rfl ?_
            (repeat first | (apply wr_assign; exact rfl; with_reducible (conv => enter [6, 3]; whnf)) | apply wr_end | (apply wc_ret; try simp only [thenE, inBlockE, bodyQ]))
            exact leaveN (vs := [.agg (GRq k c.1 t.2.2 sv nilV nilV dt).toArray, .int .i64 0]) (resv_cells (cs := GRq k c.1 t.2.2 sv nilV nilV dt) (e := 42) (fr := (0, 0)) rfl rfl (World.putObj_heap_same (lt_of_heap hc410)) rfl (resv_tmp rfl resv_nil)) ⟨.inr ⟨by trivial, sv, by rw [hd]; rfl, (fun h => by cases h), (fun _ => own_down (own_keep hsv10 ((Keeps.refl (· = bw4) w10).put _ (fun _ => rfl)) (fun q hq e => by have := own_ge hso hq; have := hk8s; omega)) (by have := hk8s; omega))⟩, ((hkf7.trans hkw8).trans hk9).trans' (hk10.mono fun _ _ h => h) (fun i hi e => by omega) |>.trans' ((Keeps.refl (· = bw4) w10).put _ (fun _ => rfl)) (fun i hi e => by omega)⟩
      | false =>
        rw [ht, Bool.false_and] at heq
        (repeat first | apply wr_end | apply wc_seq)
        refine wc_drawP (l := _) 15 _ (by kernel_rfl) (by kernel_rfl) rfl (by kernel_rfl) (by kernel_rfl) (by decide) ?_
        apply chP_pure
        focus
          intro xx w' hk hF
          apply wr_move; exact rfl; with_reducible (conv => enter [6, 3]; whnf)
          apply wr_nil
          exact ⟨rfl, Keeps.refl _ _⟩
        focus (intro xx yy h; rfl)
        focus kernel_rfl
        apply chP_pure
        focus
          intro xx w' hk hF
          refine wr_call (vs := [.int .i64 k]) rfl (typedX_ca ht w') rfl ?_
          rintro v w'' ⟨rfl, rfl⟩
          apply wr_nil
          exact ⟨rfl, Keeps.refl _ _⟩
        focus (intro xx yy h; rfl)
        focus kernel_rfl
        apply chP_pure
        focus
          intro xx w' hk hF
          apply wr_move; exact rfl; with_reducible (conv => enter [6, 3]; whnf)
          apply wr_nil
          exact ⟨rfl, Keeps.refl _ _⟩
        focus (intro xx yy h; rfl)
        focus kernel_rfl
        apply chP_pure
        focus
          intro xx w' hk hF
          first
          | (refine wr_skip rfl ?_; apply wr_nil; exact ⟨rfl, Keeps.refl _ _⟩)
          | ((apply wr_move; exact rfl; with_reducible (conv => enter [6, 3]; whnf)); apply wr_nil; exact ⟨rfl, Keeps.refl _ _⟩)
        focus (intro xx yy h; rfl)
        focus kernel_rfl
        apply chP_pure
        focus
          intro xx w' hk hF
          first
          | (refine wr_skip rfl ?_; apply wr_nil; exact ⟨rfl, Keeps.refl _ _⟩)
          | ((apply wr_len_str; iterate 2 exact rfl); apply wr_nil; exact ⟨rfl, Keeps.refl _ _⟩)
        focus (intro xx yy h; rfl)
        focus kernel_rfl
        apply chP_pure
        focus
          intro xx w' hk hF
          first
          | (refine wr_skip rfl ?_; apply wr_nil; exact ⟨rfl, Keeps.refl _ _⟩)
          | ((refine wr_cmp (c := decide (dt.length ≤ 256)) rfl rfl rfl (by first | (rw [decide_eq_true (by assumption)]; exact cmpT (by dsimp only [cmpP]; omega)) | (rw [decide_eq_false (by assumption)]; exact cmpF (by dsimp only [cmpN]; omega))) ?_); apply wr_nil; exact ⟨rfl, Keeps.refl _ _⟩)
        focus (intro xx yy h; rfl)
        focus kernel_rfl
        apply chP_pure
        focus
          intro xx w' hk hF
          first
          | (apply wr_pick (t := true); (iterate 2 exact rfl); with_reducible (conv => enter [6, 3]; whnf); apply wr_nil; exact ⟨rfl, Keeps.refl _ _⟩)
          | (apply wr_pick (t := false); (iterate 2 exact rfl); with_reducible (conv => enter [6, 3]; whnf); apply wr_nil; exact ⟨rfl, Keeps.refl _ _⟩)
        focus (intro xx yy h; rfl)
        focus kernel_rfl
        apply chP_pure
        focus
          intro xx w' hk hF
          refine wr_call (vs := [.bool (false), .int .i64 1]) rfl (need_ca (false) 1 w') rfl ?_
          rintro v w'' ⟨rfl, rfl⟩
          apply wr_nil
          exact ⟨rfl, Keeps.refl _ _⟩
        focus (intro xx yy h; rfl)
        focus kernel_rfl
        apply chP_pure
        focus
          intro xx w' hk hF
          refine wr_fieldAddr rfl rfl ?_
          apply wr_nil
          exact ⟨rfl, Keeps.refl _ _⟩
        focus (intro xx yy h; rfl)
        focus kernel_rfl
        apply chP_pure
        focus
          intro xx w' hk hF
          refine wr_load (v := .int .u64 (t.2.2 : Int)) rfl rfl rfl ((hk0 hk).heap hcw6 (fun h => h)) rfl ?_
          apply wr_nil
          exact ⟨rfl, Keeps.refl _ _⟩
        focus (intro xx yy h; rfl)
        focus kernel_rfl
        apply chP_pure
        focus
          intro xx w' hk hF
          apply wr_cmp; (iterate 3 exact rfl); exact cmpT (by dsimp only [cmpP]; omega)
          apply wr_nil
          exact ⟨rfl, Keeps.refl _ _⟩
        focus (intro xx yy h; rfl)
        focus kernel_rfl
        apply chP_pure
        focus
          intro xx w' hk hF
          refine wr_call (vs := [.bool true, .int .i64 5]) rfl (need_ca true 5 w') rfl ?_
          rintro v w'' ⟨rfl, rfl⟩
          apply wr_nil
          exact ⟨rfl, Keeps.refl _ _⟩
        focus (intro xx yy h; rfl)
        focus kernel_rfl
        refine chP_fact (fun y => .slice (some ⟨blkOf y, 0, none⟩) 2 2) (fun y w' => w'.heap[blkOf y]? = some (.cells #[erV (errOf (false) 1), erV (errOf true 5)] 97 (0, 0))) (fun y w' w'' h k => k.heap h (fun h => h)) ?_ ?_
        focus
          intro xx w' hk hF
          refine wr_buildSlice (vs := [erV (errOf (false) 1), erV (errOf true 5)]) rfl rfl (by intro v hv; simp at hv; rcases hv with rfl | rfl <;> exact er_size _) rfl (by decide) (by decide) (by decide) ?_
          apply wr_nil
          exact ⟨.pointer (some ⟨w'.heap.size, 0, none⟩), rfl, (by rw [← er2]; exact heap_alloc_same _ _), (Keeps.refl _ _).alloc _⟩
        apply chP_pure
        focus
          intro xx w' hk hF
          refine wr_call (vs := [.slice (some ⟨blkOf (xx 12), 0, none⟩) 2 2]) rfl (first_ca [errOf (false) 1, errOf true 5] (by simp) (blkOf (xx 12)) _ _ w' (hF 12 (by kernel_rfl))) rfl ?_
          rintro v w'' ⟨rfl, rfl⟩
          apply wr_nil
          exact ⟨rfl, Keeps.refl _ _⟩
        focus (intro xx yy h; rfl)
        focus kernel_rfl
        apply chP_pure
        focus
          intro xx w' hk hF
          apply wr_assign; exact rfl; with_reducible (conv => enter [6, 3]; whnf)
          apply wr_nil
          exact ⟨rfl, Keeps.refl _ _⟩
        focus (intro xx yy h; rfl)
        focus kernel_rfl
        refine chP_nil ?_
        intro xx w7 hk7' hF
        have hk7 := hk0 hk7'
        have hc17 := hk7.heap hc16 (fun h => h)
        have hc47 := hk7.heap hc46 (fun h => h)
        have hc67 := hk7.heap hcw6 (fun h => h)
        have hkf7 := hkf6.trans hk7
        clear hF
        rw [show firstO _ = er from heq.symm]
        (repeat first | (apply wr_move; exact rfl; with_reducible (conv => enter [6, 3]; whnf)) | apply wr_end | apply wc_seq | apply wc_region)
        refine wr_bin rfl rfl rfl (by cases er <;> simp [eqGuard, erV]) (run_neEr er _) ?_
        cases er with
        | some e =>
          (repeat first | apply wr_end | apply wc_seq | apply wc_region | (apply wc_true; exact rfl))
          refine wr_build (ps := []) (cs := zeroRq) rfl rfl rfl rfl ?_
          (repeat first | (apply wr_move; exact rfl; with_reducible (conv => enter [6, 3]; whnf)))
          refine wr_call (vs := [erV (some e)]) rfl (told_ca (some e) w7 (hE.keep hkf7)) rfl ?_
          rintro v w8 ⟨rfl, hk8⟩
          have hc48 := hk8.heap hc47 (fun h => h)
          refine wr_storeAll (cs := zeroRq) rfl rfl rfl zeroRq_one hc48 rfl rfl ?_
          (repeat first | (apply wr_assign; exact rfl; with_reducible (conv => enter [6, 3]; whnf)) | apply wr_end | (apply wc_ret; try simp only [thenE, inBlockE, bodyQ]))
          exact leaveN (vs := [.agg zeroRq.toArray, .int .i64 e]) (resv_cells (cs := zeroRq) (e := 42) (fr := (0, 0)) rfl rfl (World.putObj_heap_same (lt_of_heap hc48)) rfl (resv_tmp rfl resv_nil)) ⟨.inl ⟨e, by trivial, rfl⟩, (hkf7.trans hk8).trans' ((Keeps.refl (· = bw4) w8).put _ (fun _ => rfl)) (fun i hi e => by omega)⟩
        | none =>
          (repeat first | (apply wr_move; exact rfl; with_reducible (conv => enter [6, 3]; whnf)) | apply wr_end | apply wc_seq | apply wc_region | apply wc_skip | (apply wr_fieldAddr; iterate 2 exact rfl) | (apply wr_load; (iterate 3 exact rfl); (focus repeat first | with_reducible assumption | exact heap_alloc_same _ _ | exact World.putObj_heap_same (by first | omega | (simp only [World.size_alloc, World.putObj_size, ne_eq]; omega)) | ((first | refine hAl ?_ ?_ | refine hPu ?_ ?_); focus first | omega | (simp only [World.size_alloc, World.putObj_size, ne_eq]; omega))); exact rfl; conv => enter [6, 3]; whnf) | (apply wc_false; exact rfl))
          refine wr_build (ps := [(0, .int .i64 k), (1, .bool c.1), (2, .int .u64 (t.2.2 : Int)), (6, S dt)]) (cs := GRq k c.1 t.2.2 nilV nilV nilV dt) rfl rfl rfl rfl ?_
          (repeat first | (apply wr_alloc; exact rfl))
          refine wr_storeAll (cs := GRq k c.1 t.2.2 nilV nilV nilV dt) rfl rfl rfl (GRq_one rfl rfl rfl) (heap_alloc_same _ _) rfl rfl ?_
          refine wr_name ?_
          intro w8 hww8
          obtain ⟨bw8, hbw8⟩ : ∃ b, b = (w7).heap.size := ⟨_, rfl⟩
          have hkw8 : Keeps NoB w7 w8 := by rw [hww8]; exact ((Keeps.refl NoB w7).alloc _).put _ (fun h => by omega)
          have hcw8 : (w8).heap[bw8]? = some (.cells (GRq k c.1 t.2.2 nilV nilV nilV dt).toArray 42 (0, 0)) := by rw [hww8, hbw8]; exact World.putObj_heap_same (by simp)
          rw [← hbw8]
          clear hww8
          have hc18 := hkw8.heap hc17 (fun h => h)
          have hc48 := hkw8.heap hc47 (fun h => h)
          have hc68 := hkw8.heap hc67 (fun h => h)
          have hl47 := lt_of_heap hc47
          cases hd : c.1 with
          | true =>
            (repeat first | apply wr_end | apply wc_seq | apply wc_region | (apply wr_fieldAddr; iterate 2 exact rfl) | (apply wr_not; iterate 2 exact rfl) | (apply wr_load; (iterate 3 exact rfl); (focus repeat first | with_reducible assumption | exact heap_alloc_same _ _ | exact World.putObj_heap_same (by first | omega | (simp only [World.size_alloc, World.putObj_size, ne_eq]; omega)) | ((first | refine hAl ?_ ?_ | refine hPu ?_ ?_); focus first | omega | (simp only [World.size_alloc, World.putObj_size, ne_eq]; omega))); exact rfl; conv => enter [6, 3]; whnf))
            rw [hd]
            (repeat first | apply wc_seq | apply wc_region | apply wc_skip | (apply wc_false; exact rfl))
            refine wr_loadAll (cs := GRq k c.1 t.2.2 nilV nilV nilV dt) rfl rfl rfl hcw8 rfl ?_
            refine wr_storeAll (cs := GRq k c.1 t.2.2 nilV nilV nilV dt) rfl rfl rfl (GRq_one rfl rfl rfl) hc48 rfl rfl ?_
            (repeat first | (apply wr_assign; exact rfl; with_reducible (conv => enter [6, 3]; whnf)) | apply wr_end | (apply wc_ret; try simp only [thenE, inBlockE, bodyQ]))
            exact leaveN (vs := [.agg (GRq k c.1 t.2.2 nilV nilV nilV dt).toArray, .int .i64 0]) (resv_cells (cs := GRq k c.1 t.2.2 nilV nilV nilV dt) (e := 42) (fr := (0, 0)) rfl rfl (World.putObj_heap_same (lt_of_heap hc48)) rfl (resv_tmp rfl resv_nil)) ⟨.inr ⟨by trivial, nilV, by rw [hd]; rfl, (fun _ => rfl), (fun h => by cases h)⟩, (hkf7.trans hkw8).trans' ((Keeps.refl (· = bw4) w8).put _ (fun _ => rfl)) (fun i hi e => by omega)⟩
          | false =>
            (repeat first | apply wr_end | apply wc_seq | apply wc_region | (apply wr_fieldAddr; iterate 2 exact rfl) | (apply wr_not; iterate 2 exact rfl) | (apply wr_load; (iterate 3 exact rfl); (focus repeat first | with_reducible assumption | exact heap_alloc_same _ _ | exact World.putObj_heap_same (by first | omega | (simp only [World.size_alloc, World.putObj_size, ne_eq]; omega)) | ((first | refine hAl ?_ ?_ | refine hPu ?_ ?_); focus first | omega | (simp only [World.size_alloc, World.putObj_size, ne_eq]; omega))); exact rfl; conv => enter [6, 3]; whnf))
            rw [hd]
            (repeat first | apply wc_region | (apply wr_fieldAddr; iterate 2 exact rfl) | (apply wc_true; exact rfl))
            refine wr_loadAgg (cs := GSt t.1) rfl rfl rfl rfl (fun q u h => cell_of_heap hc68 (by
              match q, h with
              | 0, h => exact h
              | 1, h => exact h
              | q + 2, h => simp [GSt] at h)) ?_
            have hta8 := (hta.keep (hkw6.trans hk7)).keep hkw8
            refine wr_call (vs := [SetV t.1.1.1 t.1.2]) rfl (listO_ca t.1.1 _ w8 (SetV_of hta8) hta.2.1) rfl ?_
            rintro sv w9 ⟨hso, hk9⟩
            have hsv := SlR.of_own hso
            have hc49 := hk9.heap hc48 (fun h => h)
            have hc89 := hk9.heap hcw8 (fun h => h)
            obtain ⟨sa, sc, hse, _⟩ := slr_strs hsv
            have hs1 : sv.oneCell' = true := by rw [hse]; rfl
            have hz8 := (hkf7.trans hkw8).size
            have hk8s := hkw8.size
            (repeat first | apply wr_end | apply wc_seq | apply wc_region | (apply wr_fieldAddr; iterate 2 exact rfl) | (apply wr_store; (iterate 3 exact rfl); (first | exact rfl | with_reducible assumption); (focus repeat first | with_reducible assumption | exact heap_alloc_same _ _ | exact World.putObj_heap_same (by first | omega | (simp only [World.size_alloc, World.putObj_size, ne_eq]; omega)) | ((first | refine hAl ?_ ?_ | refine hPu ?_ ?_); focus first | omega | (simp only [World.size_alloc, World.putObj_size, ne_eq]; omega))); exact rfl))
            generalize hw10 : World.putObj w9 _ _ = w10
            have hc10 : w10.heap[bw8]? = some (.cells (GRq k c.1 t.2.2 sv nilV nilV dt).toArray 42 (0, 0)) := by rw [← hw10]; exact World.putObj_heap_same (lt_of_heap hc89)
            have hk10 : Keeps (· = bw8) w9 w10 := by rw [← hw10]; exact (Keeps.refl _ w9).put _ (fun _ => rfl)
            have hl8 := lt_of_heap hcw8
            have hsv10 := own_keep hso hk10 (fun q hq e => by have := own_ge hso hq; omega)
            have hc410 := hk10.heap hc49 (fun e => by omega)
            clear hw10
            skip
            refine wr_loadAll (cs := GRq k c.1 t.2.2 sv nilV nilV dt) rfl rfl rfl hc10 rfl ?_
            refine wr_storeAll (cs := GRq k c.1 t.2.2 sv nilV nilV dt) rfl rfl rfl (GRq_one hs1 rfl rfl) hc410 rfl rfl ?_
            (repeat first | (apply wr_assign; exact rfl; with_reducible (conv => enter [6, 3]; whnf)) | apply wr_end | (apply wc_ret; try simp only [thenE, inBlockE, bodyQ]))
            exact leaveN (vs := [.agg (GRq k c.1 t.2.2 sv nilV nilV dt).toArray, .int .i64 0]) (resv_cells (cs := GRq k c.1 t.2.2 sv nilV nilV dt) (e := 42) (fr := (0, 0)) rfl rfl (World.putObj_heap_same (lt_of_heap hc410)) rfl (resv_tmp rfl resv_nil)) ⟨.inr ⟨by trivial, sv, by rw [hd]; rfl, (fun h => by cases h), (fun _ => own_down (own_keep hsv10 ((Keeps.refl (· = bw4) w10).put _ (fun _ => rfl)) (fun q hq e => by have := own_ge hso hq; have := hk8s; omega)) (by have := hk8s; omega))⟩, ((hkf7.trans hkw8).trans hk9).trans' (hk10.mono fun _ _ h => h) (fun i hi e => by omega) |>.trans' ((Keeps.refl (· = bw4) w10).put _ (fun _ => rfl)) (fun i hi e => by omega)⟩
    · skip
      cases ht : typedB k with
      | true =>
        rw [ht, Bool.true_and] at heq
        (repeat first | apply wr_end | apply wc_seq)
        refine wc_drawP (l := _) 15 _ (by kernel_rfl) (by kernel_rfl) rfl (by kernel_rfl) (by kernel_rfl) (by decide) ?_
        apply chP_pure
        focus
          intro xx w' hk hF
          apply wr_move; exact rfl; with_reducible (conv => enter [6, 3]; whnf)
          apply wr_nil
          exact ⟨rfl, Keeps.refl _ _⟩
        focus (intro xx yy h; rfl)
        focus kernel_rfl
        apply chP_pure
        focus
          intro xx w' hk hF
          refine wr_call (vs := [.int .i64 k]) rfl (typedX_ca ht w') rfl ?_
          rintro v w'' ⟨rfl, rfl⟩
          apply wr_nil
          exact ⟨rfl, Keeps.refl _ _⟩
        focus (intro xx yy h; rfl)
        focus kernel_rfl
        apply chP_pure
        focus
          intro xx w' hk hF
          apply wr_move; exact rfl; with_reducible (conv => enter [6, 3]; whnf)
          apply wr_nil
          exact ⟨rfl, Keeps.refl _ _⟩
        focus (intro xx yy h; rfl)
        focus kernel_rfl
        apply chP_pure
        focus
          intro xx w' hk hF
          first
          | (refine wr_skip rfl ?_; apply wr_nil; exact ⟨rfl, Keeps.refl _ _⟩)
          | ((apply wr_move; exact rfl; with_reducible (conv => enter [6, 3]; whnf)); apply wr_nil; exact ⟨rfl, Keeps.refl _ _⟩)
        focus (intro xx yy h; rfl)
        focus kernel_rfl
        apply chP_pure
        focus
          intro xx w' hk hF
          first
          | (refine wr_skip rfl ?_; apply wr_nil; exact ⟨rfl, Keeps.refl _ _⟩)
          | ((apply wr_len_str; iterate 2 exact rfl); apply wr_nil; exact ⟨rfl, Keeps.refl _ _⟩)
        focus (intro xx yy h; rfl)
        focus kernel_rfl
        apply chP_pure
        focus
          intro xx w' hk hF
          first
          | (refine wr_skip rfl ?_; apply wr_nil; exact ⟨rfl, Keeps.refl _ _⟩)
          | ((refine wr_cmp (c := decide (dt.length ≤ 256)) rfl rfl rfl (by first | (rw [decide_eq_true (by assumption)]; exact cmpT (by dsimp only [cmpP]; omega)) | (rw [decide_eq_false (by assumption)]; exact cmpF (by dsimp only [cmpN]; omega))) ?_); apply wr_nil; exact ⟨rfl, Keeps.refl _ _⟩)
        focus (intro xx yy h; rfl)
        focus kernel_rfl
        apply chP_pure
        focus
          intro xx w' hk hF
          first
          | (apply wr_pick (t := true); (iterate 2 exact rfl); with_reducible (conv => enter [6, 3]; whnf); apply wr_nil; exact ⟨rfl, Keeps.refl _ _⟩)
          | (apply wr_pick (t := false); (iterate 2 exact rfl); with_reducible (conv => enter [6, 3]; whnf); apply wr_nil; exact ⟨rfl, Keeps.refl _ _⟩)
        focus (intro xx yy h; rfl)
        focus kernel_rfl
        apply chP_pure
        focus
          intro xx w' hk hF
          refine wr_call (vs := [.bool (decide (dt.length ≤ 256)), .int .i64 1]) rfl (need_ca (decide (dt.length ≤ 256)) 1 w') rfl ?_
          rintro v w'' ⟨rfl, rfl⟩
          apply wr_nil
          exact ⟨rfl, Keeps.refl _ _⟩
        focus (intro xx yy h; rfl)
        focus kernel_rfl
        apply chP_pure
        focus
          intro xx w' hk hF
          refine wr_fieldAddr rfl rfl ?_
          apply wr_nil
          exact ⟨rfl, Keeps.refl _ _⟩
        focus (intro xx yy h; rfl)
        focus kernel_rfl
        apply chP_pure
        focus
          intro xx w' hk hF
          refine wr_load (v := .int .u64 (t.2.2 : Int)) rfl rfl rfl ((hk0 hk).heap hcw6 (fun h => h)) rfl ?_
          apply wr_nil
          exact ⟨rfl, Keeps.refl _ _⟩
        focus (intro xx yy h; rfl)
        focus kernel_rfl
        apply chP_pure
        focus
          intro xx w' hk hF
          apply wr_cmp; (iterate 3 exact rfl); exact cmpT (by dsimp only [cmpP]; omega)
          apply wr_nil
          exact ⟨rfl, Keeps.refl _ _⟩
        focus (intro xx yy h; rfl)
        focus kernel_rfl
        apply chP_pure
        focus
          intro xx w' hk hF
          refine wr_call (vs := [.bool true, .int .i64 5]) rfl (need_ca true 5 w') rfl ?_
          rintro v w'' ⟨rfl, rfl⟩
          apply wr_nil
          exact ⟨rfl, Keeps.refl _ _⟩
        focus (intro xx yy h; rfl)
        focus kernel_rfl
        refine chP_fact (fun y => .slice (some ⟨blkOf y, 0, none⟩) 2 2) (fun y w' => w'.heap[blkOf y]? = some (.cells #[erV (errOf (decide (dt.length ≤ 256)) 1), erV (errOf true 5)] 97 (0, 0))) (fun y w' w'' h k => k.heap h (fun h => h)) ?_ ?_
        focus
          intro xx w' hk hF
          refine wr_buildSlice (vs := [erV (errOf (decide (dt.length ≤ 256)) 1), erV (errOf true 5)]) rfl rfl (by intro v hv; simp at hv; rcases hv with rfl | rfl <;> exact er_size _) rfl (by decide) (by decide) (by decide) ?_
          apply wr_nil
          exact ⟨.pointer (some ⟨w'.heap.size, 0, none⟩), rfl, (by rw [← er2]; exact heap_alloc_same _ _), (Keeps.refl _ _).alloc _⟩
        apply chP_pure
        focus
          intro xx w' hk hF
          refine wr_call (vs := [.slice (some ⟨blkOf (xx 12), 0, none⟩) 2 2]) rfl (first_ca [errOf (decide (dt.length ≤ 256)) 1, errOf true 5] (by simp) (blkOf (xx 12)) _ _ w' (hF 12 (by kernel_rfl))) rfl ?_
          rintro v w'' ⟨rfl, rfl⟩
          apply wr_nil
          exact ⟨rfl, Keeps.refl _ _⟩
        focus (intro xx yy h; rfl)
        focus kernel_rfl
        apply chP_pure
        focus
          intro xx w' hk hF
          apply wr_assign; exact rfl; with_reducible (conv => enter [6, 3]; whnf)
          apply wr_nil
          exact ⟨rfl, Keeps.refl _ _⟩
        focus (intro xx yy h; rfl)
        focus kernel_rfl
        refine chP_nil ?_
        intro xx w7 hk7' hF
        have hk7 := hk0 hk7'
        have hc17 := hk7.heap hc16 (fun h => h)
        have hc47 := hk7.heap hc46 (fun h => h)
        have hc67 := hk7.heap hcw6 (fun h => h)
        have hkf7 := hkf6.trans hk7
        clear hF
        rw [show firstO _ = er from heq.symm]
        (repeat first | (apply wr_move; exact rfl; with_reducible (conv => enter [6, 3]; whnf)) | apply wr_end | apply wc_seq | apply wc_region)
        refine wr_bin rfl rfl rfl (by cases er <;> simp [eqGuard, erV]) (run_neEr er _) ?_
        cases er with
        | some e =>
          (repeat first | apply wr_end | apply wc_seq | apply wc_region | (apply wc_true; exact rfl))
          refine wr_build (ps := []) (cs := zeroRq) rfl rfl rfl rfl ?_
          (repeat first | (apply wr_move; exact rfl; with_reducible (conv => enter [6, 3]; whnf)))
          refine wr_call (vs := [erV (some e)]) rfl (told_ca (some e) w7 (hE.keep hkf7)) rfl ?_
          rintro v w8 ⟨rfl, hk8⟩
          have hc48 := hk8.heap hc47 (fun h => h)
          refine wr_storeAll (cs := zeroRq) rfl rfl rfl zeroRq_one hc48 rfl rfl ?_
          (repeat first | (apply wr_assign; exact rfl; with_reducible (conv => enter [6, 3]; whnf)) | apply wr_end | (apply wc_ret; try simp only [thenE, inBlockE, bodyQ]))
          exact leaveN (vs := [.agg zeroRq.toArray, .int .i64 e]) (resv_cells (cs := zeroRq) (e := 42) (fr := (0, 0)) rfl rfl (World.putObj_heap_same (lt_of_heap hc48)) rfl (resv_tmp rfl resv_nil)) ⟨.inl ⟨e, by trivial, rfl⟩, (hkf7.trans hk8).trans' ((Keeps.refl (· = bw4) w8).put _ (fun _ => rfl)) (fun i hi e => by omega)⟩
        | none =>
          (repeat first | (apply wr_move; exact rfl; with_reducible (conv => enter [6, 3]; whnf)) | apply wr_end | apply wc_seq | apply wc_region | apply wc_skip | (apply wr_fieldAddr; iterate 2 exact rfl) | (apply wr_load; (iterate 3 exact rfl); (focus repeat first | with_reducible assumption | exact heap_alloc_same _ _ | exact World.putObj_heap_same (by first | omega | (simp only [World.size_alloc, World.putObj_size, ne_eq]; omega)) | ((first | refine hAl ?_ ?_ | refine hPu ?_ ?_); focus first | omega | (simp only [World.size_alloc, World.putObj_size, ne_eq]; omega))); exact rfl; conv => enter [6, 3]; whnf) | (apply wc_false; exact rfl))
          refine wr_build (ps := [(0, .int .i64 k), (1, .bool c.1), (2, .int .u64 (t.2.2 : Int)), (6, S dt)]) (cs := GRq k c.1 t.2.2 nilV nilV nilV dt) rfl rfl rfl rfl ?_
          (repeat first | (apply wr_alloc; exact rfl))
          refine wr_storeAll (cs := GRq k c.1 t.2.2 nilV nilV nilV dt) rfl rfl rfl (GRq_one rfl rfl rfl) (heap_alloc_same _ _) rfl rfl ?_
          refine wr_name ?_
          intro w8 hww8
          obtain ⟨bw8, hbw8⟩ : ∃ b, b = (w7).heap.size := ⟨_, rfl⟩
          have hkw8 : Keeps NoB w7 w8 := by rw [hww8]; exact ((Keeps.refl NoB w7).alloc _).put _ (fun h => by omega)
          have hcw8 : (w8).heap[bw8]? = some (.cells (GRq k c.1 t.2.2 nilV nilV nilV dt).toArray 42 (0, 0)) := by rw [hww8, hbw8]; exact World.putObj_heap_same (by simp)
          rw [← hbw8]
          clear hww8
          have hc18 := hkw8.heap hc17 (fun h => h)
          have hc48 := hkw8.heap hc47 (fun h => h)
          have hc68 := hkw8.heap hc67 (fun h => h)
          have hl47 := lt_of_heap hc47
          cases hd : c.1 with
          | true =>
            (repeat first | apply wr_end | apply wc_seq | apply wc_region | (apply wr_fieldAddr; iterate 2 exact rfl) | (apply wr_not; iterate 2 exact rfl) | (apply wr_load; (iterate 3 exact rfl); (focus repeat first | with_reducible assumption | exact heap_alloc_same _ _ | exact World.putObj_heap_same (by first | omega | (simp only [World.size_alloc, World.putObj_size, ne_eq]; omega)) | ((first | refine hAl ?_ ?_ | refine hPu ?_ ?_); focus first | omega | (simp only [World.size_alloc, World.putObj_size, ne_eq]; omega))); exact rfl; conv => enter [6, 3]; whnf))
            rw [hd]
            (repeat first | apply wc_seq | apply wc_region | apply wc_skip | (apply wc_false; exact rfl))
            refine wr_loadAll (cs := GRq k c.1 t.2.2 nilV nilV nilV dt) rfl rfl rfl hcw8 rfl ?_
            refine wr_storeAll (cs := GRq k c.1 t.2.2 nilV nilV nilV dt) rfl rfl rfl (GRq_one rfl rfl rfl) hc48 rfl rfl ?_
            (repeat first | (apply wr_assign; exact rfl; with_reducible (conv => enter [6, 3]; whnf)) | apply wr_end | (apply wc_ret; try simp only [thenE, inBlockE, bodyQ]))
            exact leaveN (vs := [.agg (GRq k c.1 t.2.2 nilV nilV nilV dt).toArray, .int .i64 0]) (resv_cells (cs := GRq k c.1 t.2.2 nilV nilV nilV dt) (e := 42) (fr := (0, 0)) rfl rfl (World.putObj_heap_same (lt_of_heap hc48)) rfl (resv_tmp rfl resv_nil)) ⟨.inr ⟨by trivial, nilV, by rw [hd]; rfl, (fun _ => rfl), (fun h => by cases h)⟩, (hkf7.trans hkw8).trans' ((Keeps.refl (· = bw4) w8).put _ (fun _ => rfl)) (fun i hi e => by omega)⟩
          | false =>
            (repeat first | apply wr_end | apply wc_seq | apply wc_region | (apply wr_fieldAddr; iterate 2 exact rfl) | (apply wr_not; iterate 2 exact rfl) | (apply wr_load; (iterate 3 exact rfl); (focus repeat first | with_reducible assumption | exact heap_alloc_same _ _ | exact World.putObj_heap_same (by first | omega | (simp only [World.size_alloc, World.putObj_size, ne_eq]; omega)) | ((first | refine hAl ?_ ?_ | refine hPu ?_ ?_); focus first | omega | (simp only [World.size_alloc, World.putObj_size, ne_eq]; omega))); exact rfl; conv => enter [6, 3]; whnf))
            rw [hd]
            (repeat first | apply wc_region | (apply wr_fieldAddr; iterate 2 exact rfl) | (apply wc_true; exact rfl))
            refine wr_loadAgg (cs := GSt t.1) rfl rfl rfl rfl (fun q u h => cell_of_heap hc68 (by
              match q, h with
              | 0, h => exact h
              | 1, h => exact h
              | q + 2, h => simp [GSt] at h)) ?_
            have hta8 := (hta.keep (hkw6.trans hk7)).keep hkw8
            refine wr_call (vs := [SetV t.1.1.1 t.1.2]) rfl (listO_ca t.1.1 _ w8 (SetV_of hta8) hta.2.1) rfl ?_
            rintro sv w9 ⟨hso, hk9⟩
            have hsv := SlR.of_own hso
            have hc49 := hk9.heap hc48 (fun h => h)
            have hc89 := hk9.heap hcw8 (fun h => h)
            obtain ⟨sa, sc, hse, _⟩ := slr_strs hsv
            have hs1 : sv.oneCell' = true := by rw [hse]; rfl
            have hz8 := (hkf7.trans hkw8).size
            have hk8s := hkw8.size
            (repeat first | apply wr_end | apply wc_seq | apply wc_region | (apply wr_fieldAddr; iterate 2 exact rfl) | (apply wr_store; (iterate 3 exact rfl); (first | exact rfl | with_reducible assumption); (focus repeat first | with_reducible assumption | exact heap_alloc_same _ _ | exact World.putObj_heap_same (by first | omega | (simp only [World.size_alloc, World.putObj_size, ne_eq]; omega)) | ((first | refine hAl ?_ ?_ | refine hPu ?_ ?_); focus first | omega | (simp only [World.size_alloc, World.putObj_size, ne_eq]; omega))); exact rfl))
            generalize hw10 : World.putObj w9 _ _ = w10
            have hc10 : w10.heap[bw8]? = some (.cells (GRq k c.1 t.2.2 sv nilV nilV dt).toArray 42 (0, 0)) := by rw [← hw10]; exact World.putObj_heap_same (lt_of_heap hc89)
            have hk10 : Keeps (· = bw8) w9 w10 := by rw [← hw10]; exact (Keeps.refl _ w9).put _ (fun _ => rfl)
            have hl8 := lt_of_heap hcw8
            have hsv10 := own_keep hso hk10 (fun q hq e => by have := own_ge hso hq; omega)
            have hc410 := hk10.heap hc49 (fun e => by omega)
            clear hw10
            skip
            refine wr_loadAll (cs := GRq k c.1 t.2.2 sv nilV nilV dt) rfl rfl rfl hc10 rfl ?_
            refine wr_storeAll (cs := GRq k c.1 t.2.2 sv nilV nilV dt) rfl rfl rfl (GRq_one hs1 rfl rfl) hc410 rfl rfl ?_
            (repeat first | (apply wr_assign; exact rfl; with_reducible (conv => enter [6, 3]; whnf)) | apply wr_end | (apply wc_ret; try simp only [thenE, inBlockE, bodyQ]))
            exact leaveN (vs := [.agg (GRq k c.1 t.2.2 sv nilV nilV dt).toArray, .int .i64 0]) (resv_cells (cs := GRq k c.1 t.2.2 sv nilV nilV dt) (e := 42) (fr := (0, 0)) rfl rfl (World.putObj_heap_same (lt_of_heap hc410)) rfl (resv_tmp rfl resv_nil)) ⟨.inr ⟨by trivial, sv, by rw [hd]; rfl, (fun h => by cases h), (fun _ => own_down (own_keep hsv10 ((Keeps.refl (· = bw4) w10).put _ (fun _ => rfl)) (fun q hq e => by have := own_ge hso hq; have := hk8s; omega)) (by have := hk8s; omega))⟩, ((hkf7.trans hkw8).trans hk9).trans' (hk10.mono fun _ _ h => h) (fun i hi e => by omega) |>.trans' ((Keeps.refl (· = bw4) w10).put _ (fun _ => rfl)) (fun i hi e => by omega)⟩
      | false =>
        rw [ht, Bool.false_and] at heq
        (repeat first | apply wr_end | apply wc_seq)
        refine wc_drawP (l := _) 15 _ (by kernel_rfl) (by kernel_rfl) rfl (by kernel_rfl) (by kernel_rfl) (by decide) ?_
        apply chP_pure
        focus
          intro xx w' hk hF
          apply wr_move; exact rfl; with_reducible (conv => enter [6, 3]; whnf)
          apply wr_nil
          exact ⟨rfl, Keeps.refl _ _⟩
        focus (intro xx yy h; rfl)
        focus kernel_rfl
        apply chP_pure
        focus
          intro xx w' hk hF
          refine wr_call (vs := [.int .i64 k]) rfl (typedX_ca ht w') rfl ?_
          rintro v w'' ⟨rfl, rfl⟩
          apply wr_nil
          exact ⟨rfl, Keeps.refl _ _⟩
        focus (intro xx yy h; rfl)
        focus kernel_rfl
        apply chP_pure
        focus
          intro xx w' hk hF
          apply wr_move; exact rfl; with_reducible (conv => enter [6, 3]; whnf)
          apply wr_nil
          exact ⟨rfl, Keeps.refl _ _⟩
        focus (intro xx yy h; rfl)
        focus kernel_rfl
        apply chP_pure
        focus
          intro xx w' hk hF
          first
          | (refine wr_skip rfl ?_; apply wr_nil; exact ⟨rfl, Keeps.refl _ _⟩)
          | ((apply wr_move; exact rfl; with_reducible (conv => enter [6, 3]; whnf)); apply wr_nil; exact ⟨rfl, Keeps.refl _ _⟩)
        focus (intro xx yy h; rfl)
        focus kernel_rfl
        apply chP_pure
        focus
          intro xx w' hk hF
          first
          | (refine wr_skip rfl ?_; apply wr_nil; exact ⟨rfl, Keeps.refl _ _⟩)
          | ((apply wr_len_str; iterate 2 exact rfl); apply wr_nil; exact ⟨rfl, Keeps.refl _ _⟩)
        focus (intro xx yy h; rfl)
        focus kernel_rfl
        apply chP_pure
        focus
          intro xx w' hk hF
          first
          | (refine wr_skip rfl ?_; apply wr_nil; exact ⟨rfl, Keeps.refl _ _⟩)
          | ((refine wr_cmp (c := decide (dt.length ≤ 256)) rfl rfl rfl (by first | (rw [decide_eq_true (by assumption)]; exact cmpT (by dsimp only [cmpP]; omega)) | (rw [decide_eq_false (by assumption)]; exact cmpF (by dsimp only [cmpN]; omega))) ?_); apply wr_nil; exact ⟨rfl, Keeps.refl _ _⟩)
        focus (intro xx yy h; rfl)
        focus kernel_rfl
        apply chP_pure
        focus
          intro xx w' hk hF
          first
          | (apply wr_pick (t := true); (iterate 2 exact rfl); with_reducible (conv => enter [6, 3]; whnf); apply wr_nil; exact ⟨rfl, Keeps.refl _ _⟩)
          | (apply wr_pick (t := false); (iterate 2 exact rfl); with_reducible (conv => enter [6, 3]; whnf); apply wr_nil; exact ⟨rfl, Keeps.refl _ _⟩)
        focus (intro xx yy h; rfl)
        focus kernel_rfl
        apply chP_pure
        focus
          intro xx w' hk hF
          refine wr_call (vs := [.bool (false), .int .i64 1]) rfl (need_ca (false) 1 w') rfl ?_
          rintro v w'' ⟨rfl, rfl⟩
          apply wr_nil
          exact ⟨rfl, Keeps.refl _ _⟩
        focus (intro xx yy h; rfl)
        focus kernel_rfl
        apply chP_pure
        focus
          intro xx w' hk hF
          refine wr_fieldAddr rfl rfl ?_
          apply wr_nil
          exact ⟨rfl, Keeps.refl _ _⟩
        focus (intro xx yy h; rfl)
        focus kernel_rfl
        apply chP_pure
        focus
          intro xx w' hk hF
          refine wr_load (v := .int .u64 (t.2.2 : Int)) rfl rfl rfl ((hk0 hk).heap hcw6 (fun h => h)) rfl ?_
          apply wr_nil
          exact ⟨rfl, Keeps.refl _ _⟩
        focus (intro xx yy h; rfl)
        focus kernel_rfl
        apply chP_pure
        focus
          intro xx w' hk hF
          apply wr_cmp; (iterate 3 exact rfl); exact cmpT (by dsimp only [cmpP]; omega)
          apply wr_nil
          exact ⟨rfl, Keeps.refl _ _⟩
        focus (intro xx yy h; rfl)
        focus kernel_rfl
        apply chP_pure
        focus
          intro xx w' hk hF
          refine wr_call (vs := [.bool true, .int .i64 5]) rfl (need_ca true 5 w') rfl ?_
          rintro v w'' ⟨rfl, rfl⟩
          apply wr_nil
          exact ⟨rfl, Keeps.refl _ _⟩
        focus (intro xx yy h; rfl)
        focus kernel_rfl
        refine chP_fact (fun y => .slice (some ⟨blkOf y, 0, none⟩) 2 2) (fun y w' => w'.heap[blkOf y]? = some (.cells #[erV (errOf (false) 1), erV (errOf true 5)] 97 (0, 0))) (fun y w' w'' h k => k.heap h (fun h => h)) ?_ ?_
        focus
          intro xx w' hk hF
          refine wr_buildSlice (vs := [erV (errOf (false) 1), erV (errOf true 5)]) rfl rfl (by intro v hv; simp at hv; rcases hv with rfl | rfl <;> exact er_size _) rfl (by decide) (by decide) (by decide) ?_
          apply wr_nil
          exact ⟨.pointer (some ⟨w'.heap.size, 0, none⟩), rfl, (by rw [← er2]; exact heap_alloc_same _ _), (Keeps.refl _ _).alloc _⟩
        apply chP_pure
        focus
          intro xx w' hk hF
          refine wr_call (vs := [.slice (some ⟨blkOf (xx 12), 0, none⟩) 2 2]) rfl (first_ca [errOf (false) 1, errOf true 5] (by simp) (blkOf (xx 12)) _ _ w' (hF 12 (by kernel_rfl))) rfl ?_
          rintro v w'' ⟨rfl, rfl⟩
          apply wr_nil
          exact ⟨rfl, Keeps.refl _ _⟩
        focus (intro xx yy h; rfl)
        focus kernel_rfl
        apply chP_pure
        focus
          intro xx w' hk hF
          apply wr_assign; exact rfl; with_reducible (conv => enter [6, 3]; whnf)
          apply wr_nil
          exact ⟨rfl, Keeps.refl _ _⟩
        focus (intro xx yy h; rfl)
        focus kernel_rfl
        refine chP_nil ?_
        intro xx w7 hk7' hF
        have hk7 := hk0 hk7'
        have hc17 := hk7.heap hc16 (fun h => h)
        have hc47 := hk7.heap hc46 (fun h => h)
        have hc67 := hk7.heap hcw6 (fun h => h)
        have hkf7 := hkf6.trans hk7
        clear hF
        rw [show firstO _ = er from heq.symm]
        (repeat first | (apply wr_move; exact rfl; with_reducible (conv => enter [6, 3]; whnf)) | apply wr_end | apply wc_seq | apply wc_region)
        refine wr_bin rfl rfl rfl (by cases er <;> simp [eqGuard, erV]) (run_neEr er _) ?_
        cases er with
        | some e =>
          (repeat first | apply wr_end | apply wc_seq | apply wc_region | (apply wc_true; exact rfl))
          refine wr_build (ps := []) (cs := zeroRq) rfl rfl rfl rfl ?_
          (repeat first | (apply wr_move; exact rfl; with_reducible (conv => enter [6, 3]; whnf)))
          refine wr_call (vs := [erV (some e)]) rfl (told_ca (some e) w7 (hE.keep hkf7)) rfl ?_
          rintro v w8 ⟨rfl, hk8⟩
          have hc48 := hk8.heap hc47 (fun h => h)
          refine wr_storeAll (cs := zeroRq) rfl rfl rfl zeroRq_one hc48 rfl rfl ?_
          (repeat first | (apply wr_assign; exact rfl; with_reducible (conv => enter [6, 3]; whnf)) | apply wr_end | (apply wc_ret; try simp only [thenE, inBlockE, bodyQ]))
          exact leaveN (vs := [.agg zeroRq.toArray, .int .i64 e]) (resv_cells (cs := zeroRq) (e := 42) (fr := (0, 0)) rfl rfl (World.putObj_heap_same (lt_of_heap hc48)) rfl (resv_tmp rfl resv_nil)) ⟨.inl ⟨e, by trivial, rfl⟩, (hkf7.trans hk8).trans' ((Keeps.refl (· = bw4) w8).put _ (fun _ => rfl)) (fun i hi e => by omega)⟩
        | none =>
          (repeat first | (apply wr_move; exact rfl; with_reducible (conv => enter [6, 3]; whnf)) | apply wr_end | apply wc_seq | apply wc_region | apply wc_skip | (apply wr_fieldAddr; iterate 2 exact rfl) | (apply wr_load; (iterate 3 exact rfl); (focus repeat first | with_reducible assumption | exact heap_alloc_same _ _ | exact World.putObj_heap_same (by first | omega | (simp only [World.size_alloc, World.putObj_size, ne_eq]; omega)) | ((first | refine hAl ?_ ?_ | refine hPu ?_ ?_); focus first | omega | (simp only [World.size_alloc, World.putObj_size, ne_eq]; omega))); exact rfl; conv => enter [6, 3]; whnf) | (apply wc_false; exact rfl))
          refine wr_build (ps := [(0, .int .i64 k), (1, .bool c.1), (2, .int .u64 (t.2.2 : Int)), (6, S dt)]) (cs := GRq k c.1 t.2.2 nilV nilV nilV dt) rfl rfl rfl rfl ?_
          (repeat first | (apply wr_alloc; exact rfl))
          refine wr_storeAll (cs := GRq k c.1 t.2.2 nilV nilV nilV dt) rfl rfl rfl (GRq_one rfl rfl rfl) (heap_alloc_same _ _) rfl rfl ?_
          refine wr_name ?_
          intro w8 hww8
          obtain ⟨bw8, hbw8⟩ : ∃ b, b = (w7).heap.size := ⟨_, rfl⟩
          have hkw8 : Keeps NoB w7 w8 := by rw [hww8]; exact ((Keeps.refl NoB w7).alloc _).put _ (fun h => by omega)
          have hcw8 : (w8).heap[bw8]? = some (.cells (GRq k c.1 t.2.2 nilV nilV nilV dt).toArray 42 (0, 0)) := by rw [hww8, hbw8]; exact World.putObj_heap_same (by simp)
          rw [← hbw8]
          clear hww8
          have hc18 := hkw8.heap hc17 (fun h => h)
          have hc48 := hkw8.heap hc47 (fun h => h)
          have hc68 := hkw8.heap hc67 (fun h => h)
          have hl47 := lt_of_heap hc47
          cases hd : c.1 with
          | true =>
            (repeat first | apply wr_end | apply wc_seq | apply wc_region | (apply wr_fieldAddr; iterate 2 exact rfl) | (apply wr_not; iterate 2 exact rfl) | (apply wr_load; (iterate 3 exact rfl); (focus repeat first | with_reducible assumption | exact heap_alloc_same _ _ | exact World.putObj_heap_same (by first | omega | (simp only [World.size_alloc, World.putObj_size, ne_eq]; omega)) | ((first | refine hAl ?_ ?_ | refine hPu ?_ ?_); focus first | omega | (simp only [World.size_alloc, World.putObj_size, ne_eq]; omega))); exact rfl; conv => enter [6, 3]; whnf))
            rw [hd]
            (repeat first | apply wc_seq | apply wc_region | apply wc_skip | (apply wc_false; exact rfl))
            refine wr_loadAll (cs := GRq k c.1 t.2.2 nilV nilV nilV dt) rfl rfl rfl hcw8 rfl ?_
            refine wr_storeAll (cs := GRq k c.1 t.2.2 nilV nilV nilV dt) rfl rfl rfl (GRq_one rfl rfl rfl) hc48 rfl rfl ?_
            (repeat first | (apply wr_assign; exact rfl; with_reducible (conv => enter [6, 3]; whnf)) | apply wr_end | (apply wc_ret; try simp only [thenE, inBlockE, bodyQ]))
            exact leaveN (vs := [.agg (GRq k c.1 t.2.2 nilV nilV nilV dt).toArray, .int .i64 0]) (resv_cells (cs := GRq k c.1 t.2.2 nilV nilV nilV dt) (e := 42) (fr := (0, 0)) rfl rfl (World.putObj_heap_same (lt_of_heap hc48)) rfl (resv_tmp rfl resv_nil)) ⟨.inr ⟨by trivial, nilV, by rw [hd]; rfl, (fun _ => rfl), (fun h => by cases h)⟩, (hkf7.trans hkw8).trans' ((Keeps.refl (· = bw4) w8).put _ (fun _ => rfl)) (fun i hi e => by omega)⟩
          | false =>
            (repeat first | apply wr_end | apply wc_seq | apply wc_region | (apply wr_fieldAddr; iterate 2 exact rfl) | (apply wr_not; iterate 2 exact rfl) | (apply wr_load; (iterate 3 exact rfl); (focus repeat first | with_reducible assumption | exact heap_alloc_same _ _ | exact World.putObj_heap_same (by first | omega | (simp only [World.size_alloc, World.putObj_size, ne_eq]; omega)) | ((first | refine hAl ?_ ?_ | refine hPu ?_ ?_); focus first | omega | (simp only [World.size_alloc, World.putObj_size, ne_eq]; omega))); exact rfl; conv => enter [6, 3]; whnf))
            rw [hd]
            (repeat first | apply wc_region | (apply wr_fieldAddr; iterate 2 exact rfl) | (apply wc_true; exact rfl))
            refine wr_loadAgg (cs := GSt t.1) rfl rfl rfl rfl (fun q u h => cell_of_heap hc68 (by
              match q, h with
              | 0, h => exact h
              | 1, h => exact h
              | q + 2, h => simp [GSt] at h)) ?_
            have hta8 := (hta.keep (hkw6.trans hk7)).keep hkw8
            refine wr_call (vs := [SetV t.1.1.1 t.1.2]) rfl (listO_ca t.1.1 _ w8 (SetV_of hta8) hta.2.1) rfl ?_
            rintro sv w9 ⟨hso, hk9⟩
            have hsv := SlR.of_own hso
            have hc49 := hk9.heap hc48 (fun h => h)
            have hc89 := hk9.heap hcw8 (fun h => h)
            obtain ⟨sa, sc, hse, _⟩ := slr_strs hsv
            have hs1 : sv.oneCell' = true := by rw [hse]; rfl
            have hz8 := (hkf7.trans hkw8).size
            have hk8s := hkw8.size
            (repeat first | apply wr_end | apply wc_seq | apply wc_region | (apply wr_fieldAddr; iterate 2 exact rfl) | (apply wr_store; (iterate 3 exact rfl); (first | exact rfl | with_reducible assumption); (focus repeat first | with_reducible assumption | exact heap_alloc_same _ _ | exact World.putObj_heap_same (by first | omega | (simp only [World.size_alloc, World.putObj_size, ne_eq]; omega)) | ((first | refine hAl ?_ ?_ | refine hPu ?_ ?_); focus first | omega | (simp only [World.size_alloc, World.putObj_size, ne_eq]; omega))); exact rfl))
            generalize hw10 : World.putObj w9 _ _ = w10
            have hc10 : w10.heap[bw8]? = some (.cells (GRq k c.1 t.2.2 sv nilV nilV dt).toArray 42 (0, 0)) := by rw [← hw10]; exact World.putObj_heap_same (lt_of_heap hc89)
            have hk10 : Keeps (· = bw8) w9 w10 := by rw [← hw10]; exact (Keeps.refl _ w9).put _ (fun _ => rfl)
            have hl8 := lt_of_heap hcw8
            have hsv10 := own_keep hso hk10 (fun q hq e => by have := own_ge hso hq; omega)
            have hc410 := hk10.heap hc49 (fun e => by omega)
            clear hw10
            skip
            refine wr_loadAll (cs := GRq k c.1 t.2.2 sv nilV nilV dt) rfl rfl rfl hc10 rfl ?_
            refine wr_storeAll (cs := GRq k c.1 t.2.2 sv nilV nilV dt) rfl rfl rfl (GRq_one hs1 rfl rfl) hc410 rfl rfl ?_
            (repeat first | (apply wr_assign; exact rfl; with_reducible (conv => enter [6, 3]; whnf)) | apply wr_end | (apply wc_ret; try simp only [thenE, inBlockE, bodyQ]))
            exact leaveN (vs := [.agg (GRq k c.1 t.2.2 sv nilV nilV dt).toArray, .int .i64 0]) (resv_cells (cs := GRq k c.1 t.2.2 sv nilV nilV dt) (e := 42) (fr := (0, 0)) rfl rfl (World.putObj_heap_same (lt_of_heap hc410)) rfl (resv_tmp rfl resv_nil)) ⟨.inr ⟨by trivial, sv, by rw [hd]; rfl, (fun h => by cases h), (fun _ => own_down (own_keep hsv10 ((Keeps.refl (· = bw4) w10).put _ (fun _ => rfl)) (fun q hq e => by have := own_ge hso hq; have := hk8s; omega)) (by have := hk8s; omega))⟩, ((hkf7.trans hkw8).trans hk9).trans' (hk10.mono fun _ _ h => h) (fun i hi e => by omega) |>.trans' ((Keeps.refl (· = bw4) w10).put _ (fun _ => rfl)) (fun i hi e => by omega)⟩
  · rw [decide_eq_false hlt] at heq
    by_cases hd2 : dt.length ≤ 256
    · skip
      cases ht : typedB k with
      | true =>
        rw [ht, Bool.true_and] at heq
        (repeat first | apply wr_end | apply wc_seq)
        refine wc_drawP (l := _) 15 _ (by kernel_rfl) (by kernel_rfl) rfl (by kernel_rfl) (by kernel_rfl) (by decide) ?_
        apply chP_pure
        focus
          intro xx w' hk hF
          apply wr_move; exact rfl; with_reducible (conv => enter [6, 3]; whnf)
          apply wr_nil
          exact ⟨rfl, Keeps.refl _ _⟩
        focus (intro xx yy h; rfl)
        focus kernel_rfl
        apply chP_pure
        focus
          intro xx w' hk hF
          refine wr_call (vs := [.int .i64 k]) rfl (typedX_ca ht w') rfl ?_
          rintro v w'' ⟨rfl, rfl⟩
          apply wr_nil
          exact ⟨rfl, Keeps.refl _ _⟩
        focus (intro xx yy h; rfl)
        focus kernel_rfl
        apply chP_pure
        focus
          intro xx w' hk hF
          apply wr_move; exact rfl; with_reducible (conv => enter [6, 3]; whnf)
          apply wr_nil
          exact ⟨rfl, Keeps.refl _ _⟩
        focus (intro xx yy h; rfl)
        focus kernel_rfl
        apply chP_pure
        focus
          intro xx w' hk hF
          first
          | (refine wr_skip rfl ?_; apply wr_nil; exact ⟨rfl, Keeps.refl _ _⟩)
          | ((apply wr_move; exact rfl; with_reducible (conv => enter [6, 3]; whnf)); apply wr_nil; exact ⟨rfl, Keeps.refl _ _⟩)
        focus (intro xx yy h; rfl)
        focus kernel_rfl
        apply chP_pure
        focus
          intro xx w' hk hF
          first
          | (refine wr_skip rfl ?_; apply wr_nil; exact ⟨rfl, Keeps.refl _ _⟩)
          | ((apply wr_len_str; iterate 2 exact rfl); apply wr_nil; exact ⟨rfl, Keeps.refl _ _⟩)
        focus (intro xx yy h; rfl)
        focus kernel_rfl
        apply chP_pure
        focus
          intro xx w' hk hF
          first
          | (refine wr_skip rfl ?_; apply wr_nil; exact ⟨rfl, Keeps.refl _ _⟩)
          | ((refine wr_cmp (c := decide (dt.length ≤ 256)) rfl rfl rfl (by first | (rw [decide_eq_true (by assumption)]; exact cmpT (by dsimp only [cmpP]; omega)) | (rw [decide_eq_false (by assumption)]; exact cmpF (by dsimp only [cmpN]; omega))) ?_); apply wr_nil; exact ⟨rfl, Keeps.refl _ _⟩)
        focus (intro xx yy h; rfl)
        focus kernel_rfl
        apply chP_pure
        focus
          intro xx w' hk hF
          first
          | (apply wr_pick (t := true); (iterate 2 exact rfl); with_reducible (conv => enter [6, 3]; whnf); apply wr_nil; exact ⟨rfl, Keeps.refl _ _⟩)
          | (apply wr_pick (t := false); (iterate 2 exact rfl); with_reducible (conv => enter [6, 3]; whnf); apply wr_nil; exact ⟨rfl, Keeps.refl _ _⟩)
        focus (intro xx yy h; rfl)
        focus kernel_rfl
        apply chP_pure
        focus
          intro xx w' hk hF
          refine wr_call (vs := [.bool (decide (dt.length ≤ 256)), .int .i64 1]) rfl (need_ca (decide (dt.length ≤ 256)) 1 w') rfl ?_
          rintro v w'' ⟨rfl, rfl⟩
          apply wr_nil
          exact ⟨rfl, Keeps.refl _ _⟩
        focus (intro xx yy h; rfl)
        focus kernel_rfl
        apply chP_pure
        focus
          intro xx w' hk hF
          refine wr_fieldAddr rfl rfl ?_
          apply wr_nil
          exact ⟨rfl, Keeps.refl _ _⟩
        focus (intro xx yy h; rfl)
        focus kernel_rfl
        apply chP_pure
        focus
          intro xx w' hk hF
          refine wr_load (v := .int .u64 (t.2.2 : Int)) rfl rfl rfl ((hk0 hk).heap hcw6 (fun h => h)) rfl ?_
          apply wr_nil
          exact ⟨rfl, Keeps.refl _ _⟩
        focus (intro xx yy h; rfl)
        focus kernel_rfl
        apply chP_pure
        focus
          intro xx w' hk hF
          apply wr_cmp; (iterate 3 exact rfl); exact cmpF (by dsimp only [cmpN]; omega)
          apply wr_nil
          exact ⟨rfl, Keeps.refl _ _⟩
        focus (intro xx yy h; rfl)
        focus kernel_rfl
        apply chP_pure
        focus
          intro xx w' hk hF
          refine wr_call (vs := [.bool false, .int .i64 5]) rfl (need_ca false 5 w') rfl ?_
          rintro v w'' ⟨rfl, rfl⟩
          apply wr_nil
          exact ⟨rfl, Keeps.refl _ _⟩
        focus (intro xx yy h; rfl)
        focus kernel_rfl
        refine chP_fact (fun y => .slice (some ⟨blkOf y, 0, none⟩) 2 2) (fun y w' => w'.heap[blkOf y]? = some (.cells #[erV (errOf (decide (dt.length ≤ 256)) 1), erV (errOf false 5)] 97 (0, 0))) (fun y w' w'' h k => k.heap h (fun h => h)) ?_ ?_
        focus
          intro xx w' hk hF
          refine wr_buildSlice (vs := [erV (errOf (decide (dt.length ≤ 256)) 1), erV (errOf false 5)]) rfl rfl (by intro v hv; simp at hv; rcases hv with rfl | rfl <;> exact er_size _) rfl (by decide) (by decide) (by decide) ?_
          apply wr_nil
          exact ⟨.pointer (some ⟨w'.heap.size, 0, none⟩), rfl, (by rw [← er2]; exact heap_alloc_same _ _), (Keeps.refl _ _).alloc _⟩
        apply chP_pure
        focus
          intro xx w' hk hF
          refine wr_call (vs := [.slice (some ⟨blkOf (xx 12), 0, none⟩) 2 2]) rfl (first_ca [errOf (decide (dt.length ≤ 256)) 1, errOf false 5] (by simp) (blkOf (xx 12)) _ _ w' (hF 12 (by kernel_rfl))) rfl ?_
          rintro v w'' ⟨rfl, rfl⟩
          apply wr_nil
          exact ⟨rfl, Keeps.refl _ _⟩
        focus (intro xx yy h; rfl)
        focus kernel_rfl
        apply chP_pure
        focus
          intro xx w' hk hF
          apply wr_assign; exact rfl; with_reducible (conv => enter [6, 3]; whnf)
          apply wr_nil
          exact ⟨rfl, Keeps.refl _ _⟩
        focus (intro xx yy h; rfl)
        focus kernel_rfl
        refine chP_nil ?_
        intro xx w7 hk7' hF
        have hk7 := hk0 hk7'
        have hc17 := hk7.heap hc16 (fun h => h)
        have hc47 := hk7.heap hc46 (fun h => h)
        have hc67 := hk7.heap hcw6 (fun h => h)
        have hkf7 := hkf6.trans hk7
        clear hF
        rw [show firstO _ = er from heq.symm]
        (repeat first | (apply wr_move; exact rfl; with_reducible (conv => enter [6, 3]; whnf)) | apply wr_end | apply wc_seq | apply wc_region)
        refine wr_bin rfl rfl rfl (by cases er <;> simp [eqGuard, erV]) (run_neEr er _) ?_
        cases er with
        | some e =>
          (repeat first | apply wr_end | apply wc_seq | apply wc_region | (apply wc_true; exact rfl))
          refine wr_build (ps := []) (cs := zeroRq) rfl rfl rfl rfl ?_
          (repeat first | (apply wr_move; exact rfl; with_reducible (conv => enter [6, 3]; whnf)))
          refine wr_call (vs := [erV (some e)]) rfl (told_ca (some e) w7 (hE.keep hkf7)) rfl ?_
          rintro v w8 ⟨rfl, hk8⟩
          have hc48 := hk8.heap hc47 (fun h => h)
          refine wr_storeAll (cs := zeroRq) rfl rfl rfl zeroRq_one hc48 rfl rfl ?_
          (repeat first | (apply wr_assign; exact rfl; with_reducible (conv => enter [6, 3]; whnf)) | apply wr_end | (apply wc_ret; try simp only [thenE, inBlockE, bodyQ]))
          exact leaveN (vs := [.agg zeroRq.toArray, .int .i64 e]) (resv_cells (cs := zeroRq) (e := 42) (fr := (0, 0)) rfl rfl (World.putObj_heap_same (lt_of_heap hc48)) rfl (resv_tmp rfl resv_nil)) ⟨.inl ⟨e, by trivial, rfl⟩, (hkf7.trans hk8).trans' ((Keeps.refl (· = bw4) w8).put _ (fun _ => rfl)) (fun i hi e => by omega)⟩
        | none =>
          (repeat first | (apply wr_move; exact rfl; with_reducible (conv => enter [6, 3]; whnf)) | apply wr_end | apply wc_seq | apply wc_region | apply wc_skip | (apply wr_fieldAddr; iterate 2 exact rfl) | (apply wr_load; (iterate 3 exact rfl); (focus repeat first | with_reducible assumption | exact heap_alloc_same _ _ | exact World.putObj_heap_same (by first | omega | (simp only [World.size_alloc, World.putObj_size, ne_eq]; omega)) | ((first | refine hAl ?_ ?_ | refine hPu ?_ ?_); focus first | omega | (simp only [World.size_alloc, World.putObj_size, ne_eq]; omega))); exact rfl; conv => enter [6, 3]; whnf) | (apply wc_false; exact rfl))
          refine wr_build (ps := [(0, .int .i64 k), (1, .bool c.1), (2, .int .u64 (t.2.2 : Int)), (6, S dt)]) (cs := GRq k c.1 t.2.2 nilV nilV nilV dt) rfl rfl rfl rfl ?_
          (repeat first | (apply wr_alloc; exact rfl))
          refine wr_storeAll (cs := GRq k c.1 t.2.2 nilV nilV nilV dt) rfl rfl rfl (GRq_one rfl rfl rfl) (heap_alloc_same _ _) rfl rfl ?_
          refine wr_name ?_
          intro w8 hww8
          obtain ⟨bw8, hbw8⟩ : ∃ b, b = (w7).heap.size := ⟨_, rfl⟩
          have hkw8 : Keeps NoB w7 w8 := by rw [hww8]; exact ((Keeps.refl NoB w7).alloc _).put _ (fun h => by omega)
          have hcw8 : (w8).heap[bw8]? = some (.cells (GRq k c.1 t.2.2 nilV nilV nilV dt).toArray 42 (0, 0)) := by rw [hww8, hbw8]; exact World.putObj_heap_same (by simp)
          rw [← hbw8]
          clear hww8
          have hc18 := hkw8.heap hc17 (fun h => h)
          have hc48 := hkw8.heap hc47 (fun h => h)
          have hc68 := hkw8.heap hc67 (fun h => h)
          have hl47 := lt_of_heap hc47
          cases hd : c.1 with
          | true =>
            (repeat first | apply wr_end | apply wc_seq | apply wc_region | (apply wr_fieldAddr; iterate 2 exact rfl) | (apply wr_not; iterate 2 exact rfl) | (apply wr_load; (iterate 3 exact rfl); (focus repeat first | with_reducible assumption | exact heap_alloc_same _ _ | exact World.putObj_heap_same (by first | omega | (simp only [World.size_alloc, World.putObj_size, ne_eq]; omega)) | ((first | refine hAl ?_ ?_ | refine hPu ?_ ?_); focus first | omega | (simp only [World.size_alloc, World.putObj_size, ne_eq]; omega))); exact rfl; conv => enter [6, 3]; whnf))
            rw [hd]
            (repeat first | apply wc_seq | apply wc_region | apply wc_skip | (apply wc_false; exact rfl))
            refine wr_loadAll (cs := GRq k c.1 t.2.2 nilV nilV nilV dt) rfl rfl rfl hcw8 rfl ?_
            refine wr_storeAll (cs := GRq k c.1 t.2.2 nilV nilV nilV dt) rfl rfl rfl (GRq_one rfl rfl rfl) hc48 rfl rfl ?_
            (repeat first | (apply wr_assign; exact rfl; with_reducible (conv => enter [6, 3]; whnf)) | apply wr_end | (apply wc_ret; try simp only [thenE, inBlockE, bodyQ]))
            exact leaveN (vs := [.agg (GRq k c.1 t.2.2 nilV nilV nilV dt).toArray, .int .i64 0]) (resv_cells (cs := GRq k c.1 t.2.2 nilV nilV nilV dt) (e := 42) (fr := (0, 0)) rfl rfl (World.putObj_heap_same (lt_of_heap hc48)) rfl (resv_tmp rfl resv_nil)) ⟨.inr ⟨by trivial, nilV, by rw [hd]; rfl, (fun _ => rfl), (fun h => by cases h)⟩, (hkf7.trans hkw8).trans' ((Keeps.refl (· = bw4) w8).put _ (fun _ => rfl)) (fun i hi e => by omega)⟩
          | false =>
            (repeat first | apply wr_end | apply wc_seq | apply wc_region | (apply wr_fieldAddr; iterate 2 exact rfl) | (apply wr_not; iterate 2 exact rfl) | (apply wr_load; (iterate 3 exact rfl); (focus repeat first | with_reducible assumption | exact heap_alloc_same _ _ | exact World.putObj_heap_same (by first | omega | (simp only [World.size_alloc, World.putObj_size, ne_eq]; omega)) | ((first | refine hAl ?_ ?_ | refine hPu ?_ ?_); focus first | omega | (simp only [World.size_alloc, World.putObj_size, ne_eq]; omega))); exact rfl; conv => enter [6, 3]; whnf))
            rw [hd]
            (repeat first | apply wc_region | (apply wr_fieldAddr; iterate 2 exact rfl) | (apply wc_true; exact rfl))
            refine wr_loadAgg (cs := GSt t.1) rfl rfl rfl rfl (fun q u h => cell_of_heap hc68 (by
              match q, h with
              | 0, h => exact h
              | 1, h => exact h
              | q + 2, h => simp [GSt] at h)) ?_
            have hta8 := (hta.keep (hkw6.trans hk7)).keep hkw8
            refine wr_call (vs := [SetV t.1.1.1 t.1.2]) rfl (listO_ca t.1.1 _ w8 (SetV_of hta8) hta.2.1) rfl ?_
            rintro sv w9 ⟨hso, hk9⟩
            have hsv := SlR.of_own hso
            have hc49 := hk9.heap hc48 (fun h => h)
            have hc89 := hk9.heap hcw8 (fun h => h)
            obtain ⟨sa, sc, hse, _⟩ := slr_strs hsv
            have hs1 : sv.oneCell' = true := by rw [hse]; rfl
            have hz8 := (hkf7.trans hkw8).size
            have hk8s := hkw8.size
            (repeat first | apply wr_end | apply wc_seq | apply wc_region | (apply wr_fieldAddr; iterate 2 exact rfl) | (apply wr_store; (iterate 3 exact rfl); (first | exact rfl | with_reducible assumption); (focus repeat first | with_reducible assumption | exact heap_alloc_same _ _ | exact World.putObj_heap_same (by first | omega | (simp only [World.size_alloc, World.putObj_size, ne_eq]; omega)) | ((first | refine hAl ?_ ?_ | refine hPu ?_ ?_); focus first | omega | (simp only [World.size_alloc, World.putObj_size, ne_eq]; omega))); exact rfl))
            generalize hw10 : World.putObj w9 _ _ = w10
            have hc10 : w10.heap[bw8]? = some (.cells (GRq k c.1 t.2.2 sv nilV nilV dt).toArray 42 (0, 0)) := by rw [← hw10]; exact World.putObj_heap_same (lt_of_heap hc89)
            have hk10 : Keeps (· = bw8) w9 w10 := by rw [← hw10]; exact (Keeps.refl _ w9).put _ (fun _ => rfl)
            have hl8 := lt_of_heap hcw8
            have hsv10 := own_keep hso hk10 (fun q hq e => by have := own_ge hso hq; omega)
            have hc410 := hk10.heap hc49 (fun e => by omega)
            clear hw10
            skip
            refine wr_loadAll (cs := GRq k c.1 t.2.2 sv nilV nilV dt) rfl rfl rfl hc10 rfl ?_
            refine wr_storeAll (cs := GRq k c.1 t.2.2 sv nilV nilV dt) rfl rfl rfl (GRq_one hs1 rfl rfl) hc410 rfl rfl ?_
            (repeat first | (apply wr_assign; exact rfl; with_reducible (conv => enter [6, 3]; whnf)) | apply wr_end | (apply wc_ret; try simp only [thenE, inBlockE, bodyQ]))
            exact leaveN (vs := [.agg (GRq k c.1 t.2.2 sv nilV nilV dt).toArray, .int .i64 0]) (resv_cells (cs := GRq k c.1 t.2.2 sv nilV nilV dt) (e := 42) (fr := (0, 0)) rfl rfl (World.putObj_heap_same (lt_of_heap hc410)) rfl (resv_tmp rfl resv_nil)) ⟨.inr ⟨by trivial, sv, by rw [hd]; rfl, (fun h => by cases h), (fun _ => own_down (own_keep hsv10 ((Keeps.refl (· = bw4) w10).put _ (fun _ => rfl)) (fun q hq e => by have := own_ge hso hq; have := hk8s; omega)) (by have := hk8s; omega))⟩, ((hkf7.trans hkw8).trans hk9).trans' (hk10.mono fun _ _ h => h) (fun i hi e => by omega) |>.trans' ((Keeps.refl (· = bw4) w10).put _ (fun _ => rfl)) (fun i hi e => by omega)⟩
      | false =>
        rw [ht, Bool.false_and] at heq
        (repeat first | apply wr_end | apply wc_seq)
        refine wc_drawP (l := _) 15 _ (by kernel_rfl) (by kernel_rfl) rfl (by kernel_rfl) (by kernel_rfl) (by decide) ?_
        apply chP_pure
        focus
          intro xx w' hk hF
          apply wr_move; exact rfl; with_reducible (conv => enter [6, 3]; whnf)
          apply wr_nil
          exact ⟨rfl, Keeps.refl _ _⟩
        focus (intro xx yy h; rfl)
        focus kernel_rfl
        apply chP_pure
        focus
          intro xx w' hk hF
          refine wr_call (vs := [.int .i64 k]) rfl (typedX_ca ht w') rfl ?_
          rintro v w'' ⟨rfl, rfl⟩
          apply wr_nil
          exact ⟨rfl, Keeps.refl _ _⟩
        focus (intro xx yy h; rfl)
        focus kernel_rfl
        apply chP_pure
        focus
          intro xx w' hk hF
          apply wr_move; exact rfl; with_reducible (conv => enter [6, 3]; whnf)
          apply wr_nil
          exact ⟨rfl, Keeps.refl _ _⟩
        focus (intro xx yy h; rfl)
        focus kernel_rfl
        apply chP_pure
        focus
          intro xx w' hk hF
          first
          | (refine wr_skip rfl ?_; apply wr_nil; exact ⟨rfl, Keeps.refl _ _⟩)
          | ((apply wr_move; exact rfl; with_reducible (conv => enter [6, 3]; whnf)); apply wr_nil; exact ⟨rfl, Keeps.refl _ _⟩)
        focus (intro xx yy h; rfl)
        focus kernel_rfl
        apply chP_pure
        focus
          intro xx w' hk hF
          first
          | (refine wr_skip rfl ?_; apply wr_nil; exact ⟨rfl, Keeps.refl _ _⟩)
          | ((apply wr_len_str; iterate 2 exact rfl); apply wr_nil; exact ⟨rfl, Keeps.refl _ _⟩)
        focus (intro xx yy h; rfl)
        focus kernel_rfl
        apply chP_pure
        focus
          intro xx w' hk hF
          first
          | (refine wr_skip rfl ?_; apply wr_nil; exact ⟨rfl, Keeps.refl _ _⟩)
          | ((refine wr_cmp (c := decide (dt.length ≤ 256)) rfl rfl rfl (by first | (rw [decide_eq_true (by assumption)]; exact cmpT (by dsimp only [cmpP]; omega)) | (rw [decide_eq_false (by assumption)]; exact cmpF (by dsimp only [cmpN]; omega))) ?_); apply wr_nil; exact ⟨rfl, Keeps.refl _ _⟩)
        focus (intro xx yy h; rfl)
        focus kernel_rfl
        apply chP_pure
        focus
          intro xx w' hk hF
          first
          | (apply wr_pick (t := true); (iterate 2 exact rfl); with_reducible (conv => enter [6, 3]; whnf); apply wr_nil; exact ⟨rfl, Keeps.refl _ _⟩)
          | (apply wr_pick (t := false); (iterate 2 exact rfl); with_reducible (conv => enter [6, 3]; whnf); apply wr_nil; exact ⟨rfl, Keeps.refl _ _⟩)
        focus (intro xx yy h; rfl)
        focus kernel_rfl
        apply chP_pure
        focus
          intro xx w' hk hF
          refine wr_call (vs := [.bool (false), .int .i64 1]) rfl (need_ca (false) 1 w') rfl ?_
          rintro v w'' ⟨rfl, rfl⟩
          apply wr_nil
          exact ⟨rfl, Keeps.refl _ _⟩
        focus (intro xx yy h; rfl)
        focus kernel_rfl
        apply chP_pure
        focus
          intro xx w' hk hF
          refine wr_fieldAddr rfl rfl ?_
          apply wr_nil
          exact ⟨rfl, Keeps.refl _ _⟩
        focus (intro xx yy h; rfl)
        focus kernel_rfl
        apply chP_pure
        focus
          intro xx w' hk hF
          refine wr_load (v := .int .u64 (t.2.2 : Int)) rfl rfl rfl ((hk0 hk).heap hcw6 (fun h => h)) rfl ?_
          apply wr_nil
          exact ⟨rfl, Keeps.refl _ _⟩
        focus (intro xx yy h; rfl)
        focus kernel_rfl
        apply chP_pure
        focus
          intro xx w' hk hF
          apply wr_cmp; (iterate 3 exact rfl); exact cmpF (by dsimp only [cmpN]; omega)
          apply wr_nil
          exact ⟨rfl, Keeps.refl _ _⟩
        focus (intro xx yy h; rfl)
        focus kernel_rfl
        apply chP_pure
        focus
          intro xx w' hk hF
          refine wr_call (vs := [.bool false, .int .i64 5]) rfl (need_ca false 5 w') rfl ?_
          rintro v w'' ⟨rfl, rfl⟩
          apply wr_nil
          exact ⟨rfl, Keeps.refl _ _⟩
        focus (intro xx yy h; rfl)
        focus kernel_rfl
        refine chP_fact (fun y => .slice (some ⟨blkOf y, 0, none⟩) 2 2) (fun y w' => w'.heap[blkOf y]? = some (.cells #[erV (errOf (false) 1), erV (errOf false 5)] 97 (0, 0))) (fun y w' w'' h k => k.heap h (fun h => h)) ?_ ?_
        focus
          intro xx w' hk hF
          refine wr_buildSlice (vs := [erV (errOf (false) 1), erV (errOf false 5)]) rfl rfl (by intro v hv; simp at hv; rcases hv with rfl | rfl <;> exact er_size _) rfl (by decide) (by decide) (by decide) ?_
          apply wr_nil
          exact ⟨.pointer (some ⟨w'.heap.size, 0, none⟩), rfl, (by rw [← er2]; exact heap_alloc_same _ _), (Keeps.refl _ _).alloc _⟩
        apply chP_pure
        focus
          intro xx w' hk hF
          refine wr_call (vs := [.slice (some ⟨blkOf (xx 12), 0, none⟩) 2 2]) rfl (first_ca [errOf (false) 1, errOf false 5] (by simp) (blkOf (xx 12)) _ _ w' (hF 12 (by kernel_rfl))) rfl ?_
          rintro v w'' ⟨rfl, rfl⟩
          apply wr_nil
          exact ⟨rfl, Keeps.refl _ _⟩
        focus (intro xx yy h; rfl)
        focus kernel_rfl
        apply chP_pure
        focus
          intro xx w' hk hF
          apply wr_assign; exact rfl; with_reducible (conv => enter [6, 3]; whnf)
          apply wr_nil
          exact ⟨rfl, Keeps.refl _ _⟩
        focus (intro xx yy h; rfl)
        focus kernel_rfl
        refine chP_nil ?_
        intro xx w7 hk7' hF
        have hk7 := hk0 hk7'
        have hc17 := hk7.heap hc16 (fun h => h)
        have hc47 := hk7.heap hc46 (fun h => h)
        have hc67 := hk7.heap hcw6 (fun h => h)
        have hkf7 := hkf6.trans hk7
        clear hF
        rw [show firstO _ = er from heq.symm]
        (repeat first | (apply wr_move; exact rfl; with_reducible (conv => enter [6, 3]; whnf)) | apply wr_end | apply wc_seq | apply wc_region)
        refine wr_bin rfl rfl rfl (by cases er <;> simp [eqGuard, erV]) (run_neEr er _) ?_
        cases er with
        | some e =>
          (repeat first | apply wr_end | apply wc_seq | apply wc_region | (apply wc_true; exact rfl))
          refine wr_build (ps := []) (cs := zeroRq) rfl rfl rfl rfl ?_
          (repeat first | (apply wr_move; exact rfl; with_reducible (conv => enter [6, 3]; whnf)))
          refine wr_call (vs := [erV (some e)]) rfl (told_ca (some e) w7 (hE.keep hkf7)) rfl ?_
          rintro v w8 ⟨rfl, hk8⟩
          have hc48 := hk8.heap hc47 (fun h => h)
          refine wr_storeAll (cs := zeroRq) rfl rfl rfl zeroRq_one hc48 rfl rfl ?_
          (repeat first | (apply wr_assign; exact rfl; with_reducible (conv => enter [6, 3]; whnf)) | apply wr_end | (apply wc_ret; try simp only [thenE, inBlockE, bodyQ]))
          exact leaveN (vs := [.agg zeroRq.toArray, .int .i64 e]) (resv_cells (cs := zeroRq) (e := 42) (fr := (0, 0)) rfl rfl (World.putObj_heap_same (lt_of_heap hc48)) rfl (resv_tmp rfl resv_nil)) ⟨.inl ⟨e, by trivial, rfl⟩, (hkf7.trans hk8).trans' ((Keeps.refl (· = bw4) w8).put _ (fun _ => rfl)) (fun i hi e => by omega)⟩
        | none =>
          (repeat first | (apply wr_move; exact rfl; with_reducible (conv => enter [6, 3]; whnf)) | apply wr_end | apply wc_seq | apply wc_region | apply wc_skip | (apply wr_fieldAddr; iterate 2 exact rfl) | (apply wr_load; (iterate 3 exact rfl); (focus repeat first | with_reducible assumption | exact heap_alloc_same _ _ | exact World.putObj_heap_same (by first | omega | (simp only [World.size_alloc, World.putObj_size, ne_eq]; omega)) | ((first | refine hAl ?_ ?_ | refine hPu ?_ ?_); focus first | omega | (simp only [World.size_alloc, World.putObj_size, ne_eq]; omega))); exact rfl; conv => enter [6, 3]; whnf) | (apply wc_false; exact rfl))
          refine wr_build (ps := [(0, .int .i64 k), (1, .bool c.1), (2, .int .u64 (t.2.2 : Int)), (6, S dt)]) (cs := GRq k c.1 t.2.2 nilV nilV nilV dt) rfl rfl rfl rfl ?_
          (repeat first | (apply wr_alloc; exact rfl))
          refine wr_storeAll (cs := GRq k c.1 t.2.2 nilV nilV nilV dt) rfl rfl rfl (GRq_one rfl rfl rfl) (heap_alloc_same _ _) rfl rfl ?_
          refine wr_name ?_
          intro w8 hww8
          obtain ⟨bw8, hbw8⟩ : ∃ b, b = (w7).heap.size := ⟨_, rfl⟩
          have hkw8 : Keeps NoB w7 w8 := by rw [hww8]; exact ((Keeps.refl NoB w7).alloc _).put _ (fun h => by omega)
          have hcw8 : (w8).heap[bw8]? = some (.cells (GRq k c.1 t.2.2 nilV nilV nilV dt).toArray 42 (0, 0)) := by rw [hww8, hbw8]; exact World.putObj_heap_same (by simp)
          rw [← hbw8]
          clear hww8
          have hc18 := hkw8.heap hc17 (fun h => h)
          have hc48 := hkw8.heap hc47 (fun h => h)
          have hc68 := hkw8.heap hc67 (fun h => h)
          have hl47 := lt_of_heap hc47
          cases hd : c.1 with
          | true =>
            (repeat first | apply wr_end | apply wc_seq | apply wc_region | (apply wr_fieldAddr; iterate 2 exact rfl) | (apply wr_not; iterate 2 exact rfl) | (apply wr_load; (iterate 3 exact rfl); (focus repeat first | with_reducible assumption | exact heap_alloc_same _ _ | exact World.putObj_heap_same (by first | omega | (simp only [World.size_alloc, World.putObj_size, ne_eq]; omega)) | ((first | refine hAl ?_ ?_ | refine hPu ?_ ?_); focus first | omega | (simp only [World.size_alloc, World.putObj_size, ne_eq]; omega))); exact rfl; conv => enter [6, 3]; whnf))
            rw [hd]
            (repeat first | apply wc_seq | apply wc_region | apply wc_skip | (apply wc_false; exact rfl))
            refine wr_loadAll (cs := GRq k c.1 t.2.2 nilV nilV nilV dt) rfl rfl rfl hcw8 rfl ?_
            refine wr_storeAll (cs := GRq k c.1 t.2.2 nilV nilV nilV dt) rfl rfl rfl (GRq_one rfl rfl rfl) hc48 rfl rfl ?_
            (repeat first | (apply wr_assign; exact rfl; with_reducible (conv => enter [6, 3]; whnf)) | apply wr_end | (apply wc_ret; try simp only [thenE, inBlockE, bodyQ]))
            exact leaveN (vs := [.agg (GRq k c.1 t.2.2 nilV nilV nilV dt).toArray, .int .i64 0]) (resv_cells (cs := GRq k c.1 t.2.2 nilV nilV nilV dt) (e := 42) (fr := (0, 0)) rfl rfl (World.putObj_heap_same (lt_of_heap hc48)) rfl (resv_tmp rfl resv_nil)) ⟨.inr ⟨by trivial, nilV, by rw [hd]; rfl, (fun _ => rfl), (fun h => by cases h)⟩, (hkf7.trans hkw8).trans' ((Keeps.refl (· = bw4) w8).put _ (fun _ => rfl)) (fun i hi e => by omega)⟩
          | false =>
            (repeat first | apply wr_end | apply wc_seq | apply wc_region | (apply wr_fieldAddr; iterate 2 exact rfl) | (apply wr_not; iterate 2 exact rfl) | (apply wr_load; (iterate 3 exact rfl); (focus repeat first | with_reducible assumption | exact heap_alloc_same _ _ | exact World.putObj_heap_same (by first | omega | (simp only [World.size_alloc, World.putObj_size, ne_eq]; omega)) | ((first | refine hAl ?_ ?_ | refine hPu ?_ ?_); focus first | omega | (simp only [World.size_alloc, World.putObj_size, ne_eq]; omega))); exact rfl; conv => enter [6, 3]; whnf))
            rw [hd]
            (repeat first | apply wc_region | (apply wr_fieldAddr; iterate 2 exact rfl) | (apply wc_true; exact rfl))
            refine wr_loadAgg (cs := GSt t.1) rfl rfl rfl rfl (fun q u h => cell_of_heap hc68 (by
              match q, h with
              | 0, h => exact h
              | 1, h => exact h
              | q + 2, h => simp [GSt] at h)) ?_
            have hta8 := (hta.keep (hkw6.trans hk7)).keep hkw8
            refine wr_call (vs := [SetV t.1.1.1 t.1.2]) rfl (listO_ca t.1.1 _ w8 (SetV_of hta8) hta.2.1) rfl ?_
            rintro sv w9 ⟨hso, hk9⟩
            have hsv := SlR.of_own hso
            have hc49 := hk9.heap hc48 (fun h => h)
            have hc89 := hk9.heap hcw8 (fun h => h)
            obtain ⟨sa, sc, hse, _⟩ := slr_strs hsv
            have hs1 : sv.oneCell' = true := by rw [hse]; rfl
            have hz8 := (hkf7.trans hkw8).size
            have hk8s := hkw8.size
            (repeat first | apply wr_end | apply wc_seq | apply wc_region | (apply wr_fieldAddr; iterate 2 exact rfl) | (apply wr_store; (iterate 3 exact rfl); (first | exact rfl | with_reducible assumption); (focus repeat first | with_reducible assumption | exact heap_alloc_same _ _ | exact World.putObj_heap_same (by first | omega | (simp only [World.size_alloc, World.putObj_size, ne_eq]; omega)) | ((first | refine hAl ?_ ?_ | refine hPu ?_ ?_); focus first | omega | (simp only [World.size_alloc, World.putObj_size, ne_eq]; omega))); exact rfl))
            generalize hw10 : World.putObj w9 _ _ = w10
            have hc10 : w10.heap[bw8]? = some (.cells (GRq k c.1 t.2.2 sv nilV nilV dt).toArray 42 (0, 0)) := by rw [← hw10]; exact World.putObj_heap_same (lt_of_heap hc89)
            have hk10 : Keeps (· = bw8) w9 w10 := by rw [← hw10]; exact (Keeps.refl _ w9).put _ (fun _ => rfl)
            have hl8 := lt_of_heap hcw8
            have hsv10 := own_keep hso hk10 (fun q hq e => by have := own_ge hso hq; omega)
            have hc410 := hk10.heap hc49 (fun e => by omega)
            clear hw10
            skip
            refine wr_loadAll (cs := GRq k c.1 t.2.2 sv nilV nilV dt) rfl rfl rfl hc10 rfl ?_
            refine wr_storeAll (cs := GRq k c.1 t.2.2 sv nilV nilV dt) rfl rfl rfl (GRq_one hs1 rfl rfl) hc410 rfl rfl ?_
            (repeat first | (apply wr_assign; exact rfl; with_reducible (conv => enter [6, 3]; whnf)) | apply wr_end | (apply wc_ret; try simp only [thenE, inBlockE, bodyQ]))
            exact leaveN (vs := [.agg (GRq k c.1 t.2.2 sv nilV nilV dt).toArray, .int .i64 0]) (resv_cells (cs := GRq k c.1 t.2.2 sv nilV nilV dt) (e := 42) (fr := (0, 0)) rfl rfl (World.putObj_heap_same (lt_of_heap hc410)) rfl (resv_tmp rfl resv_nil)) ⟨.inr ⟨by trivial, sv, by rw [hd]; rfl, (fun h => by cases h), (fun _ => own_down (own_keep hsv10 ((Keeps.refl (· = bw4) w10).put _ (fun _ => rfl)) (fun q hq e => by have := own_ge hso hq; have := hk8s; omega)) (by have := hk8s; omega))⟩, ((hkf7.trans hkw8).trans hk9).trans' (hk10.mono fun _ _ h => h) (fun i hi e => by omega) |>.trans' ((Keeps.refl (· = bw4) w10).put _ (fun _ => rfl)) (fun i hi e => by omega)⟩
    · skip
      cases ht : typedB k with
      | true =>
        rw [ht, Bool.true_and] at heq
        (repeat first | apply wr_end | apply wc_seq)
        refine wc_drawP (l := _) 15 _ (by kernel_rfl) (by kernel_rfl) rfl (by kernel_rfl) (by kernel_rfl) (by decide) ?_
        apply chP_pure
        focus
          intro xx w' hk hF
          apply wr_move; exact rfl; with_reducible (conv => enter [6, 3]; whnf)
          apply wr_nil
          exact ⟨rfl, Keeps.refl _ _⟩
        focus (intro xx yy h; rfl)
        focus kernel_rfl
        apply chP_pure
        focus
          intro xx w' hk hF
          refine wr_call (vs := [.int .i64 k]) rfl (typedX_ca ht w') rfl ?_
          rintro v w'' ⟨rfl, rfl⟩
          apply wr_nil
          exact ⟨rfl, Keeps.refl _ _⟩
        focus (intro xx yy h; rfl)
        focus kernel_rfl
        apply chP_pure
        focus
          intro xx w' hk hF
          apply wr_move; exact rfl; with_reducible (conv => enter [6, 3]; whnf)
          apply wr_nil
          exact ⟨rfl, Keeps.refl _ _⟩
        focus (intro xx yy h; rfl)
        focus kernel_rfl
        apply chP_pure
        focus
          intro xx w' hk hF
          first
          | (refine wr_skip rfl ?_; apply wr_nil; exact ⟨rfl, Keeps.refl _ _⟩)
          | ((apply wr_move; exact rfl; with_reducible (conv => enter [6, 3]; whnf)); apply wr_nil; exact ⟨rfl, Keeps.refl _ _⟩)
        focus (intro xx yy h; rfl)
        focus kernel_rfl
        apply chP_pure
        focus
          intro xx w' hk hF
          first
          | (refine wr_skip rfl ?_; apply wr_nil; exact ⟨rfl, Keeps.refl _ _⟩)
          | ((apply wr_len_str; iterate 2 exact rfl); apply wr_nil; exact ⟨rfl, Keeps.refl _ _⟩)
        focus (intro xx yy h; rfl)
        focus kernel_rfl
        apply chP_pure
        focus
          intro xx w' hk hF
          first
          | (refine wr_skip rfl ?_; apply wr_nil; exact ⟨rfl, Keeps.refl _ _⟩)
          | ((refine wr_cmp (c := decide (dt.length ≤ 256)) rfl rfl rfl (by first | (rw [decide_eq_true (by assumption)]; exact cmpT (by dsimp only [cmpP]; omega)) | (rw [decide_eq_false (by assumption)]; exact cmpF (by dsimp only [cmpN]; omega))) ?_); apply wr_nil; exact ⟨rfl, Keeps.refl _ _⟩)
        focus (intro xx yy h; rfl)
        focus kernel_rfl
        apply chP_pure
        focus
          intro xx w' hk hF
          first
          | (apply wr_pick (t := true); (iterate 2 exact rfl); with_reducible (conv => enter [6, 3]; whnf); apply wr_nil; exact ⟨rfl, Keeps.refl _ _⟩)
          | (apply wr_pick (t := false); (iterate 2 exact rfl); with_reducible (conv => enter [6, 3]; whnf); apply wr_nil; exact ⟨rfl, Keeps.refl _ _⟩)
        focus (intro xx yy h; rfl)
        focus kernel_rfl
        apply chP_pure
        focus
          intro xx w' hk hF
          refine wr_call (vs := [.bool (decide (dt.length ≤ 256)), .int .i64 1]) rfl (need_ca (decide (dt.length ≤ 256)) 1 w') rfl ?_
          rintro v w'' ⟨rfl, rfl⟩
          apply wr_nil
          exact ⟨rfl, Keeps.refl _ _⟩
        focus (intro xx yy h; rfl)
        focus kernel_rfl
        apply chP_pure
        focus
          intro xx w' hk hF
          refine wr_fieldAddr rfl rfl ?_
          apply wr_nil
          exact ⟨rfl, Keeps.refl _ _⟩
        focus (intro xx yy h; rfl)
        focus kernel_rfl
        apply chP_pure
        focus
          intro xx w' hk hF
          refine wr_load (v := .int .u64 (t.2.2 : Int)) rfl rfl rfl ((hk0 hk).heap hcw6 (fun h => h)) rfl ?_
          apply wr_nil
          exact ⟨rfl, Keeps.refl _ _⟩
        focus (intro xx yy h; rfl)
        focus kernel_rfl
        apply chP_pure
        focus
          intro xx w' hk hF
          apply wr_cmp; (iterate 3 exact rfl); exact cmpF (by dsimp only [cmpN]; omega)
          apply wr_nil
          exact ⟨rfl, Keeps.refl _ _⟩
        focus (intro xx yy h; rfl)
        focus kernel_rfl
        apply chP_pure
        focus
          intro xx w' hk hF
          refine wr_call (vs := [.bool false, .int .i64 5]) rfl (need_ca false 5 w') rfl ?_
          rintro v w'' ⟨rfl, rfl⟩
          apply wr_nil
          exact ⟨rfl, Keeps.refl _ _⟩
        focus (intro xx yy h; rfl)
        focus kernel_rfl
        refine chP_fact (fun y => .slice (some ⟨blkOf y, 0, none⟩) 2 2) (fun y w' => w'.heap[blkOf y]? = some (.cells #[erV (errOf (decide (dt.length ≤ 256)) 1), erV (errOf false 5)] 97 (0, 0))) (fun y w' w'' h k => k.heap h (fun h => h)) ?_ ?_
        focus
          intro xx w' hk hF
          refine wr_buildSlice (vs := [erV (errOf (decide (dt.length ≤ 256)) 1), erV (errOf false 5)]) rfl rfl (by intro v hv; simp at hv; rcases hv with rfl | rfl <;> exact er_size _) rfl (by decide) (by decide) (by decide) ?_
          apply wr_nil
          exact ⟨.pointer (some ⟨w'.heap.size, 0, none⟩), rfl, (by rw [← er2]; exact heap_alloc_same _ _), (Keeps.refl _ _).alloc _⟩
        apply chP_pure
        focus
          intro xx w' hk hF
          refine wr_call (vs := [.slice (some ⟨blkOf (xx 12), 0, none⟩) 2 2]) rfl (first_ca [errOf (decide (dt.length ≤ 256)) 1, errOf false 5] (by simp) (blkOf (xx 12)) _ _ w' (hF 12 (by kernel_rfl))) rfl ?_
          rintro v w'' ⟨rfl, rfl⟩
          apply wr_nil
          exact ⟨rfl, Keeps.refl _ _⟩
        focus (intro xx yy h; rfl)
        focus kernel_rfl
        apply chP_pure
        focus
          intro xx w' hk hF
          apply wr_assign; exact rfl; with_reducible (conv => enter [6, 3]; whnf)
          apply wr_nil
          exact ⟨rfl, Keeps.refl _ _⟩
        focus (intro xx yy h; rfl)
        focus kernel_rfl
        refine chP_nil ?_
        intro xx w7 hk7' hF
        have hk7 := hk0 hk7'
        have hc17 := hk7.heap hc16 (fun h => h)
        have hc47 := hk7.heap hc46 (fun h => h)
        have hc67 := hk7.heap hcw6 (fun h => h)
        have hkf7 := hkf6.trans hk7
        clear hF
        rw [show firstO _ = er from heq.symm]
        (repeat first | (apply wr_move; exact rfl; with_reducible (conv => enter [6, 3]; whnf)) | apply wr_end | apply wc_seq | apply wc_region)
        refine wr_bin rfl rfl rfl (by cases er <;> simp [eqGuard, erV]) (run_neEr er _) ?_
        cases er with
        | some e =>
          (repeat first | apply wr_end | apply wc_seq | apply wc_region | (apply wc_true; exact rfl))
          refine wr_build (ps := []) (cs := zeroRq) rfl rfl rfl rfl ?_
          (repeat first | (apply wr_move; exact rfl; with_reducible (conv => enter [6, 3]; whnf)))
          refine wr_call (vs := [erV (some e)]) rfl (told_ca (some e) w7 (hE.keep hkf7)) rfl ?_
          rintro v w8 ⟨rfl, hk8⟩
          have hc48 := hk8.heap hc47 (fun h => h)
          refine wr_storeAll (cs := zeroRq) rfl rfl rfl zeroRq_one hc48 rfl rfl ?_
          (repeat first | (apply wr_assign; exact rfl; with_reducible (conv => enter [6, 3]; whnf)) | apply wr_end | (apply wc_ret; try simp only [thenE, inBlockE, bodyQ]))
          exact leaveN (vs := [.agg zeroRq.toArray, .int .i64 e]) (resv_cells (cs := zeroRq) (e := 42) (fr := (0, 0)) rfl rfl (World.putObj_heap_same (lt_of_heap hc48)) rfl (resv_tmp rfl resv_nil)) ⟨.inl ⟨e, by trivial, rfl⟩, (hkf7.trans hk8).trans' ((Keeps.refl (· = bw4) w8).put _ (fun _ => rfl)) (fun i hi e => by omega)⟩
        | none =>
          (repeat first | (apply wr_move; exact rfl; with_reducible (conv => enter [6, 3]; whnf)) | apply wr_end | apply wc_seq | apply wc_region | apply wc_skip | (apply wr_fieldAddr; iterate 2 exact rfl) | (apply wr_load; (iterate 3 exact rfl); (focus repeat first | with_reducible assumption | exact heap_alloc_same _ _ | exact World.putObj_heap_same (by first | omega | (simp only [World.size_alloc, World.putObj_size, ne_eq]; omega)) | ((first | refine hAl ?_ ?_ | refine hPu ?_ ?_); focus first | omega | (simp only [World.size_alloc, World.putObj_size, ne_eq]; omega))); exact rfl; conv => enter [6, 3]; whnf) | (apply wc_false; exact rfl))
          refine wr_build (ps := [(0, .int .i64 k), (1, .bool c.1), (2, .int .u64 (t.2.2 : Int)), (6, S dt)]) (cs := GRq k c.1 t.2.2 nilV nilV nilV dt) rfl rfl rfl rfl ?_
          (repeat first | (apply wr_alloc; exact rfl))
          refine wr_storeAll (cs := GRq k c.1 t.2.2 nilV nilV nilV dt) rfl rfl rfl (GRq_one rfl rfl rfl) (heap_alloc_same _ _) rfl rfl ?_
          refine wr_name ?_
          intro w8 hww8
          obtain ⟨bw8, hbw8⟩ : ∃ b, b = (w7).heap.size := ⟨_, rfl⟩
          have hkw8 : Keeps NoB w7 w8 := by rw [hww8]; exact ((Keeps.refl NoB w7).alloc _).put _ (fun h => by omega)
          have hcw8 : (w8).heap[bw8]? = some (.cells (GRq k c.1 t.2.2 nilV nilV nilV dt).toArray 42 (0, 0)) := by rw [hww8, hbw8]; exact World.putObj_heap_same (by simp)
          rw [← hbw8]
          clear hww8
          have hc18 := hkw8.heap hc17 (fun h => h)
          have hc48 := hkw8.heap hc47 (fun h => h)
          have hc68 := hkw8.heap hc67 (fun h => h)
          have hl47 := lt_of_heap hc47
          cases hd : c.1 with
          | true =>
            (repeat first | apply wr_end | apply wc_seq | apply wc_region | (apply wr_fieldAddr; iterate 2 exact rfl) | (apply wr_not; iterate 2 exact rfl) | (apply wr_load; (iterate 3 exact rfl); (focus repeat first | with_reducible assumption | exact heap_alloc_same _ _ | exact World.putObj_heap_same (by first | omega | (simp only [World.size_alloc, World.putObj_size, ne_eq]; omega)) | ((first | refine hAl ?_ ?_ | refine hPu ?_ ?_); focus first | omega | (simp only [World.size_alloc, World.putObj_size, ne_eq]; omega))); exact rfl; conv => enter [6, 3]; whnf))
            rw [hd]
            (repeat first | apply wc_seq | apply wc_region | apply wc_skip | (apply wc_false; exact rfl))
            refine wr_loadAll (cs := GRq k c.1 t.2.2 nilV nilV nilV dt) rfl rfl rfl hcw8 rfl ?_
            refine wr_storeAll (cs := GRq k c.1 t.2.2 nilV nilV nilV dt) rfl rfl rfl (GRq_one rfl rfl rfl) hc48 rfl rfl ?_
            (repeat first | (apply wr_assign; exact rfl; with_reducible (conv => enter [6, 3]; whnf)) | apply wr_end | (apply wc_ret; try simp only [thenE, inBlockE, bodyQ]))
            exact leaveN (vs := [.agg (GRq k c.1 t.2.2 nilV nilV nilV dt).toArray, .int .i64 0]) (resv_cells (cs := GRq k c.1 t.2.2 nilV nilV nilV dt) (e := 42) (fr := (0, 0)) rfl rfl (World.putObj_heap_same (lt_of_heap hc48)) rfl (resv_tmp rfl resv_nil)) ⟨.inr ⟨by trivial, nilV, by rw [hd]; rfl, (fun _ => rfl), (fun h => by cases h)⟩, (hkf7.trans hkw8).trans' ((Keeps.refl (· = bw4) w8).put _ (fun _ => rfl)) (fun i hi e => by omega)⟩
          | false =>
            (repeat first | apply wr_end | apply wc_seq | apply wc_region | (apply wr_fieldAddr; iterate 2 exact rfl) | (apply wr_not; iterate 2 exact rfl) | (apply wr_load; (iterate 3 exact rfl); (focus repeat first | with_reducible assumption | exact heap_alloc_same _ _ | exact World.putObj_heap_same (by first | omega | (simp only [World.size_alloc, World.putObj_size, ne_eq]; omega)) | ((first | refine hAl ?_ ?_ | refine hPu ?_ ?_); focus first | omega | (simp only [World.size_alloc, World.putObj_size, ne_eq]; omega))); exact rfl; conv => enter [6, 3]; whnf))
            rw [hd]
            (repeat first | apply wc_region | (apply wr_fieldAddr; iterate 2 exact rfl) | (apply wc_true; exact rfl))
            refine wr_loadAgg (cs := GSt t.1) rfl rfl rfl rfl (fun q u h => cell_of_heap hc68 (by
              match q, h with
              | 0, h => exact h
              | 1, h => exact h
              | q + 2, h => simp [GSt] at h)) ?_
            have hta8 := (hta.keep (hkw6.trans hk7)).keep hkw8
            refine wr_call (vs := [SetV t.1.1.1 t.1.2]) rfl (listO_ca t.1.1 _ w8 (SetV_of hta8) hta.2.1) rfl ?_
            rintro sv w9 ⟨hso, hk9⟩
            have hsv := SlR.of_own hso
            have hc49 := hk9.heap hc48 (fun h => h)
            have hc89 := hk9.heap hcw8 (fun h => h)
            obtain ⟨sa, sc, hse, _⟩ := slr_strs hsv
            have hs1 : sv.oneCell' = true := by rw [hse]; rfl
            have hz8 := (hkf7.trans hkw8).size
            have hk8s := hkw8.size
            (repeat first | apply wr_end | apply wc_seq | apply wc_region | (apply wr_fieldAddr; iterate 2 exact rfl) | (apply wr_store; (iterate 3 exact rfl); (first | exact rfl | with_reducible assumption); (focus repeat first | with_reducible assumption | exact heap_alloc_same _ _ | exact World.putObj_heap_same (by first | omega | (simp only [World.size_alloc, World.putObj_size, ne_eq]; omega)) | ((first | refine hAl ?_ ?_ | refine hPu ?_ ?_); focus first | omega | (simp only [World.size_alloc, World.putObj_size, ne_eq]; omega))); exact rfl))
            generalize hw10 : World.putObj w9 _ _ = w10
            have hc10 : w10.heap[bw8]? = some (.cells (GRq k c.1 t.2.2 sv nilV nilV dt).toArray 42 (0, 0)) := by rw [← hw10]; exact World.putObj_heap_same (lt_of_heap hc89)
            have hk10 : Keeps (· = bw8) w9 w10 := by rw [← hw10]; exact (Keeps.refl _ w9).put _ (fun _ => rfl)
            have hl8 := lt_of_heap hcw8
            have hsv10 := own_keep hso hk10 (fun q hq e => by have := own_ge hso hq; omega)
            have hc410 := hk10.heap hc49 (fun e => by omega)
            clear hw10
            skip
            refine wr_loadAll (cs := GRq k c.1 t.2.2 sv nilV nilV dt) rfl rfl rfl hc10 rfl ?_
            refine wr_storeAll (cs := GRq k c.1 t.2.2 sv nilV nilV dt) rfl rfl rfl (GRq_one hs1 rfl rfl) hc410 rfl rfl ?_
            (repeat first | (apply wr_assign; exact rfl; with_reducible (conv => enter [6, 3]; whnf)) | apply wr_end | (apply wc_ret; try simp only [thenE, inBlockE, bodyQ]))
            exact leaveN (vs := [.agg (GRq k c.1 t.2.2 sv nilV nilV dt).toArray, .int .i64 0]) (resv_cells (cs := GRq k c.1 t.2.2 sv nilV nilV dt) (e := 42) (fr := (0, 0)) rfl rfl (World.putObj_heap_same (lt_of_heap hc410)) rfl (resv_tmp rfl resv_nil)) ⟨.inr ⟨by trivial, sv, by rw [hd]; rfl, (fun h => by cases h), (fun _ => own_down (own_keep hsv10 ((Keeps.refl (· = bw4) w10).put _ (fun _ => rfl)) (fun q hq e => by have := own_ge hso hq; have := hk8s; omega)) (by have := hk8s; omega))⟩, ((hkf7.trans hkw8).trans hk9).trans' (hk10.mono fun _ _ h => h) (fun i hi e => by omega) |>.trans' ((Keeps.refl (· = bw4) w10).put _ (fun _ => rfl)) (fun i hi e => by omega)⟩
      | false =>
        rw [ht, Bool.false_and] at heq
        (repeat first | apply wr_end | apply wc_seq)
        refine wc_drawP (l := _) 15 _ (by kernel_rfl) (by kernel_rfl) rfl (by kernel_rfl) (by kernel_rfl) (by decide) ?_
        apply chP_pure
        focus
          intro xx w' hk hF
          apply wr_move; exact rfl; with_reducible (conv => enter [6, 3]; whnf)
          apply wr_nil
          exact ⟨rfl, Keeps.refl _ _⟩
        focus (intro xx yy h; rfl)
        focus kernel_rfl
        apply chP_pure
        focus
          intro xx w' hk hF
          refine wr_call (vs := [.int .i64 k]) rfl (typedX_ca ht w') rfl ?_
          rintro v w'' ⟨rfl, rfl⟩
          apply wr_nil
          exact ⟨rfl, Keeps.refl _ _⟩
        focus (intro xx yy h; rfl)
        focus kernel_rfl
        apply chP_pure
        focus
          intro xx w' hk hF
          apply wr_move; exact rfl; with_reducible (conv => enter [6, 3]; whnf)
          apply wr_nil
          exact ⟨rfl, Keeps.refl _ _⟩
        focus (intro xx yy h; rfl)
        focus kernel_rfl
        apply chP_pure
        focus
          intro xx w' hk hF
          first
          | (refine wr_skip rfl ?_; apply wr_nil; exact ⟨rfl, Keeps.refl _ _⟩)
          | ((apply wr_move; exact rfl; with_reducible (conv => enter [6, 3]; whnf)); apply wr_nil; exact ⟨rfl, Keeps.refl _ _⟩)
        focus (intro xx yy h; rfl)
        focus kernel_rfl
        apply chP_pure
        focus
          intro xx w' hk hF
          first
          | (refine wr_skip rfl ?_; apply wr_nil; exact ⟨rfl, Keeps.refl _ _⟩)
          | ((apply wr_len_str; iterate 2 exact rfl); apply wr_nil; exact ⟨rfl, Keeps.refl _ _⟩)
        focus (intro xx yy h; rfl)
        focus kernel_rfl
        apply chP_pure
        focus
          intro xx w' hk hF
          first
          | (refine wr_skip rfl ?_; apply wr_nil; exact ⟨rfl, Keeps.refl _ _⟩)
          | ((refine wr_cmp (c := decide (dt.length ≤ 256)) rfl rfl rfl (by first | (rw [decide_eq_true (by assumption)]; exact cmpT (by dsimp only [cmpP]; omega)) | (rw [decide_eq_false (by assumption)]; exact cmpF (by dsimp only [cmpN]; omega))) ?_); apply wr_nil; exact ⟨rfl, Keeps.refl _ _⟩)
        focus (intro xx yy h; rfl)
        focus kernel_rfl
        apply chP_pure
        focus
          intro xx w' hk hF
          first
          | (apply wr_pick (t := true); (iterate 2 exact rfl); with_reducible (conv => enter [6, 3]; whnf); apply wr_nil; exact ⟨rfl, Keeps.refl _ _⟩)
          | (apply wr_pick (t := false); (iterate 2 exact rfl); with_reducible (conv => enter [6, 3]; whnf); apply wr_nil; exact ⟨rfl, Keeps.refl _ _⟩)
        focus (intro xx yy h; rfl)
        focus kernel_rfl
        apply chP_pure
        focus
          intro xx w' hk hF
          refine wr_call (vs := [.bool (false), .int .i64 1]) rfl (need_ca (false) 1 w') rfl ?_
          rintro v w'' ⟨rfl, rfl⟩
          apply wr_nil
          exact ⟨rfl, Keeps.refl _ _⟩
        focus (intro xx yy h; rfl)
        focus kernel_rfl
        apply chP_pure
        focus
          intro xx w' hk hF
          refine wr_fieldAddr rfl rfl ?_
          apply wr_nil
          exact ⟨rfl, Keeps.refl _ _⟩
        focus (intro xx yy h; rfl)
        focus kernel_rfl
        apply chP_pure
        focus
          intro xx w' hk hF
          refine wr_load (v := .int .u64 (t.2.2 : Int)) rfl rfl rfl ((hk0 hk).heap hcw6 (fun h => h)) rfl ?_
          apply wr_nil
          exact ⟨rfl, Keeps.refl _ _⟩
        focus (intro xx yy h; rfl)
        focus kernel_rfl
        apply chP_pure
        focus
          intro xx w' hk hF
          apply wr_cmp; (iterate 3 exact rfl); exact cmpF (by dsimp only [cmpN]; omega)
          apply wr_nil
          exact ⟨rfl, Keeps.refl _ _⟩
        focus (intro xx yy h; rfl)
        focus kernel_rfl
        apply chP_pure
        focus
          intro xx w' hk hF
          refine wr_call (vs := [.bool false, .int .i64 5]) rfl (need_ca false 5 w') rfl ?_
          rintro v w'' ⟨rfl, rfl⟩
          apply wr_nil
          exact ⟨rfl, Keeps.refl _ _⟩
        focus (intro xx yy h; rfl)
        focus kernel_rfl
        refine chP_fact (fun y => .slice (some ⟨blkOf y, 0, none⟩) 2 2) (fun y w' => w'.heap[blkOf y]? = some (.cells #[erV (errOf (false) 1), erV (errOf false 5)] 97 (0, 0))) (fun y w' w'' h k => k.heap h (fun h => h)) ?_ ?_
        focus
          intro xx w' hk hF
          refine wr_buildSlice (vs := [erV (errOf (false) 1), erV (errOf false 5)]) rfl rfl (by intro v hv; simp at hv; rcases hv with rfl | rfl <;> exact er_size _) rfl (by decide) (by decide) (by decide) ?_
          apply wr_nil
          exact ⟨.pointer (some ⟨w'.heap.size, 0, none⟩), rfl, (by rw [← er2]; exact heap_alloc_same _ _), (Keeps.refl _ _).alloc _⟩
        apply chP_pure
        focus
          intro xx w' hk hF
          refine wr_call (vs := [.slice (some ⟨blkOf (xx 12), 0, none⟩) 2 2]) rfl (first_ca [errOf (false) 1, errOf false 5] (by simp) (blkOf (xx 12)) _ _ w' (hF 12 (by kernel_rfl))) rfl ?_
          rintro v w'' ⟨rfl, rfl⟩
          apply wr_nil
          exact ⟨rfl, Keeps.refl _ _⟩
        focus (intro xx yy h; rfl)
        focus kernel_rfl
        apply chP_pure
        focus
          intro xx w' hk hF
          apply wr_assign; exact rfl; with_reducible (conv => enter [6, 3]; whnf)
          apply wr_nil
          exact ⟨rfl, Keeps.refl _ _⟩
        focus (intro xx yy h; rfl)
        focus kernel_rfl
        refine chP_nil ?_
        intro xx w7 hk7' hF
        have hk7 := hk0 hk7'
        have hc17 := hk7.heap hc16 (fun h => h)
        have hc47 := hk7.heap hc46 (fun h => h)
        have hc67 := hk7.heap hcw6 (fun h => h)
        have hkf7 := hkf6.trans hk7
        clear hF
        rw [show firstO _ = er from heq.symm]
        (repeat first | (apply wr_move; exact rfl; with_reducible (conv => enter [6, 3]; whnf)) | apply wr_end | apply wc_seq | apply wc_region)
        refine wr_bin rfl rfl rfl (by cases er <;> simp [eqGuard, erV]) (run_neEr er _) ?_
        cases er with
        | some e =>
          (repeat first | apply wr_end | apply wc_seq | apply wc_region | (apply wc_true; exact rfl))
          refine wr_build (ps := []) (cs := zeroRq) rfl rfl rfl rfl ?_
          (repeat first | (apply wr_move; exact rfl; with_reducible (conv => enter [6, 3]; whnf)))
          refine wr_call (vs := [erV (some e)]) rfl (told_ca (some e) w7 (hE.keep hkf7)) rfl ?_
          rintro v w8 ⟨rfl, hk8⟩
          have hc48 := hk8.heap hc47 (fun h => h)
          refine wr_storeAll (cs := zeroRq) rfl rfl rfl zeroRq_one hc48 rfl rfl ?_
          (repeat first | (apply wr_assign; exact rfl; with_reducible (conv => enter [6, 3]; whnf)) | apply wr_end | (apply wc_ret; try simp only [thenE, inBlockE, bodyQ]))
          exact leaveN (vs := [.agg zeroRq.toArray, .int .i64 e]) (resv_cells (cs := zeroRq) (e := 42) (fr := (0, 0)) rfl rfl (World.putObj_heap_same (lt_of_heap hc48)) rfl (resv_tmp rfl resv_nil)) ⟨.inl ⟨e, by trivial, rfl⟩, (hkf7.trans hk8).trans' ((Keeps.refl (· = bw4) w8).put _ (fun _ => rfl)) (fun i hi e => by omega)⟩
        | none =>
          (repeat first | (apply wr_move; exact rfl; with_reducible (conv => enter [6, 3]; whnf)) | apply wr_end | apply wc_seq | apply wc_region | apply wc_skip | (apply wr_fieldAddr; iterate 2 exact rfl) | (apply wr_load; (iterate 3 exact rfl); (focus repeat first | with_reducible assumption | exact heap_alloc_same _ _ | exact World.putObj_heap_same (by first | omega | (simp only [World.size_alloc, World.putObj_size, ne_eq]; omega)) | ((first | refine hAl ?_ ?_ | refine hPu ?_ ?_); focus first | omega | (simp only [World.size_alloc, World.putObj_size, ne_eq]; omega))); exact rfl; conv => enter [6, 3]; whnf) | (apply wc_false; exact rfl))
          refine wr_build (ps := [(0, .int .i64 k), (1, .bool c.1), (2, .int .u64 (t.2.2 : Int)), (6, S dt)]) (cs := GRq k c.1 t.2.2 nilV nilV nilV dt) rfl rfl rfl rfl ?_
          (repeat first | (apply wr_alloc; exact rfl))
          refine wr_storeAll (cs := GRq k c.1 t.2.2 nilV nilV nilV dt) rfl rfl rfl (GRq_one rfl rfl rfl) (heap_alloc_same _ _) rfl rfl ?_
          refine wr_name ?_
          intro w8 hww8
          obtain ⟨bw8, hbw8⟩ : ∃ b, b = (w7).heap.size := ⟨_, rfl⟩
          have hkw8 : Keeps NoB w7 w8 := by rw [hww8]; exact ((Keeps.refl NoB w7).alloc _).put _ (fun h => by omega)
          have hcw8 : (w8).heap[bw8]? = some (.cells (GRq k c.1 t.2.2 nilV nilV nilV dt).toArray 42 (0, 0)) := by rw [hww8, hbw8]; exact World.putObj_heap_same (by simp)
          rw [← hbw8]
          clear hww8
          have hc18 := hkw8.heap hc17 (fun h => h)
          have hc48 := hkw8.heap hc47 (fun h => h)
          have hc68 := hkw8.heap hc67 (fun h => h)
          have hl47 := lt_of_heap hc47
          cases hd : c.1 with
          | true =>
            (repeat first | apply wr_end | apply wc_seq | apply wc_region | (apply wr_fieldAddr; iterate 2 exact rfl) | (apply wr_not; iterate 2 exact rfl) | (apply wr_load; (iterate 3 exact rfl); (focus repeat first | with_reducible assumption | exact heap_alloc_same _ _ | exact World.putObj_heap_same (by first | omega | (simp only [World.size_alloc, World.putObj_size, ne_eq]; omega)) | ((first | refine hAl ?_ ?_ | refine hPu ?_ ?_); focus first | omega | (simp only [World.size_alloc, World.putObj_size, ne_eq]; omega))); exact rfl; conv => enter [6, 3]; whnf))
            rw [hd]
            (repeat first | apply wc_seq | apply wc_region | apply wc_skip | (apply wc_false; exact rfl))
            refine wr_loadAll (cs := GRq k c.1 t.2.2 nilV nilV nilV dt) rfl rfl rfl hcw8 rfl ?_
            refine wr_storeAll (cs := GRq k c.1 t.2.2 nilV nilV nilV dt) rfl rfl rfl (GRq_one rfl rfl rfl) hc48 rfl rfl ?_
            (repeat first | (apply wr_assign; exact rfl; with_reducible (conv => enter [6, 3]; whnf)) | apply wr_end | (apply wc_ret; try simp only [thenE, inBlockE, bodyQ]))
            exact leaveN (vs := [.agg (GRq k c.1 t.2.2 nilV nilV nilV dt).toArray, .int .i64 0]) (resv_cells (cs := GRq k c.1 t.2.2 nilV nilV nilV dt) (e := 42) (fr := (0, 0)) rfl rfl (World.putObj_heap_same (lt_of_heap hc48)) rfl (resv_tmp rfl resv_nil)) ⟨.inr ⟨by trivial, nilV, by rw [hd]; rfl, (fun _ => rfl), (fun h => by cases h)⟩, (hkf7.trans hkw8).trans' ((Keeps.refl (· = bw4) w8).put _ (fun _ => rfl)) (fun i hi e => by omega)⟩
          | false =>
            (repeat first | apply wr_end | apply wc_seq | apply wc_region | (apply wr_fieldAddr; iterate 2 exact rfl) | (apply wr_not; iterate 2 exact rfl) | (apply wr_load; (iterate 3 exact rfl); (focus repeat first | with_reducible assumption | exact heap_alloc_same _ _ | exact World.putObj_heap_same (by first | omega | (simp only [World.size_alloc, World.putObj_size, ne_eq]; omega)) | ((first | refine hAl ?_ ?_ | refine hPu ?_ ?_); focus first | omega | (simp only [World.size_alloc, World.putObj_size, ne_eq]; omega))); exact rfl; conv => enter [6, 3]; whnf))
            rw [hd]
            (repeat first | apply wc_region | (apply wr_fieldAddr; iterate 2 exact rfl) | (apply wc_true; exact rfl))
            refine wr_loadAgg (cs := GSt t.1) rfl rfl rfl rfl (fun q u h => cell_of_heap hc68 (by
              match q, h with
              | 0, h => exact h
              | 1, h => exact h
              | q + 2, h => simp [GSt] at h)) ?_
            have hta8 := (hta.keep (hkw6.trans hk7)).keep hkw8
            refine wr_call (vs := [SetV t.1.1.1 t.1.2]) rfl (listO_ca t.1.1 _ w8 (SetV_of hta8) hta.2.1) rfl ?_
            rintro sv w9 ⟨hso, hk9⟩
            have hsv := SlR.of_own hso
            have hc49 := hk9.heap hc48 (fun h => h)
            have hc89 := hk9.heap hcw8 (fun h => h)
            obtain ⟨sa, sc, hse, _⟩ := slr_strs hsv
            have hs1 : sv.oneCell' = true := by rw [hse]; rfl
            have hz8 := (hkf7.trans hkw8).size
            have hk8s := hkw8.size
            (repeat first | apply wr_end | apply wc_seq | apply wc_region | (apply wr_fieldAddr; iterate 2 exact rfl) | (apply wr_store; (iterate 3 exact rfl); (first | exact rfl | with_reducible assumption); (focus repeat first | with_reducible assumption | exact heap_alloc_same _ _ | exact World.putObj_heap_same (by first | omega | (simp only [World.size_alloc, World.putObj_size, ne_eq]; omega)) | ((first | refine hAl ?_ ?_ | refine hPu ?_ ?_); focus first | omega | (simp only [World.size_alloc, World.putObj_size, ne_eq]; omega))); exact rfl))
            generalize hw10 : World.putObj w9 _ _ = w10
            have hc10 : w10.heap[bw8]? = some (.cells (GRq k c.1 t.2.2 sv nilV nilV dt).toArray 42 (0, 0)) := by rw [← hw10]; exact World.putObj_heap_same (lt_of_heap hc89)
            have hk10 : Keeps (· = bw8) w9 w10 := by rw [← hw10]; exact (Keeps.refl _ w9).put _ (fun _ => rfl)
            have hl8 := lt_of_heap hcw8
            have hsv10 := own_keep hso hk10 (fun q hq e => by have := own_ge hso hq; omega)
            have hc410 := hk10.heap hc49 (fun e => by omega)
            clear hw10
            skip
            refine wr_loadAll (cs := GRq k c.1 t.2.2 sv nilV nilV dt) rfl rfl rfl hc10 rfl ?_
            refine wr_storeAll (cs := GRq k c.1 t.2.2 sv nilV nilV dt) rfl rfl rfl (GRq_one hs1 rfl rfl) hc410 rfl rfl ?_
            (repeat first | (apply wr_assign; exact rfl; with_reducible (conv => enter [6, 3]; whnf)) | apply wr_end | (apply wc_ret; try simp only [thenE, inBlockE, bodyQ]))
            exact leaveN (vs := [.agg (GRq k c.1 t.2.2 sv nilV nilV dt).toArray, .int .i64 0]) (resv_cells (cs := GRq k c.1 t.2.2 sv nilV nilV dt) (e := 42) (fr := (0, 0)) rfl rfl (World.putObj_heap_same (lt_of_heap hc410)) rfl (resv_tmp rfl resv_nil)) ⟨.inr ⟨by trivial, sv, by rw [hd]; rfl, (fun h => by cases h), (fun _ => own_down (own_keep hsv10 ((Keeps.refl (· = bw4) w10).put _ (fun _ => rfl)) (fun q hq e => by have := own_ge hso hq; have := hk8s; omega)) (by have := hk8s; omega))⟩, ((hkf7.trans hkw8).trans hk9).trans' (hk10.mono fun _ _ h => h) (fun i hi e => by omega) |>.trans' ((Keeps.refl (· = bw4) w10).put _ (fun _ => rfl)) (fun i hi e => by omega)⟩
end Go.Proofs.YtahlhldkcekbfaaGreatDoor
