/- norialaw16.examples. -/
import Derived.Test.YthjpgkefifkhjaaDoorTm
namespace Go.Proofs.YthjpgkefifkhjaaDoor
open Go Go.V Go.RowKit
set_option linter.unusedVariables false
set_option linter.unusedSimpArgs false

theorem slr_fresh {w : World} {b sz : Nat} {e : TypeId} {n : Nat} {cs : List Value} (h : w.heap[b]? = some (.cells cs.toArray e (0, 0))) (hl : cs.length = n * sz) : SlR w sz (.slice (some ⟨b, 0, none⟩) n n) n cs :=
  ⟨hl, _, _, rfl, Nat.le_refl _, .inr ⟨b, 0, _, _, _, rfl, h, fun j hj => by simp⟩⟩
def exG (b1 b2 : Nat) : List GN := [(0, .slice none 0 0), (1, .slice (some ⟨b1, 0, none⟩) 1 1), (2, .slice (some ⟨b2, 0, none⟩) 2 2)]
set_option maxRecDepth 100000 in
set_option maxHeartbeats 4000000 in
theorem examples_ca (w : World) : Ca Tryd.prog 9 #[] w fun v w' => v = .bool true ∧ Keeps NoB w w' := by
  refine ca_of_body (args := []) Tryd.func9 rfl (by kernel_rfl) ?_
  (repeat first | (apply wr_assign; exact rfl; with_reducible (conv => enter [6, 3]; whnf)) | apply wr_end | apply wc_seq | apply wc_region)
  refine wr_build (ps := []) (cs := [.int .i64 0, .slice none 0 0]) rfl rfl rfl rfl ?_
  refine wr_buildSlice (vs := [.int .i64 1]) rfl rfl (by intro v hv; simp at hv; subst hv; rfl) rfl (by decide) (by decide) (by decide) ?_
  obtain ⟨w1, hw1⟩ : ∃ w1, w1 = w.alloc (.cells ([Value.int .i64 1].flatMap (fun v => v.cells.toList)).toArray 3) := ⟨_, rfl⟩
  obtain ⟨b1, hb1⟩ : ∃ b1, b1 = w.heap.size := ⟨_, rfl⟩
  have hk1 : Keeps NoB w w1 := by rw [hw1]; exact (Keeps.refl NoB w).alloc _
  have hc1 : w1.heap[b1]? = some (.cells [.int .i64 1].toArray 3 (0, 0)) := by rw [hw1, hb1]; exact heap_alloc_same _ _
  rw [← hw1, ← hb1]
  clear hw1 hb1
  refine wr_build (ps := [(0, .int .i64 1), (1, .slice (some ⟨b1, 0, none⟩) 1 1)]) (cs := [.int .i64 1, .slice (some ⟨b1, 0, none⟩) 1 1]) rfl rfl rfl rfl ?_
  refine wr_buildSlice (vs := [.int .i64 2, .int .i64 1]) rfl rfl (by intro v hv; simp at hv; rcases hv with rfl | rfl <;> rfl) rfl (by decide) (by decide) (by decide) ?_
  obtain ⟨w2, hw2⟩ : ∃ w2, w2 = w1.alloc (.cells ([Value.int .i64 2, Value.int .i64 1].flatMap (fun v => v.cells.toList)).toArray 3) := ⟨_, rfl⟩
  obtain ⟨b2, hb2⟩ : ∃ b2, b2 = w1.heap.size := ⟨_, rfl⟩
  have hk2 : Keeps NoB w1 w2 := by rw [hw2]; exact (Keeps.refl NoB w1).alloc _
  have hc2 : w2.heap[b2]? = some (.cells [.int .i64 2, .int .i64 1].toArray 3 (0, 0)) := by rw [hw2, hb2]; exact heap_alloc_same _ _
  rw [← hw2, ← hb2]
  clear hw2 hb2
  refine wr_build (ps := [(0, .int .i64 2), (1, .slice (some ⟨b2, 0, none⟩) 2 2)]) (cs := [.int .i64 2, .slice (some ⟨b2, 0, none⟩) 2 2]) rfl rfl rfl rfl ?_
  refine wr_buildSlice (vs := [.agg #[.int .i64 0, .slice none 0 0], .agg #[.int .i64 1, .slice (some ⟨b1, 0, none⟩) 1 1], .agg #[.int .i64 2, .slice (some ⟨b2, 0, none⟩) 2 2]]) rfl rfl (by intro v hv; simp at hv; rcases hv with rfl | rfl | rfl <;> rfl) rfl (by decide) (by decide) (by decide) ?_
  obtain ⟨w3, hw3⟩ : ∃ w3, w3 = w2.alloc (.cells ([Value.agg #[.int .i64 0, .slice none 0 0], .agg #[.int .i64 1, .slice (some ⟨b1, 0, none⟩) 1 1], .agg #[.int .i64 2, .slice (some ⟨b2, 0, none⟩) 2 2]].flatMap (fun v => v.cells.toList)).toArray 35) := ⟨_, rfl⟩
  obtain ⟨b3, hb3⟩ : ∃ b3, b3 = w2.heap.size := ⟨_, rfl⟩
  have hk3 : Keeps NoB w2 w3 := by rw [hw3]; exact (Keeps.refl NoB w2).alloc _
  have hc3 : w3.heap[b3]? = some (.cells ((exG b1 b2).flatMap GNc).toArray 35 (0, 0)) := by rw [hw3, hb3]; exact heap_alloc_same _ _
  rw [← hw3, ← hb3]
  clear hw3 hb3
  have hk13 := hk2.trans hk3
  have hk03 := hk1.trans hk13
  have hg : Given w3 exN (exG b1 b2) := by
    refine ⟨rfl, fun i g n hg hn => ?_⟩
    match i with
    | 0 => cases hg; cases hn; exact ⟨rfl, rfl, none, 0, rfl, Nat.le_refl _, .inl ⟨rfl, fun _ => rfl⟩⟩
    | 1 => cases hg; cases hn; exact ⟨rfl, slr_fresh (hk13.heap hc1 (fun h => h)) rfl⟩
    | 2 => cases hg; cases hn; exact ⟨rfl, slr_fresh (hk3.heap hc2 (fun h => h)) rfl⟩
    | i + 3 => simp [exG] at hg
  have hsl : SlR w3 2 (.slice (some ⟨b3, 0, none⟩) 3 3) (exG b1 b2).length ((exG b1 b2).flatMap GNc) := slr_fresh hc3 rfl
  refine wr_call (vs := [.slice (some ⟨b3, 0, none⟩) 3 3]) rfl (new_ca exN (exG b1 b2) _ (by decide) (by unfold i64B; decide) w3 hsl hg) rfl ?_
  rintro v w4 ⟨⟨_, tb, lb, cap, X, rfl, hM⟩ | ⟨hno, _⟩, hk4⟩
  rotate_left
  · exact absurd ex_right hno
  obtain ⟨hT, hwf, hfr⟩ := hM
  rw [ex_new] at hT hwf
  (repeat first | (apply wr_move; exact rfl; with_reducible (conv => enter [6, 3]; whnf)) | (apply wr_assign; exact rfl; with_reducible (conv => enter [6, 3]; whnf)) | apply wr_end | apply wc_seq | apply wc_region | (apply wr_extract; (iterate 3 exact rfl); with_reducible (conv => enter [6, 3]; whnf)))
  refine wr_call (vs := [.slice none 0 0]) rfl (new_ca [] [] _ (by decide) (by simp) w4 ⟨rfl, none, 0, rfl, Nat.le_refl _, .inl ⟨rfl, fun _ => rfl⟩⟩ ⟨rfl, fun i g n h => by simp at h⟩) rfl ?_
  rintro v w5 ⟨⟨hno, _⟩ | ⟨_, rfl⟩, hk5⟩
  · exact absurd hno (by decide)
  have hT5 := hT.kin hk5
  (repeat first | (apply wr_move; exact rfl; with_reducible (conv => enter [6, 3]; whnf)) | (apply wr_assign; exact rfl; with_reducible (conv => enter [6, 3]; whnf)) | apply wr_end | apply wc_seq | apply wc_region | (apply wr_extract; (iterate 3 exact rfl); with_reducible (conv => enter [6, 3]; whnf)))
  refine wr_ptrNil rfl rfl ?_
  conv => enter [6, 3]; whnf
  (repeat first | (apply wr_move; exact rfl; with_reducible (conv => enter [6, 3]; whnf)) | apply wr_end | apply wc_seq | apply wc_region | apply wc_skip | (apply wc_false; exact rfl))
  have hp0 : ParB exT0 := by unfold ParB; decide
  have hp1 : ParB exT1 := by unfold ParB; decide
  refine wr_call (vs := [.pointer (some ⟨tb, 0, none⟩)]) rfl (text_ca w5 hT5 (by decide) hp0) rfl ?_
  rintro v w6 ⟨rfl, hk6⟩
  rw [ex_text0]
  have hT6 := hT5.kin hk6
  (repeat first | (apply wr_move; exact rfl; with_reducible (conv => enter [6, 3]; whnf)) | (apply wr_assign; exact rfl; with_reducible (conv => enter [6, 3]; whnf)) | apply wr_end | apply wc_seq | apply wc_region)
  refine wr_call (vs := [.pointer (some ⟨tb, 0, none⟩), .int .i64 2]) rfl (fall_ca 2 w6 hT6 hwf) rfl ?_
  rintro vf w7 ⟨ho7, hT7, hk7⟩
  rw [ex_fall] at ho7 hT7
  rw [show exT0.length = 4 from rfl, ex_told] at ho7
  (repeat first | (apply wr_move; exact rfl; with_reducible (conv => enter [6, 3]; whnf)) | (apply wr_assign; exact rfl; with_reducible (conv => enter [6, 3]; whnf)) | apply wr_end | apply wc_seq | apply wc_region)
  refine wr_call (vs := [.pointer (some ⟨tb, 0, none⟩)]) rfl (text_ca w7 hT7 (by decide) hp1) rfl ?_
  rintro v w8 ⟨rfl, hk8⟩
  rw [ex_text1]
  have hT8 := hT7.kin hk8
  have hwf8 : WFT exT1 X := by
    have := (fallT_wf hwf (i := 2) (by decide)).1
    exact this
  (repeat first | (apply wr_move; exact rfl; with_reducible (conv => enter [6, 3]; whnf)) | (apply wr_assign; exact rfl; with_reducible (conv => enter [6, 3]; whnf)) | apply wr_end | apply wc_seq | apply wc_region)
  refine wr_call (vs := [.pointer (some ⟨tb, 0, none⟩), .int .i64 2]) rfl (rise_ca 2 w8 hT8 hwf8) rfl ?_
  rintro vr w9 ⟨ho9, hT9, hk9⟩
  rw [ex_rise] at ho9 hT9
  rw [show exT1.length = 4 from rfl, ex_told'] at ho9
  (repeat first | (apply wr_move; exact rfl; with_reducible (conv => enter [6, 3]; whnf)) | (apply wr_assign; exact rfl; with_reducible (conv => enter [6, 3]; whnf)) | apply wr_end | apply wc_seq | apply wc_region)
  refine wr_call (vs := [.pointer (some ⟨tb, 0, none⟩), .int .i64 3]) rfl (path_ca 3 exMu ex_mu (by decide) w9 hT9) rfl ?_
  rintro v w10 ⟨sl, rfl, ho10, hk10⟩
  rw [show exMu 3 + 1 = 4 from rfl, ex_path] at ho10 ⊢
  have hT10 := hT9.kin hk10
  obtain ⟨a7, c7, rfl⟩ := slr_cell1 (SlR.of_own ho7)
  obtain ⟨a9, c9, rfl⟩ := slr_cell1 (SlR.of_own ho9)
  obtain ⟨a10, c10, rfl⟩ := slr_cell1 (SlR.of_own ho10)
  clear ho7 ho9 ho10
  have hkk : Keeps NoB w w10 := by
    have h6 : Keeps NoB w w6 := hk03.trans (hk4.trans (hk5.trans hk6))
    have hd : ∀ b, b < w.heap.size → TD X b → NoB b := fun b hl hb => by have := hfr b hb; have := hk03.size; omega
    exact (Keeps.trans' ((Keeps.trans' h6 hk7 hd).trans hk8) hk9 hd).trans hk10
  (repeat first | (apply wr_move; exact rfl; with_reducible (conv => enter [6, 3]; whnf)) | (apply wr_assign; exact rfl; with_reducible (conv => enter [6, 3]; whnf)) | apply wr_end | apply wc_seq | apply wc_region | (apply wr_len_slice; iterate 2 exact rfl) | (apply wr_cmp; (iterate 3 exact rfl); exact cmpT (by dsimp only [cmpP]; first | done | omega)) | (apply wr_cmp; (iterate 3 exact rfl); exact cmp_eq _ _) | (apply wr_pick (t := true); (iterate 2 exact rfl); with_reducible (conv => enter [6, 3]; whnf)) | (apply wr_extract; (iterate 3 exact rfl); with_reducible (conv => enter [6, 3]; whnf)) | (apply wr_streqc; (iterate 3 exact rfl); (first | exact decide_eq_true (by with_reducible assumption) | exact decide_eq_false (by with_reducible assumption) | exact decide_eq_true rfl | exact rfl)))
  refine wr_call (vs := [.pointer (some ⟨tb, 0, none⟩)]) rfl (text_ca w10 hT10 (by decide) hp0) rfl ?_
  rintro v w11 ⟨rfl, hk11⟩
  rw [ex_text0]
  (repeat first | (apply wr_move; exact rfl; with_reducible (conv => enter [6, 3]; whnf)) | (apply wr_assign; exact rfl; with_reducible (conv => enter [6, 3]; whnf)) | apply wr_end | (apply wr_len_slice; iterate 2 exact rfl) | (apply wr_cmp; (iterate 3 exact rfl); exact cmp_eq _ _) | (apply wr_pick (t := true); (iterate 2 exact rfl); with_reducible (conv => enter [6, 3]; whnf)) | (apply wr_streqc; (iterate 3 exact rfl); (first | exact decide_eq_true (by with_reducible assumption) | exact decide_eq_false (by with_reducible assumption) | exact decide_eq_true rfl | exact rfl)) | (apply wc_ret; try simp only [thenE, inBlockE, bodyQ]))
  exact leave1 (v := .bool true) rfl rfl ⟨rfl, hkk.trans hk11⟩
end Go.Proofs.YthjpgkefifkhjaaDoor
