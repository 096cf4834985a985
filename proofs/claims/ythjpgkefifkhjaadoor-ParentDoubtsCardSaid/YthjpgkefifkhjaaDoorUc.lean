/- ParentDoubts: the walk. -/
import Derived.Test.YthjpgkefifkhjaaDoorTz
import Derived.Test.YthjpgkefifkhjaaDoorUb
namespace Go.Proofs.YthjpgkefifkhjaaDoor
open Go Go.V Go.RowKit
set_option linter.unusedVariables false
set_option linter.unusedSimpArgs false

theorem own_ne {w : World} {base base' : Nat} {e e' : TypeId} {sz sz' n n' : Nat} {v v' : Value} {xs xs' : List Value} (h : w.ownsRow base e sz v n xs) (h' : w.ownsRow base' e' sz' v' n' xs') (he : e ≠ e') : ∀ b, v.ownBlock = some b → ¬ v'.ownBlock = some b := fun b hb hb' => by
  obtain ⟨c, f, h1⟩ := own_ty h hb
  obtain ⟨c', f', h2⟩ := own_ty h' hb'
  rw [h1] at h2
  simp at h2
  exact he h2.2.1
theorem partK_succ (i : Nat) : partK (i + 1) = partK i ++ [(1, [1])] := by unfold partK; rw [List.replicate_succ']; rfl
theorem candK_succ (i : Nat) : IL (candK (i + 1)) = IL (candK i) ++ [.int .i64 ((i : Int) + 2)] := by unfold candK IL; rw [List.range_succ]; simp
theorem candK_len (i : Nat) : (candK i).length = i := by unfold candK; simp
theorem partK_len (i : Nat) : (partK i).length = i + 1 := by unfold partK; simp
theorem nodesK_bd {K : Nat} (hK : K ≤ 8) : ∀ n ∈ nodesK K, n.2.length ≤ 1000000 ∧ ∀ c ∈ n.2, i64B c := fun n hn => by
  unfold nodesK partK at hn
  rcases List.mem_append.1 hn with hn | hn
  · rcases List.mem_cons.1 hn with rfl | hn
    · exact ⟨Nat.zero_le _, fun c hc => nomatch hc⟩
    · have := List.eq_of_mem_replicate hn
      subst this
      exact ⟨by show 1 ≤ 1000000; omega, fun c hc => by simp at hc; subst hc; unfold i64B; omega⟩
  · rw [List.mem_singleton] at hn
    subst hn
    refine ⟨by show (candK K).length ≤ _; rw [candK_len]; omega, fun c hc => ?_⟩
    unfold candK at hc
    obtain ⟨j, hj, rfl⟩ := List.mem_map.1 hc
    have := List.mem_range.1 hj
    unfold i64B; omega
theorem dT_wf {K : Nat} {X : List NL} (h : WFT (newT (nodesK K)) X) : ∀ i, WFT (dT K i) X
  | 0 => h
  | i + 1 => doubtF_wf (dT_wf h i) _ _
set_option maxRecDepth 100000 in
set_option maxHeartbeats 8000000 in
theorem doubts_law (nn tt : Nat) (w : World) (hnn : nn < 256) (htt : tt < 256) :
    Ca Tryd.prog 8 #[.int .u8 (nn : Int), .int .u8 (tt : Int)] w fun v w' => v = .bool true ∧ Keeps NoB w w' := by
  refine ca_of_body (args := [.int .u8 (nn : Int), .int .u8 (tt : Int)]) Tryd.func8 rfl (by kernel_rfl) ?_
  (repeat first | (apply wr_assign; exact rfl; with_reducible (conv => enter [6, 3]; whnf)) | apply wr_end | apply wc_seq | apply wc_region)
  refine wr_call (vs := []) rfl (examples_ca w) rfl ?_
  rintro v w1 ⟨rfl, hk1⟩
  (repeat first | (apply wr_move; exact rfl; with_reducible (conv => enter [6, 3]; whnf)) | (apply wr_assign; exact rfl; with_reducible (conv => enter [6, 3]; whnf)) | apply wr_end | apply wc_seq | apply wc_region | apply wc_skip | (apply wr_not; iterate 2 exact rfl) | (apply wc_false; exact rfl))
  refine wr_remN (n := nn) (m := 8) rfl rfl rfl (by decide) ?_
  have hm8 : nn % 8 < 8 := Nat.mod_lt _ (by decide)
  generalize nn % 8 = q at hm8
  (repeat first | (apply wr_assign; exact rfl; with_reducible (conv => enter [6, 3]; whnf)) | apply wr_end | apply wc_seq | apply wc_region | (apply wr_add; (iterate 3 exact rfl); exact w_fit (by dsimp only [kIn]; first | done | omega)) | (apply wr_conv; (iterate 2 exact rfl); exact w_fit (by dsimp only [kIn]; first | done | omega)))
  obtain ⟨K, hK⟩ : ∃ K : Nat, K = q + 1 := ⟨_, rfl⟩
  rw [show 1 + (q : Int) = (K : Int) by omega]
  refine wr_build (ps := []) (cs := [.int .i64 0, .slice none 0 0]) rfl rfl rfl rfl ?_
  refine wr_buildSlice (vs := [.agg #[.int .i64 0, .slice none 0 0]]) rfl rfl (by intro v hv; simp at hv; subst hv; rfl) rfl (by decide) (by decide) (by decide) ?_
  obtain ⟨w2, hw2⟩ : ∃ w2, w2 = w1.alloc (.cells ([Value.agg #[.int .i64 0, .slice none 0 0]].flatMap (fun v => v.cells.toList)).toArray 35) := ⟨_, rfl⟩
  have hk2 : Keeps NoB w1 w2 := by rw [hw2]; exact (Keeps.refl NoB w1).alloc _
  have ho2 : w2.ownsRow w1.heap.size 35 2 (.slice (some ⟨w1.heap.size, 0, none⟩) 1 1) 1 [.int .i64 0, .slice none 0 0] := by
    rw [hw2]; exact ⟨rfl, .inr ⟨w1.heap.size, 1, _, rfl, Nat.le_refl _, heap_alloc_same _ _, Nat.le_refl _, by decide, rfl, rfl⟩⟩
  rw [← hw2]
  clear hw2
  have hg0 : Given w2 (partK 0) [(0, .slice none 0 0)] := ⟨rfl, fun i g n hg hn => by
    have := (List.getElem?_eq_some_iff.1 hn).1
    simp [partK] at this
    subst this
    cases hg; cases hn
    exact ⟨rfl, rfl, none, 0, rfl, Nat.le_refl _, .inl ⟨rfl, fun _ => rfl⟩⟩⟩
  (repeat first | (apply wr_assign; exact rfl; with_reducible (conv => enter [6, 3]; whnf)) | apply wr_end | apply wc_seq | apply wc_region | apply wc_block)
  refine wc_loopL (α := Nat × Value × Value) (fun x => [(1, .int .u8 (tt : Int)), (5, .bool true), (6, .int .i64 (K : Int)), (7, x.2.1), (8, x.2.2), (9, .int .i64 (x.1 : Int))])
    (fun x ds w' => ds = [] ∧ x.1 ≤ K ∧ ∃ gs, w'.ownsRow w1.heap.size 35 2 x.2.1 gs.length (gs.flatMap GNc) ∧ Given w' (partK x.1) gs ∧ (∀ g ∈ gs, CvT w' g.2 w1.heap.size) ∧ w'.ownsRow w1.heap.size 3 1 x.2.2 x.1 (IL (candK x.1)) ∧ (∀ g ∈ gs, ∀ b, g.2.ownBlock = some b → ¬ x.2.2.ownBlock = some b) ∧ Keeps NoB w1 w') (fun x => K - x.1) (0, .slice (some ⟨w1.heap.size, 0, none⟩) 1 1, .slice none 0 0)
    ⟨rfl, Nat.zero_le _, [(0, .slice none 0 0)], ho2, hg0, (by intro g hg b hb; simp at hg; subst hg; cases hb), own_nil _ _ _ _, (by intro g hg b hb; simp at hg; subst hg; cases hb), hk2⟩ ⟨rfl, rfl, rfl, rfl, rfl, rfl, trivial⟩ ?_
  rintro ⟨i, v, cv⟩ ds f0 w4 ⟨rfl, hi, gs, hov, hg, hty, hoc, hne, hk4⟩
  dsimp only at hi hov hg hoc hne ⊢
  have hgl := hg.len
  rw [partK_len] at hgl
  have hsz4 := hk4.size
  by_cases hlt : i < K
  · (repeat first | (apply wr_move; exact rfl; with_reducible (conv => enter [6, 3]; whnf)) | apply wr_end | apply wc_seq | apply wc_region | apply wc_skip | apply wc_block | (apply wr_cmp; (iterate 3 exact rfl); exact cmpT (by dsimp only [cmpP]; first | done | omega)) | (apply wc_true; exact rfl))
    refine wr_buildSlice (vs := [.int .i64 1]) rfl rfl (by intro v hv; simp at hv; subst hv; rfl) rfl (by decide) (by decide) (by decide) ?_
    obtain ⟨w5, hw5⟩ : ∃ w5, w5 = w4.alloc (.cells ([Value.int .i64 1].flatMap (fun v => v.cells.toList)).toArray 3) := ⟨_, rfl⟩
    obtain ⟨b5, hb5⟩ : ∃ b5, b5 = w4.heap.size := ⟨_, rfl⟩
    have hk5 : Keeps NoB w4 w5 := by rw [hw5]; exact (Keeps.refl NoB w4).alloc _
    have hs5 : w5.heap.size = w4.heap.size + 1 := by rw [hw5]; simp
    have hc5 : w5.heap[b5]? = some (.cells [.int .i64 1].toArray 3 (0, 0)) := by rw [hw5, hb5]; exact heap_alloc_same _ _
    rw [← hw5, ← hb5]
    clear hw5
    refine wr_build (ps := [(0, .int .i64 1), (1, .slice (some ⟨b5, 0, none⟩) 1 1)]) (cs := [.int .i64 1, .slice (some ⟨b5, 0, none⟩) 1 1]) rfl rfl rfl rfl ?_
    refine wr_buildSlice (vs := [.agg #[.int .i64 1, .slice (some ⟨b5, 0, none⟩) 1 1]]) rfl rfl (by intro v hv; simp at hv; subst hv; rfl) rfl (by decide) (by decide) (by decide) ?_
    have hov5 := own_keep hov hk5 (fun _ _ h => h)
    refine wr_append (v := v) (n := gs.length) (m := 1) (news := [.int .i64 1, .slice (some ⟨b5, 0, none⟩) 1 1]) rfl rfl (hov5.alloc _) rfl (heap_alloc_same _ _) rfl (by intro u hu; simp at hu; rcases hu with rfl | rfl <;> rfl) rfl (by decide) (by omega) (by omega) (by simp only [World.size_alloc]; omega) ?_
    intro v2 w7 hov7 hk7 _
    have hk57 : Keeps (fun k => v.ownBlock = some k) w5 w7 := Keeps.trans' ((Keeps.refl NoB w5).alloc _).upD hk7 (fun b hb e => e)
    (repeat first | (apply wr_move; exact rfl; with_reducible (conv => enter [6, 3]; whnf)) | (apply wr_assign; exact rfl; with_reducible (conv => enter [6, 3]; whnf)) | apply wr_end | apply wc_region | (apply wr_add; (iterate 3 exact rfl); exact w_fit (by dsimp only [kIn]; first | done | omega)))
    refine wr_buildSlice (vs := [.int .i64 ((i : Int) + 2)]) rfl rfl (by intro v hv; simp at hv; subst hv; rfl) rfl (by decide) (by decide) (by decide) ?_
    have hvlt : ∀ b, v.ownBlock = some b → w1.heap.size ≤ b ∧ b < w4.heap.size := fun b hb => hov.lt b hb
    have hclt : ∀ b, cv.ownBlock = some b → w1.heap.size ≤ b ∧ b < w4.heap.size := fun b hb => hoc.lt b hb
    have hoc5 := own_keep hoc hk5 (fun _ _ h => h)
    have hoc7 := own_keep hoc5 hk57 (own_ne hoc5 hov5 (by decide))
    refine wr_append2 (v := cv) (n := i) (m := 1) (news := [.int .i64 ((i : Int) + 2)]) rfl rfl (hoc7.alloc _) rfl (heap_alloc_same _ _) rfl (by intro u hu; simp at hu; subst hu; rfl) rfl (by decide) (by omega) (by omega) (by have := hk57.size; simp only [World.size_alloc]; omega) ?_
    intro cv2 w9 hoc9 hk9 hblk
    have hk79 : Keeps (fun k => cv.ownBlock = some k) w7 w9 := Keeps.trans' ((Keeps.refl NoB w7).alloc _).upD hk9 (fun b hb e => e)
    have hk49 : Keeps (fun k => v.ownBlock = some k ∨ cv.ownBlock = some k) w4 w9 := (hk5.upD.trans (hk57.mono (fun _ _ e => .inl e))).trans (hk79.mono (fun _ _ e => .inr e))
    have hk59 : Keeps (fun k => v.ownBlock = some k ∨ cv.ownBlock = some k) w5 w9 := (hk57.mono (fun _ _ e => .inl e)).trans (hk79.mono (fun _ _ e => .inr e))
    have hgd : ∀ g ∈ gs, ∀ k, g.2.ownBlock = some k → ¬ (v.ownBlock = some k ∨ cv.ownBlock = some k) := fun g hg' k hk => by
      rintro (e | e)
      · obtain ⟨_, c1, f1, h1⟩ := hty g hg' k hk
        obtain ⟨c2, f2, h2⟩ := own_ty hov e
        rw [h1] at h2
        simp at h2
      · exact hne g hg' k hk e
    have hb5d : ¬ (v.ownBlock = some b5 ∨ cv.ownBlock = some b5) := by
      rintro (e | e)
      · have := (hvlt _ e).2; omega
      · have := (hclt _ e).2; omega
    have hc9 := hk59.heap hc5 hb5d
    have hg9 : Given w9 (partK (i + 1)) (gs ++ [(1, .slice (some ⟨b5, 0, none⟩) 1 1)]) := by
      rw [partK_succ]
      exact (hg.keepD hk49 hgd).snoc rfl (slr_fresh hc9 rfl)
    have hov9 := own_keep hov7 hk79 (own_ne hov7 hoc7 (by decide))
    have hbk5 : ∀ k, (Value.slice (some ⟨b5, 0, none⟩) 1 1).ownBlock = some k → k = b5 := fun k hk => by
      have : b5 = k := by simpa [Value.ownBlock] using hk
      exact this.symm
    have hs79 : w5.heap.size ≤ w7.heap.size := hk57.size
    (repeat first | (apply wr_move; exact rfl; with_reducible (conv => enter [6, 3]; whnf)) | (apply wr_assign; exact rfl; with_reducible (conv => enter [6, 3]; whnf)) | apply wr_end | apply wc_region | (apply wr_add; (iterate 3 exact rfl); exact w_fit (by dsimp only [kIn]; first | done | omega)) | (apply wr_nil; try simp only [thenE, inBlockE, bodyQ]))
    exact ⟨(i + 1, v2, cv2), by dsimp only; omega, ⟨by trivial, hlt, gs ++ [(1, .slice (some ⟨b5, 0, none⟩) 1 1)], (by simpa [GNc] using hov9), hg9, (fun g hg' k hk => by
      rcases List.mem_append.1 hg' with hg' | hg'
      · obtain ⟨h1, c1, f1, h2⟩ := hty g hg' k hk
        exact ⟨h1, c1, f1, hk49.heap h2 (hgd g hg' k hk)⟩
      · rw [List.mem_singleton] at hg'
        subst hg'
        have := hbk5 k hk
        subst this
        exact ⟨by omega, _, _, hc9⟩), (by rw [candK_succ]; exact hoc9), (fun g hg' k hk e => by
      have hlt' : k < w7.heap.size ∧ ¬ cv.ownBlock = some k := by
        rcases List.mem_append.1 hg' with hg' | hg'
        · obtain ⟨_, c1, f1, h2⟩ := hty g hg' k hk
          have := lt_of_heap h2
          exact ⟨by omega, hne g hg' k hk⟩
        · rw [List.mem_singleton] at hg'
          subst hg'
          have := hbk5 k hk
          subst this
          exact ⟨by omega, fun h => hb5d (.inr h)⟩
      rcases hblk k e with h | h
      · exact hlt'.2 h
      · simp only [World.size_alloc] at h; omega), Keeps.trans' hk4 hk49 (fun b hb e => by
        rcases e with e | e
        · have := (hvlt _ e).1; omega
        · have := (hclt _ e).1; omega)⟩, rfl, rfl, rfl, rfl, rfl, by simp, trivial⟩
  have hie : i = K := by omega
  subst hie
  obtain ⟨ac, cc, rfl⟩ := slr_cell1 (SlR.of_own hoc)
  (repeat first | (apply wr_move; exact rfl; with_reducible (conv => enter [6, 3]; whnf)) | apply wr_end | apply wc_seq | apply wc_region | (apply wr_cmp; (iterate 3 exact rfl); exact cmpF (by dsimp only [cmpN]; first | done | omega)) | (apply wc_false; exact rfl) | (apply wc_exit; try simp only [thenE, inBlockE, bodyQ, ↓reduceIte, Nat.reduceEqDiff]))
  refine wr_build (ps := [(0, .int .i64 2), (1, .slice ac i cc)]) (cs := [.int .i64 2, .slice ac i cc]) rfl rfl rfl rfl ?_
  refine wr_buildSlice (vs := [.agg #[.int .i64 2, .slice ac i cc]]) rfl rfl (by intro v hv; simp at hv; subst hv; rfl) rfl (by decide) (by decide) (by decide) ?_
  refine wr_append (v := v) (n := gs.length) (m := 1) (news := [.int .i64 2, .slice ac i cc]) rfl rfl (hov.alloc _) rfl (heap_alloc_same _ _) rfl (by intro u hu; simp at hu; rcases hu with rfl | rfl <;> rfl) rfl (by decide) (by omega) (by omega) (by simp only [World.size_alloc]; omega) ?_
  intro nv w5 hov5 hk5 _
  have hk45 : Keeps (fun k => v.ownBlock = some k) w4 w5 := Keeps.trans' ((Keeps.refl NoB w4).alloc _).upD hk5 (fun b hb e => e)
  have hk15 : Keeps NoB w1 w5 := Keeps.trans' hk4 hk45 (fun b hb e => by have := (hov.lt b e).1; omega)
  have hgd : ∀ g ∈ gs, ∀ k, g.2.ownBlock = some k → ¬ v.ownBlock = some k := fun g hg' k hk e => by
    obtain ⟨_, c1, f1, h1⟩ := hty g hg' k hk
    obtain ⟨c2, f2, h2⟩ := own_ty hov e
    rw [h1] at h2
    simp at h2
  have hoc5 := own_keep hoc hk45 (own_ne hoc hov (by decide))
  have hg5 : Given w5 (nodesK i) (gs ++ [((2 : Int), Value.slice ac i cc)]) := (hg.keepD hk45 hgd).snoc rfl (by show SlR w5 1 (.slice ac i cc) (candK i).length (IL (candK i)); rw [candK_len]; exact SlR.of_own hoc5)
  have hnv : SlR w5 2 nv (gs ++ [((2 : Int), Value.slice ac i cc)]).length ((gs ++ [((2 : Int), Value.slice ac i cc)]).flatMap GNc) := by
    have := SlR.of_own hov5
    simpa [GNc] using this
  obtain ⟨an, cn, rfl⟩ := slr_cell1 (SlR.of_own hov5)
  have hR : rightP (nodesK i) := right_all i (by omega) (by omega)
  have hnl : (nodesK i).length = i + 2 := by unfold nodesK; rw [List.length_append, partK_len]; rfl
  (repeat first | (apply wr_move; exact rfl; with_reducible (conv => enter [6, 3]; whnf)) | (apply wr_assign; exact rfl; with_reducible (conv => enter [6, 3]; whnf)) | apply wr_end | apply wc_seq | apply wc_region)
  refine wr_call (vs := [.slice an (gs.length + 1) cn]) rfl (new_ca (nodesK i) (gs ++ [((2 : Int), Value.slice ac i cc)]) (.slice an (gs.length + 1) cn) (by omega) (nodesK_bd (by omega)) w5 hnv hg5) rfl ?_
  rintro v6 w6 ⟨⟨_, tb, lb, cap, X, rfl, hM⟩ | ⟨hno, _⟩, hk6⟩
  rotate_left
  · exact absurd hR hno
  obtain ⟨hT6, hwf6, hfr⟩ := hM
  (repeat first | (apply wr_move; exact rfl; with_reducible (conv => enter [6, 3]; whnf)) | (apply wr_assign; exact rfl; with_reducible (conv => enter [6, 3]; whnf)) | apply wr_end | apply wc_seq | apply wc_region | (apply wr_extract; (iterate 3 exact rfl); with_reducible (conv => enter [6, 3]; whnf)))
  refine wr_ptrNil rfl rfl ?_
  conv => enter [6, 3]; whnf
  (repeat first | (apply wr_move; exact rfl; with_reducible (conv => enter [6, 3]; whnf)) | (apply wr_assign; exact rfl; with_reducible (conv => enter [6, 3]; whnf)) | apply wr_end | apply wc_seq | apply wc_region | apply wc_skip | apply wc_block | (apply wr_cmp; (iterate 3 exact rfl); exact cmpF (by dsimp only [cmpN]; first | done | omega)) | (apply wr_pick (t := false); (iterate 2 exact rfl); with_reducible (conv => enter [6, 3]; whnf)) | (apply wr_add; (iterate 3 exact rfl); exact w_fit (by dsimp only [kIn]; first | done | omega)) | (apply wc_false; exact rfl))
  have hR20 : tt % 21 ≤ 20 := by omega
  obtain ⟨R, hRe⟩ : ∃ R, R = tt % 21 := ⟨_, rfl⟩
  rw [← hRe] at hR20
  refine wc_loopL (α := Nat) (fun j => [(1, .int .u8 (tt : Int)), (5, .bool true), (6, .int .i64 (i : Int)), (10, .pointer (some ⟨tb, 0, none⟩)), (12, .int .i64 ((i : Int) + 2)), (13, .int .i64 (j : Int))])
    (fun j ds' w' => ds' = [] ∧ j ≤ R ∧ TreeAt w' tb lb cap (dT i j) X ∧ Keeps (TD X) w6 w') (fun j => R - j) 0
    ⟨rfl, Nat.zero_le _, hT6, Keeps.refl _ _⟩ ⟨rfl, rfl, rfl, rfl, rfl, rfl, trivial⟩ ?_
  rintro j ds' f1 w7 ⟨rfl, hj, hT7, hk7⟩
  have hso := step_all (K := i) (i := j) (by omega) (by omega) (by omega)
  unfold stepOk at hso
  rw [Bool.and_eq_true, Bool.and_eq_true, Bool.and_eq_true, decide_eq_true_iff, decide_eq_true_iff, decide_eq_true_iff, decide_eq_true_iff] at hso
  obtain ⟨⟨⟨hpar, hnd⟩, hyd⟩, hbl⟩ := hso
  have hjm : j % i < i := Nat.mod_lt _ (by omega)
  obtain ⟨r, hr⟩ : ∃ r, r = j % i := ⟨_, rfl⟩
  rw [← hr] at hpar hbl hjm
  by_cases hjl : j < R
  · (repeat first | (apply wr_move; exact rfl; with_reducible (conv => enter [6, 3]; whnf)) | apply wc_seq | apply wc_region)
    refine wr_remN (n := tt) (m := 21) rfl rfl rfl (by decide) ?_
    rw [← hRe]
    (repeat first | apply wr_end | apply wc_seq | apply wc_skip | apply wc_block | (apply wr_cmp; (iterate 3 exact rfl); exact cmpT (by dsimp only [cmpP]; first | done | omega)) | (apply wr_conv; (iterate 2 exact rfl); exact w_fit (by dsimp only [kIn]; first | done | omega)) | (apply wc_true; exact rfl))
    refine wc_drawP (l := _) 19 _ (by kernel_rfl) (by kernel_rfl) rfl (by kernel_rfl) (by kernel_rfl) (by decide) ?_
    have hTd := hT7.kin (Keeps.refl NoB w7).drew
    apply chP_pure
    focus
      intro x w' hk hF
      (repeat first | (apply wr_move; exact rfl; with_reducible (conv => enter [6, 3]; whnf)) | (apply wr_nil; try simp only [thenE, inBlockE, bodyQ]))
      exact ⟨rfl, Keeps.refl _ _⟩
    focus (intro x y h; rfl)
    focus kernel_rfl
    apply chP_pure
    focus
      intro x w' hk hF
      (repeat first | (apply wr_move; exact rfl; with_reducible (conv => enter [6, 3]; whnf)) | (apply wr_nil; try simp only [thenE, inBlockE, bodyQ]))
      exact ⟨rfl, Keeps.refl _ _⟩
    focus (intro x y h; rfl)
    focus kernel_rfl
    apply chP_pure
    focus
      intro x w' hk hF
      refine wr_call (vs := [.pointer (some ⟨tb, 0, none⟩), .int .i64 ((i : Int) + 2)]) rfl (parent_ca ((i : Int) + 2) w' (hTd.kin hk)) rfl ?_; rintro v'' w'' ⟨rfl, rfl⟩; rw [hpar]
      apply wr_nil
      exact ⟨rfl, Keeps.refl _ _⟩
    focus (intro x y h; rfl)
    focus kernel_rfl
    apply chP_pure
    focus
      intro x w' hk hF
      (repeat first | (apply wr_move; exact rfl; with_reducible (conv => enter [6, 3]; whnf)) | (apply wr_nil; try simp only [thenE, inBlockE, bodyQ]))
      exact ⟨rfl, Keeps.refl _ _⟩
    focus (intro x y h; rfl)
    focus kernel_rfl
    apply chP_pure
    focus
      intro x w' hk hF
      (repeat first | (apply wr_move; exact rfl; with_reducible (conv => enter [6, 3]; whnf)) | (apply wr_nil; try simp only [thenE, inBlockE, bodyQ]))
      exact ⟨rfl, Keeps.refl _ _⟩
    focus (intro x y h; rfl)
    focus kernel_rfl
    apply chP_pure
    focus
      intro x w' hk hF
      refine wr_remN (n := j) (m := i) rfl rfl rfl (by omega) ?_; rw [← hr]
      apply wr_nil
      exact ⟨rfl, Keeps.refl _ _⟩
    focus (intro x y h; rfl)
    focus kernel_rfl
    apply chP_pure
    focus
      intro x w' hk hF
      (repeat first | (apply wr_add; (iterate 3 exact rfl); exact w_fit (by dsimp only [kIn]; first | done | omega)) | (apply wr_nil; try simp only [thenE, inBlockE, bodyQ]))
      exact ⟨rfl, Keeps.refl _ _⟩
    focus (intro x y h; rfl)
    focus kernel_rfl
    apply chP_pure
    focus
      intro x w' hk hF
      (repeat first | (apply wr_cmp; (iterate 3 exact rfl); exact cmpF (by dsimp only [cmpN]; first | done | omega)) | (apply wr_nil; try simp only [thenE, inBlockE, bodyQ]))
      exact ⟨rfl, Keeps.refl _ _⟩
    focus (intro x y h; rfl)
    focus kernel_rfl
    apply chP_pure
    focus
      intro x w' hk hF
      (repeat first | (apply wr_move; exact rfl; with_reducible (conv => enter [6, 3]; whnf)) | (apply wr_nil; try simp only [thenE, inBlockE, bodyQ]))
      exact ⟨rfl, Keeps.refl _ _⟩
    focus (intro x y h; rfl)
    focus kernel_rfl
    apply chP_pure
    focus
      intro x w' hk hF
      (repeat first | (apply wr_move; exact rfl; with_reducible (conv => enter [6, 3]; whnf)) | (apply wr_nil; try simp only [thenE, inBlockE, bodyQ]))
      exact ⟨rfl, Keeps.refl _ _⟩
    focus (intro x y h; rfl)
    focus kernel_rfl
    apply chP_pure
    focus
      intro x w' hk hF
      (repeat first | (apply wr_move; exact rfl; with_reducible (conv => enter [6, 3]; whnf)) | (apply wr_nil; try simp only [thenE, inBlockE, bodyQ]))
      exact ⟨rfl, Keeps.refl _ _⟩
    focus (intro x y h; rfl)
    focus kernel_rfl
    apply chP_pure
    focus
      intro x w' hk hF
      refine wr_call (vs := [.pointer (some ⟨tb, 0, none⟩), .int .i64 ((i : Int) + 2), .int .i64 1]) rfl (doubtNo_ca ((i : Int) + 2) 1 w' (hTd.kin hk) hnd) rfl ?_; rintro v'' w'' ⟨rfl, rfl⟩
      apply wr_nil
      exact ⟨rfl, Keeps.refl _ _⟩
    focus (intro x y h; rfl)
    focus kernel_rfl
    apply chP_pure
    focus
      intro x w' hk hF
      (repeat first | (apply wr_pick (t := false); (iterate 2 exact rfl); with_reducible (conv => enter [6, 3]; whnf)) | (apply wr_nil; try simp only [thenE, inBlockE, bodyQ]))
      exact ⟨rfl, Keeps.refl _ _⟩
    focus (intro x y h; rfl)
    focus kernel_rfl
    apply chP_pure
    focus
      intro x w' hk hF
      (repeat first | (apply wr_move; exact rfl; with_reducible (conv => enter [6, 3]; whnf)) | (apply wr_nil; try simp only [thenE, inBlockE, bodyQ]))
      exact ⟨rfl, Keeps.refl _ _⟩
    focus (intro x y h; rfl)
    focus kernel_rfl
    apply chP_pure
    focus
      intro x w' hk hF
      (repeat first | (apply wr_move; exact rfl; with_reducible (conv => enter [6, 3]; whnf)) | (apply wr_nil; try simp only [thenE, inBlockE, bodyQ]))
      exact ⟨rfl, Keeps.refl _ _⟩
    focus (intro x y h; rfl)
    focus kernel_rfl
    apply chP_pure
    focus
      intro x w' hk hF
      (repeat first | (apply wr_move; exact rfl; with_reducible (conv => enter [6, 3]; whnf)) | (apply wr_nil; try simp only [thenE, inBlockE, bodyQ]))
      exact ⟨rfl, Keeps.refl _ _⟩
    focus (intro x y h; rfl)
    focus kernel_rfl
    apply chP_pure
    focus
      intro x w' hk hF
      (repeat first | (apply wr_move; exact rfl; with_reducible (conv => enter [6, 3]; whnf)) | (apply wr_nil; try simp only [thenE, inBlockE, bodyQ]))
      exact ⟨rfl, Keeps.refl _ _⟩
    focus (intro x y h; rfl)
    focus kernel_rfl
    apply chP_pure
    focus
      intro x w' hk hF
      (repeat first | (apply wr_move; exact rfl; with_reducible (conv => enter [6, 3]; whnf)) | (apply wr_nil; try simp only [thenE, inBlockE, bodyQ]))
      exact ⟨rfl, Keeps.refl _ _⟩
    focus (intro x y h; rfl)
    focus kernel_rfl
    apply chP_pure
    focus
      intro x w' hk hF
      refine wr_call (vs := [.pointer (some ⟨tb, 0, none⟩), .int .i64 ((i : Int) + 2)]) rfl (parent_ca ((i : Int) + 2) w' (hTd.kin hk)) rfl ?_; rintro v'' w'' ⟨rfl, rfl⟩; rw [hpar]
      apply wr_nil
      exact ⟨rfl, Keeps.refl _ _⟩
    focus (intro x y h; rfl)
    focus kernel_rfl
    refine chP_nil ?_
    intro x w8 hk8 hF
    rw [hpar] at hyd
    have hdn : doubtF (dT i j) ((i : Int) + 2) (2 + (r : Int)) = dT i (j + 1) := by rw [← hpar]; rfl
    refine wr_call (vs := [.pointer (some ⟨tb, 0, none⟩), .int .i64 ((i : Int) + 2), .int .i64 (2 + (r : Int))]) rfl (doubt_ca ((i : Int) + 2) (2 + (r : Int)) w8 (hTd.kin hk8) (dT_wf hwf6 j)) rfl ?_
    rintro v'' w9 ⟨rfl, hT9, hk9⟩
    rw [hdn] at hT9
    rw [decide_eq_true hyd]
    (repeat first | (apply wr_move; exact rfl; with_reducible (conv => enter [6, 3]; whnf)) | (apply wr_assign; exact rfl; with_reducible (conv => enter [6, 3]; whnf)) | apply wr_end | apply wc_region | apply wc_skip | (apply wr_not; iterate 2 exact rfl) | (apply wr_pick (t := false); (iterate 2 exact rfl); with_reducible (conv => enter [6, 3]; whnf)) | (apply wr_add; (iterate 3 exact rfl); exact w_fit (by dsimp only [kIn]; first | done | omega)) | (apply wc_false; exact rfl))
    exact ⟨j + 1, by omega, ⟨by trivial, by omega, hT9, hk7.trans ((((Keeps.refl NoB w7).drew.trans hk8).upD).trans hk9)⟩, rfl, rfl, rfl, rfl, rfl, by simp, trivial⟩
  have hje : j = R := by omega
  (repeat first | (apply wr_move; exact rfl; with_reducible (conv => enter [6, 3]; whnf)) | apply wc_seq | apply wc_region)
  refine wr_remN (n := tt) (m := 21) rfl rfl rfl (by decide) ?_
  rw [← hRe]
  (repeat first | apply wr_end | apply wc_seq | (apply wr_cmp; (iterate 3 exact rfl); exact cmpF (by dsimp only [cmpN]; first | done | omega)) | (apply wr_conv; (iterate 2 exact rfl); exact w_fit (by dsimp only [kIn]; first | done | omega)) | (apply wc_false; exact rfl) | (apply wc_exit; try simp only [thenE, inBlockE, bodyQ, ↓reduceIte, Nat.reduceEqDiff]))
  refine wc_drawP (l := _) 22 _ (by kernel_rfl) (by kernel_rfl) rfl (by kernel_rfl) (by kernel_rfl) (by decide) ?_
  have hTd := hT7.kin (Keeps.refl NoB w7).drew
  have hrR : r = R % i := by rw [← hje]; exact hr
  apply chP_pure
  focus
    intro x w' hk hF
    (repeat first | (apply wr_move; exact rfl; with_reducible (conv => enter [6, 3]; whnf)) | (apply wr_nil; try simp only [thenE, inBlockE, bodyQ]))
    exact ⟨rfl, Keeps.refl _ _⟩
  focus (intro x y h; rfl)
  focus kernel_rfl
  apply chP_pure
  focus
    intro x w' hk hF
    (repeat first | (apply wr_move; exact rfl; with_reducible (conv => enter [6, 3]; whnf)) | (apply wr_nil; try simp only [thenE, inBlockE, bodyQ]))
    exact ⟨rfl, Keeps.refl _ _⟩
  focus (intro x y h; rfl)
  focus kernel_rfl
  apply chP_pure
  focus
    intro x w' hk hF
    (repeat first | (apply wr_move; exact rfl; with_reducible (conv => enter [6, 3]; whnf)) | (apply wr_nil; try simp only [thenE, inBlockE, bodyQ]))
    exact ⟨rfl, Keeps.refl _ _⟩
  focus (intro x y h; rfl)
  focus kernel_rfl
  apply chP_pure
  focus
    intro x w' hk hF
    (repeat first | (apply wr_move; exact rfl; with_reducible (conv => enter [6, 3]; whnf)) | (apply wr_nil; try simp only [thenE, inBlockE, bodyQ]))
    exact ⟨rfl, Keeps.refl _ _⟩
  focus (intro x y h; rfl)
  focus kernel_rfl
  apply chP_pure
  focus
    intro x w' hk hF
    refine wr_call (vs := [.pointer (some ⟨tb, 0, none⟩), .int .i64 ((i : Int) + 2)]) rfl (parent_ca ((i : Int) + 2) w' (hTd.kin hk)) rfl ?_; rintro v'' w'' ⟨rfl, rfl⟩; rw [hpar]
    apply wr_nil
    exact ⟨rfl, Keeps.refl _ _⟩
  focus (intro x y h; rfl)
  focus kernel_rfl
  apply chP_pure
  focus
    intro x w' hk hF
    (repeat first | (apply wr_move; exact rfl; with_reducible (conv => enter [6, 3]; whnf)) | (apply wr_nil; try simp only [thenE, inBlockE, bodyQ]))
    exact ⟨rfl, Keeps.refl _ _⟩
  focus (intro x y h; rfl)
  focus kernel_rfl
  apply chP_pure
  focus
    intro x w' hk hF
    refine wr_remN (n := tt) (m := 21) rfl rfl rfl (by decide) ?_; rw [← hRe]
    apply wr_nil
    exact ⟨rfl, Keeps.refl _ _⟩
  focus (intro x y h; rfl)
  focus kernel_rfl
  apply chP_pure
  focus
    intro x w' hk hF
    (repeat first | (apply wr_conv; (iterate 2 exact rfl); exact w_fit (by dsimp only [kIn]; first | done | omega)) | (apply wr_nil; try simp only [thenE, inBlockE, bodyQ]))
    exact ⟨rfl, Keeps.refl _ _⟩
  focus (intro x y h; rfl)
  focus kernel_rfl
  apply chP_pure
  focus
    intro x w' hk hF
    (repeat first | (apply wr_move; exact rfl; with_reducible (conv => enter [6, 3]; whnf)) | (apply wr_nil; try simp only [thenE, inBlockE, bodyQ]))
    exact ⟨rfl, Keeps.refl _ _⟩
  focus (intro x y h; rfl)
  focus kernel_rfl
  apply chP_pure
  focus
    intro x w' hk hF
    refine wr_remN (n := R) (m := i) rfl rfl rfl (by omega) ?_; rw [← hrR]
    apply wr_nil
    exact ⟨rfl, Keeps.refl _ _⟩
  focus (intro x y h; rfl)
  focus kernel_rfl
  apply chP_pure
  focus
    intro x w' hk hF
    (repeat first | (apply wr_add; (iterate 3 exact rfl); exact w_fit (by dsimp only [kIn]; first | done | omega)) | (apply wr_nil; try simp only [thenE, inBlockE, bodyQ]))
    exact ⟨rfl, Keeps.refl _ _⟩
  focus (intro x y h; rfl)
  focus kernel_rfl
  apply chP_pure
  focus
    intro x w' hk hF
    (repeat first | (apply wr_cmp; (iterate 3 exact rfl); exact cmpT (by dsimp only [cmpP]; first | done | omega)) | (apply wr_nil; try simp only [thenE, inBlockE, bodyQ]))
    exact ⟨rfl, Keeps.refl _ _⟩
  focus (intro x y h; rfl)
  focus kernel_rfl
  apply chP_pure
  focus
    intro x w' hk hF
    (repeat first | (apply wr_pick (t := true); (iterate 2 exact rfl); with_reducible (conv => enter [6, 3]; whnf)) | (apply wr_nil; try simp only [thenE, inBlockE, bodyQ]))
    exact ⟨rfl, Keeps.refl _ _⟩
  focus (intro x y h; rfl)
  focus kernel_rfl
  apply chP_pure
  focus
    intro x w' hk hF
    (repeat first | (apply wr_move; exact rfl; with_reducible (conv => enter [6, 3]; whnf)) | (apply wr_nil; try simp only [thenE, inBlockE, bodyQ]))
    exact ⟨rfl, Keeps.refl _ _⟩
  focus (intro x y h; rfl)
  focus kernel_rfl
  apply chP_pure
  focus
    intro x w' hk hF
    (repeat first | (apply wr_move; exact rfl; with_reducible (conv => enter [6, 3]; whnf)) | (apply wr_nil; try simp only [thenE, inBlockE, bodyQ]))
    exact ⟨rfl, Keeps.refl _ _⟩
  focus (intro x y h; rfl)
  focus kernel_rfl
  apply chP_pure
  focus
    intro x w' hk hF
    (repeat first | (apply wr_move; exact rfl; with_reducible (conv => enter [6, 3]; whnf)) | (apply wr_nil; try simp only [thenE, inBlockE, bodyQ]))
    exact ⟨rfl, Keeps.refl _ _⟩
  focus (intro x y h; rfl)
  focus kernel_rfl
  apply chP_pure
  focus
    intro x w' hk hF
    (repeat first | (apply wr_move; exact rfl; with_reducible (conv => enter [6, 3]; whnf)) | (apply wr_nil; try simp only [thenE, inBlockE, bodyQ]))
    exact ⟨rfl, Keeps.refl _ _⟩
  focus (intro x y h; rfl)
  focus kernel_rfl
  apply chP_pure
  focus
    intro x w' hk hF
    refine wr_call (vs := [.pointer (some ⟨tb, 0, none⟩), .int .i64 ((i : Int) + 2)]) rfl (parent_ca ((i : Int) + 2) w' (hTd.kin hk)) rfl ?_; rintro v'' w'' ⟨rfl, rfl⟩; rw [hpar]
    apply wr_nil
    exact ⟨rfl, Keeps.refl _ _⟩
  focus (intro x y h; rfl)
  focus kernel_rfl
  refine chP_fact (fun y => y) (fun y w' => ∃ a c, y = .slice a 1 c) (fun y w w' h k => h) ?_ ?_
  focus
    intro x w' hk hF
    refine wr_call (vs := [.pointer (some ⟨tb, 0, none⟩), .int .i64 (2 + (r : Int))]) rfl (below_ca (2 + (r : Int)) w' (hTd.kin hk)) rfl ?_
    rintro v'' w'' ⟨ho'', hk'⟩
    rw [hbl] at ho''
    apply wr_nil
    exact ⟨v'', rfl, slr_cell1 (SlR.of_own ho''), hk'⟩
  apply chP_pure
  focus
    intro x w' hk hF
    obtain ⟨a', c', e'⟩ : ∃ a c, x 18 = .slice a 1 c := hF 18 (by kernel_rfl)
    refine wr_len_slice (n := 1) rfl e' ?_
    apply wr_nil
    exact ⟨rfl, Keeps.refl _ _⟩
  focus (intro x y h; rfl)
  focus kernel_rfl
  apply chP_pure
  focus
    intro x w' hk hF
    (repeat first | (apply wr_cmp; (iterate 3 exact rfl); exact cmpT (by dsimp only [cmpP]; first | done | omega)) | (apply wr_nil; try simp only [thenE, inBlockE, bodyQ]))
    exact ⟨rfl, Keeps.refl _ _⟩
  focus (intro x y h; rfl)
  focus kernel_rfl
  apply chP_pure
  focus
    intro x w' hk hF
    (repeat first | (apply wr_pick (t := true); (iterate 2 exact rfl); with_reducible (conv => enter [6, 3]; whnf)) | (apply wr_nil; try simp only [thenE, inBlockE, bodyQ]))
    exact ⟨rfl, Keeps.refl _ _⟩
  focus (intro x y h; rfl)
  focus kernel_rfl
  refine chP_nil ?_
  intro x w8 hk8 hF
  apply wr_assign
  exact rfl
  apply wr_end
  (repeat first | (apply wc_ret; try simp only [thenE, inBlockE, bodyQ]))
  have hk18 : Keeps NoB w1 w8 := (Keeps.trans' (hk15.trans hk6) hk7 (fun b hb h => by have := hfr b h; have := hk15.size; omega)).trans ((Keeps.refl NoB w7).drew.trans hk8)
  exact leave1 (v := .bool true) rfl rfl ⟨rfl, hk1.trans hk18⟩
end Go.Proofs.YthjpgkefifkhjaaDoor
