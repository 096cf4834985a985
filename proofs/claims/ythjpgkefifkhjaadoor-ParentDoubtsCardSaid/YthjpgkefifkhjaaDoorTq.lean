/- ParentTold: the walk. -/
import Derived.Test.YthjpgkefifkhjaaDoorTp
namespace Go.Proofs.YthjpgkefifkhjaaDoor
open Go Go.V Go.RowKit
set_option linter.unusedVariables false
set_option linter.unusedSimpArgs false

theorem parT_nat {T : List ND} {k : Nat} (h1 : 1 ≤ k) (h2 : k < T.length) : parT T (k : Int) = parAt T k := by
  have h : inT T k := by unfold inT; omega
  unfold parT
  rw [if_pos h]
  rfl
theorem fallF_wf {T : List ND} {X : List NL} (h : WFT T X) (id : Int) : WFT (fallF T id) X ∧ (fallF T id).length = T.length := by
  unfold fallF
  split
  · rename_i hc
    have := hc.1
    exact fallT_wf h (by unfold inT at this; omega)
  · exact ⟨h, rfl⟩
theorem riseF_wf {T : List ND} {X : List NL} (h : WFT T X) (id : Int) : WFT (riseF T id) X ∧ (riseF T id).length = T.length := by
  unfold riseF
  split
  · rename_i hc
    have := hc.1
    exact riseT_wf h (by unfold inT at this; omega)
  · exact ⟨h, rfl⟩
theorem IN_get {l : List Nat} {i k : Nat} (h : l[i]? = some k) : (IN l)[i]? = some (.int .i64 (k : Int)) := by simp [IN, h]
theorem slr_ints' {w : World} {a : Option Addr} {c : Nat} {l : List Nat} (h : SlR w 1 (.slice a l.length c) l.length (IN l)) : True ∧ l.length ≤ c ∧ (0 < l.length → ∃ b o, a = some ⟨b, o, none⟩ ∧ ∃ cur e fr, w.heap[b]? = some (.cells cur e fr) ∧ ∀ i k, l[i]? = some k → cur[o + i]? = some (.int .i64 ((k : Nat) : Int))) := by
  obtain ⟨a', c', he, hc, hat⟩ := h.shape
  cases he
  refine ⟨trivial, hc, fun h0 => ?_⟩
  obtain ⟨b, o, e, cur, et, fr, hb, hr⟩ := hat h0
  refine ⟨b, o, e, cur, et, fr, hb, fun i k hi => ?_⟩
  have := (List.getElem?_eq_some_iff.1 hi).1
  rw [hr i (by omega)]
  exact IN_get hi
set_option maxRecDepth 100000 in
set_option maxHeartbeats 8000000 in
theorem told_law (ss : List SK) (sl : Value) (ds : List DK) (dl : Value) (w : World) (hsl : SlR w 2 sl ss.length (ss.flatMap GS)) (hok : ∀ x ∈ ss, SKok w x)
    (hdl : SlR w 4 dl ds.length (ds.flatMap GD)) (hd : ∀ x ∈ ds, x.kind < 256) :
    Ca Tryd.prog 4 #[sl, dl] w fun v w' => v = .bool true ∧ Keeps NoB w w' := by
  refine ca_of_body (args := [sl, dl]) Tryd.func4 rfl (by kernel_rfl) ?_
  (repeat first | (apply wr_assign; exact rfl; with_reducible (conv => enter [6, 3]; whnf)) | apply wr_end | apply wc_seq | apply wc_region)
  refine wr_call (vs := []) rfl (examples_ca w) rfl ?_
  rintro v w1 ⟨rfl, hk1⟩
  (repeat first | (apply wr_move; exact rfl; with_reducible (conv => enter [6, 3]; whnf)) | (apply wr_assign; exact rfl; with_reducible (conv => enter [6, 3]; whnf)) | apply wr_end | apply wc_seq | apply wc_region | apply wc_skip | (apply wr_not; iterate 2 exact rfl) | (apply wc_false; exact rfl))
  refine wr_call (vs := [sl]) rfl (drawn_ca ss sl w1 (hsl.keep hk1 (fun _ _ h => h)) (fun x hx => (hok x hx).keep hk1)) rfl ?_
  rintro nv w2 ⟨N, gs, hD, ho2, hg2, hcv2, hk2⟩
  have hgl := hg2.len
  have hN1 := hD.one
  have hN12 := hD.le
  have hNb : ∀ n ∈ N, n.2.length ≤ 1000000 ∧ ∀ c ∈ n.2, i64B c := fun n hn => by
    obtain ⟨j, hj⟩ := List.getElem?_of_mem hn
    by_cases h0 : j = 0
    · subst h0
      rw [hD.root] at hj
      cases hj
      exact ⟨Nat.zero_le _, fun c hc => nomatch hc⟩
    · obtain ⟨_, h2, _, h4⟩ := hD.ok j n (by omega) hj
      have hjl := (List.getElem?_eq_some_iff.1 hj).1
      exact ⟨by omega, fun c hc => by have := h4 c hc; unfold i64B; omega⟩
  have hnk : ∀ k, nv.ownBlock = some k → w1.heap.size ≤ k := fun k hk => own_ge ho2 hk
  have hnlt : ∀ k, nv.ownBlock = some k → k < w2.heap.size := fun k hk => (ho2.lt k hk).2
  obtain ⟨av, cv, env, hcv, hav⟩ := (SlR.of_own ho2).shape
  subst env
  (repeat first | (apply wr_move; exact rfl; with_reducible (conv => enter [6, 3]; whnf)) | (apply wr_assign; exact rfl; with_reducible (conv => enter [6, 3]; whnf)) | apply wr_end | apply wc_seq | apply wc_region)
  refine wr_call (vs := [.slice av gs.length cv]) rfl (new_ca N gs (.slice av gs.length cv) (by omega) hNb w2 (SlR.of_own ho2) hg2) rfl ?_
  rintro v w3 ⟨⟨_, tb, lb, cap, X, rfl, hM⟩ | ⟨hno, _⟩, hk3⟩
  rotate_left
  · exact absurd hD.right hno
  obtain ⟨hT3, hwf3, hfr⟩ := hM
  have hkw2 : Keeps NoB w w2 := hk1.trans hk2
  have hkw3 : Keeps NoB w w3 := hkw2.trans hk3
  have hl3 := newT_len N
  obtain ⟨ad, cd, rfl, hcd, hatd⟩ := hdl.shape
  (repeat first | (apply wr_move; exact rfl; with_reducible (conv => enter [6, 3]; whnf)) | (apply wr_assign; exact rfl; with_reducible (conv => enter [6, 3]; whnf)) | apply wr_end | apply wc_seq | apply wc_region | (apply wr_extract; (iterate 3 exact rfl); with_reducible (conv => enter [6, 3]; whnf)))
  refine wr_ptrNil rfl rfl ?_
  conv => enter [6, 3]; whnf
  (repeat first | (apply wr_move; exact rfl; with_reducible (conv => enter [6, 3]; whnf)) | (apply wr_assign; exact rfl; with_reducible (conv => enter [6, 3]; whnf)) | apply wr_end | apply wc_seq | apply wc_region | apply wc_skip | apply wc_block | (apply wr_cmp; (iterate 3 exact rfl); exact cmpF (by dsimp only [cmpN]; first | done | omega)) | (apply wr_pick (t := false); (iterate 2 exact rfl); with_reducible (conv => enter [6, 3]; whnf)) | (apply wc_false; exact rfl))
  refine wc_loopL (α := Nat) (fun i => [(1, .slice ad ds.length cd), (5, .bool true), (6, .slice av gs.length cv), (7, .pointer (some ⟨tb, 0, none⟩)), (9, .int .i64 (i : Int))])
    (fun i ds' w' => ds' = [] ∧ i ≤ ds.length ∧ i ≤ 30 ∧ ∃ T, T.length = N.length + 1 ∧ TreeAt w' tb lb cap T X ∧ WFT T X ∧ Z0 T ∧ Keeps (TD X) w3 w') (fun i => 30 - i) 0
    ⟨rfl, Nat.zero_le _, Nat.zero_le _, newT N, hl3, hT3, hwf3, newT_Z N, Keeps.refl _ _⟩ ⟨rfl, rfl, rfl, rfl, rfl, trivial⟩ ?_
  rintro i ds' f0 w4 ⟨rfl, hi, hi30, T, hTl, hT4, hwf4, hZ, hk4⟩
  by_cases hlt : i < ds.length
  rotate_left
  · skip
    (repeat first | (apply wr_move; exact rfl; with_reducible (conv => enter [6, 3]; whnf)) | apply wr_end | apply wc_seq | apply wc_region | (apply wr_len_slice; iterate 2 exact rfl) | (apply wr_cmp; (iterate 3 exact rfl); exact cmpF (by dsimp only [cmpN]; first | done | omega)) | (apply wr_pick (t := false); (iterate 2 exact rfl); with_reducible (conv => enter [6, 3]; whnf)) | (apply wc_false; exact rfl) | (apply wc_exit; try simp only [thenE, inBlockE, bodyQ, ↓reduceIte, Nat.reduceEqDiff]) | (apply wr_skip; exact rfl))
    refine wr_call (vs := [.pointer (some ⟨tb, 0, none⟩), .int .i64 0]) rfl (parent_ca 0 w4 hT4) rfl ?_
    rintro v w5 ⟨rfl, rfl⟩
    rw [show parT T 0 = 0 from if_neg (by unfold inT; omega)]
    (repeat first | (apply wr_move; exact rfl; with_reducible (conv => enter [6, 3]; whnf)) | (apply wr_len_slice; iterate 2 exact rfl) | (apply wr_cmp; (iterate 3 exact rfl); exact cmpT (by dsimp only [cmpP]; first | done | omega)) | (apply wr_pick (t := true); (iterate 2 exact rfl); with_reducible (conv => enter [6, 3]; whnf)) | (apply wr_add; (iterate 3 exact rfl); exact w_fit (by dsimp only [kIn]; first | done | omega)))
    refine wr_call (vs := [.pointer (some ⟨tb, 0, none⟩), .int .i64 ((gs.length : Int) + 1)]) rfl (parent_ca ((gs.length : Int) + 1) w5 hT4) rfl ?_
    rintro v w6 ⟨rfl, rfl⟩
    rw [show parT T ((gs.length : Int) + 1) = 0 from if_neg (by unfold inT; omega)]
    (repeat first | (apply wr_move; exact rfl; with_reducible (conv => enter [6, 3]; whnf)) | (apply wr_cmp; (iterate 3 exact rfl); exact cmpT (by dsimp only [cmpP]; first | done | omega)) | (apply wr_pick (t := true); (iterate 2 exact rfl); with_reducible (conv => enter [6, 3]; whnf)))
    refine wr_call (vs := [.pointer (some ⟨tb, 0, none⟩), .int .i64 0]) rfl (below_ca 0 w6 hT4) rfl ?_
    rintro v w7 ⟨ho7, hk7⟩
    have hbn : belowN T 0 T.length = [] := by unfold belowN; rw [List.filter_eq_nil_iff]; simp
    rw [hbn] at ho7
    obtain ⟨ab, cb, rfl⟩ := slr_cell1 (SlR.of_own ho7)
    have hkw24 : Keeps NoB w2 w6 := Keeps.trans' hk3 hk4 (fun k hk h => by have := hfr k h; omega)
    (repeat first | (apply wr_assign; exact rfl; with_reducible (conv => enter [6, 3]; whnf)) | apply wr_end | (apply wr_len_slice; iterate 2 exact rfl) | (apply wr_cmp; (iterate 3 exact rfl); exact cmp_eq _ _) | (apply wr_pick (t := true); (iterate 2 exact rfl); with_reducible (conv => enter [6, 3]; whnf)) | (apply wc_ret; try simp only [thenE, inBlockE, bodyQ]))
    exact leave1 (v := .bool true) rfl rfl ⟨rfl, hkw2.trans (hkw24.trans hk7)⟩
  by_cases hlt2 : i < 30
  rotate_left
  · skip
    (repeat first | (apply wr_move; exact rfl; with_reducible (conv => enter [6, 3]; whnf)) | apply wr_end | apply wc_seq | apply wc_region | (apply wr_len_slice; iterate 2 exact rfl) | (apply wr_cmp; (iterate 3 exact rfl); exact cmpT (by dsimp only [cmpP]; first | done | omega)) | (apply wr_cmp; (iterate 3 exact rfl); exact cmpF (by dsimp only [cmpN]; first | done | omega)) | (apply wr_pick (t := true); (iterate 2 exact rfl); with_reducible (conv => enter [6, 3]; whnf)) | (apply wc_false; exact rfl) | (apply wc_exit; try simp only [thenE, inBlockE, bodyQ, ↓reduceIte, Nat.reduceEqDiff]))
    refine wr_call (vs := [.pointer (some ⟨tb, 0, none⟩), .int .i64 0]) rfl (parent_ca 0 w4 hT4) rfl ?_
    rintro v w5 ⟨rfl, rfl⟩
    rw [show parT T 0 = 0 from if_neg (by unfold inT; omega)]
    (repeat first | (apply wr_move; exact rfl; with_reducible (conv => enter [6, 3]; whnf)) | (apply wr_len_slice; iterate 2 exact rfl) | (apply wr_cmp; (iterate 3 exact rfl); exact cmpT (by dsimp only [cmpP]; first | done | omega)) | (apply wr_pick (t := true); (iterate 2 exact rfl); with_reducible (conv => enter [6, 3]; whnf)) | (apply wr_add; (iterate 3 exact rfl); exact w_fit (by dsimp only [kIn]; first | done | omega)))
    refine wr_call (vs := [.pointer (some ⟨tb, 0, none⟩), .int .i64 ((gs.length : Int) + 1)]) rfl (parent_ca ((gs.length : Int) + 1) w5 hT4) rfl ?_
    rintro v w6 ⟨rfl, rfl⟩
    rw [show parT T ((gs.length : Int) + 1) = 0 from if_neg (by unfold inT; omega)]
    (repeat first | (apply wr_move; exact rfl; with_reducible (conv => enter [6, 3]; whnf)) | (apply wr_cmp; (iterate 3 exact rfl); exact cmpT (by dsimp only [cmpP]; first | done | omega)) | (apply wr_pick (t := true); (iterate 2 exact rfl); with_reducible (conv => enter [6, 3]; whnf)))
    refine wr_call (vs := [.pointer (some ⟨tb, 0, none⟩), .int .i64 0]) rfl (below_ca 0 w6 hT4) rfl ?_
    rintro v w7 ⟨ho7, hk7⟩
    have hbn : belowN T 0 T.length = [] := by unfold belowN; rw [List.filter_eq_nil_iff]; simp
    rw [hbn] at ho7
    obtain ⟨ab, cb, rfl⟩ := slr_cell1 (SlR.of_own ho7)
    have hkw24 : Keeps NoB w2 w6 := Keeps.trans' hk3 hk4 (fun k hk h => by have := hfr k h; omega)
    (repeat first | (apply wr_assign; exact rfl; with_reducible (conv => enter [6, 3]; whnf)) | apply wr_end | (apply wr_len_slice; iterate 2 exact rfl) | (apply wr_cmp; (iterate 3 exact rfl); exact cmp_eq _ _) | (apply wr_pick (t := true); (iterate 2 exact rfl); with_reducible (conv => enter [6, 3]; whnf)) | (apply wc_ret; try simp only [thenE, inBlockE, bodyQ]))
    exact leave1 (v := .bool true) rfl rfl ⟨rfl, hkw2.trans (hkw24.trans hk7)⟩
  obtain ⟨b, o, rfl, cur, e, fr, hb, hr⟩ := hatd (by omega)
  obtain ⟨x, hx⟩ : ∃ x, ds[i]? = some x := ⟨ds[i], by simp [hlt]⟩
  have hx1 := hd x (List.mem_of_getElem? hx)
  have hTDb : ∀ k, TD X k → w2.heap.size ≤ k := hfr
  have hkw24 : Keeps NoB w2 w4 := Keeps.trans' hk3 hk4 (fun k hk h => by have := hfr k h; omega)
  have hb4 : w4.heap[b]? = some (.cells cur e fr) := hkw24.heap (hkw2.heap hb (fun h => h)) (fun h => h)
  have hv0 : cur[o + i * 4 + 0]? = some (.int .u8 (x.kind : Int)) := cell_elem (g := GD) (k := 4) (n := ds.length) (i := i) (j := 0) GD_len hr hlt hx rfl
  have hv1 : cur[o + i * 4 + 1]? = some (.int .i64 x.id) := cell_elem (g := GD) (k := 4) (n := ds.length) (i := i) (j := 1) GD_len hr hlt hx rfl
  obtain ⟨u, hu, hub⟩ := wrap_nat x.id
  (repeat first | (apply wr_move; exact rfl; with_reducible (conv => enter [6, 3]; whnf)) | apply wr_end | apply wc_seq | apply wc_region | apply wc_skip | apply wc_block | (apply wr_len_slice; iterate 2 exact rfl) | (apply wr_cmp; (iterate 3 exact rfl); exact cmpT (by dsimp only [cmpP]; first | done | omega)) | (apply wr_pick (t := true); (iterate 2 exact rfl); with_reducible (conv => enter [6, 3]; whnf)) | (apply wc_true; exact rfl))
  refine wr_indexAddr (i := i) rfl rfl rfl hlt ?_
  refine wr_fieldAddr rfl rfl ?_
  refine wr_load (v := .int .i64 x.id) rfl rfl rfl hb4 hv1 ?_
  refine wr_conv (c := (u : Int)) rfl rfl hu ?_
  (repeat first | (apply wr_move; exact rfl; with_reducible (conv => enter [6, 3]; whnf)) | (apply wr_len_slice; iterate 2 exact rfl) | (apply wr_add; (iterate 3 exact rfl); exact w_fit (by dsimp only [kIn]; first | done | omega)) | (apply wr_conv; (iterate 2 exact rfl); exact w_fit (by dsimp only [kIn]; first | done | omega)))
  refine wr_remN (n := u) (m := gs.length + 3) rfl rfl rfl (by omega) ?_
  have hm4 : u % (gs.length + 3) < gs.length + 3 := Nat.mod_lt _ (by omega)
  generalize u % (gs.length + 3) = id at hm4
  (repeat first | (apply wr_move; exact rfl; with_reducible (conv => enter [6, 3]; whnf)) | (apply wr_assign; exact rfl; with_reducible (conv => enter [6, 3]; whnf)) | apply wr_end | apply wc_seq | apply wc_region | (apply wr_len_slice; iterate 2 exact rfl) | (apply wr_add; (iterate 3 exact rfl); exact w_fit (by dsimp only [kIn]; first | done | omega)) | (apply wr_conv; (iterate 2 exact rfl); exact w_fit (by dsimp only [kIn]; first | done | omega)))
  refine wr_makeN (n := gs.length + 1) w4.heap.size rfl rfl rfl rfl rfl (by omega) (by omega) (Nat.le_refl _) ?_
  intro v' w5 ho5 hk5 _
  (repeat first | (apply wr_assign; exact rfl; with_reducible (conv => enter [6, 3]; whnf)) | apply wr_end | apply wc_seq | apply wc_region | apply wc_block)
  rcases ho5 with ⟨_, ⟨h0, h00⟩ | ⟨ob, oc, co, rfl, hob, hbo, hoc, hom, hocs, _⟩⟩
  · omega
  refine wc_loopL (α := Nat) (fun k => [(1, .slice (some ⟨b, o, none⟩) ds.length cd), (5, .bool true), (6, .slice av gs.length cv), (7, .pointer (some ⟨tb, 0, none⟩)), (9, .int .i64 (i : Int)), (10, .int .i64 (id : Int)), (11, .slice (some ⟨ob, 0, none⟩) (gs.length + 1) oc), (12, .int .i64 (k : Int))])
    (fun k ds' w' => ds' = [] ∧ 1 ≤ k ∧ k ≤ gs.length + 1 ∧ (∃ co, w'.heap[ob]? = some (.cells co 3 (0, 0)) ∧ gs.length + 1 ≤ co.size ∧ ∀ j, 1 ≤ j → j < k → co[j]? = some (.int .i64 (parAt T j))) ∧ Keeps (· = ob) w5 w') (fun k => gs.length + 1 - k) 1
    ⟨rfl, Nat.le_refl _, by omega, ⟨co, hbo, by omega, fun j h1 h2 => by omega⟩, Keeps.refl _ _⟩ ⟨rfl, rfl, rfl, rfl, rfl, rfl, rfl, rfl, trivial⟩ ?_
  rintro k ds' f1 w6 ⟨rfl, hk1', hk2', ⟨co', hbo6, hco6, hcj⟩, hk6⟩
  have hkn6 : Keeps NoB w4 w6 := Keeps.trans' hk5 hk6 (fun j hj e => by omega)
  have hT6 := hT4.kin hkn6
  by_cases hkl : k ≤ gs.length
  · have hpt : parT T (k : Int) = parAt T k := parT_nat hk1' (by omega)
    obtain ⟨old, hold⟩ : ∃ u, co'[k]? = some u := ⟨co'[k]'(by omega), by simp [show k < co'.size by omega]⟩
    (repeat first | (apply wr_move; exact rfl; with_reducible (conv => enter [6, 3]; whnf)) | apply wr_end | apply wc_seq | apply wc_region | apply wc_skip | apply wc_block | (apply wr_len_slice; iterate 2 exact rfl) | (apply wr_cmp; (iterate 3 exact rfl); exact cmpT (by dsimp only [cmpP]; first | done | omega)) | (apply wc_true; exact rfl))
    refine wr_call (vs := [.pointer (some ⟨tb, 0, none⟩), .int .i64 (k : Int)]) rfl (parent_ca (k : Int) w6 hT6) rfl ?_
    rintro v w7 ⟨rfl, rfl⟩
    rw [hpt]
    refine wr_indexAddr (i := k) rfl rfl rfl (by omega) ?_
    refine wr_store (v := .int .i64 (parAt T k)) rfl rfl rfl rfl hbo6 (by rw [Nat.mul_one, Nat.zero_add]; exact hold) ?_
    obtain ⟨w8, hw8⟩ : ∃ w8, w8 = w7.putObj ob (.cells (co'.setIfInBounds (0 + k * 1) (.int .i64 (parAt T k))) 3 (0, 0)) := ⟨_, rfl⟩
    have hk78 : Keeps (· = ob) w7 w8 := by rw [hw8]; exact (Keeps.refl _ _).put _ (fun _ => rfl)
    have hc8 : w8.heap[ob]? = some (.cells (co'.setIfInBounds k (.int .i64 (parAt T k))) 3 (0, 0)) := by rw [hw8, World.putObj_heap_same (lt_of_heap hbo6)]; simp
    rw [← hw8]
    clear hw8
    (repeat first | (apply wr_move; exact rfl; with_reducible (conv => enter [6, 3]; whnf)) | (apply wr_assign; exact rfl; with_reducible (conv => enter [6, 3]; whnf)) | apply wr_end | apply wc_region | (apply wr_add; (iterate 3 exact rfl); exact w_fit (by dsimp only [kIn]; first | done | omega)) | (apply wr_nil; try simp only [thenE, inBlockE, bodyQ]))
    exact ⟨k + 1, by omega, ⟨by trivial, by omega, by omega, ⟨_, hc8, by simpa using hco6, fun j h1 h2 => by
      by_cases hjk : k = j
      · subst hjk; rw [Array.getElem?_setIfInBounds_self_of_lt (by omega)]
      · rw [Array.getElem?_setIfInBounds_ne hjk]; exact hcj j h1 (by omega)⟩, hk6.trans hk78⟩, rfl, rfl, rfl, rfl, rfl, rfl, rfl, by simp, trivial⟩
  have hke : k = gs.length + 1 := by omega
  subst hke
  (repeat first | (apply wr_move; exact rfl; with_reducible (conv => enter [6, 3]; whnf)) | apply wr_end | apply wc_seq | apply wc_region | (apply wr_len_slice; iterate 2 exact rfl) | (apply wr_cmp; (iterate 3 exact rfl); exact cmpF (by dsimp only [cmpN]; first | done | omega)) | (apply wc_false; exact rfl) | (apply wc_exit; try simp only [thenE, inBlockE, bodyQ, ↓reduceIte, Nat.reduceEqDiff]))
  refine wr_call (vs := [.pointer (some ⟨tb, 0, none⟩), .int .i64 (id : Int)]) rfl (up_ca (id : Int) w6 hT6) rfl ?_
  rintro v w7 ⟨rfl, rfl⟩
  apply wr_assign
  exact rfl
  apply wr_end
  apply wc_seq
  apply wc_region
  apply wr_assign
  exact rfl
  apply wr_end
  apply wc_seq
  refine wc_cut (fun ds' f' w' => ds' = [] ∧ ∃ T' ta tc, T'.length = N.length + 1 ∧ TreeAt w' tb lb cap T' X ∧ WFT T' X ∧ Z0 T' ∧ SlR w' 1 (.slice ta (turnN T T' (gs.length + 1)).length tc) (turnN T T' (gs.length + 1)).length (IN (turnN T T' (gs.length + 1))) ∧ Keeps (TD X) w7 w' ∧
    Slots f' [(1, .slice (some ⟨b, o, none⟩) ds.length cd), (5, .bool true), (6, .slice av gs.length cv), (7, .pointer (some ⟨tb, 0, none⟩)), (9, .int .i64 (i : Int)), (11, .slice (some ⟨ob, 0, none⟩) (gs.length + 1) oc), (14, .slice ta (turnN T T' (gs.length + 1)).length tc)]) ?_ ?_
  · have eTl : T.length = gs.length + 1 := by omega
    have hb7 := hkn6.heap hb4 (fun h => h)
    (repeat first | (apply wr_move; exact rfl; with_reducible (conv => enter [6, 3]; whnf)) | apply wc_seq | apply wc_region)
    refine wr_indexAddr (i := i) rfl rfl rfl hlt ?_
    refine wr_fieldAddr rfl rfl ?_
    refine wr_load (v := .int .u8 (x.kind : Int)) rfl rfl rfl hb7 hv0 ?_
    refine wr_remN (n := x.kind) (m := 2) rfl rfl rfl (by decide) ?_
    have hm2 : x.kind % 2 < 2 := Nat.mod_lt _ (by decide)
    generalize x.kind % 2 = q at hm2
    by_cases hq : q = 0
    · (repeat first | (apply wr_move; exact rfl; with_reducible (conv => enter [6, 3]; whnf)) | apply wr_end | apply wc_seq | apply wc_region | (apply wr_cmp; (iterate 3 exact rfl); exact cmpT (by dsimp only [cmpP]; first | done | omega)) | (apply wc_true; exact rfl))
      refine wr_call (vs := [.pointer (some ⟨tb, 0, none⟩), .int .i64 (id : Int)]) rfl (fall_ca (id : Int) w7 hT6 hwf4) rfl ?_
      rintro tv w8 ⟨ho8, hT8, hk8⟩
      rw [eTl] at ho8
      have hsl8 := SlR.of_own ho8
      obtain ⟨ta, tc, rfl⟩ := slr_cell1 hsl8
      have hno : ¬ (inT T id ∧ (id : Int) ≠ 1 ∧ upT T id = true) → (turnN T (fallF T id) (gs.length + 1)).length = 0 := fun h => by
        rw [show fallF T id = T from if_neg h, turnN_same]; rfl
      by_cases c1 : id ≤ 1
      · have hz := hno (fun h => by have := h.1; unfold inT at this; have := h.2.1; omega)
        (repeat first | (apply wr_move; exact rfl; with_reducible (conv => enter [6, 3]; whnf)) | (apply wr_assign; exact rfl; with_reducible (conv => enter [6, 3]; whnf)) | apply wr_end | apply wc_seq | apply wc_region | apply wc_skip | (apply wr_len_slice; iterate 2 exact rfl) | (apply wr_cmp; (iterate 3 exact rfl); exact cmpT (by dsimp only [cmpP]; first | done | omega)) | (apply wr_cmp; (iterate 3 exact rfl); exact cmpF (by dsimp only [cmpN]; first | done | omega)) | (apply wr_pick (t := true); (iterate 2 exact rfl); with_reducible (conv => enter [6, 3]; whnf)) | (apply wc_false; exact rfl) | (apply wr_skip; exact rfl))
        exact ⟨by trivial, fallF T id, ta, tc, by rw [(fallF_wf hwf4 id).2, hTl], hT8, (fallF_wf hwf4 id).1, hZ.fall id, hsl8, hk8, rfl, rfl, rfl, rfl, rfl, rfl, rfl, trivial⟩
      by_cases c2 : gs.length < id
      · have hz := hno (fun h => by have := h.1; unfold inT at this; omega)
        (repeat first | (apply wr_move; exact rfl; with_reducible (conv => enter [6, 3]; whnf)) | (apply wr_assign; exact rfl; with_reducible (conv => enter [6, 3]; whnf)) | apply wr_end | apply wc_seq | apply wc_region | apply wc_skip | (apply wr_len_slice; iterate 2 exact rfl) | (apply wr_cmp; (iterate 3 exact rfl); exact cmpT (by dsimp only [cmpP]; first | done | omega)) | (apply wr_cmp; (iterate 3 exact rfl); exact cmpF (by dsimp only [cmpN]; first | done | omega)) | (apply wr_pick (t := true); (iterate 2 exact rfl); with_reducible (conv => enter [6, 3]; whnf)) | (apply wr_pick (t := false); (iterate 2 exact rfl); with_reducible (conv => enter [6, 3]; whnf)) | (apply wc_false; exact rfl) | (apply wr_skip; exact rfl))
        exact ⟨by trivial, fallF T id, ta, tc, by rw [(fallF_wf hwf4 id).2, hTl], hT8, (fallF_wf hwf4 id).1, hZ.fall id, hsl8, hk8, rfl, rfl, rfl, rfl, rfl, rfl, rfl, trivial⟩
      by_cases c3 : upT T id = true
      · rw [c3]
        (repeat first | (apply wr_move; exact rfl; with_reducible (conv => enter [6, 3]; whnf)) | (apply wr_assign; exact rfl; with_reducible (conv => enter [6, 3]; whnf)) | apply wr_end | apply wc_seq | apply wc_region | apply wc_skip | (apply wr_not; iterate 2 exact rfl) | (apply wr_len_slice; iterate 2 exact rfl) | (apply wr_cmp; (iterate 3 exact rfl); exact cmpF (by dsimp only [cmpN]; first | done | omega)) | (apply wr_pick (t := false); (iterate 2 exact rfl); with_reducible (conv => enter [6, 3]; whnf)) | (apply wc_false; exact rfl) | (apply wr_skip; exact rfl))
        exact ⟨by trivial, fallF T id, ta, tc, by rw [(fallF_wf hwf4 id).2, hTl], hT8, (fallF_wf hwf4 id).1, hZ.fall id, hsl8, hk8, rfl, rfl, rfl, rfl, rfl, rfl, rfl, trivial⟩
      · have hz := hno (fun h => c3 h.2.2)
        rw [Bool.not_eq_true] at c3
        rw [c3]
        (repeat first | (apply wr_move; exact rfl; with_reducible (conv => enter [6, 3]; whnf)) | (apply wr_assign; exact rfl; with_reducible (conv => enter [6, 3]; whnf)) | apply wr_end | apply wc_seq | apply wc_region | apply wc_skip | (apply wr_not; iterate 2 exact rfl) | (apply wr_len_slice; iterate 2 exact rfl) | (apply wr_cmp; (iterate 3 exact rfl); exact cmpF (by dsimp only [cmpN]; first | done | omega)) | (apply wr_pick (t := true); (iterate 2 exact rfl); with_reducible (conv => enter [6, 3]; whnf)) | (apply wr_pick (t := false); (iterate 2 exact rfl); with_reducible (conv => enter [6, 3]; whnf)) | (apply wc_false; exact rfl))
        exact ⟨by trivial, fallF T id, ta, tc, by rw [(fallF_wf hwf4 id).2, hTl], hT8, (fallF_wf hwf4 id).1, hZ.fall id, hsl8, hk8, rfl, rfl, rfl, rfl, rfl, rfl, rfl, trivial⟩
    · (repeat first | (apply wr_move; exact rfl; with_reducible (conv => enter [6, 3]; whnf)) | apply wr_end | apply wc_seq | apply wc_region | (apply wr_cmp; (iterate 3 exact rfl); exact cmpF (by dsimp only [cmpN]; first | done | omega)) | (apply wc_false; exact rfl))
      refine wr_call (vs := [.pointer (some ⟨tb, 0, none⟩), .int .i64 (id : Int)]) rfl (rise_ca (id : Int) w7 hT6 hwf4) rfl ?_
      rintro tv w8 ⟨ho8, hT8, hk8⟩
      rw [eTl] at ho8
      have hsl8 := SlR.of_own ho8
      obtain ⟨ta, tc, rfl⟩ := slr_cell1 hsl8
      have hno : ¬ (inT T id ∧ upT T id = false) → (turnN T (riseF T id) (gs.length + 1)).length = 0 := fun h => by
        rw [show riseF T id = T from if_neg h, turnN_same]; rfl
      by_cases c1 : id < 1
      · have hz := hno (fun h => by have := h.1; unfold inT at this; omega)
        (repeat first | (apply wr_move; exact rfl; with_reducible (conv => enter [6, 3]; whnf)) | (apply wr_assign; exact rfl; with_reducible (conv => enter [6, 3]; whnf)) | apply wr_end | apply wc_seq | apply wc_region | apply wc_skip | (apply wr_len_slice; iterate 2 exact rfl) | (apply wr_cmp; (iterate 3 exact rfl); exact cmpT (by dsimp only [cmpP]; first | done | omega)) | (apply wr_cmp; (iterate 3 exact rfl); exact cmpF (by dsimp only [cmpN]; first | done | omega)) | (apply wr_pick (t := true); (iterate 2 exact rfl); with_reducible (conv => enter [6, 3]; whnf)) | (apply wc_false; exact rfl) | (apply wr_skip; exact rfl))
        exact ⟨by trivial, riseF T id, ta, tc, by rw [(riseF_wf hwf4 id).2, hTl], hT8, (riseF_wf hwf4 id).1, hZ.rise id, hsl8, hk8, rfl, rfl, rfl, rfl, rfl, rfl, rfl, trivial⟩
      by_cases c2 : gs.length < id
      · have hz := hno (fun h => by have := h.1; unfold inT at this; omega)
        (repeat first | (apply wr_move; exact rfl; with_reducible (conv => enter [6, 3]; whnf)) | (apply wr_assign; exact rfl; with_reducible (conv => enter [6, 3]; whnf)) | apply wr_end | apply wc_seq | apply wc_region | apply wc_skip | (apply wr_len_slice; iterate 2 exact rfl) | (apply wr_cmp; (iterate 3 exact rfl); exact cmpT (by dsimp only [cmpP]; first | done | omega)) | (apply wr_cmp; (iterate 3 exact rfl); exact cmpF (by dsimp only [cmpN]; first | done | omega)) | (apply wr_pick (t := true); (iterate 2 exact rfl); with_reducible (conv => enter [6, 3]; whnf)) | (apply wr_pick (t := false); (iterate 2 exact rfl); with_reducible (conv => enter [6, 3]; whnf)) | (apply wc_false; exact rfl) | (apply wr_skip; exact rfl))
        exact ⟨by trivial, riseF T id, ta, tc, by rw [(riseF_wf hwf4 id).2, hTl], hT8, (riseF_wf hwf4 id).1, hZ.rise id, hsl8, hk8, rfl, rfl, rfl, rfl, rfl, rfl, rfl, trivial⟩
      by_cases c3 : upT T id = true
      · have hz := hno (fun h => by rw [c3] at h; cases h.2)
        rw [c3]
        (repeat first | (apply wr_move; exact rfl; with_reducible (conv => enter [6, 3]; whnf)) | (apply wr_assign; exact rfl; with_reducible (conv => enter [6, 3]; whnf)) | apply wr_end | apply wc_seq | apply wc_region | apply wc_skip | (apply wr_len_slice; iterate 2 exact rfl) | (apply wr_cmp; (iterate 3 exact rfl); exact cmpF (by dsimp only [cmpN]; first | done | omega)) | (apply wr_pick (t := true); (iterate 2 exact rfl); with_reducible (conv => enter [6, 3]; whnf)) | (apply wr_pick (t := false); (iterate 2 exact rfl); with_reducible (conv => enter [6, 3]; whnf)) | (apply wc_false; exact rfl))
        exact ⟨by trivial, riseF T id, ta, tc, by rw [(riseF_wf hwf4 id).2, hTl], hT8, (riseF_wf hwf4 id).1, hZ.rise id, hsl8, hk8, rfl, rfl, rfl, rfl, rfl, rfl, rfl, trivial⟩
      · rw [Bool.not_eq_true] at c3
        rw [c3]
        (repeat first | (apply wr_move; exact rfl; with_reducible (conv => enter [6, 3]; whnf)) | (apply wr_assign; exact rfl; with_reducible (conv => enter [6, 3]; whnf)) | apply wr_end | apply wc_seq | apply wc_region | apply wc_skip | (apply wr_len_slice; iterate 2 exact rfl) | (apply wr_cmp; (iterate 3 exact rfl); exact cmpF (by dsimp only [cmpN]; first | done | omega)) | (apply wr_pick (t := false); (iterate 2 exact rfl); with_reducible (conv => enter [6, 3]; whnf)) | (apply wc_false; exact rfl) | (apply wr_skip; exact rfl))
        exact ⟨by trivial, riseF T id, ta, tc, by rw [(riseF_wf hwf4 id).2, hTl], hT8, (riseF_wf hwf4 id).1, hZ.rise id, hsl8, hk8, rfl, rfl, rfl, rfl, rfl, rfl, rfl, trivial⟩
  rintro ds' f' w8 ⟨rfl, T', ta, tc, hTl', hT8, hwf8, hZ8, htr8, hk8, hs⟩
  rw [← setL_self f' _ hs.all]
  clear hs
  (repeat first | (apply wr_assign; exact rfl; with_reducible (conv => enter [6, 3]; whnf)) | apply wr_end | apply wc_seq | apply wc_region | apply wc_block)
  have hbo8 : w8.heap[ob]? = some (.cells co' 3 (0, 0)) := hk8.heap hbo6 (hT6.notTD hbo6 (by decide))
  have hone := turnN_one T T' hZ hZ8
  obtain ⟨_, hct, hatt⟩ := slr_ints' htr8
  refine wc_loopL (α := Nat) (fun k => [(1, .slice (some ⟨b, o, none⟩) ds.length cd), (5, .bool true), (6, .slice av gs.length cv), (7, .pointer (some ⟨tb, 0, none⟩)), (9, .int .i64 (i : Int)), (11, .slice (some ⟨ob, 0, none⟩) (gs.length + 1) oc), (14, .slice ta (turnN T T' (gs.length + 1)).length tc), (15, .int .i64 ((turnN T T' k).length : Int)), (16, .int .i64 (k : Int))])
    (fun k ds' w' => ds' = [] ∧ 1 ≤ k ∧ k ≤ gs.length + 1 ∧ Keeps NoB w8 w') (fun k => gs.length + 1 - k) 1
    ⟨rfl, Nat.le_refl _, by omega, Keeps.refl _ _⟩ ⟨rfl, rfl, rfl, rfl, rfl, rfl, rfl, by rw [hone]; rfl, rfl, trivial⟩ ?_
  rintro k ds' f2 w9 ⟨rfl, hk1', hk2', hk9⟩
  have hT9 := hT8.kin hk9
  have hbo9 := hk9.heap hbo8 (fun h => h)
  by_cases hkl : k ≤ gs.length
  · have hpt : parT T' (k : Int) = parAt T' k := parT_nat hk1' (by omega)
    have hsn := turnN_snoc T T' k
    have hcv := hcj k hk1' (by omega)
    have hkd : Keeps NoB w8 w9.drew := hk9.drew
    (repeat first | (apply wr_move; exact rfl; with_reducible (conv => enter [6, 3]; whnf)) | apply wr_end | apply wc_seq | apply wc_region | apply wc_skip | apply wc_block | (apply wr_len_slice; iterate 2 exact rfl) | (apply wr_cmp; (iterate 3 exact rfl); exact cmpT (by dsimp only [cmpP]; first | done | omega)) | (apply wc_true; exact rfl))
    refine wc_drawS (l := _) (S := fun w' => w' = w9.drew) (by kernel_rfl) (by kernel_rfl) rfl ?_
    apply ch_step
    focus
      intro w' hS
      subst hS
      (repeat first | (apply wr_move; exact rfl; with_reducible (conv => enter [6, 3]; whnf)) | (apply wr_nil; try simp only [thenE, inBlockE, bodyQ]))
      exact ⟨rfl, by trivial⟩
    apply ch_step
    focus
      intro w' hS
      subst hS
      (repeat first | (apply wr_move; exact rfl; with_reducible (conv => enter [6, 3]; whnf)) | (apply wr_nil; try simp only [thenE, inBlockE, bodyQ]))
      exact ⟨rfl, by trivial⟩
    apply ch_step
    focus
      intro w' hS
      subst hS
      refine wr_call (vs := [.pointer (some ⟨tb, 0, none⟩), .int .i64 (k : Int)]) rfl (parent_ca (k : Int) _ (hT8.kin hkd)) rfl ?_
      rintro v w4 ⟨rfl, rfl⟩
      apply wr_nil
      exact ⟨rfl, rfl⟩
    apply ch_step
    focus
      intro w' hS
      subst hS
      (repeat first | (apply wr_move; exact rfl; with_reducible (conv => enter [6, 3]; whnf)) | (apply wr_nil; try simp only [thenE, inBlockE, bodyQ]))
      exact ⟨rfl, by trivial⟩
    apply ch_step
    focus
      intro w' hS
      subst hS
      (repeat first | (apply wr_move; exact rfl; with_reducible (conv => enter [6, 3]; whnf)) | (apply wr_nil; try simp only [thenE, inBlockE, bodyQ]))
      exact ⟨rfl, by trivial⟩
    apply ch_step
    focus
      intro w' hS
      subst hS
      refine wr_indexAddr (i := k) rfl rfl rfl (by omega) ?_
      apply wr_nil
      exact ⟨rfl, rfl⟩
    apply ch_step
    focus
      intro w' hS
      subst hS
      refine wr_load (v := .int .i64 (parAt T k)) rfl rfl rfl hbo9 (by rw [Nat.mul_one, Nat.zero_add]; exact hcv) ?_
      apply wr_nil
      exact ⟨rfl, rfl⟩
    rw [hpt]
    by_cases hp : parAt T' k = parAt T k
    · rw [if_neg (fun h => h hp), List.append_nil] at hsn
      apply ch_step
      focus
        intro w' hS
        subst hS
        (repeat first | (apply wr_cmp; (iterate 3 exact rfl); exact cmpF (by dsimp only [cmpN]; first | done | omega)) | (apply wr_nil; try simp only [thenE, inBlockE, bodyQ]))
        exact ⟨rfl, by trivial⟩
      refine ch_nil ?_
      intro w' hS
      subst hS
      (repeat first | (apply wr_move; exact rfl; with_reducible (conv => enter [6, 3]; whnf)) | (apply wr_assign; exact rfl; with_reducible (conv => enter [6, 3]; whnf)) | apply wr_end | apply wc_region | apply wc_skip | (apply wr_add; (iterate 3 exact rfl); exact w_fit (by dsimp only [kIn]; first | done | omega)) | (apply wc_false; exact rfl))
      exact ⟨k + 1, by omega, ⟨by trivial, by omega, by omega, hkd⟩, rfl, rfl, rfl, rfl, rfl, rfl, rfl, by rw [hsn], by simp, trivial⟩
    · rw [if_pos hp] at hsn
      apply ch_step
      focus
        intro w' hS
        subst hS
        (repeat first | (apply wr_cmp; (iterate 3 exact rfl); exact cmpT (by dsimp only [cmpP]; first | done | omega)) | (apply wr_nil; try simp only [thenE, inBlockE, bodyQ]))
        exact ⟨rfl, by trivial⟩
      refine ch_nil ?_
      intro w' hS
      subst hS
      have hta := turnN_at T T' (show k < gs.length + 1 by omega) hp
      have htl := (List.getElem?_eq_some_iff.1 hta).1
      have htk := turnN_len T T' k
      obtain ⟨bt, ot, rfl, curt, et, frt, hbt, hrt⟩ := hatt (by omega)
      have hbt9 : w9.drew.heap[bt]? = some (.cells curt et frt) := hkd.heap hbt (fun h => h)
      have hvt : curt[ot + (turnN T T' k).length * 1]? = some (.int .i64 (k : Int)) := by rw [Nat.mul_one]; exact hrt _ k hta
      (repeat first | (apply wr_move; exact rfl; with_reducible (conv => enter [6, 3]; whnf)) | apply wc_seq | apply wc_region | (apply wr_len_slice; iterate 2 exact rfl) | (apply wr_cmp; (iterate 3 exact rfl); exact cmpF (by dsimp only [cmpN]; first | done | omega)) | (apply wc_true; exact rfl))
      refine wr_indexAddr (i := (turnN T T' k).length) rfl rfl rfl htl ?_
      refine wr_load (v := .int .i64 (k : Int)) rfl rfl rfl hbt9 hvt ?_
      (repeat first | (apply wr_move; exact rfl; with_reducible (conv => enter [6, 3]; whnf)) | (apply wr_assign; exact rfl; with_reducible (conv => enter [6, 3]; whnf)) | apply wr_end | apply wc_region | apply wc_skip | (apply wr_cmp; (iterate 3 exact rfl); exact cmpF (by dsimp only [cmpN]; first | done | omega)) | (apply wr_pick (t := false); (iterate 2 exact rfl); with_reducible (conv => enter [6, 3]; whnf)) | (apply wr_add; (iterate 3 exact rfl); exact w_fit (by dsimp only [kIn]; first | done | omega)) | (apply wc_false; exact rfl) | (apply wr_nil; try simp only [thenE, inBlockE, bodyQ]))
      exact ⟨k + 1, by omega, ⟨by trivial, by omega, by omega, hkd⟩, rfl, rfl, rfl, rfl, rfl, rfl, rfl, by rw [hsn]; simp, by simp, trivial⟩
  have hke : k = gs.length + 1 := by omega
  subst hke
  have hk49 : Keeps (TD X) w4 w9 := (hkn6.upD.trans hk8).trans hk9.upD
  (repeat first | (apply wr_move; exact rfl; with_reducible (conv => enter [6, 3]; whnf)) | (apply wr_assign; exact rfl; with_reducible (conv => enter [6, 3]; whnf)) | apply wr_end | apply wc_seq | apply wc_region | apply wc_skip | (apply wr_len_slice; iterate 2 exact rfl) | (apply wr_cmp; (iterate 3 exact rfl); exact cmpF (by dsimp only [cmpN]; first | done | omega)) | (apply wr_add; (iterate 3 exact rfl); exact w_fit (by dsimp only [kIn]; first | done | omega)) | (apply wc_false; exact rfl) | (apply wc_exit; try simp only [thenE, inBlockE, bodyQ, ↓reduceIte, Nat.reduceEqDiff]))
  exact ⟨i + 1, by omega, ⟨by trivial, hlt, hlt2, T', hTl', hT9, hwf8, hZ8, hk4.trans hk49⟩, rfl, rfl, rfl, rfl, by simp, trivial⟩
end Go.Proofs.YthjpgkefifkhjaaDoor
