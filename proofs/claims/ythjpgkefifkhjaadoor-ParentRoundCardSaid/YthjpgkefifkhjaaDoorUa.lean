/- ParentRound: the walk. -/
import Derived.Test.YthjpgkefifkhjaaDoorTz
namespace Go.Proofs.YthjpgkefifkhjaaDoor
open Go Go.V Go.RowKit
set_option linter.unusedVariables false
set_option linter.unusedSimpArgs false

set_option maxRecDepth 100000 in
set_option maxHeartbeats 8000000 in
theorem round_law (ss : List SK) (sl : Value) (ds : List DK) (dl : Value) (w : World) (hsl : SlR w 2 sl ss.length (ss.flatMap GS)) (hok : ∀ x ∈ ss, SKok w x)
    (hdl : SlR w 4 dl ds.length (ds.flatMap GD)) (hd : ∀ x ∈ ds, x.kind < 256) :
    Ca Tryd.prog 7 #[sl, dl] w fun v w' => v = .bool true ∧ Keeps NoB w w' := by
  refine ca_of_body (args := [sl, dl]) Tryd.func7 rfl (by kernel_rfl) ?_
  (repeat first | (apply wr_assign; exact rfl; with_reducible (conv => enter [6, 3]; whnf)) | apply wr_end | apply wc_seq | apply wc_region)
  refine wr_call (vs := []) rfl (examples_ca w) rfl ?_
  rintro v w1 ⟨rfl, hk1⟩
  (repeat first | (apply wr_move; exact rfl; with_reducible (conv => enter [6, 3]; whnf)) | (apply wr_assign; exact rfl; with_reducible (conv => enter [6, 3]; whnf)) | apply wr_end | apply wc_seq | apply wc_region | apply wc_skip | (apply wr_not; iterate 2 exact rfl) | (apply wc_false; exact rfl))
  refine wr_call (vs := [sl]) rfl (drawn_ca ss sl w1 (hsl.keep hk1 (fun _ _ h => h)) (fun x hx => (hok x hx).keep hk1)) rfl ?_
  rintro nv w2 ⟨N, gs, hD, ho2, hg2, hcv2, hk2⟩
  have hgl := hg2.len
  have hN1 := hD.one
  have hN12 := hD.le
  have hNb : ∀ n ∈ N, n.2.length ≤ 1000000 ∧ ∀ c ∈ n.2, i64B c := fun n hn => by
    obtain ⟨j, hj⟩ := List.getElem?_of_mem hn
    by_cases h0 : j = 0
    · subst h0
      rw [hD.root] at hj
      cases hj
      exact ⟨Nat.zero_le _, fun c hc => nomatch hc⟩
    · obtain ⟨_, h2, _, h4⟩ := hD.ok j n (by omega) hj
      have hjl := (List.getElem?_eq_some_iff.1 hj).1
      exact ⟨by omega, fun c hc => by have := h4 c hc; unfold i64B; omega⟩
  have hnk : ∀ k, nv.ownBlock = some k → w1.heap.size ≤ k := fun k hk => own_ge ho2 hk
  have hnlt : ∀ k, nv.ownBlock = some k → k < w2.heap.size := fun k hk => (ho2.lt k hk).2
  obtain ⟨av, cv, env, hcv, hav⟩ := (SlR.of_own ho2).shape
  subst env
  (repeat first | (apply wr_move; exact rfl; with_reducible (conv => enter [6, 3]; whnf)) | (apply wr_assign; exact rfl; with_reducible (conv => enter [6, 3]; whnf)) | apply wr_end | apply wc_seq | apply wc_region)
  refine wr_call (vs := [.slice av gs.length cv]) rfl (new_ca N gs (.slice av gs.length cv) (by omega) hNb w2 (SlR.of_own ho2) hg2) rfl ?_
  rintro v w3 ⟨⟨_, tb, lb, cap, X, rfl, hM⟩ | ⟨hno, _⟩, hk3⟩
  rotate_left
  · exact absurd hD.right hno
  obtain ⟨hT3, hwf3, hfr⟩ := hM
  have hkw2 : Keeps NoB w w2 := hk1.trans hk2
  have hkw3 : Keeps NoB w w3 := hkw2.trans hk3
  have hl3 := newT_len N
  obtain ⟨ad, cd, rfl, hcd, hatd⟩ := hdl.shape
  (repeat first | (apply wr_move; exact rfl; with_reducible (conv => enter [6, 3]; whnf)) | (apply wr_assign; exact rfl; with_reducible (conv => enter [6, 3]; whnf)) | apply wr_end | apply wc_seq | apply wc_region | (apply wr_extract; (iterate 3 exact rfl); with_reducible (conv => enter [6, 3]; whnf)))
  refine wr_ptrNil rfl rfl ?_
  conv => enter [6, 3]; whnf
  have hO0 : Ok5 N X (newT N) := Ok5.new hN1 hwf3 hT3.len.symm
  (repeat first | (apply wr_move; exact rfl; with_reducible (conv => enter [6, 3]; whnf)) | (apply wr_assign; exact rfl; with_reducible (conv => enter [6, 3]; whnf)) | apply wr_end | apply wc_seq | apply wc_region | apply wc_skip | apply wc_block | (apply wr_cmp; (iterate 3 exact rfl); exact cmpF (by dsimp only [cmpN]; first | done | omega)) | (apply wr_pick (t := false); (iterate 2 exact rfl); with_reducible (conv => enter [6, 3]; whnf)) | (apply wc_false; exact rfl))
  refine wc_loopL (α := Nat) (fun i => [(1, .slice ad ds.length cd), (5, .bool true), (6, .slice av gs.length cv), (7, .pointer (some ⟨tb, 0, none⟩)), (9, .int .i64 (i : Int))])
    (fun i ds' w' => ds' = [] ∧ i ≤ ds.length ∧ i ≤ 40 ∧ ∃ T, Ok5 N X T ∧ TreeAt w' tb lb cap T X ∧ Keeps (TD X) w3 w') (fun i => 40 - i) 0
    ⟨rfl, Nat.zero_le _, Nat.zero_le _, newT N, hO0, hT3, Keeps.refl _ _⟩ ⟨rfl, rfl, rfl, rfl, rfl, trivial⟩ ?_
  rintro i ds' f0 w4 ⟨rfl, hi, hi40, T, hO, hT4, hk4⟩
  by_cases hlt : i < ds.length
  rotate_left
  · skip
    have hr0 : parT T 1 = 0 := by
      obtain ⟨_, e | ⟨_, e, _⟩⟩ := hO.node hD.root
      · exact e
      · cases e
    have hr1 := hO.root
    have hkw24 : Keeps NoB w2 w4 := Keeps.trans' hk3 hk4 (fun k hk h => by have := hfr k h; omega)
    (repeat first | (apply wr_move; exact rfl; with_reducible (conv => enter [6, 3]; whnf)) | apply wr_end | apply wc_seq | apply wc_region | (apply wr_len_slice; iterate 2 exact rfl) | (apply wr_cmp; (iterate 3 exact rfl); exact cmpF (by dsimp only [cmpN]; first | done | omega)) | (apply wr_pick (t := false); (iterate 2 exact rfl); with_reducible (conv => enter [6, 3]; whnf)) | (apply wc_false; exact rfl) | (apply wc_exit; try simp only [thenE, inBlockE, bodyQ, ↓reduceIte, Nat.reduceEqDiff]) | (apply wr_skip; exact rfl))
    refine wr_call (vs := [.pointer (some ⟨tb, 0, none⟩), .int .i64 1]) rfl (up_ca 1 w4 hT4) rfl ?_
    rintro v w5 ⟨rfl, rfl⟩
    rw [hr1]
    (repeat first | (apply wr_move; exact rfl; with_reducible (conv => enter [6, 3]; whnf)) | (apply wr_pick (t := true); (iterate 2 exact rfl); with_reducible (conv => enter [6, 3]; whnf)))
    refine wr_call (vs := [.pointer (some ⟨tb, 0, none⟩), .int .i64 1]) rfl (parent_ca 1 w5 hT4) rfl ?_
    rintro v w6 ⟨rfl, rfl⟩
    rw [hr0]
    (repeat first | (apply wr_assign; exact rfl; with_reducible (conv => enter [6, 3]; whnf)) | apply wr_end | (apply wr_cmp; (iterate 3 exact rfl); exact cmpT (by dsimp only [cmpP]; first | done | omega)) | (apply wr_pick (t := true); (iterate 2 exact rfl); with_reducible (conv => enter [6, 3]; whnf)) | (apply wc_ret; try simp only [thenE, inBlockE, bodyQ]))
    exact leave1 (v := .bool true) rfl rfl ⟨rfl, hkw2.trans hkw24⟩
  by_cases hlt2 : i < 40
  rotate_left
  · skip
    have hr0 : parT T 1 = 0 := by
      obtain ⟨_, e | ⟨_, e, _⟩⟩ := hO.node hD.root
      · exact e
      · cases e
    have hr1 := hO.root
    have hkw24 : Keeps NoB w2 w4 := Keeps.trans' hk3 hk4 (fun k hk h => by have := hfr k h; omega)
    (repeat first | (apply wr_move; exact rfl; with_reducible (conv => enter [6, 3]; whnf)) | apply wr_end | apply wc_seq | apply wc_region | (apply wr_len_slice; iterate 2 exact rfl) | (apply wr_cmp; (iterate 3 exact rfl); exact cmpT (by dsimp only [cmpP]; first | done | omega)) | (apply wr_cmp; (iterate 3 exact rfl); exact cmpF (by dsimp only [cmpN]; first | done | omega)) | (apply wr_pick (t := true); (iterate 2 exact rfl); with_reducible (conv => enter [6, 3]; whnf)) | (apply wc_false; exact rfl) | (apply wc_exit; try simp only [thenE, inBlockE, bodyQ, ↓reduceIte, Nat.reduceEqDiff]))
    refine wr_call (vs := [.pointer (some ⟨tb, 0, none⟩), .int .i64 1]) rfl (up_ca 1 w4 hT4) rfl ?_
    rintro v w5 ⟨rfl, rfl⟩
    rw [hr1]
    (repeat first | (apply wr_move; exact rfl; with_reducible (conv => enter [6, 3]; whnf)) | (apply wr_pick (t := true); (iterate 2 exact rfl); with_reducible (conv => enter [6, 3]; whnf)))
    refine wr_call (vs := [.pointer (some ⟨tb, 0, none⟩), .int .i64 1]) rfl (parent_ca 1 w5 hT4) rfl ?_
    rintro v w6 ⟨rfl, rfl⟩
    rw [hr0]
    (repeat first | (apply wr_assign; exact rfl; with_reducible (conv => enter [6, 3]; whnf)) | apply wr_end | (apply wr_cmp; (iterate 3 exact rfl); exact cmpT (by dsimp only [cmpP]; first | done | omega)) | (apply wr_pick (t := true); (iterate 2 exact rfl); with_reducible (conv => enter [6, 3]; whnf)) | (apply wc_ret; try simp only [thenE, inBlockE, bodyQ]))
    exact leave1 (v := .bool true) rfl rfl ⟨rfl, hkw2.trans hkw24⟩
  obtain ⟨b, o, rfl, cur, e, fr, hb, hr⟩ := hatd (by omega)
  obtain ⟨x, hx⟩ : ∃ x, ds[i]? = some x := ⟨ds[i], by simp [hlt]⟩
  have hx1 := hd x (List.mem_of_getElem? hx)
  have hkw24 : Keeps NoB w2 w4 := Keeps.trans' hk3 hk4 (fun k hk h => by have := hfr k h; omega)
  have hb4 : w4.heap[b]? = some (.cells cur e fr) := hkw24.heap (hkw2.heap hb (fun h => h)) (fun h => h)
  have hv0 : cur[o + i * 4 + 0]? = some (.int .u8 (x.kind : Int)) := cell_elem (g := GD) (k := 4) (n := ds.length) (i := i) (j := 0) GD_len hr hlt hx rfl
  have hv1 : cur[o + i * 4 + 1]? = some (.int .i64 x.id) := cell_elem (g := GD) (k := 4) (n := ds.length) (i := i) (j := 1) GD_len hr hlt hx rfl
  obtain ⟨u, hu, hub⟩ := wrap_nat x.id
  (repeat first | (apply wr_move; exact rfl; with_reducible (conv => enter [6, 3]; whnf)) | apply wr_end | apply wc_seq | apply wc_region | apply wc_skip | apply wc_block | (apply wr_len_slice; iterate 2 exact rfl) | (apply wr_cmp; (iterate 3 exact rfl); exact cmpT (by dsimp only [cmpP]; first | done | omega)) | (apply wr_pick (t := true); (iterate 2 exact rfl); with_reducible (conv => enter [6, 3]; whnf)) | (apply wc_true; exact rfl))
  refine wr_indexAddr (i := i) rfl rfl rfl hlt ?_
  refine wr_fieldAddr rfl rfl ?_
  refine wr_load (v := .int .i64 x.id) rfl rfl rfl hb4 hv1 ?_
  refine wr_conv (c := (u : Int)) rfl rfl hu ?_
  (repeat first | (apply wr_move; exact rfl; with_reducible (conv => enter [6, 3]; whnf)) | (apply wr_len_slice; iterate 2 exact rfl) | (apply wr_conv; (iterate 2 exact rfl); exact w_fit (by dsimp only [kIn]; first | done | omega)))
  refine wr_remN (n := u) (m := gs.length) rfl rfl rfl (by omega) ?_
  have hm4 : u % gs.length < gs.length := Nat.mod_lt _ (by omega)
  generalize u % gs.length = r at hm4
  apply wr_conv
  exact rfl
  exact rfl
  exact w_fit (by dsimp only [kIn]; omega)
  apply wr_add
  exact rfl
  exact rfl
  exact rfl
  exact w_fit (by dsimp only [kIn]; omega)
  apply wr_assign
  exact rfl
  apply wr_end
  apply wc_seq
  refine wc_cut (fun ds' f' w' => ds' = [] ∧ ∃ T', Ok5 N X T' ∧ TreeAt w' tb lb cap T' X ∧ Keeps (TD X) w4 w' ∧
    Slots f' [(1, .slice (some ⟨b, o, none⟩) ds.length cd), (5, .bool true), (6, .slice av gs.length cv), (7, .pointer (some ⟨tb, 0, none⟩)), (9, .int .i64 (i : Int))]) ?_ ?_
  · (repeat first | (apply wr_move; exact rfl; with_reducible (conv => enter [6, 3]; whnf)) | apply wc_seq | apply wc_region)
    refine wr_indexAddr (i := i) rfl rfl rfl hlt ?_
    refine wr_fieldAddr rfl rfl ?_
    refine wr_load (v := .int .u8 (x.kind : Int)) rfl rfl rfl hb4 hv0 ?_
    refine wr_remN (n := x.kind) (m := 3) rfl rfl rfl (by decide) ?_
    have hm3 : x.kind % 3 < 3 := Nat.mod_lt _ (by decide)
    generalize x.kind % 3 = q at hm3
    have hq : q = 0 ∨ q = 1 ∨ q = 2 := by omega
    rcases hq with rfl | rfl | rfl
    · (repeat first | (apply wr_move; exact rfl; with_reducible (conv => enter [6, 3]; whnf)) | (apply wr_assign; exact rfl; with_reducible (conv => enter [6, 3]; whnf)) | apply wr_end | apply wc_seq | apply wc_region | apply wc_block | (apply wr_cmp; (iterate 3 exact rfl); exact cmpT (by dsimp only [cmpP]; first | done | omega)) | (apply wc_true; exact rfl))
      refine wr_call (vs := [.pointer (some ⟨tb, 0, none⟩), .int .i64 (1 + (r : Int))]) rfl (fall_ca (1 + (r : Int)) w4 hT4 hO.wf) rfl ?_
      rintro tv w5 ⟨_, hT5, hk5⟩
      (repeat first | (apply wr_nil; try simp only [thenE, inBlockE, bodyQ]))
      exact ⟨by trivial, _, hO.fall _, hT5, hk5, rfl, rfl, rfl, rfl, rfl, trivial⟩
    · (repeat first | (apply wr_move; exact rfl; with_reducible (conv => enter [6, 3]; whnf)) | (apply wr_assign; exact rfl; with_reducible (conv => enter [6, 3]; whnf)) | apply wr_end | apply wc_seq | apply wc_region | apply wc_block | (apply wr_cmp; (iterate 3 exact rfl); exact cmpT (by dsimp only [cmpP]; first | done | omega)) | (apply wr_cmp; (iterate 3 exact rfl); exact cmpF (by dsimp only [cmpN]; first | done | omega)) | (apply wc_true; exact rfl) | (apply wc_false; exact rfl))
      refine wr_call (vs := [.pointer (some ⟨tb, 0, none⟩), .int .i64 (1 + (r : Int))]) rfl (rise_ca (1 + (r : Int)) w4 hT4 hO.wf) rfl ?_
      rintro tv w5 ⟨_, hT5, hk5⟩
      (repeat first | (apply wr_nil; try simp only [thenE, inBlockE, bodyQ]))
      exact ⟨by trivial, _, hO.rise _, hT5, hk5, rfl, rfl, rfl, rfl, rfl, trivial⟩
    · (repeat first | (apply wr_move; exact rfl; with_reducible (conv => enter [6, 3]; whnf)) | (apply wr_assign; exact rfl; with_reducible (conv => enter [6, 3]; whnf)) | apply wr_end | apply wc_seq | apply wc_region | apply wc_block | (apply wr_cmp; (iterate 3 exact rfl); exact cmpF (by dsimp only [cmpN]; first | done | omega)) | (apply wc_false; exact rfl))
      refine wr_call (vs := [.pointer (some ⟨tb, 0, none⟩), .int .i64 (1 + (r : Int))]) rfl (parent_ca (1 + (r : Int)) w4 hT4) rfl ?_
      rintro v w5 ⟨rfl, rfl⟩
      refine wr_call (vs := [.pointer (some ⟨tb, 0, none⟩), .int .i64 (1 + (r : Int)), .int .i64 (parT T (1 + (r : Int)))]) rfl (doubt_ca (1 + (r : Int)) (parT T (1 + (r : Int))) w5 hT4 hO.wf) rfl ?_
      rintro tv w6 ⟨_, hT5, hk5⟩
      (repeat first | (apply wr_nil; try simp only [thenE, inBlockE, bodyQ]))
      exact ⟨by trivial, _, hO.doubt _ _, hT5, hk5, rfl, rfl, rfl, rfl, rfl, trivial⟩
  rintro ds' f' w5 ⟨rfl, T', hO', hT5, hk5, hs⟩
  rw [← setL_self f' _ hs.all]
  clear hs
  have hk25 : Keeps NoB w2 w5 := Keeps.trans' hkw24 hk5 (fun k hk h => by have := hfr k h; omega)
  (repeat first | (apply wr_assign; exact rfl; with_reducible (conv => enter [6, 3]; whnf)) | apply wr_end | apply wc_seq | apply wc_region | apply wc_block)
  refine wc_loopL (α := Nat) (fun j => [(1, .slice (some ⟨b, o, none⟩) ds.length cd), (5, .bool true), (6, .slice av gs.length cv), (7, .pointer (some ⟨tb, 0, none⟩)), (9, .int .i64 (i : Int)), (11, .int .i64 ((j : Int) + 1))])
    (fun j ds' w' => ds' = [] ∧ j ≤ gs.length ∧ Keeps NoB w5 w') (fun j => gs.length - j) 0
    ⟨rfl, Nat.zero_le _, Keeps.refl _ _⟩ ⟨rfl, rfl, rfl, rfl, rfl, rfl, trivial⟩ ?_
  rintro j ds' f1 w6 ⟨rfl, hj, hk6⟩
  have hT6 := hT5.kin hk6
  by_cases hjl : j < gs.length
  rotate_left
  · have hje : j = gs.length := by omega
    subst hje
    (repeat first | (apply wr_move; exact rfl; with_reducible (conv => enter [6, 3]; whnf)) | (apply wr_assign; exact rfl; with_reducible (conv => enter [6, 3]; whnf)) | apply wr_end | apply wc_seq | apply wc_region | (apply wr_len_slice; iterate 2 exact rfl) | (apply wr_cmp; (iterate 3 exact rfl); exact cmpF (by dsimp only [cmpN]; first | done | omega)) | (apply wr_add; (iterate 3 exact rfl); exact w_fit (by dsimp only [kIn]; first | done | omega)) | (apply wc_false; exact rfl) | (apply wc_exit; try simp only [thenE, inBlockE, bodyQ, ↓reduceIte, Nat.reduceEqDiff]))
    exact ⟨i + 1, by omega, ⟨by trivial, hlt, hlt2, T', hO', hT6, hk4.trans (hk5.trans hk6.upD)⟩, rfl, rfl, rfl, rfl, by simp, trivial⟩
  obtain ⟨bv, ov, rfl, curv, ev', frv, hbv, hrv⟩ := hav (by omega)
  obtain ⟨⟨g1, g2⟩, hgj⟩ : ∃ g, gs[j]? = some g := ⟨gs[j], by simp [hjl]⟩
  obtain ⟨⟨n1, n2⟩, hnj⟩ : ∃ n, N[j]? = some n := ⟨N[j]'(by omega), by simp [show j < N.length by omega]⟩
  obtain ⟨hge1, hge2⟩ := hg2.el j _ _ hgj hnj
  dsimp only at hge1 hge2
  obtain ⟨hin, hcase⟩ := hO'.node hnj
  dsimp only at hcase
  (repeat first | (apply wr_move; exact rfl; with_reducible (conv => enter [6, 3]; whnf)) | apply wr_end | apply wc_seq | apply wc_region | apply wc_skip | apply wc_block | (apply wr_len_slice; iterate 2 exact rfl) | (apply wr_cmp; (iterate 3 exact rfl); exact cmpT (by dsimp only [cmpP]; first | done | omega)) | (apply wc_true; exact rfl))
  refine wr_call (vs := [.pointer (some ⟨tb, 0, none⟩), .int .i64 ((j : Int) + 1)]) rfl (parent_ca ((j : Int) + 1) w6 hT6) rfl ?_
  rintro v w7 ⟨rfl, rfl⟩
  (repeat first | (apply wr_move; exact rfl; with_reducible (conv => enter [6, 3]; whnf)) | (apply wr_assign; exact rfl; with_reducible (conv => enter [6, 3]; whnf)) | apply wr_end | apply wc_seq | apply wc_region)
  have h00 : upT T' 0 = false := if_neg (by unfold inT; omega)
  refine wr_call (vs := [.pointer (some ⟨tb, 0, none⟩), .int .i64 ((j : Int) + 1)]) rfl (path_ca ((j : Int) + 1) Int.toNat (hO'.mu hD) (by omega) w7 hT6) rfl ?_
  rintro v w8 ⟨psl, rfl, ho8, hk8⟩
  have hR2 := pathL_ok T' (((j : Int) + 1).toNat + 1) ((j : Int) + 1)
  have hRl := pathL_le (hO'.mu hD) h00 (((j : Int) + 1).toNat + 1) ((j : Int) + 1)
  rw [hR2]
  generalize (pathL T' (((j : Int) + 1).toNat + 1) ((j : Int) + 1)).1 = R at *
  have hs8 := SlR.of_own ho8
  obtain ⟨ap, cp, rfl⟩ := slr_cell1 hs8
  have hRg : R.length ≤ gs.length := by omega
  have hk68 : Keeps NoB w5 w8 := hk6.trans hk8
  generalize hPe : parT T' ((j : Int) + 1) = P at *
  apply wr_move
  exact rfl
  with_reducible (conv => enter [6, 3]; whnf)
  apply wr_extract
  exact rfl
  exact rfl
  exact rfl
  with_reducible (conv => enter [6, 3]; whnf)
  apply wr_extract
  exact rfl
  exact rfl
  exact rfl
  with_reducible (conv => enter [6, 3]; whnf)
  apply wr_assign
  exact rfl
  with_reducible (conv => enter [6, 3]; whnf)
  apply wr_assign
  exact rfl
  with_reducible (conv => enter [6, 3]; whnf)
  apply wr_end
  apply wc_seq
  have hkd : Keeps NoB w5 w8.drew := hk68.drew
  have hTd := hT5.kin hkd
  have hbvd := (hk25.trans hkd).heap hbv (fun h => h)
  have hvj1 : curv[ov + j * 2 + 0]? = some (.int .i64 g1) := cell_elem (g := GNc) (k := 2) (n := gs.length) (i := j) (j := 0) GNc_len hrv hjl hgj rfl
  refine wc_cut (fun ds' f' w' => ds' = [] ∧ Keeps NoB w5 w' ∧ Slots f' [(1, .slice (some ⟨b, o, none⟩) ds.length cd), (5, .bool true), (6, .slice (some ⟨bv, ov, none⟩) gs.length cv), (7, .pointer (some ⟨tb, 0, none⟩)), (9, .int .i64 (i : Int)), (11, .int .i64 ((j : Int) + 1)), (12, .int .i64 P)]) ?_ ?_
  · by_cases hP0 : P = 0
    · subst hP0
      rcases Nat.eq_zero_or_pos R.length with hR0 | hR0
      · rw [show decide (R.getLast? = some 1) = false by rw [List.length_eq_zero_iff.1 hR0]; rfl]
        (repeat first | apply wc_seq)
        refine wc_drawS (l := _) (S := fun w' => w' = w8.drew) (by kernel_rfl) (by kernel_rfl) rfl ?_
        repeat
          apply ch_step
          focus
            intro w' hS
            subst hS
            (repeat first | (apply wr_move; exact rfl; with_reducible (conv => enter [6, 3]; whnf)) | (apply wr_len_slice; iterate 2 exact rfl) | (apply wr_cmp; (iterate 3 exact rfl); exact cmpF (by dsimp only [cmpN]; first | done | omega)) | (apply wr_pick (t := false); (iterate 2 exact rfl); with_reducible (conv => enter [6, 3]; whnf)) | (apply wr_nil; try simp only [thenE, inBlockE, bodyQ]) | (apply wr_skip; exact rfl))
            exact ⟨rfl, by trivial⟩
        apply ch_step
        focus
          intro w' hS
          subst hS
          refine wr_boolNe (c := false) rfl rfl rfl (by simp) ?_
          apply wr_nil
          exact ⟨rfl, rfl⟩
        repeat
          apply ch_step
          focus
            intro w' hS
            subst hS
            (repeat first | (apply wr_move; exact rfl; with_reducible (conv => enter [6, 3]; whnf)) | (apply wr_cmp; (iterate 3 exact rfl); exact cmpF (by dsimp only [cmpN]; first | done | omega)) | (apply wr_pick (t := false); (iterate 2 exact rfl); with_reducible (conv => enter [6, 3]; whnf)) | (apply wr_nil; try simp only [thenE, inBlockE, bodyQ]) | (apply wr_skip; exact rfl))
            exact ⟨rfl, by trivial⟩
        refine ch_nil ?_
        intro w' hS
        subst hS
        (repeat first | apply wc_skip | (apply wc_false; exact rfl))
        exact ⟨by trivial, hkd, rfl, rfl, rfl, rfl, rfl, rfl, rfl, trivial⟩
      · obtain ⟨q, hq⟩ : ∃ q, R.length = q + 1 := ⟨R.length - 1, by omega⟩
        obtain ⟨c, hc⟩ : ∃ c, R[q]? = some c := ⟨R[q]'(by omega), by simp [show q < R.length by omega]⟩
        obtain ⟨_, _, hpe, hcp, hatp⟩ := slr_ints hs8
        cases hpe
        obtain ⟨bp, op, rfl, curp, ep, frp, hbp, hrp⟩ := hatp (by omega)
        have hvp := hrp q c hc
        rw [show decide (R.getLast? = some 1) = decide (c = 1) by rw [List.getLast?_eq_getElem?, hq, show q + 1 - 1 = q from rfl, hc]; simp]
        (repeat first | apply wc_seq)
        refine wc_drawS (l := _) (S := fun w' => w' = w8.drew) (by kernel_rfl) (by kernel_rfl) rfl ?_
        repeat
          apply ch_step
          focus
            intro w' hS
            subst hS
            (repeat first | (apply wr_move; exact rfl; with_reducible (conv => enter [6, 3]; whnf)) | (apply wr_len_slice; iterate 2 exact rfl) | (apply wr_cmp; (iterate 3 exact rfl); exact cmpT (by dsimp only [cmpP]; first | done | omega)) | (apply wr_cmp; (iterate 3 exact rfl); exact cmpF (by dsimp only [cmpN]; first | done | omega)) | (apply wr_sub; (iterate 3 exact rfl); exact w_fit (by dsimp only [kIn]; first | done | omega)) | (apply wr_nil; try simp only [thenE, inBlockE, bodyQ]))
            exact ⟨rfl, by trivial⟩
        rw [show (R.length : Int) - 1 = (q : Int) by omega]
        apply ch_step
        focus
          intro w' hS
          subst hS
          refine wr_indexAddr (i := q) rfl rfl rfl (by omega) ?_
          apply wr_nil
          exact ⟨rfl, rfl⟩
        apply ch_step
        focus
          intro w' hS
          subst hS
          refine wr_load (v := .int .i64 c) rfl rfl rfl hbp hvp ?_
          apply wr_nil
          exact ⟨rfl, rfl⟩
        repeat
          apply ch_step
          focus
            intro w' hS
            subst hS
            (repeat first | (apply wr_cmp; (iterate 3 exact rfl); exact cmp_eq _ _) | (apply wr_pick (t := true); (iterate 2 exact rfl); with_reducible (conv => enter [6, 3]; whnf)) | (apply wr_nil; try simp only [thenE, inBlockE, bodyQ]))
            exact ⟨rfl, by trivial⟩
        apply ch_step
        focus
          intro w' hS
          subst hS
          refine wr_boolNe (c := false) rfl rfl rfl (by simp) ?_
          apply wr_nil
          exact ⟨rfl, rfl⟩
        repeat
          apply ch_step
          focus
            intro w' hS
            subst hS
            (repeat first | (apply wr_move; exact rfl; with_reducible (conv => enter [6, 3]; whnf)) | (apply wr_cmp; (iterate 3 exact rfl); exact cmpF (by dsimp only [cmpN]; first | done | omega)) | (apply wr_pick (t := false); (iterate 2 exact rfl); with_reducible (conv => enter [6, 3]; whnf)) | (apply wr_nil; try simp only [thenE, inBlockE, bodyQ]) | (apply wr_skip; exact rfl))
            exact ⟨rfl, by trivial⟩
        refine ch_nil ?_
        intro w' hS
        subst hS
        (repeat first | apply wc_skip | (apply wc_false; exact rfl))
        exact ⟨by trivial, hkd, rfl, rfl, rfl, rfl, rfl, rfl, rfl, trivial⟩
    · obtain ⟨hu1, hPm, hu2⟩ : upT T' ((j : Int) + 1) = true ∧ P ∈ n2 ∧ upT T' P = true := by
        rcases hcase with e | e
        · exact absurd e hP0
        · exact e
      have hj0 : 0 < j := by
        rcases Nat.eq_zero_or_pos j with e0 | h
        · subst e0
          rw [hD.root] at hnj
          cases hnj
          cases hPm
        · exact h
      obtain ⟨hP1, hP2, hP3⟩ := (hD.ok j _ hj0 hnj).2.2.2 P hPm
      obtain ⟨pi, rfl⟩ : ∃ pi : Nat, P = (pi : Int) + 1 := ⟨(P - 1).toNat, by omega⟩
      obtain ⟨⟨d1, v1⟩, hgp⟩ : ∃ g, gs[pi]? = some g := ⟨gs[pi]'(by omega), by simp [show pi < gs.length by omega]⟩
      obtain ⟨⟨e1, l1⟩, hnp⟩ : ∃ n, N[pi]? = some n := ⟨N[pi]'(by omega), by simp [show pi < N.length by omega]⟩
      have hgpe := (hg2.el pi _ _ hgp hnp).1
      dsimp only at hgpe
      rw [depthAt_get hnp] at hP3
      dsimp only at hP3
      have hvp1 : curv[ov + pi * 2 + 0]? = some (.int .i64 d1) := cell_elem (g := GNc) (k := 2) (n := gs.length) (i := pi) (j := 0) GNc_len hrv (by omega) hgp rfl
      rcases Nat.eq_zero_or_pos R.length with hR0 | hR0
      · rw [show decide (R.getLast? = some 1) = false by rw [List.length_eq_zero_iff.1 hR0]; rfl]
        (repeat first | apply wc_seq)
        refine wc_drawS (l := _) (S := fun w' => w' = w8.drew) (by kernel_rfl) (by kernel_rfl) rfl ?_
        repeat
          apply ch_step
          focus
            intro w' hS
            subst hS
            (repeat first | (apply wr_move; exact rfl; with_reducible (conv => enter [6, 3]; whnf)) | (apply wr_len_slice; iterate 2 exact rfl) | (apply wr_cmp; (iterate 3 exact rfl); exact cmpF (by dsimp only [cmpN]; first | done | omega)) | (apply wr_pick (t := false); (iterate 2 exact rfl); with_reducible (conv => enter [6, 3]; whnf)) | (apply wr_nil; try simp only [thenE, inBlockE, bodyQ]) | (apply wr_skip; exact rfl))
            exact ⟨rfl, by trivial⟩
        apply ch_step
        focus
          intro w' hS
          subst hS
          refine wr_boolNe (c := false) rfl rfl rfl (by simp) ?_
          apply wr_nil
          exact ⟨rfl, rfl⟩
        repeat
          apply ch_step
          focus
            intro w' hS
            subst hS
            (repeat first | (apply wr_move; exact rfl; with_reducible (conv => enter [6, 3]; whnf)) | (apply wr_cmp; (iterate 3 exact rfl); exact cmpT (by dsimp only [cmpP]; first | done | omega)) | (apply wr_pick (t := false); (iterate 2 exact rfl); with_reducible (conv => enter [6, 3]; whnf)) | (apply wr_nil; try simp only [thenE, inBlockE, bodyQ]))
            exact ⟨rfl, by trivial⟩
        apply ch_step
        focus
          intro w' hS
          subst hS
          refine wr_call (vs := [.pointer (some ⟨tb, 0, none⟩), .int .i64 ((j : Int) + 1)]) rfl (up_ca ((j : Int) + 1) _ hTd) rfl ?_
          rintro v w4 ⟨rfl, rfl⟩
          apply wr_nil
          exact ⟨rfl, rfl⟩
        rw [hu1]
        repeat
          apply ch_step
          focus
            intro w' hS
            subst hS
            (repeat first | (apply wr_move; exact rfl; with_reducible (conv => enter [6, 3]; whnf)) | (apply wr_not; iterate 2 exact rfl) | (apply wr_nil; try simp only [thenE, inBlockE, bodyQ]))
            exact ⟨rfl, by trivial⟩
        apply ch_step
        focus
          intro w' hS
          subst hS
          refine wr_call (vs := [.pointer (some ⟨tb, 0, none⟩), .int .i64 ((pi : Int) + 1)]) rfl (up_ca ((pi : Int) + 1) _ hTd) rfl ?_
          rintro v w4 ⟨rfl, rfl⟩
          apply wr_nil
          exact ⟨rfl, rfl⟩
        rw [hu2]
        repeat
          apply ch_step
          focus
            intro w' hS
            subst hS
            (repeat first | (apply wr_move; exact rfl; with_reducible (conv => enter [6, 3]; whnf)) | (apply wr_not; iterate 2 exact rfl) | (apply wr_pick (t := false); (iterate 2 exact rfl); with_reducible (conv => enter [6, 3]; whnf)) | (apply wr_sub; (iterate 3 exact rfl); exact w_fit (by dsimp only [kIn]; first | done | omega)) | (apply wr_nil; try simp only [thenE, inBlockE, bodyQ]))
            exact ⟨rfl, by trivial⟩
        rw [show (pi : Int) + 1 - 1 = pi by omega]
        apply ch_step
        focus
          intro w' hS
          subst hS
          refine wr_indexAddr (i := pi) rfl rfl rfl (by omega) ?_
          apply wr_nil
          exact ⟨rfl, rfl⟩
        repeat
          apply ch_step
          focus
            intro w' hS
            subst hS
            (repeat first | (apply wr_fieldAddr; iterate 2 exact rfl) | (apply wr_nil; try simp only [thenE, inBlockE, bodyQ]))
            exact ⟨rfl, by trivial⟩
        apply ch_step
        focus
          intro w' hS
          subst hS
          refine wr_load (v := .int .i64 d1) rfl rfl rfl hbvd hvp1 ?_
          apply wr_nil
          exact ⟨rfl, rfl⟩
        repeat
          apply ch_step
          focus
            intro w' hS
            subst hS
            (repeat first | (apply wr_move; exact rfl; with_reducible (conv => enter [6, 3]; whnf)) | (apply wr_sub; (iterate 3 exact rfl); exact w_fit (by dsimp only [kIn]; first | done | omega)) | (apply wr_nil; try simp only [thenE, inBlockE, bodyQ]))
            exact ⟨rfl, by trivial⟩
        rw [show (j : Int) + 1 - 1 = j by omega]
        apply ch_step
        focus
          intro w' hS
          subst hS
          refine wr_indexAddr (i := j) rfl rfl rfl hjl ?_
          apply wr_nil
          exact ⟨rfl, rfl⟩
        repeat
          apply ch_step
          focus
            intro w' hS
            subst hS
            (repeat first | (apply wr_fieldAddr; iterate 2 exact rfl) | (apply wr_nil; try simp only [thenE, inBlockE, bodyQ]))
            exact ⟨rfl, by trivial⟩
        apply ch_step
        focus
          intro w' hS
          subst hS
          refine wr_load (v := .int .i64 g1) rfl rfl rfl hbvd hvj1 ?_
          apply wr_nil
          exact ⟨rfl, rfl⟩
        repeat
          apply ch_step
          focus
            intro w' hS
            subst hS
            (repeat first | (apply wr_cmp; (iterate 3 exact rfl); exact cmpF (by dsimp only [cmpN]; first | done | omega)) | (apply wr_pick (t := true); (iterate 2 exact rfl); with_reducible (conv => enter [6, 3]; whnf)) | (apply wr_pick (t := false); (iterate 2 exact rfl); with_reducible (conv => enter [6, 3]; whnf)) | (apply wr_nil; try simp only [thenE, inBlockE, bodyQ]))
            exact ⟨rfl, by trivial⟩
        refine ch_nil ?_
        intro w' hS
        subst hS
        (repeat first | apply wc_skip | (apply wc_false; exact rfl))
        exact ⟨by trivial, hkd, rfl, rfl, rfl, rfl, rfl, rfl, rfl, trivial⟩
      · obtain ⟨q, hq⟩ : ∃ q, R.length = q + 1 := ⟨R.length - 1, by omega⟩
        obtain ⟨c, hc⟩ : ∃ c, R[q]? = some c := ⟨R[q]'(by omega), by simp [show q < R.length by omega]⟩
        obtain ⟨_, _, hpe, hcp, hatp⟩ := slr_ints hs8
        cases hpe
        obtain ⟨bp, op, rfl, curp, ep, frp, hbp, hrp⟩ := hatp (by omega)
        have hvp := hrp q c hc
        rw [show decide (R.getLast? = some 1) = decide (c = 1) by rw [List.getLast?_eq_getElem?, hq, show q + 1 - 1 = q from rfl, hc]; simp]
        (repeat first | apply wc_seq)
        refine wc_drawS (l := _) (S := fun w' => w' = w8.drew) (by kernel_rfl) (by kernel_rfl) rfl ?_
        repeat
          apply ch_step
          focus
            intro w' hS
            subst hS
            (repeat first | (apply wr_move; exact rfl; with_reducible (conv => enter [6, 3]; whnf)) | (apply wr_len_slice; iterate 2 exact rfl) | (apply wr_cmp; (iterate 3 exact rfl); exact cmpT (by dsimp only [cmpP]; first | done | omega)) | (apply wr_cmp; (iterate 3 exact rfl); exact cmpF (by dsimp only [cmpN]; first | done | omega)) | (apply wr_sub; (iterate 3 exact rfl); exact w_fit (by dsimp only [kIn]; first | done | omega)) | (apply wr_nil; try simp only [thenE, inBlockE, bodyQ]))
            exact ⟨rfl, by trivial⟩
        rw [show (R.length : Int) - 1 = (q : Int) by omega]
        apply ch_step
        focus
          intro w' hS
          subst hS
          refine wr_indexAddr (i := q) rfl rfl rfl (by omega) ?_
          apply wr_nil
          exact ⟨rfl, rfl⟩
        apply ch_step
        focus
          intro w' hS
          subst hS
          refine wr_load (v := .int .i64 c) rfl rfl rfl hbp hvp ?_
          apply wr_nil
          exact ⟨rfl, rfl⟩
        repeat
          apply ch_step
          focus
            intro w' hS
            subst hS
            (repeat first | (apply wr_cmp; (iterate 3 exact rfl); exact cmp_eq _ _) | (apply wr_pick (t := true); (iterate 2 exact rfl); with_reducible (conv => enter [6, 3]; whnf)) | (apply wr_nil; try simp only [thenE, inBlockE, bodyQ]))
            exact ⟨rfl, by trivial⟩
        apply ch_step
        focus
          intro w' hS
          subst hS
          refine wr_boolNe (c := false) rfl rfl rfl (by simp) ?_
          apply wr_nil
          exact ⟨rfl, rfl⟩
        repeat
          apply ch_step
          focus
            intro w' hS
            subst hS
            (repeat first | (apply wr_move; exact rfl; with_reducible (conv => enter [6, 3]; whnf)) | (apply wr_cmp; (iterate 3 exact rfl); exact cmpT (by dsimp only [cmpP]; first | done | omega)) | (apply wr_pick (t := false); (iterate 2 exact rfl); with_reducible (conv => enter [6, 3]; whnf)) | (apply wr_nil; try simp only [thenE, inBlockE, bodyQ]))
            exact ⟨rfl, by trivial⟩
        apply ch_step
        focus
          intro w' hS
          subst hS
          refine wr_call (vs := [.pointer (some ⟨tb, 0, none⟩), .int .i64 ((j : Int) + 1)]) rfl (up_ca ((j : Int) + 1) _ hTd) rfl ?_
          rintro v w4 ⟨rfl, rfl⟩
          apply wr_nil
          exact ⟨rfl, rfl⟩
        rw [hu1]
        repeat
          apply ch_step
          focus
            intro w' hS
            subst hS
            (repeat first | (apply wr_move; exact rfl; with_reducible (conv => enter [6, 3]; whnf)) | (apply wr_not; iterate 2 exact rfl) | (apply wr_nil; try simp only [thenE, inBlockE, bodyQ]))
            exact ⟨rfl, by trivial⟩
        apply ch_step
        focus
          intro w' hS
          subst hS
          refine wr_call (vs := [.pointer (some ⟨tb, 0, none⟩), .int .i64 ((pi : Int) + 1)]) rfl (up_ca ((pi : Int) + 1) _ hTd) rfl ?_
          rintro v w4 ⟨rfl, rfl⟩
          apply wr_nil
          exact ⟨rfl, rfl⟩
        rw [hu2]
        repeat
          apply ch_step
          focus
            intro w' hS
            subst hS
            (repeat first | (apply wr_move; exact rfl; with_reducible (conv => enter [6, 3]; whnf)) | (apply wr_not; iterate 2 exact rfl) | (apply wr_pick (t := false); (iterate 2 exact rfl); with_reducible (conv => enter [6, 3]; whnf)) | (apply wr_sub; (iterate 3 exact rfl); exact w_fit (by dsimp only [kIn]; first | done | omega)) | (apply wr_nil; try simp only [thenE, inBlockE, bodyQ]))
            exact ⟨rfl, by trivial⟩
        rw [show (pi : Int) + 1 - 1 = pi by omega]
        apply ch_step
        focus
          intro w' hS
          subst hS
          refine wr_indexAddr (i := pi) rfl rfl rfl (by omega) ?_
          apply wr_nil
          exact ⟨rfl, rfl⟩
        repeat
          apply ch_step
          focus
            intro w' hS
            subst hS
            (repeat first | (apply wr_fieldAddr; iterate 2 exact rfl) | (apply wr_nil; try simp only [thenE, inBlockE, bodyQ]))
            exact ⟨rfl, by trivial⟩
        apply ch_step
        focus
          intro w' hS
          subst hS
          refine wr_load (v := .int .i64 d1) rfl rfl rfl hbvd hvp1 ?_
          apply wr_nil
          exact ⟨rfl, rfl⟩
        repeat
          apply ch_step
          focus
            intro w' hS
            subst hS
            (repeat first | (apply wr_move; exact rfl; with_reducible (conv => enter [6, 3]; whnf)) | (apply wr_sub; (iterate 3 exact rfl); exact w_fit (by dsimp only [kIn]; first | done | omega)) | (apply wr_nil; try simp only [thenE, inBlockE, bodyQ]))
            exact ⟨rfl, by trivial⟩
        rw [show (j : Int) + 1 - 1 = j by omega]
        apply ch_step
        focus
          intro w' hS
          subst hS
          refine wr_indexAddr (i := j) rfl rfl rfl hjl ?_
          apply wr_nil
          exact ⟨rfl, rfl⟩
        repeat
          apply ch_step
          focus
            intro w' hS
            subst hS
            (repeat first | (apply wr_fieldAddr; iterate 2 exact rfl) | (apply wr_nil; try simp only [thenE, inBlockE, bodyQ]))
            exact ⟨rfl, by trivial⟩
        apply ch_step
        focus
          intro w' hS
          subst hS
          refine wr_load (v := .int .i64 g1) rfl rfl rfl hbvd hvj1 ?_
          apply wr_nil
          exact ⟨rfl, rfl⟩
        repeat
          apply ch_step
          focus
            intro w' hS
            subst hS
            (repeat first | (apply wr_cmp; (iterate 3 exact rfl); exact cmpF (by dsimp only [cmpN]; first | done | omega)) | (apply wr_pick (t := true); (iterate 2 exact rfl); with_reducible (conv => enter [6, 3]; whnf)) | (apply wr_pick (t := false); (iterate 2 exact rfl); with_reducible (conv => enter [6, 3]; whnf)) | (apply wr_nil; try simp only [thenE, inBlockE, bodyQ]))
            exact ⟨rfl, by trivial⟩
        refine ch_nil ?_
        intro w' hS
        subst hS
        (repeat first | apply wc_skip | (apply wc_false; exact rfl))
        exact ⟨by trivial, hkd, rfl, rfl, rfl, rfl, rfl, rfl, rfl, trivial⟩
  rintro ds' f' w9 ⟨rfl, hk9, hs⟩
  rw [← setL_self f' _ hs.all]
  clear hs
  have hPc : P = 0 ∨ P ∈ n2 := by
    rcases hcase with e | e
    · exact .inl e
    · exact .inr e.2.1
  have hn2l : n2.length ≤ 1000000 := (hNb _ (List.mem_of_getElem? hnj)).1
  obtain ⟨ac, cc, rfl, hcc, hatc⟩ := slr_ints hge2
  have hvj2 : curv[ov + j * 2 + 1]? = some (.slice ac n2.length cc) := cell_elem (g := GNc) (k := 2) (n := gs.length) (i := j) (j := 1) GNc_len hrv hjl hgj rfl
  have hbv9 := (hk25.trans hk9).heap hbv (fun h => h)
  (repeat first | (apply wr_move; exact rfl; with_reducible (conv => enter [6, 3]; whnf)) | (apply wr_assign; exact rfl; with_reducible (conv => enter [6, 3]; whnf)) | apply wr_end | apply wc_seq | apply wc_region | apply wc_block | (apply wr_cmp; (iterate 3 exact rfl); exact cmp_eq _ _))
  refine wc_loopL (α := Nat) (fun c => [(1, .slice (some ⟨b, o, none⟩) ds.length cd), (5, .bool true), (6, .slice (some ⟨bv, ov, none⟩) gs.length cv), (7, .pointer (some ⟨tb, 0, none⟩)), (9, .int .i64 (i : Int)), (11, .int .i64 ((j : Int) + 1)), (12, .int .i64 P), (15, .bool (decide (P = 0 ∨ P ∈ n2.take c))), (16, .int .i64 (c : Int))])
    (fun c ds' w' => ds' = [] ∧ c ≤ n2.length ∧ w' = w9) (fun c => n2.length - c) 0
    ⟨rfl, Nat.zero_le _, rfl⟩ ⟨rfl, rfl, rfl, rfl, rfl, rfl, rfl, by simp, rfl, trivial⟩ ?_
  rintro c ds' f2 w10 ⟨rfl, hc, rfl⟩
  by_cases hcl : c < n2.length
  · obtain ⟨bc, oc, rfl, curc, ec, frc, hbc, hrc⟩ := hatc (by omega)
    have hbc9 := (hk25.trans hk9).heap hbc (fun h => h)
    obtain ⟨y, hy⟩ : ∃ y, n2[c]? = some y := ⟨n2[c], by simp [hcl]⟩
    have htk : n2.take (c + 1) = n2.take c ++ [y] := by rw [List.take_add_one, hy]; rfl
    (repeat first | (apply wr_move; exact rfl; with_reducible (conv => enter [6, 3]; whnf)) | apply wc_seq | apply wc_region | (apply wr_sub; (iterate 3 exact rfl); exact w_fit (by dsimp only [kIn]; first | done | omega)))
    rw [show (j : Int) + 1 - 1 = j by omega]
    refine wr_indexAddr (i := j) rfl rfl rfl hjl ?_
    refine wr_fieldAddr rfl rfl ?_
    refine wr_load (v := .slice (some ⟨bc, oc, none⟩) n2.length cc) rfl rfl rfl hbv9 hvj2 ?_
    by_cases hth : P = 0 ∨ P ∈ n2.take c
    · rw [decide_eq_true hth]
      (repeat first | (apply wr_move; exact rfl; with_reducible (conv => enter [6, 3]; whnf)) | (apply wr_assign; exact rfl; with_reducible (conv => enter [6, 3]; whnf)) | apply wr_end | apply wc_seq | apply wc_region | apply wc_skip | apply wc_block | (apply wr_len_slice; iterate 2 exact rfl) | (apply wr_cmp; (iterate 3 exact rfl); exact cmpT (by dsimp only [cmpP]; first | done | omega)) | (apply wr_pick (t := true); (iterate 2 exact rfl); with_reducible (conv => enter [6, 3]; whnf)) | (apply wr_add; (iterate 3 exact rfl); exact w_fit (by dsimp only [kIn]; first | done | omega)) | (apply wc_true; exact rfl) | (apply wr_nil; try simp only [thenE, inBlockE, bodyQ]) | (apply wr_skip; exact rfl))
      exact ⟨c + 1, by omega, ⟨by trivial, hcl, rfl⟩, rfl, rfl, rfl, rfl, rfl, rfl, rfl, by rw [decide_eq_true (by rw [htk]; rcases hth with h | h; exact .inl h; exact .inr (List.mem_append_left _ h))], by simp, trivial⟩
    · rw [decide_eq_false hth]
      have hdc : decide (P = 0 ∨ P ∈ n2.take (c + 1)) = decide (y = P) := by
        rw [htk]
        have h1 : ¬ P = 0 := fun h => hth (.inl h)
        have h2 : P ∉ n2.take c := fun h => hth (.inr h)
        simp [h1, h2, eq_comm]
      (repeat first | (apply wr_move; exact rfl; with_reducible (conv => enter [6, 3]; whnf)) | apply wr_end | apply wc_seq | apply wc_region | apply wc_skip | apply wc_block | (apply wr_len_slice; iterate 2 exact rfl) | (apply wr_cmp; (iterate 3 exact rfl); exact cmpT (by dsimp only [cmpP]; first | done | omega)) | (apply wr_sub; (iterate 3 exact rfl); exact w_fit (by dsimp only [kIn]; first | done | omega)) | (apply wc_true; exact rfl))
      rw [show (j : Int) + 1 - 1 = j by omega]
      refine wr_indexAddr (i := j) rfl rfl rfl hjl ?_
      refine wr_fieldAddr rfl rfl ?_
      refine wr_load (v := .slice (some ⟨bc, oc, none⟩) n2.length cc) rfl rfl rfl hbv9 hvj2 ?_
      (repeat first | (apply wr_move; exact rfl; with_reducible (conv => enter [6, 3]; whnf)))
      refine wr_indexAddr (i := c) rfl rfl rfl hcl ?_
      refine wr_load (v := .int .i64 y) rfl rfl rfl hbc9 (hrc c y hy) ?_
      (repeat first | (apply wr_move; exact rfl; with_reducible (conv => enter [6, 3]; whnf)) | (apply wr_assign; exact rfl; with_reducible (conv => enter [6, 3]; whnf)) | apply wr_end | apply wc_region | (apply wr_cmp; (iterate 3 exact rfl); exact cmp_eq _ _) | (apply wr_pick (t := false); (iterate 2 exact rfl); with_reducible (conv => enter [6, 3]; whnf)) | (apply wr_add; (iterate 3 exact rfl); exact w_fit (by dsimp only [kIn]; first | done | omega)) | (apply wr_nil; try simp only [thenE, inBlockE, bodyQ]))
      exact ⟨c + 1, by omega, ⟨by trivial, hcl, rfl⟩, rfl, rfl, rfl, rfl, rfl, rfl, rfl, by rw [hdc], by simp, trivial⟩
  have hce : c = n2.length := by omega
  subst hce
  rw [List.take_length, decide_eq_true hPc]
  (repeat first | (apply wr_move; exact rfl; with_reducible (conv => enter [6, 3]; whnf)) | apply wc_seq | apply wc_region | (apply wr_sub; (iterate 3 exact rfl); exact w_fit (by dsimp only [kIn]; first | done | omega)))
  rw [show (j : Int) + 1 - 1 = j by omega]
  refine wr_indexAddr (i := j) rfl rfl rfl hjl ?_
  refine wr_fieldAddr rfl rfl ?_
  refine wr_load (v := .slice ac n2.length cc) rfl rfl rfl hbv9 hvj2 ?_
  (repeat first | (apply wr_move; exact rfl; with_reducible (conv => enter [6, 3]; whnf)) | (apply wr_assign; exact rfl; with_reducible (conv => enter [6, 3]; whnf)) | apply wr_end | apply wc_seq | apply wc_region | apply wc_skip | (apply wr_not; iterate 2 exact rfl) | (apply wr_len_slice; iterate 2 exact rfl) | (apply wr_cmp; (iterate 3 exact rfl); exact cmpF (by dsimp only [cmpN]; first | done | omega)) | (apply wr_add; (iterate 3 exact rfl); exact w_fit (by dsimp only [kIn]; first | done | omega)) | (apply wc_false; exact rfl) | (apply wc_exit; try simp only [thenE, inBlockE, bodyQ, ↓reduceIte, Nat.reduceEqDiff]))
  exact ⟨j + 1, by omega, ⟨by trivial, by omega, hk9⟩, rfl, rfl, rfl, rfl, rfl, by simp, trivial⟩
end Go.Proofs.YthjpgkefifkhjaaDoor
