/- ParentFirst: the walk. -/
import Derived.Test.YthjpgkefifkhjaaDoorTu
namespace Go.Proofs.YthjpgkefifkhjaaDoor
open Go Go.V Go.RowKit
set_option linter.unusedVariables false
set_option linter.unusedSimpArgs false

def bitF (f : Nat) (c : Int) : Prop := f / 2 ^ c.toNat % 2 = 1
instance (f : Nat) (c : Int) : Decidable (bitF f c) := by unfold bitF; infer_instance
/-- Who is up while they fall, up to k. -/
def UpF (L f k : Nat) (T : List ND) : Prop := ∀ c, upT T c = decide (1 ≤ c ∧ c ≤ (L : Int) ∧ ¬ (2 ≤ c ∧ c < (k : Int) ∧ bitF f c))
def UpR (L f k : Nat) (T : List ND) : Prop := ∀ c, upT T c = decide (1 ≤ c ∧ c ≤ (L : Int) ∧ ¬ ((k : Int) ≤ c ∧ bitF f c))
theorem UpF.zero {N : List NG} (f : Nat) : UpF N.length f 2 (newT N) := fun c => by
  rw [upT_new]
  congr 1
  apply propext
  omega
theorem UpF.step {N : List NG} {X : List NL} {T : List ND} {f k : Nat} (h : UpF N.length f k T) (hO : Ok4 N X T) (h2 : 2 ≤ k) (hk : k ≤ N.length) (hb : bitF f (k : Int)) : UpF N.length f (k + 1) (fallF T (k : Int)) := fun c => by
  have hl := hO.len
  rw [upT_fallF (by unfold inT; omega) (by omega), h c]
  by_cases hc : c = (k : Int)
  · subst hc
    rw [if_pos rfl]
    symm
    rw [decide_eq_false]
    exact fun g => g.2.2 ⟨by omega, by omega, hb⟩
  · rw [if_neg hc]
    congr 1
    apply propext
    constructor
    · exact fun g => ⟨g.1, g.2.1, fun q => g.2.2 ⟨q.1, by omega, q.2.2⟩⟩
    · exact fun g => ⟨g.1, g.2.1, fun q => g.2.2 ⟨q.1, by omega, q.2.2⟩⟩
theorem UpF.skip {L f k : Nat} {T : List ND} (h : UpF L f k T) (hb : ¬ bitF f (k : Int)) : UpF L f (k + 1) T := fun c => by
  rw [h c]
  congr 1
  apply propext
  constructor
  · exact fun g => ⟨g.1, g.2.1, fun q => g.2.2 ⟨q.1, by
      rcases Int.lt_or_eq_of_le (show c ≤ k by omega) with e | e
      · exact e
      · rw [e] at q; exact absurd q.2.2 hb, q.2.2⟩⟩
  · exact fun g => ⟨g.1, g.2.1, fun q => g.2.2 ⟨q.1, by omega, q.2.2⟩⟩
theorem UpF.rev {L f : Nat} {T : List ND} (h : UpF L f (L + 1) T) : UpR L f 2 T := fun c => by
  rw [h c]
  congr 1
  apply propext
  constructor
  · exact fun g => ⟨g.1, g.2.1, fun q => g.2.2 ⟨by omega, by omega, q.2⟩⟩
  · exact fun g => ⟨g.1, g.2.1, fun q => g.2.2 ⟨by omega, q.2.2⟩⟩
theorem UpR.step {N : List NG} {X : List NL} {T : List ND} {f k : Nat} (h : UpR N.length f k T) (hO : Ok4 N X T) (h2 : 2 ≤ k) (hk : k ≤ N.length) : UpR N.length f (k + 1) (riseF T (k : Int)) := fun c => by
  have hl := hO.len
  rw [upT_riseF (by unfold inT; omega), h c]
  by_cases hc : c = (k : Int)
  · subst hc
    rw [if_pos rfl]
    symm
    rw [decide_eq_true]
    exact ⟨by omega, by omega, fun q => by omega⟩
  · rw [if_neg hc]
    congr 1
    apply propext
    constructor
    · exact fun g => ⟨g.1, g.2.1, fun q => g.2.2 ⟨by omega, q.2⟩⟩
    · exact fun g => ⟨g.1, g.2.1, fun q => g.2.2 ⟨by omega, q.2⟩⟩
theorem UpR.done {N : List NG} {X : List NL} {T : List ND} {f : Nat} (h : UpR N.length f (N.length + 1) T) (hO : Ok4 N X T) : T = newT N := hO.same fun c => by
  rw [h c, upT_new]
  congr 1
  apply propext
  constructor
  · exact fun g => ⟨g.1, g.2.1⟩
  · exact fun g => ⟨g.1, g.2, fun q => by omega⟩
set_option maxRecDepth 100000 in
set_option maxHeartbeats 8000000 in
theorem first_law (ss : List SK) (sl : Value) (f : Nat) (w : World) (hsl : SlR w 2 sl ss.length (ss.flatMap GS)) (hok : ∀ x ∈ ss, SKok w x) (hf : f < 65536) :
    Ca Tryd.prog 3 #[sl, .int .u16 (f : Int)] w fun v w' => v = .bool true ∧ Keeps NoB w w' := by
  refine ca_of_body (args := [sl, .int .u16 (f : Int)]) Tryd.func3 rfl (by kernel_rfl) ?_
  (repeat first | (apply wr_assign; exact rfl; with_reducible (conv => enter [6, 3]; whnf)) | apply wr_end | apply wc_seq | apply wc_region)
  refine wr_call (vs := []) rfl (examples_ca w) rfl ?_
  rintro v w1 ⟨rfl, hk1⟩
  (repeat first | (apply wr_move; exact rfl; with_reducible (conv => enter [6, 3]; whnf)) | (apply wr_assign; exact rfl; with_reducible (conv => enter [6, 3]; whnf)) | apply wr_end | apply wc_seq | apply wc_region | apply wc_skip | (apply wr_not; iterate 2 exact rfl) | (apply wc_false; exact rfl))
  refine wr_call (vs := [sl]) rfl (drawn_ca ss sl w1 (hsl.keep hk1 (fun _ _ h => h)) (fun x hx => (hok x hx).keep hk1)) rfl ?_
  rintro nv w2 ⟨N, gs, hD, ho2, hg2, hcv2, hk2⟩
  have hgl := hg2.len
  have hN1 := hD.one
  have hN12 := hD.le
  have hNb : ∀ n ∈ N, n.2.length ≤ 1000000 ∧ ∀ c ∈ n.2, i64B c := fun n hn => by
    obtain ⟨j, hj⟩ := List.getElem?_of_mem hn
    by_cases h0 : j = 0
    · subst h0
      rw [hD.root] at hj
      cases hj
      exact ⟨Nat.zero_le _, fun c hc => nomatch hc⟩
    · obtain ⟨_, h2, _, h4⟩ := hD.ok j n (by omega) hj
      have hjl := (List.getElem?_eq_some_iff.1 hj).1
      exact ⟨by omega, fun c hc => by have := h4 c hc; unfold i64B; omega⟩
  have hnk : ∀ k, nv.ownBlock = some k → w1.heap.size ≤ k := fun k hk => own_ge ho2 hk
  have hnlt : ∀ k, nv.ownBlock = some k → k < w2.heap.size := fun k hk => (ho2.lt k hk).2
  obtain ⟨av, cv, env, hcv, hav⟩ := (SlR.of_own ho2).shape
  subst env
  (repeat first | (apply wr_move; exact rfl; with_reducible (conv => enter [6, 3]; whnf)) | (apply wr_assign; exact rfl; with_reducible (conv => enter [6, 3]; whnf)) | apply wr_end | apply wc_seq | apply wc_region)
  refine wr_call (vs := [.slice av gs.length cv]) rfl (new_ca N gs (.slice av gs.length cv) (by omega) hNb w2 (SlR.of_own ho2) hg2) rfl ?_
  rintro v w3 ⟨⟨_, tb, lb, cap, X, rfl, hM⟩ | ⟨hno, _⟩, hk3⟩
  rotate_left
  · exact absurd hD.right hno
  obtain ⟨hT3, hwf3, hfr⟩ := hM
  have hkw2 : Keeps NoB w w2 := hk1.trans hk2
  have hkw3 : Keeps NoB w w3 := hkw2.trans hk3
  have hl3 := newT_len N
  (repeat first | (apply wr_move; exact rfl; with_reducible (conv => enter [6, 3]; whnf)) | (apply wr_assign; exact rfl; with_reducible (conv => enter [6, 3]; whnf)) | apply wr_end | apply wc_seq | apply wc_region | (apply wr_extract; (iterate 3 exact rfl); with_reducible (conv => enter [6, 3]; whnf)))
  refine wr_ptrNil rfl rfl ?_
  conv => enter [6, 3]; whnf
  have hO0 : Ok4 N X (newT N) := Ok4.new hwf3 hT3.len.symm
  (repeat first | (apply wr_move; exact rfl; with_reducible (conv => enter [6, 3]; whnf)) | apply wr_end | apply wc_seq | apply wc_region | apply wc_skip | (apply wr_cmp; (iterate 3 exact rfl); exact cmpF (by dsimp only [cmpN]; first | done | omega)) | (apply wr_pick (t := false); (iterate 2 exact rfl); with_reducible (conv => enter [6, 3]; whnf)) | (apply wc_false; exact rfl))
  refine wr_call (vs := [.pointer (some ⟨tb, 0, none⟩)]) rfl (text_ca w3 hT3 (by omega) (hO0.parB (by omega))) rfl ?_
  rintro v w4 ⟨rfl, hk4⟩
  obtain ⟨txt, htxt⟩ : ∃ txt, txt = textT (newT N) := ⟨_, rfl⟩
  rw [← htxt]
  have hT4 := hT3.kin hk4
  (repeat first | (apply wr_assign; exact rfl; with_reducible (conv => enter [6, 3]; whnf)) | apply wr_end | apply wc_seq | apply wc_region | apply wc_block)
  refine wc_loopL (α := Nat) (fun k => [(1, .int .u16 (f : Int)), (5, .bool true), (6, .slice av gs.length cv), (7, .pointer (some ⟨tb, 0, none⟩)), (9, S txt),(10, .int .i64 (k : Int))])
    (fun k ds' w' => ds' = [] ∧ 2 ≤ k ∧ k ≤ gs.length + 1 ∧ ∃ T, Ok4 N X T ∧ UpF N.length f k T ∧ TreeAt w' tb lb cap T X ∧ Keeps (TD X) w4 w') (fun k => gs.length + 1 - k) 2
    ⟨rfl, Nat.le_refl _, by omega, newT N, hO0, UpF.zero f, hT4, Keeps.refl _ _⟩ ⟨rfl, rfl, rfl, rfl, rfl,rfl, trivial⟩ ?_
  rintro k ds' f0 w5 ⟨rfl, hk1, hk2, T, hO, hU, hT5, hk5⟩
  by_cases hkl : k ≤ gs.length
  · (repeat first | (apply wr_move; exact rfl; with_reducible (conv => enter [6, 3]; whnf)) | apply wr_end | apply wc_seq | apply wc_region | apply wc_skip | apply wc_block | (apply wr_len_slice; iterate 2 exact rfl) | (apply wr_cmp; (iterate 3 exact rfl); exact cmpT (by dsimp only [cmpP]; first | done | omega)) | (apply wc_true; exact rfl))
    refine wr_shrN (n := f) k rfl rfl rfl (by show k ≤ 16; omega) ?_
    refine wr_remN (n := f / 2 ^ k) (m := 2) rfl rfl rfl (by decide) ?_
    have hbk : bitF f (k : Int) ↔ f / 2 ^ k % 2 = 1 := by unfold bitF; rw [Int.toNat_natCast]
    have hm2 : f / 2 ^ k % 2 < 2 := Nat.mod_lt _ (by decide)
    revert hbk
    generalize f / 2 ^ k % 2 = q at hm2
    intro hbk
    by_cases hq : q = 1
    · have hb := hbk.2 hq
      (repeat first | (apply wr_move; exact rfl; with_reducible (conv => enter [6, 3]; whnf)) | apply wr_end | apply wc_region | (apply wr_cmp; (iterate 3 exact rfl); exact cmpT (by dsimp only [cmpP]; first | done | omega)) | (apply wc_true; exact rfl))
      refine wr_call (vs := [.pointer (some ⟨tb, 0, none⟩), .int .i64 (k : Int)]) rfl (fall_ca (k : Int) w5 hT5 hO.wf) rfl ?_
      rintro tv w6 ⟨_, hT6, hk6⟩
      (repeat first | (apply wr_move; exact rfl; with_reducible (conv => enter [6, 3]; whnf)) | (apply wr_assign; exact rfl; with_reducible (conv => enter [6, 3]; whnf)) | apply wr_end | apply wc_region | (apply wr_add; (iterate 3 exact rfl); exact w_fit (by dsimp only [kIn]; first | done | omega)) | (apply wr_nil; try simp only [thenE, inBlockE, bodyQ]))
      exact ⟨k + 1, by omega, ⟨by trivial, by omega, by omega, _, hO.fall k, hU.step hO hk1 (by omega) hb, hT6, hk5.trans hk6⟩, rfl, rfl, rfl, rfl, rfl,by simp, trivial⟩
    · have hb : ¬ bitF f (k : Int) := fun h => hq (hbk.1 h)
      (repeat first | (apply wr_move; exact rfl; with_reducible (conv => enter [6, 3]; whnf)) | (apply wr_assign; exact rfl; with_reducible (conv => enter [6, 3]; whnf)) | apply wr_end | apply wc_region | apply wc_skip | (apply wr_cmp; (iterate 3 exact rfl); exact cmpF (by dsimp only [cmpN]; first | done | omega)) | (apply wr_add; (iterate 3 exact rfl); exact w_fit (by dsimp only [kIn]; first | done | omega)) | (apply wc_false; exact rfl))
      exact ⟨k + 1, by omega, ⟨by trivial, by omega, by omega, T, hO, hU.skip hb, hT5, hk5⟩, rfl, rfl, rfl, rfl, rfl,by simp, trivial⟩
  have hke : k = gs.length + 1 := by omega
  subst hke
  have hk24 : Keeps NoB w2 w5 := Keeps.trans' (hk3.trans hk4) hk5 (fun k hk h => by have := hfr k h; omega)
  (repeat first | (apply wr_move; exact rfl; with_reducible (conv => enter [6, 3]; whnf)) | (apply wr_assign; exact rfl; with_reducible (conv => enter [6, 3]; whnf)) | apply wr_end | apply wc_seq | apply wc_region | apply wc_block | (apply wr_len_slice; iterate 2 exact rfl) | (apply wr_cmp; (iterate 3 exact rfl); exact cmpF (by dsimp only [cmpN]; first | done | omega)) | (apply wc_false; exact rfl) | (apply wc_exit; try simp only [thenE, inBlockE, bodyQ, ↓reduceIte, Nat.reduceEqDiff]))
  refine wc_loopL (α := Nat) (fun j => [(1, .int .u16 (f : Int)), (5, .bool true), (6, .slice av gs.length cv), (7, .pointer (some ⟨tb, 0, none⟩)), (9, S txt), (11, .int .i64 ((j : Int) + 1))])
    (fun j ds' w' => ds' = [] ∧ 1 ≤ j ∧ j ≤ gs.length ∧ Keeps NoB w5 w') (fun j => gs.length - j) 1
    ⟨rfl, Nat.le_refl _, by omega, Keeps.refl _ _⟩ ⟨rfl, rfl, rfl, rfl, rfl, rfl, trivial⟩ ?_
  rintro j ds' f1 w6 ⟨rfl, hj1, hj2, hk6⟩
  have hT6 := hT5.kin hk6
  by_cases hjl : j < gs.length
  · obtain ⟨bv, ov, rfl, curv, ev', frv, hbv, hrv⟩ := hav (by omega)
    obtain ⟨⟨g1, g2⟩, hgj⟩ : ∃ g, gs[j]? = some g := ⟨gs[j], by simp [hjl]⟩
    obtain ⟨⟨n1, n2⟩, hnj⟩ : ∃ n, N[j]? = some n := ⟨N[j]'(by omega), by simp [show j < N.length by omega]⟩
    obtain ⟨hge1, hge2⟩ := hg2.el j _ _ hgj hnj
    dsimp only at hge1 hge2
    obtain ⟨ac, cc, rfl, hcc, hatc⟩ := slr_ints hge2
    have hbv6 := (hk24.trans hk6).heap hbv (fun h => h)
    have hvv : curv[ov + j * 2 + 1]? = some (.slice ac n2.length cc) := cell_elem (g := GNc) (k := 2) (n := gs.length) (i := j) (j := 1) GNc_len hrv hjl hgj rfl
    have hnl : n2.length ≤ 1000000 := (hNb _ (List.mem_of_getElem? hnj)).1
    obtain ⟨m, hm, _, hmc, hmu, hmp⟩ := hO.node hnj
    dsimp only at hmc hmp
    have hpar : parT T ((j : Int) + 1) = parAt T (j + 1) := parT_nat (k := j + 1) (by omega) (by have := hO.len; omega)
    have hupk : upT T ((j : Int) + 1) = decide (¬ bitF f ((j : Int) + 1)) := by
      rw [hU]
      congr 1
      apply propext
      constructor
      · exact fun g h => g.2.2 ⟨by omega, by omega, h⟩
      · exact fun g => ⟨by omega, by omega, fun h => g h.2.2⟩
    have hup' : upT T ((j + 1 : Nat) : Int) = upT T ((j : Int) + 1) := rfl
    rw [hup', hupk] at hmp
    (repeat first | (apply wr_move; exact rfl; with_reducible (conv => enter [6, 3]; whnf)) | (apply wr_assign; exact rfl; with_reducible (conv => enter [6, 3]; whnf)) | apply wr_end | apply wc_seq | apply wc_region | apply wc_skip | apply wc_block | (apply wr_len_slice; iterate 2 exact rfl) | (apply wr_cmp; (iterate 3 exact rfl); exact cmpT (by dsimp only [cmpP]; first | done | omega)) | (apply wr_sub; (iterate 3 exact rfl); exact w_fit (by dsimp only [kIn]; first | done | omega)) | (apply wc_true; exact rfl))
    rw [show (j : Int) + 1 - 1 = j by omega]
    refine wr_indexAddr (i := j) rfl rfl rfl hjl ?_
    refine wr_fieldAddr rfl rfl ?_
    refine wr_load (v := .slice ac n2.length cc) rfl rfl rfl hbv6 hvv ?_
    (repeat first | (apply wr_assign; exact rfl; with_reducible (conv => enter [6, 3]; whnf)) | apply wr_end | apply wc_block | (apply wr_len_slice; iterate 2 exact rfl) | (apply wr_sub; (iterate 3 exact rfl); exact w_fit (by dsimp only [kIn]; first | done | omega)))
    refine wc_loopL (α := Nat) (fun r => [(1, .int .u16 (f : Int)), (5, .bool true), (6, .slice (some ⟨bv, ov, none⟩) gs.length cv), (7, .pointer (some ⟨tb, 0, none⟩)), (9, S txt), (11, .int .i64 ((j : Int) + 1)), (12, .int .i64 (((n2.drop r).find? (upT T)).getD 0)), (13, .int .i64 ((r : Int) - 1))])
      (fun r ds' w' => ds' = [] ∧ r ≤ n2.length ∧ w' = w6) (fun r => r) n2.length
      ⟨rfl, Nat.le_refl _, rfl⟩ ⟨rfl, rfl, rfl, rfl, rfl, rfl, by rw [List.drop_length]; rfl, rfl, trivial⟩ ?_
    rintro r ds' f2 w7 ⟨rfl, hr, rfl⟩
    rcases Nat.eq_zero_or_pos r with rfl | hr0
    · rw [List.drop_zero]
      have hbk : bitF f ((j : Int) + 1) ↔ f / 2 ^ (j + 1) % 2 = 1 := by
        unfold bitF
        rw [show ((j : Int) + 1).toNat = j + 1 by omega]
      have hm2 : f / 2 ^ (j + 1) % 2 < 2 := Nat.mod_lt _ (by decide)
      by_cases hb : bitF f ((j : Int) + 1)
      · have hq := hbk.1 hb
        rw [decide_eq_false (fun h => h hb)] at hupk hmp
        rw [if_neg (by decide)] at hmp
        (repeat first | (apply wr_move; exact rfl; with_reducible (conv => enter [6, 3]; whnf)) | apply wr_end | apply wc_seq | apply wc_region | (apply wr_cmp; (iterate 3 exact rfl); exact cmpF (by dsimp only [cmpN]; first | done | omega)) | (apply wc_false; exact rfl) | (apply wc_exit; try simp only [thenE, inBlockE, bodyQ, ↓reduceIte, Nat.reduceEqDiff]))
        refine wr_shrN (n := f) (j + 1) rfl rfl rfl (by show j + 1 ≤ 16; omega) ?_
        refine wr_remN (n := f / 2 ^ (j + 1)) (m := 2) rfl rfl rfl (by decide) ?_
        rw [hq]
        (repeat first | (apply wr_assign; exact rfl; with_reducible (conv => enter [6, 3]; whnf)) | apply wr_end | apply wc_seq | apply wc_region | (apply wr_cmp; (iterate 3 exact rfl); exact cmpT (by dsimp only [cmpP]; first | done | omega)) | (apply wc_true; exact rfl))
        have hkd : Keeps NoB w5 w7.drew := hk6.drew
        have hT7 := hT5.kin hkd
        refine wc_drawS (l := _) (S := fun w' => w' = w7.drew) (by kernel_rfl) (by kernel_rfl) rfl ?_
        apply ch_step
        focus
          intro w' hS
          subst hS
          (repeat first | (apply wr_move; exact rfl; with_reducible (conv => enter [6, 3]; whnf)) | (apply wr_nil; try simp only [thenE, inBlockE, bodyQ]))
          exact ⟨rfl, by trivial⟩
        apply ch_step
        focus
          intro w' hS
          subst hS
          (repeat first | (apply wr_move; exact rfl; with_reducible (conv => enter [6, 3]; whnf)) | (apply wr_nil; try simp only [thenE, inBlockE, bodyQ]))
          exact ⟨rfl, by trivial⟩
        apply ch_step
        focus
          intro w' hS
          subst hS
          refine wr_call (vs := [.pointer (some ⟨tb, 0, none⟩), .int .i64 ((j : Int) + 1)]) rfl (parent_ca ((j : Int) + 1) _ hT7) rfl ?_
          rintro v w4 ⟨rfl, rfl⟩
          apply wr_nil
          exact ⟨rfl, rfl⟩
        rw [hpar, hmp]
        apply ch_step
        focus
          intro w' hS
          subst hS
          (repeat first | (apply wr_move; exact rfl; with_reducible (conv => enter [6, 3]; whnf)) | (apply wr_nil; try simp only [thenE, inBlockE, bodyQ]))
          exact ⟨rfl, by trivial⟩
        apply ch_step
        focus
          intro w' hS
          subst hS
          (repeat first | (apply wr_cmp; (iterate 3 exact rfl); exact cmpF (by dsimp only [cmpN]; first | done | omega)) | (apply wr_nil; try simp only [thenE, inBlockE, bodyQ]))
          exact ⟨rfl, by trivial⟩
        apply ch_step
        focus
          intro w' hS
          subst hS
          (repeat first | (apply wr_move; exact rfl; with_reducible (conv => enter [6, 3]; whnf)) | (apply wr_nil; try simp only [thenE, inBlockE, bodyQ]))
          exact ⟨rfl, by trivial⟩
        apply ch_step
        focus
          intro w' hS
          subst hS
          (repeat first | (apply wr_move; exact rfl; with_reducible (conv => enter [6, 3]; whnf)) | (apply wr_nil; try simp only [thenE, inBlockE, bodyQ]))
          exact ⟨rfl, by trivial⟩
        apply ch_step
        focus
          intro w' hS
          subst hS
          (repeat first | (apply wr_move; exact rfl; with_reducible (conv => enter [6, 3]; whnf)) | (apply wr_nil; try simp only [thenE, inBlockE, bodyQ]))
          exact ⟨rfl, by trivial⟩
        apply ch_step
        focus
          intro w' hS
          subst hS
          refine wr_call (vs := [.pointer (some ⟨tb, 0, none⟩), .int .i64 ((j : Int) + 1)]) rfl (up_ca ((j : Int) + 1) _ hT7) rfl ?_
          rintro v w4 ⟨rfl, rfl⟩
          apply wr_nil
          exact ⟨rfl, rfl⟩
        rw [hupk]
        apply ch_step
        focus
          intro w' hS
          subst hS
          (repeat first | (apply wr_move; exact rfl; with_reducible (conv => enter [6, 3]; whnf)) | (apply wr_nil; try simp only [thenE, inBlockE, bodyQ]))
          exact ⟨rfl, by trivial⟩
        apply ch_step
        focus
          intro w' hS
          subst hS
          (repeat first | (apply wr_move; exact rfl; with_reducible (conv => enter [6, 3]; whnf)) | (apply wr_nil; try simp only [thenE, inBlockE, bodyQ]))
          exact ⟨rfl, by trivial⟩
        apply ch_step
        focus
          intro w' hS
          subst hS
          refine wr_shrN (n := f) (j + 1) rfl rfl rfl (by show j + 1 ≤ 16; omega) ?_
          apply wr_nil
          exact ⟨rfl, rfl⟩
        apply ch_step
        focus
          intro w' hS
          subst hS
          refine wr_remN (n := f / 2 ^ (j + 1)) (m := 2) rfl rfl rfl (by decide) ?_
          apply wr_nil
          exact ⟨rfl, rfl⟩
        rw [hq]
        apply ch_step
        focus
          intro w' hS
          subst hS
          (repeat first | (apply wr_cmp; (iterate 3 exact rfl); exact cmpF (by dsimp only [cmpN]; first | done | omega)) | (apply wr_nil; try simp only [thenE, inBlockE, bodyQ]))
          exact ⟨rfl, by trivial⟩
        apply ch_step
        focus
          intro w' hS
          subst hS
          refine wr_boolNe (c := false) rfl rfl rfl (by simp) ?_
          apply wr_nil
          exact ⟨rfl, rfl⟩
        apply ch_step
        focus
          intro w' hS
          subst hS
          (repeat first | (apply wr_pick (t := false); (iterate 2 exact rfl); with_reducible (conv => enter [6, 3]; whnf)) | (apply wr_nil; try simp only [thenE, inBlockE, bodyQ]))
          exact ⟨rfl, by trivial⟩
        refine ch_nil ?_
        intro w' hS
        subst hS
        (repeat first | (apply wr_move; exact rfl; with_reducible (conv => enter [6, 3]; whnf)) | (apply wr_assign; exact rfl; with_reducible (conv => enter [6, 3]; whnf)) | apply wr_end | apply wc_region | apply wc_skip | (apply wr_add; (iterate 3 exact rfl); exact w_fit (by dsimp only [kIn]; first | done | omega)) | (apply wc_false; exact rfl))
        exact ⟨j + 1, by omega, ⟨by trivial, by omega, by omega, hkd⟩, rfl, rfl, rfl, rfl, rfl, by simp, trivial⟩
      · have hq : f / 2 ^ (j + 1) % 2 = 0 := by
          have : ¬ f / 2 ^ (j + 1) % 2 = 1 := fun h => hb (hbk.2 h)
          omega
        rw [decide_eq_true hb] at hupk hmp
        rw [if_pos rfl] at hmp
        (repeat first | (apply wr_move; exact rfl; with_reducible (conv => enter [6, 3]; whnf)) | apply wr_end | apply wc_seq | apply wc_region | (apply wr_cmp; (iterate 3 exact rfl); exact cmpF (by dsimp only [cmpN]; first | done | omega)) | (apply wc_false; exact rfl) | (apply wc_exit; try simp only [thenE, inBlockE, bodyQ, ↓reduceIte, Nat.reduceEqDiff]))
        refine wr_shrN (n := f) (j + 1) rfl rfl rfl (by show j + 1 ≤ 16; omega) ?_
        refine wr_remN (n := f / 2 ^ (j + 1)) (m := 2) rfl rfl rfl (by decide) ?_
        rw [hq]
        (repeat first | apply wr_end | apply wc_seq | apply wc_skip | (apply wr_cmp; (iterate 3 exact rfl); exact cmpF (by dsimp only [cmpN]; first | done | omega)) | (apply wc_false; exact rfl))
        have hkd : Keeps NoB w5 w7.drew := hk6.drew
        have hT7 := hT5.kin hkd
        refine wc_drawS (l := _) (S := fun w' => w' = w7.drew) (by kernel_rfl) (by kernel_rfl) rfl ?_
        apply ch_step
        focus
          intro w' hS
          subst hS
          (repeat first | (apply wr_move; exact rfl; with_reducible (conv => enter [6, 3]; whnf)) | (apply wr_nil; try simp only [thenE, inBlockE, bodyQ]))
          exact ⟨rfl, by trivial⟩
        apply ch_step
        focus
          intro w' hS
          subst hS
          (repeat first | (apply wr_move; exact rfl; with_reducible (conv => enter [6, 3]; whnf)) | (apply wr_nil; try simp only [thenE, inBlockE, bodyQ]))
          exact ⟨rfl, by trivial⟩
        apply ch_step
        focus
          intro w' hS
          subst hS
          refine wr_call (vs := [.pointer (some ⟨tb, 0, none⟩), .int .i64 ((j : Int) + 1)]) rfl (parent_ca ((j : Int) + 1) _ hT7) rfl ?_
          rintro v w4 ⟨rfl, rfl⟩
          apply wr_nil
          exact ⟨rfl, rfl⟩
        rw [hpar, hmp]
        apply ch_step
        focus
          intro w' hS
          subst hS
          (repeat first | (apply wr_move; exact rfl; with_reducible (conv => enter [6, 3]; whnf)) | (apply wr_nil; try simp only [thenE, inBlockE, bodyQ]))
          exact ⟨rfl, by trivial⟩
        apply ch_step
        focus
          intro w' hS
          subst hS
          (repeat first | (apply wr_cmp; (iterate 3 exact rfl); exact cmpF (by dsimp only [cmpN]; first | done | omega)) | (apply wr_nil; try simp only [thenE, inBlockE, bodyQ]))
          exact ⟨rfl, by trivial⟩
        apply ch_step
        focus
          intro w' hS
          subst hS
          (repeat first | (apply wr_move; exact rfl; with_reducible (conv => enter [6, 3]; whnf)) | (apply wr_nil; try simp only [thenE, inBlockE, bodyQ]))
          exact ⟨rfl, by trivial⟩
        apply ch_step
        focus
          intro w' hS
          subst hS
          (repeat first | (apply wr_move; exact rfl; with_reducible (conv => enter [6, 3]; whnf)) | (apply wr_nil; try simp only [thenE, inBlockE, bodyQ]))
          exact ⟨rfl, by trivial⟩
        apply ch_step
        focus
          intro w' hS
          subst hS
          (repeat first | (apply wr_move; exact rfl; with_reducible (conv => enter [6, 3]; whnf)) | (apply wr_nil; try simp only [thenE, inBlockE, bodyQ]))
          exact ⟨rfl, by trivial⟩
        apply ch_step
        focus
          intro w' hS
          subst hS
          refine wr_call (vs := [.pointer (some ⟨tb, 0, none⟩), .int .i64 ((j : Int) + 1)]) rfl (up_ca ((j : Int) + 1) _ hT7) rfl ?_
          rintro v w4 ⟨rfl, rfl⟩
          apply wr_nil
          exact ⟨rfl, rfl⟩
        rw [hupk]
        apply ch_step
        focus
          intro w' hS
          subst hS
          (repeat first | (apply wr_move; exact rfl; with_reducible (conv => enter [6, 3]; whnf)) | (apply wr_nil; try simp only [thenE, inBlockE, bodyQ]))
          exact ⟨rfl, by trivial⟩
        apply ch_step
        focus
          intro w' hS
          subst hS
          (repeat first | (apply wr_move; exact rfl; with_reducible (conv => enter [6, 3]; whnf)) | (apply wr_nil; try simp only [thenE, inBlockE, bodyQ]))
          exact ⟨rfl, by trivial⟩
        apply ch_step
        focus
          intro w' hS
          subst hS
          refine wr_shrN (n := f) (j + 1) rfl rfl rfl (by show j + 1 ≤ 16; omega) ?_
          apply wr_nil
          exact ⟨rfl, rfl⟩
        apply ch_step
        focus
          intro w' hS
          subst hS
          refine wr_remN (n := f / 2 ^ (j + 1)) (m := 2) rfl rfl rfl (by decide) ?_
          apply wr_nil
          exact ⟨rfl, rfl⟩
        rw [hq]
        apply ch_step
        focus
          intro w' hS
          subst hS
          (repeat first | (apply wr_cmp; (iterate 3 exact rfl); exact cmpT (by dsimp only [cmpP]; first | done | omega)) | (apply wr_nil; try simp only [thenE, inBlockE, bodyQ]))
          exact ⟨rfl, by trivial⟩
        apply ch_step
        focus
          intro w' hS
          subst hS
          refine wr_boolNe (c := false) rfl rfl rfl (by simp) ?_
          apply wr_nil
          exact ⟨rfl, rfl⟩
        apply ch_step
        focus
          intro w' hS
          subst hS
          (repeat first | (apply wr_pick (t := false); (iterate 2 exact rfl); with_reducible (conv => enter [6, 3]; whnf)) | (apply wr_nil; try simp only [thenE, inBlockE, bodyQ]))
          exact ⟨rfl, by trivial⟩
        refine ch_nil ?_
        intro w' hS
        subst hS
        (repeat first | (apply wr_move; exact rfl; with_reducible (conv => enter [6, 3]; whnf)) | (apply wr_assign; exact rfl; with_reducible (conv => enter [6, 3]; whnf)) | apply wr_end | apply wc_region | apply wc_skip | (apply wr_add; (iterate 3 exact rfl); exact w_fit (by dsimp only [kIn]; first | done | omega)) | (apply wc_false; exact rfl))
        exact ⟨j + 1, by omega, ⟨by trivial, by omega, by omega, hkd⟩, rfl, rfl, rfl, rfl, rfl, by simp, trivial⟩
    · obtain ⟨q, rfl⟩ : ∃ q, r = q + 1 := ⟨r - 1, by omega⟩
      obtain ⟨bc, oc, rfl, curc, ec, frc, hbc, hrc⟩ := hatc (by omega)
      have hbc6 := (hk24.trans hk6).heap hbc (fun h => h)
      obtain ⟨c, hc⟩ : ∃ c, n2[q]? = some c := ⟨n2[q]'(by omega), by simp [show q < n2.length by omega]⟩
      have hdrop : n2.drop q = c :: n2.drop (q + 1) := by
        rw [List.drop_eq_getElem_cons (show q < n2.length by omega)]
        rw [(List.getElem?_eq_some_iff.1 hc).2]
      rw [show (((q + 1 : Nat) : Int) - 1) = (q : Int) by omega]
      (repeat first | (apply wr_move; exact rfl; with_reducible (conv => enter [6, 3]; whnf)) | apply wr_end | apply wc_seq | apply wc_region | apply wc_skip | apply wc_block | (apply wr_cmp; (iterate 3 exact rfl); exact cmpT (by dsimp only [cmpP]; first | done | omega)) | (apply wr_sub; (iterate 3 exact rfl); exact w_fit (by dsimp only [kIn]; first | done | omega)) | (apply wc_true; exact rfl))
      rw [show (j : Int) + 1 - 1 = j by omega]
      refine wr_indexAddr (i := j) rfl rfl rfl hjl ?_
      refine wr_fieldAddr rfl rfl ?_
      refine wr_load (v := .slice (some ⟨bc, oc, none⟩) n2.length cc) rfl rfl rfl hbv6 hvv ?_
      (repeat first | (apply wr_move; exact rfl; with_reducible (conv => enter [6, 3]; whnf)))
      refine wr_indexAddr (i := q) rfl rfl rfl (by omega) ?_
      refine wr_load (v := .int .i64 c) rfl rfl rfl hbc6 (hrc q c hc) ?_
      refine wr_call (vs := [.pointer (some ⟨tb, 0, none⟩), .int .i64 c]) rfl (up_ca c w7 hT6) rfl ?_
      rintro v w8 ⟨rfl, rfl⟩
      have hfd : (n2.drop q).find? (upT T) = if upT T c = true then some c else (n2.drop (q + 1)).find? (upT T) := by
        rw [hdrop, List.find?_cons]
        cases upT T c <;> rfl
      cases hu : upT T c with
      | true =>
        rw [hu, if_pos rfl] at hfd
        (repeat first | (apply wr_move; exact rfl; with_reducible (conv => enter [6, 3]; whnf)) | apply wr_end | apply wc_region | (apply wr_sub; (iterate 3 exact rfl); exact w_fit (by dsimp only [kIn]; first | done | omega)) | (apply wc_true; exact rfl))
        rw [show (j : Int) + 1 - 1 = j by omega]
        refine wr_indexAddr (i := j) rfl rfl rfl hjl ?_
        refine wr_fieldAddr rfl rfl ?_
        refine wr_load (v := .slice (some ⟨bc, oc, none⟩) n2.length cc) rfl rfl rfl hbv6 hvv ?_
        (repeat first | (apply wr_move; exact rfl; with_reducible (conv => enter [6, 3]; whnf)))
        refine wr_indexAddr (i := q) rfl rfl rfl (by omega) ?_
        refine wr_load (v := .int .i64 c) rfl rfl rfl hbc6 (hrc q c hc) ?_
        (repeat first | (apply wr_move; exact rfl; with_reducible (conv => enter [6, 3]; whnf)) | (apply wr_assign; exact rfl; with_reducible (conv => enter [6, 3]; whnf)) | apply wr_end | apply wc_region | (apply wr_sub; (iterate 3 exact rfl); exact w_fit (by dsimp only [kIn]; first | done | omega)) | (apply wr_nil; try simp only [thenE, inBlockE, bodyQ]))
        exact ⟨q, by omega, ⟨by trivial, by omega, rfl⟩, rfl, rfl, rfl, rfl, rfl, rfl, by rw [hfd]; rfl, rfl, trivial⟩
      | false =>
        rw [hu, if_neg (by decide)] at hfd
        (repeat first | (apply wr_move; exact rfl; with_reducible (conv => enter [6, 3]; whnf)) | (apply wr_assign; exact rfl; with_reducible (conv => enter [6, 3]; whnf)) | apply wr_end | apply wc_region | apply wc_skip | (apply wr_sub; (iterate 3 exact rfl); exact w_fit (by dsimp only [kIn]; first | done | omega)) | (apply wc_false; exact rfl))
        exact ⟨q, by omega, ⟨by trivial, by omega, rfl⟩, rfl, rfl, rfl, rfl, rfl, rfl, by rw [hfd], rfl, trivial⟩
  have hje : j = gs.length := by omega
  subst hje
  have hU2 : UpR N.length f 2 T := by
    rw [hgl] at hU
    exact hU.rev
  (repeat first | (apply wr_move; exact rfl; with_reducible (conv => enter [6, 3]; whnf)) | (apply wr_assign; exact rfl; with_reducible (conv => enter [6, 3]; whnf)) | apply wr_end | apply wc_seq | apply wc_region | apply wc_block | (apply wr_len_slice; iterate 2 exact rfl) | (apply wr_cmp; (iterate 3 exact rfl); exact cmpF (by dsimp only [cmpN]; first | done | omega)) | (apply wc_false; exact rfl) | (apply wc_exit; try simp only [thenE, inBlockE, bodyQ, ↓reduceIte, Nat.reduceEqDiff]))
  refine wc_loopL (α := Nat) (fun k => [(5, .bool true), (6, .slice av gs.length cv), (7, .pointer (some ⟨tb, 0, none⟩)), (9, S txt), (14, .int .i64 (k : Int))])
    (fun k ds' w' => ds' = [] ∧ 2 ≤ k ∧ k ≤ gs.length + 1 ∧ ∃ T, Ok4 N X T ∧ UpR N.length f k T ∧ TreeAt w' tb lb cap T X ∧ Keeps (TD X) w6 w') (fun k => gs.length + 1 - k) 2
    ⟨rfl, Nat.le_refl _, by omega, T, hO, hU2, hT6, Keeps.refl _ _⟩ ⟨rfl, rfl, rfl, rfl, rfl, trivial⟩ ?_
  rintro k ds' f2 w7 ⟨rfl, hk1', hk2', T', hO', hU', hT7, hk7⟩
  by_cases hkl : k ≤ gs.length
  · (repeat first | (apply wr_move; exact rfl; with_reducible (conv => enter [6, 3]; whnf)) | apply wr_end | apply wc_seq | apply wc_region | apply wc_skip | apply wc_block | (apply wr_len_slice; iterate 2 exact rfl) | (apply wr_cmp; (iterate 3 exact rfl); exact cmpT (by dsimp only [cmpP]; first | done | omega)) | (apply wc_true; exact rfl))
    refine wr_call (vs := [.pointer (some ⟨tb, 0, none⟩), .int .i64 (k : Int)]) rfl (rise_ca (k : Int) w7 hT7 hO'.wf) rfl ?_
    rintro tv w8 ⟨_, hT8, hk8⟩
    (repeat first | (apply wr_move; exact rfl; with_reducible (conv => enter [6, 3]; whnf)) | (apply wr_assign; exact rfl; with_reducible (conv => enter [6, 3]; whnf)) | apply wr_end | apply wc_region | (apply wr_add; (iterate 3 exact rfl); exact w_fit (by dsimp only [kIn]; first | done | omega)) | (apply wr_nil; try simp only [thenE, inBlockE, bodyQ]))
    exact ⟨k + 1, by omega, ⟨by trivial, by omega, by omega, _, hO'.rise k, hU'.step hO' hk1' (by omega), hT8, hk7.trans hk8⟩, rfl, rfl, rfl, rfl, by simp, trivial⟩
  have hke : k = gs.length + 1 := by omega
  subst hke
  have hTe : T' = newT N := by
    rw [hgl] at hU'
    exact hU'.done hO'
  subst hTe
  (repeat first | (apply wr_move; exact rfl; with_reducible (conv => enter [6, 3]; whnf)) | apply wr_end | apply wc_seq | apply wc_region | (apply wr_len_slice; iterate 2 exact rfl) | (apply wr_cmp; (iterate 3 exact rfl); exact cmpF (by dsimp only [cmpN]; first | done | omega)) | (apply wc_false; exact rfl) | (apply wc_exit; try simp only [thenE, inBlockE, bodyQ, ↓reduceIte, Nat.reduceEqDiff]))
  refine wr_call (vs := [.pointer (some ⟨tb, 0, none⟩)]) rfl (text_ca w7 hT7 (by omega) (hO'.parB (by omega))) rfl ?_
  rintro v w8 ⟨rfl, hk8⟩
  rw [← htxt]
  (repeat first | (apply wr_move; exact rfl; with_reducible (conv => enter [6, 3]; whnf)) | (apply wr_assign; exact rfl; with_reducible (conv => enter [6, 3]; whnf)) | apply wr_end | (apply wr_pick (t := true); (iterate 2 exact rfl); with_reducible (conv => enter [6, 3]; whnf)) | (apply wr_streqc; (iterate 3 exact rfl); (first | exact decide_eq_true (by with_reducible assumption) | exact decide_eq_false (by with_reducible assumption) | exact decide_eq_true rfl | exact rfl)) | (apply wc_ret; try simp only [thenE, inBlockE, bodyQ]))
  have hk27 : Keeps NoB w2 w7 := Keeps.trans' (hk24.trans hk6) hk7 (fun k hk h => by have := hfr k h; omega)
  exact leave1 (v := .bool true) rfl rfl ⟨rfl, hkw2.trans (hk27.trans hk8)⟩
end Go.Proofs.YthjpgkefifkhjaaDoor
