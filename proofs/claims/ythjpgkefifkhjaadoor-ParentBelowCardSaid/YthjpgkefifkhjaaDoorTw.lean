/- ParentBelow: the walk. -/
import Derived.Test.YthjpgkefifkhjaaDoorTv
namespace Go.Proofs.YthjpgkefifkhjaaDoor
open Go Go.V Go.RowKit
set_option linter.unusedVariables false
set_option linter.unusedSimpArgs false

def manyI (T : List ND) (L : Nat) : Nat → Int
  | 0 => 0
  | m + 1 => manyI T L m + (belowN T ((m + 1 : Nat) : Int) L).length - (if parAt T (m + 1) = 0 then 0 else 1)
def sumB (T : List ND) (n : Nat) : Nat → Nat
  | 0 => 0
  | m + 1 => sumB T n m + (belowN T ((m + 1 : Nat) : Int) n).length
def cntP (T : List ND) : Nat → Nat
  | 0 => 0
  | m + 1 => cntP T m + (if parAt T (m + 1) = 0 then 0 else 1)
theorem manyI_eq (T : List ND) (L : Nat) : ∀ m, manyI T L m = (sumB T L m : Int) - (cntP T m : Int)
  | 0 => rfl
  | m + 1 => by
    unfold manyI sumB cntP
    rw [manyI_eq T L m]
    split <;> omega
theorem sumB_snoc (T : List ND) (n : Nat) : ∀ m, sumB T (n + 1) m = sumB T n m + (if 0 < n ∧ 1 ≤ parAt T n ∧ parAt T n ≤ (m : Int) then 1 else 0)
  | 0 => by
    unfold sumB
    rw [if_neg (by omega)]
  | m + 1 => by
    unfold sumB
    rw [sumB_snoc T n m, belowN_snoc, List.length_append]
    by_cases h : 0 < n ∧ 0 < (((m + 1 : Nat)) : Int) ∧ parAt T n = ((m + 1 : Nat) : Int)
    · rw [if_pos h, if_neg (by omega), if_pos (by omega)]
      simp only [List.length_singleton]
      omega
    · rw [if_neg h]
      by_cases h2 : 0 < n ∧ 1 ≤ parAt T n ∧ parAt T n ≤ (m : Int)
      · rw [if_pos h2, if_pos (by omega)]
        simp only [List.length_nil]
        omega
      · rw [if_neg h2, if_neg (by omega)]
        simp only [List.length_nil]
        omega
theorem sumB_zero (T : List ND) : ∀ m, sumB T 0 m = 0
  | 0 => rfl
  | m + 1 => by unfold sumB; rw [sumB_zero T m]; rfl
theorem sumB_cnt {T : List ND} {M : Nat} (h : ∀ j, 0 < j → j ≤ M → 0 ≤ parAt T j ∧ parAt T j ≤ (M : Int)) : ∀ n, n ≤ M → sumB T (n + 1) M = cntP T n
  | 0, _ => by rw [sumB_snoc, sumB_zero, if_neg (by omega)]; rfl
  | n + 1, hn => by
    rw [sumB_snoc, sumB_cnt h n (by omega)]
    have := h (n + 1) (by omega) hn
    rw [show cntP T (n + 1) = cntP T n + (if parAt T (n + 1) = 0 then 0 else 1) from rfl]
    by_cases h0 : parAt T (n + 1) = 0
    · rw [if_pos h0, if_neg (by omega)]
    · rw [if_neg h0, if_pos (by omega)]
theorem manyI_done {T : List ND} {M : Nat} (h : ∀ j, 0 < j → j ≤ M → 0 ≤ parAt T j ∧ parAt T j ≤ (M : Int)) : manyI T (M + 1) M = 0 := by
  rw [manyI_eq, sumB_cnt h M (Nat.le_refl _)]; omega
theorem manyI_bound (T : List ND) (L : Nat) : ∀ m : Nat, -(m : Int) ≤ manyI T L m ∧ manyI T L m ≤ ((m * L : Nat) : Int)
  | 0 => ⟨by show -((0 : Nat) : Int) ≤ 0; omega, by show (0 : Int) ≤ _; omega⟩
  | m + 1 => by
    have h := manyI_bound T L m
    have hb := belowN_len T ((m + 1 : Nat) : Int) L
    rw [Nat.succ_mul, show manyI T L (m + 1) = manyI T L m + (belowN T ((m + 1 : Nat) : Int) L).length - (if parAt T (m + 1) = 0 then 0 else 1) from rfl]
    split <;> omega
theorem belowN_mem {T : List ND} {id : Int} {n k : Nat} (h : k ∈ belowN T id n) : 0 < k ∧ k < n ∧ parAt T k = id ∧ 0 < id := by
  unfold belowN at h
  rw [List.mem_filter, List.mem_range, decide_eq_true_iff] at h
  exact ⟨h.2.1, h.1, h.2.2.2, h.2.2.1⟩
theorem belowN_lt {T : List ND} {id : Int} {n i : Nat} {a b : Nat} (h1 : (belowN T id n)[i]? = some a) (h2 : (belowN T id n)[i + 1]? = some b) : a < b := by
  have hp : (belowN T id n).Pairwise (· < ·) := by unfold belowN; exact List.Pairwise.filter _ List.pairwise_lt_range
  rw [List.pairwise_iff_getElem] at hp
  have l1 := (List.getElem?_eq_some_iff.1 h1)
  have l2 := (List.getElem?_eq_some_iff.1 h2)
  obtain ⟨g1, e1⟩ := l1
  obtain ⟨g2, e2⟩ := l2
  have := hp i (i + 1) g1 g2 (by omega)
  rw [e1, e2] at this
  exact this
/-- Whoever stands above is there, and up. -/
theorem Ok4.par {N : List NG} {X : List NL} {T : List ND} (h : Ok4 N X T) {k : Nat} (hk : k < T.length) : parAt T k = 0 ∨ (inT T (parAt T k) ∧ upT T (parAt T k) = true) := by
  have hn : T[k]? = some T[k] := by simp [hk]
  have hx : X[k]? = some (X[k]'(by rw [h.xl]; exact hk)) := by simp [h.xl, hk]
  obtain ⟨_, hc, _⟩ := h.wf k _ _ hn hx
  have hp : parAt T k = T[k].par := by unfold parAt; rw [getD_of hn]
  rw [hp, h.calm.par hn]
  split
  · cases hf : T[k].cands.find? (upT T) with
    | none => exact .inl rfl
    | some c => exact .inr ⟨hc c (List.mem_of_find?_eq_some hf), List.find?_some hf⟩
  · exact .inl rfl
theorem Ok4.down {N : List NG} {X : List NL} {T : List ND} (h : Ok4 N X T) {k : Nat} (h1 : 1 ≤ k) (hk : k < T.length) (hu : upT T (k : Int) = false) : parAt T k = 0 ∧ belowN T (k : Int) T.length = [] := by
  have hn : T[k]? = some T[k] := by simp [hk]
  have hp : parAt T k = T[k].par := by unfold parAt; rw [getD_of hn]
  have hup : T[k].up = false := by
    unfold upT at hu
    rw [if_pos (by unfold inT; omega), ndAt_of (n := T[k]) (by rw [Int.toNat_natCast]; exact hn)] at hu
    exact hu
  refine ⟨by rw [hp, h.calm.par hn, hup]; rfl, ?_⟩
  rw [List.eq_nil_iff_forall_not_mem]
  intro j hj
  obtain ⟨h1', h2', h3', _⟩ := belowN_mem hj
  rcases h.par h2' with e | ⟨_, e⟩
  · rw [e] at h3'; omega
  · rw [h3', hu] at e; cases e
set_option maxRecDepth 100000 in
set_option maxHeartbeats 8000000 in
theorem below_law (ss : List SK) (sl : Value) (f : Nat) (w : World) (hsl : SlR w 2 sl ss.length (ss.flatMap GS)) (hok : ∀ x ∈ ss, SKok w x) (hf : f < 65536) :
    Ca Tryd.prog 6 #[sl, .int .u16 (f : Int)] w fun v w' => v = .bool true ∧ Keeps NoB w w' := by
  refine ca_of_body (args := [sl, .int .u16 (f : Int)]) Tryd.func6 rfl (by kernel_rfl) ?_
  (repeat first | (apply wr_assign; exact rfl; with_reducible (conv => enter [6, 3]; whnf)) | apply wr_end | apply wc_seq | apply wc_region)
  refine wr_call (vs := []) rfl (examples_ca w) rfl ?_
  rintro v w1 ⟨rfl, hk1⟩
  (repeat first | (apply wr_move; exact rfl; with_reducible (conv => enter [6, 3]; whnf)) | (apply wr_assign; exact rfl; with_reducible (conv => enter [6, 3]; whnf)) | apply wr_end | apply wc_seq | apply wc_region | apply wc_skip | (apply wr_not; iterate 2 exact rfl) | (apply wc_false; exact rfl))
  refine wr_call (vs := [sl]) rfl (drawn_ca ss sl w1 (hsl.keep hk1 (fun _ _ h => h)) (fun x hx => (hok x hx).keep hk1)) rfl ?_
  rintro nv w2 ⟨N, gs, hD, ho2, hg2, hcv2, hk2⟩
  have hgl := hg2.len
  have hN1 := hD.one
  have hN12 := hD.le
  have hNb : ∀ n ∈ N, n.2.length ≤ 1000000 ∧ ∀ c ∈ n.2, i64B c := fun n hn => by
    obtain ⟨j, hj⟩ := List.getElem?_of_mem hn
    by_cases h0 : j = 0
    · subst h0
      rw [hD.root] at hj
      cases hj
      exact ⟨Nat.zero_le _, fun c hc => nomatch hc⟩
    · obtain ⟨_, h2, _, h4⟩ := hD.ok j n (by omega) hj
      have hjl := (List.getElem?_eq_some_iff.1 hj).1
      exact ⟨by omega, fun c hc => by have := h4 c hc; unfold i64B; omega⟩
  have hnk : ∀ k, nv.ownBlock = some k → w1.heap.size ≤ k := fun k hk => own_ge ho2 hk
  have hnlt : ∀ k, nv.ownBlock = some k → k < w2.heap.size := fun k hk => (ho2.lt k hk).2
  obtain ⟨av, cv, env, hcv, hav⟩ := (SlR.of_own ho2).shape
  subst env
  (repeat first | (apply wr_move; exact rfl; with_reducible (conv => enter [6, 3]; whnf)) | (apply wr_assign; exact rfl; with_reducible (conv => enter [6, 3]; whnf)) | apply wr_end | apply wc_seq | apply wc_region)
  refine wr_call (vs := [.slice av gs.length cv]) rfl (new_ca N gs (.slice av gs.length cv) (by omega) hNb w2 (SlR.of_own ho2) hg2) rfl ?_
  rintro v w3 ⟨⟨_, tb, lb, cap, X, rfl, hM⟩ | ⟨hno, _⟩, hk3⟩
  rotate_left
  · exact absurd hD.right hno
  obtain ⟨hT3, hwf3, hfr⟩ := hM
  have hkw2 : Keeps NoB w w2 := hk1.trans hk2
  have hkw3 : Keeps NoB w w3 := hkw2.trans hk3
  have hl3 := newT_len N
  (repeat first | (apply wr_move; exact rfl; with_reducible (conv => enter [6, 3]; whnf)) | (apply wr_assign; exact rfl; with_reducible (conv => enter [6, 3]; whnf)) | apply wr_end | apply wc_seq | apply wc_region | (apply wr_extract; (iterate 3 exact rfl); with_reducible (conv => enter [6, 3]; whnf)))
  refine wr_ptrNil rfl rfl ?_
  conv => enter [6, 3]; whnf
  have hO0 : Ok4 N X (newT N) := Ok4.new hwf3 hT3.len.symm
  obtain ⟨w4, hw4⟩ : ∃ w4, w4 = w3 := ⟨_, rfl⟩
  rw [← hw4] at hT3 hk3 ⊢
  have hT4 := hT3
  (repeat first | (apply wr_move; exact rfl; with_reducible (conv => enter [6, 3]; whnf)) | (apply wr_assign; exact rfl; with_reducible (conv => enter [6, 3]; whnf)) | apply wr_end | apply wc_seq | apply wc_region | apply wc_skip | apply wc_block | (apply wr_cmp; (iterate 3 exact rfl); exact cmpF (by dsimp only [cmpN]; first | done | omega)) | (apply wr_pick (t := false); (iterate 2 exact rfl); with_reducible (conv => enter [6, 3]; whnf)) | (apply wc_false; exact rfl))
  refine wc_loopL (α := Nat) (fun k => [(1, .int .u16 (f : Int)), (5, .bool true), (6, .slice av gs.length cv), (7, .pointer (some ⟨tb, 0, none⟩)), (9, .int .i64 (k : Int))])
    (fun k ds' w' => ds' = [] ∧ 2 ≤ k ∧ k ≤ gs.length + 1 ∧ ∃ T, Ok4 N X T ∧ UpF N.length f k T ∧ TreeAt w' tb lb cap T X ∧ Keeps (TD X) w4 w') (fun k => gs.length + 1 - k) 2
    ⟨rfl, Nat.le_refl _, by omega, newT N, hO0, UpF.zero f, hT4, Keeps.refl _ _⟩ ⟨rfl, rfl, rfl, rfl, rfl, trivial⟩ ?_
  rintro k ds' f0 w5 ⟨rfl, hk1, hk2, T, hO, hU, hT5, hk5⟩
  by_cases hkl : k ≤ gs.length
  · (repeat first | (apply wr_move; exact rfl; with_reducible (conv => enter [6, 3]; whnf)) | apply wr_end | apply wc_seq | apply wc_region | apply wc_skip | apply wc_block | (apply wr_len_slice; iterate 2 exact rfl) | (apply wr_cmp; (iterate 3 exact rfl); exact cmpT (by dsimp only [cmpP]; first | done | omega)) | (apply wc_true; exact rfl))
    refine wr_shrN (n := f) k rfl rfl rfl (by show k ≤ 16; omega) ?_
    refine wr_remN (n := f / 2 ^ k) (m := 2) rfl rfl rfl (by decide) ?_
    have hbk : bitF f (k : Int) ↔ f / 2 ^ k % 2 = 1 := by unfold bitF; rw [Int.toNat_natCast]
    have hm2 : f / 2 ^ k % 2 < 2 := Nat.mod_lt _ (by decide)
    revert hbk
    generalize f / 2 ^ k % 2 = q at hm2
    intro hbk
    by_cases hq : q = 1
    · have hb := hbk.2 hq
      (repeat first | (apply wr_move; exact rfl; with_reducible (conv => enter [6, 3]; whnf)) | apply wr_end | apply wc_region | (apply wr_cmp; (iterate 3 exact rfl); exact cmpT (by dsimp only [cmpP]; first | done | omega)) | (apply wc_true; exact rfl))
      refine wr_call (vs := [.pointer (some ⟨tb, 0, none⟩), .int .i64 (k : Int)]) rfl (fall_ca (k : Int) w5 hT5 hO.wf) rfl ?_
      rintro tv w6 ⟨_, hT6, hk6⟩
      (repeat first | (apply wr_move; exact rfl; with_reducible (conv => enter [6, 3]; whnf)) | (apply wr_assign; exact rfl; with_reducible (conv => enter [6, 3]; whnf)) | apply wr_end | apply wc_region | (apply wr_add; (iterate 3 exact rfl); exact w_fit (by dsimp only [kIn]; first | done | omega)) | (apply wr_nil; try simp only [thenE, inBlockE, bodyQ]))
      exact ⟨k + 1, by omega, ⟨by trivial, by omega, by omega, _, hO.fall k, hU.step hO hk1 (by omega) hb, hT6, hk5.trans hk6⟩, rfl, rfl, rfl, rfl, by simp, trivial⟩
    · have hb : ¬ bitF f (k : Int) := fun h => hq (hbk.1 h)
      (repeat first | (apply wr_move; exact rfl; with_reducible (conv => enter [6, 3]; whnf)) | (apply wr_assign; exact rfl; with_reducible (conv => enter [6, 3]; whnf)) | apply wr_end | apply wc_region | apply wc_skip | (apply wr_cmp; (iterate 3 exact rfl); exact cmpF (by dsimp only [cmpN]; first | done | omega)) | (apply wr_add; (iterate 3 exact rfl); exact w_fit (by dsimp only [kIn]; first | done | omega)) | (apply wc_false; exact rfl))
      exact ⟨k + 1, by omega, ⟨by trivial, by omega, by omega, T, hO, hU.skip hb, hT5, hk5⟩, rfl, rfl, rfl, rfl, by simp, trivial⟩
  have hke : k = gs.length + 1 := by omega
  subst hke
  have hk24 : Keeps NoB w2 w5 := Keeps.trans' hk3 hk5 (fun k hk h => by have := hfr k h; omega)
  have hTl := hO.len
  have hL : T.length = gs.length + 1 := by omega
  (repeat first | (apply wr_move; exact rfl; with_reducible (conv => enter [6, 3]; whnf)) | (apply wr_assign; exact rfl; with_reducible (conv => enter [6, 3]; whnf)) | apply wr_end | apply wc_seq | apply wc_region | apply wc_block | (apply wr_len_slice; iterate 2 exact rfl) | (apply wr_cmp; (iterate 3 exact rfl); exact cmpF (by dsimp only [cmpN]; first | done | omega)) | (apply wc_false; exact rfl) | (apply wc_exit; try simp only [thenE, inBlockE, bodyQ, ↓reduceIte, Nat.reduceEqDiff]))
  refine wc_loopL (α := Nat) (fun m => [(5, .bool true), (6, .slice av gs.length cv), (7, .pointer (some ⟨tb, 0, none⟩)), (10, .int .i64 (manyI T T.length m)), (11, .int .i64 ((m : Int) + 1))])
    (fun m ds' w' => ds' = [] ∧ m ≤ gs.length ∧ Keeps NoB w5 w') (fun m => gs.length - m) 0
    ⟨rfl, Nat.zero_le _, Keeps.refl _ _⟩ ⟨rfl, rfl, rfl, rfl, rfl, trivial⟩ ?_
  rintro m ds' f1 w6 ⟨rfl, hm, hk6⟩
  have hT6 := hT5.kin hk6
  have hmb := manyI_bound T T.length m
  have hmL : m * T.length ≤ 1000 := Nat.le_trans (Nat.mul_le_mul (show m ≤ 13 by omega) (show T.length ≤ 13 by omega)) (by decide)
  by_cases hml : m < gs.length
  · have hbl := belowN_len T ((m : Int) + 1) T.length
    have hnx : manyI T T.length (m + 1) = manyI T T.length m + (belowN T ((m : Int) + 1) T.length).length - (if parAt T (m + 1) = 0 then 0 else 1) := rfl
    (repeat first | (apply wr_move; exact rfl; with_reducible (conv => enter [6, 3]; whnf)) | apply wr_end | apply wc_seq | apply wc_region | apply wc_skip | apply wc_block | (apply wr_len_slice; iterate 2 exact rfl) | (apply wr_cmp; (iterate 3 exact rfl); exact cmpT (by dsimp only [cmpP]; first | done | omega)) | (apply wc_true; exact rfl))
    refine wr_call (vs := [.pointer (some ⟨tb, 0, none⟩), .int .i64 ((m : Int) + 1)]) rfl (below_ca ((m : Int) + 1) w6 hT6) rfl ?_
    rintro bv w7 ⟨ho7, hk7⟩
    have hs7 := SlR.of_own ho7
    obtain ⟨ab, cb, rfl⟩ := slr_cell1 hs7
    obtain ⟨_, hcb, hatb⟩ := slr_ints' hs7
    generalize hB : belowN T ((m : Int) + 1) T.length = B at *
    have hk57 := hk6.trans hk7
    (repeat first | (apply wr_move; exact rfl; with_reducible (conv => enter [6, 3]; whnf)) | (apply wr_assign; exact rfl; with_reducible (conv => enter [6, 3]; whnf)) | apply wr_end | apply wc_seq | apply wc_region | apply wc_block | (apply wr_len_slice; iterate 2 exact rfl) | (apply wr_add; (iterate 3 exact rfl); exact w_fit (by dsimp only [kIn]; first | done | omega)))
    refine wc_loopL (α := Nat) (fun i => [(5, .bool true), (6, .slice av gs.length cv), (7, .pointer (some ⟨tb, 0, none⟩)), (10, .int .i64 (manyI T T.length m + (B.length : Int))), (11, .int .i64 ((m : Int) + 1)), (12, .slice ab B.length cb), (13, .int .i64 (i : Int))])
      (fun i ds' w' => ds' = [] ∧ i ≤ B.length ∧ Keeps NoB w7 w') (fun i => B.length - i) 0
      ⟨rfl, Nat.zero_le _, Keeps.refl _ _⟩ ⟨rfl, rfl, rfl, rfl, rfl, rfl, rfl, trivial⟩ ?_
    rintro i ds' f2 w8 ⟨rfl, hi, hk8⟩
    have hT8 := hT5.kin (hk57.trans hk8)
    by_cases hil : i < B.length
    · obtain ⟨x, hx⟩ : ∃ x, B[i]? = some x := ⟨B[i], by simp [hil]⟩
      have hxm := List.mem_of_getElem? hx
      rw [← hB] at hxm
      obtain ⟨hx0, hxl, hxp, _⟩ := belowN_mem hxm
      have hpx : parT T (x : Int) = (m : Int) + 1 := by rw [parT_nat hx0 hxl, hxp]
      obtain ⟨bb, ob, rfl, curb, eb, frb, hbb, hrb⟩ := hatb (by omega)
      have hbb8 := hk8.heap hbb (fun h => h)
      have hkd : Keeps NoB w7 w8.drew := hk8.drew
      have hTd := hT5.kin (hk57.trans hkd)
      have hvx : curb[ob + i * 1]? = some (.int .i64 (x : Int)) := by rw [Nat.mul_one]; exact hrb i x hx
      rcases Nat.eq_zero_or_pos i with rfl | hi0
      · (repeat first | (apply wr_move; exact rfl; with_reducible (conv => enter [6, 3]; whnf)) | apply wr_end | apply wc_seq | apply wc_region | apply wc_skip | apply wc_block | (apply wr_len_slice; iterate 2 exact rfl) | (apply wr_cmp; (iterate 3 exact rfl); exact cmpT (by dsimp only [cmpP]; first | done | omega)) | (apply wc_true; exact rfl))
        refine wc_drawS (l := _) (S := fun w' => w' = w8.drew) (by kernel_rfl) (by kernel_rfl) rfl ?_
        apply ch_step
        focus
          intro w' hS
          subst hS
          (repeat first | (apply wr_move; exact rfl; with_reducible (conv => enter [6, 3]; whnf)) | (apply wr_nil; try simp only [thenE, inBlockE, bodyQ]))
          exact ⟨rfl, by trivial⟩
        apply ch_step
        focus
          intro w' hS
          subst hS
          (repeat first | (apply wr_move; exact rfl; with_reducible (conv => enter [6, 3]; whnf)) | (apply wr_nil; try simp only [thenE, inBlockE, bodyQ]))
          exact ⟨rfl, by trivial⟩
        apply ch_step
        focus
          intro w' hS
          subst hS
          (repeat first | (apply wr_move; exact rfl; with_reducible (conv => enter [6, 3]; whnf)) | (apply wr_nil; try simp only [thenE, inBlockE, bodyQ]))
          exact ⟨rfl, by trivial⟩
        apply ch_step
        focus
          intro w' hS
          subst hS
          refine wr_indexAddr (i := 0) rfl rfl rfl hil ?_
          apply wr_nil
          exact ⟨rfl, rfl⟩
        apply ch_step
        focus
          intro w' hS
          subst hS
          refine wr_load (v := .int .i64 (x : Int)) rfl rfl rfl hbb8 hvx ?_
          apply wr_nil
          exact ⟨rfl, rfl⟩
        apply ch_step
        focus
          intro w' hS
          subst hS
          refine wr_call (vs := [.pointer (some ⟨tb, 0, none⟩), .int .i64 (x : Int)]) rfl (parent_ca (x : Int) _ hTd) rfl ?_
          rintro v w4 ⟨rfl, rfl⟩
          apply wr_nil
          exact ⟨rfl, rfl⟩
        rw [hpx]
        apply ch_step
        focus
          intro w' hS
          subst hS
          (repeat first | (apply wr_move; exact rfl; with_reducible (conv => enter [6, 3]; whnf)) | (apply wr_nil; try simp only [thenE, inBlockE, bodyQ]))
          exact ⟨rfl, by trivial⟩
        apply ch_step
        focus
          intro w' hS
          subst hS
          (repeat first | (apply wr_cmp; (iterate 3 exact rfl); exact cmpF (by dsimp only [cmpN]; first | done | omega)) | (apply wr_nil; try simp only [thenE, inBlockE, bodyQ]))
          exact ⟨rfl, by trivial⟩
        apply ch_step
        focus
          intro w' hS
          subst hS
          (repeat first | (apply wr_move; exact rfl; with_reducible (conv => enter [6, 3]; whnf)) | (apply wr_nil; try simp only [thenE, inBlockE, bodyQ]))
          exact ⟨rfl, by trivial⟩
        apply ch_step
        focus
          intro w' hS
          subst hS
          (repeat first | (apply wr_move; exact rfl; with_reducible (conv => enter [6, 3]; whnf)) | (apply wr_nil; try simp only [thenE, inBlockE, bodyQ]))
          exact ⟨rfl, by trivial⟩
        apply ch_step
        focus
          intro w' hS
          subst hS
          (repeat first | (apply wr_cmp; (iterate 3 exact rfl); exact cmpF (by dsimp only [cmpN]; first | done | omega)) | (apply wr_nil; try simp only [thenE, inBlockE, bodyQ]))
          exact ⟨rfl, by trivial⟩
        apply ch_step
        focus
          intro w' hS
          subst hS
          (repeat first | (apply wr_move; exact rfl; with_reducible (conv => enter [6, 3]; whnf)) | (apply wr_nil; try simp only [thenE, inBlockE, bodyQ]))
          exact ⟨rfl, by trivial⟩
        apply ch_step
        focus
          intro w' hS
          subst hS
          (repeat first | (apply wr_nil; try simp only [thenE, inBlockE, bodyQ]) | (apply wr_skip; exact rfl))
          exact ⟨rfl, by trivial⟩
        apply ch_step
        focus
          intro w' hS
          subst hS
          (repeat first | (apply wr_nil; try simp only [thenE, inBlockE, bodyQ]) | (apply wr_skip; exact rfl))
          exact ⟨rfl, by trivial⟩
        apply ch_step
        focus
          intro w' hS
          subst hS
          (repeat first | (apply wr_nil; try simp only [thenE, inBlockE, bodyQ]) | (apply wr_skip; exact rfl))
          exact ⟨rfl, by trivial⟩
        apply ch_step
        focus
          intro w' hS
          subst hS
          (repeat first | (apply wr_nil; try simp only [thenE, inBlockE, bodyQ]) | (apply wr_skip; exact rfl))
          exact ⟨rfl, by trivial⟩
        apply ch_step
        focus
          intro w' hS
          subst hS
          (repeat first | (apply wr_nil; try simp only [thenE, inBlockE, bodyQ]) | (apply wr_skip; exact rfl))
          exact ⟨rfl, by trivial⟩
        apply ch_step
        focus
          intro w' hS
          subst hS
          (repeat first | (apply wr_nil; try simp only [thenE, inBlockE, bodyQ]) | (apply wr_skip; exact rfl))
          exact ⟨rfl, by trivial⟩
        apply ch_step
        focus
          intro w' hS
          subst hS
          (repeat first | (apply wr_nil; try simp only [thenE, inBlockE, bodyQ]) | (apply wr_skip; exact rfl))
          exact ⟨rfl, by trivial⟩
        apply ch_step
        focus
          intro w' hS
          subst hS
          (repeat first | (apply wr_nil; try simp only [thenE, inBlockE, bodyQ]) | (apply wr_skip; exact rfl))
          exact ⟨rfl, by trivial⟩
        apply ch_step
        focus
          intro w' hS
          subst hS
          (repeat first | (apply wr_nil; try simp only [thenE, inBlockE, bodyQ]) | (apply wr_skip; exact rfl))
          exact ⟨rfl, by trivial⟩
        apply ch_step
        focus
          intro w' hS
          subst hS
          (repeat first | (apply wr_nil; try simp only [thenE, inBlockE, bodyQ]) | (apply wr_skip; exact rfl))
          exact ⟨rfl, by trivial⟩
        apply ch_step
        focus
          intro w' hS
          subst hS
          (repeat first | (apply wr_pick (t := false); (iterate 2 exact rfl); with_reducible (conv => enter [6, 3]; whnf)) | (apply wr_nil; try simp only [thenE, inBlockE, bodyQ]))
          exact ⟨rfl, by trivial⟩
        apply ch_step
        focus
          intro w' hS
          subst hS
          (repeat first | (apply wr_pick (t := false); (iterate 2 exact rfl); with_reducible (conv => enter [6, 3]; whnf)) | (apply wr_nil; try simp only [thenE, inBlockE, bodyQ]))
          exact ⟨rfl, by trivial⟩
        refine ch_nil ?_
        intro w' hS
        subst hS
        (repeat first | (apply wr_move; exact rfl; with_reducible (conv => enter [6, 3]; whnf)) | (apply wr_assign; exact rfl; with_reducible (conv => enter [6, 3]; whnf)) | apply wr_end | apply wc_region | apply wc_skip | (apply wr_add; (iterate 3 exact rfl); exact w_fit (by dsimp only [kIn]; first | done | omega)) | (apply wc_false; exact rfl))
        exact ⟨0 + 1, by omega, ⟨by trivial, hil, hkd⟩, rfl, rfl, rfl, rfl, rfl, rfl, by simp, trivial⟩
      · obtain ⟨q, rfl⟩ : ∃ q, i = q + 1 := ⟨i - 1, by omega⟩
        obtain ⟨y, hy⟩ : ∃ y, B[q]? = some y := ⟨B[q]'(by omega), by simp [show q < B.length by omega]⟩
        have hyx : y < x := by rw [← hB] at hx hy; exact belowN_lt hy hx
        have hvy : curb[ob + q * 1]? = some (.int .i64 (y : Int)) := by rw [Nat.mul_one]; exact hrb q y hy
        (repeat first | (apply wr_move; exact rfl; with_reducible (conv => enter [6, 3]; whnf)) | apply wr_end | apply wc_seq | apply wc_region | apply wc_skip | apply wc_block | (apply wr_len_slice; iterate 2 exact rfl) | (apply wr_cmp; (iterate 3 exact rfl); exact cmpT (by dsimp only [cmpP]; first | done | omega)) | (apply wc_true; exact rfl))
        refine wc_drawS (l := _) (S := fun w' => w' = w8.drew) (by kernel_rfl) (by kernel_rfl) rfl ?_
        apply ch_step
        focus
          intro w' hS
          subst hS
          (repeat first | (apply wr_move; exact rfl; with_reducible (conv => enter [6, 3]; whnf)) | (apply wr_nil; try simp only [thenE, inBlockE, bodyQ]))
          exact ⟨rfl, by trivial⟩
        apply ch_step
        focus
          intro w' hS
          subst hS
          (repeat first | (apply wr_move; exact rfl; with_reducible (conv => enter [6, 3]; whnf)) | (apply wr_nil; try simp only [thenE, inBlockE, bodyQ]))
          exact ⟨rfl, by trivial⟩
        apply ch_step
        focus
          intro w' hS
          subst hS
          (repeat first | (apply wr_move; exact rfl; with_reducible (conv => enter [6, 3]; whnf)) | (apply wr_nil; try simp only [thenE, inBlockE, bodyQ]))
          exact ⟨rfl, by trivial⟩
        apply ch_step
        focus
          intro w' hS
          subst hS
          refine wr_indexAddr (i := (q + 1)) rfl rfl rfl hil ?_
          apply wr_nil
          exact ⟨rfl, rfl⟩
        apply ch_step
        focus
          intro w' hS
          subst hS
          refine wr_load (v := .int .i64 (x : Int)) rfl rfl rfl hbb8 hvx ?_
          apply wr_nil
          exact ⟨rfl, rfl⟩
        apply ch_step
        focus
          intro w' hS
          subst hS
          refine wr_call (vs := [.pointer (some ⟨tb, 0, none⟩), .int .i64 (x : Int)]) rfl (parent_ca (x : Int) _ hTd) rfl ?_
          rintro v w4 ⟨rfl, rfl⟩
          apply wr_nil
          exact ⟨rfl, rfl⟩
        rw [hpx]
        apply ch_step
        focus
          intro w' hS
          subst hS
          (repeat first | (apply wr_move; exact rfl; with_reducible (conv => enter [6, 3]; whnf)) | (apply wr_nil; try simp only [thenE, inBlockE, bodyQ]))
          exact ⟨rfl, by trivial⟩
        apply ch_step
        focus
          intro w' hS
          subst hS
          (repeat first | (apply wr_cmp; (iterate 3 exact rfl); exact cmpF (by dsimp only [cmpN]; first | done | omega)) | (apply wr_nil; try simp only [thenE, inBlockE, bodyQ]))
          exact ⟨rfl, by trivial⟩
        apply ch_step
        focus
          intro w' hS
          subst hS
          (repeat first | (apply wr_move; exact rfl; with_reducible (conv => enter [6, 3]; whnf)) | (apply wr_nil; try simp only [thenE, inBlockE, bodyQ]))
          exact ⟨rfl, by trivial⟩
        apply ch_step
        focus
          intro w' hS
          subst hS
          (repeat first | (apply wr_move; exact rfl; with_reducible (conv => enter [6, 3]; whnf)) | (apply wr_nil; try simp only [thenE, inBlockE, bodyQ]))
          exact ⟨rfl, by trivial⟩
        apply ch_step
        focus
          intro w' hS
          subst hS
          (repeat first | (apply wr_cmp; (iterate 3 exact rfl); exact cmpT (by dsimp only [cmpP]; first | done | omega)) | (apply wr_nil; try simp only [thenE, inBlockE, bodyQ]))
          exact ⟨rfl, by trivial⟩
        apply ch_step
        focus
          intro w' hS
          subst hS
          (repeat first | (apply wr_move; exact rfl; with_reducible (conv => enter [6, 3]; whnf)) | (apply wr_nil; try simp only [thenE, inBlockE, bodyQ]))
          exact ⟨rfl, by trivial⟩
        apply ch_step
        focus
          intro w' hS
          subst hS
          (repeat first | (apply wr_move; exact rfl; with_reducible (conv => enter [6, 3]; whnf)) | (apply wr_nil; try simp only [thenE, inBlockE, bodyQ]))
          exact ⟨rfl, by trivial⟩
        apply ch_step
        focus
          intro w' hS
          subst hS
          (repeat first | (apply wr_move; exact rfl; with_reducible (conv => enter [6, 3]; whnf)) | (apply wr_nil; try simp only [thenE, inBlockE, bodyQ]))
          exact ⟨rfl, by trivial⟩
        apply ch_step
        focus
          intro w' hS
          subst hS
          refine wr_sub (c := (q : Int)) rfl rfl rfl (by rw [show ((q + 1 : Nat) : Int) - 1 = q by omega]; exact w_fit (by dsimp only [kIn]; omega)) ?_
          apply wr_nil
          exact ⟨rfl, rfl⟩
        apply ch_step
        focus
          intro w' hS
          subst hS
          refine wr_indexAddr (i := q) rfl rfl rfl (by omega) ?_
          apply wr_nil
          exact ⟨rfl, rfl⟩
        apply ch_step
        focus
          intro w' hS
          subst hS
          refine wr_load (v := .int .i64 (y : Int)) rfl rfl rfl hbb8 hvy ?_
          apply wr_nil
          exact ⟨rfl, rfl⟩
        apply ch_step
        focus
          intro w' hS
          subst hS
          (repeat first | (apply wr_move; exact rfl; with_reducible (conv => enter [6, 3]; whnf)) | (apply wr_nil; try simp only [thenE, inBlockE, bodyQ]))
          exact ⟨rfl, by trivial⟩
        apply ch_step
        focus
          intro w' hS
          subst hS
          (repeat first | (apply wr_move; exact rfl; with_reducible (conv => enter [6, 3]; whnf)) | (apply wr_nil; try simp only [thenE, inBlockE, bodyQ]))
          exact ⟨rfl, by trivial⟩
        apply ch_step
        focus
          intro w' hS
          subst hS
          refine wr_indexAddr (i := q + 1) rfl rfl rfl hil ?_
          apply wr_nil
          exact ⟨rfl, rfl⟩
        apply ch_step
        focus
          intro w' hS
          subst hS
          refine wr_load (v := .int .i64 (x : Int)) rfl rfl rfl hbb8 hvx ?_
          apply wr_nil
          exact ⟨rfl, rfl⟩
        apply ch_step
        focus
          intro w' hS
          subst hS
          (repeat first | (apply wr_cmp; (iterate 3 exact rfl); exact cmpF (by dsimp only [cmpN]; first | done | omega)) | (apply wr_nil; try simp only [thenE, inBlockE, bodyQ]))
          exact ⟨rfl, by trivial⟩
        apply ch_step
        focus
          intro w' hS
          subst hS
          (repeat first | (apply wr_pick (t := true); (iterate 2 exact rfl); with_reducible (conv => enter [6, 3]; whnf)) | (apply wr_nil; try simp only [thenE, inBlockE, bodyQ]))
          exact ⟨rfl, by trivial⟩
        apply ch_step
        focus
          intro w' hS
          subst hS
          (repeat first | (apply wr_pick (t := false); (iterate 2 exact rfl); with_reducible (conv => enter [6, 3]; whnf)) | (apply wr_nil; try simp only [thenE, inBlockE, bodyQ]))
          exact ⟨rfl, by trivial⟩
        refine ch_nil ?_
        intro w' hS
        subst hS
        (repeat first | (apply wr_move; exact rfl; with_reducible (conv => enter [6, 3]; whnf)) | (apply wr_assign; exact rfl; with_reducible (conv => enter [6, 3]; whnf)) | apply wr_end | apply wc_region | apply wc_skip | (apply wr_add; (iterate 3 exact rfl); exact w_fit (by dsimp only [kIn]; first | done | omega)) | (apply wc_false; exact rfl))
        exact ⟨q + 1 + 1, by omega, ⟨by trivial, hil, hkd⟩, rfl, rfl, rfl, rfl, rfl, rfl, by simp, trivial⟩
    have hie : i = B.length := by omega
    subst hie
    have hpar : parT T ((m : Int) + 1) = parAt T (m + 1) := parT_nat (k := m + 1) (by omega) (by omega)
    (repeat first | (apply wr_move; exact rfl; with_reducible (conv => enter [6, 3]; whnf)) | apply wr_end | apply wc_seq | apply wc_region | (apply wr_len_slice; iterate 2 exact rfl) | (apply wr_cmp; (iterate 3 exact rfl); exact cmpF (by dsimp only [cmpN]; first | done | omega)) | (apply wc_false; exact rfl) | (apply wc_exit; try simp only [thenE, inBlockE, bodyQ, ↓reduceIte, Nat.reduceEqDiff]))
    refine wr_call (vs := [.pointer (some ⟨tb, 0, none⟩), .int .i64 ((m : Int) + 1)]) rfl (parent_ca ((m : Int) + 1) w8 hT8) rfl ?_
    rintro v w9 ⟨rfl, rfl⟩
    rw [hpar]
    have hupn : upT T ((m : Int) + 1) = upT T ((m + 1 : Nat) : Int) := rfl
    by_cases hp0 : parAt T (m + 1) = 0
    · rw [if_pos hp0] at hnx
      have hnx' : manyI T T.length (m + 1) = manyI T T.length m + (B.length : Int) := by rw [hnx]; omega
      cases hu : upT T ((m : Int) + 1) with
      | true =>
        (repeat first | (apply wr_move; exact rfl; with_reducible (conv => enter [6, 3]; whnf)) | apply wr_end | apply wc_seq | apply wc_region | apply wc_skip | (apply wr_cmp; (iterate 3 exact rfl); exact cmpF (by dsimp only [cmpN]; first | done | omega)) | (apply wc_false; exact rfl))
        refine wr_call (vs := [.pointer (some ⟨tb, 0, none⟩), .int .i64 ((m : Int) + 1)]) rfl (up_ca ((m : Int) + 1) w9 hT8) rfl ?_
        rintro v w10 ⟨rfl, rfl⟩
        rw [hu]
        (repeat first | (apply wr_move; exact rfl; with_reducible (conv => enter [6, 3]; whnf)) | (apply wr_assign; exact rfl; with_reducible (conv => enter [6, 3]; whnf)) | apply wr_end | apply wc_region | apply wc_skip | (apply wr_not; iterate 2 exact rfl) | (apply wr_pick (t := false); (iterate 2 exact rfl); with_reducible (conv => enter [6, 3]; whnf)) | (apply wr_add; (iterate 3 exact rfl); exact w_fit (by dsimp only [kIn]; first | done | omega)) | (apply wc_false; exact rfl) | (apply wr_skip; exact rfl))
        exact ⟨m + 1, by omega, ⟨by trivial, hml, hk57.trans hk8⟩, rfl, rfl, rfl, by rw [hnx'], by simp, trivial⟩
      | false =>
        have hBn : B = [] := by rw [← hB]; exact (hO.down (k := m + 1) (by omega) (by omega) hu).2
        have hB0 : B.length = 0 := by rw [hBn]; rfl
        (repeat first | (apply wr_move; exact rfl; with_reducible (conv => enter [6, 3]; whnf)) | apply wr_end | apply wc_seq | apply wc_region | apply wc_skip | (apply wr_cmp; (iterate 3 exact rfl); exact cmpF (by dsimp only [cmpN]; first | done | omega)) | (apply wc_false; exact rfl))
        refine wr_call (vs := [.pointer (some ⟨tb, 0, none⟩), .int .i64 ((m : Int) + 1)]) rfl (up_ca ((m : Int) + 1) w9 hT8) rfl ?_
        rintro v w10 ⟨rfl, rfl⟩
        rw [hu]
        (repeat first | (apply wr_move; exact rfl; with_reducible (conv => enter [6, 3]; whnf)) | (apply wr_not; iterate 2 exact rfl) | (apply wr_len_slice; iterate 2 exact rfl) | (apply wr_cmp; (iterate 3 exact rfl); exact cmpF (by dsimp only [cmpN]; first | done | omega)))
        refine wr_call (vs := [.pointer (some ⟨tb, 0, none⟩), .int .i64 ((m : Int) + 1)]) rfl (parent_ca ((m : Int) + 1) w10 hT8) rfl ?_
        rintro v w11 ⟨rfl, rfl⟩
        rw [hpar]
        (repeat first | (apply wr_move; exact rfl; with_reducible (conv => enter [6, 3]; whnf)) | (apply wr_assign; exact rfl; with_reducible (conv => enter [6, 3]; whnf)) | apply wr_end | apply wc_region | apply wc_skip | (apply wr_cmp; (iterate 3 exact rfl); exact cmpF (by dsimp only [cmpN]; first | done | omega)) | (apply wr_pick (t := true); (iterate 2 exact rfl); with_reducible (conv => enter [6, 3]; whnf)) | (apply wr_pick (t := false); (iterate 2 exact rfl); with_reducible (conv => enter [6, 3]; whnf)) | (apply wr_add; (iterate 3 exact rfl); exact w_fit (by dsimp only [kIn]; first | done | omega)) | (apply wc_false; exact rfl))
        exact ⟨m + 1, by omega, ⟨by trivial, hml, hk57.trans hk8⟩, rfl, rfl, rfl, by rw [hnx'], by simp, trivial⟩
    · rw [if_neg hp0] at hnx
      have hu : upT T ((m : Int) + 1) = true := by
        cases hu : upT T ((m : Int) + 1) with
        | true => rfl
        | false => exact absurd (hO.down (k := m + 1) (by omega) (by omega) hu).1 hp0
      (repeat first | (apply wr_move; exact rfl; with_reducible (conv => enter [6, 3]; whnf)) | (apply wr_assign; exact rfl; with_reducible (conv => enter [6, 3]; whnf)) | apply wr_end | apply wc_seq | apply wc_region | (apply wr_cmp; (iterate 3 exact rfl); exact cmpT (by dsimp only [cmpP]; first | done | omega)) | (apply wr_sub; (iterate 3 exact rfl); exact w_fit (by dsimp only [kIn]; first | done | omega)) | (apply wc_true; exact rfl))
      refine wr_call (vs := [.pointer (some ⟨tb, 0, none⟩), .int .i64 ((m : Int) + 1)]) rfl (up_ca ((m : Int) + 1) w9 hT8) rfl ?_
      rintro v w10 ⟨rfl, rfl⟩
      rw [hu]
      (repeat first | (apply wr_move; exact rfl; with_reducible (conv => enter [6, 3]; whnf)) | (apply wr_assign; exact rfl; with_reducible (conv => enter [6, 3]; whnf)) | apply wr_end | apply wc_region | apply wc_skip | (apply wr_not; iterate 2 exact rfl) | (apply wr_pick (t := false); (iterate 2 exact rfl); with_reducible (conv => enter [6, 3]; whnf)) | (apply wr_add; (iterate 3 exact rfl); exact w_fit (by dsimp only [kIn]; first | done | omega)) | (apply wc_false; exact rfl) | (apply wr_skip; exact rfl))
      exact ⟨m + 1, by omega, ⟨by trivial, hml, hk57.trans hk8⟩, rfl, rfl, rfl, by rw [hnx], by simp, trivial⟩
  have hme : m = gs.length := by omega
  subst hme
  have hz : manyI T T.length gs.length = 0 := by
    rw [hL]
    refine manyI_done fun j hj1 hj2 => ?_
    rcases hO.par (show j < T.length by omega) with e | ⟨e, _⟩
    · omega
    · unfold inT at e; omega
  rw [hz]
  (repeat first | (apply wr_move; exact rfl; with_reducible (conv => enter [6, 3]; whnf)) | (apply wr_assign; exact rfl; with_reducible (conv => enter [6, 3]; whnf)) | apply wr_end | apply wc_seq | apply wc_region | (apply wr_len_slice; iterate 2 exact rfl) | (apply wr_cmp; (iterate 3 exact rfl); exact cmpT (by dsimp only [cmpP]; first | done | omega)) | (apply wr_cmp; (iterate 3 exact rfl); exact cmpF (by dsimp only [cmpN]; first | done | omega)) | (apply wr_pick (t := true); (iterate 2 exact rfl); with_reducible (conv => enter [6, 3]; whnf)) | (apply wc_false; exact rfl) | (apply wc_exit; try simp only [thenE, inBlockE, bodyQ, ↓reduceIte, Nat.reduceEqDiff]) | (apply wc_ret; try simp only [thenE, inBlockE, bodyQ]))
  exact leave1 (v := .bool true) rfl rfl ⟨rfl, hkw2.trans (hk24.trans hk6)⟩
end Go.Proofs.YthjpgkefifkhjaaDoor
