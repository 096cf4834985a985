/- ParentWrong: the walk. -/
import Derived.Test.YthjpgkefifkhjaaDoorTp
namespace Go.Proofs.YthjpgkefifkhjaaDoor
open Go Go.V Go.RowKit
set_option linter.unusedVariables false
set_option linter.unusedSimpArgs false

theorem bad_at {N : List NG} {k : Nat} {n : NG} (hk : k < N.length) (h0 : k = 0 → n.1 ≠ 0 ∨ n.2 ≠ []) (h1 : 1 ≤ k → ¬ nodeOk (N.set k n) n) : ¬ rightP (N.set k n) := by
  rintro ⟨_, hr1, hr2, hall⟩
  have hg : (N.set k n)[k]? = some n := List.getElem?_set_self hk
  rcases Nat.eq_zero_or_pos k with rfl | hp
  · have hgd : (N.set 0 n).getD 0 (0, []) = n := by rw [List.getD_eq_getElem?_getD, hg]; rfl
    rw [hgd] at hr1 hr2
    rcases h0 rfl with h | h
    · exact h hr1
    · exact h hr2
  · refine h1 hp (hall n ?_)
    have : ((N.set k n).drop 1)[k - 1]? = some n := by
      rw [List.getElem?_drop, show 1 + (k - 1) = k by omega]; exact hg
    exact List.mem_of_getElem? this
theorem depthAt_set {N : List NG} {k : Nat} {n : NG} (hk : k < N.length) : depthAt (N.set k n) ((k : Int) + 1) = n.1 := depthAt_get (List.getElem?_set_self hk)
theorem store_row {w w' : World} {N : List NG} {gs : List GN} {b cv k f : Nat} {cur : Array Value} {x : Value} {n' : NG} {g g' : GN} (hb : w.heap[b]? = some (.cells cur 35 (0, 0)))
    (hr : ∀ j, j < gs.length * 2 → cur[j]? = (gs.flatMap GNc)[j]?) (hk : gs[k]? = some g) (hcv : gs.length ≤ cv) (hg : Given w N gs) (hty : ∀ g ∈ gs, ∀ b', g.2.ownBlock = some b' → b' ≠ b)
    (hw' : w' = w.putObj b (.cells (cur.setIfInBounds (0 + k * 2 + f) x) 35 (0, 0))) (hf : f < 2) (hg' : ∀ r, r < 2 → (GNc g')[r]? = if r = f then some x else (GNc g)[r]?) (h1 : g'.1 = n'.1) (h2 : SlR w' 1 g'.2 n'.2.length (IL n'.2)) :
    SlR w' 2 (.slice (some ⟨b, 0, none⟩) gs.length cv) (gs.set k g').length ((gs.set k g').flatMap GNc) ∧ Given w' (N.set k n') (gs.set k g') ∧ Keeps (· = b) w w' := by
  have hkl := (List.getElem?_eq_some_iff.1 hk).1
  have hkw : Keeps (· = b) w w' := by rw [hw']; exact (Keeps.refl _ _).put _ (fun _ => rfl)
  have hlb := lt_of_heap hb
  have hb' : w'.heap[b]? = some (.cells (cur.setIfInBounds (0 + k * 2 + f) x) 35 (0, 0)) := by rw [hw']; exact World.putObj_heap_same hlb
  have hsz : gs.length * 2 ≤ cur.size := by
    by_cases h0 : gs.length = 0
    · omega
    · have hl : (gs.length * 2 - 1) < (gs.flatMap GNc).length := by rw [flat_len GNc_len]; omega
      have := hr (gs.length * 2 - 1) (by omega)
      rw [List.getElem?_eq_getElem hl] at this
      have := (Array.getElem?_eq_some_iff.1 this).1
      omega
  refine ⟨⟨by rw [flat_len GNc_len], some ⟨b, 0, none⟩, cv, by rw [List.length_set], by rw [List.length_set]; exact hcv, .inr ⟨b, 0, _, _, _, rfl, hb', fun j hj => ?_⟩⟩, ⟨by rw [List.length_set, List.length_set]; exact hg.len, fun i g1 n1 hg1 hn1 => ?_⟩, hkw⟩
  · rw [List.length_set] at hj
    obtain ⟨i, r, hr2, rfl⟩ : ∃ i r, r < 2 ∧ j = i * 2 + r := ⟨j / 2, j % 2, Nat.mod_lt _ (by decide), by omega⟩
    have hil : i < gs.length := by omega
    rw [Nat.zero_add]
    by_cases hik : i = k
    · subst hik
      rw [flat_get GNc_len _ i g' r (List.getElem?_set_self hil) hr2, hg' r hr2]
      by_cases hrf : r = f
      · subst hrf
        rw [if_pos rfl, Nat.zero_add, Array.getElem?_setIfInBounds_self_of_lt (by omega)]
      · rw [if_neg hrf, Array.getElem?_setIfInBounds_ne (by omega), Nat.zero_add, hr _ (by omega), flat_get GNc_len _ i g r hk hr2]
    · have hgi : gs[i]? = some gs[i] := by simp [hil]
      rw [flat_get GNc_len _ i gs[i] r (by rw [List.getElem?_set_ne (fun e => hik e.symm)]; exact hgi) hr2, Array.getElem?_setIfInBounds_ne (by omega), Nat.zero_add, hr _ (by omega), flat_get GNc_len _ i gs[i] r hgi hr2]
  · by_cases hik : k = i
    · subst hik
      rw [List.getElem?_set_self hkl] at hg1
      rw [List.getElem?_set_self (by rw [← hg.len]; exact hkl)] at hn1
      cases hg1; cases hn1
      exact ⟨h1, h2⟩
    · rw [List.getElem?_set_ne hik] at hg1 hn1
      obtain ⟨e1, e2⟩ := hg.el i g1 n1 hg1 hn1
      exact ⟨e1, e2.keep hkw (fun b' hb' e => hty g1 (List.mem_of_getElem? hg1) b' hb' e)⟩
theorem slr_ilone {n : List Int} : ∀ u ∈ IL n, u.oneCell' = true := fun u hu => by
  unfold IL at hu
  obtain ⟨c, _, rfl⟩ := List.mem_map.1 hu
  rfl
set_option maxRecDepth 100000 in
set_option maxHeartbeats 8000000 in
theorem wrong_law (ss : List SK) (sl : Value) (wh ho : Nat) (w : World) (hsl : SlR w 2 sl ss.length (ss.flatMap GS)) (hok : ∀ x ∈ ss, SKok w x) (hwh : wh < 256) (hho : ho < 256) :
    Ca Tryd.prog 5 #[sl, .int .u8 (wh : Int), .int .u8 (ho : Int)] w fun v w' => v = .bool true ∧ Keeps NoB w w' := by
  refine ca_of_body (args := [sl, .int .u8 (wh : Int), .int .u8 (ho : Int)]) Tryd.func5 rfl (by kernel_rfl) ?_
  (repeat first | (apply wr_assign; exact rfl; with_reducible (conv => enter [6, 3]; whnf)) | apply wr_end | apply wc_seq | apply wc_region)
  refine wr_call (vs := []) rfl (examples_ca w) rfl ?_
  rintro v w1 ⟨rfl, hk1⟩
  (repeat first | (apply wr_move; exact rfl; with_reducible (conv => enter [6, 3]; whnf)) | (apply wr_assign; exact rfl; with_reducible (conv => enter [6, 3]; whnf)) | apply wr_end | apply wc_seq | apply wc_region | apply wc_skip | (apply wr_not; iterate 2 exact rfl) | (apply wc_false; exact rfl))
  refine wr_call (vs := [sl]) rfl (drawn_ca ss sl w1 (hsl.keep hk1 (fun _ _ h => h)) (fun x hx => (hok x hx).keep hk1)) rfl ?_
  rintro nv w2 ⟨N, gs, hD, ho2, hg2, hcv2, hk2⟩
  have hgl := hg2.len
  have hN1 := hD.one
  have hN12 := hD.le
  have hNb : ∀ n ∈ N, n.2.length ≤ 8 ∧ ∀ c ∈ n.2, i64B c := fun n hn => by
    obtain ⟨j, hj⟩ := List.getElem?_of_mem hn
    by_cases h0 : j = 0
    · subst h0
      rw [hD.root] at hj
      cases hj
      exact ⟨Nat.zero_le _, fun c hc => nomatch hc⟩
    · obtain ⟨_, h2, _, h4⟩ := hD.ok j n (by omega) hj
      have hjl := (List.getElem?_eq_some_iff.1 hj).1
      exact ⟨by omega, fun c hc => by have := h4 c hc; unfold i64B; omega⟩
  have hNb' : ∀ n ∈ N, n.2.length ≤ 1000000 ∧ ∀ c ∈ n.2, i64B c := fun n hn => ⟨by have := (hNb n hn).1; omega, (hNb n hn).2⟩
  have hs2 := SlR.of_own ho2
  rcases ho2 with ⟨_, ⟨h0, h00⟩ | ⟨b, cv, cur, rfl, hbb, hb, hcn, hcm, hcs, htk⟩⟩
  · omega
  have hr : ∀ j, j < gs.length * 2 → cur[j]? = (gs.flatMap GNc)[j]? := fun j hj => by
    rw [← htk, List.getElem?_take_of_lt hj]; simp
  have hty : ∀ g ∈ gs, ∀ b', g.2.ownBlock = some b' → b' ≠ b := fun g hg b' hb' e => by
    obtain ⟨_, c1, f1, h1⟩ := hcv2 g hg b' hb'
    rw [e, hb] at h1
    simp at h1
  (repeat first | (apply wr_move; exact rfl; with_reducible (conv => enter [6, 3]; whnf)) | (apply wr_assign; exact rfl; with_reducible (conv => enter [6, 3]; whnf)) | apply wr_end | apply wc_seq | apply wc_region)
  refine wr_call (vs := [.slice (some ⟨b, 0, none⟩) gs.length cv]) rfl (right_ca N gs _ (by omega) hNb' w2 hs2 hg2) rfl ?_
  rintro v w3 ⟨rfl, hk3⟩
  rw [decide_eq_true hD.right]
  have hkw3 : Keeps NoB w w3 := (hk1.trans hk2).trans hk3
  have hb3 := hk3.heap hb (fun h => h)
  have hg3 := hg2.keep hk3
  apply wr_assign
  exact rfl
  apply wr_end
  apply wc_seq
  apply wc_region
  apply wr_assign
  exact rfl
  apply wr_end
  apply wc_seq
  refine wc_cut (fun ds' f' w' => ds' = [] ∧ w' = w3 ∧ ∃ k : Nat, k < gs.length ∧ Slots f' [(2, .int .u8 (ho : Int)), (7, .bool true), (8, .slice (some ⟨b, 0, none⟩) gs.length cv), (9, .bool true), (10, .int .i64 (k : Int))]) ?_ ?_
  · by_cases hl : 1 < gs.length
    · (repeat first | (apply wr_move; exact rfl; with_reducible (conv => enter [6, 3]; whnf)) | apply wr_end | apply wc_seq | apply wc_region | (apply wr_len_slice; iterate 2 exact rfl) | (apply wr_cmp; (iterate 3 exact rfl); exact cmpT (by dsimp only [cmpP]; first | done | omega)) | (apply wr_sub; (iterate 3 exact rfl); exact w_fit (by dsimp only [kIn]; first | done | omega)) | (apply wr_conv; (iterate 2 exact rfl); exact w_fit (by dsimp only [kIn]; first | done | omega)) | (apply wc_true; exact rfl))
      rw [show (gs.length : Int) - 1 = ((gs.length - 1 : Nat) : Int) by omega]
      refine wr_remN (n := wh) (m := gs.length - 1) rfl rfl rfl (by omega) ?_
      have hm := Nat.mod_lt wh (show gs.length - 1 > 0 by omega)
      generalize wh % (gs.length - 1) = r at hm
      (repeat first | (apply wr_assign; exact rfl; with_reducible (conv => enter [6, 3]; whnf)) | apply wr_end | (apply wr_add; (iterate 3 exact rfl); exact w_fit (by dsimp only [kIn]; first | done | omega)))
      exact ⟨by trivial, rfl, r + 1, by omega, rfl, rfl, rfl, rfl, by rw [show (1 + (r : Int)) = ((r + 1 : Nat) : Int) by omega], trivial⟩
    · (repeat first | (apply wr_move; exact rfl; with_reducible (conv => enter [6, 3]; whnf)) | apply wr_end | apply wc_seq | apply wc_region | apply wc_skip | (apply wr_len_slice; iterate 2 exact rfl) | (apply wr_cmp; (iterate 3 exact rfl); exact cmpF (by dsimp only [cmpN]; first | done | omega)) | (apply wc_false; exact rfl))
      exact ⟨by trivial, rfl, 0, by omega, rfl, rfl, rfl, rfl, rfl, trivial⟩
  rintro ds' f' w3' ⟨rfl, rfl, k, hk, hs⟩
  rw [← setL_self f' _ hs.all]
  clear hs
  obtain ⟨⟨g1, g2⟩, hgk⟩ : ∃ g, gs[k]? = some g := ⟨gs[k], by simp [hk]⟩
  obtain ⟨⟨n1, n2⟩, hnk⟩ : ∃ n, N[k]? = some n := ⟨N[k]'(by omega), by simp [show k < N.length by omega]⟩
  obtain ⟨he1, he2⟩ := hg3.el k _ _ hgk hnk
  dsimp only at he1 he2
  have hkN : k < N.length := by omega
  have hbk := hNb _ (List.mem_of_getElem? hnk)
  dsimp only at hbk
  apply wc_seq
  refine wc_cut (fun ds' f' w' => ds' = [] ∧ ∃ N' gs' v', SlR w' 2 v' gs'.length (gs'.flatMap GNc) ∧ Given w' N' gs' ∧ ¬ rightP N' ∧ N'.length ≤ 1000000 ∧ (∀ n ∈ N', n.2.length ≤ 1000000 ∧ ∀ c ∈ n.2, i64B c) ∧ Keeps NoB w w' ∧ Slots f' [(7, .bool true), (8, v'), (9, .bool true)]) ?_ ?_
  · (repeat first | (apply wr_move; exact rfl; with_reducible (conv => enter [6, 3]; whnf)) | apply wc_seq | apply wc_region)
    refine wr_remN (n := ho) (m := 6) rfl rfl rfl (by decide) ?_
    have hm := Nat.mod_lt ho (show 6 > 0 by decide)
    generalize ho % 6 = q at hm
    have hq : q = 0 ∨ q = 1 ∨ q = 2 ∨ q = 3 ∨ q = 4 ∨ q = 5 := by omega
    have hr0 : ∀ j, j < gs.length * 2 → cur[0 + j]? = (gs.flatMap GNc)[j]? := fun j hj => by rw [Nat.zero_add]; exact hr j hj
    obtain ⟨⟨a1, a2⟩, hga⟩ : ∃ g, gs[0]? = some g := ⟨gs[0]'(by omega), by simp [show 0 < gs.length by omega]⟩
    obtain ⟨hea1, hea2⟩ := hg3.el 0 _ _ hga hD.root
    dsimp only at hea1 hea2
    rcases hq with rfl | rfl | rfl | rfl | rfl | rfl
    · (repeat first | (apply wr_move; exact rfl; with_reducible (conv => enter [6, 3]; whnf)) | (apply wr_assign; exact rfl; with_reducible (conv => enter [6, 3]; whnf)) | apply wr_end | apply wc_seq | apply wc_region | apply wc_block | (apply wr_cmp; (iterate 3 exact rfl); exact cmpT (by dsimp only [cmpP]; first | done | omega)) | (apply wc_true; exact rfl))
      refine wr_buildSlice (vs := [.int .i64 1]) rfl rfl (by intro v hv; simp at hv; subst hv; rfl) rfl (by decide) (by decide) (by decide) ?_
      obtain ⟨wA, hwA⟩ : ∃ wA, wA = w3'.alloc (.cells ([Value.int .i64 1].flatMap (fun v => v.cells.toList)).toArray 3) := ⟨_, rfl⟩
      obtain ⟨b4, hb4⟩ : ∃ b4, b4 = w3'.heap.size := ⟨_, rfl⟩
      have hk4 : Keeps NoB w3' wA := by rw [hwA]; exact (Keeps.refl NoB w3').alloc _
      have hc4 : wA.heap[b4]? = some (.cells [.int .i64 1].toArray 3 (0, 0)) := by rw [hwA, hb4]; exact heap_alloc_same _ _
      rw [← hwA, ← hb4]
      clear hwA
      have hbA := hk4.heap hb3 (fun h => h)
      have hgA := hg3.keep hk4
      have hkA : Keeps NoB w wA := hkw3.trans hk4
      have hbb4 : b4 ≠ b := by have := lt_of_heap hb3; omega
      refine wr_indexAddr (i := 0) rfl rfl rfl (by omega) ?_
      refine wr_fieldAddr rfl rfl ?_
      refine wr_store (v := (.slice (some ⟨b4, 0, none⟩) 1 1)) rfl rfl rfl (rfl) hbA (cell_elem (g := GNc) (k := 2) (n := gs.length) (i := 0) (j := 1) GNc_len hr0 (by omega) hga rfl) ?_
      obtain ⟨w9, hw9⟩ : ∃ w9, w9 = wA.putObj b (.cells (cur.setIfInBounds (0 + 0 * 2 + 1) (.slice (some ⟨b4, 0, none⟩) 1 1)) 35 (0, 0)) := ⟨_, rfl⟩
      rw [← hw9]
      have hkB : Keeps (· = b) wA w9 := by rw [hw9]; exact (Keeps.refl _ _).put _ (fun _ => rfl)
      obtain ⟨hsF, hgF, hkF⟩ := store_row (n' := (a1, [1])) (g' := (a1, .slice (some ⟨b4, 0, none⟩) 1 1)) hbA hr hga hcn hgA hty hw9 (by decide) (fun r hr2 => by
        rcases (show r = 0 ∨ r = 1 by omega) with rfl | rfl <;> rfl) rfl (slr_fresh (hkB.heap hc4 hbb4) rfl)
      have hk9 : Keeps NoB w w9 := Keeps.trans' hkA hkF (fun i hi (e : i = b) => by have := hk1.size; omega)
      (repeat first | (apply wr_nil; try simp only [thenE, inBlockE, bodyQ]))
      exact ⟨by trivial, N.set 0 (a1, [1]), gs.set 0 (a1, .slice (some ⟨b4, 0, none⟩) 1 1), _, hsF, hgF, bad_at (by omega) (fun _ => .inr (by simp)) (fun h => absurd h (by decide)), by rw [List.length_set]; omega, (fun n hn => by
        rcases List.mem_or_eq_of_mem_set hn with hn | rfl
        · exact hNb' n hn
        · exact ⟨by show 1 ≤ 1000000; omega, fun c hc => by simp at hc; subst hc; unfold i64B; omega⟩), hk9, rfl, rfl, rfl, trivial⟩
    · have hbA := hb3
      have hgA := hg3
      have hkA := hkw3
      obtain ⟨wA, hwA⟩ : ∃ wA, wA = w3' := ⟨_, rfl⟩
      rw [← hwA] at hbA hgA hkA he2 ⊢
      (repeat first | (apply wr_move; exact rfl; with_reducible (conv => enter [6, 3]; whnf)) | (apply wr_assign; exact rfl; with_reducible (conv => enter [6, 3]; whnf)) | apply wr_end | apply wc_seq | apply wc_region | apply wc_block | (apply wr_cmp; (iterate 3 exact rfl); exact cmpT (by dsimp only [cmpP]; first | done | omega)) | (apply wr_cmp; (iterate 3 exact rfl); exact cmpF (by dsimp only [cmpN]; first | done | omega)) | (apply wc_true; exact rfl) | (apply wc_false; exact rfl))
      refine wr_indexAddr (i := k) rfl rfl rfl (by omega) ?_
      refine wr_fieldAddr rfl rfl ?_
      refine wr_store (v := (.int .i64 9)) rfl rfl rfl (rfl) hbA (cell_elem (g := GNc) (k := 2) (n := gs.length) (i := k) (j := 0) GNc_len hr0 (by omega) hgk rfl) ?_
      obtain ⟨w9, hw9⟩ : ∃ w9, w9 = wA.putObj b (.cells (cur.setIfInBounds (0 + k * 2 + 0) (.int .i64 9)) 35 (0, 0)) := ⟨_, rfl⟩
      rw [← hw9]
      have hkB : Keeps (· = b) wA w9 := by rw [hw9]; exact (Keeps.refl _ _).put _ (fun _ => rfl)
      obtain ⟨hsF, hgF, hkF⟩ := store_row (n' := (9, n2)) (g' := (9, g2)) hbA hr hgk hcn hgA hty hw9 (by decide) (fun r hr2 => by
        rcases (show r = 0 ∨ r = 1 by omega) with rfl | rfl <;> rfl) rfl (he2.keep hkB (fun i hi e => hty _ (List.mem_of_getElem? hgk) i hi e))
      have hk9 : Keeps NoB w w9 := Keeps.trans' hkA hkF (fun i hi (e : i = b) => by have := hk1.size; omega)
      (repeat first | (apply wr_nil; try simp only [thenE, inBlockE, bodyQ]))
      exact ⟨by trivial, N.set k (9, n2), gs.set k (9, g2), _, hsF, hgF, bad_at (by omega) (fun _ => .inl (by show (9 : Int) ≠ 0; decide)) (fun _ h => by have h9 : (9 : Int) ≤ 8 := h.1.2; omega), by rw [List.length_set]; omega, (fun n hn => by
        rcases List.mem_or_eq_of_mem_set hn with hn | rfl
        · exact hNb' n hn
        · exact ⟨by have := hbk.1; show n2.length ≤ 1000000; omega, hbk.2⟩), hk9, rfl, rfl, rfl, trivial⟩
    · (repeat first | (apply wr_move; exact rfl; with_reducible (conv => enter [6, 3]; whnf)) | (apply wr_assign; exact rfl; with_reducible (conv => enter [6, 3]; whnf)) | apply wr_end | apply wc_seq | apply wc_region | apply wc_block | (apply wr_cmp; (iterate 3 exact rfl); exact cmpT (by dsimp only [cmpP]; first | done | omega)) | (apply wr_cmp; (iterate 3 exact rfl); exact cmpF (by dsimp only [cmpN]; first | done | omega)) | (apply wr_add; (iterate 3 exact rfl); exact w_fit (by dsimp only [kIn]; first | done | omega)) | (apply wc_true; exact rfl) | (apply wc_false; exact rfl))
      refine wr_buildSlice (vs := [.int .i64 ((k : Int) + 1)]) rfl rfl (by intro v hv; simp at hv; subst hv; rfl) rfl (by decide) (by decide) (by decide) ?_
      obtain ⟨w4, hw4⟩ : ∃ w4, w4 = w3'.alloc (.cells ([Value.int .i64 ((k : Int) + 1)].flatMap (fun v => v.cells.toList)).toArray 3) := ⟨_, rfl⟩
      obtain ⟨b4, hb4⟩ : ∃ b4, b4 = w3'.heap.size := ⟨_, rfl⟩
      have hk4 : Keeps NoB w3' w4 := by rw [hw4]; exact (Keeps.refl NoB w3').alloc _
      have ho4 : w4.ownsRow w3'.heap.size 3 1 (.slice (some ⟨b4, 0, none⟩) 1 1) 1 [.int .i64 ((k : Int) + 1)] := by
        rw [hw4, hb4]; exact ⟨rfl, .inr ⟨w3'.heap.size, 1, _, rfl, Nat.le_refl _, heap_alloc_same _ _, Nat.le_refl _, by decide, rfl, rfl⟩⟩
      rw [← hw4, ← hb4]
      clear hw4
      (repeat first | (apply wr_move; exact rfl; with_reducible (conv => enter [6, 3]; whnf)))
      refine wr_indexAddr (i := k) rfl rfl rfl hk ?_
      refine wr_fieldAddr rfl rfl ?_
      refine wr_load (v := g2) rfl rfl rfl (hk4.heap hb3 (fun h => h)) (cell_elem (g := GNc) (k := 2) (n := gs.length) (i := k) (j := 1) GNc_len hr0 hk hgk rfl) ?_
      refine wr_appendR (v := .slice (some ⟨b4, 0, none⟩) 1 1) (u := g2) (n := 1) (m := n2.length) (news := IL n2) rfl rfl ho4 rfl (he2.keep hk4 (fun _ _ h => h)) slr_ilone rfl (by decide) (by omega) (by omega) hk4.size ?_
      intro v2 wA hoA hk5 _
      have hk35 : Keeps NoB w3' wA := Keeps.trans' hk4 hk5 (fun i hi e => by
        have e' : b4 = i := by simpa [Value.ownBlock] using e
        omega)
      have hbA := hk35.heap hb3 (fun h => h)
      have hgA := hg3.keep hk35
      have hkA : Keeps NoB w wA := hkw3.trans hk35
      have hv2 : ∀ i, v2.ownBlock = some i → i ≠ b := fun i hi e => by have := own_ge hoA hi; have := lt_of_heap hb3; omega
      refine wr_indexAddr (i := k) rfl rfl rfl (by omega) ?_
      refine wr_fieldAddr rfl rfl ?_
      refine wr_store (v := v2) rfl rfl rfl (slR_one (SlR.of_own hoA)) hbA (cell_elem (g := GNc) (k := 2) (n := gs.length) (i := k) (j := 1) GNc_len hr0 (by omega) hgk rfl) ?_
      obtain ⟨w9, hw9⟩ : ∃ w9, w9 = wA.putObj b (.cells (cur.setIfInBounds (0 + k * 2 + 1) v2) 35 (0, 0)) := ⟨_, rfl⟩
      rw [← hw9]
      have hkB : Keeps (· = b) wA w9 := by rw [hw9]; exact (Keeps.refl _ _).put _ (fun _ => rfl)
      obtain ⟨hsF, hgF, hkF⟩ := store_row (n' := (g1, ((k : Int) + 1) :: n2)) (g' := (g1, v2)) hbA hr hgk hcn hgA hty hw9 (by decide) (fun r hr2 => by
        rcases (show r = 0 ∨ r = 1 by omega) with rfl | rfl <;> rfl) rfl ((by have := SlR.of_own (own_keep hoA hkB hv2); rw [show (((k : Int) + 1) :: n2).length = 1 + n2.length from Nat.add_comm _ _]; exact this))
      have hk9 : Keeps NoB w w9 := Keeps.trans' hkA hkF (fun i hi (e : i = b) => by have := hk1.size; omega)
      (repeat first | (apply wr_nil; try simp only [thenE, inBlockE, bodyQ]))
      exact ⟨by trivial, N.set k (g1, ((k : Int) + 1) :: n2), gs.set k (g1, v2), _, hsF, hgF, bad_at (by omega) (fun _ => .inr (by simp)) (fun _ h => by have h4 := (h.2.2.2 ((k : Int) + 1) (by simp)).2.2; rw [depthAt_set hkN] at h4; exact absurd h4 (Int.lt_irrefl _)), by rw [List.length_set]; omega, (fun n hn => by
        rcases List.mem_or_eq_of_mem_set hn with hn | rfl
        · exact hNb' n hn
        · exact ⟨by have := hbk.1; show n2.length + 1 ≤ 1000000; omega, fun c hc => by rcases List.mem_cons.1 hc with rfl | hc; unfold i64B; omega; exact hbk.2 c hc⟩), hk9, rfl, rfl, rfl, trivial⟩
    · (repeat first | (apply wr_move; exact rfl; with_reducible (conv => enter [6, 3]; whnf)) | (apply wr_assign; exact rfl; with_reducible (conv => enter [6, 3]; whnf)) | apply wr_end | apply wc_seq | apply wc_region | apply wc_block | (apply wr_len_slice; iterate 2 exact rfl) | (apply wr_cmp; (iterate 3 exact rfl); exact cmpT (by dsimp only [cmpP]; first | done | omega)) | (apply wr_cmp; (iterate 3 exact rfl); exact cmpF (by dsimp only [cmpN]; first | done | omega)) | (apply wr_add; (iterate 3 exact rfl); exact w_fit (by dsimp only [kIn]; first | done | omega)) | (apply wc_true; exact rfl) | (apply wc_false; exact rfl))
      refine wr_buildSlice (vs := [.int .i64 ((gs.length : Int) + 1)]) rfl rfl (by intro v hv; simp at hv; subst hv; rfl) rfl (by decide) (by decide) (by decide) ?_
      obtain ⟨w4, hw4⟩ : ∃ w4, w4 = w3'.alloc (.cells ([Value.int .i64 ((gs.length : Int) + 1)].flatMap (fun v => v.cells.toList)).toArray 3) := ⟨_, rfl⟩
      obtain ⟨b4, hb4⟩ : ∃ b4, b4 = w3'.heap.size := ⟨_, rfl⟩
      have hk4 : Keeps NoB w3' w4 := by rw [hw4]; exact (Keeps.refl NoB w3').alloc _
      have ho4 : w4.ownsRow w3'.heap.size 3 1 (.slice (some ⟨b4, 0, none⟩) 1 1) 1 [.int .i64 ((gs.length : Int) + 1)] := by
        rw [hw4, hb4]; exact ⟨rfl, .inr ⟨w3'.heap.size, 1, _, rfl, Nat.le_refl _, heap_alloc_same _ _, Nat.le_refl _, by decide, rfl, rfl⟩⟩
      rw [← hw4, ← hb4]
      clear hw4
      (repeat first | (apply wr_move; exact rfl; with_reducible (conv => enter [6, 3]; whnf)))
      refine wr_indexAddr (i := k) rfl rfl rfl hk ?_
      refine wr_fieldAddr rfl rfl ?_
      refine wr_load (v := g2) rfl rfl rfl (hk4.heap hb3 (fun h => h)) (cell_elem (g := GNc) (k := 2) (n := gs.length) (i := k) (j := 1) GNc_len hr0 hk hgk rfl) ?_
      refine wr_appendR (v := .slice (some ⟨b4, 0, none⟩) 1 1) (u := g2) (n := 1) (m := n2.length) (news := IL n2) rfl rfl ho4 rfl (he2.keep hk4 (fun _ _ h => h)) slr_ilone rfl (by decide) (by omega) (by omega) hk4.size ?_
      intro v2 wA hoA hk5 _
      have hk35 : Keeps NoB w3' wA := Keeps.trans' hk4 hk5 (fun i hi e => by
        have e' : b4 = i := by simpa [Value.ownBlock] using e
        omega)
      have hbA := hk35.heap hb3 (fun h => h)
      have hgA := hg3.keep hk35
      have hkA : Keeps NoB w wA := hkw3.trans hk35
      have hv2 : ∀ i, v2.ownBlock = some i → i ≠ b := fun i hi e => by have := own_ge hoA hi; have := lt_of_heap hb3; omega
      refine wr_indexAddr (i := k) rfl rfl rfl (by omega) ?_
      refine wr_fieldAddr rfl rfl ?_
      refine wr_store (v := v2) rfl rfl rfl (slR_one (SlR.of_own hoA)) hbA (cell_elem (g := GNc) (k := 2) (n := gs.length) (i := k) (j := 1) GNc_len hr0 (by omega) hgk rfl) ?_
      obtain ⟨w9, hw9⟩ : ∃ w9, w9 = wA.putObj b (.cells (cur.setIfInBounds (0 + k * 2 + 1) v2) 35 (0, 0)) := ⟨_, rfl⟩
      rw [← hw9]
      have hkB : Keeps (· = b) wA w9 := by rw [hw9]; exact (Keeps.refl _ _).put _ (fun _ => rfl)
      obtain ⟨hsF, hgF, hkF⟩ := store_row (n' := (g1, ((gs.length : Int) + 1) :: n2)) (g' := (g1, v2)) hbA hr hgk hcn hgA hty hw9 (by decide) (fun r hr2 => by
        rcases (show r = 0 ∨ r = 1 by omega) with rfl | rfl <;> rfl) rfl ((by have := SlR.of_own (own_keep hoA hkB hv2); rw [show (((gs.length : Int) + 1) :: n2).length = 1 + n2.length from Nat.add_comm _ _]; exact this))
      have hk9 : Keeps NoB w w9 := Keeps.trans' hkA hkF (fun i hi (e : i = b) => by have := hk1.size; omega)
      (repeat first | (apply wr_nil; try simp only [thenE, inBlockE, bodyQ]))
      exact ⟨by trivial, N.set k (g1, ((gs.length : Int) + 1) :: n2), gs.set k (g1, v2), _, hsF, hgF, bad_at (by omega) (fun _ => .inr (by simp)) (fun _ h => by have h4 := (h.2.2.2 ((gs.length : Int) + 1) (by simp)).2.1; rw [List.length_set] at h4; omega), by rw [List.length_set]; omega, (fun n hn => by
        rcases List.mem_or_eq_of_mem_set hn with hn | rfl
        · exact hNb' n hn
        · exact ⟨by have := hbk.1; show n2.length + 1 ≤ 1000000; omega, fun c hc => by rcases List.mem_cons.1 hc with rfl | hc; unfold i64B; omega; exact hbk.2 c hc⟩), hk9, rfl, rfl, rfl, trivial⟩
    · have hbA := hb3
      have hgA := hg3
      have hkA := hkw3
      obtain ⟨wA, hwA⟩ : ∃ wA, wA = w3' := ⟨_, rfl⟩
      rw [← hwA] at hbA hgA hkA hea2 ⊢
      (repeat first | (apply wr_move; exact rfl; with_reducible (conv => enter [6, 3]; whnf)) | (apply wr_assign; exact rfl; with_reducible (conv => enter [6, 3]; whnf)) | apply wr_end | apply wc_seq | apply wc_region | apply wc_block | (apply wr_cmp; (iterate 3 exact rfl); exact cmpT (by dsimp only [cmpP]; first | done | omega)) | (apply wr_cmp; (iterate 3 exact rfl); exact cmpF (by dsimp only [cmpN]; first | done | omega)) | (apply wc_true; exact rfl) | (apply wc_false; exact rfl))
      refine wr_indexAddr (i := 0) rfl rfl rfl (by omega) ?_
      refine wr_fieldAddr rfl rfl ?_
      refine wr_store (v := (.int .i64 1)) rfl rfl rfl (rfl) hbA (cell_elem (g := GNc) (k := 2) (n := gs.length) (i := 0) (j := 0) GNc_len hr0 (by omega) hga rfl) ?_
      obtain ⟨w9, hw9⟩ : ∃ w9, w9 = wA.putObj b (.cells (cur.setIfInBounds (0 + 0 * 2 + 0) (.int .i64 1)) 35 (0, 0)) := ⟨_, rfl⟩
      rw [← hw9]
      have hkB : Keeps (· = b) wA w9 := by rw [hw9]; exact (Keeps.refl _ _).put _ (fun _ => rfl)
      obtain ⟨hsF, hgF, hkF⟩ := store_row (n' := (1, [])) (g' := (1, a2)) hbA hr hga hcn hgA hty hw9 (by decide) (fun r hr2 => by
        rcases (show r = 0 ∨ r = 1 by omega) with rfl | rfl <;> rfl) rfl (hea2.keep hkB (fun i hi e => hty _ (List.mem_of_getElem? hga) i hi e))
      have hk9 : Keeps NoB w w9 := Keeps.trans' hkA hkF (fun i hi (e : i = b) => by have := hk1.size; omega)
      (repeat first | (apply wr_nil; try simp only [thenE, inBlockE, bodyQ]))
      exact ⟨by trivial, N.set 0 (1, []), gs.set 0 (1, a2), _, hsF, hgF, bad_at (by omega) (fun _ => .inl (by decide)) (fun h => absurd h (by decide)), by rw [List.length_set]; omega, (fun n hn => by
        rcases List.mem_or_eq_of_mem_set hn with hn | rfl
        · exact hNb' n hn
        · exact ⟨Nat.zero_le _, fun c hc => nomatch hc⟩), hk9, rfl, rfl, rfl, trivial⟩
    · have hbA := hb3
      have hgA := hg3
      have hkA := hkw3
      obtain ⟨wA, hwA⟩ : ∃ wA, wA = w3' := ⟨_, rfl⟩
      rw [← hwA] at hbA hgA hkA ⊢
      (repeat first | (apply wr_move; exact rfl; with_reducible (conv => enter [6, 3]; whnf)) | (apply wr_assign; exact rfl; with_reducible (conv => enter [6, 3]; whnf)) | apply wr_end | apply wc_seq | apply wc_region | apply wc_block | (apply wr_cmp; (iterate 3 exact rfl); exact cmpT (by dsimp only [cmpP]; first | done | omega)) | (apply wr_cmp; (iterate 3 exact rfl); exact cmpF (by dsimp only [cmpN]; first | done | omega)) | (apply wc_true; exact rfl) | (apply wc_false; exact rfl))
      refine wr_indexAddr (i := k) rfl rfl rfl (by omega) ?_
      refine wr_fieldAddr rfl rfl ?_
      refine wr_store (v := (.slice none 0 0)) rfl rfl rfl (rfl) hbA (cell_elem (g := GNc) (k := 2) (n := gs.length) (i := k) (j := 1) GNc_len hr0 (by omega) hgk rfl) ?_
      obtain ⟨w9, hw9⟩ : ∃ w9, w9 = wA.putObj b (.cells (cur.setIfInBounds (0 + k * 2 + 1) (.slice none 0 0)) 35 (0, 0)) := ⟨_, rfl⟩
      rw [← hw9]
      have hkB : Keeps (· = b) wA w9 := by rw [hw9]; exact (Keeps.refl _ _).put _ (fun _ => rfl)
      obtain ⟨hsF, hgF, hkF⟩ := store_row (n' := (g1, [])) (g' := (g1, .slice none 0 0)) hbA hr hgk hcn hgA hty hw9 (by decide) (fun r hr2 => by
        rcases (show r = 0 ∨ r = 1 by omega) with rfl | rfl <;> rfl) rfl (⟨rfl, none, 0, rfl, Nat.le_refl _, .inl ⟨rfl, fun _ => rfl⟩⟩)
      have hk9 : Keeps NoB w w9 := Keeps.trans' hkA hkF (fun i hi (e : i = b) => by have := hk1.size; omega)
      rcases Nat.eq_zero_or_pos k with hk0 | hk0
      · subst hk0
        (repeat first | (apply wr_move; exact rfl; with_reducible (conv => enter [6, 3]; whnf)) | (apply wr_assign; exact rfl; with_reducible (conv => enter [6, 3]; whnf)) | apply wr_end | apply wc_seq | apply wc_region | (apply wr_cmp; (iterate 3 exact rfl); exact cmpT (by dsimp only [cmpP]; first | done | omega)) | (apply wc_true; exact rfl) | (apply wr_nil; try simp only [thenE, inBlockE, bodyQ]))
        exact ⟨by trivial, [], [], .slice none 0 0, ⟨rfl, none, 0, rfl, Nat.le_refl _, .inl ⟨rfl, fun _ => rfl⟩⟩, ⟨rfl, fun i g n h => by simp at h⟩, by decide, Nat.zero_le _, (fun n hn => nomatch hn), hk9, rfl, rfl, rfl, trivial⟩
      · skip
        (repeat first | (apply wr_move; exact rfl; with_reducible (conv => enter [6, 3]; whnf)) | apply wr_end | apply wc_seq | apply wc_region | apply wc_skip | (apply wr_cmp; (iterate 3 exact rfl); exact cmpF (by dsimp only [cmpN]; first | done | omega)) | (apply wc_false; exact rfl))
        exact ⟨by trivial, N.set k (g1, []), gs.set k (g1, .slice none 0 0), _, hsF, hgF, bad_at (by omega) (fun h => absurd h (by omega)) (fun _ h => by have h9 : 1 ≤ 0 := h.2.1.1; omega), by rw [List.length_set]; omega, (fun n hn => by
          rcases List.mem_or_eq_of_mem_set hn with hn | rfl
          · exact hNb' n hn
          · exact ⟨Nat.zero_le _, fun c hc => nomatch hc⟩), hk9, rfl, rfl, rfl, trivial⟩
  rintro ds' f' w4 ⟨rfl, N', gs', v', hs4, hg4, hnr, hl4, hb4, hk4, hs⟩
  rw [← setL_self f' _ hs.all]
  clear hs
  (repeat first | (apply wr_move; exact rfl; with_reducible (conv => enter [6, 3]; whnf)) | apply wc_seq | apply wc_region)
  refine wr_call (vs := [v']) rfl (new_ca N' gs' v' hl4 hb4 w4 hs4 hg4) rfl ?_
  rintro v w5 ⟨⟨hR, _⟩ | ⟨_, rfl⟩, hk5⟩
  · exact absurd hR hnr
  (repeat first | (apply wr_move; exact rfl; with_reducible (conv => enter [6, 3]; whnf)) | (apply wr_assign; exact rfl; with_reducible (conv => enter [6, 3]; whnf)) | apply wr_end | apply wc_seq | apply wc_region | (apply wr_pick (t := true); (iterate 2 exact rfl); with_reducible (conv => enter [6, 3]; whnf)) | (apply wr_extract; (iterate 3 exact rfl); with_reducible (conv => enter [6, 3]; whnf)))
  refine wr_call (vs := [v']) rfl (right_ca N' gs' v' hl4 hb4 w5 (hs4.keep hk5 (fun _ _ h => h)) (hg4.keep hk5)) rfl ?_
  rintro v w6 ⟨rfl, hk6⟩
  rw [decide_eq_false hnr]
  (repeat first | (apply wr_move; exact rfl; with_reducible (conv => enter [6, 3]; whnf)) | (apply wr_not; iterate 2 exact rfl) | (apply wr_pick (t := true); (iterate 2 exact rfl); with_reducible (conv => enter [6, 3]; whnf)))
  refine wr_ptrNil rfl rfl ?_
  conv => enter [6, 3]; whnf
  (repeat first | (apply wr_move; exact rfl; with_reducible (conv => enter [6, 3]; whnf)) | (apply wr_assign; exact rfl; with_reducible (conv => enter [6, 3]; whnf)) | apply wr_end | (apply wr_cmp; (iterate 3 exact rfl); exact cmpT (by dsimp only [cmpP]; first | done | omega)) | (apply wr_pick (t := true); (iterate 2 exact rfl); with_reducible (conv => enter [6, 3]; whnf)) | (apply wc_ret; try simp only [thenE, inBlockE, bodyQ]))
  exact leave1 (v := .bool true) rfl rfl ⟨rfl, (hk4.trans hk5).trans hk6⟩
end Go.Proofs.YthjpgkefifkhjaaDoor
