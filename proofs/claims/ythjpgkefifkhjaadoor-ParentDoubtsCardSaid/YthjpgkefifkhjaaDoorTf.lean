/- parent.New: what it does. -/
import Derived.Test.YthjpgkefifkhjaaDoorTe
namespace Go.Proofs.YthjpgkefifkhjaaDoor
open Go Go.V Go.RowKit
set_option linter.unusedVariables false
set_option linter.unusedSimpArgs false

theorem slR_one {w : World} {sz n : Nat} {v : Value} {cs : List Value} (h : SlR w sz v n cs) : v.oneCell' = true := by
  obtain ⟨_, a, c, rfl, _⟩ := h; rfl
theorem slr_cell1 {w : World} {sz n : Nat} {v : Value} {cs : List Value} (h : SlR w sz v n cs) : ∃ a c, v = .slice a n c := by
  obtain ⟨_, a, c, rfl, _⟩ := h; exact ⟨a, c, rfl⟩
theorem Grown.keepT {D : Nat → Prop} {s : Nat} {w w' : World} {T : List ND} {X : List NL} (h : Grown s w T X) (k : Keeps D w w') (hD : ∀ b, D b → b < w.heap.size → ∃ c e fr, w.heap[b]? = some (.cells c e fr) ∧ e ≠ 56 ∧ e ≠ 3) : Grown s w' T X := by
  have k' : Keeps (fun b => D b ∧ b < w.heap.size) w w' := k.mono (fun b hb hd => ⟨hd, hb⟩)
  refine ⟨h.len, fun i n x hn hx => ?_, h.nb, h.nd⟩
  obtain ⟨hN, hcv, hb, hd, hdn⟩ := h.node i n x hn hx
  have ne1 : ∀ b, (∃ c fr, w.heap[b]? = some (.cells c 56 fr)) → ¬ (D b ∧ b < w.heap.size) := by
    rintro b ⟨c, fr, h1⟩ ⟨hd, hl⟩
    obtain ⟨c', e, fr', h2, h3, _⟩ := hD b hd hl
    rw [h1] at h2; cases h2; exact h3 rfl
  have ne2 : ∀ b, (∃ c fr, w.heap[b]? = some (.cells c 3 fr)) → ¬ (D b ∧ b < w.heap.size) := by
    rintro b ⟨c, fr, h1⟩ ⟨hd, hl⟩
    obtain ⟨c', e, fr', h2, _, h3⟩ := hD b hd hl
    rw [h1] at h2; cases h2; exact h3 rfl
  have ne3 : ∀ b, x.db = some b → ¬ (D b ∧ b < w.heap.size) := by
    rintro b hxb ⟨hd, hl⟩
    obtain ⟨c', e, fr', h2, _⟩ := hD b hd hl
    have hdd := hN.doubt
    rw [hxb] at hdd
    obtain ⟨M, ⟨es, c, hh, _⟩, _⟩ := hdd
    rw [hh] at h2; cases h2
  refine ⟨hN.keep k' (ne1 _ ⟨_, _, hN.cells⟩) (fun b hb => ne2 b (hcv b hb).2) ne3, fun b hb => ?_, hb, hd, hdn⟩
  obtain ⟨h1, cur, fr, h2⟩ := hcv b hb
  exact ⟨h1, cur, fr, k'.heap h2 (ne2 b ⟨_, _, h2⟩)⟩
def initT (N : List NG) : List ND := ndZ :: N.map fun n => upN n.1 n.2
def newT (N : List NG) : List ND := (initT N).map (chooseN (initT N))
theorem chooseN_congr {T T' : List ND} (h : ∀ c, upT T' c = upT T c) (n : ND) : chooseN T' n = chooseN T n := by
  have : okC T' n = okC T n := by funext c; unfold okC; rw [h]
  unfold chooseN
  rw [this]
theorem upT_part (N : List NG) (k : Nat) (c : Int) : upT (((initT N).take k).map (chooseN (initT N)) ++ (initT N).drop k) c = upT (initT N) c := by
  generalize initT N = T
  have hl : ((T.take k).map (chooseN T) ++ T.drop k).length = T.length := by simp; omega
  unfold upT
  have hin : inT ((T.take k).map (chooseN T) ++ T.drop k) c ↔ inT T c := by unfold inT; rw [hl]
  by_cases hc : inT T c
  · rw [if_pos (hin.2 hc), if_pos hc]
    unfold ndAt
    have hlt : c.toNat < T.length := by unfold inT at hc; omega
    simp only [List.getD_eq_getElem?_getD]
    by_cases hk : c.toNat < k
    · rw [List.getElem?_append_left (by simp; omega), List.getElem?_map, List.getElem?_take_of_lt hk]
      simp [hlt, chooseN]
    · rw [List.getElem?_append_right (by simp; omega), List.getElem?_drop]
      have : k + (c.toNat - ((T.take k).map (chooseN T)).length) = c.toNat := by simp; omega
      rw [this]
  · rw [if_neg (fun h => hc (hin.1 h)), if_neg hc]
theorem part_set (T : List ND) (k : Nat) {n : ND} (hn : T[k]? = some n) : ((T.take k).map (chooseN T) ++ T.drop k).set k (chooseN T n) = (T.take (k + 1)).map (chooseN T) ++ T.drop (k + 1) := by
  have hlt := (List.getElem?_eq_some_iff.1 hn).1
  have hd : T.drop k = n :: T.drop (k + 1) := by rw [List.drop_eq_getElem_cons hlt, (List.getElem?_eq_some_iff.1 hn).2]
  rw [List.set_append_right _ _ (by simp; omega), hd]
  have : k - ((T.take k).map (chooseN T)).length = 0 := by simp; omega
  rw [this, List.set_cons_zero, List.take_add_one, hn]
  simp
/-- What New hands back. -/
structure Made (w w' : World) (N : List NG) (tb lb cap : Nat) (X : List NL) : Prop where
  tree : TreeAt w' tb lb cap (newT N) X
  wf : WFT (newT N) X
  fresh : ∀ b, TD X b → w.heap.size ≤ b
set_option maxRecDepth 100000 in
set_option maxHeartbeats 4000000 in
theorem new_ca (N : List NG) (gs : List GN) (sl : Value) (hN : N.length ≤ 1000000) (hlen : ∀ n ∈ N, n.2.length ≤ 1000000 ∧ ∀ c ∈ n.2, i64B c) (w : World) (hsl : SlR w 2 sl gs.length (gs.flatMap GNc)) (hg : Given w N gs) :
    Ca Tryd.prog 11 #[sl] w fun v w' => ((rightP N ∧ ∃ tb lb cap X, v = .tuple #[.pointer (some ⟨tb, 0, none⟩), .int .i64 0] ∧ Made w w' N tb lb cap X) ∨ (¬ rightP N ∧ v = .tuple #[.pointer none, .int .i64 1])) ∧ Keeps NoB w w' := by
  have hgl := hg.len
  obtain ⟨a, cp, rfl, hcp, hat⟩ := hsl.shape
  refine ca_of_body (args := [.slice a gs.length cp]) Tryd.func11 rfl (by kernel_rfl) ?_
  (repeat first | (apply wr_move; exact rfl; with_reducible (conv => enter [6, 3]; whnf)) | (apply wr_assign; exact rfl; with_reducible (conv => enter [6, 3]; whnf)) | apply wr_end | apply wc_seq | apply wc_region)
  refine wr_call (vs := [.slice a gs.length cp]) rfl (right_ca N gs _ hN hlen w hsl hg) rfl ?_
  rintro v w1 ⟨rfl, hk1⟩
  by_cases hR : rightP N
  rotate_left
  · rw [decide_eq_false hR]
    (repeat first | (apply wr_assign; exact rfl; with_reducible (conv => enter [6, 3]; whnf)) | apply wr_end | apply wc_seq | apply wc_region | (apply wr_not; iterate 2 exact rfl) | (apply wc_true; exact rfl) | (apply wc_ret; try simp only [thenE, inBlockE, bodyQ]))
    exact leave2 (v1 := .pointer none) (v2 := .int .i64 1) rfl rfl rfl ⟨.inr ⟨hR, rfl⟩, hk1⟩
  rw [decide_eq_true hR]
  have hR0 := hR
  obtain ⟨⟨hN1, hN32⟩, hd0, hc0, hall⟩ := hR
  obtain ⟨s, hs⟩ : ∃ s, s = w.heap.size := ⟨_, rfl⟩
  have hs1 : s ≤ w1.heap.size := by rw [hs]; exact hk1.size
  (repeat first | apply wr_end | apply wc_seq | apply wc_region | apply wc_skip | (apply wr_not; iterate 2 exact rfl) | (apply wc_false; exact rfl))
  refine wr_build (ps := []) (cs := ndC ndZ ⟨0, .slice none 0 0, none⟩) rfl rfl rfl rfl ?_
  refine wr_box (v := .agg (ndC ndZ ⟨0, .slice none 0 0, none⟩).toArray) rfl rfl ?_
  obtain ⟨w2, hw2⟩ : ∃ w2, w2 = w1.alloc (.cells (Value.agg (ndC ndZ ⟨0, .slice none 0 0, none⟩).toArray).cells 56) := ⟨_, rfl⟩
  obtain ⟨b0, hb0⟩ : ∃ b0, b0 = w1.heap.size := ⟨_, rfl⟩
  have hk2 : Keeps NoB w1 w2 := by rw [hw2]; exact (Keeps.refl NoB w1).alloc _
  have hn2 : w2.heap[b0]? = some (.cells (ndC ndZ ⟨b0, .slice none 0 0, none⟩).toArray 56 (0, 0)) := by rw [hw2, hb0]; exact heap_alloc_same _ _
  rw [← hw2, ← hb0]
  clear hw2
  obtain ⟨x0, hx0⟩ : ∃ x0 : NL, x0 = ⟨b0, .slice none 0 0, none⟩ := ⟨_, rfl⟩
  have hG2 : Grown s w2 [ndZ] [x0] := by
    refine ⟨rfl, fun i n x hn hx => ?_, fun i j x y hx hy _ => ?_, fun i j x y b hx hy hb _ => ?_⟩
    · have hi := (List.getElem?_eq_some_iff.1 hx).1
      simp at hi
      subst hi
      simp at hn hx
      subst hn hx
      rw [hx0]
      exact ⟨⟨hn2, ⟨rfl, none, 0, rfl, Nat.le_refl _, .inl ⟨rfl, fun _ => rfl⟩⟩, rfl⟩, (fun b hb => by cases hb), by dsimp only; omega, (fun b hb => by cases hb), fun h => by cases h⟩
    · have hi := (List.getElem?_eq_some_iff.1 hx).1
      have hj := (List.getElem?_eq_some_iff.1 hy).1
      simp at hi hj; omega
    · have hi := (List.getElem?_eq_some_iff.1 hx).1
      simp at hi
      subst hi
      simp at hx
      subst hx
      rw [hx0] at hb
      cases hb
  refine wr_buildSlice (vs := [ptrN x0]) rfl (by rw [hx0]; rfl) (by intro v hv; simp at hv; subst hv; rfl) rfl (by decide) (by decide) (by decide) ?_
  obtain ⟨w3, hw3⟩ : ∃ w3, w3 = w2.alloc (.cells ([ptrN x0].flatMap (fun v => v.cells.toList)).toArray 53) := ⟨_, rfl⟩
  have hk3 : Keeps NoB w2 w3 := by rw [hw3]; exact (Keeps.refl NoB w2).alloc _
  have ho3 : w3.ownsRow s 53 1 (.slice (some ⟨w2.heap.size, 0, none⟩) 1 1) 1 [ptrN x0] := by
    rw [hw3]; exact ⟨rfl, .inr ⟨w2.heap.size, 1, _, rfl, by have := hk2.size; omega, heap_alloc_same _ _, Nat.le_refl _, by decide, rfl, rfl⟩⟩
  rw [← hw3]
  clear hw3
  obtain ⟨v0, hv0⟩ : ∃ v0, v0 = Value.slice (some ⟨w2.heap.size, 0, none⟩) 1 1 := ⟨_, rfl⟩
  rw [← hv0] at ho3 ⊢
  refine wr_build (ps := [(0, v0)]) (cs := [v0]) rfl rfl (by rw [hv0]; rfl) (by rw [hv0]; rfl) ?_
  refine wr_box (v := .agg #[v0]) rfl rfl ?_
  obtain ⟨w4, hw4⟩ : ∃ w4, w4 = w3.alloc (.cells (Value.agg #[v0]).cells 59) := ⟨_, rfl⟩
  obtain ⟨tb, htb⟩ : ∃ tb, tb = w3.heap.size := ⟨_, rfl⟩
  have hk4 : Keeps NoB w3 w4 := by rw [hw4]; exact (Keeps.refl NoB w3).alloc _
  have ht4 : w4.heap[tb]? = some (.cells #[v0] 59 (0, 0)) := by rw [hw4, htb]; exact heap_alloc_same _ _
  rw [← hw4, ← htb]
  clear hw4
  have hk24 := hk3.trans hk4
  have hG4 := hG2.keep hk24 (fun _ _ h => h)
  have ho4 := own_keep ho3 hk4 (fun _ _ h => h)
  have hk04 := hk1.trans (hk2.trans hk24)
  have hstb : s ≤ tb := by have := (hk2.trans hk3).size; omega
  (repeat first | (apply wr_move; exact rfl; with_reducible (conv => enter [6, 3]; whnf)) | (apply wr_assign; exact rfl; with_reducible (conv => enter [6, 3]; whnf)) | apply wr_end | apply wc_seq | apply wc_region | apply wc_block | (apply wr_len_slice; iterate 2 exact rfl))
  refine wc_loopL (α := Nat) (fun i => [(4, .pointer (some ⟨tb, 0, none⟩)), (17, .slice a gs.length cp), (18, .int .i64 (gs.length : Int)), (19, .int .i64 (i : Int))])
    (fun i ds w' => ds = [] ∧ i ≤ gs.length ∧ Keeps NoB w w' ∧ ∃ (X : List NL) (v : Value), w'.heap[tb]? = some (.cells #[v] 59 (0, 0)) ∧ w'.ownsRow s 53 1 v (i + 1) (X.map ptrN) ∧ Grown s w' ((initT N).take (i + 1)) X) (fun i => gs.length - i) 0
    ⟨rfl, Nat.zero_le _, hk04, [x0], v0, ht4, ho4, hG4⟩ ⟨rfl, rfl, rfl, rfl, trivial⟩ ?_
  rintro i ds f0 w5 ⟨rfl, hi, hk5, X, v, ht5, ho5, hG5⟩
  have hv5 := own_one ho5
  by_cases hlt : i < gs.length
  · obtain ⟨b, o, rfl, cur, e, fr, hb, hr⟩ := hat (by omega)
    have hbb5 := hk5.heap hb (fun h => h)
    obtain ⟨⟨g1, g2⟩, hgi⟩ : ∃ g, gs[i]? = some g := ⟨gs[i], by simp [hlt]⟩
    obtain ⟨⟨n1, n2⟩, hni⟩ : ∃ n, N[i]? = some n := ⟨N[i]'(by omega), by simp [show i < N.length by omega]⟩
    obtain ⟨he1, he2⟩ := hg.el i _ _ hgi hni
    dsimp only at he1 he2
    subst he1
    have hn2l := (hlen _ (List.mem_of_getElem? hni)).1
    dsimp only at hn2l
    have hnt : (initT N).take (i + 1 + 1) = (initT N).take (i + 1) ++ [upN g1 n2] := by
      rw [List.take_add_one]
      have : (initT N)[i + 1]? = some (upN g1 n2) := by unfold initT; simp [hni]
      rw [this]; rfl
    (repeat first | apply wr_end | apply wc_seq | apply wc_region | apply wc_skip | apply wc_block | (apply wr_cmp; (iterate 3 exact rfl); exact cmpT (by dsimp only [cmpP]; first | done | omega)) | (apply wc_true; exact rfl))
    refine wr_indexAddr (i := i) rfl rfl rfl hlt ?_
    refine wr_loadElem (G := GNc) (n := gs.length) rfl rfl GNc_len rfl hbb5 hr hlt hgi rfl ?_
    refine wr_alloc rfl ?_
    refine wr_storeAll (cs := [.int .i64 g1, g2]) rfl rfl rfl (by intro u hu; simp at hu; rcases hu with rfl | rfl; rfl; exact slR_one he2) (heap_alloc_same _ _) rfl rfl ?_
    obtain ⟨w6, hw6⟩ : ∃ w6, w6 = (w5.alloc (.cells (Value.agg #[.int .i64 0, .slice none 0 0]).cells 35)).putObj w5.heap.size (.cells [.int .i64 g1, g2].toArray 35 (0, 0)) := ⟨_, rfl⟩
    have hk6 : Keeps NoB w5 w6 := by rw [hw6]; exact ((Keeps.refl NoB w5).alloc _).put _ (fun h => by omega)
    have hl6 : w6.heap[w5.heap.size]? = some (.cells #[.int .i64 g1, g2] 35 (0, 0)) := by rw [hw6]; exact World.putObj_heap_same (by simp)
    rw [← hw6]
    clear hw6
    have ht6 := hk6.heap ht5 (fun h => h)
    have ho6 := own_keep ho5 hk6 (fun _ _ h => h)
    have hG6 := hG5.keep hk6 (fun _ _ h => h)
    have hg26 := he2.keep (hk5.trans hk6) (fun _ _ h => h)
    obtain ⟨z, hz⟩ : ∃ z, z = w6.heap.size := ⟨_, rfl⟩
    have hbl : ∀ b, v.ownBlock = some b → s ≤ b ∧ b < z := fun b hb => by rw [hz]; exact ho6.lt b hb
    have hbt : ∀ b, v.ownBlock = some b → b ≠ tb := fun b hb e => by
      obtain ⟨c1, f1, h1⟩ := own_ty ho6 hb
      rw [e, ht6] at h1
      simp at h1
    have hrd : ∀ {j w'}, Keeps (monD (fun k => v.ownBlock = some k) (some 15) j) w6.drew w' → Keeps (fun k => v.ownBlock = some k) w6.drew w' := by
      intro j w' h
      unfold monD at h
      simp only at h
      cases hb : Nat.beq j 15 with
      | true => rw [hb] at h; exact Keeps.upD h
      | false => rw [hb] at h; exact h
    have hzd : ∀ b, z ≤ b → ¬ v.ownBlock = some b := fun b hb e => by have := (hbl b e).2; omega
    have hws6 : w.heap.size ≤ w6.heap.size := (hk5.trans hk6).size
    have hzw : z ≤ w6.drew.heap.size := by rw [hz]; exact Nat.le_refl _
    have hlne : ∀ b, v.ownBlock = some b → b ≠ w5.heap.size := fun b hb e => by
      obtain ⟨c1, f1, h1⟩ := own_ty ho6 hb
      rw [e, hl6] at h1
      simp at h1
    (repeat first | apply wr_end)
    refine wc_drawQ (fun k => v.ownBlock = some k) (some 15) (l := _) 18 _ (by kernel_rfl) (by kernel_rfl) rfl (by kernel_rfl) (by kernel_rfl) (by decide) ?_
    apply chP_pure
    focus
      intro xx w' hk hF
      apply wr_move; exact rfl; with_reducible (conv => enter [6, 3]; whnf)
      apply wr_nil
      exact ⟨rfl, Keeps.refl _ _⟩
    focus (intro xx yy h; rfl)
    focus kernel_rfl
    apply chP_pure
    focus
      intro xx w' hk hF
      apply wr_move; exact rfl; with_reducible (conv => enter [6, 3]; whnf)
      apply wr_nil
      exact ⟨rfl, Keeps.refl _ _⟩
    focus (intro xx yy h; rfl)
    focus kernel_rfl
    apply chP_pure
    focus
      intro xx w' hk hF
      refine wr_nilCheck rfl rfl ?_
      apply wr_nil
      exact ⟨rfl, Keeps.refl _ _⟩
    focus (intro xx yy h; rfl)
    focus kernel_rfl
    apply chP_pure
    focus
      intro xx w' hk hF
      refine wr_fieldAddr rfl rfl ?_
      apply wr_nil
      exact ⟨rfl, Keeps.refl _ _⟩
    focus (intro xx yy h; rfl)
    focus kernel_rfl
    apply chP_pure
    focus
      intro xx w' hk hF
      refine wr_load (v := v) rfl rfl rfl ((hrd hk).heap (a := w6.drew) ht6 (fun h => hbt _ h rfl)) rfl ?_
      apply wr_nil
      exact ⟨rfl, Keeps.refl _ _⟩
    focus (intro xx yy h; rfl)
    focus kernel_rfl
    apply chP_pure
    focus
      intro xx w' hk hF
      refine wr_fieldAddr rfl rfl ?_
      apply wr_nil
      exact ⟨rfl, Keeps.refl _ _⟩
    focus (intro xx yy h; rfl)
    focus kernel_rfl
    apply chP_pure
    focus
      intro xx w' hk hF
      refine wr_load (v := .int .i64 g1) rfl rfl rfl ((hrd hk).heap (a := w6.drew) hl6 (fun h => hlne _ h rfl)) rfl ?_
      apply wr_nil
      exact ⟨rfl, Keeps.refl _ _⟩
    focus (intro xx yy h; rfl)
    focus kernel_rfl
    apply chP_pure
    focus
      intro xx w' hk hF
      refine wr_fieldAddr rfl rfl ?_
      apply wr_nil
      exact ⟨rfl, Keeps.refl _ _⟩
    focus (intro xx yy h; rfl)
    focus kernel_rfl
    apply chP_pure
    focus
      intro xx w' hk hF
      refine wr_load (v := g2) rfl rfl rfl ((hrd hk).heap (a := w6.drew) hl6 (fun h => hlne _ h rfl)) rfl ?_
      apply wr_nil
      exact ⟨rfl, Keeps.refl _ _⟩
    focus (intro xx yy h; rfl)
    focus kernel_rfl
    refine chP_fact (fun y => y) (fun y w' => SlR w' 1 y n2.length (IL n2) ∧ CvT w' y z) (fun y w w' h k => ⟨SlR.keep (D := fun k => v.ownBlock = some k) h.1 k (fun b hb hd => hzd b (h.2 b hb).1 hd), CvT.keep (D := fun k => v.ownBlock = some k) h.2 k hzd⟩) ?_ ?_
    focus
      intro xx w' hk hF
      have hgw : SlR w' 1 g2 n2.length (IL n2) := by
        refine (he2.keep (w' := w') ?_ (fun _ _ h => h))
        exact Keeps.trans' ((hk5.trans hk6).drew) (hrd hk) (fun b hb e => by have := (hbl b e).1; omega)
      refine wr_call (vs := [g2]) rfl (cloneI_ca n2 g2 w' hgw (by omega)) rfl ?_
      rintro v'' w'' ⟨h1, h2, hk'⟩
      apply wr_nil
      have hsz := (hrd hk).size
      exact ⟨v'', rfl, ⟨h1, fun b hb => ⟨by have := (h2 b hb).1; omega, (h2 b hb).2⟩⟩, hk'⟩
    apply chP_pure
    focus
      intro xx w' hk hF
      obtain ⟨h9, _⟩ : SlR w' 1 (xx 9) n2.length (IL n2) ∧ CvT w' (xx 9) z := hF 9 (by kernel_rfl)
      obtain ⟨a9, c9, e9⟩ := slr_cell1 h9
      refine wr_build (ps := [(0, .int .i64 g1), (1, xx 9)]) (cs := [.int .i64 g1, xx 9]) rfl rfl (by rw [e9]; rfl) (by rw [e9]; rfl) ?_
      apply wr_nil
      exact ⟨rfl, Keeps.refl _ _⟩
    focus (intro xx yy h; simp only [h 9 (by kernel_rfl)])
    focus kernel_rfl
    refine chP_fact (fun y => .map (some (blkV y))) (fun y w' => MetAt w' (blkV y) [] ∧ z ≤ blkV y) (fun y w w' h k => ⟨MetAt.keep (D := fun k => v.ownBlock = some k) h.1 k (fun hd => hzd _ h.2 hd), h.2⟩) ?_ ?_
    focus
      intro xx w' hk hF
      refine wr_makeMap rfl ?_
      apply wr_nil
      exact ⟨.pointer (some ⟨w'.heap.size, 0, none⟩), rfl, ⟨MetAt.new w', by have := (hrd hk).size; show z ≤ w'.heap.size; omega⟩, (Keeps.refl _ _).alloc _⟩
    apply chP_pure
    focus
      intro xx w' hk hF
      refine wr_build (ps := [(0, .agg #[.int .i64 g1, xx 9]), (1, .bool true), (3, .map (some (blkV (xx 11))))]) (cs := [.int .i64 g1, xx 9, .bool true, .int .i64 0, .map (some (blkV (xx 11)))]) rfl rfl rfl rfl ?_
      apply wr_nil
      exact ⟨rfl, Keeps.refl _ _⟩
    focus (intro xx yy h; simp only [h 9 (by kernel_rfl), h 11 (by kernel_rfl)])
    focus kernel_rfl
    refine chP_fact (fun y => .pointer (some ⟨blkV y, 0, none⟩)) (fun y w' => ∃ x' : NL, x'.blk = blkV y ∧ Fresh z (upN g1 n2) x' w') (fun y w w' h k => by obtain ⟨x', e', h'⟩ := h; exact ⟨x', e', Fresh.keep (D := fun k => v.ownBlock = some k) h' k hzd⟩) ?_ ?_
    focus
      intro xx w' hk hF
      obtain ⟨h9, h9t⟩ : SlR w' 1 (xx 9) n2.length (IL n2) ∧ CvT w' (xx 9) z := hF 9 (by kernel_rfl)
      obtain ⟨h11, h11z⟩ : MetAt w' (blkV (xx 11)) [] ∧ z ≤ blkV (xx 11) := hF 11 (by kernel_rfl)
      have hsz := (hrd hk).size
      refine wr_box (v := .agg #[.int .i64 g1, xx 9, .bool true, .int .i64 0, .map (some (blkV (xx 11)))]) rfl rfl ?_
      apply wr_nil
      have hka : Keeps NoB w' (w'.alloc (.cells (Value.agg #[.int .i64 g1, xx 9, .bool true, .int .i64 0, .map (some (blkV (xx 11)))]).cells 56)) := (Keeps.refl NoB w').alloc _
      exact ⟨.pointer (some ⟨w'.heap.size, 0, none⟩), rfl, ⟨⟨w'.heap.size, xx 9, some (blkV (xx 11))⟩, rfl, ⟨⟨heap_alloc_same _ _, h9.keep hka (fun _ _ h => h), h11.keep hka (fun h => h)⟩, h9t.keep hka (fun _ _ h => h), by dsimp only; omega, (fun b hb => by cases hb; exact h11z), fun _ h => by cases h⟩⟩, hka⟩
    refine chP_fact (fun y => .slice (some ⟨blkV y, 0, none⟩) 1 1) (fun y w' => ∃ x' : NL, Fresh z (upN g1 n2) x' w' ∧ w'.heap[blkV y]? = some (.cells [ptrN x'].toArray 53 (0, 0)) ∧ z ≤ blkV y) (fun y w w' h k => by
      obtain ⟨x', h', h2, h3⟩ := h
      exact ⟨x', Fresh.keep (D := fun k => v.ownBlock = some k) h' k hzd, Keeps.heap (D := fun k => v.ownBlock = some k) k h2 (fun hd => hzd _ h3 hd), h3⟩) ?_ ?_
    focus
      intro xx w' hk hF
      obtain ⟨x', e', h'⟩ : ∃ x' : NL, x'.blk = blkV (xx 13) ∧ Fresh z (upN g1 n2) x' w' := hF 13 (by kernel_rfl)
      have hsz := (hrd hk).size
      refine wr_buildSlice (vs := [ptrN x']) rfl (by rw [ptrN, e']; rfl) (by intro v hv; simp at hv; subst hv; rfl) rfl (by decide) (by decide) (by decide) ?_
      apply wr_nil
      have hka : Keeps NoB w' (w'.alloc (.cells ([ptrN x'].flatMap (fun v => v.cells.toList)).toArray 53)) := (Keeps.refl NoB w').alloc _
      exact ⟨.pointer (some ⟨w'.heap.size, 0, none⟩), rfl, ⟨x', h'.keep hka (fun _ _ h => h), one_cells _ _ rfl _ _, by show z ≤ w'.heap.size; omega⟩, hka⟩
    refine chP_fact (fun y => y) (fun y w' => ∃ x' : NL, Fresh z (upN g1 n2) x' w' ∧ w'.ownsRow s 53 1 y (i + 1 + 1) (X.map ptrN ++ [ptrN x'])) (fun y w w' h k => by
      obtain ⟨x', h', h2⟩ := h
      exact ⟨x', Fresh.keep (D := NoB) h' k (fun _ _ h => h), own_keep (D := NoB) h2 k (fun _ _ h => h)⟩) ?_ ?_
    focus
      intro xx w' hk hF
      obtain ⟨x', h', q1, q2⟩ : ∃ x' : NL, Fresh z (upN g1 n2) x' w' ∧ w'.heap[blkV (xx 14)]? = some (.cells [ptrN x'].toArray 53 (0, 0)) ∧ z ≤ blkV (xx 14) := hF 14 (by kernel_rfl)
      have hkn : Keeps NoB w6.drew w' := hk
      have hwk : w6.heap.size ≤ w'.heap.size := hkn.size
      refine wr_append2 (v := v) (n := i + 1) (m := 1) (b := blkV (xx 14)) (news := [ptrN x']) rfl rfl (own_keep (w := w6.drew) ho6 hkn (fun _ _ h => h)) rfl q1 rfl (by intro u hu; simp at hu; subst hu; rfl) rfl (by decide) (by omega) (by omega) (by omega) ?_
      intro v' w'' ho' hk' hb'
      apply wr_nil
      exact ⟨v', rfl, ⟨x', h'.keep hk' hzd, ho'⟩, hk'⟩
    apply chP_pure
    focus
      intro xx w' hk hF
      refine wr_nilCheck rfl rfl ?_
      apply wr_nil
      exact ⟨rfl, Keeps.refl _ _⟩
    focus (intro xx yy h; rfl)
    focus kernel_rfl
    apply chP_pure
    focus
      intro xx w' hk hF
      refine wr_fieldAddr rfl rfl ?_
      apply wr_nil
      exact ⟨rfl, Keeps.refl _ _⟩
    focus (intro xx yy h; rfl)
    focus kernel_rfl
    refine chP_nil ?_
    intro xx w7 hk7 hF
    obtain ⟨x', h', q1⟩ : ∃ x' : NL, Fresh z (upN g1 n2) x' w7 ∧ w7.ownsRow s 53 1 (xx 15) (i + 1 + 1) (X.map ptrN ++ [ptrN x']) := hF 15 (by decide)
    have hk67 : Keeps (fun k => v.ownBlock = some k) w6 w7 := (Keeps.refl _ w6).drew.trans hk7
    have h17 := own_one q1
    have ht7 := hk67.heap ht6 (fun h => hbt _ h rfl)
    have hG7 := hG6.keepT hk67 (fun b hd _ => by obtain ⟨c1, f1, h1⟩ := own_ty ho6 hd; exact ⟨c1, _, f1, h1, by decide, by decide⟩)
    have hG7' := hG6.snoc hG7 (z := z) (by rw [hz]; exact Nat.le_refl _) (by have := hk5.size; have := hk6.size; omega) h'
    rw [← hnt] at hG7'
    refine wr_store (v := xx 15) rfl rfl rfl h17 ht7 rfl ?_
    obtain ⟨w8, hw8⟩ : ∃ w8, w8 = w7.putObj tb (.cells ((#[v] : Array Value).setIfInBounds (0 + 0) (xx 15)) 59 (0, 0)) := ⟨_, rfl⟩
    have hk8 : Keeps (· = tb) w7 w8 := by rw [hw8]; exact (Keeps.refl _ _).put _ (fun _ => rfl)
    have ht8 : w8.heap[tb]? = some (.cells #[xx 15] 59 (0, 0)) := by rw [hw8]; exact World.putObj_heap_same (lt_of_heap ht7)
    rw [← hw8]
    clear hw8
    have hG8 := hG7'.keepT hk8 (fun b hd _ => by subst hd; exact ⟨_, _, _, ht7, by decide, by decide⟩)
    have ho8 := own_keep q1 hk8 (fun b hb e => by
      obtain ⟨c1, f1, h1⟩ := own_ty q1 hb
      rw [e, ht7] at h1
      simp at h1)
    have hk08 : Keeps NoB w w8 := Keeps.trans' (Keeps.trans' (hk5.trans hk6) hk67 (fun b hb e => by have := (hbl b e).1; omega)) hk8 (fun b hb e => by omega)
    (repeat first | (apply wr_move; exact rfl; with_reducible (conv => enter [6, 3]; whnf)) | apply wr_end | apply wc_region | (apply wr_add; (iterate 3 exact rfl); exact w_fit (by dsimp only [kIn]; first | done | omega)) | (apply wr_nil; try simp only [thenE, inBlockE, bodyQ]))
    exact ⟨i + 1, by omega, ⟨by trivial, hlt, hk08, X ++ [x'], xx 15, ht8, (by rw [List.map_append]; exact ho8), hG8⟩, rfl, rfl, rfl, by simp, trivial⟩
  · have he : i = gs.length := by omega
    subst he
    have hTl : (initT N).length = N.length + 1 := by simp [initT]
    rw [List.take_of_length_le (by omega)] at hG5
    have hXl : X.length = gs.length + 1 := by rw [← hG5.len, hTl]; omega
    obtain ⟨lb, cap, rfl⟩ : ∃ lb cap, v = .slice (some ⟨lb, 0, none⟩) X.length cap := by
      rcases ho5.2 with ⟨_, h0⟩ | ⟨g, cap, cur, rfl, _⟩
      · omega
      · exact ⟨g, cap, by rw [hXl]⟩
    rw [← hXl] at ho5
    have hT5 : TreeAt w5 tb lb cap (initT N) X := hG5.tree (n := 0) ht5 ho5 (by omega)
    have hin0 : ∀ c : Int, inT (initT N) c ↔ (1 ≤ c ∧ c ≤ N.length) := fun c => by unfold inT; rw [hTl]; omega
    have hwf0 : WFT (initT N) X := fun i n x hn hx => by
      have hf := hG5.node i n x hn hx
      refine ⟨?_, ?_, fun h0 => ?_, fun h0 => ?_⟩
      rotate_left 2
      · cases i with
        | zero => exact absurd rfl h0
        | succ j =>
          simp [initT] at hn
          obtain ⟨n1, n2, hj, rfl⟩ := hn
          exact hf.dn rfl
      · subst h0
        simp [initT] at hn; subst hn; rfl
      · cases i with
        | zero => simp [initT] at hn; subst hn; simp [ndZ]
        | succ j =>
          simp [initT] at hn
          obtain ⟨n1, n2, hj, rfl⟩ := hn
          cases j with
          | zero =>
            have : N.getD 0 (0, []) = (n1, n2) := by simp [hj]
            rw [this] at hc0
            dsimp only at hc0
            simp [upN, hc0]
          | succ j =>
            have hm : (n1, n2) ∈ N.drop 1 := List.mem_of_getElem? (i := j) (by rw [List.getElem?_drop, Nat.add_comm]; exact hj)
            have := (hall _ hm).2.1.2
            simp only [upN]
            dsimp only at this
            omega
      · intro c hc
        rw [hin0]
        cases i with
        | zero => simp [initT] at hn; subst hn; simp [ndZ] at hc
        | succ j =>
          simp [initT] at hn
          obtain ⟨n1, n2, hj, rfl⟩ := hn
          simp only [upN] at hc
          cases j with
          | zero =>
            have : N.getD 0 (0, []) = (n1, n2) := by simp [hj]
            rw [this] at hc0
            dsimp only at hc0
            rw [hc0] at hc; cases hc
          | succ j =>
            have hm : (n1, n2) ∈ N.drop 1 := List.mem_of_getElem? (i := j) (by rw [List.getElem?_drop, Nat.add_comm]; exact hj)
            have := (hall _ hm).2.2.2 c hc
            exact ⟨this.1, this.2.1⟩
    obtain ⟨part, hpart⟩ : ∃ part : Nat → List ND, part = fun k => ((initT N).take k).map (chooseN (initT N)) ++ (initT N).drop k := ⟨_, rfl⟩
    have hwfp : ∀ k, WFT (part k) X := fun k i n x hn hx => by
      have hlt : i < (initT N).length := by
        have := (List.getElem?_eq_some_iff.1 hn).1
        rw [hpart] at this; simp at this; omega
      obtain ⟨m, hm⟩ : ∃ m, (initT N)[i]? = some m := ⟨(initT N)[i], by simp [hlt]⟩
      have hcn : n.cands = m.cands := by
        rw [hpart] at hn
        dsimp only at hn
        by_cases hik : i < k
        · rw [List.getElem?_append_left (by simp; omega), List.getElem?_map, List.getElem?_take_of_lt hik, hm] at hn
          cases hn; rfl
        · rw [List.getElem?_append_right (by simp; omega), List.getElem?_drop] at hn
          have : k + (i - (((initT N).take k).map (chooseN (initT N))).length) = i := by simp; omega
          rw [this, hm] at hn
          cases hn; rfl
      obtain ⟨w1, w2, w3, w4⟩ := hwf0 i m x hm hx
      have hpl : (part k).length = (initT N).length := by rw [hpart]; simp; omega
      refine ⟨by rw [hcn]; exact w1, fun c hc => ?_, w3, by rw [hcn]; exact w4⟩
      rw [hcn] at hc
      have := w2 c hc
      unfold inT at this ⊢
      rw [hpl]; exact this
    have hrow := hT5.row
    obtain ⟨rcur, re, rfr, hrb, hrr⟩ := hrow
    (repeat first | (apply wr_move; exact rfl; with_reducible (conv => enter [6, 3]; whnf)) | apply wr_end | apply wc_seq | apply wc_region | apply wc_block | (apply wr_fieldAddr; iterate 2 exact rfl) | (apply wr_len_slice; iterate 2 exact rfl) | (apply wr_nilCheck; iterate 2 exact rfl) | (apply wr_load; (iterate 3 exact rfl); (focus repeat first | with_reducible assumption | exact heap_alloc_same _ _ | exact World.putObj_heap_same (by first | omega | (simp only [World.size_alloc, World.putObj_size, ne_eq]; omega)) | ((first | refine hAl ?_ ?_ | refine hPu ?_ ?_); focus first | omega | (simp only [World.size_alloc, World.putObj_size, ne_eq]; omega))); exact rfl; conv => enter [6, 3]; whnf) | (apply wr_cmp; (iterate 3 exact rfl); exact cmpF (by dsimp only [cmpN]; first | done | omega)) | (apply wc_false; exact rfl) | (apply wc_exit; try simp only [thenE, inBlockE, bodyQ, ↓reduceIte, Nat.reduceEqDiff]))
    refine wc_loopL (α := Nat) (fun k => [(4, .pointer (some ⟨tb, 0, none⟩)), (45, .slice (some ⟨lb, 0, none⟩) X.length cap), (46, .int .i64 (X.length : Int)), (47, .int .i64 (k : Int))])
      (fun k ds w' => ds = [] ∧ k ≤ X.length ∧ TreeAt w' tb lb cap (part k) X ∧ Keeps NoB w w') (fun k => X.length - k) 0
      ⟨rfl, Nat.zero_le _, (by rw [hpart]; simpa using hT5), hk5⟩ ⟨rfl, rfl, rfl, rfl, trivial⟩ ?_
    rintro k ds f1 w6 ⟨rfl, hk, hT6, hk6⟩
    obtain ⟨rcur6, re6, rfr6, hrb6, hrr6⟩ := hT6.row
    by_cases hlk : k < X.length
    · obtain ⟨x, hx⟩ : ∃ x, X[k]? = some x := ⟨X[k], by simp [hlk]⟩
      obtain ⟨n, hn⟩ : ∃ n, (initT N)[k]? = some n := ⟨(initT N)[k]'(by omega), by simp [show k < (initT N).length by omega]⟩
      have hpn : (part k)[k]? = some n := by
        rw [hpart]
        dsimp only
        rw [List.getElem?_append_right (by simp; omega), List.getElem?_drop]
        have : k + (k - (((initT N).take k).map (chooseN (initT N))).length) = k := by simp; omega
        rw [this, hn]
      have hset : (part k).set k (chooseN (part k) n) = part (k + 1) := by
        rw [chooseN_congr (T := initT N) (fun c => by rw [hpart]; exact upT_part N k c), hpart]
        exact part_set (initT N) k hn
      have hxf := hG5.node k n x hn hx
      (repeat first | apply wr_end | apply wc_seq | apply wc_region | apply wc_skip | apply wc_block | (apply wr_cmp; (iterate 3 exact rfl); exact cmpT (by dsimp only [cmpP]; first | done | omega)) | (apply wc_true; exact rfl))
      refine wr_indexAddr (i := k) rfl rfl rfl hlk ?_
      refine wr_load (v := .pointer (some ⟨x.blk, 0, none⟩)) rfl rfl rfl hrb6 (hrr6 k x hx) ?_
      (repeat first | (apply wr_move; exact rfl; with_reducible (conv => enter [6, 3]; whnf)) | (apply wr_assign; exact rfl; with_reducible (conv => enter [6, 3]; whnf)) | apply wr_end | apply wc_region)
      refine wr_call (vs := [.pointer (some ⟨tb, 0, none⟩), .pointer (some ⟨x.blk, 0, none⟩)]) rfl (choose_ca w6 hT6 (hwfp k) hpn hx) rfl ?_
      rintro vv w7 ⟨rfl, hT7, hk7⟩
      rw [hset] at hT7
      (repeat first | (apply wr_move; exact rfl; with_reducible (conv => enter [6, 3]; whnf)) | apply wr_end | apply wc_region | (apply wr_add; (iterate 3 exact rfl); exact w_fit (by dsimp only [kIn]; first | done | omega)) | (apply wr_nil; try simp only [thenE, inBlockE, bodyQ]))
      exact ⟨k + 1, by omega, ⟨by trivial, hlk, hT7, Keeps.trans' hk6 hk7 (fun b hb e => by have := hxf.blk; omega)⟩, rfl, rfl, rfl, by simp, trivial⟩
    · have he : k = X.length := by omega
      subst he
      have hfull : part X.length = newT N := by
        rw [hpart]
        dsimp only
        rw [List.take_of_length_le (by omega), List.drop_of_length_le (by omega), List.append_nil]; rfl
      have hwfn := hwfp X.length
      rw [hfull] at hT6 hwfn
      (repeat first | (apply wr_move; exact rfl; with_reducible (conv => enter [6, 3]; whnf)) | (apply wr_assign; exact rfl; with_reducible (conv => enter [6, 3]; whnf)) | apply wr_end | apply wc_seq | apply wc_region | (apply wr_cmp; (iterate 3 exact rfl); exact cmpF (by dsimp only [cmpN]; first | done | omega)) | (apply wc_false; exact rfl) | (apply wc_exit; try simp only [thenE, inBlockE, bodyQ, ↓reduceIte, Nat.reduceEqDiff]) | (apply wc_ret; try simp only [thenE, inBlockE, bodyQ]))
      refine leave2 (v1 := .pointer (some ⟨tb, 0, none⟩)) (v2 := .int .i64 0) rfl rfl rfl ⟨.inl ⟨hR0, tb, lb, cap, X, rfl, hT6, hwfn, fun b hb => ?_⟩, hk6⟩
      obtain ⟨x, hx, hb⟩ := hb
      obtain ⟨i, hi⟩ := List.getElem?_of_mem hx
      have hil := (List.getElem?_eq_some_iff.1 hi).1
      have hf := hG5.node i ((initT N)[i]'(by omega)) x (by simp [show i < (initT N).length by omega]) hi
      rcases hb with hb | hb
      · have := hf.blk; omega
      · have := hf.db b hb; omega
end Go.Proofs.YthjpgkefifkhjaaDoor
