/- Fall. -/
import Derived.Test.YthjpgkefifkhjaaDoorTg
namespace Go.Proofs.YthjpgkefifkhjaaDoor
open Go Go.V Go.RowKit
set_option linter.unusedVariables false
set_option linter.unusedSimpArgs false

theorem TreeAt.notTD {w : World} {tb lb cap : Nat} {T : List ND} {X : List NL} (h : TreeAt w tb lb cap T X) {b : Nat} {c : Array Value} {e : TypeId} {fr : Nat × Nat} (hb : w.heap[b]? = some (.cells c e fr)) (he : e ≠ 56) : ¬ TD X b := by
  rintro ⟨x, hx, hd⟩
  obtain ⟨i, hi⟩ := List.getElem?_of_mem hx
  obtain ⟨n, _, hN⟩ := h.at hi
  rcases hd with rfl | hd
  · rw [hN.cells] at hb; cases hb; exact he rfl
  · have hdd := hN.doubt
    rw [hd] at hdd
    obtain ⟨M, ⟨es, cl, hh, _⟩, _⟩ := hdd
    rw [hh] at hb; cases hb
theorem TD_lt {w : World} {tb lb cap : Nat} {T : List ND} {X : List NL} (h : TreeAt w tb lb cap T X) {b : Nat} (hb : TD X b) : b < w.heap.size := by
  obtain ⟨x, hx, hb⟩ := hb
  obtain ⟨i, hi⟩ := List.getElem?_of_mem hx
  obtain ⟨n, _, hN⟩ := h.at hi
  rcases hb with rfl | hb
  · exact hN.lts.1
  · exact hN.lts.2 b hb
theorem WFT.set {T : List ND} {X : List NL} {i : Nat} {n n' : ND} (h : WFT T X) (hn : T[i]? = some n) (hc : n'.cands = n.cands) : WFT (T.set i n') X := by
  intro j m x hm hx
  by_cases hij : i = j
  · subst hij
    have hlt := (List.getElem?_eq_some_iff.1 hn).1
    rw [List.getElem?_set_self hlt] at hm
    cases hm
    obtain ⟨h1, h2, h3, h4⟩ := h i n x hn hx
    exact ⟨by rw [hc]; exact h1, fun c hcm => inT_set.2 (h2 c (by rw [← hc]; exact hcm)), h3, by rw [hc]; exact h4⟩
  · rw [List.getElem?_set_ne hij] at hm
    obtain ⟨h1, h2, h3, h4⟩ := h j m x hm hx
    exact ⟨h1, fun c hcm => inT_set.2 (h2 c hcm), h3, h4⟩
theorem chooseT_eq {T : List ND} {k : Nat} {n : ND} (h : T[k]? = some n) : chooseT T k = T.set k (chooseN T n) := by unfold chooseT; simp [h]
theorem chooseT_len (T : List ND) (k : Nat) : (chooseT T k).length = T.length := by unfold chooseT; simp
theorem chooseT_wf {T : List ND} {X : List NL} (h : WFT T X) (k : Nat) : WFT (chooseT T k) X := by
  by_cases hk : k < T.length
  · have hn : T[k]? = some T[k] := by simp [hk]
    rw [chooseT_eq hn]
    exact h.set hn rfl
  · have : chooseT T k = T := by unfold chooseT; rw [List.set_eq_of_length_le (by omega)]
    rw [this]; exact h
theorem foldl_wf {X : List NL} : ∀ (l : List Nat) (T : List ND), WFT T X → WFT (l.foldl chooseT T) X ∧ (l.foldl chooseT T).length = T.length
  | [], T, h => ⟨h, rfl⟩
  | k :: l, T, h => by
    obtain ⟨h1, h2⟩ := foldl_wf l (chooseT T k) (chooseT_wf h k)
    exact ⟨h1, by rw [List.foldl_cons, h2, chooseT_len]⟩
def downN (n : ND) : ND := { n with up := false, doubt := [] }
def fallT (T : List ND) (i : Nat) : List ND := (belowN T i T.length).foldl chooseT (chooseT (T.set i (downN (T.getD i ndZ))) i)
def fallF (T : List ND) (id : Int) : List ND := if inT T id ∧ id ≠ 1 ∧ upT T id = true then fallT T id.toNat else T
theorem fallT_wf {T : List ND} {X : List NL} (h : WFT T X) {i : Nat} (hi : i < T.length) : WFT (fallT T i) X ∧ (fallT T i).length = T.length := by
  have hn : T[i]? = some T[i] := by simp [hi]
  have hg : T.getD i ndZ = T[i] := by simp [hi]
  have h1 : WFT (T.set i (downN (T.getD i ndZ))) X := h.set hn (by rw [hg]; rfl)
  obtain ⟨h2, h3⟩ := foldl_wf (belowN T i T.length) _ (chooseT_wf h1 i)
  exact ⟨h2, by unfold fallT; rw [h3, chooseT_len, List.length_set]⟩
theorem turnN_same (T : List ND) (n : Nat) : turnN T T n = [] := by unfold turnN; rw [List.filter_eq_nil_iff]; simp
set_option maxRecDepth 100000 in
set_option maxHeartbeats 4000000 in
theorem fallIn_ca {tb lb cap : Nat} {T : List ND} {X : List NL} {i : Nat} {n : ND} {x : NL} (xt xi xn : Nat) (hi0 : i ≠ 0) (w : World) (h : TreeAt w tb lb cap T X) (hwf : WFT T X) (hn : T[i]? = some n) (hx : X[i]? = some x)
    (ht : w.heap[xt]? = some (.cells #[.pointer (some ⟨tb, 0, none⟩)] 27 (0, 0))) (hid : w.heap[xi]? = some (.cells #[.int .i64 (i : Int)] 3 (0, 0))) (hp : w.heap[xn]? = some (.cells #[.pointer (some ⟨x.blk, 0, none⟩)] 53 (0, 0))) :
    Ca Tryd.prog 27 #[.pointer (some ⟨xt, 0, none⟩), .pointer (some ⟨xi, 0, none⟩), .pointer (some ⟨xn, 0, none⟩)] w fun _ w' => TreeAt w' tb lb cap (fallT T i) X ∧ Keeps (TD X) w w' := by
  refine ca_of_body (args := [.pointer (some ⟨xt, 0, none⟩), .pointer (some ⟨xi, 0, none⟩), .pointer (some ⟨xn, 0, none⟩)]) Tryd.func27 rfl (by kernel_rfl) ?_
  have hxm := List.mem_of_getElem? hx
  have hgn : T.getD i ndZ = n := by simp [hn]
  have hlen := h.len
  have hsm := h.small
  have hb0 := belowN_len T i T.length
  (repeat first | apply wc_seq | apply wc_region | (apply wr_load; (iterate 3 exact rfl); (focus repeat first | with_reducible assumption | exact heap_alloc_same _ _ | exact World.putObj_heap_same (by first | omega | (simp only [World.size_alloc, World.putObj_size, ne_eq]; omega)) | ((first | refine hAl ?_ ?_ | refine hPu ?_ ?_); focus first | omega | (simp only [World.size_alloc, World.putObj_size, ne_eq]; omega))); exact rfl; conv => enter [6, 3]; whnf))
  refine wr_call (vs := [.pointer (some ⟨tb, 0, none⟩), .int .i64 (i : Int)]) rfl (below_ca (i : Int) w h) rfl ?_
  rintro v w1 ⟨ho1, hk1⟩
  have h1 := h.kin hk1
  have ht1 := hk1.heap ht (fun h => h)
  have hp1 := hk1.heap hp (fun h => h)
  have hN1 := h1.node i n x hn hx
  obtain ⟨b, hdb⟩ : ∃ b, x.db = some b := by
    cases hd : x.db with
    | none => exact absurd hd ((hwf i n x hn hx).2.2.1 hi0)
    | some b => exact ⟨b, rfl⟩
  have hc1 := hN1.cells
  have hcl : ndC n x = [.int .i64 n.depth, x.cv, .bool n.up, .int .i64 n.par, .map (some b)] := by rw [ndC, hdb]
  rw [hcl] at hc1
  have hmet := hN1.doubt
  rw [hdb] at hmet
  apply wr_assign
  exact rfl
  apply wr_end
  apply wc_seq
  apply wc_region
  refine wr_load (v := .pointer (some ⟨x.blk, 0, none⟩)) rfl rfl rfl hp1 rfl ?_
  refine wr_nilCheck rfl rfl ?_
  refine wr_fieldAddr rfl rfl ?_
  refine wr_store (v := .bool false) rfl rfl rfl rfl hc1 rfl ?_
  obtain ⟨w2, hw2⟩ : ∃ w2, w2 = w1.putObj x.blk (.cells (([.int .i64 n.depth, x.cv, .bool n.up, .int .i64 n.par, .map (some b)] : List Value).toArray.setIfInBounds (0 + 2) (.bool false)) 56 (0, 0)) := ⟨_, rfl⟩
  have hk2 : Keeps (· = x.blk) w1 w2 := by rw [hw2]; exact (Keeps.refl _ _).put _ (fun _ => rfl)
  have hc2 : w2.heap[x.blk]? = some (.cells #[.int .i64 n.depth, x.cv, .bool false, .int .i64 n.par, .map (some b)] 56 (0, 0)) := by rw [hw2]; exact World.putObj_heap_same (lt_of_heap hc1)
  rw [← hw2]
  clear hw2
  have A := h.apart
  have hbx : b ≠ x.blk := fun e => A.bd x hxm x hxm (by rw [hdb, e])
  have hmet2 := MetAt.keep (D := (· = x.blk)) hmet hk2 hbx
  have hne : ∀ {e : TypeId} {c : Array Value} {fr : Nat × Nat} {b' : Nat}, w1.heap[b']? = some (.cells c e fr) → e ≠ 56 → b' ≠ x.blk := fun hb' he e => by subst e; rw [hc1] at hb'; cases hb'; exact he rfl
  have hp2 := hk2.heap hp1 (hne hp1 (by decide))
  have ht2 := hk2.heap ht1 (hne ht1 (by decide))
  obtain ⟨M, hM, hMg⟩ := hmet2
  (repeat first | apply wr_end | apply wc_seq | apply wc_region | (apply wr_fieldAddr; iterate 2 exact rfl) | (apply wr_nilCheck; iterate 2 exact rfl) | (apply wr_load; (iterate 3 exact rfl); (focus repeat first | with_reducible assumption | exact heap_alloc_same _ _ | exact World.putObj_heap_same (by first | omega | (simp only [World.size_alloc, World.putObj_size, ne_eq]; omega)) | ((first | refine hAl ?_ ?_ | refine hPu ?_ ?_); focus first | omega | (simp only [World.size_alloc, World.putObj_size, ne_eq]; omega))); exact rfl; conv => enter [6, 3]; whnf))
  refine wr_clear rfl rfl hM ?_
  intro w3 hM3 hk3
  have hmet3 : MetAt w3 b [] := ⟨[], hM3, fun c => by simp [getM]⟩
  have hneb : ∀ {e : TypeId} {c : Array Value} {fr : Nat × Nat} {b' : Nat}, w2.heap[b']? = some (.cells c e fr) → b' ≠ b := fun hb' e => by
    subst e
    obtain ⟨es, cl, hh, _⟩ := hM
    rw [hh] at hb'; cases hb'
  have hc3 := hk3.heap hc2 (hneb hc2)
  have hp3 := hk3.heap hp2 (hneb hp2)
  have ht3 := hk3.heap ht2 (hneb ht2)
  have hk13 : Keeps (ND1 x) w1 w3 := (hk2.mono (fun b' _ e => .inl e.symm)).trans (hk3.mono (fun b' _ e => .inr (by rw [hdb, e])))
  have hN3 : NodeAt w3 (downN n) x := ⟨by rw [hc3, ndC, hdb]; rfl, (hN1.cands.keep hk2 (fun b' hb' e => (A.cv x hxm x hxm b' hb').1 e)).keep hk3 (fun b' hb' e => (A.cv x hxm x hxm b' hb').2 (by rw [hdb, e])), by rw [hdb]; exact hmet3⟩
  have h3 := h1.upd hx hk13 hN3
  have hwf3 : WFT (T.set i (downN n)) X := hwf.set hn rfl
  have hn3 : (T.set i (downN n))[i]? = some (downN n) := List.getElem?_set_self (List.getElem?_eq_some_iff.1 hn).1
  (repeat first | apply wr_end | apply wc_seq | apply wc_region | (apply wr_load; (iterate 3 exact rfl); (focus repeat first | with_reducible assumption | exact heap_alloc_same _ _ | exact World.putObj_heap_same (by first | omega | (simp only [World.size_alloc, World.putObj_size, ne_eq]; omega)) | ((first | refine hAl ?_ ?_ | refine hPu ?_ ?_); focus first | omega | (simp only [World.size_alloc, World.putObj_size, ne_eq]; omega))); exact rfl; conv => enter [6, 3]; whnf))
  refine wr_call (vs := [.pointer (some ⟨tb, 0, none⟩), .pointer (some ⟨x.blk, 0, none⟩)]) rfl (choose_ca w3 h3 hwf3 hn3 hx) rfl ?_
  rintro vv w4 ⟨rfl, h4, hk4⟩
  rw [← chooseT_eq hn3] at h4
  have hwf4 := chooseT_wf hwf3 i
  obtain ⟨T2, hT2⟩ : ∃ T2, T2 = chooseT (T.set i (downN n)) i := ⟨_, rfl⟩
  rw [← hT2] at h4 hwf4
  have hT2l : T2.length = T.length := by rw [hT2, chooseT_len, List.length_set]
  have hND : ∀ b', ND1 x b' → TD X b' := fun b' hb' => ⟨x, hxm, hb'⟩
  have hk04 : Keeps (TD X) w w4 := hk1.upD.trans ((hk13.mono (fun b' _ e => hND b' e)).trans (hk4.mono (fun b' _ e => hND b' (.inl e.symm))))
  have hne4 : ∀ {e : TypeId} {c : Array Value} {fr : Nat × Nat} {b' : Nat}, w.heap[b']? = some (.cells c e fr) → e ≠ 56 → w4.heap[b']? = some (.cells c e fr) := fun hb' he => hk04.heap hb' (h.notTD hb' he)
  have ht4 := hne4 ht (by decide)
  have ho4 := own_keep ho1 (Keeps.trans' (D := fun b => TD X b) ((hk13.mono (fun b' _ e => hND b' e))) (hk4.mono (fun b' _ e => hND b' (.inl e.symm))) (fun i hi h => h)) (fun b' hb' hd => by have := own_ge ho1 hb'; have := TD_lt h hd; omega)
  have hmemT : ∀ k ∈ belowN T i T.length, k < T.length := fun k hk => by
    unfold belowN at hk
    have := (List.mem_filter.1 hk).1
    exact List.mem_range.1 this
  have hres : fallT T i = (belowN T i T.length).foldl chooseT T2 := by unfold fallT; rw [hgn, hT2]
  rw [hres]
  generalize belowN T i T.length = L at ho4 hmemT hb0
  obtain ⟨a, c, rfl, hcc, hat⟩ := (SlR.of_own ho4).shape
  clear ho1 hres
  (repeat first | (apply wr_move; exact rfl; with_reducible (conv => enter [6, 3]; whnf)) | apply wr_end | apply wc_seq | apply wc_region | apply wc_block | (apply wr_len_slice; iterate 2 exact rfl))
  refine wc_loopL (α := Nat) (fun k => [(0, .pointer (some ⟨xt, 0, none⟩)), (19, .slice a L.length c), (20, .int .i64 (L.length : Int)), (21, .int .i64 (k : Int))])
    (fun k ds w' => ds = [] ∧ k ≤ L.length ∧ TreeAt w' tb lb cap ((L.take k).foldl chooseT T2) X ∧ Keeps (TD X) w4 w') (fun k => L.length - k) 0 ⟨rfl, Nat.zero_le _, h4, Keeps.refl _ _⟩ ⟨rfl, rfl, rfl, rfl, trivial⟩ ?_
  rintro k ds f0 w5 ⟨rfl, hk, h5, hk5⟩
  obtain ⟨hwf5, hl5⟩ := foldl_wf (X := X) (L.take k) T2 hwf4
  by_cases hlt : k < L.length
  · obtain ⟨y, hy⟩ : ∃ y, L[k]? = some y := ⟨L[k], by simp [hlt]⟩
    have hyl := hmemT y (List.mem_of_getElem? hy)
    obtain ⟨b1, o1, rfl, cur1, e1, fr1, hb1, hr1⟩ := hat (by omega)
    have hbb1 : b1 = b1 := rfl
    have hb15 := hk5.heap hb1 (fun hd => by
      have := (ho4.lt b1 rfl).1
      have := TD_lt h hd; omega)
    have hv1 : cur1[o1 + k * 1]? = some (.int .i64 (y : Int)) := by
      rw [Nat.mul_one, hr1 k (by omega)]; simp [IN, hy]
    obtain ⟨z, hz⟩ : ∃ z, X[y]? = some z := ⟨X[y]'(by omega), by simp [show y < X.length by omega]⟩
    obtain ⟨m, hm, hM'⟩ := h5.at hz
    have ht5 := hk5.heap ht4 (h4.notTD ht4 (by decide))
    have htr5 := h5.tr
    obtain ⟨rc, re, rf, hrb, hrr⟩ := h5.row
    have hnext : (L.take (k + 1)).foldl chooseT T2 = ((L.take k).foldl chooseT T2).set y (chooseN ((L.take k).foldl chooseT T2) m) := by
      rw [List.take_add_one, hy, List.foldl_append]
      exact chooseT_eq hm
    (repeat first | apply wr_end | apply wc_seq | apply wc_region | apply wc_skip | apply wc_block | (apply wr_cmp; (iterate 3 exact rfl); exact cmpT (by dsimp only [cmpP]; first | done | omega)) | (apply wc_true; exact rfl))
    refine wr_indexAddr (i := k) rfl rfl rfl hlt ?_
    refine wr_load (v := .int .i64 (y : Int)) rfl rfl rfl hb15 hv1 ?_
    (repeat first | (apply wr_assign; exact rfl; with_reducible (conv => enter [6, 3]; whnf)) | apply wr_end)
    refine wc_drawP (l := _) 8 _ (by kernel_rfl) (by kernel_rfl) rfl (by kernel_rfl) (by kernel_rfl) (by decide) ?_
    apply chP_pure
    focus
      intro xx w' hk hF
      refine wr_load (v := .pointer (some ⟨tb, 0, none⟩)) rfl rfl rfl (hk.heap (a := w5.drew) ht5 (fun h => h)) rfl ?_
      apply wr_nil
      exact ⟨rfl, Keeps.refl _ _⟩
    focus (intro xx yy h; rfl)
    focus kernel_rfl
    apply chP_pure
    focus
      intro xx w' hk hF
      refine wr_load (v := .pointer (some ⟨tb, 0, none⟩)) rfl rfl rfl (hk.heap (a := w5.drew) ht5 (fun h => h)) rfl ?_
      apply wr_nil
      exact ⟨rfl, Keeps.refl _ _⟩
    focus (intro xx yy h; rfl)
    focus kernel_rfl
    apply chP_pure
    focus
      intro xx w' hk hF
      refine wr_nilCheck rfl rfl ?_
      apply wr_nil
      exact ⟨rfl, Keeps.refl _ _⟩
    focus (intro xx yy h; rfl)
    focus kernel_rfl
    apply chP_pure
    focus
      intro xx w' hk hF
      refine wr_fieldAddr rfl rfl ?_
      apply wr_nil
      exact ⟨rfl, Keeps.refl _ _⟩
    focus (intro xx yy h; rfl)
    focus kernel_rfl
    apply chP_pure
    focus
      intro xx w' hk hF
      refine wr_load (v := .slice (some ⟨lb, 0, none⟩) X.length cap) rfl rfl rfl (hk.heap (a := w5.drew) htr5 (fun h => h)) rfl ?_
      apply wr_nil
      exact ⟨rfl, Keeps.refl _ _⟩
    focus (intro xx yy h; rfl)
    focus kernel_rfl
    apply chP_pure
    focus
      intro xx w' hk hF
      apply wr_move; exact rfl; with_reducible (conv => enter [6, 3]; whnf)
      apply wr_nil
      exact ⟨rfl, Keeps.refl _ _⟩
    focus (intro xx yy h; rfl)
    focus kernel_rfl
    apply chP_pure
    focus
      intro xx w' hk hF
      refine wr_indexAddr (i := y) rfl rfl rfl (by omega) ?_
      apply wr_nil
      exact ⟨rfl, Keeps.refl _ _⟩
    focus (intro xx yy h; rfl)
    focus kernel_rfl
    apply chP_pure
    focus
      intro xx w' hk hF
      refine wr_load (v := .pointer (some ⟨z.blk, 0, none⟩)) rfl rfl rfl (hk.heap (a := w5.drew) hrb (fun h => h)) (hrr y z hz) ?_
      apply wr_nil
      exact ⟨rfl, Keeps.refl _ _⟩
    focus (intro xx yy h; rfl)
    focus kernel_rfl
    refine chP_nil ?_
    intro xx w6 hk6 hF
    have hk56 : Keeps NoB w5 w6 := (Keeps.refl NoB w5).drew.trans hk6
    refine wr_call (vs := [.pointer (some ⟨tb, 0, none⟩), .pointer (some ⟨z.blk, 0, none⟩)]) rfl (choose_ca w6 (h5.kin hk56) hwf5 hm hz) rfl ?_
    rintro v7 w7 ⟨rfl, h7, hk7⟩
    rw [← hnext] at h7
    have hk47 : Keeps (TD X) w4 w7 := hk5.trans (hk56.upD.trans (hk7.mono (fun b' _ e => ⟨z, List.mem_of_getElem? hz, .inl e.symm⟩)))
    (repeat first | (apply wr_move; exact rfl; with_reducible (conv => enter [6, 3]; whnf)) | apply wr_end | apply wc_region | (apply wr_add; (iterate 3 exact rfl); exact w_fit (by dsimp only [kIn]; first | done | omega)) | (apply wr_nil; try simp only [thenE, inBlockE, bodyQ]))
    exact ⟨k + 1, by omega, ⟨by trivial, hlt, h7, hk47⟩, rfl, rfl, rfl, by simp, trivial⟩
  · have he : k = L.length := by omega
    subst he
    rw [List.take_length] at h5
    (repeat first | apply wr_end | apply wc_seq | apply wc_region | (apply wr_cmp; (iterate 3 exact rfl); exact cmpF (by dsimp only [cmpN]; first | done | omega)) | (apply wc_false; exact rfl) | (apply wc_exit; try simp only [thenE, inBlockE, bodyQ, ↓reduceIte, Nat.reduceEqDiff]))
    try unfold bodyQ
    exact leave0 rfl ⟨h5, hk04.trans hk5⟩
end Go.Proofs.YthjpgkefifkhjaaDoor
