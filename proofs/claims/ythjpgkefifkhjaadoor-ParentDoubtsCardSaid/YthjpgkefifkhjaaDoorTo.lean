/- norialaw16.drawn: nodes of sketches. -/
import Derived.Test.YthjpgkefifkhjaaDoorTn
namespace Go.Proofs.YthjpgkefifkhjaaDoor
open Go Go.V Go.RowKit
set_option linter.unusedVariables false
set_option linter.unusedSimpArgs false

/-- A sketch. -/
structure SK where
  d : Nat
  l : List Nat
  v : Value
def GS (x : SK) : List Value := [.int .u8 (x.d : Int), x.v]
theorem GS_len (x : SK) : (GS x).length = 2 := rfl
def IB (l : List Nat) : List Value := l.map fun (b : Nat) => Value.int .u8 ((b : Nat) : Int)
def SKok (w : World) (x : SK) : Prop := x.d < 256 ∧ (∀ b ∈ x.l, b < 256) ∧ SlR w 1 x.v x.l.length (IB x.l)
theorem SKok.keep {w w' : World} {x : SK} (h : SKok w x) (k : Keeps NoB w w') : SKok w' x := ⟨h.1, h.2.1, h.2.2.keep k (fun _ _ h => h)⟩
def drOk (N : List NG) (i : Nat) (n : NG) : Prop := (1 ≤ n.1 ∧ n.1 ≤ 4) ∧ (1 ≤ n.2.length ∧ n.2.length ≤ 6) ∧ n.2.Nodup ∧ ∀ c ∈ n.2, 1 ≤ c ∧ c ≤ i ∧ depthAt N c < n.1
structure DrawnP (N : List NG) : Prop where
  one : 1 ≤ N.length
  le : N.length ≤ 12
  root : N[0]? = some (0, [])
  ok : ∀ i n, 0 < i → N[i]? = some n → drOk N i n
theorem depthAt_get {N : List NG} {r : Nat} {n : NG} (h : N[r]? = some n) : depthAt N ((r : Int) + 1) = n.1 := by
  unfold depthAt
  have : ((r : Int) + 1 - 1).toNat = r := by omega
  rw [this]; simp [h]
theorem depthAt_app {N N' : List NG} {c : Int} (h1 : 1 ≤ c) (h2 : c ≤ N.length) : depthAt (N ++ N') c = depthAt N c := by
  unfold depthAt
  have : (c - 1).toNat < N.length := by omega
  simp only [List.getD_eq_getElem?_getD, List.getElem?_append_left this]
theorem DrawnP.right {N : List NG} (h : DrawnP N) : rightP N := by
  have hr := h.root
  refine ⟨⟨h.one, by have := h.le; omega⟩, by simp [hr], by simp [hr], fun n hn => ?_⟩
  obtain ⟨j, hj⟩ := List.getElem?_of_mem hn
  rw [List.getElem?_drop] at hj
  have hjl := (List.getElem?_eq_some_iff.1 hj).1
  obtain ⟨h1, h2, h3, h4⟩ := h.ok (1 + j) n (by omega) hj
  exact ⟨⟨h1.1, by omega⟩, ⟨h2.1, by omega⟩, h3, fun c hc => ⟨(h4 c hc).1, by have := (h4 c hc).2.1; omega, (h4 c hc).2.2⟩⟩
theorem DrawnP.snoc {N : List NG} {n : NG} (h : DrawnP N) (hl : N.length ≤ 11) (hn : drOk N N.length n) : DrawnP (N ++ [n]) := by
  have h1 := h.one
  refine ⟨by simp, by simp; omega, by rw [List.getElem?_append_left (by omega)]; exact h.root, fun i m hi hm => ?_⟩
  by_cases hlt : i < N.length
  · rw [List.getElem?_append_left hlt] at hm
    obtain ⟨g1, g2, g3, g4⟩ := h.ok i m hi hm
    exact ⟨g1, g2, g3, fun c hc => ⟨(g4 c hc).1, (g4 c hc).2.1, by rw [depthAt_app (g4 c hc).1 (by have := (g4 c hc).2.1; omega)]; exact (g4 c hc).2.2⟩⟩
  · rw [List.getElem?_append_right (by omega)] at hm
    have hi0 := (List.getElem?_eq_some_iff.1 hm).1
    simp at hi0
    have : i = N.length := by omega
    subst this
    simp at hm
    subst hm
    obtain ⟨g1, g2, g3, g4⟩ := hn
    exact ⟨g1, g2, g3, fun c hc => ⟨(g4 c hc).1, (g4 c hc).2.1, by rw [depthAt_app (g4 c hc).1 (g4 c hc).2.1]; exact (g4 c hc).2.2⟩⟩
theorem Given.snoc {w : World} {N : List NG} {gs : List GN} {n : NG} {g : GN} (h : Given w N gs) (h1 : g.1 = n.1) (h2 : SlR w 1 g.2 n.2.length (IL n.2)) : Given w (N ++ [n]) (gs ++ [g]) := by
  have hl := h.len
  refine ⟨by simp [hl], fun i g' n' hg hn => ?_⟩
  by_cases hlt : i < N.length
  · rw [List.getElem?_append_left hlt] at hn
    rw [List.getElem?_append_left (by omega)] at hg
    exact h.el i g' n' hg hn
  · rw [List.getElem?_append_right (by omega)] at hn hg
    have hi0 := (List.getElem?_eq_some_iff.1 hn).1
    simp at hi0
    have : i = N.length := by omega
    subst this
    simp at hn
    rw [← hl] at hg
    simp at hg
    subst hg hn
    exact ⟨h1, h2⟩
theorem Given.keepD {D : Nat → Prop} {w w' : World} {N : List NG} {gs : List GN} (h : Given w N gs) (k : Keeps D w w') (hd : ∀ g ∈ gs, ∀ b, g.2.ownBlock = some b → ¬ D b) : Given w' N gs :=
  ⟨h.len, fun i g n hg hn => ⟨(h.el i g n hg hn).1, (h.el i g n hg hn).2.keep k (fun b hb => hd g (List.mem_of_getElem? hg) b hb)⟩⟩
set_option maxRecDepth 100000 in
set_option maxHeartbeats 8000000 in
theorem drawn_ca (ss : List SK) (sl : Value) (w : World) (hsl : SlR w 2 sl ss.length (ss.flatMap GS)) (hok : ∀ x ∈ ss, SKok w x) :
    Ca Tryd.prog 10 #[sl] w fun v w' => ∃ N gs, DrawnP N ∧ w'.ownsRow w.heap.size 35 2 v gs.length (gs.flatMap GNc) ∧ Given w' N gs ∧ (∀ g ∈ gs, CvT w' g.2 w.heap.size) ∧ Keeps NoB w w' := by
  obtain ⟨a, cp, rfl, hcp, hat⟩ := hsl.shape
  refine ca_of_body (args := [.slice a ss.length cp]) Tryd.func10 rfl (by kernel_rfl) ?_
  (repeat first | (apply wr_assign; exact rfl; with_reducible (conv => enter [6, 3]; whnf)) | apply wr_end | apply wc_seq | apply wc_region)
  refine wr_build (ps := []) (cs := [.int .i64 0, .slice none 0 0]) rfl rfl rfl rfl ?_
  refine wr_buildSlice (vs := [.agg #[.int .i64 0, .slice none 0 0]]) rfl rfl (by intro v hv; simp at hv; subst hv; rfl) rfl (by decide) (by decide) (by decide) ?_
  obtain ⟨w1, hw1⟩ : ∃ w1, w1 = w.alloc (.cells ([Value.agg #[.int .i64 0, .slice none 0 0]].flatMap (fun v => v.cells.toList)).toArray 35) := ⟨_, rfl⟩
  have hk1 : Keeps NoB w w1 := by rw [hw1]; exact (Keeps.refl NoB w).alloc _
  have ho1 : w1.ownsRow w.heap.size 35 2 (.slice (some ⟨w.heap.size, 0, none⟩) 1 1) 1 [.int .i64 0, .slice none 0 0] := by
    rw [hw1]; exact ⟨rfl, .inr ⟨w.heap.size, 1, _, rfl, Nat.le_refl _, heap_alloc_same _ _, Nat.le_refl _, by decide, rfl, rfl⟩⟩
  rw [← hw1]
  clear hw1
  have hdr0 : DrawnP [(0, [])] := ⟨by decide, by decide, rfl, fun i n hi hn => by
    have := (List.getElem?_eq_some_iff.1 hn).1
    simp at this; omega⟩
  have hg0 : Given w1 [(0, [])] [(0, .slice none 0 0)] := ⟨rfl, fun i g n hg hn => by
    have := (List.getElem?_eq_some_iff.1 hn).1
    simp at this
    subst this
    cases hg; cases hn
    exact ⟨rfl, rfl, none, 0, rfl, Nat.le_refl _, .inl ⟨rfl, fun _ => rfl⟩⟩⟩
  (repeat first | (apply wr_assign; exact rfl; with_reducible (conv => enter [6, 3]; whnf)) | apply wr_end | apply wc_seq | apply wc_region | apply wc_block)
  refine wc_loopL (α := Nat × Value) (fun x => [(0, .slice a ss.length cp), (3, x.2), (4, .int .i64 (x.1 : Int))])
    (fun x ds w' => ds = [] ∧ x.1 ≤ ss.length ∧ x.1 ≤ 11 ∧ ∃ N gs, N.length = x.1 + 1 ∧ DrawnP N ∧ w'.ownsRow w.heap.size 35 2 x.2 gs.length (gs.flatMap GNc) ∧ Given w' N gs ∧ (∀ g ∈ gs, CvT w' g.2 w.heap.size) ∧ Keeps NoB w w') (fun x => 11 - x.1) (0, .slice (some ⟨w.heap.size, 0, none⟩) 1 1)
    ⟨rfl, Nat.zero_le _, Nat.zero_le _, [(0, [])], [(0, .slice none 0 0)], rfl, hdr0, ho1, hg0, (by intro g hg b hb; simp at hg; subst hg; cases hb), hk1⟩ ⟨rfl, rfl, rfl, trivial⟩ ?_
  rintro ⟨i, v⟩ ds f0 w2 ⟨rfl, hi, hi11, N, gs, hNl, hD, ho2, hg2, hcv2, hk2⟩
  dsimp only at hi hi11 hNl ho2 ⊢
  have hgl := hg2.len
  by_cases hlt : i < ss.length
  rotate_left
  · (repeat first | (apply wr_move; exact rfl; with_reducible (conv => enter [6, 3]; whnf)) | (apply wr_assign; exact rfl; with_reducible (conv => enter [6, 3]; whnf)) | apply wr_end | apply wc_seq | apply wc_region | (apply wr_len_slice; iterate 2 exact rfl) | (apply wr_cmp; (iterate 3 exact rfl); exact cmpF (by dsimp only [cmpN]; first | done | omega)) | (apply wr_pick (t := false); (iterate 2 exact rfl); with_reducible (conv => enter [6, 3]; whnf)) | (apply wc_false; exact rfl) | (apply wc_exit; try simp only [thenE, inBlockE, bodyQ, ↓reduceIte, Nat.reduceEqDiff]) | (apply wc_ret; try simp only [thenE, inBlockE, bodyQ]) | (apply wr_skip; exact rfl))
    exact leave1 (v := v) rfl rfl ⟨N, gs, hD, ho2, hg2, hcv2, hk2⟩
  by_cases hlt2 : i < 11
  rotate_left
  · (repeat first | (apply wr_move; exact rfl; with_reducible (conv => enter [6, 3]; whnf)) | (apply wr_assign; exact rfl; with_reducible (conv => enter [6, 3]; whnf)) | apply wr_end | apply wc_seq | apply wc_region | (apply wr_len_slice; iterate 2 exact rfl) | (apply wr_cmp; (iterate 3 exact rfl); exact cmpT (by dsimp only [cmpP]; first | done | omega)) | (apply wr_cmp; (iterate 3 exact rfl); exact cmpF (by dsimp only [cmpN]; first | done | omega)) | (apply wr_pick (t := true); (iterate 2 exact rfl); with_reducible (conv => enter [6, 3]; whnf)) | (apply wc_false; exact rfl) | (apply wc_exit; try simp only [thenE, inBlockE, bodyQ, ↓reduceIte, Nat.reduceEqDiff]) | (apply wc_ret; try simp only [thenE, inBlockE, bodyQ]))
    exact leave1 (v := v) rfl rfl ⟨N, gs, hD, ho2, hg2, hcv2, hk2⟩
  obtain ⟨b, o, rfl, cur, e, fr, hb, hr⟩ := hat (by omega)
  obtain ⟨x, hx⟩ : ∃ x, ss[i]? = some x := ⟨ss[i], by simp [hlt]⟩
  obtain ⟨hx1, hx2, hx3⟩ := hok x (List.mem_of_getElem? hx)
  have hb2 := hk2.heap hb (fun h => h)
  have hv0 : cur[o + i * 2 + 0]? = some (.int .u8 (x.d : Int)) := cell_elem (g := GS) (k := 2) (n := ss.length) (i := i) (j := 0) GS_len hr hlt hx rfl
  have hv1 : cur[o + i * 2 + 1]? = some x.v := cell_elem (g := GS) (k := 2) (n := ss.length) (i := i) (j := 1) GS_len hr hlt hx rfl
  (repeat first | (apply wr_move; exact rfl; with_reducible (conv => enter [6, 3]; whnf)) | apply wr_end | apply wc_seq | apply wc_region | apply wc_skip | apply wc_block | (apply wr_len_slice; iterate 2 exact rfl) | (apply wr_cmp; (iterate 3 exact rfl); exact cmpT (by dsimp only [cmpP]; first | done | omega)) | (apply wr_pick (t := true); (iterate 2 exact rfl); with_reducible (conv => enter [6, 3]; whnf)) | (apply wc_true; exact rfl))
  refine wr_indexAddr (i := i) rfl rfl rfl hlt ?_
  refine wr_fieldAddr rfl rfl ?_
  refine wr_load (v := .int .u8 (x.d : Int)) rfl rfl rfl hb2 hv0 ?_
  refine wr_remN (n := x.d) (m := 4) rfl rfl rfl (by decide) ?_
  have hm4 : x.d % 4 < 4 := Nat.mod_lt _ (by decide)
  generalize x.d % 4 = q at hm4
  (repeat first | (apply wr_add; (iterate 3 exact rfl); exact w_fit (by dsimp only [kIn]; first | done | omega)) | (apply wr_conv; (iterate 2 exact rfl); exact w_fit (by dsimp only [kIn]; first | done | omega)))
  obtain ⟨dd, hdd⟩ : ∃ dd : Int, dd = 1 + (q : Int) := ⟨_, rfl⟩
  rw [← hdd]
  refine wr_build (ps := [(0, .int .i64 dd)]) (cs := [.int .i64 dd, .slice none 0 0]) rfl rfl rfl rfl ?_
  (repeat first | (apply wr_alloc; exact rfl))
  refine wr_storeAll (cs := [.int .i64 dd, .slice none 0 0]) rfl rfl rfl (by intro u hu; simp at hu; rcases hu with rfl | rfl <;> rfl) (heap_alloc_same _ _) rfl rfl ?_
  obtain ⟨w3, hw3⟩ : ∃ w3, w3 = (w2.alloc (.cells (Value.agg #[.int .i64 0, .slice none 0 0]).cells 35)).putObj w2.heap.size (.cells [.int .i64 dd, .slice none 0 0].toArray 35 (0, 0)) := ⟨_, rfl⟩
  obtain ⟨nb, hnb⟩ : ∃ nb, nb = w2.heap.size := ⟨_, rfl⟩
  have hk3 : Keeps NoB w2 w3 := by rw [hw3]; exact ((Keeps.refl NoB w2).alloc _).put _ (fun h => by omega)
  have hc3 : w3.heap[nb]? = some (.cells #[.int .i64 dd, .slice none 0 0] 35 (0, 0)) := by rw [hw3, hnb]; exact World.putObj_heap_same (by simp)
  rw [← hw3, ← hnb]
  clear hw3
  have hk03 := hk2.trans hk3
  have hd14 : 1 ≤ dd ∧ dd ≤ 4 := by omega
  have hnlt := lt_of_heap hc3
  have hb3 := hk3.heap hb2 (fun h => h)
  have ho3 := own_keep ho2 hk3 (fun _ _ h => h)
  have hg3 := hg2.keep hk3
  have hbne : b ≠ nb := by have := lt_of_heap hb2; omega
  have hvne : ∀ k, v.ownBlock = some k → k ≠ nb := fun k hk e => by have := (ho2.lt k hk).2; omega
  obtain ⟨ax, cx, exv, hcx, hatx⟩ := hx3.shape
  rw [exv] at hv1
  obtain ⟨av, cv0, ev0, hcv0, hatv⟩ := (SlR.of_own ho3).shape
  subst ev0
  (repeat first | (apply wr_assign; exact rfl; with_reducible (conv => enter [6, 3]; whnf)) | apply wr_end | apply wc_seq | apply wc_region | apply wc_block)
  refine wc_loopL (α := Nat) (fun k => [(0, .slice (some ⟨b, o, none⟩) ss.length cp), (3, .slice av gs.length cv0), (4, .int .i64 (i : Int)), (5, .pointer (some ⟨nb, 0, none⟩)), (6, .int .i64 (k : Int))])
    (fun k ds w' => ds = [] ∧ k ≤ 6 ∧ k ≤ x.l.length ∧ ∃ cs cv, w'.heap[nb]? = some (.cells #[.int .i64 dd, cv] 35 (0, 0)) ∧ w'.ownsRow w3.heap.size 3 1 cv cs.length (IL cs) ∧ cs.length ≤ k ∧ cs.Nodup ∧ (∀ c ∈ cs, 1 ≤ c ∧ c ≤ N.length ∧ depthAt N c < dd) ∧ Keeps (· = nb) w3 w') (fun k => 6 - k) 0
    ⟨rfl, by decide, Nat.zero_le _, [], .slice none 0 0, hc3, own_nil _ _ _ _, Nat.le_refl _, List.nodup_nil, (fun c hc => nomatch hc), Keeps.refl _ _⟩ ⟨rfl, rfl, rfl, rfl, rfl, trivial⟩ ?_
  rintro k ds f1 w4 ⟨rfl, hk6, hkx, cs, cv, hc4, ho4, hcsk, hnd, hcok, hk4⟩
  have hb4 := hk4.heap hb3 hbne
  by_cases hkl : k < x.l.length
  rotate_left
  · (repeat first | (apply wr_move; exact rfl; with_reducible (conv => enter [6, 3]; whnf)) | apply wc_seq | apply wc_region)
    refine wr_indexAddr (i := i) rfl rfl rfl hlt ?_
    refine wr_fieldAddr rfl rfl ?_
    refine wr_load (v := .slice ax x.l.length cx) rfl rfl rfl hb4 hv1 ?_
    obtain ⟨acs, ccs, rfl, hccs, hatcs⟩ := slr_ints (SlR.of_own ho4)
    by_cases h0 : cs.length = 0
    · (repeat first | (apply wr_move; exact rfl; with_reducible (conv => enter [6, 3]; whnf)) | apply wr_end | apply wc_seq | apply wc_region | (apply wr_fieldAddr; iterate 2 exact rfl) | (apply wr_len_slice; iterate 2 exact rfl) | (apply wr_load; (iterate 3 exact rfl); (focus repeat first | with_reducible assumption | exact heap_alloc_same _ _ | exact World.putObj_heap_same (by first | omega | (simp only [World.size_alloc, World.putObj_size, ne_eq]; omega)) | ((first | refine hAl ?_ ?_ | refine hPu ?_ ?_); focus first | omega | (simp only [World.size_alloc, World.putObj_size, ne_eq]; omega))); exact rfl; conv => enter [6, 3]; whnf) | (apply wr_cmp; (iterate 3 exact rfl); exact cmpT (by dsimp only [cmpP]; first | done | omega)) | (apply wr_cmp; (iterate 3 exact rfl); exact cmpF (by dsimp only [cmpN]; first | done | omega)) | (apply wr_pick (t := false); (iterate 2 exact rfl); with_reducible (conv => enter [6, 3]; whnf)) | (apply wc_true; exact rfl) | (apply wc_false; exact rfl) | (apply wc_exit; try simp only [thenE, inBlockE, bodyQ, ↓reduceIte, Nat.reduceEqDiff]) | (apply wr_skip; exact rfl))
      refine wr_buildSlice (vs := [.int .i64 1]) rfl rfl (by intro v hv; simp at hv; subst hv; rfl) rfl (by decide) (by decide) (by decide) ?_
      refine wr_fieldAddr rfl rfl ?_
      have hz4 : w3.heap.size ≤ w4.heap.size := hk4.size
      obtain ⟨w5, hw5⟩ : ∃ w5, w5 = w4.alloc (.cells ([Value.int .i64 1].flatMap (fun v => v.cells.toList)).toArray 3) := ⟨_, rfl⟩
      obtain ⟨b5, hb5⟩ : ∃ b5, b5 = w4.heap.size := ⟨_, rfl⟩
      have hk5 : Keeps NoB w4 w5 := by rw [hw5]; exact (Keeps.refl NoB w4).alloc _
      have ho5 : w5.ownsRow w3.heap.size 3 1 (.slice (some ⟨b5, 0, none⟩) 1 1) 1 [.int .i64 1] := by
        rw [hw5, hb5]; exact ⟨rfl, .inr ⟨w4.heap.size, 1, _, rfl, hz4, heap_alloc_same _ _, Nat.le_refl _, by decide, rfl, rfl⟩⟩
      rw [← hw5, ← hb5]
      clear hw5
      have hc5 := hk5.heap hc4 (fun h => h)
      refine wr_store (v := .slice (some ⟨b5, 0, none⟩) 1 1) rfl rfl rfl rfl hc5 rfl ?_
      obtain ⟨w6, hw6⟩ : ∃ w6, w6 = w5.putObj nb (.cells ((#[Value.int .i64 dd, .slice acs cs.length ccs] : Array Value).setIfInBounds (0 + 1) (.slice (some ⟨b5, 0, none⟩) 1 1)) 35 (0, 0)) := ⟨_, rfl⟩
      have hk56 : Keeps (· = nb) w5 w6 := by rw [hw6]; exact (Keeps.refl _ _).put _ (fun _ => rfl)
      have hc6 : w6.heap[nb]? = some (.cells #[.int .i64 dd, .slice (some ⟨b5, 0, none⟩) 1 1] 35 (0, 0)) := by rw [hw6]; exact World.putObj_heap_same (lt_of_heap hc5)
      rw [← hw6]
      clear hw6
      have hk6 : Keeps (· = nb) w3 w6 := hk4.trans (hk5.upD.trans hk56)
      obtain ⟨cs6, hcs6⟩ : ∃ cs6 : List Int, cs6 = [1] := ⟨_, rfl⟩
      obtain ⟨cv6, hcv6⟩ : ∃ cv6, cv6 = Value.slice (some ⟨b5, 0, none⟩) 1 1 := ⟨_, rfl⟩
      have ho6 : w6.ownsRow w3.heap.size 3 1 cv6 cs6.length (IL cs6) := by rw [hcs6, hcv6]; exact own_keep ho5 hk56 (fun k hk (e : k = nb) => by
        have hk : b5 = k := by simpa [Value.ownBlock] using hk
        omega)
      rw [← hcv6] at hc6
      have hdr : drOk N N.length (dd, cs6) := by
        have hr1 := depthAt_get hD.root
        have hone := hD.one
        rw [hcs6]
        refine ⟨hd14, ⟨Nat.le_refl _, by show 1 ≤ 6; omega⟩, (by simp), fun c hc => ?_⟩
        rw [List.mem_singleton] at hc
        subst hc
        exact ⟨Int.le_refl _, by omega, by have e : (1 : Int) = ((0 : Nat) : Int) + 1 := rfl; rw [e, hr1]; show 0 < dd; omega⟩
      (repeat first | (apply wr_move; exact rfl; with_reducible (conv => enter [6, 3]; whnf)) | apply wr_end | apply wc_region)
      refine wr_loadAll (cs := [.int .i64 dd, cv6]) rfl rfl rfl hc6 rfl ?_
      refine wr_buildSlice (vs := [.agg #[.int .i64 dd, cv6]]) rfl rfl (by intro v hv; simp at hv; subst hv; rfl) rfl (by decide) (by decide) (by decide) ?_
      have ho6' := own_keep ho3 hk6 hvne
      refine wr_append (v := .slice av gs.length cv0) (n := gs.length) (m := 1) (news := [.int .i64 dd, cv6]) rfl rfl (ho6'.alloc _) rfl (heap_alloc_same _ _) rfl (by intro u hu; simp at hu; rcases hu with rfl | rfl; rfl; exact slR_one (SlR.of_own ho6)) rfl (by decide) (by omega) (by omega) (by have := hk6.size; have := hk03.size; simp only [World.size_alloc]; omega) ?_
      intro v2 w7 ho7 hk7 _
      have hk67 : Keeps (fun k => (Value.slice av gs.length cv0).ownBlock = some k) w6 w7 := Keeps.trans' ((Keeps.refl NoB w6).alloc _).upD hk7 (fun b hb e => e)
      have hltv : ∀ k, (Value.slice av gs.length cv0).ownBlock = some k → w.heap.size ≤ k ∧ k < w2.heap.size := fun k hk => ho2.lt k hk
      have hk37 : Keeps (fun k => k = nb ∨ (Value.slice av gs.length cv0).ownBlock = some k) w3 w7 := (hk6.mono (fun _ _ e => .inl e)).trans (hk67.mono (fun _ _ e => .inr e))
      have hgd : ∀ g ∈ gs, ∀ k, g.2.ownBlock = some k → ¬ (k = nb ∨ (Value.slice av gs.length cv0).ownBlock = some k) := fun g hg k hk => by
        obtain ⟨_, c1, f1, h1⟩ := hcv2 g hg k hk
        rintro (e | e)
        · have := lt_of_heap h1; omega
        · obtain ⟨c2, f2, h2⟩ := own_ty ho2 e
          rw [h1] at h2
          simp at h2
      have hcvo : w7.ownsRow w3.heap.size 3 1 cv6 cs6.length (IL cs6) := own_keep ho6 hk67 (fun k hk e => by
        have := own_ge ho6 hk
        have := (hltv k e).2
        have := hk3.size
        omega)
      have hg7 : Given w7 (N ++ [(dd, cs6)]) (gs ++ [(dd, cv6)]) := (hg3.keepD hk37 hgd).snoc rfl (SlR.of_own hcvo)
      have hcv7 : ∀ g ∈ gs ++ [(dd, cv6)], CvT w7 g.2 w.heap.size := fun g hg k hk => by
        rcases List.mem_append.1 hg with hg | hg
        · obtain ⟨h1, c1, f1, h2⟩ := hcv2 g hg k hk
          exact ⟨h1, c1, f1, hk37.heap (hk3.heap h2 (fun h => h)) (hgd g hg k hk)⟩
        · rw [List.mem_singleton] at hg
          subst hg
          have := own_ge hcvo hk
          have := hk03.size
          exact ⟨by omega, own_ty hcvo hk⟩
      have hkw7 : Keeps NoB w w7 := Keeps.trans' hk03 hk37 (fun b hb e => by
        rcases e with e | e
        · have := hk2.size; omega
        · have := (hltv b e).1; omega)
      (repeat first | (apply wr_move; exact rfl; with_reducible (conv => enter [6, 3]; whnf)) | (apply wr_assign; exact rfl; with_reducible (conv => enter [6, 3]; whnf)) | apply wr_end | apply wc_region | (apply wr_add; (iterate 3 exact rfl); exact w_fit (by dsimp only [kIn]; first | done | omega)) | (apply wr_nil; try simp only [thenE, inBlockE, bodyQ]))
      exact ⟨(i + 1, v2), by dsimp only; omega, ⟨by trivial, hlt, hlt2, N ++ [(dd, cs6)], gs ++ [(dd, cv6)], by simp [hNl], hD.snoc (by omega) hdr, (by simpa [GNc] using ho7), hg7, hcv7, hkw7⟩, rfl, rfl, by simp, trivial⟩
    · (repeat first | (apply wr_move; exact rfl; with_reducible (conv => enter [6, 3]; whnf)) | apply wr_end | apply wc_seq | apply wc_region | apply wc_skip | (apply wr_fieldAddr; iterate 2 exact rfl) | (apply wr_len_slice; iterate 2 exact rfl) | (apply wr_load; (iterate 3 exact rfl); (focus repeat first | with_reducible assumption | exact heap_alloc_same _ _ | exact World.putObj_heap_same (by first | omega | (simp only [World.size_alloc, World.putObj_size, ne_eq]; omega)) | ((first | refine hAl ?_ ?_ | refine hPu ?_ ?_); focus first | omega | (simp only [World.size_alloc, World.putObj_size, ne_eq]; omega))); exact rfl; conv => enter [6, 3]; whnf) | (apply wr_cmp; (iterate 3 exact rfl); exact cmpF (by dsimp only [cmpN]; first | done | omega)) | (apply wr_pick (t := false); (iterate 2 exact rfl); with_reducible (conv => enter [6, 3]; whnf)) | (apply wc_false; exact rfl) | (apply wc_exit; try simp only [thenE, inBlockE, bodyQ, ↓reduceIte, Nat.reduceEqDiff]) | (apply wr_skip; exact rfl))
      obtain ⟨w6, hw6⟩ : ∃ w6, w6 = w4 := ⟨_, rfl⟩
      obtain ⟨cs6, hcs6⟩ : ∃ cs6 : List Int, cs6 = cs := ⟨_, rfl⟩
      obtain ⟨cv6, hcv6⟩ : ∃ cv6, cv6 = Value.slice acs cs.length ccs := ⟨_, rfl⟩
      rw [← hcv6] at ho4 hc4
      rw [← hw6, ← hcs6] at ho4
      rw [← hw6] at hc4 hk4 ⊢
      have hc6 := hc4
      have hk6 := hk4
      have ho6 := ho4
      have hdr : drOk N N.length (dd, cs6) := by rw [hcs6]; exact ⟨hd14, ⟨by show 1 ≤ cs.length; omega, by show cs.length ≤ 6; omega⟩, hnd, hcok⟩
      refine wr_loadAll (cs := [.int .i64 dd, cv6]) rfl rfl rfl hc6 rfl ?_
      refine wr_buildSlice (vs := [.agg #[.int .i64 dd, cv6]]) rfl rfl (by intro v hv; simp at hv; subst hv; rfl) rfl (by decide) (by decide) (by decide) ?_
      have ho6' := own_keep ho3 hk6 hvne
      refine wr_append (v := .slice av gs.length cv0) (n := gs.length) (m := 1) (news := [.int .i64 dd, cv6]) rfl rfl (ho6'.alloc _) rfl (heap_alloc_same _ _) rfl (by intro u hu; simp at hu; rcases hu with rfl | rfl; rfl; exact slR_one (SlR.of_own ho6)) rfl (by decide) (by omega) (by omega) (by have := hk6.size; have := hk03.size; simp only [World.size_alloc]; omega) ?_
      intro v2 w7 ho7 hk7 _
      have hk67 : Keeps (fun k => (Value.slice av gs.length cv0).ownBlock = some k) w6 w7 := Keeps.trans' ((Keeps.refl NoB w6).alloc _).upD hk7 (fun b hb e => e)
      have hltv : ∀ k, (Value.slice av gs.length cv0).ownBlock = some k → w.heap.size ≤ k ∧ k < w2.heap.size := fun k hk => ho2.lt k hk
      have hk37 : Keeps (fun k => k = nb ∨ (Value.slice av gs.length cv0).ownBlock = some k) w3 w7 := (hk6.mono (fun _ _ e => .inl e)).trans (hk67.mono (fun _ _ e => .inr e))
      have hgd : ∀ g ∈ gs, ∀ k, g.2.ownBlock = some k → ¬ (k = nb ∨ (Value.slice av gs.length cv0).ownBlock = some k) := fun g hg k hk => by
        obtain ⟨_, c1, f1, h1⟩ := hcv2 g hg k hk
        rintro (e | e)
        · have := lt_of_heap h1; omega
        · obtain ⟨c2, f2, h2⟩ := own_ty ho2 e
          rw [h1] at h2
          simp at h2
      have hcvo : w7.ownsRow w3.heap.size 3 1 cv6 cs6.length (IL cs6) := own_keep ho6 hk67 (fun k hk e => by
        have := own_ge ho6 hk
        have := (hltv k e).2
        have := hk3.size
        omega)
      have hg7 : Given w7 (N ++ [(dd, cs6)]) (gs ++ [(dd, cv6)]) := (hg3.keepD hk37 hgd).snoc rfl (SlR.of_own hcvo)
      have hcv7 : ∀ g ∈ gs ++ [(dd, cv6)], CvT w7 g.2 w.heap.size := fun g hg k hk => by
        rcases List.mem_append.1 hg with hg | hg
        · obtain ⟨h1, c1, f1, h2⟩ := hcv2 g hg k hk
          exact ⟨h1, c1, f1, hk37.heap (hk3.heap h2 (fun h => h)) (hgd g hg k hk)⟩
        · rw [List.mem_singleton] at hg
          subst hg
          have := own_ge hcvo hk
          have := hk03.size
          exact ⟨by omega, own_ty hcvo hk⟩
      have hkw7 : Keeps NoB w w7 := Keeps.trans' hk03 hk37 (fun b hb e => by
        rcases e with e | e
        · have := hk2.size; omega
        · have := (hltv b e).1; omega)
      (repeat first | (apply wr_move; exact rfl; with_reducible (conv => enter [6, 3]; whnf)) | (apply wr_assign; exact rfl; with_reducible (conv => enter [6, 3]; whnf)) | apply wr_end | apply wc_region | (apply wr_add; (iterate 3 exact rfl); exact w_fit (by dsimp only [kIn]; first | done | omega)) | (apply wr_nil; try simp only [thenE, inBlockE, bodyQ]))
      exact ⟨(i + 1, v2), by dsimp only; omega, ⟨by trivial, hlt, hlt2, N ++ [(dd, cs6)], gs ++ [(dd, cv6)], by simp [hNl], hD.snoc (by omega) hdr, (by simpa [GNc] using ho7), hg7, hcv7, hkw7⟩, rfl, rfl, by simp, trivial⟩
  by_cases hk7 : k < 6
  rotate_left
  · (repeat first | (apply wr_move; exact rfl; with_reducible (conv => enter [6, 3]; whnf)) | apply wc_seq | apply wc_region)
    refine wr_indexAddr (i := i) rfl rfl rfl hlt ?_
    refine wr_fieldAddr rfl rfl ?_
    refine wr_load (v := .slice ax x.l.length cx) rfl rfl rfl hb4 hv1 ?_
    obtain ⟨acs, ccs, rfl, hccs, hatcs⟩ := slr_ints (SlR.of_own ho4)
    by_cases h0 : cs.length = 0
    · (repeat first | (apply wr_move; exact rfl; with_reducible (conv => enter [6, 3]; whnf)) | apply wr_end | apply wc_seq | apply wc_region | (apply wr_fieldAddr; iterate 2 exact rfl) | (apply wr_len_slice; iterate 2 exact rfl) | (apply wr_load; (iterate 3 exact rfl); (focus repeat first | with_reducible assumption | exact heap_alloc_same _ _ | exact World.putObj_heap_same (by first | omega | (simp only [World.size_alloc, World.putObj_size, ne_eq]; omega)) | ((first | refine hAl ?_ ?_ | refine hPu ?_ ?_); focus first | omega | (simp only [World.size_alloc, World.putObj_size, ne_eq]; omega))); exact rfl; conv => enter [6, 3]; whnf) | (apply wr_cmp; (iterate 3 exact rfl); exact cmpT (by dsimp only [cmpP]; first | done | omega)) | (apply wr_cmp; (iterate 3 exact rfl); exact cmpF (by dsimp only [cmpN]; first | done | omega)) | (apply wr_pick (t := true); (iterate 2 exact rfl); with_reducible (conv => enter [6, 3]; whnf)) | (apply wc_true; exact rfl) | (apply wc_false; exact rfl) | (apply wc_exit; try simp only [thenE, inBlockE, bodyQ, ↓reduceIte, Nat.reduceEqDiff]))
      refine wr_buildSlice (vs := [.int .i64 1]) rfl rfl (by intro v hv; simp at hv; subst hv; rfl) rfl (by decide) (by decide) (by decide) ?_
      refine wr_fieldAddr rfl rfl ?_
      have hz4 : w3.heap.size ≤ w4.heap.size := hk4.size
      obtain ⟨w5, hw5⟩ : ∃ w5, w5 = w4.alloc (.cells ([Value.int .i64 1].flatMap (fun v => v.cells.toList)).toArray 3) := ⟨_, rfl⟩
      obtain ⟨b5, hb5⟩ : ∃ b5, b5 = w4.heap.size := ⟨_, rfl⟩
      have hk5 : Keeps NoB w4 w5 := by rw [hw5]; exact (Keeps.refl NoB w4).alloc _
      have ho5 : w5.ownsRow w3.heap.size 3 1 (.slice (some ⟨b5, 0, none⟩) 1 1) 1 [.int .i64 1] := by
        rw [hw5, hb5]; exact ⟨rfl, .inr ⟨w4.heap.size, 1, _, rfl, hz4, heap_alloc_same _ _, Nat.le_refl _, by decide, rfl, rfl⟩⟩
      rw [← hw5, ← hb5]
      clear hw5
      have hc5 := hk5.heap hc4 (fun h => h)
      refine wr_store (v := .slice (some ⟨b5, 0, none⟩) 1 1) rfl rfl rfl rfl hc5 rfl ?_
      obtain ⟨w6, hw6⟩ : ∃ w6, w6 = w5.putObj nb (.cells ((#[Value.int .i64 dd, .slice acs cs.length ccs] : Array Value).setIfInBounds (0 + 1) (.slice (some ⟨b5, 0, none⟩) 1 1)) 35 (0, 0)) := ⟨_, rfl⟩
      have hk56 : Keeps (· = nb) w5 w6 := by rw [hw6]; exact (Keeps.refl _ _).put _ (fun _ => rfl)
      have hc6 : w6.heap[nb]? = some (.cells #[.int .i64 dd, .slice (some ⟨b5, 0, none⟩) 1 1] 35 (0, 0)) := by rw [hw6]; exact World.putObj_heap_same (lt_of_heap hc5)
      rw [← hw6]
      clear hw6
      have hk6 : Keeps (· = nb) w3 w6 := hk4.trans (hk5.upD.trans hk56)
      obtain ⟨cs6, hcs6⟩ : ∃ cs6 : List Int, cs6 = [1] := ⟨_, rfl⟩
      obtain ⟨cv6, hcv6⟩ : ∃ cv6, cv6 = Value.slice (some ⟨b5, 0, none⟩) 1 1 := ⟨_, rfl⟩
      have ho6 : w6.ownsRow w3.heap.size 3 1 cv6 cs6.length (IL cs6) := by rw [hcs6, hcv6]; exact own_keep ho5 hk56 (fun k hk (e : k = nb) => by
        have hk : b5 = k := by simpa [Value.ownBlock] using hk
        omega)
      rw [← hcv6] at hc6
      have hdr : drOk N N.length (dd, cs6) := by
        have hr1 := depthAt_get hD.root
        have hone := hD.one
        rw [hcs6]
        refine ⟨hd14, ⟨Nat.le_refl _, by show 1 ≤ 6; omega⟩, (by simp), fun c hc => ?_⟩
        rw [List.mem_singleton] at hc
        subst hc
        exact ⟨Int.le_refl _, by omega, by have e : (1 : Int) = ((0 : Nat) : Int) + 1 := rfl; rw [e, hr1]; show 0 < dd; omega⟩
      (repeat first | (apply wr_move; exact rfl; with_reducible (conv => enter [6, 3]; whnf)) | apply wr_end | apply wc_region)
      refine wr_loadAll (cs := [.int .i64 dd, cv6]) rfl rfl rfl hc6 rfl ?_
      refine wr_buildSlice (vs := [.agg #[.int .i64 dd, cv6]]) rfl rfl (by intro v hv; simp at hv; subst hv; rfl) rfl (by decide) (by decide) (by decide) ?_
      have ho6' := own_keep ho3 hk6 hvne
      refine wr_append (v := .slice av gs.length cv0) (n := gs.length) (m := 1) (news := [.int .i64 dd, cv6]) rfl rfl (ho6'.alloc _) rfl (heap_alloc_same _ _) rfl (by intro u hu; simp at hu; rcases hu with rfl | rfl; rfl; exact slR_one (SlR.of_own ho6)) rfl (by decide) (by omega) (by omega) (by have := hk6.size; have := hk03.size; simp only [World.size_alloc]; omega) ?_
      intro v2 w7 ho7 hk7 _
      have hk67 : Keeps (fun k => (Value.slice av gs.length cv0).ownBlock = some k) w6 w7 := Keeps.trans' ((Keeps.refl NoB w6).alloc _).upD hk7 (fun b hb e => e)
      have hltv : ∀ k, (Value.slice av gs.length cv0).ownBlock = some k → w.heap.size ≤ k ∧ k < w2.heap.size := fun k hk => ho2.lt k hk
      have hk37 : Keeps (fun k => k = nb ∨ (Value.slice av gs.length cv0).ownBlock = some k) w3 w7 := (hk6.mono (fun _ _ e => .inl e)).trans (hk67.mono (fun _ _ e => .inr e))
      have hgd : ∀ g ∈ gs, ∀ k, g.2.ownBlock = some k → ¬ (k = nb ∨ (Value.slice av gs.length cv0).ownBlock = some k) := fun g hg k hk => by
        obtain ⟨_, c1, f1, h1⟩ := hcv2 g hg k hk
        rintro (e | e)
        · have := lt_of_heap h1; omega
        · obtain ⟨c2, f2, h2⟩ := own_ty ho2 e
          rw [h1] at h2
          simp at h2
      have hcvo : w7.ownsRow w3.heap.size 3 1 cv6 cs6.length (IL cs6) := own_keep ho6 hk67 (fun k hk e => by
        have := own_ge ho6 hk
        have := (hltv k e).2
        have := hk3.size
        omega)
      have hg7 : Given w7 (N ++ [(dd, cs6)]) (gs ++ [(dd, cv6)]) := (hg3.keepD hk37 hgd).snoc rfl (SlR.of_own hcvo)
      have hcv7 : ∀ g ∈ gs ++ [(dd, cv6)], CvT w7 g.2 w.heap.size := fun g hg k hk => by
        rcases List.mem_append.1 hg with hg | hg
        · obtain ⟨h1, c1, f1, h2⟩ := hcv2 g hg k hk
          exact ⟨h1, c1, f1, hk37.heap (hk3.heap h2 (fun h => h)) (hgd g hg k hk)⟩
        · rw [List.mem_singleton] at hg
          subst hg
          have := own_ge hcvo hk
          have := hk03.size
          exact ⟨by omega, own_ty hcvo hk⟩
      have hkw7 : Keeps NoB w w7 := Keeps.trans' hk03 hk37 (fun b hb e => by
        rcases e with e | e
        · have := hk2.size; omega
        · have := (hltv b e).1; omega)
      (repeat first | (apply wr_move; exact rfl; with_reducible (conv => enter [6, 3]; whnf)) | (apply wr_assign; exact rfl; with_reducible (conv => enter [6, 3]; whnf)) | apply wr_end | apply wc_region | (apply wr_add; (iterate 3 exact rfl); exact w_fit (by dsimp only [kIn]; first | done | omega)) | (apply wr_nil; try simp only [thenE, inBlockE, bodyQ]))
      exact ⟨(i + 1, v2), by dsimp only; omega, ⟨by trivial, hlt, hlt2, N ++ [(dd, cs6)], gs ++ [(dd, cv6)], by simp [hNl], hD.snoc (by omega) hdr, (by simpa [GNc] using ho7), hg7, hcv7, hkw7⟩, rfl, rfl, by simp, trivial⟩
    · (repeat first | (apply wr_move; exact rfl; with_reducible (conv => enter [6, 3]; whnf)) | apply wr_end | apply wc_seq | apply wc_region | apply wc_skip | (apply wr_fieldAddr; iterate 2 exact rfl) | (apply wr_len_slice; iterate 2 exact rfl) | (apply wr_load; (iterate 3 exact rfl); (focus repeat first | with_reducible assumption | exact heap_alloc_same _ _ | exact World.putObj_heap_same (by first | omega | (simp only [World.size_alloc, World.putObj_size, ne_eq]; omega)) | ((first | refine hAl ?_ ?_ | refine hPu ?_ ?_); focus first | omega | (simp only [World.size_alloc, World.putObj_size, ne_eq]; omega))); exact rfl; conv => enter [6, 3]; whnf) | (apply wr_cmp; (iterate 3 exact rfl); exact cmpT (by dsimp only [cmpP]; first | done | omega)) | (apply wr_cmp; (iterate 3 exact rfl); exact cmpF (by dsimp only [cmpN]; first | done | omega)) | (apply wr_pick (t := true); (iterate 2 exact rfl); with_reducible (conv => enter [6, 3]; whnf)) | (apply wc_false; exact rfl) | (apply wc_exit; try simp only [thenE, inBlockE, bodyQ, ↓reduceIte, Nat.reduceEqDiff]))
      obtain ⟨w6, hw6⟩ : ∃ w6, w6 = w4 := ⟨_, rfl⟩
      obtain ⟨cs6, hcs6⟩ : ∃ cs6 : List Int, cs6 = cs := ⟨_, rfl⟩
      obtain ⟨cv6, hcv6⟩ : ∃ cv6, cv6 = Value.slice acs cs.length ccs := ⟨_, rfl⟩
      rw [← hcv6] at ho4 hc4
      rw [← hw6, ← hcs6] at ho4
      rw [← hw6] at hc4 hk4 ⊢
      have hc6 := hc4
      have hk6 := hk4
      have ho6 := ho4
      have hdr : drOk N N.length (dd, cs6) := by rw [hcs6]; exact ⟨hd14, ⟨by show 1 ≤ cs.length; omega, by show cs.length ≤ 6; omega⟩, hnd, hcok⟩
      refine wr_loadAll (cs := [.int .i64 dd, cv6]) rfl rfl rfl hc6 rfl ?_
      refine wr_buildSlice (vs := [.agg #[.int .i64 dd, cv6]]) rfl rfl (by intro v hv; simp at hv; subst hv; rfl) rfl (by decide) (by decide) (by decide) ?_
      have ho6' := own_keep ho3 hk6 hvne
      refine wr_append (v := .slice av gs.length cv0) (n := gs.length) (m := 1) (news := [.int .i64 dd, cv6]) rfl rfl (ho6'.alloc _) rfl (heap_alloc_same _ _) rfl (by intro u hu; simp at hu; rcases hu with rfl | rfl; rfl; exact slR_one (SlR.of_own ho6)) rfl (by decide) (by omega) (by omega) (by have := hk6.size; have := hk03.size; simp only [World.size_alloc]; omega) ?_
      intro v2 w7 ho7 hk7 _
      have hk67 : Keeps (fun k => (Value.slice av gs.length cv0).ownBlock = some k) w6 w7 := Keeps.trans' ((Keeps.refl NoB w6).alloc _).upD hk7 (fun b hb e => e)
      have hltv : ∀ k, (Value.slice av gs.length cv0).ownBlock = some k → w.heap.size ≤ k ∧ k < w2.heap.size := fun k hk => ho2.lt k hk
      have hk37 : Keeps (fun k => k = nb ∨ (Value.slice av gs.length cv0).ownBlock = some k) w3 w7 := (hk6.mono (fun _ _ e => .inl e)).trans (hk67.mono (fun _ _ e => .inr e))
      have hgd : ∀ g ∈ gs, ∀ k, g.2.ownBlock = some k → ¬ (k = nb ∨ (Value.slice av gs.length cv0).ownBlock = some k) := fun g hg k hk => by
        obtain ⟨_, c1, f1, h1⟩ := hcv2 g hg k hk
        rintro (e | e)
        · have := lt_of_heap h1; omega
        · obtain ⟨c2, f2, h2⟩ := own_ty ho2 e
          rw [h1] at h2
          simp at h2
      have hcvo : w7.ownsRow w3.heap.size 3 1 cv6 cs6.length (IL cs6) := own_keep ho6 hk67 (fun k hk e => by
        have := own_ge ho6 hk
        have := (hltv k e).2
        have := hk3.size
        omega)
      have hg7 : Given w7 (N ++ [(dd, cs6)]) (gs ++ [(dd, cv6)]) := (hg3.keepD hk37 hgd).snoc rfl (SlR.of_own hcvo)
      have hcv7 : ∀ g ∈ gs ++ [(dd, cv6)], CvT w7 g.2 w.heap.size := fun g hg k hk => by
        rcases List.mem_append.1 hg with hg | hg
        · obtain ⟨h1, c1, f1, h2⟩ := hcv2 g hg k hk
          exact ⟨h1, c1, f1, hk37.heap (hk3.heap h2 (fun h => h)) (hgd g hg k hk)⟩
        · rw [List.mem_singleton] at hg
          subst hg
          have := own_ge hcvo hk
          have := hk03.size
          exact ⟨by omega, own_ty hcvo hk⟩
      have hkw7 : Keeps NoB w w7 := Keeps.trans' hk03 hk37 (fun b hb e => by
        rcases e with e | e
        · have := hk2.size; omega
        · have := (hltv b e).1; omega)
      (repeat first | (apply wr_move; exact rfl; with_reducible (conv => enter [6, 3]; whnf)) | (apply wr_assign; exact rfl; with_reducible (conv => enter [6, 3]; whnf)) | apply wr_end | apply wc_region | (apply wr_add; (iterate 3 exact rfl); exact w_fit (by dsimp only [kIn]; first | done | omega)) | (apply wr_nil; try simp only [thenE, inBlockE, bodyQ]))
      exact ⟨(i + 1, v2), by dsimp only; omega, ⟨by trivial, hlt, hlt2, N ++ [(dd, cs6)], gs ++ [(dd, cv6)], by simp [hNl], hD.snoc (by omega) hdr, (by simpa [GNc] using ho7), hg7, hcv7, hkw7⟩, rfl, rfl, by simp, trivial⟩
  obtain ⟨bx, ox, rfl, curx, ex, frx, hbx, hrx⟩ := hatx (by omega)
  obtain ⟨bt, hbt⟩ : ∃ bt, x.l[k]? = some bt := ⟨x.l[k], by simp [hkl]⟩
  have hbtl := hx2 bt (List.mem_of_getElem? hbt)
  have hbx4 : w4.heap[bx]? = some (.cells curx ex frx) := hk4.heap (hk03.heap hbx (fun h => h)) (fun e => by have := lt_of_heap hbx; have := hk2.size; omega)
  have hvx : curx[ox + k * 1]? = some (.int .u8 (bt : Int)) := by
    have := hrx k (by omega)
    rw [Nat.mul_one, this]; simp [IB, hbt]
  (repeat first | (apply wr_move; exact rfl; with_reducible (conv => enter [6, 3]; whnf)) | apply wc_seq | apply wc_region)
  refine wr_indexAddr (i := i) rfl rfl rfl hlt ?_
  refine wr_fieldAddr rfl rfl ?_
  refine wr_load (v := .slice (some ⟨bx, ox, none⟩) x.l.length cx) rfl rfl rfl hb4 hv1 ?_
  (repeat first | (apply wr_move; exact rfl; with_reducible (conv => enter [6, 3]; whnf)) | apply wr_end | apply wc_seq | apply wc_region | apply wc_skip | apply wc_block | (apply wr_len_slice; iterate 2 exact rfl) | (apply wr_cmp; (iterate 3 exact rfl); exact cmpT (by dsimp only [cmpP]; first | done | omega)) | (apply wr_pick (t := true); (iterate 2 exact rfl); with_reducible (conv => enter [6, 3]; whnf)) | (apply wc_true; exact rfl))
  refine wr_indexAddr (i := i) rfl rfl rfl hlt ?_
  refine wr_fieldAddr rfl rfl ?_
  refine wr_load (v := .slice (some ⟨bx, ox, none⟩) x.l.length cx) rfl rfl rfl hb4 hv1 ?_
  (repeat first | (apply wr_move; exact rfl; with_reducible (conv => enter [6, 3]; whnf)))
  refine wr_indexAddr (i := k) rfl rfl rfl hkl ?_
  refine wr_load (v := .int .u8 (bt : Int)) rfl rfl rfl hbx4 hvx ?_
  (repeat first | (apply wr_move; exact rfl; with_reducible (conv => enter [6, 3]; whnf)) | (apply wr_len_slice; iterate 2 exact rfl) | (apply wr_conv; (iterate 2 exact rfl); exact w_fit (by dsimp only [kIn]; first | done | omega)))
  refine wr_remN (n := bt) (m := gs.length) rfl rfl rfl (by omega) ?_
  have hrm : bt % gs.length < gs.length := Nat.mod_lt _ (by omega)
  generalize bt % gs.length = r at hrm
  obtain ⟨⟨g1, g2⟩, hgr⟩ : ∃ g, gs[r]? = some g := ⟨gs[r], by simp [hrm]⟩
  obtain ⟨⟨n1, n2⟩, hnr⟩ : ∃ n, N[r]? = some n := ⟨N[r]'(by omega), by simp [show r < N.length by omega]⟩
  have hge := (hg3.el r _ _ hgr hnr).1
  dsimp only at hge
  have hdp := depthAt_get hnr
  dsimp only at hdp
  (repeat first | (apply wr_assign; exact rfl; with_reducible (conv => enter [6, 3]; whnf)) | apply wr_end | apply wc_seq | apply wc_region | apply wc_block | (apply wr_add; (iterate 3 exact rfl); exact w_fit (by dsimp only [kIn]; first | done | omega)))
  obtain ⟨acs, ccs, rfl, hccs, hatcs⟩ := slr_ints (SlR.of_own ho4)
  refine wc_loopL (α := Nat) (fun m => [(0, .slice (some ⟨b, o, none⟩) ss.length cp), (3, .slice av gs.length cv0), (4, .int .i64 (i : Int)), (5, .pointer (some ⟨nb, 0, none⟩)), (6, .int .i64 (k : Int)), (7, .int .i64 (1 + (r : Int))), (8, .bool (decide ((1 + (r : Int)) ∈ cs.take m))), (9, .int .i64 (m : Int))])
    (fun m ds w' => ds = [] ∧ m ≤ cs.length ∧ w' = w4) (fun m => cs.length - m) 0 ⟨rfl, Nat.zero_le _, rfl⟩ ⟨rfl, rfl, rfl, rfl, rfl, rfl, by simp, rfl, trivial⟩ ?_
  rintro m ds f2 w5 ⟨rfl, hm, rfl⟩
  by_cases hml : m < cs.length
  · obtain ⟨bc, oc, rfl, curc, ec, frc, hbc, hrc⟩ := hatcs (by omega)
    obtain ⟨c, hc⟩ : ∃ c, cs[m]? = some c := ⟨cs[m], by simp [hml]⟩
    have htk : cs.take (m + 1) = cs.take m ++ [c] := by rw [List.take_add_one, hc]; rfl
    by_cases hth : (1 + (r : Int)) ∈ cs.take m
    · rw [decide_eq_true hth]
      (repeat first | (apply wr_move; exact rfl; with_reducible (conv => enter [6, 3]; whnf)) | (apply wr_assign; exact rfl; with_reducible (conv => enter [6, 3]; whnf)) | apply wr_end | apply wc_seq | apply wc_region | apply wc_skip | apply wc_block | (apply wr_fieldAddr; iterate 2 exact rfl) | (apply wr_len_slice; iterate 2 exact rfl) | (apply wr_load; (iterate 3 exact rfl); (focus repeat first | with_reducible assumption | exact heap_alloc_same _ _ | exact World.putObj_heap_same (by first | omega | (simp only [World.size_alloc, World.putObj_size, ne_eq]; omega)) | ((first | refine hAl ?_ ?_ | refine hPu ?_ ?_); focus first | omega | (simp only [World.size_alloc, World.putObj_size, ne_eq]; omega))); exact rfl; conv => enter [6, 3]; whnf) | (apply wr_cmp; (iterate 3 exact rfl); exact cmpT (by dsimp only [cmpP]; first | done | omega)) | (apply wr_pick (t := true); (iterate 2 exact rfl); with_reducible (conv => enter [6, 3]; whnf)) | (apply wr_add; (iterate 3 exact rfl); exact w_fit (by dsimp only [kIn]; first | done | omega)) | (apply wc_true; exact rfl) | (apply wr_nil; try simp only [thenE, inBlockE, bodyQ]) | (apply wr_skip; exact rfl))
      exact ⟨m + 1, by omega, ⟨rfl, hml, rfl⟩, rfl, rfl, rfl, rfl, rfl, rfl, by rw [decide_eq_true (by rw [htk]; simp [hth])], by simp, trivial⟩
    · rw [decide_eq_false hth]
      (repeat first | (apply wr_move; exact rfl; with_reducible (conv => enter [6, 3]; whnf)) | apply wr_end | apply wc_seq | apply wc_region | apply wc_skip | apply wc_block | (apply wr_fieldAddr; iterate 2 exact rfl) | (apply wr_len_slice; iterate 2 exact rfl) | (apply wr_load; (iterate 3 exact rfl); (focus repeat first | with_reducible assumption | exact heap_alloc_same _ _ | exact World.putObj_heap_same (by first | omega | (simp only [World.size_alloc, World.putObj_size, ne_eq]; omega)) | ((first | refine hAl ?_ ?_ | refine hPu ?_ ?_); focus first | omega | (simp only [World.size_alloc, World.putObj_size, ne_eq]; omega))); exact rfl; conv => enter [6, 3]; whnf) | (apply wr_cmp; (iterate 3 exact rfl); exact cmpT (by dsimp only [cmpP]; first | done | omega)) | (apply wc_true; exact rfl))
      refine wr_indexAddr (i := m) rfl rfl rfl hml ?_
      refine wr_load (v := .int .i64 c) rfl rfl rfl hbc (hrc m c hc) ?_
      have hdc : decide ((1 + (r : Int)) ∈ cs.take (m + 1)) = decide (c = 1 + (r : Int)) := by
        rw [htk]; simp [hth, eq_comm]
      (repeat first | (apply wr_move; exact rfl; with_reducible (conv => enter [6, 3]; whnf)) | (apply wr_assign; exact rfl; with_reducible (conv => enter [6, 3]; whnf)) | apply wr_end | apply wc_region | (apply wr_cmp; (iterate 3 exact rfl); exact cmp_eq _ _) | (apply wr_pick (t := false); (iterate 2 exact rfl); with_reducible (conv => enter [6, 3]; whnf)) | (apply wr_add; (iterate 3 exact rfl); exact w_fit (by dsimp only [kIn]; first | done | omega)) | (apply wr_nil; try simp only [thenE, inBlockE, bodyQ]))
      exact ⟨m + 1, by omega, ⟨rfl, hml, rfl⟩, rfl, rfl, rfl, rfl, rfl, rfl, by rw [hdc], by simp, trivial⟩
  have hme : m = cs.length := by omega
  subst hme
  rw [List.take_length]
  obtain ⟨bo, oo, rfl, curo, eo, fro, hbo, hro⟩ := hatv (by omega)
  have hbo5 := hk4.heap hbo (fun e => hvne bo rfl e)
  have hvo : curo[oo + r * 2 + 0]? = some (.int .i64 g1) := cell_elem (g := GNc) (k := 2) (n := gs.length) (i := r) (j := 0) GNc_len hro hrm hgr rfl
  have hk5 : Keeps (· = nb) w3 w5.drew := hk4.drew
  have hcd : w5.drew.heap[nb]? = some (.cells #[.int .i64 dd, .slice acs cs.length ccs] 35 (0, 0)) := hc4
  have hod := own_keep ho4 ((Keeps.refl NoB w5).drew) (fun _ _ h => h)
  by_cases h5 : g1 < dd
  rotate_left
  · skip
    (repeat first | (apply wr_move; exact rfl; with_reducible (conv => enter [6, 3]; whnf)) | apply wr_end | apply wc_seq | apply wc_region | (apply wr_fieldAddr; iterate 2 exact rfl) | (apply wr_len_slice; iterate 2 exact rfl) | (apply wr_load; (iterate 3 exact rfl); (focus repeat first | with_reducible assumption | exact heap_alloc_same _ _ | exact World.putObj_heap_same (by first | omega | (simp only [World.size_alloc, World.putObj_size, ne_eq]; omega)) | ((first | refine hAl ?_ ?_ | refine hPu ?_ ?_); focus first | omega | (simp only [World.size_alloc, World.putObj_size, ne_eq]; omega))); exact rfl; conv => enter [6, 3]; whnf) | (apply wr_cmp; (iterate 3 exact rfl); exact cmpF (by dsimp only [cmpN]; first | done | omega)) | (apply wc_false; exact rfl) | (apply wc_exit; try simp only [thenE, inBlockE, bodyQ, ↓reduceIte, Nat.reduceEqDiff]))
    refine wc_drawS (l := _) (S := fun w' => w' = w5.drew) (by kernel_rfl) (by kernel_rfl) rfl ?_
    apply ch_step
    focus
      intro w' hS
      subst hS
      (repeat first | (apply wr_move; exact rfl; with_reducible (conv => enter [6, 3]; whnf)) | (apply wr_nil; try simp only [thenE, inBlockE, bodyQ]))
      exact ⟨rfl, by trivial⟩
    apply ch_step
    focus
      intro w' hS
      subst hS
      (repeat first | (apply wr_move; exact rfl; with_reducible (conv => enter [6, 3]; whnf)) | (apply wr_nil; try simp only [thenE, inBlockE, bodyQ]))
      exact ⟨rfl, by trivial⟩
    apply ch_step
    focus
      intro w' hS
      subst hS
      refine wr_sub (c := (r : Int)) rfl rfl rfl (by rw [show 1 + (r : Int) - 1 = r by omega]; exact w_fit (by dsimp only [kIn]; omega)) ?_
      apply wr_nil
      exact ⟨rfl, rfl⟩
    apply ch_step
    focus
      intro w' hS
      subst hS
      refine wr_indexAddr (i := r) rfl rfl rfl hrm ?_
      apply wr_nil
      exact ⟨rfl, rfl⟩
    apply ch_step
    focus
      intro w' hS
      subst hS
      (repeat first | (apply wr_fieldAddr; iterate 2 exact rfl) | (apply wr_nil; try simp only [thenE, inBlockE, bodyQ]))
      exact ⟨rfl, by trivial⟩
    apply ch_step
    focus
      intro w' hS
      subst hS
      refine wr_load (v := .int .i64 g1) rfl rfl rfl hbo5 hvo ?_
      apply wr_nil
      exact ⟨rfl, rfl⟩
    apply ch_step
    focus
      intro w' hS
      subst hS
      (repeat first | (apply wr_fieldAddr; iterate 2 exact rfl) | (apply wr_nil; try simp only [thenE, inBlockE, bodyQ]))
      exact ⟨rfl, by trivial⟩
    apply ch_step
    focus
      intro w' hS
      subst hS
      refine wr_load (v := .int .i64 dd) rfl rfl rfl hc4 rfl ?_
      apply wr_nil
      exact ⟨rfl, rfl⟩
    apply ch_step
    focus
      intro w' hS
      subst hS
      (repeat first | (apply wr_cmp; (iterate 3 exact rfl); exact cmpF (by dsimp only [cmpN]; first | done | omega)) | (apply wr_nil; try simp only [thenE, inBlockE, bodyQ]))
      exact ⟨rfl, by trivial⟩
    apply ch_step
    focus
      intro w' hS
      subst hS
      (repeat first | (apply wr_move; exact rfl; with_reducible (conv => enter [6, 3]; whnf)) | (apply wr_nil; try simp only [thenE, inBlockE, bodyQ]))
      exact ⟨rfl, by trivial⟩
    apply ch_step
    focus
      intro w' hS
      subst hS
      (repeat first | (apply wr_nil; try simp only [thenE, inBlockE, bodyQ]) | (apply wr_skip; exact rfl))
      exact ⟨rfl, by trivial⟩
    apply ch_step
    focus
      intro w' hS
      subst hS
      (repeat first | (apply wr_nil; try simp only [thenE, inBlockE, bodyQ]) | (apply wr_skip; exact rfl))
      exact ⟨rfl, by trivial⟩
    apply ch_step
    focus
      intro w' hS
      subst hS
      (repeat first | (apply wr_pick (t := false); (iterate 2 exact rfl); with_reducible (conv => enter [6, 3]; whnf)) | (apply wr_nil; try simp only [thenE, inBlockE, bodyQ]))
      exact ⟨rfl, by trivial⟩
    refine ch_nil ?_
    intro w' hS
    subst hS
    (repeat first | (apply wr_move; exact rfl; with_reducible (conv => enter [6, 3]; whnf)) | (apply wr_assign; exact rfl; with_reducible (conv => enter [6, 3]; whnf)) | apply wr_end | apply wc_region | apply wc_skip | (apply wr_add; (iterate 3 exact rfl); exact w_fit (by dsimp only [kIn]; first | done | omega)) | (apply wc_false; exact rfl))
    exact ⟨k + 1, by omega, ⟨by trivial, by omega, hkl, cs, _, hcd, hod, by omega, hnd, hcok, hk5⟩, rfl, rfl, rfl, rfl, by simp, trivial⟩
  by_cases h6 : 1 + (r : Int) ∈ cs
  · rw [decide_eq_true h6]
    (repeat first | (apply wr_move; exact rfl; with_reducible (conv => enter [6, 3]; whnf)) | apply wr_end | apply wc_seq | apply wc_region | (apply wr_fieldAddr; iterate 2 exact rfl) | (apply wr_len_slice; iterate 2 exact rfl) | (apply wr_load; (iterate 3 exact rfl); (focus repeat first | with_reducible assumption | exact heap_alloc_same _ _ | exact World.putObj_heap_same (by first | omega | (simp only [World.size_alloc, World.putObj_size, ne_eq]; omega)) | ((first | refine hAl ?_ ?_ | refine hPu ?_ ?_); focus first | omega | (simp only [World.size_alloc, World.putObj_size, ne_eq]; omega))); exact rfl; conv => enter [6, 3]; whnf) | (apply wr_cmp; (iterate 3 exact rfl); exact cmpF (by dsimp only [cmpN]; first | done | omega)) | (apply wc_false; exact rfl) | (apply wc_exit; try simp only [thenE, inBlockE, bodyQ, ↓reduceIte, Nat.reduceEqDiff]))
    refine wc_drawS (l := _) (S := fun w' => w' = w5.drew) (by kernel_rfl) (by kernel_rfl) rfl ?_
    apply ch_step
    focus
      intro w' hS
      subst hS
      (repeat first | (apply wr_move; exact rfl; with_reducible (conv => enter [6, 3]; whnf)) | (apply wr_nil; try simp only [thenE, inBlockE, bodyQ]))
      exact ⟨rfl, by trivial⟩
    apply ch_step
    focus
      intro w' hS
      subst hS
      (repeat first | (apply wr_move; exact rfl; with_reducible (conv => enter [6, 3]; whnf)) | (apply wr_nil; try simp only [thenE, inBlockE, bodyQ]))
      exact ⟨rfl, by trivial⟩
    apply ch_step
    focus
      intro w' hS
      subst hS
      refine wr_sub (c := (r : Int)) rfl rfl rfl (by rw [show 1 + (r : Int) - 1 = r by omega]; exact w_fit (by dsimp only [kIn]; omega)) ?_
      apply wr_nil
      exact ⟨rfl, rfl⟩
    apply ch_step
    focus
      intro w' hS
      subst hS
      refine wr_indexAddr (i := r) rfl rfl rfl hrm ?_
      apply wr_nil
      exact ⟨rfl, rfl⟩
    apply ch_step
    focus
      intro w' hS
      subst hS
      (repeat first | (apply wr_fieldAddr; iterate 2 exact rfl) | (apply wr_nil; try simp only [thenE, inBlockE, bodyQ]))
      exact ⟨rfl, by trivial⟩
    apply ch_step
    focus
      intro w' hS
      subst hS
      refine wr_load (v := .int .i64 g1) rfl rfl rfl hbo5 hvo ?_
      apply wr_nil
      exact ⟨rfl, rfl⟩
    apply ch_step
    focus
      intro w' hS
      subst hS
      (repeat first | (apply wr_fieldAddr; iterate 2 exact rfl) | (apply wr_nil; try simp only [thenE, inBlockE, bodyQ]))
      exact ⟨rfl, by trivial⟩
    apply ch_step
    focus
      intro w' hS
      subst hS
      refine wr_load (v := .int .i64 dd) rfl rfl rfl hc4 rfl ?_
      apply wr_nil
      exact ⟨rfl, rfl⟩
    apply ch_step
    focus
      intro w' hS
      subst hS
      (repeat first | (apply wr_cmp; (iterate 3 exact rfl); exact cmpT (by dsimp only [cmpP]; first | done | omega)) | (apply wr_nil; try simp only [thenE, inBlockE, bodyQ]))
      exact ⟨rfl, by trivial⟩
    apply ch_step
    focus
      intro w' hS
      subst hS
      (repeat first | (apply wr_move; exact rfl; with_reducible (conv => enter [6, 3]; whnf)) | (apply wr_nil; try simp only [thenE, inBlockE, bodyQ]))
      exact ⟨rfl, by trivial⟩
    apply ch_step
    focus
      intro w' hS
      subst hS
      (repeat first | (apply wr_move; exact rfl; with_reducible (conv => enter [6, 3]; whnf)) | (apply wr_nil; try simp only [thenE, inBlockE, bodyQ]))
      exact ⟨rfl, by trivial⟩
    apply ch_step
    focus
      intro w' hS
      subst hS
      (repeat first | (apply wr_not; iterate 2 exact rfl) | (apply wr_nil; try simp only [thenE, inBlockE, bodyQ]))
      exact ⟨rfl, by trivial⟩
    apply ch_step
    focus
      intro w' hS
      subst hS
      (repeat first | (apply wr_pick (t := true); (iterate 2 exact rfl); with_reducible (conv => enter [6, 3]; whnf)) | (apply wr_nil; try simp only [thenE, inBlockE, bodyQ]))
      exact ⟨rfl, by trivial⟩
    refine ch_nil ?_
    intro w' hS
    subst hS
    (repeat first | (apply wr_move; exact rfl; with_reducible (conv => enter [6, 3]; whnf)) | (apply wr_assign; exact rfl; with_reducible (conv => enter [6, 3]; whnf)) | apply wr_end | apply wc_region | apply wc_skip | (apply wr_add; (iterate 3 exact rfl); exact w_fit (by dsimp only [kIn]; first | done | omega)) | (apply wc_false; exact rfl))
    exact ⟨k + 1, by omega, ⟨by trivial, by omega, hkl, cs, _, hcd, hod, by omega, hnd, hcok, hk5⟩, rfl, rfl, rfl, rfl, by simp, trivial⟩
  rw [decide_eq_false h6]
  (repeat first | (apply wr_move; exact rfl; with_reducible (conv => enter [6, 3]; whnf)) | apply wr_end | apply wc_seq | apply wc_region | (apply wr_fieldAddr; iterate 2 exact rfl) | (apply wr_len_slice; iterate 2 exact rfl) | (apply wr_load; (iterate 3 exact rfl); (focus repeat first | with_reducible assumption | exact heap_alloc_same _ _ | exact World.putObj_heap_same (by first | omega | (simp only [World.size_alloc, World.putObj_size, ne_eq]; omega)) | ((first | refine hAl ?_ ?_ | refine hPu ?_ ?_); focus first | omega | (simp only [World.size_alloc, World.putObj_size, ne_eq]; omega))); exact rfl; conv => enter [6, 3]; whnf) | (apply wr_cmp; (iterate 3 exact rfl); exact cmpF (by dsimp only [cmpN]; first | done | omega)) | (apply wc_false; exact rfl) | (apply wc_exit; try simp only [thenE, inBlockE, bodyQ, ↓reduceIte, Nat.reduceEqDiff]))
  refine wc_drawS (l := _) (S := fun w' => w' = w5.drew) (by kernel_rfl) (by kernel_rfl) rfl ?_
  apply ch_step
  focus
    intro w' hS
    subst hS
    (repeat first | (apply wr_move; exact rfl; with_reducible (conv => enter [6, 3]; whnf)) | (apply wr_nil; try simp only [thenE, inBlockE, bodyQ]))
    exact ⟨rfl, by trivial⟩
  apply ch_step
  focus
    intro w' hS
    subst hS
    (repeat first | (apply wr_move; exact rfl; with_reducible (conv => enter [6, 3]; whnf)) | (apply wr_nil; try simp only [thenE, inBlockE, bodyQ]))
    exact ⟨rfl, by trivial⟩
  apply ch_step
  focus
    intro w' hS
    subst hS
    refine wr_sub (c := (r : Int)) rfl rfl rfl (by rw [show 1 + (r : Int) - 1 = r by omega]; exact w_fit (by dsimp only [kIn]; omega)) ?_
    apply wr_nil
    exact ⟨rfl, rfl⟩
  apply ch_step
  focus
    intro w' hS
    subst hS
    refine wr_indexAddr (i := r) rfl rfl rfl hrm ?_
    apply wr_nil
    exact ⟨rfl, rfl⟩
  apply ch_step
  focus
    intro w' hS
    subst hS
    (repeat first | (apply wr_fieldAddr; iterate 2 exact rfl) | (apply wr_nil; try simp only [thenE, inBlockE, bodyQ]))
    exact ⟨rfl, by trivial⟩
  apply ch_step
  focus
    intro w' hS
    subst hS
    refine wr_load (v := .int .i64 g1) rfl rfl rfl hbo5 hvo ?_
    apply wr_nil
    exact ⟨rfl, rfl⟩
  apply ch_step
  focus
    intro w' hS
    subst hS
    (repeat first | (apply wr_fieldAddr; iterate 2 exact rfl) | (apply wr_nil; try simp only [thenE, inBlockE, bodyQ]))
    exact ⟨rfl, by trivial⟩
  apply ch_step
  focus
    intro w' hS
    subst hS
    refine wr_load (v := .int .i64 dd) rfl rfl rfl hc4 rfl ?_
    apply wr_nil
    exact ⟨rfl, rfl⟩
  apply ch_step
  focus
    intro w' hS
    subst hS
    (repeat first | (apply wr_cmp; (iterate 3 exact rfl); exact cmpT (by dsimp only [cmpP]; first | done | omega)) | (apply wr_nil; try simp only [thenE, inBlockE, bodyQ]))
    exact ⟨rfl, by trivial⟩
  apply ch_step
  focus
    intro w' hS
    subst hS
    (repeat first | (apply wr_move; exact rfl; with_reducible (conv => enter [6, 3]; whnf)) | (apply wr_nil; try simp only [thenE, inBlockE, bodyQ]))
    exact ⟨rfl, by trivial⟩
  apply ch_step
  focus
    intro w' hS
    subst hS
    (repeat first | (apply wr_move; exact rfl; with_reducible (conv => enter [6, 3]; whnf)) | (apply wr_nil; try simp only [thenE, inBlockE, bodyQ]))
    exact ⟨rfl, by trivial⟩
  apply ch_step
  focus
    intro w' hS
    subst hS
    (repeat first | (apply wr_not; iterate 2 exact rfl) | (apply wr_nil; try simp only [thenE, inBlockE, bodyQ]))
    exact ⟨rfl, by trivial⟩
  apply ch_step
  focus
    intro w' hS
    subst hS
    (repeat first | (apply wr_pick (t := true); (iterate 2 exact rfl); with_reducible (conv => enter [6, 3]; whnf)) | (apply wr_nil; try simp only [thenE, inBlockE, bodyQ]))
    exact ⟨rfl, by trivial⟩
  refine ch_nil ?_
  intro w' hS
  subst hS
  have hz5 : w3.heap.size ≤ w5.heap.size := hk4.size
  (repeat first | (apply wr_move; exact rfl; with_reducible (conv => enter [6, 3]; whnf)) | apply wc_region | (apply wr_fieldAddr; iterate 2 exact rfl) | (apply wr_load; (iterate 3 exact rfl); (focus repeat first | with_reducible assumption | exact heap_alloc_same _ _ | exact World.putObj_heap_same (by first | omega | (simp only [World.size_alloc, World.putObj_size, ne_eq]; omega)) | ((first | refine hAl ?_ ?_ | refine hPu ?_ ?_); focus first | omega | (simp only [World.size_alloc, World.putObj_size, ne_eq]; omega))); exact rfl; conv => enter [6, 3]; whnf) | (apply wc_true; exact rfl))
  refine wr_buildSlice (vs := [.int .i64 (1 + (r : Int))]) rfl rfl (by intro v hv; simp at hv; subst hv; rfl) rfl (by decide) (by decide) (by decide) ?_
  refine wr_append (v := .slice acs cs.length ccs) (n := cs.length) (m := 1) (news := [.int .i64 (1 + (r : Int))]) rfl rfl (hod.alloc _) rfl (heap_alloc_same _ _) rfl (by intro u hu; simp at hu; subst hu; rfl) rfl (by decide) (by omega) (by omega) (by simp only [World.size_alloc]; show w3.heap.size ≤ w5.heap.size + 1; omega) ?_
  intro v2 w7 ho7 hk7 _
  have hk57 : Keeps (fun k => (Value.slice acs cs.length ccs).ownBlock = some k) w5.drew w7 := Keeps.trans' ((Keeps.refl NoB w5.drew).alloc _).upD hk7 (fun b hb e => e)
  have hc7 := hk57.heap hcd (fun e => by have := own_ge ho4 e; omega)
  refine wr_fieldAddr rfl rfl ?_
  refine wr_store (v := v2) rfl rfl rfl (slR_one (SlR.of_own ho7)) hc7 rfl ?_
  obtain ⟨w8, hw8⟩ : ∃ w8, w8 = w7.putObj nb (.cells ((#[Value.int .i64 dd, .slice acs cs.length ccs] : Array Value).setIfInBounds (0 + 1) v2) 35 (0, 0)) := ⟨_, rfl⟩
  have hk78 : Keeps (· = nb) w7 w8 := by rw [hw8]; exact (Keeps.refl _ _).put _ (fun _ => rfl)
  have hc8 : w8.heap[nb]? = some (.cells #[.int .i64 dd, v2] 35 (0, 0)) := by rw [hw8]; exact World.putObj_heap_same (lt_of_heap hc7)
  rw [← hw8]
  clear hw8
  have ho8 := own_keep ho7 hk78 (fun k hk e => by have := own_ge ho7 hk; omega)
  have hk37 : Keeps (· = nb) w3 w7 := Keeps.trans' hk5 hk57 (fun b hb e => by have := own_ge ho4 e; omega)
  have ecs : IL (cs ++ [1 + (r : Int)]) = IL cs ++ [.int .i64 (1 + (r : Int))] := by simp [IL]
  (repeat first | (apply wr_move; exact rfl; with_reducible (conv => enter [6, 3]; whnf)) | (apply wr_assign; exact rfl; with_reducible (conv => enter [6, 3]; whnf)) | apply wr_end | apply wc_region | (apply wr_add; (iterate 3 exact rfl); exact w_fit (by dsimp only [kIn]; first | done | omega)) | (apply wr_nil; try simp only [thenE, inBlockE, bodyQ]))
  exact ⟨k + 1, by omega, ⟨by trivial, by omega, hkl, cs ++ [1 + (r : Int)], v2, hc8, (by rw [ecs, List.length_append]; exact ho8), (by simp; omega), (by
    rw [List.nodup_append]
    exact ⟨hnd, (by simp), fun a ha b hb e => by rw [List.mem_singleton] at hb; subst hb; subst e; exact h6 ha⟩), (fun c hc => by
      rcases List.mem_append.1 hc with hc | hc
      · exact hcok c hc
      · rw [List.mem_singleton] at hc
        subst hc
        rw [Int.add_comm, hdp]
        exact ⟨by omega, by omega, by omega⟩), hk37.trans hk78⟩, rfl, rfl, rfl, rfl, by simp, trivial⟩
end Go.Proofs.YthjpgkefifkhjaaDoor
