/- The store: Sweep, the walk. -/
import Derived.Test.YtafnbbehmbmchaaDoorQg
namespace Go.Proofs.YtafnbbehmbmchaaDoor
open Go Go.V Go.RowKit
set_option linter.unusedVariables false
set_option linter.unusedSimpArgs false

def sinceX (W : KY → Int) (now : Nat) (x : KY × PE) : Nat := if 0 < wantP W x.1 then x.2.2.2.2 else if x.2.2.2.1 = true then x.2.2.2.2 else now
def updX (W : KY → Int) (now : Nat) (x : KY × PE) : KY × PE := (x.1, (x.2.1, (x.2.2.1, decide (¬ 0 < wantP W x.1), sinceX W now x)))
def goneX (W : KY → Int) (grace now : Nat) (x : KY × PE) : Option KY := if ¬ 0 < wantP W x.1 ∧ sinceX W now x ≤ now ∧ grace ≤ now - sinceX W now x then some x.1 else none
/-- The entries of those that were met are as they shall be. -/
def UpdR (W : KY → Int) (now : Nat) (idx : List Nat) (K K1 : KL) : Prop := K1.length = K.length ∧ ∀ j x, K[j]? = some x → K1[j]? = some (if j ∈ idx then updX W now x else x)
theorem UpdR.step {W : KY → Int} {now : Nat} {idx : List Nat} {K K1 : KL} (h : UpdR W now idx K K1) {i : Nat} {x : KY × PE} (hx : K[i]? = some x) : UpdR W now (idx ++ [i]) K (K1.set i (updX W now x)) := by
  refine ⟨by rw [List.length_set, h.1], fun j y hy => ?_⟩
  have hi := (List.getElem?_eq_some_iff.1 hx).1
  by_cases hj : j = i
  · subst hj
    rw [hx] at hy
    cases hy
    rw [List.getElem?_set_self (by rw [h.1]; exact hi)]
    simp
  · rw [List.getElem?_set_ne (Ne.symm hj), h.2 j y hy]
    simp [hj]
theorem UpdR.ptr {W : KY → Int} {now : Nat} {idx : List Nat} {K K1 : KL} (h : UpdR W now idx K K1) : mapL ptrE K1 = mapL ptrE K := by
  unfold mapL
  apply List.ext_getElem?
  intro j
  rw [List.getElem?_map, List.getElem?_map]
  cases hk : K[j]? with
  | none =>
    have h1 := List.getElem?_eq_none_iff.1 hk
    rw [List.getElem?_eq_none (by rw [h.1]; exact h1)]
  | some x =>
    rw [h.2 j x hk]
    split <;> rfl
theorem UpdR.all {W : KY → Int} {now : Nat} {idx : List Nat} {K K1 : KL} (h : UpdR W now idx K K1) (ha : ∀ i, i < K.length → i ∈ idx) : K1 = K.map (updX W now) := by
  apply List.ext_getElem?
  intro j
  rw [List.getElem?_map]
  cases hk : K[j]? with
  | none =>
    have h1 := List.getElem?_eq_none_iff.1 hk
    rw [List.getElem?_eq_none (by rw [h.1]; exact h1)]; rfl
  | some x =>
    rw [h.2 j x hk, if_pos (ha j (List.getElem?_eq_some_iff.1 hk).1)]; rfl
theorem GE_res {a b : EN} (h : (GE a).toArray = (GE b).toArray) : keyR a.1 = keyR b.1 := by
  have h1 : GE a = GE b := by simpa using h
  obtain ⟨⟨t, n, q, g, d⟩, i, s⟩ := a
  obtain ⟨⟨t', n', q', g', d'⟩, i', s'⟩ := b
  simp only [GE, GRd, List.cons_append, List.nil_append, List.cons.injEq, Value.int.injEq, true_and] at h1
  refine Prod.ext h1.1 ?_
  have := h1.2.1
  show n = n'
  simpa [S] using this
/-- Entries stand apart. -/
theorem St.apart {w : World} {sb kb wb : Nat} {room : Int} {grace : Nat} {K : KL} {W : KY → Int} (h : St w sb kb wb room grace K W) (hkey : ∀ x ∈ K, x.1 = keyR x.2.2.1) {x y : KY × PE} (hx : x ∈ K) (hy : y ∈ K) (e : x.2.1 = y.2.1) : x.1 = y.1 := by
  have h1 := h.ents x hx
  have h2 := h.ents y hy
  rw [e, h2] at h1
  have h3 : (GE y.2.2).toArray = (GE x.2.2).toArray := by injection h1 with h1; injection h1
  rw [hkey x hx, hkey y hy, GE_res h3]
theorem St.updK {w w' : World} {sb kb wb : Nat} {room : Int} {grace : Nat} {K : KL} {W : KY → Int} (h : St w sb kb wb room grace K W) (hkey : ∀ x ∈ K, x.1 = keyR x.2.2.1) (hnd : (K.map (·.1)).Nodup) {i : Nat} {x : KY × PE} {e : EN} (hx : K[i]? = some x)
    (hb : w'.heap[x.2.1]? = some (.cells (GE e).toArray 66 (0, 0))) (hk : Keeps (· = x.2.1) w w') : St w' sb kb wb room grace (K.set i (x.1, (x.2.1, e))) W := by
  obtain ⟨M, h1, h2⟩ := h.watch
  have hxK := List.mem_of_getElem? hx
  have hxe := h.ents x hxK
  have hxs : sb ≠ x.2.1 := fun e => by
    have := h.cells
    rw [e, hxe] at this
    cases this
  have hm : mapL ptrE (K.set i (x.1, (x.2.1, e))) = mapL ptrE K := by
    unfold mapL
    apply List.ext_getElem?
    intro j
    rw [List.getElem?_map, List.getElem?_map]
    by_cases hj : j = i
    · subst hj
      rw [List.getElem?_set_self (List.getElem?_eq_some_iff.1 hx).1, hx]; rfl
    · rw [List.getElem?_set_ne (Ne.symm hj)]
  refine ⟨hk.heap h.cells hxs, ?_, ⟨M, h1.keep hk (fun e => map_cells h1 hxe e.symm), h2⟩, ?_, h.ne, h.wB⟩
  · rw [hm]
    exact h.kept.keep hk (fun e => map_cells h.kept hxe e.symm)
  · intro z hz
    obtain ⟨j, hj⟩ := List.getElem?_of_mem hz
    by_cases hji : j = i
    · subst hji
      rw [List.getElem?_set_self (List.getElem?_eq_some_iff.1 hx).1] at hj
      cases hj
      exact hb
    · rw [List.getElem?_set_ne (Ne.symm hji)] at hj
      have hzK := List.mem_of_getElem? hj
      refine hk.heap (h.ents z hzK) (fun e => hji (Classical.byContradiction fun hji => ?_))
      have hkk := h.apart hkey hzK hxK e
      have hjl := (List.getElem?_eq_some_iff.1 hj).1
      have hil := (List.getElem?_eq_some_iff.1 hx).1
      have e1 : (K.map (·.1))[j]'(by simpa using hjl) = (K.map (·.1))[i]'(by simpa using hil) := by
        simp only [List.getElem_map, (List.getElem?_eq_some_iff.1 hj).2, (List.getElem?_eq_some_iff.1 hx).2]
        exact hkk
      rcases Nat.lt_or_gt_of_ne hji with hlt | hlt
      · exact absurd e1 (List.pairwise_iff_getElem.1 hnd j i _ _ hlt)
      · exact absurd e1.symm (List.pairwise_iff_getElem.1 hnd i j _ _ hlt)
theorem St.keepI {D : Nat → Prop} {w w' : World} {sb kb wb : Nat} {room : Int} {grace : Nat} {K : KL} {W : KY → Int} (h : St w sb kb wb room grace K W) (k : Keeps D w w') (h1 : ∀ (q : Nat) (c : Array Value) (T : TypeId) (fr : Nat × Nat), w.heap[q]? = some (.cells c T fr) → ¬ D q) (h2 : ∀ (q : Nat) es c, w.heap[q]? = some (.map es c) → ¬ D q) : St w' sb kb wb room grace K W := by
  obtain ⟨M, hM, hW⟩ := h.watch
  have m1 := hM
  have m2 := h.kept
  obtain ⟨es, c, hb, _⟩ := m1
  obtain ⟨es', c', hb', _⟩ := m2
  exact ⟨k.heap h.cells (h1 _ _ _ _ h.cells), h.kept.keep k (h2 _ _ _ hb'), ⟨M, hM.keep k (h2 _ _ _ hb), hW⟩, fun x hx => k.heap (h.ents x hx) (h1 _ _ _ _ (h.ents x hx)), h.ne, h.wB⟩
theorem St.keepLow {D : Nat → Prop} {w0 w w' : World} {sb kb wb : Nat} {room : Int} {grace : Nat} {K0 K : KL} {W W0 : KY → Int} (h0 : St w0 sb kb wb room grace K0 W0) (h : St w sb kb wb room grace K W) (hsub : ∀ x ∈ K, ∃ y ∈ K0, y.2.1 = x.2.1) (k : Keeps D w w') (hd : ∀ q, q < w0.heap.size → ¬ D q) : St w' sb kb wb room grace K W := by
  obtain ⟨M, hM, hW⟩ := h.watch
  obtain ⟨M0, hM0, _⟩ := h0.watch
  exact ⟨k.heap h.cells (hd _ (lt_of_heap h0.cells)), h.kept.keep k (hd _ h0.kept.lt), ⟨M, hM.keep k (hd _ hM0.lt), hW⟩, fun x hx => by
    obtain ⟨y, hy, e⟩ := hsub x hx
    exact k.heap (h.ents x hx) (hd _ (by rw [← e]; exact lt_of_heap (h0.ents y hy))), h.ne, h.wB⟩
theorem UpdR.sub {W : KY → Int} {now : Nat} {idx : List Nat} {K K1 : KL} (h : UpdR W now idx K K1) : ∀ x ∈ K1, ∃ y ∈ K, y.2.1 = x.2.1 := by
  intro x hx
  obtain ⟨j, hj⟩ := List.getElem?_of_mem hx
  have hjl := (List.getElem?_eq_some_iff.1 hj).1
  obtain ⟨z, hz⟩ : ∃ z, K[j]? = some z := ⟨K[j]'(by rw [← h.1]; exact hjl), by simp [show j < K.length by rw [← h.1]; exact hjl]⟩
  have h2 := h.2 j z hz
  rw [hj] at h2
  refine ⟨z, List.mem_of_getElem? hz, ?_⟩
  rw [Option.some.inj h2]
  split <;> rfl
theorem iter_map {w : World} {r mb : Nat} {M : List (KY × Value)} {idx : List Nat} (h : IterAt w encK r mb M idx) {q : Nat} {es} {c} (hq : w.heap[q]? = some (.map es c)) : q ≠ r := by
  obtain ⟨es, c, since, last, seen, h1, h2, h3, h4, h5, h6, h7, h7', h8, h9, h10, h11⟩ := h
  rintro rfl; rw [h8] at hq; cases hq
/- Behind the store of idle: w8, where the entry is ($1 idle, $2 since); hk78 : Keeps (· = eb) w7 w8; hx8. -/
set_option maxRecDepth 100000 in
set_option maxHeartbeats 8000000 in
theorem sweep_ca {sb kb wb : Nat} {room : Int} {grace : Nat} {K : KL} {W : KY → Int} {w : World} (h : St w sb kb wb room grace K W) (hK : K.length ≤ 12) (hkl : ∀ x ∈ K, x.1.2.length ≤ 9223372036854775807) (hkey : ∀ x ∈ K, x.1 = keyR x.2.2.1) (hnd : (K.map (·.1)).Nodup) (now : Nat) (hnow : now ≤ 1000) (hsn : ∀ x ∈ K, x.2.2.2.2 ≤ 1000) (hgr : grace ≤ 1000) :
    Ca Tryd.prog 16 #[.pointer (some ⟨sb, 0, none⟩), .int .u64 ((now : Nat) : Int)] w fun v w' => ∃ (G : List KY) (a : Option Addr) (c : Nat), v = .slice a G.length c ∧ G.Perm (K.filterMap (goneX W grace now)) ∧
      St w' sb kb wb room grace ((K.map (updX W now)).filter fun x => decide (x.1 ∉ G)) W ∧ Keeps (fun q => q = kb ∨ ∃ x ∈ K, q = x.2.1) w w' := by
  refine ca_of_body (args := [.pointer (some ⟨sb, 0, none⟩), .int .u64 ((now : Nat) : Int)]) Tryd.func16 rfl (by kernel_rfl) ?_
  have hs := h.cells
  have hln : (mapL ptrE K).length = K.length := by simp [mapL]
  (repeat first | (apply wr_move; exact rfl; with_reducible (conv => enter [6, 3]; whnf)) | (apply wr_assign; exact rfl; with_reducible (conv => enter [6, 3]; whnf)) | apply wr_end | apply wc_seq | apply wc_region | (apply wr_fieldAddr; iterate 2 exact rfl) | (apply wr_nilCheck; iterate 2 exact rfl) | (apply wr_load; (iterate 3 exact rfl); (focus repeat first | with_reducible assumption | exact heap_alloc_same _ _ | exact World.putObj_heap_same (by first | omega | (simp only [World.size_alloc, World.putObj_size, ne_eq]; omega)) | ((first | refine hAl ?_ ?_ | refine hPu ?_ ?_); focus first | omega | (simp only [World.size_alloc, World.putObj_size, ne_eq]; omega))); exact rfl; conv => enter [6, 3]; whnf))
  refine wr_rangeM rfl rfl h.kept ?_
  intro w3 hI3 hk3
  obtain ⟨r, hr⟩ : ∃ b, b = w.heap.size := ⟨_, rfl⟩
  rw [← hr] at hI3 ⊢
  have hsz3 := hk3.size
  have hlr : r < w3.heap.size := by
    obtain ⟨es, c, since, last, seen, h1, h2, h3, h4, h5, h6, h7, h7', h8, h9⟩ := hI3
    exact lt_of_heap h8
  (repeat first | apply wr_end | apply wc_block)
  refine wc_loopL (α := List Nat × Value × KL) (fun p => [(0, .pointer (some ⟨sb, 0, none⟩)), (1, .int .u64 ((now : Nat) : Int)), (5, p.2.1), (15, .pointer (some ⟨r, 0, none⟩))])
    (fun p ds w' => ds = [] ∧ IterAt w' encK r kb (mapL ptrE K) p.1 ∧ w'.ownsRow (r + 1) 28 2 p.2.1 (outF K (goneX W grace now) p.1).length ((outF K (goneX W grace now) p.1).flatMap GK) ∧ St w' sb kb wb room grace p.2.2 W ∧ UpdR W now p.1 K p.2.2 ∧ Keeps (fun q => q = kb ∨ ∃ x ∈ K, q = x.2.1) w w')
    (fun p => K.length - p.1.length) ([], .slice none 0 0, K) ⟨rfl, hI3, ⟨rfl, .inl ⟨rfl, rfl⟩⟩, h.keep hk3, ⟨rfl, fun j x hx => by simpa using hx⟩, hk3.upD⟩ ⟨rfl, rfl, rfl, rfl, trivial⟩ ?_
  rintro ⟨idx, ov, K1⟩ ds f0 w4 ⟨rfl, hI4, hown4, hst4, hU, hkw4⟩
  dsimp only at hI4 hown4 hst4 hU ⊢
  have hrne : ∀ {D : Nat → Prop}, (∀ q, D q → q = r) → (∀ (q : Nat) (c : Array Value) (T : TypeId) (fr : Nat × Nat), w4.heap[q]? = some (.cells c T fr) → ¬ D q) ∧ ∀ (q : Nat) es c, w4.heap[q]? = some (.map es c) → ¬ D q := fun hD => ⟨fun q c T fr hq e => (iter_ne hI4 hq).1 (hD q e), fun q es c hq e => iter_map hI4 hq (hD q e)⟩
  (repeat first | apply wc_seq | apply wc_region)
  refine wr_nextM rfl rfl hI4 ?_ ?_
  · intro w5 hall hk5
    have hp : (outF K (goneX W grace now) idx).Perm (K.filterMap (goneX W grace now)) := by
      obtain ⟨es, c, since, last, seen, h1, h2, h3, h4, h5, h6, h7, h7', h8, h9, h10, h11⟩ := hI4
      exact outF_perm h10 (fun i hi => by have := h11 i hi; rw [hln] at this; exact this) (fun i hi => hall i (by rw [hln]; exact hi))
    have hK1 := hU.all (fun i hi => hall i (by rw [hln]; exact hi))
    have hGl : (outF K (goneX W grace now) idx).length ≤ 12 := by
      rw [hp.length_eq]
      have := List.length_filterMap_le (goneX W grace now) K
      omega
    have hown5 := own_keep hown4 hk5 (fun _ _ h => h)
    have hst5 := hst4.keep hk5
    obtain ⟨G, hG⟩ : ∃ G, G = outF K (goneX W grace now) idx := ⟨_, rfl⟩
    rw [← hG] at hp hGl hown5
    subst hK1
    obtain ⟨sa, sc, hov⟩ := own_sl' hown5
    subst hov
    have hkw5 : Keeps (fun q => q = kb ∨ ∃ x ∈ K, q = x.2.1) w w5 := hkw4.trans hk5.upD
    (repeat first | (apply wr_move; exact rfl; with_reducible (conv => enter [6, 3]; whnf)) | apply wr_end | apply wc_seq | apply wc_region | apply wc_block | (apply wr_len_slice; iterate 2 exact rfl) | (apply wr_extract; (iterate 3 exact rfl); with_reducible (conv => enter [6, 3]; whnf)) | (apply wc_false; exact rfl) | (apply wc_exit; try simp only [thenE, inBlockE, bodyQ, ↓reduceIte, Nat.reduceEqDiff]))
    refine wc_loopL (α := Nat) (fun j => [(0, .pointer (some ⟨sb, 0, none⟩)), (5, .slice sa G.length sc), (72, .slice sa G.length sc), (73, .int .i64 (G.length : Int)), (74, .int .i64 (j : Int))])
      (fun j ds w' => ds = [] ∧ j ≤ G.length ∧ w'.ownsRow (r + 1) 28 2 (.slice sa G.length sc) G.length (G.flatMap GK) ∧ St w' sb kb wb room grace ((K.map (updX W now)).filter fun x => decide (x.1 ∉ G.take j)) W ∧ Keeps (fun q => q = kb ∨ ∃ x ∈ K, q = x.2.1) w w')
      (fun j => G.length - j) 0 ⟨rfl, Nat.zero_le _, hown5, (by rw [List.filter_eq_self.2 (by simp)]; exact hst5), hkw5⟩ ⟨rfl, rfl, rfl, rfl, rfl, trivial⟩ ?_
    rintro j ds f1 w6 ⟨rfl, hj, hown6, hst6, hkw6⟩
    try dsimp only at hst6 ⊢
    by_cases hjl : j < G.length
    · obtain ⟨k, hk⟩ : ∃ k, G[j]? = some k := ⟨G[j], by simp [hjl]⟩
      rcases own_cases hown6 with ⟨_, h0⟩ | ⟨bb, cap, hsl⟩
      · omega
      cases hsl
      obtain ⟨cur, hb6, hr6⟩ := own_at hown6
      (repeat first | apply wr_end | apply wc_seq | apply wc_region | apply wc_skip | apply wc_block | (apply wr_cmp; (iterate 3 exact rfl); exact cmpT (by dsimp only [cmpP]; first | done | omega)) | (apply wc_true; exact rfl))
      refine wr_indexAddr (i := j) rfl rfl rfl hjl ?_
      refine wr_loadElem (G := GK) (n := G.length) (l := G) rfl rfl GK_len rfl hb6 hr6 hjl hk rfl ?_
      (repeat first | (apply wr_alloc; exact rfl))
      refine wr_storeAll (cs := GK k) rfl rfl rfl (GK_one _) (heap_alloc_same _ _) rfl rfl ?_
      refine wr_name ?_
      intro wk hwwk
      obtain ⟨bwk, hbwk⟩ : ∃ b, b = (w6).heap.size := ⟨_, rfl⟩
      have hkwk : Keeps NoB w6 wk := by rw [hwwk]; exact ((Keeps.refl NoB w6).alloc _).put _ (fun h => by omega)
      have hcwk : (wk).heap[bwk]? = some (.cells (GK k).toArray 28 (0, 0)) := by rw [hwwk, hbwk]; exact World.putObj_heap_same (by simp)
      rw [← hbwk]
      clear hwwk
      have hstk := hst6.keep hkwk
      have hsk := hstk.cells
      have hk0 : ∀ {w'}, Keeps NoB wk.drew w' → Keeps NoB wk w' := fun hk => (Keeps.refl NoB wk).drew.trans hk
      (repeat first | apply wr_end)
      refine wc_drawP (l := _) 5 _ (by kernel_rfl) (by kernel_rfl) rfl (by kernel_rfl) (by kernel_rfl) (by decide) ?_
      apply chP_pure
      focus
        intro xx w' hk hF
        apply wr_move; exact rfl; with_reducible (conv => enter [6, 3]; whnf)
        apply wr_nil
        exact ⟨rfl, Keeps.refl _ _⟩
      focus (intro xx yy h; rfl)
      focus kernel_rfl
      apply chP_pure
      focus
        intro xx w' hk hF
        refine wr_nilCheck rfl rfl ?_
        apply wr_nil
        exact ⟨rfl, Keeps.refl _ _⟩
      focus (intro xx yy h; rfl)
      focus kernel_rfl
      apply chP_pure
      focus
        intro xx w' hk hF
        refine wr_fieldAddr rfl rfl ?_
        apply wr_nil
        exact ⟨rfl, Keeps.refl _ _⟩
      focus (intro xx yy h; rfl)
      focus kernel_rfl
      apply chP_pure
      focus
        intro xx w' hk hF
        refine wr_load (v := .map (some kb)) rfl rfl rfl ((hk0 hk).heap hsk (fun h => h)) rfl ?_
        apply wr_nil
        exact ⟨rfl, Keeps.refl _ _⟩
      focus (intro xx yy h; rfl)
      focus kernel_rfl
      apply chP_pure
      focus
        intro xx w' hk hF
        refine wr_loadAll (cs := GK k) rfl rfl rfl ((hk0 hk).heap hcwk (fun h => h)) rfl ?_
        apply wr_nil
        exact ⟨rfl, Keeps.refl _ _⟩
      focus (intro xx yy h; rfl)
      focus kernel_rfl
      refine chP_nil ?_
      intro xx w7 hk7' hF
      have hk7 := hk0 hk7'
      have hst7 := hstk.keep hk7
      refine wr_delete (l := mapL ptrE ((K.map (updX W now)).filter fun x => decide (x.1 ∉ G.take j))) (a := k) rfl rfl hst7.kept rfl ?_
      intro w8 hM8 hk8
      rw [← delL_map] at hM8
      have hde : delL ((K.map (updX W now)).filter fun x => decide (x.1 ∉ G.take j)) k = (K.map (updX W now)).filter fun x => decide (x.1 ∉ G.take (j + 1)) := by
        unfold delL
        rw [List.filter_filter]
        congr 1
        funext x
        rw [List.take_add_one, hk]
        simp [and_comm]
      rw [hde] at hM8
      have hst8 := hst7.kept_upd hM8 hk8 (fun x hx => by
        rw [← hde] at hx
        exact (List.mem_filter.1 hx).1)
      have hkbl := h.kept.lt
      (repeat first | (apply wr_move; exact rfl; with_reducible (conv => enter [6, 3]; whnf)) | apply wr_end | apply wc_region | (apply wr_add; (iterate 3 exact rfl); exact w_fit (by dsimp only [kIn]; first | done | omega)) | (apply wr_nil; try simp only [thenE, inBlockE, bodyQ]))
      exact ⟨j + 1, by omega, ⟨by trivial, by omega, own_keep (own_keep hown6 (hkwk.trans hk7) (fun _ _ h => h)) hk8 (fun q hq e => by have := (own_cell hown6 hq).1; omega), hst8, (hkw6.trans (hkwk.trans hk7).upD).trans (hk8.mono fun q _ e => .inl e)⟩, rfl, rfl, rfl, rfl, rfl, trivial⟩
    · have hje : j = G.length := by omega
      subst hje
      rw [List.take_length] at hst6
      (repeat first | (apply wr_move; exact rfl; with_reducible (conv => enter [6, 3]; whnf)) | apply wr_end | apply wc_seq | apply wc_region | (apply wr_cmp; (iterate 3 exact rfl); exact cmpF (by dsimp only [cmpN]; first | done | omega)) | (apply wc_false; exact rfl) | (apply wc_exit; try simp only [thenE, inBlockE, bodyQ, ↓reduceIte, Nat.reduceEqDiff]))
      refine wr_call (vs := [.slice sa G.length sc, .func (.func 28) #[] #[]]) rfl (kOrder_ca _ _ _ G w6 hown6 rfl hGl) rfl ?_
      rintro v w7 ⟨rfl, hk7⟩
      have hns : ∀ q, q < r + 1 → ¬ (Value.slice sa G.length sc).ownBlock = some q := fun q hq e => by have := (own_cell hown6 e).1; omega
      (repeat first | (apply wr_move; exact rfl; with_reducible (conv => enter [6, 3]; whnf)) | (apply wr_assign; exact rfl; with_reducible (conv => enter [6, 3]; whnf)) | apply wr_end | apply wc_seq | apply wc_region | (apply wc_ret; try simp only [thenE, inBlockE, bodyQ]))
      refine leave1 (v := .slice sa G.length sc) rfl rfl ⟨G, sa, sc, rfl, hp, St.keepLow h hst6 (fun x hx => by
        obtain ⟨y, hy, rfl⟩ := List.mem_map.1 (List.mem_filter.1 hx).1
        exact ⟨y, hy, rfl⟩) hk7 (fun q hq => hns q (by omega)), hkw6.trans' hk7 (fun q hq e => absurd e (hns q (by omega)))⟩
  · intro w5 i p hi hp hI5 hE5 hk5
    have hp' : ∃ x, K[i]? = some x ∧ p = (x.1, ptrE x.2) := by
      simp only [mapL, List.getElem?_map, Option.map_eq_some_iff] at hp
      obtain ⟨x, hx, rfl⟩ := hp
      exact ⟨x, hx, rfl⟩
    obtain ⟨x, hxi, rfl⟩ := hp'
    have hxK : x ∈ K := List.mem_of_getElem? hxi
    have hkx := hkl x hxK
    have hsx := hsn x hxK
    have hlen5 := iter_len hI5
    rw [List.length_append, hln] at hlen5
    simp only [List.length_singleton] at hlen5
    have hx1 : K1[i]? = some x := by rw [hU.2 i x hxi, if_neg hi]
    have hst5 : St w5 sb kb wb room grace K1 W := hst4.keepI hk5 (hrne (fun q e => e)).1 (hrne (fun q e => e)).2
    have hown5 := own_keep hown4 hk5 (fun q hq e => by have := (own_cell hown4 hq).1; omega)
    have hkw5 : Keeps (fun q => q = kb ∨ ∃ x ∈ K, q = x.2.1) w w5 := hkw4.trans' hk5 (fun q hq e => by omega)
    have hkey1 : ∀ y ∈ K1, y.1 = keyR y.2.2.1 := fun y hy => by
      obtain ⟨j, hj⟩ := List.getElem?_of_mem hy
      have hjl := (List.getElem?_eq_some_iff.1 hj).1
      obtain ⟨z, hz⟩ : ∃ z, K[j]? = some z := ⟨K[j]'(by rw [← hU.1]; exact hjl), by simp [show j < K.length by rw [← hU.1]; exact hjl]⟩
      have h2 := hU.2 j z hz
      rw [hj] at h2
      have h3 := hkey z (List.mem_of_getElem? hz)
      rw [Option.some.inj h2]
      split <;> exact h3
    have hnd1 : (K1.map (·.1)).Nodup := by
      have h2 := congrArg (List.map Prod.fst) hU.ptr
      rw [keys_map, keys_map] at h2
      rw [h2]; exact hnd
    (repeat first | apply wr_end | apply wc_seq | apply wc_region | apply wc_skip | apply wc_block | (apply wr_extract; (iterate 3 exact rfl); with_reducible (conv => enter [6, 3]; whnf)) | (apply wc_true; exact rfl))
    refine wr_entryM rfl rfl hE5 ?_
    (repeat first | (apply wr_alloc; exact rfl) | (apply wr_extract; (iterate 3 exact rfl); with_reducible (conv => enter [6, 3]; whnf)))
    refine wr_storeAll (cs := [.int .i64 x.1.1, S x.1.2]) rfl rfl rfl (by intro u hu; simp at hu; rcases hu with rfl | rfl <;> rfl) (heap_alloc_same _ _) rfl rfl ?_
    refine wr_name ?_
    intro w6 hww6
    obtain ⟨bw6, hbw6⟩ : ∃ b, b = (w5).heap.size := ⟨_, rfl⟩
    have hkw6 : Keeps NoB w5 w6 := by rw [hww6]; exact ((Keeps.refl NoB w5).alloc _).put _ (fun h => by omega)
    have hcw6 : (w6).heap[bw6]? = some (.cells ([.int .i64 x.1.1, S x.1.2]).toArray 28 (0, 0)) := by rw [hww6, hbw6]; exact World.putObj_heap_same (by simp)
    rw [← hbw6]
    clear hww6
    (repeat first | (apply wr_move; exact rfl; with_reducible (conv => enter [6, 3]; whnf)) | (apply wr_assign; exact rfl; with_reducible (conv => enter [6, 3]; whnf)) | apply wr_end | apply wc_seq | apply wc_region)
    refine wr_loadAll (cs := [.int .i64 x.1.1, S x.1.2]) rfl rfl rfl hcw6 rfl ?_
    refine wr_call (vs := [.pointer (some ⟨sb, 0, none⟩), encK x.1]) rfl (wanted_ca (hst5.keep hkw6) x.1 hkx) rfl ?_
    rintro v w7 ⟨rfl, hk7⟩
    have hk57 := hkw6.trans hk7
    have hst7 := hst5.keep hk57
    have hx7 := hst7.ents x (List.mem_of_getElem? hx1)
    have hebr : x.2.1 < r := by rw [hr]; exact lt_of_heap (h.ents _ hxK)
    obtain ⟨kx, eb, er, ei, es⟩ := x
    dsimp only at hkx hsx hcw6 hx7 hebr ⊢
    have hlx7 := lt_of_heap (hst5.ents _ (List.mem_of_getElem? hx1))
    dsimp only at hlx7
    have hs12 := hk5.size
    by_cases hwx : 0 < wantP W kx
    · skip
      (repeat first | (apply wr_move; exact rfl; with_reducible (conv => enter [6, 3]; whnf)) | (apply wr_assign; exact rfl; with_reducible (conv => enter [6, 3]; whnf)) | apply wr_end | apply wc_seq | apply wc_region | apply wc_skip | (apply wr_fieldAddr; iterate 2 exact rfl) | (apply wr_not; iterate 2 exact rfl) | (apply wr_nilCheck; iterate 2 exact rfl) | (apply wr_cmp; (iterate 3 exact rfl); exact cmpT (by dsimp only [cmpP]; first | done | omega)) | (apply wr_pick (t := false); (iterate 2 exact rfl); with_reducible (conv => enter [6, 3]; whnf)) | (apply wr_store; (iterate 3 exact rfl); (first | exact rfl | with_reducible assumption); (focus repeat first | with_reducible assumption | exact heap_alloc_same _ _ | exact World.putObj_heap_same (by first | omega | (simp only [World.size_alloc, World.putObj_size, ne_eq]; omega)) | ((first | refine hAl ?_ ?_ | refine hPu ?_ ?_); focus first | omega | (simp only [World.size_alloc, World.putObj_size, ne_eq]; omega))); exact rfl) | (apply wc_false; exact rfl) | (apply wr_skip; exact rfl))
      generalize hw8 : World.putObj w7 _ _ = w8
      have hx8 : w8.heap[eb]? = some (.cells (GE (er, false, es)).toArray 66 (0, 0)) := by rw [← hw8]; exact World.putObj_heap_same (lt_of_heap hx7)
      have hk78 : Keeps (· = eb) w7 w8 := by rw [← hw8]; exact (Keeps.refl _ w7).put _ (fun _ => rfl)
      clear hw8
      have hst8 : St w8 sb kb wb room grace (K1.set i (updX W now (kx, eb, er, ei, es))) W := by
        have := hst7.updK hkey1 hnd1 hx1 (e := (er, false, es)) hx8 hk78
        have e : updX W now (kx, eb, er, ei, es) = (kx, eb, er, false, es) := by simp [updX, sinceX, hwx]
        rw [e]; exact this
      have hI8 := (hI5.keep hk57 (fun h => h) (fun h => h)).keep hk78 (fun e => (iter_ne (hI5.keep hk57 (fun h => h) (fun h => h)) hx7).1 e.symm) (fun e => (iter_ne (hI5.keep hk57 (fun h => h) (fun h => h)) hx7).2 e.symm)
      have hown8 : w8.ownsRow (r + 1) 28 2 ov (outF K (goneX W grace now) idx).length ((outF K (goneX W grace now) idx).flatMap GK) := own_keep (own_keep hown5 hk57 (fun _ _ h => h)) hk78 (fun q hq e => by have := (own_cell hown4 hq).1; omega)
      have hkw8 : Keeps (fun q => q = kb ∨ ∃ x ∈ K, q = x.2.1) w w8 := (hkw5.trans hk57.upD).trans (hk78.mono fun q _ e => .inr ⟨_, hxK, e⟩)
      have hs8 := hst8.cells
      have hx8d : w8.drew.heap[eb]? = _ := hx8
      have hs8d : w8.drew.heap[sb]? = _ := hs8
      have hc8 := hk78.heap (hk7.heap hcw6 (fun h => h)) (fun e => by omega)
      skip
      refine wc_drawS (l := _) (S := fun w' => w' = w8.drew) (by kernel_rfl) (by kernel_rfl) rfl ?_
      repeat
        apply ch_step
        focus
          intro w' hS
          subst hS
          (repeat first | (apply wr_move; exact rfl; with_reducible (conv => enter [6, 3]; whnf)) | (apply wr_fieldAddr; iterate 2 exact rfl) | (apply wr_nilCheck; iterate 2 exact rfl) | (apply wr_load; (iterate 3 exact rfl); (focus repeat first | with_reducible assumption | exact heap_alloc_same _ _ | exact World.putObj_heap_same (by first | omega | (simp only [World.size_alloc, World.putObj_size, ne_eq]; omega)) | ((first | refine hAl ?_ ?_ | refine hPu ?_ ?_); focus first | omega | (simp only [World.size_alloc, World.putObj_size, ne_eq]; omega))); exact rfl; conv => enter [6, 3]; whnf) | (apply wr_pick (t := false); (iterate 2 exact rfl); with_reducible (conv => enter [6, 3]; whnf)) | (apply wr_nil; try simp only [thenE, inBlockE, bodyQ]) | (apply wr_skip; exact rfl))
          exact ⟨rfl, by trivial⟩
      refine ch_nil ?_
      intro w' hS
      subst hS
      have hc8d : w8.drew.heap[bw6]? = _ := hc8
      have hoi : outF K (goneX W grace now) (idx ++ [i]) = outF K (goneX W grace now) idx := by rw [outF_app]; simp [outF, hxi, goneX, sinceX, hwx]
      (repeat first | apply wc_skip | (apply wc_false; exact rfl))
      refine ⟨(idx ++ [i], ov, K1.set i (updX W now (kx, eb, er, ei, es))), by simp only [List.length_append, List.length_singleton]; omega, ⟨by trivial, hI8.keep (Keeps.refl NoB w8).drew (fun h => h) (fun h => h), ?_, hst8.drew, hU.step hxi, hkw8.drew⟩, rfl, rfl, rfl, rfl, trivial⟩
      dsimp only
      rw [hoi]
      exact own_keep hown8 (Keeps.refl NoB w8).drew (fun _ _ h => h)
    · cases ei with
      | true =>
        (repeat first | (apply wr_move; exact rfl; with_reducible (conv => enter [6, 3]; whnf)) | (apply wr_assign; exact rfl; with_reducible (conv => enter [6, 3]; whnf)) | apply wr_end | apply wc_seq | apply wc_region | apply wc_skip | (apply wr_fieldAddr; iterate 2 exact rfl) | (apply wr_not; iterate 2 exact rfl) | (apply wr_nilCheck; iterate 2 exact rfl) | (apply wr_load; (iterate 3 exact rfl); (focus repeat first | with_reducible assumption | exact heap_alloc_same _ _ | exact World.putObj_heap_same (by first | omega | (simp only [World.size_alloc, World.putObj_size, ne_eq]; omega)) | ((first | refine hAl ?_ ?_ | refine hPu ?_ ?_); focus first | omega | (simp only [World.size_alloc, World.putObj_size, ne_eq]; omega))); exact rfl; conv => enter [6, 3]; whnf) | (apply wr_cmp; (iterate 3 exact rfl); exact cmpF (by dsimp only [cmpN]; first | done | omega)) | (apply wr_pick (t := true); (iterate 2 exact rfl); with_reducible (conv => enter [6, 3]; whnf)) | (apply wr_store; (iterate 3 exact rfl); (first | exact rfl | with_reducible assumption); (focus repeat first | with_reducible assumption | exact heap_alloc_same _ _ | exact World.putObj_heap_same (by first | omega | (simp only [World.size_alloc, World.putObj_size, ne_eq]; omega)) | ((first | refine hAl ?_ ?_ | refine hPu ?_ ?_); focus first | omega | (simp only [World.size_alloc, World.putObj_size, ne_eq]; omega))); exact rfl) | (apply wc_false; exact rfl))
        generalize hw8 : World.putObj w7 _ _ = w8
        have hx8 : w8.heap[eb]? = some (.cells (GE (er, true, es)).toArray 66 (0, 0)) := by rw [← hw8]; exact World.putObj_heap_same (lt_of_heap hx7)
        have hk78 : Keeps (· = eb) w7 w8 := by rw [← hw8]; exact (Keeps.refl _ w7).put _ (fun _ => rfl)
        clear hw8
        by_cases g1 : es ≤ now
        · by_cases g2 : grace ≤ now - es
          · skip
            have hst8 : St w8 sb kb wb room grace (K1.set i (updX W now (kx, eb, er, true, es))) W := by
              have := hst7.updK hkey1 hnd1 hx1 (e := (er, true, es)) hx8 hk78
              have e : updX W now (kx, eb, er, true, es) = (kx, eb, er, true, es) := by simp [updX, sinceX, hwx]
              rw [e]; exact this
            have hI8 := (hI5.keep hk57 (fun h => h) (fun h => h)).keep hk78 (fun e => (iter_ne (hI5.keep hk57 (fun h => h) (fun h => h)) hx7).1 e.symm) (fun e => (iter_ne (hI5.keep hk57 (fun h => h) (fun h => h)) hx7).2 e.symm)
            have hown8 : w8.ownsRow (r + 1) 28 2 ov (outF K (goneX W grace now) idx).length ((outF K (goneX W grace now) idx).flatMap GK) := own_keep (own_keep hown5 hk57 (fun _ _ h => h)) hk78 (fun q hq e => by have := (own_cell hown4 hq).1; omega)
            have hkw8 : Keeps (fun q => q = kb ∨ ∃ x ∈ K, q = x.2.1) w w8 := (hkw5.trans hk57.upD).trans (hk78.mono fun q _ e => .inr ⟨_, hxK, e⟩)
            have hs8 := hst8.cells
            have hx8d : w8.drew.heap[eb]? = _ := hx8
            have hs8d : w8.drew.heap[sb]? = _ := hs8
            have hc8 := hk78.heap (hk7.heap hcw6 (fun h => h)) (fun e => by omega)
            skip
            refine wc_drawS (l := _) (S := fun w' => w' = w8.drew) (by kernel_rfl) (by kernel_rfl) rfl ?_
            repeat
              apply ch_step
              focus
                intro w' hS
                subst hS
                (repeat first | (apply wr_move; exact rfl; with_reducible (conv => enter [6, 3]; whnf)) | (apply wr_fieldAddr; iterate 2 exact rfl) | (apply wr_nilCheck; iterate 2 exact rfl) | (apply wr_load; (iterate 3 exact rfl); (focus repeat first | with_reducible assumption | exact heap_alloc_same _ _ | exact World.putObj_heap_same (by first | omega | (simp only [World.size_alloc, World.putObj_size, ne_eq]; omega)) | ((first | refine hAl ?_ ?_ | refine hPu ?_ ?_); focus first | omega | (simp only [World.size_alloc, World.putObj_size, ne_eq]; omega))); exact rfl; conv => enter [6, 3]; whnf) | (apply wr_cmp; (iterate 3 exact rfl); exact cmpT (by dsimp only [cmpP]; first | done | omega)) | (apply wr_pick (t := true); (iterate 2 exact rfl); with_reducible (conv => enter [6, 3]; whnf)) | (apply wr_sub; (iterate 3 exact rfl); exact w_fit (by dsimp only [kIn]; first | done | omega)) | (apply wr_nil; try simp only [thenE, inBlockE, bodyQ]))
                exact ⟨rfl, by trivial⟩
            refine ch_nil ?_
            intro w' hS
            subst hS
            have hc8d : w8.drew.heap[bw6]? = _ := hc8
            have hoi : outF K (goneX W grace now) (idx ++ [i]) = outF K (goneX W grace now) idx ++ [kx] := by rw [outF_app]; simp [outF, hxi, goneX, sinceX, hwx, g1, g2]
            have hle : (outF K (goneX W grace now) idx).length ≤ idx.length := List.length_filterMap_le _ _
            (repeat first | (apply wr_move; exact rfl; with_reducible (conv => enter [6, 3]; whnf)) | apply wc_region | (apply wc_true; exact rfl))
            refine wr_loadAll (cs := [.int .i64 kx.1, S kx.2]) rfl rfl rfl hc8d rfl ?_
            refine wr_buildSlice (vs := [encK kx]) rfl rfl (by intro v hv; simp at hv; subst hv; rfl) rfl (by decide) (by decide) (by decide) ?_
            refine wr_append (v := ov) (n := (outF K (goneX W grace now) idx).length) (m := 1) (news := GK kx) rfl rfl (own_keep hown8 ((Keeps.refl NoB w8).drew.alloc _) (fun _ _ h => h)) rfl (heap_alloc_same _ _) rfl (GK_one _) rfl (by decide) (by omega) (by omega) (by have := hkw8.size; have := hk78.size; have := hk57.size; have := hk5.size; simp; omega) ?_
            intro ov' w10 hown10 hk10 _
            have hk810 : Keeps (fun q => ov.ownBlock = some q) w8 w10 := (((Keeps.refl NoB w8).drew.alloc _).upD).trans hk10
            have hns : ∀ q, q < r + 1 → ¬ ov.ownBlock = some q := fun q hq e => by have := (own_cell hown4 e).1; omega
            have hkbl := h.kept.lt
            (repeat first | (apply wr_assign; exact rfl; with_reducible (conv => enter [6, 3]; whnf)) | (apply wr_nil; try simp only [thenE, inBlockE, bodyQ]))
            refine ⟨(idx ++ [i], ov', K1.set i (updX W now (kx, eb, er, true, es))), by simp only [List.length_append, List.length_singleton]; omega, ⟨by trivial, hI8.keep hk810 (hns r (by omega)) (hns kb (by omega)), ?_, ?_, hU.step hxi, hkw8.trans' hk810 (fun q hq e => absurd e (hns q (by omega)))⟩, rfl, rfl, rfl, rfl, trivial⟩
            focus
              dsimp only
              rw [hoi, List.length_append, List.flatMap_append]
              simpa using hown10
            exact St.keepLow h hst8 (hU.step hxi).sub hk810 (fun q hq => hns q (by omega))
          · skip
            have hst8 : St w8 sb kb wb room grace (K1.set i (updX W now (kx, eb, er, true, es))) W := by
              have := hst7.updK hkey1 hnd1 hx1 (e := (er, true, es)) hx8 hk78
              have e : updX W now (kx, eb, er, true, es) = (kx, eb, er, true, es) := by simp [updX, sinceX, hwx]
              rw [e]; exact this
            have hI8 := (hI5.keep hk57 (fun h => h) (fun h => h)).keep hk78 (fun e => (iter_ne (hI5.keep hk57 (fun h => h) (fun h => h)) hx7).1 e.symm) (fun e => (iter_ne (hI5.keep hk57 (fun h => h) (fun h => h)) hx7).2 e.symm)
            have hown8 : w8.ownsRow (r + 1) 28 2 ov (outF K (goneX W grace now) idx).length ((outF K (goneX W grace now) idx).flatMap GK) := own_keep (own_keep hown5 hk57 (fun _ _ h => h)) hk78 (fun q hq e => by have := (own_cell hown4 hq).1; omega)
            have hkw8 : Keeps (fun q => q = kb ∨ ∃ x ∈ K, q = x.2.1) w w8 := (hkw5.trans hk57.upD).trans (hk78.mono fun q _ e => .inr ⟨_, hxK, e⟩)
            have hs8 := hst8.cells
            have hx8d : w8.drew.heap[eb]? = _ := hx8
            have hs8d : w8.drew.heap[sb]? = _ := hs8
            have hc8 := hk78.heap (hk7.heap hcw6 (fun h => h)) (fun e => by omega)
            skip
            refine wc_drawS (l := _) (S := fun w' => w' = w8.drew) (by kernel_rfl) (by kernel_rfl) rfl ?_
            repeat
              apply ch_step
              focus
                intro w' hS
                subst hS
                (repeat first | (apply wr_move; exact rfl; with_reducible (conv => enter [6, 3]; whnf)) | (apply wr_fieldAddr; iterate 2 exact rfl) | (apply wr_nilCheck; iterate 2 exact rfl) | (apply wr_load; (iterate 3 exact rfl); (focus repeat first | with_reducible assumption | exact heap_alloc_same _ _ | exact World.putObj_heap_same (by first | omega | (simp only [World.size_alloc, World.putObj_size, ne_eq]; omega)) | ((first | refine hAl ?_ ?_ | refine hPu ?_ ?_); focus first | omega | (simp only [World.size_alloc, World.putObj_size, ne_eq]; omega))); exact rfl; conv => enter [6, 3]; whnf) | (apply wr_cmp; (iterate 3 exact rfl); exact cmpT (by dsimp only [cmpP]; first | done | omega)) | (apply wr_cmp; (iterate 3 exact rfl); exact cmpF (by dsimp only [cmpN]; first | done | omega)) | (apply wr_pick (t := true); (iterate 2 exact rfl); with_reducible (conv => enter [6, 3]; whnf)) | (apply wr_sub; (iterate 3 exact rfl); exact w_fit (by dsimp only [kIn]; first | done | omega)) | (apply wr_nil; try simp only [thenE, inBlockE, bodyQ]))
                exact ⟨rfl, by trivial⟩
            refine ch_nil ?_
            intro w' hS
            subst hS
            have hc8d : w8.drew.heap[bw6]? = _ := hc8
            have hoi : outF K (goneX W grace now) (idx ++ [i]) = outF K (goneX W grace now) idx := by rw [outF_app]; simp [outF, hxi, goneX, sinceX, hwx, g1, g2]
            (repeat first | apply wc_skip | (apply wc_false; exact rfl))
            refine ⟨(idx ++ [i], ov, K1.set i (updX W now (kx, eb, er, true, es))), by simp only [List.length_append, List.length_singleton]; omega, ⟨by trivial, hI8.keep (Keeps.refl NoB w8).drew (fun h => h) (fun h => h), ?_, hst8.drew, hU.step hxi, hkw8.drew⟩, rfl, rfl, rfl, rfl, trivial⟩
            dsimp only
            rw [hoi]
            exact own_keep hown8 (Keeps.refl NoB w8).drew (fun _ _ h => h)
        · skip
          have hst8 : St w8 sb kb wb room grace (K1.set i (updX W now (kx, eb, er, true, es))) W := by
            have := hst7.updK hkey1 hnd1 hx1 (e := (er, true, es)) hx8 hk78
            have e : updX W now (kx, eb, er, true, es) = (kx, eb, er, true, es) := by simp [updX, sinceX, hwx]
            rw [e]; exact this
          have hI8 := (hI5.keep hk57 (fun h => h) (fun h => h)).keep hk78 (fun e => (iter_ne (hI5.keep hk57 (fun h => h) (fun h => h)) hx7).1 e.symm) (fun e => (iter_ne (hI5.keep hk57 (fun h => h) (fun h => h)) hx7).2 e.symm)
          have hown8 : w8.ownsRow (r + 1) 28 2 ov (outF K (goneX W grace now) idx).length ((outF K (goneX W grace now) idx).flatMap GK) := own_keep (own_keep hown5 hk57 (fun _ _ h => h)) hk78 (fun q hq e => by have := (own_cell hown4 hq).1; omega)
          have hkw8 : Keeps (fun q => q = kb ∨ ∃ x ∈ K, q = x.2.1) w w8 := (hkw5.trans hk57.upD).trans (hk78.mono fun q _ e => .inr ⟨_, hxK, e⟩)
          have hs8 := hst8.cells
          have hx8d : w8.drew.heap[eb]? = _ := hx8
          have hs8d : w8.drew.heap[sb]? = _ := hs8
          have hc8 := hk78.heap (hk7.heap hcw6 (fun h => h)) (fun e => by omega)
          skip
          refine wc_drawS (l := _) (S := fun w' => w' = w8.drew) (by kernel_rfl) (by kernel_rfl) rfl ?_
          repeat
            apply ch_step
            focus
              intro w' hS
              subst hS
              (repeat first | (apply wr_move; exact rfl; with_reducible (conv => enter [6, 3]; whnf)) | (apply wr_fieldAddr; iterate 2 exact rfl) | (apply wr_nilCheck; iterate 2 exact rfl) | (apply wr_load; (iterate 3 exact rfl); (focus repeat first | with_reducible assumption | exact heap_alloc_same _ _ | exact World.putObj_heap_same (by first | omega | (simp only [World.size_alloc, World.putObj_size, ne_eq]; omega)) | ((first | refine hAl ?_ ?_ | refine hPu ?_ ?_); focus first | omega | (simp only [World.size_alloc, World.putObj_size, ne_eq]; omega))); exact rfl; conv => enter [6, 3]; whnf) | (apply wr_cmp; (iterate 3 exact rfl); exact cmpF (by dsimp only [cmpN]; first | done | omega)) | (apply wr_pick (t := true); (iterate 2 exact rfl); with_reducible (conv => enter [6, 3]; whnf)) | (apply wr_pick (t := false); (iterate 2 exact rfl); with_reducible (conv => enter [6, 3]; whnf)) | (apply wr_nil; try simp only [thenE, inBlockE, bodyQ]) | (apply wr_skip; exact rfl))
              exact ⟨rfl, by trivial⟩
          refine ch_nil ?_
          intro w' hS
          subst hS
          have hc8d : w8.drew.heap[bw6]? = _ := hc8
          have hoi : outF K (goneX W grace now) (idx ++ [i]) = outF K (goneX W grace now) idx := by rw [outF_app]; simp [outF, hxi, goneX, sinceX, hwx, g1]
          (repeat first | apply wc_skip | (apply wc_false; exact rfl))
          refine ⟨(idx ++ [i], ov, K1.set i (updX W now (kx, eb, er, true, es))), by simp only [List.length_append, List.length_singleton]; omega, ⟨by trivial, hI8.keep (Keeps.refl NoB w8).drew (fun h => h) (fun h => h), ?_, hst8.drew, hU.step hxi, hkw8.drew⟩, rfl, rfl, rfl, rfl, trivial⟩
          dsimp only
          rw [hoi]
          exact own_keep hown8 (Keeps.refl NoB w8).drew (fun _ _ h => h)
      | false =>
        (repeat first | (apply wr_move; exact rfl; with_reducible (conv => enter [6, 3]; whnf)) | (apply wr_assign; exact rfl; with_reducible (conv => enter [6, 3]; whnf)) | apply wr_end | apply wc_seq | apply wc_region | (apply wr_fieldAddr; iterate 2 exact rfl) | (apply wr_not; iterate 2 exact rfl) | (apply wr_nilCheck; iterate 2 exact rfl) | (apply wr_load; (iterate 3 exact rfl); (focus repeat first | with_reducible assumption | exact heap_alloc_same _ _ | exact World.putObj_heap_same (by first | omega | (simp only [World.size_alloc, World.putObj_size, ne_eq]; omega)) | ((first | refine hAl ?_ ?_ | refine hPu ?_ ?_); focus first | omega | (simp only [World.size_alloc, World.putObj_size, ne_eq]; omega))); exact rfl; conv => enter [6, 3]; whnf) | (apply wr_cmp; (iterate 3 exact rfl); exact cmpF (by dsimp only [cmpN]; first | done | omega)) | (apply wr_pick (t := true); (iterate 2 exact rfl); with_reducible (conv => enter [6, 3]; whnf)) | (apply wr_store; (iterate 3 exact rfl); (first | exact rfl | with_reducible assumption); (focus repeat first | with_reducible assumption | exact heap_alloc_same _ _ | exact World.putObj_heap_same (by first | omega | (simp only [World.size_alloc, World.putObj_size, ne_eq]; omega)) | ((first | refine hAl ?_ ?_ | refine hPu ?_ ?_); focus first | omega | (simp only [World.size_alloc, World.putObj_size, ne_eq]; omega))); exact rfl) | (apply wc_true; exact rfl))
        generalize hw8' : World.putObj w7 _ _ = w7'
        have hx7' : w7'.heap[eb]? = some (.cells (GE (er, false, now)).toArray 66 (0, 0)) := by rw [← hw8']; exact World.putObj_heap_same (lt_of_heap hx7)
        have hk77 : Keeps (· = eb) w7 w7' := by rw [← hw8']; exact (Keeps.refl _ w7).put _ (fun _ => rfl)
        clear hw8'
        (repeat first | apply wr_end | apply wc_seq | (apply wr_store; (iterate 3 exact rfl); (first | exact rfl | with_reducible assumption); (focus repeat first | with_reducible assumption | exact heap_alloc_same _ _ | exact World.putObj_heap_same (by first | omega | (simp only [World.size_alloc, World.putObj_size, ne_eq]; omega)) | ((first | refine hAl ?_ ?_ | refine hPu ?_ ?_); focus first | omega | (simp only [World.size_alloc, World.putObj_size, ne_eq]; omega))); exact rfl))
        generalize hw8 : World.putObj w7' _ _ = w8
        have hx8 : w8.heap[eb]? = some (.cells (GE (er, true, now)).toArray 66 (0, 0)) := by rw [← hw8]; exact World.putObj_heap_same (lt_of_heap hx7')
        have hk78 : Keeps (· = eb) w7 w8 := hk77.trans (by rw [← hw8]; exact (Keeps.refl _ w7').put _ (fun _ => rfl))
        clear hw8
        by_cases g2 : grace = 0
        · skip
          have hst8 : St w8 sb kb wb room grace (K1.set i (updX W now (kx, eb, er, false, es))) W := by
            have := hst7.updK hkey1 hnd1 hx1 (e := (er, true, now)) hx8 hk78
            have e : updX W now (kx, eb, er, false, es) = (kx, eb, er, true, now) := by simp [updX, sinceX, hwx]
            rw [e]; exact this
          have hI8 := (hI5.keep hk57 (fun h => h) (fun h => h)).keep hk78 (fun e => (iter_ne (hI5.keep hk57 (fun h => h) (fun h => h)) hx7).1 e.symm) (fun e => (iter_ne (hI5.keep hk57 (fun h => h) (fun h => h)) hx7).2 e.symm)
          have hown8 : w8.ownsRow (r + 1) 28 2 ov (outF K (goneX W grace now) idx).length ((outF K (goneX W grace now) idx).flatMap GK) := own_keep (own_keep hown5 hk57 (fun _ _ h => h)) hk78 (fun q hq e => by have := (own_cell hown4 hq).1; omega)
          have hkw8 : Keeps (fun q => q = kb ∨ ∃ x ∈ K, q = x.2.1) w w8 := (hkw5.trans hk57.upD).trans (hk78.mono fun q _ e => .inr ⟨_, hxK, e⟩)
          have hs8 := hst8.cells
          have hx8d : w8.drew.heap[eb]? = _ := hx8
          have hs8d : w8.drew.heap[sb]? = _ := hs8
          have hc8 := hk78.heap (hk7.heap hcw6 (fun h => h)) (fun e => by omega)
          skip
          refine wc_drawS (l := _) (S := fun w' => w' = w8.drew) (by kernel_rfl) (by kernel_rfl) rfl ?_
          repeat
            apply ch_step
            focus
              intro w' hS
              subst hS
              (repeat first | (apply wr_move; exact rfl; with_reducible (conv => enter [6, 3]; whnf)) | (apply wr_fieldAddr; iterate 2 exact rfl) | (apply wr_nilCheck; iterate 2 exact rfl) | (apply wr_load; (iterate 3 exact rfl); (focus repeat first | with_reducible assumption | exact heap_alloc_same _ _ | exact World.putObj_heap_same (by first | omega | (simp only [World.size_alloc, World.putObj_size, ne_eq]; omega)) | ((first | refine hAl ?_ ?_ | refine hPu ?_ ?_); focus first | omega | (simp only [World.size_alloc, World.putObj_size, ne_eq]; omega))); exact rfl; conv => enter [6, 3]; whnf) | (apply wr_cmp; (iterate 3 exact rfl); exact cmpT (by dsimp only [cmpP]; first | done | omega)) | (apply wr_pick (t := true); (iterate 2 exact rfl); with_reducible (conv => enter [6, 3]; whnf)) | (apply wr_sub; (iterate 3 exact rfl); exact w_fit (by dsimp only [kIn]; first | done | omega)) | (apply wr_nil; try simp only [thenE, inBlockE, bodyQ]))
              exact ⟨rfl, by trivial⟩
          refine ch_nil ?_
          intro w' hS
          subst hS
          have hc8d : w8.drew.heap[bw6]? = _ := hc8
          have hoi : outF K (goneX W grace now) (idx ++ [i]) = outF K (goneX W grace now) idx ++ [kx] := by rw [outF_app]; simp [outF, hxi, goneX, sinceX, hwx, g2]
          have hle : (outF K (goneX W grace now) idx).length ≤ idx.length := List.length_filterMap_le _ _
          (repeat first | (apply wr_move; exact rfl; with_reducible (conv => enter [6, 3]; whnf)) | apply wc_region | (apply wc_true; exact rfl))
          refine wr_loadAll (cs := [.int .i64 kx.1, S kx.2]) rfl rfl rfl hc8d rfl ?_
          refine wr_buildSlice (vs := [encK kx]) rfl rfl (by intro v hv; simp at hv; subst hv; rfl) rfl (by decide) (by decide) (by decide) ?_
          refine wr_append (v := ov) (n := (outF K (goneX W grace now) idx).length) (m := 1) (news := GK kx) rfl rfl (own_keep hown8 ((Keeps.refl NoB w8).drew.alloc _) (fun _ _ h => h)) rfl (heap_alloc_same _ _) rfl (GK_one _) rfl (by decide) (by omega) (by omega) (by have := hkw8.size; have := hk78.size; have := hk57.size; have := hk5.size; simp; omega) ?_
          intro ov' w10 hown10 hk10 _
          have hk810 : Keeps (fun q => ov.ownBlock = some q) w8 w10 := (((Keeps.refl NoB w8).drew.alloc _).upD).trans hk10
          have hns : ∀ q, q < r + 1 → ¬ ov.ownBlock = some q := fun q hq e => by have := (own_cell hown4 e).1; omega
          have hkbl := h.kept.lt
          (repeat first | (apply wr_assign; exact rfl; with_reducible (conv => enter [6, 3]; whnf)) | (apply wr_nil; try simp only [thenE, inBlockE, bodyQ]))
          refine ⟨(idx ++ [i], ov', K1.set i (updX W now (kx, eb, er, false, es))), by simp only [List.length_append, List.length_singleton]; omega, ⟨by trivial, hI8.keep hk810 (hns r (by omega)) (hns kb (by omega)), ?_, ?_, hU.step hxi, hkw8.trans' hk810 (fun q hq e => absurd e (hns q (by omega)))⟩, rfl, rfl, rfl, rfl, trivial⟩
          focus
            dsimp only
            rw [hoi, List.length_append, List.flatMap_append]
            simpa using hown10
          exact St.keepLow h hst8 (hU.step hxi).sub hk810 (fun q hq => hns q (by omega))
        · skip
          have hst8 : St w8 sb kb wb room grace (K1.set i (updX W now (kx, eb, er, false, es))) W := by
            have := hst7.updK hkey1 hnd1 hx1 (e := (er, true, now)) hx8 hk78
            have e : updX W now (kx, eb, er, false, es) = (kx, eb, er, true, now) := by simp [updX, sinceX, hwx]
            rw [e]; exact this
          have hI8 := (hI5.keep hk57 (fun h => h) (fun h => h)).keep hk78 (fun e => (iter_ne (hI5.keep hk57 (fun h => h) (fun h => h)) hx7).1 e.symm) (fun e => (iter_ne (hI5.keep hk57 (fun h => h) (fun h => h)) hx7).2 e.symm)
          have hown8 : w8.ownsRow (r + 1) 28 2 ov (outF K (goneX W grace now) idx).length ((outF K (goneX W grace now) idx).flatMap GK) := own_keep (own_keep hown5 hk57 (fun _ _ h => h)) hk78 (fun q hq e => by have := (own_cell hown4 hq).1; omega)
          have hkw8 : Keeps (fun q => q = kb ∨ ∃ x ∈ K, q = x.2.1) w w8 := (hkw5.trans hk57.upD).trans (hk78.mono fun q _ e => .inr ⟨_, hxK, e⟩)
          have hs8 := hst8.cells
          have hx8d : w8.drew.heap[eb]? = _ := hx8
          have hs8d : w8.drew.heap[sb]? = _ := hs8
          have hc8 := hk78.heap (hk7.heap hcw6 (fun h => h)) (fun e => by omega)
          skip
          refine wc_drawS (l := _) (S := fun w' => w' = w8.drew) (by kernel_rfl) (by kernel_rfl) rfl ?_
          repeat
            apply ch_step
            focus
              intro w' hS
              subst hS
              (repeat first | (apply wr_move; exact rfl; with_reducible (conv => enter [6, 3]; whnf)) | (apply wr_fieldAddr; iterate 2 exact rfl) | (apply wr_nilCheck; iterate 2 exact rfl) | (apply wr_load; (iterate 3 exact rfl); (focus repeat first | with_reducible assumption | exact heap_alloc_same _ _ | exact World.putObj_heap_same (by first | omega | (simp only [World.size_alloc, World.putObj_size, ne_eq]; omega)) | ((first | refine hAl ?_ ?_ | refine hPu ?_ ?_); focus first | omega | (simp only [World.size_alloc, World.putObj_size, ne_eq]; omega))); exact rfl; conv => enter [6, 3]; whnf) | (apply wr_cmp; (iterate 3 exact rfl); exact cmpT (by dsimp only [cmpP]; first | done | omega)) | (apply wr_cmp; (iterate 3 exact rfl); exact cmpF (by dsimp only [cmpN]; first | done | omega)) | (apply wr_pick (t := true); (iterate 2 exact rfl); with_reducible (conv => enter [6, 3]; whnf)) | (apply wr_sub; (iterate 3 exact rfl); exact w_fit (by dsimp only [kIn]; first | done | omega)) | (apply wr_nil; try simp only [thenE, inBlockE, bodyQ]))
              exact ⟨rfl, by trivial⟩
          refine ch_nil ?_
          intro w' hS
          subst hS
          have hc8d : w8.drew.heap[bw6]? = _ := hc8
          have hoi : outF K (goneX W grace now) (idx ++ [i]) = outF K (goneX W grace now) idx := by rw [outF_app]; simp [outF, hxi, goneX, sinceX, hwx, g2]
          (repeat first | apply wc_skip | (apply wc_false; exact rfl))
          refine ⟨(idx ++ [i], ov, K1.set i (updX W now (kx, eb, er, false, es))), by simp only [List.length_append, List.length_singleton]; omega, ⟨by trivial, hI8.keep (Keeps.refl NoB w8).drew (fun h => h) (fun h => h), ?_, hst8.drew, hU.step hxi, hkw8.drew⟩, rfl, rfl, rfl, rfl, trivial⟩
          dsimp only
          rw [hoi]
          exact own_keep hown8 (Keeps.refl NoB w8).drew (fun _ _ h => h)
end Go.Proofs.YtafnbbehmbmchaaDoor
