/- StoreNewer. -/
import Derived.Test.YtafnbbehmbmchaaDoorSl
namespace Go.Proofs.YtafnbbehmbmchaaDoor
open Go Go.V Go.RowKit
set_option linter.unusedVariables false
set_option linter.unusedSimpArgs false

theorem getL_put_same {β : Type} (L : List (KY × β)) (k : KY) (y : β) : getL (putL L k y) k = some y := by rw [getL_put, if_pos rfl]
theorem putL_len {β : Type} (L : List (KY × β)) (k : KY) (y : β) : (putL L k y).length ≤ L.length + 1 := by
  unfold putL
  split <;> simp
theorem rkc (r : RD) (j : Nat) (u : Value) (h : ([.int .i64 r.1, S r.2.1] : List Value)[j]? = some u) : (GRd r).toArray[j]? = some u := by
  match j, h with
  | 0, h => exact h
  | 1, h => exact h
  | j + 2, h => simp at h
theorem GTh_one (x : TH) : ∀ u ∈ GTh x, u.oneCell' = true := by
  intro u hu
  simp only [GTh, List.mem_append, List.mem_cons, List.not_mem_nil, or_false] at hu
  rcases hu with h | rfl | rfl
  · exact GRd_one _ u h
  · rfl
  · rfl
/- Up to Put: the thing's resource r in block bwr, the old one in block bwo. -/
/- Behind a Put that kept r. -/
set_option maxRecDepth 100000 in
set_option maxHeartbeats 8000000 in
theorem newer_law (L : List TH) (v0 : Value) (w : World) (hv : SlR w 7 v0 L.length (L.flatMap GTh)) (hL : ∀ x ∈ L, thOk x) :
    Ca Tryd.prog 3 #[v0] w fun v w' => v = .bool true ∧ Keeps NoB w w' := by
  obtain ⟨va, vc, rfl, hvl, hvm⟩ := hv.shape
  refine ca_of_body (args := [.slice va L.length vc]) Tryd.func3 rfl (by kernel_rfl) ?_
  (repeat first | (apply wr_assign; exact rfl; with_reducible (conv => enter [6, 3]; whnf)) | apply wr_end | apply wc_seq | apply wc_region)
  refine wr_call (vs := []) rfl (examples_ca w) rfl ?_
  rintro v w1 ⟨rfl, hk1⟩
  (repeat first | (apply wr_move; exact rfl; with_reducible (conv => enter [6, 3]; whnf)) | (apply wr_assign; exact rfl; with_reducible (conv => enter [6, 3]; whnf)) | apply wr_end | apply wc_seq | apply wc_region | apply wc_skip | (apply wr_not; iterate 2 exact rfl) | (apply wc_false; exact rfl))
  refine wr_call (vs := [.int .i64 100, .int .u64 5]) rfl (new_ca 100 (by decide) 5 w1) rfl ?_
  rintro v w2 ⟨sb, kb, wb, rfl, h2, hk2, hs1, hs2, hs3⟩
  have hro : roomOf 100 = 100 := by decide
  rw [hro] at h2
  (repeat first | (apply wr_move; exact rfl; with_reducible (conv => enter [6, 3]; whnf)) | (apply wr_assign; exact rfl; with_reducible (conv => enter [6, 3]; whnf)) | apply wr_end | apply wc_seq | apply wc_region)
  refine wr_ptrNil rfl rfl ?_
  (repeat first | (apply wr_assign; exact rfl; with_reducible (conv => enter [6, 3]; whnf)) | apply wr_end | apply wc_seq | apply wc_region | apply wc_skip | apply wc_block | (apply wc_false; exact rfl))
  have hz1 := hk1.size
  refine wc_loopL (α := Nat × KL) (fun p => [(0, .slice va L.length vc), (3, .bool true), (4, .pointer (some ⟨sb, 0, none⟩)), (5, .int .i64 (p.1 : Int))])
    (fun p ds w' => ds = [] ∧ p.1 ≤ 30 ∧ p.2.length ≤ p.1 ∧ (∀ x ∈ p.2, x.1.2.length ≤ 9223372036854775807) ∧ St w' sb kb wb 100 5 p.2 (fun _ => 0) ∧ Keeps NoB w w')
    (fun p => 30 - p.1) (0, []) ⟨rfl, by decide, by decide, (fun x hx => by cases hx), h2, hk1.trans hk2⟩ ⟨rfl, rfl, rfl, rfl, trivial⟩ ?_
  rintro ⟨i, K⟩ ds f0 w5 ⟨rfl, hi30, hKl, hKs, h5, hkw5⟩
  dsimp only at hi30 hKl hKs h5 ⊢
  by_cases hgo : i < L.length ∧ i < 30
  rotate_left
  · by_cases hlt : i < L.length
    · have h30 : ¬ i < 30 := fun h => hgo ⟨hlt, h⟩
      (repeat first | (apply wr_move; exact rfl; with_reducible (conv => enter [6, 3]; whnf)) | (apply wr_assign; exact rfl; with_reducible (conv => enter [6, 3]; whnf)) | apply wr_end | apply wc_seq | apply wc_region | (apply wr_len_slice; iterate 2 exact rfl) | (apply wr_cmp; (iterate 3 exact rfl); exact cmpT (by dsimp only [cmpP]; first | done | omega)) | (apply wr_cmp; (iterate 3 exact rfl); exact cmpF (by dsimp only [cmpN]; first | done | omega)) | (apply wr_pick (t := true); (iterate 2 exact rfl); with_reducible (conv => enter [6, 3]; whnf)) | (apply wc_false; exact rfl) | (apply wc_exit; try simp only [thenE, inBlockE, bodyQ, ↓reduceIte, Nat.reduceEqDiff]) | (apply wc_ret; try simp only [thenE, inBlockE, bodyQ]))
      exact leave1 (v := .bool true) rfl rfl ⟨rfl, hkw5⟩
    · (repeat first | (apply wr_move; exact rfl; with_reducible (conv => enter [6, 3]; whnf)) | (apply wr_assign; exact rfl; with_reducible (conv => enter [6, 3]; whnf)) | apply wr_end | apply wc_seq | apply wc_region | (apply wr_len_slice; iterate 2 exact rfl) | (apply wr_cmp; (iterate 3 exact rfl); exact cmpF (by dsimp only [cmpN]; first | done | omega)) | (apply wr_pick (t := false); (iterate 2 exact rfl); with_reducible (conv => enter [6, 3]; whnf)) | (apply wc_false; exact rfl) | (apply wc_exit; try simp only [thenE, inBlockE, bodyQ, ↓reduceIte, Nat.reduceEqDiff]) | (apply wc_ret; try simp only [thenE, inBlockE, bodyQ]) | (apply wr_skip; exact rfl))
      exact leave1 (v := .bool true) rfl rfl ⟨rfl, hkw5⟩
  obtain ⟨hlt, hlt30⟩ := hgo
  obtain ⟨x, hx⟩ : ∃ x, L[i]? = some x := ⟨L[i], by simp [hlt]⟩
  have hok : thOk (x.1, true, x.2.2) := hL x (List.mem_of_getElem? hx)
  obtain ⟨vb, vo, rfl, cur, e, fr, hvb, hvr⟩ := hvm (by omega)
  (repeat first | (apply wr_move; exact rfl; with_reducible (conv => enter [6, 3]; whnf)) | apply wr_end | apply wc_seq | apply wc_region | apply wc_skip | apply wc_block | (apply wr_len_slice; iterate 2 exact rfl) | (apply wr_cmp; (iterate 3 exact rfl); exact cmpT (by dsimp only [cmpP]; first | done | omega)) | (apply wr_pick (t := true); (iterate 2 exact rfl); with_reducible (conv => enter [6, 3]; whnf)) | (apply wc_true; exact rfl))
  refine wr_indexAddr (i := i) rfl rfl rfl hlt ?_
  refine wr_loadElem (G := GTh) (n := L.length) (l := L) rfl rfl GTh_len rfl (hkw5.heap hvb (fun h => h)) hvr hlt hx rfl ?_
  (repeat first | (apply wr_alloc; exact rfl))
  refine wr_storeAll (cs := GTh x) rfl rfl rfl (GTh_one _) (heap_alloc_same _ _) rfl rfl ?_
  refine wr_name ?_
  intro wt hwwt
  obtain ⟨bwt, hbwt⟩ : ∃ b, b = (w5).heap.size := ⟨_, rfl⟩
  have hkwt : Keeps NoB w5 wt := by rw [hwwt]; exact ((Keeps.refl NoB w5).alloc _).put _ (fun h => by omega)
  have hcwt : (wt).heap[bwt]? = some (.cells (GTh x).toArray 32 (0, 0)) := by rw [hwwt, hbwt]; exact World.putObj_heap_same (by simp)
  rw [← hbwt]
  clear hwwt
  (repeat first | apply wr_end | apply wc_seq | apply wc_region | (apply wr_fieldAddr; iterate 2 exact rfl) | (apply wr_store; (iterate 3 exact rfl); (first | exact rfl | with_reducible assumption); (focus repeat first | with_reducible assumption | exact heap_alloc_same _ _ | exact World.putObj_heap_same (by first | omega | (simp only [World.size_alloc, World.putObj_size, ne_eq]; omega)) | ((first | refine hAl ?_ ?_ | refine hPu ?_ ?_); focus first | omega | (simp only [World.size_alloc, World.putObj_size, ne_eq]; omega))); exact rfl))
  generalize hwu : World.putObj wt _ _ = wu
  have hcu : wu.heap[bwt]? = some (.cells (GTh (x.1, true, x.2.2)).toArray 32 (0, 0)) := by rw [← hwu]; exact World.putObj_heap_same (lt_of_heap hcwt)
  have hku : Keeps NoB w5 wu := hkwt.trans' ((by rw [← hwu]; exact (Keeps.refl _ wt).put _ (fun _ => rfl) : Keeps (· = bwt) wt wu)) (fun i hi e => by omega)
  clear hwu
  refine wr_loadAll (cs := GTh (x.1, true, x.2.2)) rfl rfl rfl hcu rfl ?_
  refine wr_call (vs := [.agg (GTh (x.1, true, x.2.2)).toArray]) rfl (thing_ca (x.1, true, x.2.2) hok rfl wu) rfl ?_
  rintro v wv ⟨rfl, hkv⟩
  obtain ⟨r, hr⟩ : ∃ r, r = thP (x.1, true, x.2.2) := ⟨_, rfl⟩
  rw [← hr]
  have hrok : rightOk r := by rw [hr]; exact thP_ok _
  have hrs : r.2.1.length ≤ 9223372036854775807 ∧ r.2.2.2.2.length ≤ 9223372036854775807 := by rw [hr]; exact thP_short _
  clear hr
  (repeat first | (apply wr_alloc; exact rfl))
  refine wr_storeAll (cs := GRd r) rfl rfl rfl (GRd_one _) (heap_alloc_same _ _) rfl rfl ?_
  refine wr_name ?_
  intro wr hwwr
  obtain ⟨bwr, hbwr⟩ : ∃ b, b = (wv).heap.size := ⟨_, rfl⟩
  have hkwr : Keeps NoB wv wr := by rw [hwwr]; exact ((Keeps.refl NoB wv).alloc _).put _ (fun h => by omega)
  have hcwr : (wr).heap[bwr]? = some (.cells (GRd r).toArray 30 (0, 0)) := by rw [hwwr, hbwr]; exact World.putObj_heap_same (by simp)
  rw [← hbwr]
  clear hwwr
  have hk5r := (hku.trans hkv).trans hkwr
  have h6 := h5.keep hk5r
  (repeat first | (apply wr_move; exact rfl; with_reducible (conv => enter [6, 3]; whnf)) | apply wr_end | apply wc_seq | apply wc_region | (apply wr_fieldAddr; iterate 2 exact rfl))
  refine wr_loadAgg (cs := [.int .i64 r.1, S r.2.1]) rfl rfl rfl rfl (fun j u h => cell_of_heap hcwr (by rw [Nat.zero_add]; exact rkc r j u h)) ?_
  refine wr_call (vs := [.pointer (some ⟨sb, 0, none⟩), encK (keyR r)]) rfl (get_ca h6 (keyR r)) rfl ?_
  rintro v w7 ⟨rfl, hk7⟩
  have hcr7 := hk7.heap hcwr (fun h => h)
  (repeat first | (apply wr_move; exact rfl; with_reducible (conv => enter [6, 3]; whnf)) | (apply wr_alloc; exact rfl) | (apply wr_extract; (iterate 3 exact rfl); with_reducible (conv => enter [6, 3]; whnf)))
  obtain ⟨old, hold⟩ : ∃ o, o = gotR (getL K (keyR r)) := ⟨_, rfl⟩
  rw [← hold]
  refine wr_storeAll (cs := GRd old) rfl rfl rfl (GRd_one _) (heap_alloc_same _ _) rfl rfl ?_
  refine wr_name ?_
  intro wo hwwo
  obtain ⟨bwo, hbwo⟩ : ∃ b, b = (w7).heap.size := ⟨_, rfl⟩
  have hkwo : Keeps NoB w7 wo := by rw [hwwo]; exact ((Keeps.refl NoB w7).alloc _).put _ (fun h => by omega)
  have hcwo : (wo).heap[bwo]? = some (.cells (GRd old).toArray 30 (0, 0)) := by rw [hwwo, hbwo]; exact World.putObj_heap_same (by simp)
  rw [← hbwo]
  clear hwwo
  have hcro := hkwo.heap hcr7 (fun h => h)
  have hk5o := (hk5r.trans hk7).trans hkwo
  have h8 := h5.keep hk5o
  (repeat first | (apply wr_move; exact rfl; with_reducible (conv => enter [6, 3]; whnf)) | (apply wr_assign; exact rfl; with_reducible (conv => enter [6, 3]; whnf)) | apply wr_end | apply wc_seq | apply wc_region)
  refine wr_loadAll (cs := GRd r) rfl rfl rfl hcro rfl ?_
  refine wr_call (vs := [.pointer (some ⟨sb, 0, none⟩), RdV r, .int .u64 0]) rfl (put_ca h8 r 0 (fun _ => .inl (by omega)) hKs hrs.1 hrs.2) rfl ?_
  have hlkb := h2.kept.lt
  cases hg : getL K (keyR r) with
  | none =>
    have hE : putE 100 K r = 0 := by unfold putE; rw [if_pos hrok, hg]; dsimp only; rw [if_pos (by omega)]
    rw [hE]
    rintro v w9 ⟨rfl, ⟨hne, _⟩ | ⟨_, g, _, h9, hk9⟩⟩
    · exact absurd rfl hne
    have hc9r := hk9.heap hcro (map_cells h8.kept hcro)
    have hc9o := hk9.heap hcwo (map_cells h8.kept hcwo)
    (repeat first | (apply wr_move; exact rfl; with_reducible (conv => enter [6, 3]; whnf)) | (apply wr_assign; exact rfl; with_reducible (conv => enter [6, 3]; whnf)) | apply wr_end | apply wc_seq | apply wc_region | (apply wr_fieldAddr; iterate 2 exact rfl))
    refine wr_loadAgg (cs := [.int .i64 r.1, S r.2.1]) rfl rfl rfl rfl (fun j u h => cell_of_heap hc9r (by rw [Nat.zero_add]; exact rkc r j u h)) ?_
    refine wr_call (vs := [.pointer (some ⟨sb, 0, none⟩), encK (keyR r)]) rfl (get_ca h9 (keyR r)) rfl ?_
    rintro v w10 ⟨rfl, hk10⟩
    rw [getL_put_same]
    dsimp only [gotR, Option.isSome]
    (repeat first | (apply wr_move; exact rfl; with_reducible (conv => enter [6, 3]; whnf)) | (apply wr_alloc; exact rfl) | (apply wr_extract; (iterate 3 exact rfl); with_reducible (conv => enter [6, 3]; whnf)))
    refine wr_storeAll (cs := GRd r) rfl rfl rfl (GRd_one _) (heap_alloc_same _ _) rfl rfl ?_
    refine wr_name ?_
    intro wn hwwn
    obtain ⟨bwn, hbwn⟩ : ∃ b, b = (w10).heap.size := ⟨_, rfl⟩
    have hkwn : Keeps NoB w10 wn := by rw [hwwn]; exact ((Keeps.refl NoB w10).alloc _).put _ (fun h => by omega)
    have hcwn : (wn).heap[bwn]? = some (.cells (GRd r).toArray 30 (0, 0)) := by rw [hwwn, hbwn]; exact World.putObj_heap_same (by simp)
    rw [← hbwn]
    clear hwwn
    have hcfo := hkwn.heap (hk10.heap hc9o (fun h => h)) (fun h => h)
    have hcfr := hkwn.heap (hk10.heap hc9r (fun h => h)) (fun h => h)
    have hkf := hk10.trans hkwn
    (repeat first | (apply wr_move; exact rfl; with_reducible (conv => enter [6, 3]; whnf)) | (apply wr_assign; exact rfl; with_reducible (conv => enter [6, 3]; whnf)) | apply wr_end | apply wc_seq | apply wc_region | (apply wr_not; iterate 2 exact rfl) | (apply wr_cmp; (iterate 3 exact rfl); exact cmpT (by dsimp only [cmpP]; first | done | omega)) | (apply wr_pick (t := true); (iterate 2 exact rfl); with_reducible (conv => enter [6, 3]; whnf)) | (apply wr_pick (t := false); (iterate 2 exact rfl); with_reducible (conv => enter [6, 3]; whnf)) | (apply wr_skip; exact rfl))
    refine wr_boolNe (c := false) rfl rfl rfl rfl ?_
    (repeat first | (apply wr_move; exact rfl; with_reducible (conv => enter [6, 3]; whnf)) | (apply wr_cmp; (iterate 3 exact rfl); exact cmpT (by dsimp only [cmpP]; first | done | omega)) | (apply wr_pick (t := false); (iterate 2 exact rfl); with_reducible (conv => enter [6, 3]; whnf)))
    refine wr_loadAll (cs := GRd r) rfl rfl rfl hcwn rfl ?_
    refine wr_loadAll (cs := GRd r) rfl rfl rfl hcfr rfl ?_
    refine wr_structNe (c := false) rfl rfl rfl rd_stood rd_guard (rd_eqOk r r _) (by simp) ?_
    (repeat first | (apply wr_move; exact rfl; with_reducible (conv => enter [6, 3]; whnf)) | (apply wr_assign; exact rfl; with_reducible (conv => enter [6, 3]; whnf)) | apply wr_end | apply wc_region | apply wc_skip | (apply wr_cmp; (iterate 3 exact rfl); exact cmpF (by dsimp only [cmpN]; first | done | omega)) | (apply wr_pick (t := true); (iterate 2 exact rfl); with_reducible (conv => enter [6, 3]; whnf)) | (apply wr_pick (t := false); (iterate 2 exact rfl); with_reducible (conv => enter [6, 3]; whnf)) | (apply wr_add; (iterate 3 exact rfl); exact w_fit (by dsimp only [kIn]; first | done | omega)) | (apply wc_false; exact rfl) | (apply wr_skip; exact rfl))
    have hpl := putL_len K (keyR r) (g, (r, decide (wantP (fun _ => 0) (keyR r) = 0), 0))
    refine ⟨(i + 1, putL K (keyR r) (g, (r, decide (wantP (fun _ => 0) (keyR r) = 0), 0))), by dsimp only; omega, ⟨by trivial, by dsimp only; omega, by dsimp only; omega, fun z hz => ?_, h9.keep hkf, ((hkw5.trans hk5o).trans' hk9 (fun i hi e => by omega)).trans hkf⟩, rfl, rfl, rfl, rfl, trivial⟩
    rcases mem_putL hz with rfl | hz
    focus
      exact hrs.1
    exact hKs z hz
  | some y =>
    have hob : old.2.2.1 = y.2.1.2.2.1 := by rw [hold, hg]; rfl
    by_cases hle : r.2.2.1 ≤ y.2.1.2.2.1
    · have hE : putE 100 K r = 6 := by unfold putE; rw [if_pos hrok, hg]; dsimp only; rw [if_pos hle]
      rw [hE]
      rintro v w9 ⟨rfl, ⟨_, hk9⟩ | ⟨he, _⟩⟩
      rotate_left
      · exact absurd he (by decide)
      have hc9r := hk9.heap hcro (fun h => h)
      have hc9o := hk9.heap hcwo (fun h => h)
      have h9 := h8.keep hk9
      (repeat first | (apply wr_move; exact rfl; with_reducible (conv => enter [6, 3]; whnf)) | (apply wr_assign; exact rfl; with_reducible (conv => enter [6, 3]; whnf)) | apply wr_end | apply wc_seq | apply wc_region | (apply wr_fieldAddr; iterate 2 exact rfl))
      refine wr_loadAgg (cs := [.int .i64 r.1, S r.2.1]) rfl rfl rfl rfl (fun j u h => cell_of_heap hc9r (by rw [Nat.zero_add]; exact rkc r j u h)) ?_
      refine wr_call (vs := [.pointer (some ⟨sb, 0, none⟩), encK (keyR r)]) rfl (get_ca h9 (keyR r)) rfl ?_
      rintro v w10 ⟨rfl, hk10⟩
      rw [hg, ← hg, ← hold, hg]
      (repeat first | (apply wr_move; exact rfl; with_reducible (conv => enter [6, 3]; whnf)) | (apply wr_alloc; exact rfl) | (apply wr_extract; (iterate 3 exact rfl); with_reducible (conv => enter [6, 3]; whnf)))
      refine wr_storeAll (cs := GRd old) rfl rfl rfl (GRd_one _) (heap_alloc_same _ _) rfl rfl ?_
      refine wr_name ?_
      intro wn hwwn
      obtain ⟨bwn, hbwn⟩ : ∃ b, b = (w10).heap.size := ⟨_, rfl⟩
      have hkwn : Keeps NoB w10 wn := by rw [hwwn]; exact ((Keeps.refl NoB w10).alloc _).put _ (fun h => by omega)
      have hcwn : (wn).heap[bwn]? = some (.cells (GRd old).toArray 30 (0, 0)) := by rw [hwwn, hbwn]; exact World.putObj_heap_same (by simp)
      rw [← hbwn]
      clear hwwn
      have hcfo := hkwn.heap (hk10.heap hc9o (fun h => h)) (fun h => h)
      have hcfr := hkwn.heap (hk10.heap hc9r (fun h => h)) (fun h => h)
      have hkf := ((hk5o.trans hk9).trans hk10).trans hkwn
      (repeat first | (apply wr_move; exact rfl; with_reducible (conv => enter [6, 3]; whnf)) | (apply wr_assign; exact rfl; with_reducible (conv => enter [6, 3]; whnf)) | apply wr_end | apply wc_seq | apply wc_region | (apply wr_fieldAddr; iterate 2 exact rfl) | (apply wr_not; iterate 2 exact rfl) | (apply wr_load; (iterate 3 exact rfl); (focus repeat first | with_reducible assumption | exact heap_alloc_same _ _ | exact World.putObj_heap_same (by first | omega | (simp only [World.size_alloc, World.putObj_size, ne_eq]; omega)) | ((first | refine hAl ?_ ?_ | refine hPu ?_ ?_); focus first | omega | (simp only [World.size_alloc, World.putObj_size, ne_eq]; omega))); exact rfl; conv => enter [6, 3]; whnf) | (apply wr_cmp; (iterate 3 exact rfl); exact cmpF (by dsimp only [cmpN]; first | done | omega)) | (apply wr_pick (t := true); (iterate 2 exact rfl); with_reducible (conv => enter [6, 3]; whnf)) | (apply wr_pick (t := false); (iterate 2 exact rfl); with_reducible (conv => enter [6, 3]; whnf)))
      refine wr_boolNe (c := false) rfl rfl rfl rfl ?_
      (repeat first | (apply wr_move; exact rfl; with_reducible (conv => enter [6, 3]; whnf)) | (apply wr_cmp; (iterate 3 exact rfl); exact cmpT (by dsimp only [cmpP]; first | done | omega)) | (apply wr_cmp; (iterate 3 exact rfl); exact cmpF (by dsimp only [cmpN]; first | done | omega)) | (apply wr_pick (t := false); (iterate 2 exact rfl); with_reducible (conv => enter [6, 3]; whnf)) | (apply wr_skip; exact rfl))
      refine wr_loadAll (cs := GRd old) rfl rfl rfl hcwn rfl ?_
      refine wr_loadAll (cs := GRd old) rfl rfl rfl hcfo rfl ?_
      refine wr_structNe (c := false) rfl rfl rfl rd_stood rd_guard (rd_eqOk old old _) (by simp) ?_
      (repeat first | (apply wr_move; exact rfl; with_reducible (conv => enter [6, 3]; whnf)) | (apply wr_assign; exact rfl; with_reducible (conv => enter [6, 3]; whnf)) | apply wr_end | apply wc_region | apply wc_skip | (apply wr_cmp; (iterate 3 exact rfl); exact cmpF (by dsimp only [cmpN]; first | done | omega)) | (apply wr_pick (t := true); (iterate 2 exact rfl); with_reducible (conv => enter [6, 3]; whnf)) | (apply wr_pick (t := false); (iterate 2 exact rfl); with_reducible (conv => enter [6, 3]; whnf)) | (apply wr_add; (iterate 3 exact rfl); exact w_fit (by dsimp only [kIn]; first | done | omega)) | (apply wc_false; exact rfl))
      refine ⟨(i + 1, K), by dsimp only; omega, ⟨by trivial, by dsimp only; omega, by dsimp only; omega, hKs, h5.keep hkf, hkw5.trans hkf⟩, rfl, rfl, rfl, rfl, trivial⟩
    · have hE : putE 100 K r = 0 := by unfold putE; rw [if_pos hrok, hg]; dsimp only; rw [if_neg hle]
      rw [hE]
      rintro v w9 ⟨rfl, ⟨hne, _⟩ | ⟨_, g, _, h9, hk9⟩⟩
      · exact absurd rfl hne
      have hc9r := hk9.heap hcro (map_cells h8.kept hcro)
      have hc9o := hk9.heap hcwo (map_cells h8.kept hcwo)
      (repeat first | (apply wr_move; exact rfl; with_reducible (conv => enter [6, 3]; whnf)) | (apply wr_assign; exact rfl; with_reducible (conv => enter [6, 3]; whnf)) | apply wr_end | apply wc_seq | apply wc_region | (apply wr_fieldAddr; iterate 2 exact rfl))
      refine wr_loadAgg (cs := [.int .i64 r.1, S r.2.1]) rfl rfl rfl rfl (fun j u h => cell_of_heap hc9r (by rw [Nat.zero_add]; exact rkc r j u h)) ?_
      refine wr_call (vs := [.pointer (some ⟨sb, 0, none⟩), encK (keyR r)]) rfl (get_ca h9 (keyR r)) rfl ?_
      rintro v w10 ⟨rfl, hk10⟩
      rw [getL_put_same]
      dsimp only [gotR, Option.isSome]
      (repeat first | (apply wr_move; exact rfl; with_reducible (conv => enter [6, 3]; whnf)) | (apply wr_alloc; exact rfl) | (apply wr_extract; (iterate 3 exact rfl); with_reducible (conv => enter [6, 3]; whnf)))
      refine wr_storeAll (cs := GRd r) rfl rfl rfl (GRd_one _) (heap_alloc_same _ _) rfl rfl ?_
      refine wr_name ?_
      intro wn hwwn
      obtain ⟨bwn, hbwn⟩ : ∃ b, b = (w10).heap.size := ⟨_, rfl⟩
      have hkwn : Keeps NoB w10 wn := by rw [hwwn]; exact ((Keeps.refl NoB w10).alloc _).put _ (fun h => by omega)
      have hcwn : (wn).heap[bwn]? = some (.cells (GRd r).toArray 30 (0, 0)) := by rw [hwwn, hbwn]; exact World.putObj_heap_same (by simp)
      rw [← hbwn]
      clear hwwn
      have hcfo := hkwn.heap (hk10.heap hc9o (fun h => h)) (fun h => h)
      have hcfr := hkwn.heap (hk10.heap hc9r (fun h => h)) (fun h => h)
      have hkf := hk10.trans hkwn
      (repeat first | (apply wr_move; exact rfl; with_reducible (conv => enter [6, 3]; whnf)) | (apply wr_assign; exact rfl; with_reducible (conv => enter [6, 3]; whnf)) | apply wr_end | apply wc_seq | apply wc_region | (apply wr_fieldAddr; iterate 2 exact rfl) | (apply wr_not; iterate 2 exact rfl) | (apply wr_load; (iterate 3 exact rfl); (focus repeat first | with_reducible assumption | exact heap_alloc_same _ _ | exact World.putObj_heap_same (by first | omega | (simp only [World.size_alloc, World.putObj_size, ne_eq]; omega)) | ((first | refine hAl ?_ ?_ | refine hPu ?_ ?_); focus first | omega | (simp only [World.size_alloc, World.putObj_size, ne_eq]; omega))); exact rfl; conv => enter [6, 3]; whnf) | (apply wr_cmp; (iterate 3 exact rfl); exact cmpT (by dsimp only [cmpP]; first | done | omega)) | (apply wr_cmp; (iterate 3 exact rfl); exact cmpF (by dsimp only [cmpN]; first | done | omega)) | (apply wr_pick (t := true); (iterate 2 exact rfl); with_reducible (conv => enter [6, 3]; whnf)) | (apply wr_pick (t := false); (iterate 2 exact rfl); with_reducible (conv => enter [6, 3]; whnf)))
      refine wr_boolNe (c := false) rfl rfl rfl rfl ?_
      (repeat first | (apply wr_move; exact rfl; with_reducible (conv => enter [6, 3]; whnf)) | (apply wr_cmp; (iterate 3 exact rfl); exact cmpT (by dsimp only [cmpP]; first | done | omega)) | (apply wr_pick (t := false); (iterate 2 exact rfl); with_reducible (conv => enter [6, 3]; whnf)))
      refine wr_loadAll (cs := GRd r) rfl rfl rfl hcwn rfl ?_
      refine wr_loadAll (cs := GRd r) rfl rfl rfl hcfr rfl ?_
      refine wr_structNe (c := false) rfl rfl rfl rd_stood rd_guard (rd_eqOk r r _) (by simp) ?_
      (repeat first | (apply wr_move; exact rfl; with_reducible (conv => enter [6, 3]; whnf)) | (apply wr_assign; exact rfl; with_reducible (conv => enter [6, 3]; whnf)) | apply wr_end | apply wc_region | apply wc_skip | (apply wr_cmp; (iterate 3 exact rfl); exact cmpF (by dsimp only [cmpN]; first | done | omega)) | (apply wr_pick (t := true); (iterate 2 exact rfl); with_reducible (conv => enter [6, 3]; whnf)) | (apply wr_pick (t := false); (iterate 2 exact rfl); with_reducible (conv => enter [6, 3]; whnf)) | (apply wr_add; (iterate 3 exact rfl); exact w_fit (by dsimp only [kIn]; first | done | omega)) | (apply wc_false; exact rfl) | (apply wr_skip; exact rfl))
      have hpl := putL_len K (keyR r) (g, (r, decide (wantP (fun _ => 0) (keyR r) = 0), 0))
      refine ⟨(i + 1, putL K (keyR r) (g, (r, decide (wantP (fun _ => 0) (keyR r) = 0), 0))), by dsimp only; omega, ⟨by trivial, by dsimp only; omega, by dsimp only; omega, fun z hz => ?_, h9.keep hkf, ((hkw5.trans hk5o).trans' hk9 (fun i hi e => by omega)).trans hkf⟩, rfl, rfl, rfl, rfl, trivial⟩
      rcases mem_putL hz with rfl | hz
      focus
        exact hrs.1
      exact hKs z hz
end Go.Proofs.YtafnbbehmbmchaaDoor
