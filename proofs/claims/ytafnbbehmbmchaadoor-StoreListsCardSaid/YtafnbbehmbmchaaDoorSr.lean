/- StoreLists: the walk. -/
import Derived.Test.YtafnbbehmbmchaaDoorSq
namespace Go.Proofs.YtafnbbehmbmchaaDoor
open Go Go.V Go.RowKit
set_option linter.unusedVariables false
set_option linter.unusedSimpArgs false

theorem rkl (r : RD) (j : Nat) (u : Value) (h : ([.int .i64 r.1, S r.2.1] : List Value)[j]? = some u) : (GRd r)[j]? = some u := by
  match j, h with
  | 0, h => exact h
  | 1, h => exact h
  | j + 2, h => simp at h
/- Up to the first half of what is asked of one that is listed; the middle ($1) is another one for the first. -/
set_option maxRecDepth 100000 in
set_option maxHeartbeats 8000000 in
theorem lists_law (L : List TH) (v0 : Value) (w : World) (hv : SlR w 7 v0 L.length (L.flatMap GTh)) (hL : ∀ x ∈ L, thOk x) :
    Ca Tryd.prog 6 #[v0] w fun v w' => v = .bool true ∧ Keeps NoB w w' := by
  obtain ⟨va, vc, rfl, hvl, hvm⟩ := hv.shape
  refine ca_of_body (args := [.slice va L.length vc]) Tryd.func6 rfl (by kernel_rfl) ?_
  (repeat first | (apply wr_assign; exact rfl; with_reducible (conv => enter [6, 3]; whnf)) | apply wr_end | apply wc_seq | apply wc_region)
  refine wr_call (vs := []) rfl (examples_ca w) rfl ?_
  rintro v w1 ⟨rfl, hk1⟩
  (repeat first | (apply wr_move; exact rfl; with_reducible (conv => enter [6, 3]; whnf)) | (apply wr_assign; exact rfl; with_reducible (conv => enter [6, 3]; whnf)) | apply wr_end | apply wc_seq | apply wc_region | apply wc_skip | (apply wr_not; iterate 2 exact rfl) | (apply wc_false; exact rfl))
  refine wr_call (vs := [.int .i64 100, .int .u64 5]) rfl (new_ca 100 (by decide) 5 w1) rfl ?_
  rintro v w2 ⟨sb, kb, wb, rfl, h2, hk2, hs1, hs2, hs3⟩
  have hro : roomOf 100 = 100 := by decide
  rw [hro] at h2
  (repeat first | (apply wr_move; exact rfl; with_reducible (conv => enter [6, 3]; whnf)) | (apply wr_assign; exact rfl; with_reducible (conv => enter [6, 3]; whnf)) | apply wr_end | apply wc_seq | apply wc_region)
  refine wr_ptrNil rfl rfl ?_
  (repeat first | (apply wr_assign; exact rfl; with_reducible (conv => enter [6, 3]; whnf)) | apply wr_end | apply wc_seq | apply wc_region | apply wc_skip | apply wc_block | (apply wc_false; exact rfl))
  have hz1 := hk1.size
  have hlkb := h2.kept.lt
  refine wc_loopL (α := Nat × KL) (fun p => [(0, .slice va L.length vc), (3, .bool true), (4, .pointer (some ⟨sb, 0, none⟩)), (5, .int .i64 0), (6, .int .i64 (p.1 : Int))])
    (fun p ds w' => ds = [] ∧ p.1 ≤ 20 ∧ p.2.length ≤ p.1 ∧ KOk p.2 ∧ St w' sb kb wb 100 5 p.2 (fun _ => 0) ∧ Keeps NoB w w')
    (fun p => 20 - p.1) (0, []) ⟨rfl, by decide, by decide, (fun x hx => by cases hx), h2, hk1.trans hk2⟩ ⟨rfl, rfl, rfl, rfl, rfl, trivial⟩ ?_
  rintro ⟨i, K⟩ ds f0 w5 ⟨rfl, hi20, hKl, hKO, h5, hkw5⟩
  dsimp only at hi20 hKl hKO h5 ⊢
  have hKs : ∀ x ∈ K, x.1.2.length ≤ 9223372036854775807 := fun x hx => word_len (hKO x hx).2.2.2
  by_cases hgo : i < L.length ∧ i < 20
  · obtain ⟨hlt, hlt20⟩ := hgo
    obtain ⟨x, hx⟩ : ∃ x, L[i]? = some x := ⟨L[i], by simp [hlt]⟩
    have hok : thOk (x.1, true, x.2.2) := hL x (List.mem_of_getElem? hx)
    obtain ⟨vb, vo, rfl, cur, e, fr, hvb, hvr⟩ := hvm (by omega)
    (repeat first | (apply wr_move; exact rfl; with_reducible (conv => enter [6, 3]; whnf)) | apply wr_end | apply wc_seq | apply wc_region | apply wc_skip | apply wc_block | (apply wr_len_slice; iterate 2 exact rfl) | (apply wr_cmp; (iterate 3 exact rfl); exact cmpT (by dsimp only [cmpP]; first | done | omega)) | (apply wr_pick (t := true); (iterate 2 exact rfl); with_reducible (conv => enter [6, 3]; whnf)) | (apply wc_true; exact rfl))
    refine wr_indexAddr (i := i) rfl rfl rfl hlt ?_
    refine wr_loadElem (G := GTh) (n := L.length) (l := L) rfl rfl GTh_len rfl (hkw5.heap hvb (fun h => h)) hvr hlt hx rfl ?_
    (repeat first | (apply wr_alloc; exact rfl))
    refine wr_storeAll (cs := GTh x) rfl rfl rfl (GTh_one _) (heap_alloc_same _ _) rfl rfl ?_
    refine wr_name ?_
    intro wt hwwt
    obtain ⟨bwt, hbwt⟩ : ∃ b, b = (w5).heap.size := ⟨_, rfl⟩
    have hkwt : Keeps NoB w5 wt := by rw [hwwt]; exact ((Keeps.refl NoB w5).alloc _).put _ (fun h => by omega)
    have hcwt : (wt).heap[bwt]? = some (.cells (GTh x).toArray 32 (0, 0)) := by rw [hwwt, hbwt]; exact World.putObj_heap_same (by simp)
    rw [← hbwt]
    clear hwwt
    (repeat first | (apply wr_move; exact rfl; with_reducible (conv => enter [6, 3]; whnf)) | apply wr_end | apply wc_seq | apply wc_region | (apply wr_fieldAddr; iterate 2 exact rfl) | (apply wr_store; (iterate 3 exact rfl); (first | exact rfl | with_reducible assumption); (focus repeat first | with_reducible assumption | exact heap_alloc_same _ _ | exact World.putObj_heap_same (by first | omega | (simp only [World.size_alloc, World.putObj_size, ne_eq]; omega)) | ((first | refine hAl ?_ ?_ | refine hPu ?_ ?_); focus first | omega | (simp only [World.size_alloc, World.putObj_size, ne_eq]; omega))); exact rfl))
    generalize hwu : World.putObj wt _ _ = wu
    have hcu : wu.heap[bwt]? = some (.cells (GTh (x.1, true, x.2.2)).toArray 32 (0, 0)) := by rw [← hwu]; exact World.putObj_heap_same (lt_of_heap hcwt)
    have hku : Keeps NoB w5 wu := hkwt.trans' ((by rw [← hwu]; exact (Keeps.refl _ wt).put _ (fun _ => rfl) : Keeps (· = bwt) wt wu)) (fun i hi e => by omega)
    clear hwu
    refine wr_loadAll (cs := GTh (x.1, true, x.2.2)) rfl rfl rfl hcu rfl ?_
    refine wr_call (vs := [.agg (GTh (x.1, true, x.2.2)).toArray]) rfl (thing_ca (x.1, true, x.2.2) hok rfl wu) rfl ?_
    rintro v wv ⟨rfl, hkv⟩
    obtain ⟨r, hr⟩ : ∃ r, r = thP (x.1, true, x.2.2) := ⟨_, rfl⟩
    rw [← hr]
    have hrok : rightOk r := by rw [hr]; exact thP_ok _
    have hrf := thP_few (x.1, true, x.2.2)
    have hrs : r.2.1.length ≤ 9223372036854775807 ∧ r.2.2.2.2.length ≤ 9223372036854775807 := by rw [hr]; exact thP_short _
    rw [← hr] at hrf
    clear hr
    have hkv5 := hku.trans hkv
    have h6 := h5.keep hkv5
    (repeat first | (apply wr_move; exact rfl; with_reducible (conv => enter [6, 3]; whnf)) | (apply wr_conv; (iterate 2 exact rfl); exact w_fit (by dsimp only [kIn]; first | done | omega)))
    refine wr_call (vs := [.pointer (some ⟨sb, 0, none⟩), RdV r, .int .u64 (i : Int)]) rfl (put_ca h6 r i (fun _ => .inl (by omega)) hKs hrs.1 hrs.2) rfl ?_
    rintro v w9 ⟨rfl, ⟨_, hk9⟩ | ⟨_, g, _, h9, hk9⟩⟩
    · (repeat first | (apply wr_move; exact rfl; with_reducible (conv => enter [6, 3]; whnf)) | (apply wr_assign; exact rfl; with_reducible (conv => enter [6, 3]; whnf)) | apply wr_end | apply wc_region | (apply wr_add; (iterate 3 exact rfl); exact w_fit (by dsimp only [kIn]; first | done | omega)) | (apply wr_nil; try simp only [thenE, inBlockE, bodyQ]))
      exact ⟨(i + 1, K), by dsimp only; omega, ⟨by trivial, by dsimp only; omega, by dsimp only; omega, hKO, h6.keep hk9, (hkw5.trans hkv5).trans hk9⟩, rfl, rfl, rfl, rfl, rfl, trivial⟩
    · have hpl := putL_len K (keyR r) (g, (r, decide (wantP (fun _ => 0) (keyR r) = 0), i))
      (repeat first | (apply wr_move; exact rfl; with_reducible (conv => enter [6, 3]; whnf)) | (apply wr_assign; exact rfl; with_reducible (conv => enter [6, 3]; whnf)) | apply wr_end | apply wc_region | (apply wr_add; (iterate 3 exact rfl); exact w_fit (by dsimp only [kIn]; first | done | omega)) | (apply wr_nil; try simp only [thenE, inBlockE, bodyQ]))
      exact ⟨(i + 1, putL K (keyR r) (g, (r, decide (wantP (fun _ => 0) (keyR r) = 0), i))), by dsimp only; omega, ⟨by trivial, by dsimp only; omega, by dsimp only; omega, KOk_put hKO hrf.1 hrf.2.1 hrf.2.2 _ _ _, h9, (hkw5.trans hkv5).trans' hk9 (fun i hi e => by omega)⟩, rfl, rfl, rfl, rfl, rfl, trivial⟩
  · have hnd : (K.map (·.1)).Nodup := by
      obtain ⟨es, c, _, _, hn, _⟩ := h5.kept
      rwa [keys_map] at hn
    have hK20 : K.length ≤ 20 := by omega
    have hm0 : ((0 : Nat) : Int) = (belowK K ((1 : Nat) : Int) : Int) := by rw [show ((1 : Nat) : Int) = 1 from rfl, below_one hKO]
    have hgo' : (¬ i < L.length) ∨ (i < L.length ∧ ¬ i < 20) := by omega
    rcases hgo' with hlt | ⟨hlt, h20⟩
    all_goals
      (repeat first | (apply wr_move; exact rfl; with_reducible (conv => enter [6, 3]; whnf)) | (apply wr_assign; exact rfl; with_reducible (conv => enter [6, 3]; whnf)) | apply wr_end | apply wc_seq | apply wc_region | apply wc_block | (apply wr_len_slice; iterate 2 exact rfl) | (apply wr_cmp; (iterate 3 exact rfl); exact cmpT (by dsimp only [cmpP]; first | done | omega)) | (apply wr_cmp; (iterate 3 exact rfl); exact cmpF (by dsimp only [cmpN]; first | done | omega)) | (apply wr_pick (t := true); (iterate 2 exact rfl); with_reducible (conv => enter [6, 3]; whnf)) | (apply wr_pick (t := false); (iterate 2 exact rfl); with_reducible (conv => enter [6, 3]; whnf)) | (apply wc_false; exact rfl) | (apply wc_exit; try simp only [thenE, inBlockE, bodyQ, ↓reduceIte, Nat.reduceEqDiff]) | (apply wr_skip; exact rfl))
      refine wc_loopL (α := Nat) (fun kd => [(3, .bool true), (4, .pointer (some ⟨sb, 0, none⟩)), (5, .int .i64 (belowK K (kd : Int) : Int)), (8, .int .i64 (kd : Int))])
        (fun kd ds w' => ds = [] ∧ 1 ≤ kd ∧ kd ≤ 6 ∧ St w' sb kb wb 100 5 K (fun _ => 0) ∧ Keeps NoB w w') (fun kd => 6 - kd) 1 ⟨rfl, by decide, by decide, h5, hkw5⟩ ⟨rfl, rfl, by rw [← hm0]; rfl, rfl, trivial⟩ ?_
      rintro kd ds f1 w6 ⟨rfl, hk1', hk6', h6, hkw6⟩
      try dsimp only at h6 ⊢
      by_cases h5k : kd ≤ 5
      · have hle := listR_le hnd hKO (kd : Int)
        have hbl : belowK K (kd : Int) ≤ K.length := List.length_filter_le _ _
        (repeat first | (apply wr_move; exact rfl; with_reducible (conv => enter [6, 3]; whnf)) | apply wr_end | apply wc_seq | apply wc_region | apply wc_skip | apply wc_block | (apply wr_cmp; (iterate 3 exact rfl); exact cmpT (by dsimp only [cmpP]; first | done | omega)) | (apply wc_true; exact rfl))
        refine wr_call (vs := [.pointer (some ⟨sb, 0, none⟩), .int .i64 (kd : Int)]) rfl (list_ca 12 sortsR12 h6 (kd : Int) (by omega) (by omega)) rfl ?_
        rintro v w7 ⟨l', hp, hsort, hown7, hk7⟩
        have hl6 : l'.length ≤ 6 := by rw [hp.length_eq]; exact hle
        have hbs : (belowK K (kd : Int) : Int) + (l'.length : Int) = (belowK K ((kd + 1 : Nat) : Int) : Int) := by
          rw [hp.length_eq, show ((kd + 1 : Nat) : Int) = (kd : Int) + 1 by omega, below_succ]; omega
        obtain ⟨sa, sc, hvv⟩ := own_sl' hown7
        subst hvv
        have hkw7 := hkw6.trans hk7
        have h7 := h6.keep hk7
        (repeat first | (apply wr_move; exact rfl; with_reducible (conv => enter [6, 3]; whnf)) | (apply wr_assign; exact rfl; with_reducible (conv => enter [6, 3]; whnf)) | apply wr_end | apply wc_seq | apply wc_region | apply wc_block | (apply wr_len_slice; iterate 2 exact rfl) | (apply wr_add; (iterate 3 exact rfl); exact w_fit (by dsimp only [kIn]; first | done | omega)))
        rw [hbs]
        refine wc_loopL (α := Nat) (fun j => [(3, .bool true), (4, .pointer (some ⟨sb, 0, none⟩)), (5, .int .i64 (belowK K ((kd + 1 : Nat) : Int) : Int)), (8, .int .i64 (kd : Int)), (9, .slice sa l'.length sc), (10, .int .i64 (j : Int))])
          (fun j ds w' => ds = [] ∧ j ≤ l'.length ∧ St w' sb kb wb 100 5 K (fun _ => 0) ∧ w'.ownsRow w6.heap.size 30 5 (.slice sa l'.length sc) l'.length (l'.flatMap GRd) ∧ Keeps NoB w w') (fun j => l'.length - j) 0 ⟨rfl, by omega, h7, hown7, hkw7⟩ ⟨rfl, rfl, rfl, rfl, rfl, rfl, trivial⟩ ?_
        rintro j ds f2 w8 ⟨rfl, hj, h8, hown8, hkw8⟩
        try dsimp only at h8 ⊢
        by_cases hjl : j < l'.length
        · obtain ⟨r, hx⟩ : ∃ r, l'[j]? = some r := ⟨l'[j], by simp [hjl]⟩
          obtain ⟨hty, y, hget, hyr⟩ := listR_mem hnd hKO (hp.mem_iff.1 (List.mem_of_getElem? hx))
          rcases own_cases hown8 with ⟨_, h0⟩ | ⟨b, cap, hsl⟩
          · omega
          cases hsl
          obtain ⟨cur, hb8, hr9⟩ := own_at hown8
          (repeat first | (apply wr_move; exact rfl; with_reducible (conv => enter [6, 3]; whnf)) | apply wr_end | apply wc_seq | apply wc_region | apply wc_skip | apply wc_block | (apply wr_len_slice; iterate 2 exact rfl) | (apply wr_cmp; (iterate 3 exact rfl); exact cmpT (by dsimp only [cmpP]; first | done | omega)) | (apply wc_true; exact rfl))
          refine wr_indexAddr (i := j) rfl rfl rfl hjl ?_
          (repeat first | (apply wr_fieldAddr; iterate 2 exact rfl))
          refine wr_loadAgg (cs := [.int .i64 r.1, S r.2.1]) rfl rfl rfl rfl (fun q u h => cell_of_heap hb8 (cell_elem GRd_len hr9 hjl hx (rkl r q u h))) ?_
          refine wr_call (vs := [.pointer (some ⟨sb, 0, none⟩), encK (keyR r)]) rfl (get_ca h8 (keyR r)) rfl ?_
          rintro v w9 ⟨rfl, hk9⟩
          rw [hget]
          dsimp only [gotR, Option.isSome]
          rw [hyr]
          (repeat first | (apply wr_move; exact rfl; with_reducible (conv => enter [6, 3]; whnf)) | (apply wr_alloc; exact rfl) | (apply wr_extract; (iterate 3 exact rfl); with_reducible (conv => enter [6, 3]; whnf)))
          refine wr_storeAll (cs := GRd r) rfl rfl rfl (GRd_one _) (heap_alloc_same _ _) rfl rfl ?_
          refine wr_name ?_
          intro wy hwwy
          obtain ⟨bwy, hbwy⟩ : ∃ b, b = (w9).heap.size := ⟨_, rfl⟩
          have hkwy : Keeps NoB w9 wy := by rw [hwwy]; exact ((Keeps.refl NoB w9).alloc _).put _ (fun h => by omega)
          have hcwy : (wy).heap[bwy]? = some (.cells (GRd r).toArray 30 (0, 0)) := by rw [hwwy, hbwy]; exact World.putObj_heap_same (by simp)
          rw [← hbwy]
          clear hwwy
          have hb9 := (hk9.trans hkwy).heap hb8 (fun h => h)
          have hk0 : ∀ {w'}, Keeps NoB wy.drew w' → Keeps NoB wy w' := fun hk => (Keeps.refl NoB wy).drew.trans hk
          (repeat first | (apply wr_assign; exact rfl; with_reducible (conv => enter [6, 3]; whnf)) | apply wr_end | apply wc_seq)
          match j, hjl, hx with
          | 0, hjl, hx =>
            refine wc_drawP (l := _) 40 _ (by kernel_rfl) (by kernel_rfl) rfl (by kernel_rfl) (by kernel_rfl) (by decide) ?_
            apply chP_pure
            focus
              intro xx w' hk hF
              apply wr_move; exact rfl; with_reducible (conv => enter [6, 3]; whnf)
              apply wr_nil
              exact ⟨rfl, Keeps.refl _ _⟩
            focus (intro xx yy h; rfl)
            focus kernel_rfl
            apply chP_pure
            focus
              intro xx w' hk hF
              apply wr_move; exact rfl; with_reducible (conv => enter [6, 3]; whnf)
              apply wr_nil
              exact ⟨rfl, Keeps.refl _ _⟩
            focus (intro xx yy h; rfl)
            focus kernel_rfl
            apply chP_pure
            focus
              intro xx w' hk hF
              refine wr_indexAddr (i := 0) rfl rfl rfl hjl ?_
              apply wr_nil
              exact ⟨rfl, Keeps.refl _ _⟩
            focus (intro xx yy h; rfl)
            focus kernel_rfl
            apply chP_pure
            focus
              intro xx w' hk hF
              refine wr_fieldAddr rfl rfl ?_
              apply wr_nil
              exact ⟨rfl, Keeps.refl _ _⟩
            focus (intro xx yy h; rfl)
            focus kernel_rfl
            apply chP_pure
            focus
              intro xx w' hk hF
              refine wr_fieldAddr rfl rfl ?_
              apply wr_nil
              exact ⟨rfl, Keeps.refl _ _⟩
            focus (intro xx yy h; rfl)
            focus kernel_rfl
            apply chP_pure
            focus
              intro xx w' hk hF
              refine wr_load (v := .int .i64 (kd : Int)) rfl rfl rfl ((hk0 hk).heap hb9 (fun h => h)) (cell_elem (v := .int .i64 (kd : Int)) GRd_len hr9 hjl hx (by rw [← hty]; rfl)) ?_
              apply wr_nil
              exact ⟨rfl, Keeps.refl _ _⟩
            focus (intro xx yy h; rfl)
            focus kernel_rfl
            apply chP_pure
            focus
              intro xx w' hk hF
              apply wr_move; exact rfl; with_reducible (conv => enter [6, 3]; whnf)
              apply wr_nil
              exact ⟨rfl, Keeps.refl _ _⟩
            focus (intro xx yy h; rfl)
            focus kernel_rfl
            apply chP_pure
            focus
              intro xx w' hk hF
              apply wr_cmp; (iterate 3 exact rfl); exact cmpF (by first | (dsimp only [cmpN]; done) | (dsimp only [cmpN]; omega))
              apply wr_nil
              exact ⟨rfl, Keeps.refl _ _⟩
            focus (intro xx yy h; rfl)
            focus kernel_rfl
            apply chP_pure
            focus
              intro xx w' hk hF
              apply wr_move; exact rfl; with_reducible (conv => enter [6, 3]; whnf)
              apply wr_nil
              exact ⟨rfl, Keeps.refl _ _⟩
            focus (intro xx yy h; rfl)
            focus kernel_rfl
            apply chP_pure
            focus
              intro xx w' hk hF
              apply wr_move; exact rfl; with_reducible (conv => enter [6, 3]; whnf)
              apply wr_nil
              exact ⟨rfl, Keeps.refl _ _⟩
            focus (intro xx yy h; rfl)
            focus kernel_rfl
            apply chP_pure
            focus
              intro xx w' hk hF
              apply wr_cmp; (iterate 3 exact rfl); exact cmpF (by first | (dsimp only [cmpN]; done) | (dsimp only [cmpN]; omega))
              apply wr_nil
              exact ⟨rfl, Keeps.refl _ _⟩
            focus (intro xx yy h; rfl)
            focus kernel_rfl
            apply chP_pure
            focus
              intro xx w' hk hF
              apply wr_move; exact rfl; with_reducible (conv => enter [6, 3]; whnf)
              apply wr_nil
              exact ⟨rfl, Keeps.refl _ _⟩
            focus (intro xx yy h; rfl)
            focus kernel_rfl
            apply chP_pure
            focus
              intro xx w' hk hF
              refine wr_skip rfl ?_
              apply wr_nil
              exact ⟨rfl, Keeps.refl _ _⟩
            focus (intro xx yy h; rfl)
            focus kernel_rfl
            apply chP_pure
            focus
              intro xx w' hk hF
              refine wr_skip rfl ?_
              apply wr_nil
              exact ⟨rfl, Keeps.refl _ _⟩
            focus (intro xx yy h; rfl)
            focus kernel_rfl
            apply chP_pure
            focus
              intro xx w' hk hF
              refine wr_skip rfl ?_
              apply wr_nil
              exact ⟨rfl, Keeps.refl _ _⟩
            focus (intro xx yy h; rfl)
            focus kernel_rfl
            apply chP_pure
            focus
              intro xx w' hk hF
              refine wr_skip rfl ?_
              apply wr_nil
              exact ⟨rfl, Keeps.refl _ _⟩
            focus (intro xx yy h; rfl)
            focus kernel_rfl
            apply chP_pure
            focus
              intro xx w' hk hF
              refine wr_skip rfl ?_
              apply wr_nil
              exact ⟨rfl, Keeps.refl _ _⟩
            focus (intro xx yy h; rfl)
            focus kernel_rfl
            apply chP_pure
            focus
              intro xx w' hk hF
              refine wr_skip rfl ?_
              apply wr_nil
              exact ⟨rfl, Keeps.refl _ _⟩
            focus (intro xx yy h; rfl)
            focus kernel_rfl
            apply chP_pure
            focus
              intro xx w' hk hF
              refine wr_skip rfl ?_
              apply wr_nil
              exact ⟨rfl, Keeps.refl _ _⟩
            focus (intro xx yy h; rfl)
            focus kernel_rfl
            apply chP_pure
            focus
              intro xx w' hk hF
              refine wr_skip rfl ?_
              apply wr_nil
              exact ⟨rfl, Keeps.refl _ _⟩
            focus (intro xx yy h; rfl)
            focus kernel_rfl
            apply chP_pure
            focus
              intro xx w' hk hF
              refine wr_skip rfl ?_
              apply wr_nil
              exact ⟨rfl, Keeps.refl _ _⟩
            focus (intro xx yy h; rfl)
            focus kernel_rfl
            apply chP_pure
            focus
              intro xx w' hk hF
              refine wr_skip rfl ?_
              apply wr_nil
              exact ⟨rfl, Keeps.refl _ _⟩
            focus (intro xx yy h; rfl)
            focus kernel_rfl
            apply chP_pure
            focus
              intro xx w' hk hF
              refine wr_skip rfl ?_
              apply wr_nil
              exact ⟨rfl, Keeps.refl _ _⟩
            focus (intro xx yy h; rfl)
            focus kernel_rfl
            apply chP_pure
            focus
              intro xx w' hk hF
              refine wr_skip rfl ?_
              apply wr_nil
              exact ⟨rfl, Keeps.refl _ _⟩
            focus (intro xx yy h; rfl)
            focus kernel_rfl
            apply chP_pure
            focus
              intro xx w' hk hF
              refine wr_skip rfl ?_
              apply wr_nil
              exact ⟨rfl, Keeps.refl _ _⟩
            focus (intro xx yy h; rfl)
            focus kernel_rfl
            apply chP_pure
            focus
              intro xx w' hk hF
              refine wr_skip rfl ?_
              apply wr_nil
              exact ⟨rfl, Keeps.refl _ _⟩
            focus (intro xx yy h; rfl)
            focus kernel_rfl
            apply chP_pure
            focus
              intro xx w' hk hF
              apply wr_pick (t := false); (iterate 2 exact rfl); with_reducible (conv => enter [6, 3]; whnf)
              apply wr_nil
              exact ⟨rfl, Keeps.refl _ _⟩
            focus (intro xx yy h; rfl)
            focus kernel_rfl
            apply chP_pure
            focus
              intro xx w' hk hF
              apply wr_pick (t := false); (iterate 2 exact rfl); with_reducible (conv => enter [6, 3]; whnf)
              apply wr_nil
              exact ⟨rfl, Keeps.refl _ _⟩
            focus (intro xx yy h; rfl)
            focus kernel_rfl
            apply chP_pure
            focus
              intro xx w' hk hF
              apply wr_move; exact rfl; with_reducible (conv => enter [6, 3]; whnf)
              apply wr_nil
              exact ⟨rfl, Keeps.refl _ _⟩
            focus (intro xx yy h; rfl)
            focus kernel_rfl
            apply chP_pure
            focus
              intro xx w' hk hF
              apply wr_move; exact rfl; with_reducible (conv => enter [6, 3]; whnf)
              apply wr_nil
              exact ⟨rfl, Keeps.refl _ _⟩
            focus (intro xx yy h; rfl)
            focus kernel_rfl
            apply chP_pure
            focus
              intro xx w' hk hF
              apply wr_not; iterate 2 exact rfl
              apply wr_nil
              exact ⟨rfl, Keeps.refl _ _⟩
            focus (intro xx yy h; rfl)
            focus kernel_rfl
            apply chP_pure
            focus
              intro xx w' hk hF
              apply wr_pick (t := false); (iterate 2 exact rfl); with_reducible (conv => enter [6, 3]; whnf)
              apply wr_nil
              exact ⟨rfl, Keeps.refl _ _⟩
            focus (intro xx yy h; rfl)
            focus kernel_rfl
            apply chP_pure
            focus
              intro xx w' hk hF
              apply wr_move; exact rfl; with_reducible (conv => enter [6, 3]; whnf)
              apply wr_nil
              exact ⟨rfl, Keeps.refl _ _⟩
            focus (intro xx yy h; rfl)
            focus kernel_rfl
            apply chP_pure
            focus
              intro xx w' hk hF
              refine wr_loadAll (cs := GRd r) rfl rfl rfl ((hk0 hk).heap hcwy (fun h => h)) rfl ?_
              apply wr_nil
              exact ⟨rfl, Keeps.refl _ _⟩
            focus (intro xx yy h; rfl)
            focus kernel_rfl
            apply chP_pure
            focus
              intro xx w' hk hF
              apply wr_move; exact rfl; with_reducible (conv => enter [6, 3]; whnf)
              apply wr_nil
              exact ⟨rfl, Keeps.refl _ _⟩
            focus (intro xx yy h; rfl)
            focus kernel_rfl
            apply chP_pure
            focus
              intro xx w' hk hF
              apply wr_move; exact rfl; with_reducible (conv => enter [6, 3]; whnf)
              apply wr_nil
              exact ⟨rfl, Keeps.refl _ _⟩
            focus (intro xx yy h; rfl)
            focus kernel_rfl
            apply chP_pure
            focus
              intro xx w' hk hF
              refine wr_indexAddr (i := 0) rfl rfl rfl hjl ?_
              apply wr_nil
              exact ⟨rfl, Keeps.refl _ _⟩
            focus (intro xx yy h; rfl)
            focus kernel_rfl
            apply chP_pure
            focus
              intro xx w' hk hF
              refine wr_loadElem (G := GRd) (n := l'.length) rfl rfl GRd_len rfl ((hk0 hk).heap hb9 (fun h => h)) hr9 hjl hx rfl ?_
              apply wr_nil
              exact ⟨rfl, Keeps.refl _ _⟩
            focus (intro xx yy h; rfl)
            focus kernel_rfl
            apply chP_pure
            focus
              intro xx w' hk hF
              refine wr_structNe (c := false) rfl rfl rfl rd_stood rd_guard (rd_eqOk r r _) (by simp) ?_
              apply wr_nil
              exact ⟨rfl, Keeps.refl _ _⟩
            focus (intro xx yy h; rfl)
            focus kernel_rfl
            apply chP_pure
            focus
              intro xx w' hk hF
              apply wr_pick (t := false); (iterate 2 exact rfl); with_reducible (conv => enter [6, 3]; whnf)
              apply wr_nil
              exact ⟨rfl, Keeps.refl _ _⟩
            focus (intro xx yy h; rfl)
            focus kernel_rfl
            refine chP_nil ?_
            intro xx w10 hk10' hF
            have hk10 := hk0 hk10'
            have hkf := (hk9.trans hkwy).trans hk10
            (repeat first | (apply wr_move; exact rfl; with_reducible (conv => enter [6, 3]; whnf)) | (apply wr_assign; exact rfl; with_reducible (conv => enter [6, 3]; whnf)) | apply wr_end | apply wc_region | apply wc_skip | (apply wr_add; (iterate 3 exact rfl); exact w_fit (by dsimp only [kIn]; first | done | omega)) | (apply wc_false; exact rfl))
            exact ⟨0 + 1, by omega, ⟨by trivial, by omega, h8.keep hkf, own_keep hown8 hkf (fun _ _ h => h), hkw8.trans hkf⟩, rfl, rfl, rfl, rfl, rfl, rfl, trivial⟩
          | j + 1, hjl, hx =>
            obtain ⟨q, hq⟩ : ∃ q, l'[j]? = some q := ⟨l'[j]'(by omega), by simp [show j < l'.length by omega]⟩
            have hrise := names_rise hnd hKO hp hsort hq hx
            refine wc_drawP (l := _) 40 _ (by kernel_rfl) (by kernel_rfl) rfl (by kernel_rfl) (by kernel_rfl) (by decide) ?_
            apply chP_pure
            focus
              intro xx w' hk hF
              apply wr_move; exact rfl; with_reducible (conv => enter [6, 3]; whnf)
              apply wr_nil
              exact ⟨rfl, Keeps.refl _ _⟩
            focus (intro xx yy h; rfl)
            focus kernel_rfl
            apply chP_pure
            focus
              intro xx w' hk hF
              apply wr_move; exact rfl; with_reducible (conv => enter [6, 3]; whnf)
              apply wr_nil
              exact ⟨rfl, Keeps.refl _ _⟩
            focus (intro xx yy h; rfl)
            focus kernel_rfl
            apply chP_pure
            focus
              intro xx w' hk hF
              refine wr_indexAddr (i := (j + 1)) rfl rfl rfl hjl ?_
              apply wr_nil
              exact ⟨rfl, Keeps.refl _ _⟩
            focus (intro xx yy h; rfl)
            focus kernel_rfl
            apply chP_pure
            focus
              intro xx w' hk hF
              refine wr_fieldAddr rfl rfl ?_
              apply wr_nil
              exact ⟨rfl, Keeps.refl _ _⟩
            focus (intro xx yy h; rfl)
            focus kernel_rfl
            apply chP_pure
            focus
              intro xx w' hk hF
              refine wr_fieldAddr rfl rfl ?_
              apply wr_nil
              exact ⟨rfl, Keeps.refl _ _⟩
            focus (intro xx yy h; rfl)
            focus kernel_rfl
            apply chP_pure
            focus
              intro xx w' hk hF
              refine wr_load (v := .int .i64 (kd : Int)) rfl rfl rfl ((hk0 hk).heap hb9 (fun h => h)) (cell_elem (v := .int .i64 (kd : Int)) GRd_len hr9 hjl hx (by rw [← hty]; rfl)) ?_
              apply wr_nil
              exact ⟨rfl, Keeps.refl _ _⟩
            focus (intro xx yy h; rfl)
            focus kernel_rfl
            apply chP_pure
            focus
              intro xx w' hk hF
              apply wr_move; exact rfl; with_reducible (conv => enter [6, 3]; whnf)
              apply wr_nil
              exact ⟨rfl, Keeps.refl _ _⟩
            focus (intro xx yy h; rfl)
            focus kernel_rfl
            apply chP_pure
            focus
              intro xx w' hk hF
              apply wr_cmp; (iterate 3 exact rfl); exact cmpF (by first | (dsimp only [cmpN]; done) | (dsimp only [cmpN]; omega))
              apply wr_nil
              exact ⟨rfl, Keeps.refl _ _⟩
            focus (intro xx yy h; rfl)
            focus kernel_rfl
            apply chP_pure
            focus
              intro xx w' hk hF
              apply wr_move; exact rfl; with_reducible (conv => enter [6, 3]; whnf)
              apply wr_nil
              exact ⟨rfl, Keeps.refl _ _⟩
            focus (intro xx yy h; rfl)
            focus kernel_rfl
            apply chP_pure
            focus
              intro xx w' hk hF
              apply wr_move; exact rfl; with_reducible (conv => enter [6, 3]; whnf)
              apply wr_nil
              exact ⟨rfl, Keeps.refl _ _⟩
            focus (intro xx yy h; rfl)
            focus kernel_rfl
            apply chP_pure
            focus
              intro xx w' hk hF
              apply wr_cmp; (iterate 3 exact rfl); exact cmpT (by dsimp only [cmpP]; omega)
              apply wr_nil
              exact ⟨rfl, Keeps.refl _ _⟩
            focus (intro xx yy h; rfl)
            focus kernel_rfl
            apply chP_pure
            focus
              intro xx w' hk hF
              apply wr_move; exact rfl; with_reducible (conv => enter [6, 3]; whnf)
              apply wr_nil
              exact ⟨rfl, Keeps.refl _ _⟩
            focus (intro xx yy h; rfl)
            focus kernel_rfl
            apply chP_pure
            focus
              intro xx w' hk hF
              apply wr_move; exact rfl; with_reducible (conv => enter [6, 3]; whnf)
              apply wr_nil
              exact ⟨rfl, Keeps.refl _ _⟩
            focus (intro xx yy h; rfl)
            focus kernel_rfl
            apply chP_pure
            focus
              intro xx w' hk hF
              apply wr_move; exact rfl; with_reducible (conv => enter [6, 3]; whnf)
              apply wr_nil
              exact ⟨rfl, Keeps.refl _ _⟩
            focus (intro xx yy h; rfl)
            focus kernel_rfl
            apply chP_pure
            focus
              intro xx w' hk hF
              refine wr_sub (c := (j : Int)) rfl rfl rfl (by rw [w_i64 (by omega)]; omega) ?_
              apply wr_nil
              exact ⟨rfl, Keeps.refl _ _⟩
            focus (intro xx yy h; rfl)
            focus kernel_rfl
            apply chP_pure
            focus
              intro xx w' hk hF
              refine wr_indexAddr (i := j) rfl rfl rfl (by omega) ?_
              apply wr_nil
              exact ⟨rfl, Keeps.refl _ _⟩
            focus (intro xx yy h; rfl)
            focus kernel_rfl
            apply chP_pure
            focus
              intro xx w' hk hF
              refine wr_fieldAddr rfl rfl ?_
              apply wr_nil
              exact ⟨rfl, Keeps.refl _ _⟩
            focus (intro xx yy h; rfl)
            focus kernel_rfl
            apply chP_pure
            focus
              intro xx w' hk hF
              refine wr_fieldAddr rfl rfl ?_
              apply wr_nil
              exact ⟨rfl, Keeps.refl _ _⟩
            focus (intro xx yy h; rfl)
            focus kernel_rfl
            apply chP_pure
            focus
              intro xx w' hk hF
              refine wr_load (v := S q.2.1) rfl rfl rfl ((hk0 hk).heap hb9 (fun h => h)) (cell_elem (v := S q.2.1) GRd_len hr9 (by omega) hq rfl) ?_
              apply wr_nil
              exact ⟨rfl, Keeps.refl _ _⟩
            focus (intro xx yy h; rfl)
            focus kernel_rfl
            apply chP_pure
            focus
              intro xx w' hk hF
              apply wr_move; exact rfl; with_reducible (conv => enter [6, 3]; whnf)
              apply wr_nil
              exact ⟨rfl, Keeps.refl _ _⟩
            focus (intro xx yy h; rfl)
            focus kernel_rfl
            apply chP_pure
            focus
              intro xx w' hk hF
              apply wr_move; exact rfl; with_reducible (conv => enter [6, 3]; whnf)
              apply wr_nil
              exact ⟨rfl, Keeps.refl _ _⟩
            focus (intro xx yy h; rfl)
            focus kernel_rfl
            apply chP_pure
            focus
              intro xx w' hk hF
              refine wr_indexAddr (i := j + 1) rfl rfl rfl hjl ?_
              apply wr_nil
              exact ⟨rfl, Keeps.refl _ _⟩
            focus (intro xx yy h; rfl)
            focus kernel_rfl
            apply chP_pure
            focus
              intro xx w' hk hF
              refine wr_fieldAddr rfl rfl ?_
              apply wr_nil
              exact ⟨rfl, Keeps.refl _ _⟩
            focus (intro xx yy h; rfl)
            focus kernel_rfl
            apply chP_pure
            focus
              intro xx w' hk hF
              refine wr_fieldAddr rfl rfl ?_
              apply wr_nil
              exact ⟨rfl, Keeps.refl _ _⟩
            focus (intro xx yy h; rfl)
            focus kernel_rfl
            apply chP_pure
            focus
              intro xx w' hk hF
              refine wr_load (v := S r.2.1) rfl rfl rfl ((hk0 hk).heap hb9 (fun h => h)) (cell_elem (v := S r.2.1) GRd_len hr9 hjl hx rfl) ?_
              apply wr_nil
              exact ⟨rfl, Keeps.refl _ _⟩
            focus (intro xx yy h; rfl)
            focus kernel_rfl
            apply chP_pure
            focus
              intro xx w' hk hF
              refine wr_strcmp (a := q.2.1) (b := r.2.1) (c := false) rfl rfl rfl (.inr (.inr (.inr ⟨rfl, by rw [Go.Proofs.bytesLess_eq, decide_eq_true hrise]; rfl⟩))) ?_
              apply wr_nil
              exact ⟨rfl, Keeps.refl _ _⟩
            focus (intro xx yy h; rfl)
            focus kernel_rfl
            apply chP_pure
            focus
              intro xx w' hk hF
              apply wr_pick (t := true); (iterate 2 exact rfl); with_reducible (conv => enter [6, 3]; whnf)
              apply wr_nil
              exact ⟨rfl, Keeps.refl _ _⟩
            focus (intro xx yy h; rfl)
            focus kernel_rfl
            apply chP_pure
            focus
              intro xx w' hk hF
              apply wr_pick (t := false); (iterate 2 exact rfl); with_reducible (conv => enter [6, 3]; whnf)
              apply wr_nil
              exact ⟨rfl, Keeps.refl _ _⟩
            focus (intro xx yy h; rfl)
            focus kernel_rfl
            apply chP_pure
            focus
              intro xx w' hk hF
              apply wr_move; exact rfl; with_reducible (conv => enter [6, 3]; whnf)
              apply wr_nil
              exact ⟨rfl, Keeps.refl _ _⟩
            focus (intro xx yy h; rfl)
            focus kernel_rfl
            apply chP_pure
            focus
              intro xx w' hk hF
              apply wr_move; exact rfl; with_reducible (conv => enter [6, 3]; whnf)
              apply wr_nil
              exact ⟨rfl, Keeps.refl _ _⟩
            focus (intro xx yy h; rfl)
            focus kernel_rfl
            apply chP_pure
            focus
              intro xx w' hk hF
              apply wr_not; iterate 2 exact rfl
              apply wr_nil
              exact ⟨rfl, Keeps.refl _ _⟩
            focus (intro xx yy h; rfl)
            focus kernel_rfl
            apply chP_pure
            focus
              intro xx w' hk hF
              apply wr_pick (t := false); (iterate 2 exact rfl); with_reducible (conv => enter [6, 3]; whnf)
              apply wr_nil
              exact ⟨rfl, Keeps.refl _ _⟩
            focus (intro xx yy h; rfl)
            focus kernel_rfl
            apply chP_pure
            focus
              intro xx w' hk hF
              apply wr_move; exact rfl; with_reducible (conv => enter [6, 3]; whnf)
              apply wr_nil
              exact ⟨rfl, Keeps.refl _ _⟩
            focus (intro xx yy h; rfl)
            focus kernel_rfl
            apply chP_pure
            focus
              intro xx w' hk hF
              refine wr_loadAll (cs := GRd r) rfl rfl rfl ((hk0 hk).heap hcwy (fun h => h)) rfl ?_
              apply wr_nil
              exact ⟨rfl, Keeps.refl _ _⟩
            focus (intro xx yy h; rfl)
            focus kernel_rfl
            apply chP_pure
            focus
              intro xx w' hk hF
              apply wr_move; exact rfl; with_reducible (conv => enter [6, 3]; whnf)
              apply wr_nil
              exact ⟨rfl, Keeps.refl _ _⟩
            focus (intro xx yy h; rfl)
            focus kernel_rfl
            apply chP_pure
            focus
              intro xx w' hk hF
              apply wr_move; exact rfl; with_reducible (conv => enter [6, 3]; whnf)
              apply wr_nil
              exact ⟨rfl, Keeps.refl _ _⟩
            focus (intro xx yy h; rfl)
            focus kernel_rfl
            apply chP_pure
            focus
              intro xx w' hk hF
              refine wr_indexAddr (i := (j + 1)) rfl rfl rfl hjl ?_
              apply wr_nil
              exact ⟨rfl, Keeps.refl _ _⟩
            focus (intro xx yy h; rfl)
            focus kernel_rfl
            apply chP_pure
            focus
              intro xx w' hk hF
              refine wr_loadElem (G := GRd) (n := l'.length) rfl rfl GRd_len rfl ((hk0 hk).heap hb9 (fun h => h)) hr9 hjl hx rfl ?_
              apply wr_nil
              exact ⟨rfl, Keeps.refl _ _⟩
            focus (intro xx yy h; rfl)
            focus kernel_rfl
            apply chP_pure
            focus
              intro xx w' hk hF
              refine wr_structNe (c := false) rfl rfl rfl rd_stood rd_guard (rd_eqOk r r _) (by simp) ?_
              apply wr_nil
              exact ⟨rfl, Keeps.refl _ _⟩
            focus (intro xx yy h; rfl)
            focus kernel_rfl
            apply chP_pure
            focus
              intro xx w' hk hF
              apply wr_pick (t := false); (iterate 2 exact rfl); with_reducible (conv => enter [6, 3]; whnf)
              apply wr_nil
              exact ⟨rfl, Keeps.refl _ _⟩
            focus (intro xx yy h; rfl)
            focus kernel_rfl
            refine chP_nil ?_
            intro xx w10 hk10' hF
            have hk10 := hk0 hk10'
            have hkf := (hk9.trans hkwy).trans hk10
            (repeat first | (apply wr_move; exact rfl; with_reducible (conv => enter [6, 3]; whnf)) | (apply wr_assign; exact rfl; with_reducible (conv => enter [6, 3]; whnf)) | apply wr_end | apply wc_region | apply wc_skip | (apply wr_add; (iterate 3 exact rfl); exact w_fit (by dsimp only [kIn]; first | done | omega)) | (apply wc_false; exact rfl))
            exact ⟨(j + 1) + 1, by omega, ⟨by trivial, by omega, h8.keep hkf, own_keep hown8 hkf (fun _ _ h => h), hkw8.trans hkf⟩, rfl, rfl, rfl, rfl, rfl, rfl, trivial⟩
        · (repeat first | (apply wr_move; exact rfl; with_reducible (conv => enter [6, 3]; whnf)) | (apply wr_assign; exact rfl; with_reducible (conv => enter [6, 3]; whnf)) | apply wr_end | apply wc_seq | apply wc_region | (apply wr_len_slice; iterate 2 exact rfl) | (apply wr_cmp; (iterate 3 exact rfl); exact cmpF (by dsimp only [cmpN]; first | done | omega)) | (apply wr_add; (iterate 3 exact rfl); exact w_fit (by dsimp only [kIn]; first | done | omega)) | (apply wc_false; exact rfl) | (apply wc_exit; try simp only [thenE, inBlockE, bodyQ, ↓reduceIte, Nat.reduceEqDiff]))
          exact ⟨kd + 1, by omega, ⟨by trivial, by omega, by omega, h8, hkw8⟩, rfl, rfl, rfl, rfl, trivial⟩
      · have hkd : kd = 6 := by omega
        subst hkd
        have hb6 : (belowK K ((6 : Nat) : Int) : Int) = (K.length : Int) := by rw [show ((6 : Nat) : Int) = 6 from rfl, below_all hKO]
        rw [hb6]
        (repeat first | (apply wr_move; exact rfl; with_reducible (conv => enter [6, 3]; whnf)) | apply wr_end | apply wc_seq | apply wc_region | (apply wr_cmp; (iterate 3 exact rfl); exact cmpF (by dsimp only [cmpN]; first | done | omega)) | (apply wc_false; exact rfl) | (apply wc_exit; try simp only [thenE, inBlockE, bodyQ, ↓reduceIte, Nat.reduceEqDiff]))
        refine wr_call (vs := [.pointer (some ⟨sb, 0, none⟩)]) rfl (len_ca h6) rfl ?_
        rintro v w16 ⟨rfl, rfl⟩
        (repeat first | (apply wr_move; exact rfl; with_reducible (conv => enter [6, 3]; whnf)) | (apply wr_cmp; (iterate 3 exact rfl); exact cmpT (by dsimp only [cmpP]; first | done | omega)) | (apply wr_pick (t := true); (iterate 2 exact rfl); with_reducible (conv => enter [6, 3]; whnf)))
        refine wr_call (vs := [.pointer (some ⟨sb, 0, none⟩), .int .i64 0]) rfl (list_ca 12 sortsR12 h6 0 (by omega) (by rw [listR_zero hKO]; decide)) rfl ?_
        rintro v w20 ⟨l, hl, _, hown, hk20⟩
        have hll : l.length = 0 := by rw [hl.length_eq, listR_zero hKO]; rfl
        obtain ⟨a, c, rfl⟩ := own_sl hown
        rw [hll]
        (repeat first | (apply wr_assign; exact rfl; with_reducible (conv => enter [6, 3]; whnf)) | apply wr_end | (apply wr_len_slice; iterate 2 exact rfl) | (apply wr_cmp; (iterate 3 exact rfl); exact cmpT (by dsimp only [cmpP]; first | done | omega)) | (apply wr_pick (t := true); (iterate 2 exact rfl); with_reducible (conv => enter [6, 3]; whnf)) | (apply wc_ret; try simp only [thenE, inBlockE, bodyQ]))
        exact leave1 (v := .bool true) rfl rfl ⟨rfl, hkw6.trans hk20⟩
end Go.Proofs.YtafnbbehmbmchaaDoor
