/- noriaref09: Union, Less. -/
import Derived.Test.YtajajahofkialaaGreatDoorHz
namespace Go.Proofs.YtajajahofkialaaGreatDoor
open Go Go.V Go.RowKit
set_option linter.unusedVariables false
set_option linter.unusedSimpArgs false

theorem srtd_snoc {l : TX} {x : TT} : srtd (l ++ [x]) = withL (srtd l) x := by
  refine rises_ext (srtd_rises _) (with_rises (srtd_rises _) x) fun z => ?_
  rw [mem_srtd, with_mem, mem_srtd]
  simp [or_comm]
theorem uA_le (L : List SE) : uA L L.length = (unionP (L.map (·.1))).1 := by unfold uA unionP; rw [List.take_length]
theorem uN_all (L : List SE) : srtd (uN L L.length) = (unionP (L.map (·.1))).2 := by unfold uN unionP; rw [List.take_length]
set_option maxRecDepth 100000 in
set_option maxHeartbeats 4000000 in
theorem refUnion_ca (L : List SE) (sl : Value) (w : World) (h : SetsAt w L sl) (hL : L.length ≤ 1000000) (hlen : (uN L L.length).length ≤ 1000000000) :
    Ca Tryz.prog 48 #[sl] w fun v w' => SetR w' (unionP (L.map (·.1))) v ∧ Keeps NoB w w' := by
  obtain ⟨hsl, hel⟩ := h
  obtain ⟨a, c, rfl, hc, hat⟩ := hsl.shape
  refine ca_of_body (args := [.slice a L.length c]) Tryz.func48 rfl (by kernel_rfl) ?_
  (repeat first | apply wr_end | apply wc_seq | apply wc_region | (apply wr_alloc; exact rfl))
  refine wr_name ?_
  intro w1 hw1
  obtain ⟨b1, hb1⟩ : ∃ b, b = w.heap.size := ⟨_, rfl⟩
  have hk1 : Keeps NoB w w1 := by rw [hw1]; exact (Keeps.refl NoB w).alloc _
  have hc1 : w1.heap[b1]? = some (.cells #[.bool false, .slice none 0 0] 29 (0, 0)) := by rw [hw1, hb1]; exact heap_alloc_same _ _
  rw [← hb1]
  clear hw1
  refine wr_build (ps := []) (cs := [.bool false, .slice none 0 0]) rfl rfl rfl rfl ?_
  (repeat first | (apply wr_alloc; exact rfl))
  refine wr_storeAll (cs := [.bool false, .slice none 0 0]) rfl rfl rfl (by intro u hu; simp at hu; rcases hu with rfl | rfl <;> rfl) (heap_alloc_same _ _) rfl rfl ?_
  refine wr_name ?_
  intro w2 hw2
  obtain ⟨b2, hb2⟩ : ∃ b2, b2 = w1.heap.size := ⟨_, rfl⟩
  have hk2 : Keeps NoB w1 w2 := by rw [hw2]; exact ((Keeps.refl NoB w1).alloc _).put _ (fun h => by omega)
  have hc2 : w2.heap[b2]? = some (.cells #[.bool false, .slice none 0 0] 29 (0, 0)) := by rw [hw2, hb2]; exact World.putObj_heap_same (by simp)
  rw [← hb2]
  clear hw2
  have hkw2 := hk1.trans hk2
  have hl1 := lt_of_heap hc1
  have hl2 := lt_of_heap hc2
  (repeat first | (apply wr_assign; exact rfl; with_reducible (conv => enter [6, 3]; whnf)) | apply wr_end | apply wc_seq | apply wc_region | apply wc_block)
  refine wc_loopL (α := Nat) (fun i => [(0, .slice a L.length c), (2, .pointer (some ⟨b1, 0, none⟩)), (3, .pointer (some ⟨b2, 0, none⟩)), (4, .int .i64 (i : Int))])
    (fun i ds w' => ds = [] ∧ i ≤ L.length ∧ (∃ an cn, w'.heap[b2]? = some (.cells #[.bool (uA L i), .slice an (srtd (uN L i)).length cn] 29 (0, 0)) ∧ SlR w' 1 (.slice an (srtd (uN L i)).length cn) (srtd (uN L i)).length (SL (srtd (uN L i)))) ∧ Keeps (· = b2) w2 w') (fun i => L.length - i) 0
    ⟨rfl, Nat.zero_le _, ⟨none, 0, by rw [show uN L 0 = [] from rfl, srtd_nil]; exact hc2, by rw [show uN L 0 = [] from rfl, srtd_nil]; exact ⟨rfl, none, 0, rfl, Nat.le_refl _, .inl ⟨rfl, fun _ => rfl⟩⟩⟩, Keeps.refl _ _⟩ ⟨rfl, rfl, rfl, rfl, trivial⟩ ?_
  rintro i ds f0 w3 ⟨rfl, hi, ⟨an, cn, hc3, hr3⟩, hk3⟩
  have hkw3 : Keeps NoB w w3 := Keeps.trans' hkw2 hk3 (fun j hj e => by have := hk1.size; omega)
  have hs3 := hk3.size
  by_cases hlt : i < L.length
  rotate_left
  · have he : i = L.length := by omega
    subst he
    have hc13 : w3.heap[b1]? = some (.cells #[.bool false, .slice none 0 0] 29 (0, 0)) := hk3.heap (hk2.heap hc1 (fun h => h)) (fun e => by omega)
    (repeat first | (apply wr_move; exact rfl; with_reducible (conv => enter [6, 3]; whnf)) | apply wr_end | apply wc_seq | apply wc_region | (apply wr_len_slice; iterate 2 exact rfl) | (apply wr_cmp; (iterate 3 exact rfl); exact cmpF (by dsimp only [cmpN]; first | done | omega)) | (apply wc_false; exact rfl) | (apply wc_exit; try simp only [thenE, inBlockE, bodyQ, ↓reduceIte, Nat.reduceEqDiff]))
    refine wr_loadAll (cs := [.bool (uA L L.length), .slice an (srtd (uN L L.length)).length cn]) rfl rfl rfl hc3 rfl ?_
    refine wr_storeAll (cs := [.bool (uA L L.length), .slice an (srtd (uN L L.length)).length cn]) rfl rfl rfl (by intro u hu; simp at hu; rcases hu with rfl | rfl <;> rfl) hc13 rfl rfl ?_
    (repeat first | apply wr_end | (apply wc_ret; try simp only [thenE, inBlockE, bodyQ]))
    have hltz := lt_of_heap hc13
    have hkz : Keeps (· = b1) w3 (w3.putObj b1 (.cells [.bool (uA L L.length), .slice an (srtd (uN L L.length)).length cn].toArray 29 (0, 0))) := (Keeps.refl _ w3).put _ (fun _ => rfl)
    refine leaveN (vs := [SetV (uA L L.length) (.slice an (srtd (uN L L.length)).length cn)]) (resv_cells (cs := [.bool (uA L L.length), .slice an (srtd (uN L L.length)).length cn]) rfl rfl (World.putObj_heap_same hltz) rfl resv_nil) ⟨⟨.slice an (srtd (uN L L.length)).length cn, by rw [← uA_le]; rfl, ?_⟩, Keeps.trans' hkw3 hkz (fun i hi e => by omega)⟩
    rw [← uN_all]
    exact slS_put hc13 (by intro x h; cases h) rfl hr3 hkz
  obtain ⟨b, o, rfl, cur, e, fr, hb, hr⟩ := hat (by omega)
  obtain ⟨x, hx⟩ : ∃ x, L[i]? = some x := ⟨L[i], by simp [hlt]⟩
  have hb3 := hkw3.heap hb (fun h => h)
  have hxs0 := hel x (List.mem_of_getElem? hx)
  have hsA := uA_step hx
  have hsN := uN_step hx
  have hN1 := uN_le L (i + 1)
  rw [hsN, List.length_append] at hN1
  obtain ⟨⟨xa, xl⟩, xv⟩ := x
  dsimp only at hxs0 hsA hsN hN1
  obtain ⟨ax, cx, rfl, _, hatx⟩ := slr_strs hxs0
  have hv0 : cur[o + i * 2 + 0]? = some (.bool xa) := cell_elem (g := GSt) (k := 2) (n := L.length) (i := i) (j := 0) GSt_len hr hlt hx rfl
  have hv1 : cur[o + i * 2 + 1]? = some (.slice ax xl.length cx) := cell_elem (g := GSt) (k := 2) (n := L.length) (i := i) (j := 1) GSt_len hr hlt hx rfl
  have hP : ∀ (B : Bool) w4, (uA L i || xa) = B → w4 = w3.putObj b2 (.cells ((#[.bool (uA L i), .slice an (srtd (uN L i)).length cn] : Array Value).setIfInBounds (0 + 0) (.bool B)) 29 (0, 0)) → w4.heap[b2]? = some (.cells #[.bool (uA L (i + 1)), .slice an (srtd (uN L i)).length cn] 29 (0, 0)) ∧ SlR w4 1 (.slice an (srtd (uN L i)).length cn) (srtd (uN L i)).length (SL (srtd (uN L i))) ∧ Keeps (· = b2) w3 w4 := by
    intro B w4 hB hw4
    have hk4 : Keeps (· = b2) w3 w4 := by rw [hw4]; exact (Keeps.refl _ _).put _ (fun _ => rfl)
    exact ⟨by rw [hw4, World.putObj_heap_same (lt_of_heap hc3), hsA, hB]; rfl, slS_put hc3 (by intro x h; cases h) rfl hr3 hk4, hk4⟩
  cases hA : uA L i with
  | true =>
    rw [hA] at hc3 hP
    (repeat first | (apply wr_move; exact rfl; with_reducible (conv => enter [6, 3]; whnf)) | (apply wr_assign; exact rfl; with_reducible (conv => enter [6, 3]; whnf)) | apply wr_end | apply wc_seq | apply wc_region | apply wc_skip | apply wc_block | (apply wr_fieldAddr; iterate 2 exact rfl) | (apply wr_len_slice; iterate 2 exact rfl) | (apply wr_load; (iterate 3 exact rfl); (focus repeat first | with_reducible assumption | exact heap_alloc_same _ _ | exact World.putObj_heap_same (by first | omega | (simp only [World.size_alloc, World.putObj_size, ne_eq]; omega)) | ((first | refine hAl ?_ ?_ | refine hPu ?_ ?_); focus first | omega | (simp only [World.size_alloc, World.putObj_size, ne_eq]; omega))); exact rfl; conv => enter [6, 3]; whnf) | (apply wr_cmp; (iterate 3 exact rfl); exact cmpT (by dsimp only [cmpP]; first | done | omega)) | (apply wr_pick (t := true); (iterate 2 exact rfl); with_reducible (conv => enter [6, 3]; whnf)) | (apply wr_store; (iterate 3 exact rfl); (first | exact rfl | with_reducible assumption); (focus repeat first | with_reducible assumption | exact heap_alloc_same _ _ | exact World.putObj_heap_same (by first | omega | (simp only [World.size_alloc, World.putObj_size, ne_eq]; omega)) | ((first | refine hAl ?_ ?_ | refine hPu ?_ ?_); focus first | omega | (simp only [World.size_alloc, World.putObj_size, ne_eq]; omega))); exact rfl) | (apply wc_true; exact rfl) | (apply wr_skip; exact rfl))
    skip
    refine wc_loopL (α := Nat) (fun k => [(0, .slice (some ⟨b, o, none⟩) L.length c), (2, .pointer (some ⟨b1, 0, none⟩)), (3, .pointer (some ⟨b2, 0, none⟩)), (4, .int .i64 (i : Int)), (5, .int .i64 (k : Int))])
      (fun k ds w' => ds = [] ∧ k ≤ xl.length ∧ (∃ an cn, w'.heap[b2]? = some (.cells #[.bool (uA L (i + 1)), .slice an (srtd (uN L i ++ xl.take k)).length cn] 29 (0, 0)) ∧ SlR w' 1 (.slice an (srtd (uN L i ++ xl.take k)).length cn) (srtd (uN L i ++ xl.take k)).length (SL (srtd (uN L i ++ xl.take k)))) ∧ Keeps (· = b2) w3 w') (fun k => xl.length - k) 0
      ⟨rfl, Nat.zero_le _, ⟨an, cn, by rw [List.take_zero, List.append_nil]; exact (hP true _ (by simp) rfl).1, by rw [List.take_zero, List.append_nil]; exact (hP true _ (by simp) rfl).2.1⟩, (hP true _ (by simp) rfl).2.2⟩ ⟨rfl, rfl, rfl, rfl, rfl, trivial⟩ ?_
    rintro k ds f1 w5 ⟨rfl, hkl, ⟨an5, cn5, hc5, hr5⟩, hk5⟩
    have hkw5 : Keeps NoB w w5 := Keeps.trans' hkw3 hk5 (fun j hj e => by have := hk1.size; omega)
    have hb5 := hkw5.heap hb (fun h => h)
    have hl5 := lt_of_heap hc5
    have hbb5 : b2 < w5.heap.size := hl5
    obtain ⟨R, hR⟩ : ∃ R, R = srtd (uN L i ++ xl.take k) := ⟨_, rfl⟩
    rw [← hR] at hc5 hr5
    have hRl : R.length ≤ 2000000000 := by
      have h1 := srtd_le (uN L i ++ xl.take k)
      rw [← hR, List.length_append, List.length_take] at h1
      omega
    by_cases hlk : k < xl.length
    rotate_left
    · have hke : k = xl.length := by omega
      have hRN : srtd (uN L (i + 1)) = R := by rw [hR, hke, List.take_length, hsN]
      (repeat first | (apply wr_move; exact rfl; with_reducible (conv => enter [6, 3]; whnf)) | apply wc_seq | apply wc_region)
      refine wr_indexAddr (i := i) rfl rfl rfl hlt ?_
      refine wr_fieldAddr rfl rfl ?_
      refine wr_load (v := .slice ax xl.length cx) rfl rfl rfl hb5 hv1 ?_
      (repeat first | (apply wr_move; exact rfl; with_reducible (conv => enter [6, 3]; whnf)) | (apply wr_assign; exact rfl; with_reducible (conv => enter [6, 3]; whnf)) | apply wr_end | apply wc_region | (apply wr_len_slice; iterate 2 exact rfl) | (apply wr_cmp; (iterate 3 exact rfl); exact cmpF (by dsimp only [cmpN]; first | done | omega)) | (apply wr_add; (iterate 3 exact rfl); exact w_fit (by dsimp only [kIn]; first | done | omega)) | (apply wc_false; exact rfl) | (apply wc_exit; try simp only [thenE, inBlockE, bodyQ, ↓reduceIte, Nat.reduceEqDiff]))
      exact ⟨i + 1, by omega, ⟨by trivial, hlt, ⟨an5, cn5, by rw [hRN]; exact hc5, by rw [hRN]; exact hr5⟩, hk3.trans hk5⟩, rfl, rfl, rfl, by simp, trivial⟩
    obtain ⟨bx, ox, rfl, curx, ex, frx, hbx, hrx⟩ := hatx (by omega)
    obtain ⟨z, hz⟩ : ∃ z, xl[k]? = some z := ⟨xl[k], by simp [hlk]⟩
    have hbx5 := hkw5.heap hbx (fun h => h)
    have hcz := hrx k z hz
    have hRs : srtd (uN L i ++ xl.take (k + 1)) = withL R z := by
      rw [List.take_add_one, hz, hR, ← srtd_snoc, List.append_assoc]; rfl
    (repeat first | (apply wr_move; exact rfl; with_reducible (conv => enter [6, 3]; whnf)) | apply wc_seq | apply wc_region)
    refine wr_indexAddr (i := i) rfl rfl rfl hlt ?_
    refine wr_fieldAddr rfl rfl ?_
    refine wr_load (v := .slice (some ⟨bx, ox, none⟩) xl.length cx) rfl rfl rfl hb5 hv1 ?_
    (repeat first | apply wr_end | apply wc_seq | apply wc_skip | apply wc_block | (apply wr_len_slice; iterate 2 exact rfl) | (apply wr_cmp; (iterate 3 exact rfl); exact cmpT (by dsimp only [cmpP]; first | done | omega)) | (apply wc_true; exact rfl))
    have hk0 : ∀ {w'}, Keeps NoB w5.drew w' → Keeps NoB w5 w' := fun hk => (Keeps.refl NoB w5).drew.trans hk
    refine wc_drawP (l := _) 12 _ (by kernel_rfl) (by kernel_rfl) rfl (by kernel_rfl) (by kernel_rfl) (by decide) ?_
    apply chP_pure
    focus
      intro xx w' hk hF
      refine wr_fieldAddr rfl rfl ?_
      apply wr_nil
      exact ⟨rfl, Keeps.refl _ _⟩
    focus (intro xx yy h; rfl)
    focus kernel_rfl
    apply chP_pure
    focus
      intro xx w' hk hF
      refine wr_load (v := .slice an5 R.length cn5) rfl rfl rfl ((hk0 hk).heap hc5 (fun h => h)) rfl ?_
      apply wr_nil
      exact ⟨rfl, Keeps.refl _ _⟩
    focus (intro xx yy h; rfl)
    focus kernel_rfl
    apply chP_pure
    focus
      intro xx w' hk hF
      apply wr_move; exact rfl; with_reducible (conv => enter [6, 3]; whnf)
      apply wr_nil
      exact ⟨rfl, Keeps.refl _ _⟩
    focus (intro xx yy h; rfl)
    focus kernel_rfl
    apply chP_pure
    focus
      intro xx w' hk hF
      apply wr_move; exact rfl; with_reducible (conv => enter [6, 3]; whnf)
      apply wr_nil
      exact ⟨rfl, Keeps.refl _ _⟩
    focus (intro xx yy h; rfl)
    focus kernel_rfl
    apply chP_pure
    focus
      intro xx w' hk hF
      refine wr_indexAddr (i := i) rfl rfl rfl hlt ?_
      apply wr_nil
      exact ⟨rfl, Keeps.refl _ _⟩
    focus (intro xx yy h; rfl)
    focus kernel_rfl
    apply chP_pure
    focus
      intro xx w' hk hF
      refine wr_fieldAddr rfl rfl ?_
      apply wr_nil
      exact ⟨rfl, Keeps.refl _ _⟩
    focus (intro xx yy h; rfl)
    focus kernel_rfl
    apply chP_pure
    focus
      intro xx w' hk hF
      refine wr_load (v := .slice (some ⟨bx, ox, none⟩) xl.length cx) rfl rfl rfl ((hk0 hk).heap hb5 (fun h => h)) hv1 ?_
      apply wr_nil
      exact ⟨rfl, Keeps.refl _ _⟩
    focus (intro xx yy h; rfl)
    focus kernel_rfl
    apply chP_pure
    focus
      intro xx w' hk hF
      apply wr_move; exact rfl; with_reducible (conv => enter [6, 3]; whnf)
      apply wr_nil
      exact ⟨rfl, Keeps.refl _ _⟩
    focus (intro xx yy h; rfl)
    focus kernel_rfl
    apply chP_pure
    focus
      intro xx w' hk hF
      refine wr_indexAddr (i := k) rfl rfl rfl hlk ?_
      apply wr_nil
      exact ⟨rfl, Keeps.refl _ _⟩
    focus (intro xx yy h; rfl)
    focus kernel_rfl
    apply chP_pure
    focus
      intro xx w' hk hF
      refine wr_load (v := S z) rfl rfl rfl ((hk0 hk).heap hbx5 (fun h => h)) hcz ?_
      apply wr_nil
      exact ⟨rfl, Keeps.refl _ _⟩
    focus (intro xx yy h; rfl)
    focus kernel_rfl
    refine chP_fact (fun y => y) (fun y w' => SlR w' 1 y (withL R z).length (SL (withL R z))) (fun y w' w'' h k => h.keep k (fun _ _ h => h)) ?_ ?_
    focus
      intro xx w' hk hF
      refine wr_call (vs := [.slice an5 R.length cn5, S z]) rfl (with_ca R z _ w' (hr5.keep (hk0 hk) (fun _ _ h => h)) (by omega)) rfl ?_
      rintro v w'' ⟨hR, hkc⟩
      apply wr_nil
      exact ⟨v, rfl, hR, hkc⟩
    apply chP_pure
    focus
      intro xx w' hk hF
      refine wr_fieldAddr rfl rfl ?_
      apply wr_nil
      exact ⟨rfl, Keeps.refl _ _⟩
    focus (intro xx yy h; rfl)
    focus kernel_rfl
    refine chP_nil ?_
    intro xx w6 hk6 hF
    have hr6 : SlR w6 1 (xx 10) (withL R z).length (SL (withL R z)) := hF 10 (by decide)
    obtain ⟨a6, c6, e6, _, _⟩ := slr_strs hr6
    rw [e6] at hr6
    have hc6 := (hk0 hk6).heap hc5 (fun h => h)
    refine wr_store (v := .slice a6 (withL R z).length c6) rfl rfl (by exact e6) rfl hc6 rfl ?_
    refine wr_name ?_
    intro w7 hw7
    have hk7 : Keeps (· = b2) w6 w7 := by rw [hw7]; exact (Keeps.refl _ _).put _ (fun _ => rfl)
    have hc7 : w7.heap[b2]? = some (.cells #[.bool (uA L (i + 1)), .slice a6 (withL R z).length c6] 29 (0, 0)) := by
      rw [hw7, World.putObj_heap_same (lt_of_heap hc6)]; rfl
    clear hw7
    have hr7 := slS_put hc6 (by intro x h; cases h) rfl hr6 hk7
    refine wr_keep [(0, .slice (some ⟨b, o, none⟩) L.length c), (2, .pointer (some ⟨b1, 0, none⟩)), (3, .pointer (some ⟨b2, 0, none⟩)), (4, .int .i64 (i : Int)), (5, .int .i64 (k : Int))] ⟨rfl, rfl, rfl, rfl, rfl, trivial⟩ ?_
    intro f2
    (repeat first | (apply wr_move; exact rfl; with_reducible (conv => enter [6, 3]; whnf)) | (apply wr_assign; exact rfl; with_reducible (conv => enter [6, 3]; whnf)) | apply wr_end | apply wc_region | (apply wr_add; (iterate 3 exact rfl); exact w_fit (by dsimp only [kIn]; first | done | omega)) | (apply wr_nil; try simp only [thenE, inBlockE, bodyQ]))
    exact ⟨k + 1, by omega, ⟨by trivial, hlk, ⟨a6, c6, by rw [hRs]; exact hc7, by rw [hRs]; exact hr7⟩, hk5.trans ((hk0 hk6).upD.trans hk7)⟩, rfl, rfl, rfl, rfl, by simp, trivial⟩
  | false =>
    rw [hA] at hc3 hP
    (repeat first | (apply wr_move; exact rfl; with_reducible (conv => enter [6, 3]; whnf)) | apply wr_end | apply wc_seq | apply wc_region | apply wc_skip | apply wc_block | (apply wr_fieldAddr; iterate 2 exact rfl) | (apply wr_len_slice; iterate 2 exact rfl) | (apply wr_load; (iterate 3 exact rfl); (focus repeat first | with_reducible assumption | exact heap_alloc_same _ _ | exact World.putObj_heap_same (by first | omega | (simp only [World.size_alloc, World.putObj_size, ne_eq]; omega)) | ((first | refine hAl ?_ ?_ | refine hPu ?_ ?_); focus first | omega | (simp only [World.size_alloc, World.putObj_size, ne_eq]; omega))); exact rfl; conv => enter [6, 3]; whnf) | (apply wr_cmp; (iterate 3 exact rfl); exact cmpT (by dsimp only [cmpP]; first | done | omega)) | (apply wc_true; exact rfl))
    refine wr_indexAddr (i := i) rfl rfl rfl hlt ?_
    refine wr_fieldAddr rfl rfl ?_
    refine wr_load (v := .bool xa) rfl rfl rfl hb3 hv0 ?_
    (repeat first | (apply wr_assign; exact rfl; with_reducible (conv => enter [6, 3]; whnf)) | apply wr_end | apply wc_seq | apply wc_region | apply wc_block | (apply wr_fieldAddr; iterate 2 exact rfl) | (apply wr_pick (t := false); (iterate 2 exact rfl); with_reducible (conv => enter [6, 3]; whnf)) | (apply wr_store; (iterate 3 exact rfl); (first | exact rfl | with_reducible assumption); (focus repeat first | with_reducible assumption | exact heap_alloc_same _ _ | exact World.putObj_heap_same (by first | omega | (simp only [World.size_alloc, World.putObj_size, ne_eq]; omega)) | ((first | refine hAl ?_ ?_ | refine hPu ?_ ?_); focus first | omega | (simp only [World.size_alloc, World.putObj_size, ne_eq]; omega))); exact rfl))
    refine wc_loopL (α := Nat) (fun k => [(0, .slice (some ⟨b, o, none⟩) L.length c), (2, .pointer (some ⟨b1, 0, none⟩)), (3, .pointer (some ⟨b2, 0, none⟩)), (4, .int .i64 (i : Int)), (5, .int .i64 (k : Int))])
      (fun k ds w' => ds = [] ∧ k ≤ xl.length ∧ (∃ an cn, w'.heap[b2]? = some (.cells #[.bool (uA L (i + 1)), .slice an (srtd (uN L i ++ xl.take k)).length cn] 29 (0, 0)) ∧ SlR w' 1 (.slice an (srtd (uN L i ++ xl.take k)).length cn) (srtd (uN L i ++ xl.take k)).length (SL (srtd (uN L i ++ xl.take k)))) ∧ Keeps (· = b2) w3 w') (fun k => xl.length - k) 0
      ⟨rfl, Nat.zero_le _, ⟨an, cn, by rw [List.take_zero, List.append_nil]; exact (hP xa _ (by simp) rfl).1, by rw [List.take_zero, List.append_nil]; exact (hP xa _ (by simp) rfl).2.1⟩, (hP xa _ (by simp) rfl).2.2⟩ ⟨rfl, rfl, rfl, rfl, rfl, trivial⟩ ?_
    rintro k ds f1 w5 ⟨rfl, hkl, ⟨an5, cn5, hc5, hr5⟩, hk5⟩
    have hkw5 : Keeps NoB w w5 := Keeps.trans' hkw3 hk5 (fun j hj e => by have := hk1.size; omega)
    have hb5 := hkw5.heap hb (fun h => h)
    have hl5 := lt_of_heap hc5
    have hbb5 : b2 < w5.heap.size := hl5
    obtain ⟨R, hR⟩ : ∃ R, R = srtd (uN L i ++ xl.take k) := ⟨_, rfl⟩
    rw [← hR] at hc5 hr5
    have hRl : R.length ≤ 2000000000 := by
      have h1 := srtd_le (uN L i ++ xl.take k)
      rw [← hR, List.length_append, List.length_take] at h1
      omega
    by_cases hlk : k < xl.length
    rotate_left
    · have hke : k = xl.length := by omega
      have hRN : srtd (uN L (i + 1)) = R := by rw [hR, hke, List.take_length, hsN]
      (repeat first | (apply wr_move; exact rfl; with_reducible (conv => enter [6, 3]; whnf)) | apply wc_seq | apply wc_region)
      refine wr_indexAddr (i := i) rfl rfl rfl hlt ?_
      refine wr_fieldAddr rfl rfl ?_
      refine wr_load (v := .slice ax xl.length cx) rfl rfl rfl hb5 hv1 ?_
      (repeat first | (apply wr_move; exact rfl; with_reducible (conv => enter [6, 3]; whnf)) | (apply wr_assign; exact rfl; with_reducible (conv => enter [6, 3]; whnf)) | apply wr_end | apply wc_region | (apply wr_len_slice; iterate 2 exact rfl) | (apply wr_cmp; (iterate 3 exact rfl); exact cmpF (by dsimp only [cmpN]; first | done | omega)) | (apply wr_add; (iterate 3 exact rfl); exact w_fit (by dsimp only [kIn]; first | done | omega)) | (apply wc_false; exact rfl) | (apply wc_exit; try simp only [thenE, inBlockE, bodyQ, ↓reduceIte, Nat.reduceEqDiff]))
      exact ⟨i + 1, by omega, ⟨by trivial, hlt, ⟨an5, cn5, by rw [hRN]; exact hc5, by rw [hRN]; exact hr5⟩, hk3.trans hk5⟩, rfl, rfl, rfl, by simp, trivial⟩
    obtain ⟨bx, ox, rfl, curx, ex, frx, hbx, hrx⟩ := hatx (by omega)
    obtain ⟨z, hz⟩ : ∃ z, xl[k]? = some z := ⟨xl[k], by simp [hlk]⟩
    have hbx5 := hkw5.heap hbx (fun h => h)
    have hcz := hrx k z hz
    have hRs : srtd (uN L i ++ xl.take (k + 1)) = withL R z := by
      rw [List.take_add_one, hz, hR, ← srtd_snoc, List.append_assoc]; rfl
    (repeat first | (apply wr_move; exact rfl; with_reducible (conv => enter [6, 3]; whnf)) | apply wc_seq | apply wc_region)
    refine wr_indexAddr (i := i) rfl rfl rfl hlt ?_
    refine wr_fieldAddr rfl rfl ?_
    refine wr_load (v := .slice (some ⟨bx, ox, none⟩) xl.length cx) rfl rfl rfl hb5 hv1 ?_
    (repeat first | apply wr_end | apply wc_seq | apply wc_skip | apply wc_block | (apply wr_len_slice; iterate 2 exact rfl) | (apply wr_cmp; (iterate 3 exact rfl); exact cmpT (by dsimp only [cmpP]; first | done | omega)) | (apply wc_true; exact rfl))
    have hk0 : ∀ {w'}, Keeps NoB w5.drew w' → Keeps NoB w5 w' := fun hk => (Keeps.refl NoB w5).drew.trans hk
    refine wc_drawP (l := _) 12 _ (by kernel_rfl) (by kernel_rfl) rfl (by kernel_rfl) (by kernel_rfl) (by decide) ?_
    apply chP_pure
    focus
      intro xx w' hk hF
      refine wr_fieldAddr rfl rfl ?_
      apply wr_nil
      exact ⟨rfl, Keeps.refl _ _⟩
    focus (intro xx yy h; rfl)
    focus kernel_rfl
    apply chP_pure
    focus
      intro xx w' hk hF
      refine wr_load (v := .slice an5 R.length cn5) rfl rfl rfl ((hk0 hk).heap hc5 (fun h => h)) rfl ?_
      apply wr_nil
      exact ⟨rfl, Keeps.refl _ _⟩
    focus (intro xx yy h; rfl)
    focus kernel_rfl
    apply chP_pure
    focus
      intro xx w' hk hF
      apply wr_move; exact rfl; with_reducible (conv => enter [6, 3]; whnf)
      apply wr_nil
      exact ⟨rfl, Keeps.refl _ _⟩
    focus (intro xx yy h; rfl)
    focus kernel_rfl
    apply chP_pure
    focus
      intro xx w' hk hF
      apply wr_move; exact rfl; with_reducible (conv => enter [6, 3]; whnf)
      apply wr_nil
      exact ⟨rfl, Keeps.refl _ _⟩
    focus (intro xx yy h; rfl)
    focus kernel_rfl
    apply chP_pure
    focus
      intro xx w' hk hF
      refine wr_indexAddr (i := i) rfl rfl rfl hlt ?_
      apply wr_nil
      exact ⟨rfl, Keeps.refl _ _⟩
    focus (intro xx yy h; rfl)
    focus kernel_rfl
    apply chP_pure
    focus
      intro xx w' hk hF
      refine wr_fieldAddr rfl rfl ?_
      apply wr_nil
      exact ⟨rfl, Keeps.refl _ _⟩
    focus (intro xx yy h; rfl)
    focus kernel_rfl
    apply chP_pure
    focus
      intro xx w' hk hF
      refine wr_load (v := .slice (some ⟨bx, ox, none⟩) xl.length cx) rfl rfl rfl ((hk0 hk).heap hb5 (fun h => h)) hv1 ?_
      apply wr_nil
      exact ⟨rfl, Keeps.refl _ _⟩
    focus (intro xx yy h; rfl)
    focus kernel_rfl
    apply chP_pure
    focus
      intro xx w' hk hF
      apply wr_move; exact rfl; with_reducible (conv => enter [6, 3]; whnf)
      apply wr_nil
      exact ⟨rfl, Keeps.refl _ _⟩
    focus (intro xx yy h; rfl)
    focus kernel_rfl
    apply chP_pure
    focus
      intro xx w' hk hF
      refine wr_indexAddr (i := k) rfl rfl rfl hlk ?_
      apply wr_nil
      exact ⟨rfl, Keeps.refl _ _⟩
    focus (intro xx yy h; rfl)
    focus kernel_rfl
    apply chP_pure
    focus
      intro xx w' hk hF
      refine wr_load (v := S z) rfl rfl rfl ((hk0 hk).heap hbx5 (fun h => h)) hcz ?_
      apply wr_nil
      exact ⟨rfl, Keeps.refl _ _⟩
    focus (intro xx yy h; rfl)
    focus kernel_rfl
    refine chP_fact (fun y => y) (fun y w' => SlR w' 1 y (withL R z).length (SL (withL R z))) (fun y w' w'' h k => h.keep k (fun _ _ h => h)) ?_ ?_
    focus
      intro xx w' hk hF
      refine wr_call (vs := [.slice an5 R.length cn5, S z]) rfl (with_ca R z _ w' (hr5.keep (hk0 hk) (fun _ _ h => h)) (by omega)) rfl ?_
      rintro v w'' ⟨hR, hkc⟩
      apply wr_nil
      exact ⟨v, rfl, hR, hkc⟩
    apply chP_pure
    focus
      intro xx w' hk hF
      refine wr_fieldAddr rfl rfl ?_
      apply wr_nil
      exact ⟨rfl, Keeps.refl _ _⟩
    focus (intro xx yy h; rfl)
    focus kernel_rfl
    refine chP_nil ?_
    intro xx w6 hk6 hF
    have hr6 : SlR w6 1 (xx 10) (withL R z).length (SL (withL R z)) := hF 10 (by decide)
    obtain ⟨a6, c6, e6, _, _⟩ := slr_strs hr6
    rw [e6] at hr6
    have hc6 := (hk0 hk6).heap hc5 (fun h => h)
    refine wr_store (v := .slice a6 (withL R z).length c6) rfl rfl (by exact e6) rfl hc6 rfl ?_
    refine wr_name ?_
    intro w7 hw7
    have hk7 : Keeps (· = b2) w6 w7 := by rw [hw7]; exact (Keeps.refl _ _).put _ (fun _ => rfl)
    have hc7 : w7.heap[b2]? = some (.cells #[.bool (uA L (i + 1)), .slice a6 (withL R z).length c6] 29 (0, 0)) := by
      rw [hw7, World.putObj_heap_same (lt_of_heap hc6)]; rfl
    clear hw7
    have hr7 := slS_put hc6 (by intro x h; cases h) rfl hr6 hk7
    refine wr_keep [(0, .slice (some ⟨b, o, none⟩) L.length c), (2, .pointer (some ⟨b1, 0, none⟩)), (3, .pointer (some ⟨b2, 0, none⟩)), (4, .int .i64 (i : Int)), (5, .int .i64 (k : Int))] ⟨rfl, rfl, rfl, rfl, rfl, trivial⟩ ?_
    intro f2
    (repeat first | (apply wr_move; exact rfl; with_reducible (conv => enter [6, 3]; whnf)) | (apply wr_assign; exact rfl; with_reducible (conv => enter [6, 3]; whnf)) | apply wr_end | apply wc_region | (apply wr_add; (iterate 3 exact rfl); exact w_fit (by dsimp only [kIn]; first | done | omega)) | (apply wr_nil; try simp only [thenE, inBlockE, bodyQ]))
    exact ⟨k + 1, by omega, ⟨by trivial, hlk, ⟨a6, c6, by rw [hRs]; exact hc7, by rw [hRs]; exact hr7⟩, hk5.trans ((hk0 hk6).upD.trans hk7)⟩, rfl, rfl, rfl, rfl, by simp, trivial⟩
set_option maxRecDepth 100000 in
set_option maxHeartbeats 4000000 in
theorem refLess_ca (s t : PS) (sv tv : Value) (w : World) (hs : SetR w s sv) (ht : SetR w t tv) (hsn : s.2.length ≤ 1000000000) (htn : t.2.length ≤ 1000000000) :
    Ca Tryz.prog 45 #[sv, tv] w fun v w' => SetR w' (lessP s t) v ∧ Keeps NoB w w' := by
  obtain ⟨av, rfl, has⟩ := hs
  obtain ⟨bv, rfl, hbs⟩ := ht
  obtain ⟨aA, al⟩ := s
  obtain ⟨bA, bl⟩ := t
  dsimp only at has hbs hsn htn ⊢
  obtain ⟨an, cn, rfl, _, hata⟩ := slr_strs has
  obtain ⟨bn, dn, rfl, _, _⟩ := slr_strs hbs
  refine ca_of_body (args := [SetV aA (.slice an al.length cn), SetV bA (.slice bn bl.length dn)]) Tryz.func45 rfl (by kernel_rfl) ?_
  apply wc_seq
  apply wc_region
  refine wr_box (v := SetV aA (.slice an al.length cn)) rfl rfl ?_
  obtain ⟨w1, hw1⟩ : ∃ w1, w1 = w.alloc (.cells (SetV aA (.slice an al.length cn)).cells 29) := ⟨_, rfl⟩
  obtain ⟨b1, hb1⟩ : ∃ b1, b1 = w.heap.size := ⟨_, rfl⟩
  have hk1 : Keeps NoB w w1 := by rw [hw1]; exact (Keeps.refl NoB w).alloc _
  have hc1 : w1.heap[b1]? = some (.cells #[.bool aA, .slice an al.length cn] 29 (0, 0)) := by rw [hw1, hb1]; exact heap_alloc_same _ _
  rw [← hw1, ← hb1]
  clear hw1
  refine wr_box (v := SetV bA (.slice bn bl.length dn)) rfl rfl ?_
  obtain ⟨w2, hw2⟩ : ∃ w2, w2 = w1.alloc (.cells (SetV bA (.slice bn bl.length dn)).cells 29) := ⟨_, rfl⟩
  obtain ⟨b2, hb2⟩ : ∃ b2, b2 = w1.heap.size := ⟨_, rfl⟩
  have hk2 : Keeps NoB w1 w2 := by rw [hw2]; exact (Keeps.refl NoB w1).alloc _
  have hc2 : w2.heap[b2]? = some (.cells #[.bool bA, .slice bn bl.length dn] 29 (0, 0)) := by rw [hw2, hb2]; exact heap_alloc_same _ _
  rw [← hw2, ← hb2]
  clear hw2
  apply wr_alloc
  focus exact rfl
  refine wr_name ?_
  intro w3 hw3
  obtain ⟨b3, hb3⟩ : ∃ b, b = w2.heap.size := ⟨_, rfl⟩
  have hk3 : Keeps NoB w2 w3 := by rw [hw3]; exact (Keeps.refl NoB w2).alloc _
  have hc3 : w3.heap[b3]? = some (.cells #[.bool false, .slice none 0 0] 29 (0, 0)) := by rw [hw3, hb3]; exact heap_alloc_same _ _
  rw [← hb3]
  clear hw3
  have hkw3 := (hk1.trans hk2).trans hk3
  have hc13 := hk3.heap (hk2.heap hc1 (fun h => h)) (fun h => h)
  have hc23 := hk3.heap hc2 (fun h => h)
  have hl3 := lt_of_heap hc3
  cases aA with
  | true =>
    (repeat first | (apply wr_move; exact rfl; with_reducible (conv => enter [6, 3]; whnf)) | apply wr_end | apply wc_seq | apply wc_region | (apply wr_fieldAddr; iterate 2 exact rfl) | (apply wr_not; iterate 2 exact rfl) | (apply wr_load; (iterate 3 exact rfl); (focus repeat first | with_reducible assumption | exact heap_alloc_same _ _ | exact World.putObj_heap_same (by first | omega | (simp only [World.size_alloc, World.putObj_size, ne_eq]; omega)) | ((first | refine hAl ?_ ?_ | refine hPu ?_ ?_); focus first | omega | (simp only [World.size_alloc, World.putObj_size, ne_eq]; omega))); exact rfl; conv => enter [6, 3]; whnf) | (apply wr_pick (t := true); (iterate 2 exact rfl); with_reducible (conv => enter [6, 3]; whnf)))
    refine wr_build (ps := [(0, .bool (!bA))]) (cs := [.bool (!bA), .slice none 0 0]) rfl rfl rfl rfl ?_
    (repeat first | (apply wr_alloc; exact rfl))
    refine wr_storeAll (cs := [.bool (!bA), .slice none 0 0]) rfl rfl rfl (by intro u hu; simp at hu; rcases hu with rfl | rfl <;> rfl) (heap_alloc_same _ _) rfl rfl ?_
    refine wr_name ?_
    intro w4 hw4
    obtain ⟨b4, hb4⟩ : ∃ b, b = w3.heap.size := ⟨_, rfl⟩
    have hk4 : Keeps NoB w3 w4 := by rw [hw4]; exact ((Keeps.refl NoB w3).alloc _).put _ (fun h => by omega)
    have hc4 : w4.heap[b4]? = some (.cells #[.bool (!bA), .slice none 0 0] 29 (0, 0)) := by rw [hw4, hb4]; exact World.putObj_heap_same (by simp)
    rw [← hb4]
    clear hw4
    have hkw4 := hkw3.trans hk4
    have hl4 := lt_of_heap hc4
    have hwl : w.heap.size ≤ w3.heap.size := hkw3.size
    (repeat first | (apply wr_assign; exact rfl; with_reducible (conv => enter [6, 3]; whnf)) | apply wr_end | apply wc_seq | apply wc_region | apply wc_block)
    refine wc_loopL (α := Nat) (fun i => [(2, .pointer (some ⟨b1, 0, none⟩)), (3, .pointer (some ⟨b2, 0, none⟩)), (4, .pointer (some ⟨b3, 0, none⟩)), (5, .pointer (some ⟨b4, 0, none⟩)), (6, .int .i64 (i : Int))])
      (fun i ds w' => ds = [] ∧ i ≤ al.length ∧ (∃ nv, w'.heap[b4]? = some (.cells #[.bool (!bA), nv] 29 (0, 0)) ∧ w'.ownsRow w4.heap.size 9 1 nv (keepF (fun x => decide (x ∈ bl)) (al.take i)).length (SL (keepF (fun x => decide (x ∈ bl)) (al.take i)))) ∧ Keeps (· = b4) w4 w') (fun i => al.length - i) 0
      ⟨rfl, Nat.zero_le _, ⟨_, hc4, own_nil _ _ _ _⟩, Keeps.refl _ _⟩ ⟨rfl, rfl, rfl, rfl, rfl, trivial⟩ ?_
    rintro i ds f0 w5 ⟨rfl, hi, ⟨nv, hc5, ho5⟩, hk5⟩
    have hkw5 : Keeps NoB w w5 := Keeps.trans' hkw4 hk5 (fun j hj e => by omega)
    have hk35 : Keeps NoB w3 w5 := Keeps.trans' hk4 hk5 (fun j hj e => by omega)
    have hc15 := hk35.heap hc13 (fun h => h)
    have hc25 := hk35.heap hc23 (fun h => h)
    have hs5 := hk5.size
    have hlK : (keepF (fun x => decide (x ∈ bl)) (al.take i)).length ≤ i := keepF_le _ _ _
    obtain ⟨nn, cc, rfl, _, _⟩ := slr_strs (SlR.of_own ho5)
    by_cases hlt : i < al.length
    rotate_left
    · have he : i = al.length := by omega
      rw [he, List.take_length] at ho5 hc5
      have hc35 : w5.heap[b3]? = some (.cells #[.bool false, .slice none 0 0] 29 (0, 0)) := hk35.heap hc3 (fun h => h)
      (repeat first | (apply wr_move; exact rfl; with_reducible (conv => enter [6, 3]; whnf)) | apply wr_end | apply wc_seq | apply wc_region | (apply wr_fieldAddr; iterate 2 exact rfl) | (apply wr_len_slice; iterate 2 exact rfl) | (apply wr_load; (iterate 3 exact rfl); (focus repeat first | with_reducible assumption | exact heap_alloc_same _ _ | exact World.putObj_heap_same (by first | omega | (simp only [World.size_alloc, World.putObj_size, ne_eq]; omega)) | ((first | refine hAl ?_ ?_ | refine hPu ?_ ?_); focus first | omega | (simp only [World.size_alloc, World.putObj_size, ne_eq]; omega))); exact rfl; conv => enter [6, 3]; whnf) | (apply wr_cmp; (iterate 3 exact rfl); exact cmpF (by dsimp only [cmpN]; first | done | omega)) | (apply wc_false; exact rfl) | (apply wc_exit; try simp only [thenE, inBlockE, bodyQ, ↓reduceIte, Nat.reduceEqDiff]))
      refine wr_loadAll (cs := [.bool (!bA), .slice nn (keepF (fun x => decide (x ∈ bl)) al).length cc]) rfl rfl rfl hc5 rfl ?_
      refine wr_storeAll (cs := [.bool (!bA), .slice nn (keepF (fun x => decide (x ∈ bl)) al).length cc]) rfl rfl rfl (by intro u hu; simp at hu; rcases hu with rfl | rfl <;> rfl) hc35 rfl rfl ?_
      (repeat first | apply wr_end | (apply wc_ret; try simp only [thenE, inBlockE, bodyQ]))
      have hltz := lt_of_heap hc35
      have hkz : Keeps (· = b3) w5 (w5.putObj b3 (.cells [.bool (!bA), .slice nn (keepF (fun x => decide (x ∈ bl)) al).length cc].toArray 29 (0, 0))) := (Keeps.refl _ w5).put _ (fun _ => rfl)
      have hr5 := SlR.of_own ho5
      exact leaveN (vs := [SetV (!bA) (.slice nn (keepF (fun x => decide (x ∈ bl)) al).length cc)]) (resv_cells (cs := [.bool (!bA), .slice nn (keepF (fun x => decide (x ∈ bl)) al).length cc]) rfl rfl (World.putObj_heap_same hltz) rfl resv_nil) ⟨⟨.slice nn (keepF (fun x => decide (x ∈ bl)) al).length cc, rfl, slS_put hc35 (by intro x h; cases h) rfl hr5 hkz⟩, Keeps.trans' hkw5 hkz (fun i hi e => by have := hk1.size; have := hk2.size; omega)⟩
    obtain ⟨ba, oa, rfl, cura, ea, fra, hba, hra⟩ := hata (by omega)
    obtain ⟨x, hx⟩ : ∃ x, al[i]? = some x := ⟨al[i], by simp [hlt]⟩
    have hba5 := hkw5.heap hba (fun h => h)
    have hcx := hra i x hx
    have hbs5 := hbs.keep hkw5 (fun _ _ h => h)
    have hsn := keepF_snoc (fun x => decide (x ∈ bl)) al hx
    have hk0 : ∀ {w'}, Keeps NoB w5.drew w' → Keeps NoB w5 w' := fun hk => (Keeps.refl NoB w5).drew.trans hk
    (repeat first | (apply wr_move; exact rfl; with_reducible (conv => enter [6, 3]; whnf)) | apply wr_end | apply wc_seq | apply wc_region | apply wc_skip | apply wc_block | (apply wr_fieldAddr; iterate 2 exact rfl) | (apply wr_len_slice; iterate 2 exact rfl) | (apply wr_load; (iterate 3 exact rfl); (focus repeat first | with_reducible assumption | exact heap_alloc_same _ _ | exact World.putObj_heap_same (by first | omega | (simp only [World.size_alloc, World.putObj_size, ne_eq]; omega)) | ((first | refine hAl ?_ ?_ | refine hPu ?_ ?_); focus first | omega | (simp only [World.size_alloc, World.putObj_size, ne_eq]; omega))); exact rfl; conv => enter [6, 3]; whnf) | (apply wr_cmp; (iterate 3 exact rfl); exact cmpT (by dsimp only [cmpP]; first | done | omega)) | (apply wc_true; exact rfl))
    refine wc_drawP (l := _) 8 _ (by kernel_rfl) (by kernel_rfl) rfl (by kernel_rfl) (by kernel_rfl) (by decide) ?_
    apply chP_pure
    focus
      intro xx w' hk hF
      refine wr_fieldAddr rfl rfl ?_
      apply wr_nil
      exact ⟨rfl, Keeps.refl _ _⟩
    focus (intro xx yy h; rfl)
    focus kernel_rfl
    apply chP_pure
    focus
      intro xx w' hk hF
      refine wr_load (v := .slice bn bl.length dn) rfl rfl rfl ((hk0 hk).heap hc25 (fun h => h)) rfl ?_
      apply wr_nil
      exact ⟨rfl, Keeps.refl _ _⟩
    focus (intro xx yy h; rfl)
    focus kernel_rfl
    apply chP_pure
    focus
      intro xx w' hk hF
      refine wr_fieldAddr rfl rfl ?_
      apply wr_nil
      exact ⟨rfl, Keeps.refl _ _⟩
    focus (intro xx yy h; rfl)
    focus kernel_rfl
    apply chP_pure
    focus
      intro xx w' hk hF
      refine wr_load (v := .slice (some ⟨ba, oa, none⟩) al.length cn) rfl rfl rfl ((hk0 hk).heap hc15 (fun h => h)) rfl ?_
      apply wr_nil
      exact ⟨rfl, Keeps.refl _ _⟩
    focus (intro xx yy h; rfl)
    focus kernel_rfl
    apply chP_pure
    focus
      intro xx w' hk hF
      apply wr_move; exact rfl; with_reducible (conv => enter [6, 3]; whnf)
      apply wr_nil
      exact ⟨rfl, Keeps.refl _ _⟩
    focus (intro xx yy h; rfl)
    focus kernel_rfl
    apply chP_pure
    focus
      intro xx w' hk hF
      refine wr_indexAddr (i := i) rfl rfl rfl hlt ?_
      apply wr_nil
      exact ⟨rfl, Keeps.refl _ _⟩
    focus (intro xx yy h; rfl)
    focus kernel_rfl
    apply chP_pure
    focus
      intro xx w' hk hF
      refine wr_load (v := S x) rfl rfl rfl ((hk0 hk).heap hba5 (fun h => h)) hcx ?_
      apply wr_nil
      exact ⟨rfl, Keeps.refl _ _⟩
    focus (intro xx yy h; rfl)
    focus kernel_rfl
    apply chP_pure
    focus
      intro xx w' hk hF
      refine wr_call (vs := [.slice bn bl.length dn, S x]) rfl (refListed_ca bl x _ w' (hbs5.keep (hk0 hk) (fun _ _ h => h)) (by omega)) rfl ?_
      rintro v w'' ⟨rfl, rfl⟩
      apply wr_nil
      exact ⟨rfl, Keeps.refl _ _⟩
    focus (intro xx yy h; rfl)
    focus kernel_rfl
    refine chP_nil ?_
    intro xx w6 hk6 hF
    clear hF
    have hk56 := hk0 hk6
    clear hk6 hk0
    have hc6 := hk56.heap hc5 (fun h => h)
    have ho6 := own_keep ho5 hk56 (fun _ _ h => h)
    have hc16 := hk56.heap hc15 (fun h => h)
    have hba6 := hk56.heap hba5 (fun h => h)
    have hs6 := hk56.size
    by_cases hxb : x ∈ bl
    · rw [decide_eq_true hxb, if_pos rfl, List.append_nil] at hsn
      rw [decide_eq_true hxb]
      (repeat first | (apply wr_move; exact rfl; with_reducible (conv => enter [6, 3]; whnf)) | (apply wr_assign; exact rfl; with_reducible (conv => enter [6, 3]; whnf)) | apply wr_end | apply wc_seq | apply wc_region | apply wc_skip | (apply wr_not; iterate 2 exact rfl) | (apply wr_add; (iterate 3 exact rfl); exact w_fit (by dsimp only [kIn]; first | done | omega)) | (apply wc_false; exact rfl))
      exact ⟨i + 1, by omega, ⟨by trivial, hlt, ⟨_, hc6, by rw [hsn]; exact ho6⟩, hk5.trans hk56.upD⟩, rfl, rfl, rfl, rfl, by simp, trivial⟩
    rw [decide_eq_false hxb, if_neg (by decide)] at hsn
    rw [decide_eq_false hxb]
    have hk0 : ∀ {w'}, Keeps NoB w6.drew w' → Keeps NoB w6 w' := fun hk => (Keeps.refl NoB w6).drew.trans hk
    (repeat first | (apply wr_move; exact rfl; with_reducible (conv => enter [6, 3]; whnf)) | (apply wr_assign; exact rfl; with_reducible (conv => enter [6, 3]; whnf)) | apply wr_end | apply wc_seq | apply wc_region | (apply wr_not; iterate 2 exact rfl) | (apply wc_true; exact rfl))
    refine wc_drawP (l := _) 8 _ (by kernel_rfl) (by kernel_rfl) rfl (by kernel_rfl) (by kernel_rfl) (by decide) ?_
    apply chP_pure
    focus
      intro xx w' hk hF
      refine wr_fieldAddr rfl rfl ?_
      apply wr_nil
      exact ⟨rfl, Keeps.refl _ _⟩
    focus (intro xx yy h; rfl)
    focus kernel_rfl
    apply chP_pure
    focus
      intro xx w' hk hF
      refine wr_load (v := .slice nn (keepF (fun x => decide (x ∈ bl)) (al.take i)).length cc) rfl rfl rfl ((hk0 hk).heap hc6 (fun h => h)) rfl ?_
      apply wr_nil
      exact ⟨rfl, Keeps.refl _ _⟩
    focus (intro xx yy h; rfl)
    focus kernel_rfl
    apply chP_pure
    focus
      intro xx w' hk hF
      refine wr_fieldAddr rfl rfl ?_
      apply wr_nil
      exact ⟨rfl, Keeps.refl _ _⟩
    focus (intro xx yy h; rfl)
    focus kernel_rfl
    apply chP_pure
    focus
      intro xx w' hk hF
      refine wr_load (v := .slice (some ⟨ba, oa, none⟩) al.length cn) rfl rfl rfl ((hk0 hk).heap hc16 (fun h => h)) rfl ?_
      apply wr_nil
      exact ⟨rfl, Keeps.refl _ _⟩
    focus (intro xx yy h; rfl)
    focus kernel_rfl
    apply chP_pure
    focus
      intro xx w' hk hF
      apply wr_move; exact rfl; with_reducible (conv => enter [6, 3]; whnf)
      apply wr_nil
      exact ⟨rfl, Keeps.refl _ _⟩
    focus (intro xx yy h; rfl)
    focus kernel_rfl
    apply chP_pure
    focus
      intro xx w' hk hF
      refine wr_indexAddr (i := i) rfl rfl rfl hlt ?_
      apply wr_nil
      exact ⟨rfl, Keeps.refl _ _⟩
    focus (intro xx yy h; rfl)
    focus kernel_rfl
    apply chP_pure
    focus
      intro xx w' hk hF
      refine wr_load (v := S x) rfl rfl rfl ((hk0 hk).heap hba6 (fun h => h)) hcx ?_
      apply wr_nil
      exact ⟨rfl, Keeps.refl _ _⟩
    focus (intro xx yy h; rfl)
    focus kernel_rfl
    refine chP_fact (fun y => y) (fun y w' => SlR w' 1 y 1 (SL [x])) (fun y w' w'' h k => h.keep k (fun _ _ h => h)) ?_ ?_
    focus
      intro xx w' hk hF
      refine wr_buildSlice (vs := [S x]) rfl rfl (by intro v hv; simp at hv; subst hv; rfl) rfl (by decide) (by decide) (by decide) ?_
      apply wr_nil
      exact ⟨_, rfl, ⟨rfl, _, _, rfl, Nat.le_refl _, .inr ⟨_, 0, _, _, _, rfl, heap_alloc_same _ _, fun j hj => by rw [Nat.zero_add, List.getElem?_toArray]; rfl⟩⟩, (Keeps.refl NoB w').alloc _⟩
    refine chP_nil ?_
    intro xx w7 hk7 hF
    have hx7 : SlR w7 1 (xx 7) 1 (SL [x]) := hF 7 (by decide)
    have hk67 := hk0 hk7
    have hc7 := hk67.heap hc6 (fun h => h)
    have ho7 := own_keep ho6 hk67 (fun _ _ h => h)
    have hs7 := hk67.size
    refine wr_appendR (v := .slice nn (keepF (fun x => decide (x ∈ bl)) (al.take i)).length cc) (u := xx 7) (base := w4.heap.size) (n := (keepF (fun x => decide (x ∈ bl)) (al.take i)).length) (m := 1) (xs := SL (keepF (fun x => decide (x ∈ bl)) (al.take i))) (news := SL [x]) rfl rfl ho7 rfl hx7 (SL_one _) rfl (by decide) (by omega) (by omega) (by omega) ?_
    intro v8 w8 ho8 hk8 _
    have hc8 := hk8.heap hc7 (fun e => by have := own_ge ho7 e; omega)
    refine wr_fieldAddr rfl rfl ?_
    refine wr_store (v := v8) rfl rfl rfl (own_one ho8) hc8 rfl ?_
    refine wr_name ?_
    intro w9 hw9
    have hk9 : Keeps (· = b4) w8 w9 := by rw [hw9]; exact (Keeps.refl _ _).put _ (fun _ => rfl)
    have hc9 : w9.heap[b4]? = some (.cells #[.bool (!bA), v8] 29 (0, 0)) := by
      rw [hw9, World.putObj_heap_same (lt_of_heap hc8)]; rfl
    clear hw9
    have ho9 := own_keep ho8 hk9 (fun b hb e => by have := own_ge ho8 hb; omega)
    refine wr_keep [(2, .pointer (some ⟨b1, 0, none⟩)), (3, .pointer (some ⟨b2, 0, none⟩)), (4, .pointer (some ⟨b3, 0, none⟩)), (5, .pointer (some ⟨b4, 0, none⟩)), (6, .int .i64 (i : Int))] ⟨rfl, rfl, rfl, rfl, rfl, trivial⟩ ?_
    intro f2
    (repeat first | (apply wr_move; exact rfl; with_reducible (conv => enter [6, 3]; whnf)) | (apply wr_assign; exact rfl; with_reducible (conv => enter [6, 3]; whnf)) | apply wr_end | apply wc_region | (apply wr_add; (iterate 3 exact rfl); exact w_fit (by dsimp only [kIn]; first | done | omega)) | (apply wr_nil; try simp only [thenE, inBlockE, bodyQ]))
    have hk49 : Keeps (· = b4) w4 w9 := (Keeps.trans' (hk5.trans (hk56.trans hk67).upD) hk8 (fun q hq e => by have := own_ge ho7 e; omega)).trans hk9
    exact ⟨i + 1, by omega, ⟨by trivial, hlt, ⟨v8, hc9, by rw [hsn, List.length_append, ← SL_append]; exact ho9⟩, hk49⟩, rfl, rfl, rfl, rfl, by simp, trivial⟩
  | false =>
    (repeat first | (apply wr_move; exact rfl; with_reducible (conv => enter [6, 3]; whnf)) | apply wr_end | apply wc_seq | apply wc_region | (apply wr_fieldAddr; iterate 2 exact rfl) | (apply wr_load; (iterate 3 exact rfl); (focus repeat first | with_reducible assumption | exact heap_alloc_same _ _ | exact World.putObj_heap_same (by first | omega | (simp only [World.size_alloc, World.putObj_size, ne_eq]; omega)) | ((first | refine hAl ?_ ?_ | refine hPu ?_ ?_); focus first | omega | (simp only [World.size_alloc, World.putObj_size, ne_eq]; omega))); exact rfl; conv => enter [6, 3]; whnf) | (apply wr_pick (t := false); (iterate 2 exact rfl); with_reducible (conv => enter [6, 3]; whnf)) | (apply wr_skip; exact rfl))
    refine wr_build (ps := [(0, .bool false)]) (cs := [.bool false, .slice none 0 0]) rfl rfl rfl rfl ?_
    (repeat first | (apply wr_alloc; exact rfl))
    refine wr_storeAll (cs := [.bool false, .slice none 0 0]) rfl rfl rfl (by intro u hu; simp at hu; rcases hu with rfl | rfl <;> rfl) (heap_alloc_same _ _) rfl rfl ?_
    refine wr_name ?_
    intro w4 hw4
    obtain ⟨b4, hb4⟩ : ∃ b, b = w3.heap.size := ⟨_, rfl⟩
    have hk4 : Keeps NoB w3 w4 := by rw [hw4]; exact ((Keeps.refl NoB w3).alloc _).put _ (fun h => by omega)
    have hc4 : w4.heap[b4]? = some (.cells #[.bool false, .slice none 0 0] 29 (0, 0)) := by rw [hw4, hb4]; exact World.putObj_heap_same (by simp)
    rw [← hb4]
    clear hw4
    have hkw4 := hkw3.trans hk4
    have hl4 := lt_of_heap hc4
    have hwl : w.heap.size ≤ w3.heap.size := hkw3.size
    (repeat first | (apply wr_assign; exact rfl; with_reducible (conv => enter [6, 3]; whnf)) | apply wr_end | apply wc_seq | apply wc_region | apply wc_block)
    refine wc_loopL (α := Nat) (fun i => [(2, .pointer (some ⟨b1, 0, none⟩)), (3, .pointer (some ⟨b2, 0, none⟩)), (4, .pointer (some ⟨b3, 0, none⟩)), (5, .pointer (some ⟨b4, 0, none⟩)), (6, .int .i64 (i : Int))])
      (fun i ds w' => ds = [] ∧ i ≤ al.length ∧ (∃ nv, w'.heap[b4]? = some (.cells #[.bool false, nv] 29 (0, 0)) ∧ w'.ownsRow w4.heap.size 9 1 nv (keepF (fun x => decide (x ∈ bl)) (al.take i)).length (SL (keepF (fun x => decide (x ∈ bl)) (al.take i)))) ∧ Keeps (· = b4) w4 w') (fun i => al.length - i) 0
      ⟨rfl, Nat.zero_le _, ⟨_, hc4, own_nil _ _ _ _⟩, Keeps.refl _ _⟩ ⟨rfl, rfl, rfl, rfl, rfl, trivial⟩ ?_
    rintro i ds f0 w5 ⟨rfl, hi, ⟨nv, hc5, ho5⟩, hk5⟩
    have hkw5 : Keeps NoB w w5 := Keeps.trans' hkw4 hk5 (fun j hj e => by omega)
    have hk35 : Keeps NoB w3 w5 := Keeps.trans' hk4 hk5 (fun j hj e => by omega)
    have hc15 := hk35.heap hc13 (fun h => h)
    have hc25 := hk35.heap hc23 (fun h => h)
    have hs5 := hk5.size
    have hlK : (keepF (fun x => decide (x ∈ bl)) (al.take i)).length ≤ i := keepF_le _ _ _
    obtain ⟨nn, cc, rfl, _, _⟩ := slr_strs (SlR.of_own ho5)
    by_cases hlt : i < al.length
    rotate_left
    · have he : i = al.length := by omega
      rw [he, List.take_length] at ho5 hc5
      have hc35 : w5.heap[b3]? = some (.cells #[.bool false, .slice none 0 0] 29 (0, 0)) := hk35.heap hc3 (fun h => h)
      (repeat first | (apply wr_move; exact rfl; with_reducible (conv => enter [6, 3]; whnf)) | apply wr_end | apply wc_seq | apply wc_region | (apply wr_fieldAddr; iterate 2 exact rfl) | (apply wr_len_slice; iterate 2 exact rfl) | (apply wr_load; (iterate 3 exact rfl); (focus repeat first | with_reducible assumption | exact heap_alloc_same _ _ | exact World.putObj_heap_same (by first | omega | (simp only [World.size_alloc, World.putObj_size, ne_eq]; omega)) | ((first | refine hAl ?_ ?_ | refine hPu ?_ ?_); focus first | omega | (simp only [World.size_alloc, World.putObj_size, ne_eq]; omega))); exact rfl; conv => enter [6, 3]; whnf) | (apply wr_cmp; (iterate 3 exact rfl); exact cmpF (by dsimp only [cmpN]; first | done | omega)) | (apply wc_false; exact rfl) | (apply wc_exit; try simp only [thenE, inBlockE, bodyQ, ↓reduceIte, Nat.reduceEqDiff]))
      refine wr_loadAll (cs := [.bool false, .slice nn (keepF (fun x => decide (x ∈ bl)) al).length cc]) rfl rfl rfl hc5 rfl ?_
      refine wr_storeAll (cs := [.bool false, .slice nn (keepF (fun x => decide (x ∈ bl)) al).length cc]) rfl rfl rfl (by intro u hu; simp at hu; rcases hu with rfl | rfl <;> rfl) hc35 rfl rfl ?_
      (repeat first | apply wr_end | (apply wc_ret; try simp only [thenE, inBlockE, bodyQ]))
      have hltz := lt_of_heap hc35
      have hkz : Keeps (· = b3) w5 (w5.putObj b3 (.cells [.bool false, .slice nn (keepF (fun x => decide (x ∈ bl)) al).length cc].toArray 29 (0, 0))) := (Keeps.refl _ w5).put _ (fun _ => rfl)
      have hr5 := SlR.of_own ho5
      exact leaveN (vs := [SetV false (.slice nn (keepF (fun x => decide (x ∈ bl)) al).length cc)]) (resv_cells (cs := [.bool false, .slice nn (keepF (fun x => decide (x ∈ bl)) al).length cc]) rfl rfl (World.putObj_heap_same hltz) rfl resv_nil) ⟨⟨.slice nn (keepF (fun x => decide (x ∈ bl)) al).length cc, rfl, slS_put hc35 (by intro x h; cases h) rfl hr5 hkz⟩, Keeps.trans' hkw5 hkz (fun i hi e => by have := hk1.size; have := hk2.size; omega)⟩
    obtain ⟨ba, oa, rfl, cura, ea, fra, hba, hra⟩ := hata (by omega)
    obtain ⟨x, hx⟩ : ∃ x, al[i]? = some x := ⟨al[i], by simp [hlt]⟩
    have hba5 := hkw5.heap hba (fun h => h)
    have hcx := hra i x hx
    have hbs5 := hbs.keep hkw5 (fun _ _ h => h)
    have hsn := keepF_snoc (fun x => decide (x ∈ bl)) al hx
    have hk0 : ∀ {w'}, Keeps NoB w5.drew w' → Keeps NoB w5 w' := fun hk => (Keeps.refl NoB w5).drew.trans hk
    (repeat first | (apply wr_move; exact rfl; with_reducible (conv => enter [6, 3]; whnf)) | apply wr_end | apply wc_seq | apply wc_region | apply wc_skip | apply wc_block | (apply wr_fieldAddr; iterate 2 exact rfl) | (apply wr_len_slice; iterate 2 exact rfl) | (apply wr_load; (iterate 3 exact rfl); (focus repeat first | with_reducible assumption | exact heap_alloc_same _ _ | exact World.putObj_heap_same (by first | omega | (simp only [World.size_alloc, World.putObj_size, ne_eq]; omega)) | ((first | refine hAl ?_ ?_ | refine hPu ?_ ?_); focus first | omega | (simp only [World.size_alloc, World.putObj_size, ne_eq]; omega))); exact rfl; conv => enter [6, 3]; whnf) | (apply wr_cmp; (iterate 3 exact rfl); exact cmpT (by dsimp only [cmpP]; first | done | omega)) | (apply wc_true; exact rfl))
    refine wc_drawP (l := _) 8 _ (by kernel_rfl) (by kernel_rfl) rfl (by kernel_rfl) (by kernel_rfl) (by decide) ?_
    apply chP_pure
    focus
      intro xx w' hk hF
      refine wr_fieldAddr rfl rfl ?_
      apply wr_nil
      exact ⟨rfl, Keeps.refl _ _⟩
    focus (intro xx yy h; rfl)
    focus kernel_rfl
    apply chP_pure
    focus
      intro xx w' hk hF
      refine wr_load (v := .slice bn bl.length dn) rfl rfl rfl ((hk0 hk).heap hc25 (fun h => h)) rfl ?_
      apply wr_nil
      exact ⟨rfl, Keeps.refl _ _⟩
    focus (intro xx yy h; rfl)
    focus kernel_rfl
    apply chP_pure
    focus
      intro xx w' hk hF
      refine wr_fieldAddr rfl rfl ?_
      apply wr_nil
      exact ⟨rfl, Keeps.refl _ _⟩
    focus (intro xx yy h; rfl)
    focus kernel_rfl
    apply chP_pure
    focus
      intro xx w' hk hF
      refine wr_load (v := .slice (some ⟨ba, oa, none⟩) al.length cn) rfl rfl rfl ((hk0 hk).heap hc15 (fun h => h)) rfl ?_
      apply wr_nil
      exact ⟨rfl, Keeps.refl _ _⟩
    focus (intro xx yy h; rfl)
    focus kernel_rfl
    apply chP_pure
    focus
      intro xx w' hk hF
      apply wr_move; exact rfl; with_reducible (conv => enter [6, 3]; whnf)
      apply wr_nil
      exact ⟨rfl, Keeps.refl _ _⟩
    focus (intro xx yy h; rfl)
    focus kernel_rfl
    apply chP_pure
    focus
      intro xx w' hk hF
      refine wr_indexAddr (i := i) rfl rfl rfl hlt ?_
      apply wr_nil
      exact ⟨rfl, Keeps.refl _ _⟩
    focus (intro xx yy h; rfl)
    focus kernel_rfl
    apply chP_pure
    focus
      intro xx w' hk hF
      refine wr_load (v := S x) rfl rfl rfl ((hk0 hk).heap hba5 (fun h => h)) hcx ?_
      apply wr_nil
      exact ⟨rfl, Keeps.refl _ _⟩
    focus (intro xx yy h; rfl)
    focus kernel_rfl
    apply chP_pure
    focus
      intro xx w' hk hF
      refine wr_call (vs := [.slice bn bl.length dn, S x]) rfl (refListed_ca bl x _ w' (hbs5.keep (hk0 hk) (fun _ _ h => h)) (by omega)) rfl ?_
      rintro v w'' ⟨rfl, rfl⟩
      apply wr_nil
      exact ⟨rfl, Keeps.refl _ _⟩
    focus (intro xx yy h; rfl)
    focus kernel_rfl
    refine chP_nil ?_
    intro xx w6 hk6 hF
    clear hF
    have hk56 := hk0 hk6
    clear hk6 hk0
    have hc6 := hk56.heap hc5 (fun h => h)
    have ho6 := own_keep ho5 hk56 (fun _ _ h => h)
    have hc16 := hk56.heap hc15 (fun h => h)
    have hba6 := hk56.heap hba5 (fun h => h)
    have hs6 := hk56.size
    by_cases hxb : x ∈ bl
    · rw [decide_eq_true hxb, if_pos rfl, List.append_nil] at hsn
      rw [decide_eq_true hxb]
      (repeat first | (apply wr_move; exact rfl; with_reducible (conv => enter [6, 3]; whnf)) | (apply wr_assign; exact rfl; with_reducible (conv => enter [6, 3]; whnf)) | apply wr_end | apply wc_seq | apply wc_region | apply wc_skip | (apply wr_not; iterate 2 exact rfl) | (apply wr_add; (iterate 3 exact rfl); exact w_fit (by dsimp only [kIn]; first | done | omega)) | (apply wc_false; exact rfl))
      exact ⟨i + 1, by omega, ⟨by trivial, hlt, ⟨_, hc6, by rw [hsn]; exact ho6⟩, hk5.trans hk56.upD⟩, rfl, rfl, rfl, rfl, by simp, trivial⟩
    rw [decide_eq_false hxb, if_neg (by decide)] at hsn
    rw [decide_eq_false hxb]
    have hk0 : ∀ {w'}, Keeps NoB w6.drew w' → Keeps NoB w6 w' := fun hk => (Keeps.refl NoB w6).drew.trans hk
    (repeat first | (apply wr_move; exact rfl; with_reducible (conv => enter [6, 3]; whnf)) | (apply wr_assign; exact rfl; with_reducible (conv => enter [6, 3]; whnf)) | apply wr_end | apply wc_seq | apply wc_region | (apply wr_not; iterate 2 exact rfl) | (apply wc_true; exact rfl))
    refine wc_drawP (l := _) 8 _ (by kernel_rfl) (by kernel_rfl) rfl (by kernel_rfl) (by kernel_rfl) (by decide) ?_
    apply chP_pure
    focus
      intro xx w' hk hF
      refine wr_fieldAddr rfl rfl ?_
      apply wr_nil
      exact ⟨rfl, Keeps.refl _ _⟩
    focus (intro xx yy h; rfl)
    focus kernel_rfl
    apply chP_pure
    focus
      intro xx w' hk hF
      refine wr_load (v := .slice nn (keepF (fun x => decide (x ∈ bl)) (al.take i)).length cc) rfl rfl rfl ((hk0 hk).heap hc6 (fun h => h)) rfl ?_
      apply wr_nil
      exact ⟨rfl, Keeps.refl _ _⟩
    focus (intro xx yy h; rfl)
    focus kernel_rfl
    apply chP_pure
    focus
      intro xx w' hk hF
      refine wr_fieldAddr rfl rfl ?_
      apply wr_nil
      exact ⟨rfl, Keeps.refl _ _⟩
    focus (intro xx yy h; rfl)
    focus kernel_rfl
    apply chP_pure
    focus
      intro xx w' hk hF
      refine wr_load (v := .slice (some ⟨ba, oa, none⟩) al.length cn) rfl rfl rfl ((hk0 hk).heap hc16 (fun h => h)) rfl ?_
      apply wr_nil
      exact ⟨rfl, Keeps.refl _ _⟩
    focus (intro xx yy h; rfl)
    focus kernel_rfl
    apply chP_pure
    focus
      intro xx w' hk hF
      apply wr_move; exact rfl; with_reducible (conv => enter [6, 3]; whnf)
      apply wr_nil
      exact ⟨rfl, Keeps.refl _ _⟩
    focus (intro xx yy h; rfl)
    focus kernel_rfl
    apply chP_pure
    focus
      intro xx w' hk hF
      refine wr_indexAddr (i := i) rfl rfl rfl hlt ?_
      apply wr_nil
      exact ⟨rfl, Keeps.refl _ _⟩
    focus (intro xx yy h; rfl)
    focus kernel_rfl
    apply chP_pure
    focus
      intro xx w' hk hF
      refine wr_load (v := S x) rfl rfl rfl ((hk0 hk).heap hba6 (fun h => h)) hcx ?_
      apply wr_nil
      exact ⟨rfl, Keeps.refl _ _⟩
    focus (intro xx yy h; rfl)
    focus kernel_rfl
    refine chP_fact (fun y => y) (fun y w' => SlR w' 1 y 1 (SL [x])) (fun y w' w'' h k => h.keep k (fun _ _ h => h)) ?_ ?_
    focus
      intro xx w' hk hF
      refine wr_buildSlice (vs := [S x]) rfl rfl (by intro v hv; simp at hv; subst hv; rfl) rfl (by decide) (by decide) (by decide) ?_
      apply wr_nil
      exact ⟨_, rfl, ⟨rfl, _, _, rfl, Nat.le_refl _, .inr ⟨_, 0, _, _, _, rfl, heap_alloc_same _ _, fun j hj => by rw [Nat.zero_add, List.getElem?_toArray]; rfl⟩⟩, (Keeps.refl NoB w').alloc _⟩
    refine chP_nil ?_
    intro xx w7 hk7 hF
    have hx7 : SlR w7 1 (xx 7) 1 (SL [x]) := hF 7 (by decide)
    have hk67 := hk0 hk7
    have hc7 := hk67.heap hc6 (fun h => h)
    have ho7 := own_keep ho6 hk67 (fun _ _ h => h)
    have hs7 := hk67.size
    refine wr_appendR (v := .slice nn (keepF (fun x => decide (x ∈ bl)) (al.take i)).length cc) (u := xx 7) (base := w4.heap.size) (n := (keepF (fun x => decide (x ∈ bl)) (al.take i)).length) (m := 1) (xs := SL (keepF (fun x => decide (x ∈ bl)) (al.take i))) (news := SL [x]) rfl rfl ho7 rfl hx7 (SL_one _) rfl (by decide) (by omega) (by omega) (by omega) ?_
    intro v8 w8 ho8 hk8 _
    have hc8 := hk8.heap hc7 (fun e => by have := own_ge ho7 e; omega)
    refine wr_fieldAddr rfl rfl ?_
    refine wr_store (v := v8) rfl rfl rfl (own_one ho8) hc8 rfl ?_
    refine wr_name ?_
    intro w9 hw9
    have hk9 : Keeps (· = b4) w8 w9 := by rw [hw9]; exact (Keeps.refl _ _).put _ (fun _ => rfl)
    have hc9 : w9.heap[b4]? = some (.cells #[.bool false, v8] 29 (0, 0)) := by
      rw [hw9, World.putObj_heap_same (lt_of_heap hc8)]; rfl
    clear hw9
    have ho9 := own_keep ho8 hk9 (fun b hb e => by have := own_ge ho8 hb; omega)
    refine wr_keep [(2, .pointer (some ⟨b1, 0, none⟩)), (3, .pointer (some ⟨b2, 0, none⟩)), (4, .pointer (some ⟨b3, 0, none⟩)), (5, .pointer (some ⟨b4, 0, none⟩)), (6, .int .i64 (i : Int))] ⟨rfl, rfl, rfl, rfl, rfl, trivial⟩ ?_
    intro f2
    (repeat first | (apply wr_move; exact rfl; with_reducible (conv => enter [6, 3]; whnf)) | (apply wr_assign; exact rfl; with_reducible (conv => enter [6, 3]; whnf)) | apply wr_end | apply wc_region | (apply wr_add; (iterate 3 exact rfl); exact w_fit (by dsimp only [kIn]; first | done | omega)) | (apply wr_nil; try simp only [thenE, inBlockE, bodyQ]))
    have hk49 : Keeps (· = b4) w4 w9 := (Keeps.trans' (hk5.trans (hk56.trans hk67).upD) hk8 (fun q hq e => by have := own_ge ho7 e; omega)).trans hk9
    exact ⟨i + 1, by omega, ⟨by trivial, hlt, ⟨v8, hc9, by rw [hsn, List.length_append, ← SL_append]; exact ho9⟩, hk49⟩, rfl, rfl, rfl, rfl, by simp, trivial⟩
end Go.Proofs.YtajajahofkialaaGreatDoor
