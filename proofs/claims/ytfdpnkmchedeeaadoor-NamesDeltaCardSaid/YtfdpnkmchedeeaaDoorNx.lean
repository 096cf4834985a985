/- NamesDelta: the walk. -/
import Derived.Test.YtfdpnkmchedeeaaDoorNw
namespace Go.Proofs.YtfdpnkmchedeeaaDoor
open Go Go.V Go.RowKit
set_option linter.unusedVariables false
set_option linter.unusedSimpArgs false

theorem slR_map {w w' : World} {mb n : Nat} {M : MS} {v : Value} {cs : List Value} (hM : MapAt w Go.V.encS mb M) (h : SlR w 1 v n cs) (hk : Keeps (· = mb) w w') : SlR w' 1 v n cs := by
  obtain ⟨hl, a, c, rfl, hcc, h⟩ := h
  refine ⟨hl, a, c, rfl, hcc, ?_⟩
  rcases h with h | ⟨b', o, cur, e, fr', rfl, hb, hr⟩
  · exact .inl h
  refine .inr ⟨b', o, cur, e, fr', rfl, hk.heap hb ?_, hr⟩
  intro e'
  subst e'
  obtain ⟨es, c', h2, _⟩ := hM
  rw [h2] at hb
  cases hb
theorem nTab_cell : ∀ j, j < 4 → (nTab.map S).toArray[0 + j * 1]? = some (S (nTab.getD j [])) := by
  intro j hj
  rw [Nat.zero_add, Nat.mul_one, List.getElem?_toArray, List.getElem?_map, List.getD_eq_getElem?_getD]
  have h2 : j < nTab.length := hj
  simp [h2]
/-- What the loop holds: the set in its box, the map, what both tell. -/
structure DI (b mb : Nat) (T : TB) (M : MS) (an : Option Addr) (c : Nat) (w : World) : Prop where
  box : w.heap[b]? = some (.cells #[.bool (T star), .slice an (stT T).2.length c] 27 (0, 0))
  row : SlR w 1 (.slice an (stT T).2.length c) (stT T).2.length (SL (stT T).2)
  map : MapAt w Go.V.encS mb M
  seen : Seen M T
theorem stT_len (T : TB) : (stT T).2.length ≤ 4 := by
  have h := List.length_filter_le (fun x => decide (nameOk x) && T x) nTab
  exact h
set_option maxRecDepth 100000 in
set_option maxHeartbeats 8000000 in
theorem delta_law (l : List Nat) (lv : Value) (w : World) (hl : SlR w 1 lv l.length (IB l)) (hl8 : ∀ x ∈ l, x < 256) :
    Ca Tryd.prog 7 #[lv] w fun v w' => v = .bool true ∧ Keeps NoB w w' := by
  obtain ⟨a, c, rfl, hc, hat⟩ := hl.shape
  refine ca_of_body (args := [.slice a l.length c]) Tryd.func7 rfl (by kernel_rfl) ?_
  (repeat first | (apply wr_assign; exact rfl; with_reducible (conv => enter [6, 3]; whnf)) | apply wr_end | apply wc_seq | apply wc_region)
  refine wr_call (vs := []) rfl (examples_ca w) rfl ?_
  rintro v w0 ⟨rfl, hk0w⟩
  (repeat first | (apply wr_move; exact rfl; with_reducible (conv => enter [6, 3]; whnf)) | (apply wr_assign; exact rfl; with_reducible (conv => enter [6, 3]; whnf)) | apply wr_end | apply wc_seq | apply wc_region | apply wc_skip | (apply wr_not; iterate 2 exact rfl) | (apply wc_false; exact rfl))
  refine wr_build (ps := []) (cs := [.bool false, .slice none 0 0]) rfl rfl rfl rfl ?_
  (repeat first | (apply wr_alloc; exact rfl))
  refine wr_storeAll (cs := [.bool false, .slice none 0 0]) rfl rfl rfl (by intro u hu; simp at hu; rcases hu with rfl | rfl <;> rfl) (heap_alloc_same _ _) rfl rfl ?_
  refine wr_name ?_
  intro w1 hw1
  obtain ⟨bs, hbs⟩ : ∃ b, b = w0.heap.size := ⟨_, rfl⟩
  have hk1 : Keeps NoB w0 w1 := by rw [hw1]; exact ((Keeps.refl NoB w0).alloc _).put _ (fun h => by omega)
  have hc1 : w1.heap[bs]? = some (.cells #[.bool false, .slice none 0 0] 27 (0, 0)) := by rw [hw1, hbs]; exact World.putObj_heap_same (by simp)
  rw [← hbs]
  clear hw1
  (repeat first | apply wr_end | apply wc_seq | apply wc_region)
  refine wr_makeMap rfl ?_
  refine wr_name ?_
  intro w2 hw2
  obtain ⟨mb, hmb⟩ : ∃ b, b = w1.heap.size := ⟨_, rfl⟩
  have hk2 : Keeps NoB w1 w2 := by rw [hw2]; exact (Keeps.refl NoB w1).alloc _
  have hM2 : MapAt w2 Go.V.encS mb ([] : MS) := by rw [hw2, hmb]; exact MapAt.new w1 Go.V.encS
  rw [← hmb]
  clear hw2
  have hkw2 := (hk0w.trans hk1).trans hk2
  have hc2 := hk2.heap hc1 (fun h => h)
  have hlb := lt_of_heap hc1
  have hI0 : DI bs mb (fun _ => false) [] none 0 w2 := ⟨by rw [stT_none]; exact hc2, by rw [stT_none]; exact ⟨rfl, none, 0, rfl, Nat.le_refl _, .inl ⟨rfl, fun _ => rfl⟩⟩, hM2, seen_nil⟩
  have hlm : mb < w2.heap.size := by obtain ⟨es, n, h, _⟩ := hM2; exact lt_of_heap h
  have hbm : bs < mb := by omega
  (repeat first | (apply wr_assign; exact rfl; with_reducible (conv => enter [6, 3]; whnf)) | apply wr_end | apply wc_seq | apply wc_region | apply wc_block)
  refine wc_loopL (α := Nat × TB × MS × Option Addr × Nat) (fun p => [(0, .slice a l.length c), (3, .bool true), (4, .pointer (some ⟨bs, 0, none⟩)), (5, .map (some mb)), (6, .int .i64 (p.1 : Int))])
    (fun p ds w' => ds = [] ∧ p.1 ≤ l.length ∧ p.1 ≤ 30 ∧ DI bs mb p.2.1 p.2.2.1 p.2.2.2.1 p.2.2.2.2 w' ∧ Keeps (fun i => i = bs ∨ i = mb) w2 w') (fun p => 30 - p.1) (0, fun _ => false, [], none, 0)
    ⟨rfl, Nat.zero_le _, Nat.zero_le _, hI0, Keeps.refl _ _⟩ ⟨rfl, rfl, rfl, rfl, rfl, trivial⟩ ?_
  rintro ⟨i, T, M, an, cn⟩ ds f0 w3 ⟨rfl, hi, hi30, hI, hk3⟩
  dsimp only at hi hi30 hI ⊢
  have hs3 := hk3.size
  have hkw3 : Keeps NoB w w3 := Keeps.trans' hkw2 hk3 (fun j hj e => by have := (hk0w.trans hk1).size; have := hk0w.size; omega)
  by_cases hlt : i < l.length
  rotate_left
  · skip
    (repeat first | (apply wr_move; exact rfl; with_reducible (conv => enter [6, 3]; whnf)) | (apply wr_assign; exact rfl; with_reducible (conv => enter [6, 3]; whnf)) | apply wr_end | apply wc_seq | apply wc_region | apply wc_block | (apply wr_len_slice; iterate 2 exact rfl) | (apply wr_cmp; (iterate 3 exact rfl); exact cmpF (by dsimp only [cmpN]; first | done | omega)) | (apply wr_pick (t := false); (iterate 2 exact rfl); with_reducible (conv => enter [6, 3]; whnf)) | (apply wc_false; exact rfl) | (apply wc_exit; try simp only [thenE, inBlockE, bodyQ, ↓reduceIte, Nat.reduceEqDiff]) | (apply wr_skip; exact rfl))
    refine wc_loopL (α := Nat × Value) (fun p => [(3, .bool true), (4, .pointer (some ⟨bs, 0, none⟩)), (5, .map (some mb)), (8, p.2), (9, .int .i64 (p.1 : Int))])
      (fun p ds w' => ds = [] ∧ p.1 ≤ 4 ∧ w'.ownsRow w3.heap.size 9 1 p.2 ((nTab.take p.1).filter T).length (SL ((nTab.take p.1).filter T)) ∧ Keeps NoB w3 w') (fun p => 4 - p.1) (0, .slice none 0 0)
      ⟨rfl, Nat.zero_le _, own_nil _ _ _ _, Keeps.refl _ _⟩ ⟨rfl, rfl, rfl, rfl, rfl, trivial⟩ ?_
    rintro ⟨j, vv⟩ ds f1 w8 ⟨rfl, hj, ho8, hk8⟩
    dsimp only at hj ho8 ⊢
    have hI8 : DI bs mb T M an cn w8 := ⟨hk8.heap hI.box (fun h => h), hI.row.keep hk8 (fun _ _ h => h), hI.map.keep hk8 (fun h => h), hI.seen⟩
    have hs8 := hk8.size
    by_cases hj4 : j < 4
    rotate_left
    · obtain rfl : j = 4 := by omega
      rw [show nTab.take 4 = nTab from rfl] at ho8
      have hfl : (nTab.filter T).length ≤ 4 := List.length_filter_le _ nTab
      have hfok : ∀ y ∈ nTab.filter T, y.length ≤ 9223372036854775807 := fun y hy => by
        have h : ∀ y ∈ nTab, y.length ≤ 9223372036854775807 := by decide
        exact h y (List.mem_filter.1 hy).1
      have hk0 : ∀ {w'}, Keeps NoB w8.drew w' → Keeps NoB w8 w' := fun hk => (Keeps.refl NoB w8).drew.trans hk
      (repeat first | (apply wr_move; exact rfl; with_reducible (conv => enter [6, 3]; whnf)) | apply wr_end | apply wc_seq | apply wc_region | (apply wr_cmp; (iterate 3 exact rfl); exact cmpF (by dsimp only [cmpN]; first | done | omega)) | (apply wc_false; exact rfl) | (apply wc_exit; try simp only [thenE, inBlockE, bodyQ, ↓reduceIte, Nat.reduceEqDiff]))
      refine wc_drawP (l := _) 7 _ (by kernel_rfl) (by kernel_rfl) rfl (by kernel_rfl) (by kernel_rfl) (by decide) ?_
      apply chP_pure
      focus
        intro xx w' hk hF
        apply wr_move; exact rfl; with_reducible (conv => enter [6, 3]; whnf)
        apply wr_nil
        exact ⟨rfl, Keeps.refl _ _⟩
      focus (intro xx yy h; rfl)
      focus kernel_rfl
      apply chP_pure
      focus
        intro xx w' hk hF
        apply wr_move; exact rfl; with_reducible (conv => enter [6, 3]; whnf)
        apply wr_nil
        exact ⟨rfl, Keeps.refl _ _⟩
      focus (intro xx yy h; rfl)
      focus kernel_rfl
      apply chP_pure
      focus
        intro xx w' hk hF
        refine wr_loadAll (cs := [.bool (T star), .slice an (stT T).2.length cn]) rfl rfl rfl ((hk0 hk).heap hI8.box (fun h => h)) rfl ?_
        apply wr_nil
        exact ⟨rfl, Keeps.refl _ _⟩
      focus (intro xx yy h; rfl)
      focus kernel_rfl
      apply chP_pure
      focus
        intro xx w' hk hF
        apply wr_move; exact rfl; with_reducible (conv => enter [6, 3]; whnf)
        apply wr_nil
        exact ⟨rfl, Keeps.refl _ _⟩
      focus (intro xx yy h; rfl)
      focus kernel_rfl
      refine chP_fact (fun y => y) (fun y w' => SetR w' (ofP (nTab.filter T)) y) (fun y w' w'' h k => h.keep k) ?_ ?_
      focus
        intro xx w' hk hF
        refine wr_call (vs := [vv]) rfl (of_ca (nTab.filter T) vv w' ((SlR.of_own ho8).keep (hk0 hk) (fun _ _ h => h)) (by omega) hfok) rfl ?_
        rintro v w'' ⟨hR, hkc⟩
        apply wr_nil
        exact ⟨v, rfl, hR, hkc⟩
      apply chP_pure
      focus
        intro xx w' hk hF
        refine wr_call (vs := [SetV (T star) (.slice an (stT T).2.length cn), xx 4]) rfl (same_cb true (same_eq (of_stT T).symm) ⟨_, rfl, hI8.row.keep (hk0 hk) (fun _ _ h => h)⟩ (hF 4 (by kernel_rfl)) (by have := stT_len T; omega) (by have := ofP_le (nTab.filter T); omega)) rfl ?_
        rintro v w'' ⟨rfl, hkc⟩
        apply wr_nil
        exact ⟨rfl, hkc⟩
      focus (intro xx yy h; rfl)
      focus kernel_rfl
      apply chP_pure
      focus
        intro xx w' hk hF
        first
        | (apply wr_pick (t := true); (iterate 2 exact rfl); with_reducible (conv => enter [6, 3]; whnf); apply wr_nil; exact ⟨rfl, Keeps.refl _ _⟩)
        | (apply wr_pick (t := false); (iterate 2 exact rfl); with_reducible (conv => enter [6, 3]; whnf); apply wr_nil; exact ⟨rfl, Keeps.refl _ _⟩)
      focus (intro xx yy h; rfl)
      focus kernel_rfl
      refine chP_nil ?_
      intro xx wz hkz hF
      (repeat first | (apply wr_assign; exact rfl; with_reducible (conv => enter [6, 3]; whnf)) | apply wr_end | (apply wc_ret; try simp only [thenE, inBlockE, bodyQ]))
      exact leave1 (v := .bool true) rfl rfl ⟨rfl, (hkw3.trans hk8).trans (hk0 hkz)⟩
    (repeat first | (apply wr_move; exact rfl; with_reducible (conv => enter [6, 3]; whnf)) | apply wr_end | apply wc_seq | apply wc_region | apply wc_skip | apply wc_block | (apply wr_cmp; (iterate 3 exact rfl); exact cmpT (by dsimp only [cmpP]; first | done | omega)) | (apply wc_true; exact rfl))
    refine wr_buildSlice (vs := nTab.map S) rfl rfl (by intro v hv; simp [nTab] at hv; rcases hv with rfl | rfl | rfl | rfl <;> rfl) rfl (by decide) (by decide) (by decide) ?_
    refine wr_name ?_
    intro w9 hwt
    have hkw9 : Keeps NoB w8 w9 := by rw [hwt]; exact (Keeps.refl NoB w8).alloc _
    have hctw9 : w9.heap[w8.heap.size]? = some (.cells (nTab.map S).toArray 9 (0, 0)) := by rw [hwt]; exact heap_alloc_same _ _
    clear hwt
    (repeat first | (apply wr_move; exact rfl; with_reducible (conv => enter [6, 3]; whnf)))
    refine wr_indexAddr (i := j) rfl rfl rfl hj4 ?_
    refine wr_load (v := S (nTab.getD j [])) rfl rfl rfl hctw9 (nTab_cell j hj4) ?_
    refine wr_lookup (l := M) (a := nTab.getD j []) rfl rfl (hI8.map.keep hkw9 (fun h => h)) rfl ?_
    rw [hI8.seen]
    have htk : (nTab.take (j + 1)).filter T = (nTab.take j).filter T ++ if T (nTab.getD j []) = true then [nTab.getD j []] else [] := by
      have h2 : j < nTab.length := hj4
      rw [List.take_add_one, List.filter_append]
      have : nTab[j]? = some (nTab.getD j []) := by rw [List.getD_eq_getElem?_getD]; simp [h2]
      rw [this]
      generalize nTab.getD j [] = y
      cases hT : T y <;> simp [hT]
    cases hT : T (nTab.getD j []) with
    | false =>
      rw [hT, if_neg (by decide), List.append_nil] at htk
      (repeat first | (apply wr_move; exact rfl; with_reducible (conv => enter [6, 3]; whnf)) | (apply wr_assign; exact rfl; with_reducible (conv => enter [6, 3]; whnf)) | apply wr_end | apply wc_region | apply wc_skip | (apply wr_add; (iterate 3 exact rfl); exact w_fit (by dsimp only [kIn]; first | done | omega)) | (apply wc_false; exact rfl))
      exact ⟨(j + 1, vv), by dsimp only; omega, ⟨by trivial, hj4, by dsimp only; rw [htk]; exact own_keep ho8 hkw9 (fun _ _ h => h), hk8.trans hkw9⟩, rfl, rfl, rfl, rfl, by simp, trivial⟩
    | true =>
      rw [hT, if_pos rfl] at htk
      (repeat first | (apply wr_move; exact rfl; with_reducible (conv => enter [6, 3]; whnf)) | apply wr_end | apply wc_region | (apply wc_true; exact rfl))
      refine wr_buildSlice (vs := nTab.map S) rfl rfl (by intro v hv; simp [nTab] at hv; rcases hv with rfl | rfl | rfl | rfl <;> rfl) rfl (by decide) (by decide) (by decide) ?_
      refine wr_name ?_
      intro w10 hwt
      have hkw10 : Keeps NoB w9 w10 := by rw [hwt]; exact (Keeps.refl NoB w9).alloc _
      have hctw10 : w10.heap[w9.heap.size]? = some (.cells (nTab.map S).toArray 9 (0, 0)) := by rw [hwt]; exact heap_alloc_same _ _
      clear hwt
      (repeat first | (apply wr_move; exact rfl; with_reducible (conv => enter [6, 3]; whnf)))
      refine wr_indexAddr (i := j) rfl rfl rfl hj4 ?_
      refine wr_load (v := S (nTab.getD j [])) rfl rfl rfl hctw10 (nTab_cell j hj4) ?_
      refine wr_buildSlice (vs := [S (nTab.getD j [])]) rfl rfl (by intro v hv; simp at hv; subst hv; rfl) rfl (by decide) (by decide) (by decide) ?_
      refine wr_name ?_
      intro w11 hwt
      have hkw11 : Keeps NoB w10 w11 := by rw [hwt]; exact (Keeps.refl NoB w10).alloc _
      have hctw11 : w11.heap[w10.heap.size]? = some (.cells [S (nTab.getD j [])].toArray 9 (0, 0)) := by rw [hwt]; exact heap_alloc_same _ _
      have hslw11 : SlR w11 1 (.slice (some ⟨w10.heap.size, 0, none⟩) 1 1) ([(nTab.getD j [])] : TX).length (SL [(nTab.getD j [])]) := ⟨rfl, _, _, rfl, Nat.le_refl _, .inr ⟨_, 0, _, _, _, rfl, hctw11, fun j hj => by rw [Nat.zero_add, List.getElem?_toArray]; rfl⟩⟩
      clear hwt
      have hk811 := (hkw9.trans hkw10).trans hkw11
      have ho11 := own_keep ho8 hk811 (fun _ _ h => h)
      have hfl : ((nTab.take j).filter T).length ≤ 4 := Nat.le_trans (List.length_filter_le _ _) (by rw [List.length_take]; omega)
      refine wr_append (v := vv) (base := w3.heap.size) (n := ((nTab.take j).filter T).length) (m := 1) (xs := SL ((nTab.take j).filter T)) (news := [S (nTab.getD j [])]) rfl rfl ho11 rfl hctw11 rfl (by intro u hu; simp at hu; subst hu; rfl) rfl (by decide) (by omega) (by omega) (by have := hk811.size; omega) ?_
      intro v12 w12 ho12 hk12 _
      (repeat first | (apply wr_move; exact rfl; with_reducible (conv => enter [6, 3]; whnf)) | (apply wr_assign; exact rfl; with_reducible (conv => enter [6, 3]; whnf)) | apply wr_end | apply wc_region | (apply wr_add; (iterate 3 exact rfl); exact w_fit (by dsimp only [kIn]; first | done | omega)) | (apply wr_nil; try simp only [thenE, inBlockE, bodyQ]))
      refine ⟨(j + 1, v12), by dsimp only; omega, ⟨by trivial, hj4, ?_, Keeps.trans' (hk8.trans hk811) hk12 (fun q hq e => by have := own_ge ho11 e; omega)⟩, rfl, rfl, rfl, rfl, by simp, trivial⟩
      dsimp only
      have e1 : ((nTab.take (j + 1)).filter T).length = ((nTab.take j).filter T).length + 1 := by rw [htk, List.length_append]; rfl
      have e2 : SL ((nTab.take (j + 1)).filter T) = SL ((nTab.take j).filter T) ++ [S (nTab.getD j [])] := by rw [htk]; simp [SL]
      rw [e1, e2]
      exact ho12
  by_cases hlt2 : i < 30
  rotate_left
  · skip
    (repeat first | (apply wr_move; exact rfl; with_reducible (conv => enter [6, 3]; whnf)) | (apply wr_assign; exact rfl; with_reducible (conv => enter [6, 3]; whnf)) | apply wr_end | apply wc_seq | apply wc_region | apply wc_block | (apply wr_len_slice; iterate 2 exact rfl) | (apply wr_cmp; (iterate 3 exact rfl); exact cmpT (by dsimp only [cmpP]; first | done | omega)) | (apply wr_cmp; (iterate 3 exact rfl); exact cmpF (by dsimp only [cmpN]; first | done | omega)) | (apply wr_pick (t := true); (iterate 2 exact rfl); with_reducible (conv => enter [6, 3]; whnf)) | (apply wc_false; exact rfl) | (apply wc_exit; try simp only [thenE, inBlockE, bodyQ, ↓reduceIte, Nat.reduceEqDiff]))
    refine wc_loopL (α := Nat × Value) (fun p => [(3, .bool true), (4, .pointer (some ⟨bs, 0, none⟩)), (5, .map (some mb)), (8, p.2), (9, .int .i64 (p.1 : Int))])
      (fun p ds w' => ds = [] ∧ p.1 ≤ 4 ∧ w'.ownsRow w3.heap.size 9 1 p.2 ((nTab.take p.1).filter T).length (SL ((nTab.take p.1).filter T)) ∧ Keeps NoB w3 w') (fun p => 4 - p.1) (0, .slice none 0 0)
      ⟨rfl, Nat.zero_le _, own_nil _ _ _ _, Keeps.refl _ _⟩ ⟨rfl, rfl, rfl, rfl, rfl, trivial⟩ ?_
    rintro ⟨j, vv⟩ ds f1 w8 ⟨rfl, hj, ho8, hk8⟩
    dsimp only at hj ho8 ⊢
    have hI8 : DI bs mb T M an cn w8 := ⟨hk8.heap hI.box (fun h => h), hI.row.keep hk8 (fun _ _ h => h), hI.map.keep hk8 (fun h => h), hI.seen⟩
    have hs8 := hk8.size
    by_cases hj4 : j < 4
    rotate_left
    · obtain rfl : j = 4 := by omega
      rw [show nTab.take 4 = nTab from rfl] at ho8
      have hfl : (nTab.filter T).length ≤ 4 := List.length_filter_le _ nTab
      have hfok : ∀ y ∈ nTab.filter T, y.length ≤ 9223372036854775807 := fun y hy => by
        have h : ∀ y ∈ nTab, y.length ≤ 9223372036854775807 := by decide
        exact h y (List.mem_filter.1 hy).1
      have hk0 : ∀ {w'}, Keeps NoB w8.drew w' → Keeps NoB w8 w' := fun hk => (Keeps.refl NoB w8).drew.trans hk
      (repeat first | (apply wr_move; exact rfl; with_reducible (conv => enter [6, 3]; whnf)) | apply wr_end | apply wc_seq | apply wc_region | (apply wr_cmp; (iterate 3 exact rfl); exact cmpF (by dsimp only [cmpN]; first | done | omega)) | (apply wc_false; exact rfl) | (apply wc_exit; try simp only [thenE, inBlockE, bodyQ, ↓reduceIte, Nat.reduceEqDiff]))
      refine wc_drawP (l := _) 7 _ (by kernel_rfl) (by kernel_rfl) rfl (by kernel_rfl) (by kernel_rfl) (by decide) ?_
      apply chP_pure
      focus
        intro xx w' hk hF
        apply wr_move; exact rfl; with_reducible (conv => enter [6, 3]; whnf)
        apply wr_nil
        exact ⟨rfl, Keeps.refl _ _⟩
      focus (intro xx yy h; rfl)
      focus kernel_rfl
      apply chP_pure
      focus
        intro xx w' hk hF
        apply wr_move; exact rfl; with_reducible (conv => enter [6, 3]; whnf)
        apply wr_nil
        exact ⟨rfl, Keeps.refl _ _⟩
      focus (intro xx yy h; rfl)
      focus kernel_rfl
      apply chP_pure
      focus
        intro xx w' hk hF
        refine wr_loadAll (cs := [.bool (T star), .slice an (stT T).2.length cn]) rfl rfl rfl ((hk0 hk).heap hI8.box (fun h => h)) rfl ?_
        apply wr_nil
        exact ⟨rfl, Keeps.refl _ _⟩
      focus (intro xx yy h; rfl)
      focus kernel_rfl
      apply chP_pure
      focus
        intro xx w' hk hF
        apply wr_move; exact rfl; with_reducible (conv => enter [6, 3]; whnf)
        apply wr_nil
        exact ⟨rfl, Keeps.refl _ _⟩
      focus (intro xx yy h; rfl)
      focus kernel_rfl
      refine chP_fact (fun y => y) (fun y w' => SetR w' (ofP (nTab.filter T)) y) (fun y w' w'' h k => h.keep k) ?_ ?_
      focus
        intro xx w' hk hF
        refine wr_call (vs := [vv]) rfl (of_ca (nTab.filter T) vv w' ((SlR.of_own ho8).keep (hk0 hk) (fun _ _ h => h)) (by omega) hfok) rfl ?_
        rintro v w'' ⟨hR, hkc⟩
        apply wr_nil
        exact ⟨v, rfl, hR, hkc⟩
      apply chP_pure
      focus
        intro xx w' hk hF
        refine wr_call (vs := [SetV (T star) (.slice an (stT T).2.length cn), xx 4]) rfl (same_cb true (same_eq (of_stT T).symm) ⟨_, rfl, hI8.row.keep (hk0 hk) (fun _ _ h => h)⟩ (hF 4 (by kernel_rfl)) (by have := stT_len T; omega) (by have := ofP_le (nTab.filter T); omega)) rfl ?_
        rintro v w'' ⟨rfl, hkc⟩
        apply wr_nil
        exact ⟨rfl, hkc⟩
      focus (intro xx yy h; rfl)
      focus kernel_rfl
      apply chP_pure
      focus
        intro xx w' hk hF
        first
        | (apply wr_pick (t := true); (iterate 2 exact rfl); with_reducible (conv => enter [6, 3]; whnf); apply wr_nil; exact ⟨rfl, Keeps.refl _ _⟩)
        | (apply wr_pick (t := false); (iterate 2 exact rfl); with_reducible (conv => enter [6, 3]; whnf); apply wr_nil; exact ⟨rfl, Keeps.refl _ _⟩)
      focus (intro xx yy h; rfl)
      focus kernel_rfl
      refine chP_nil ?_
      intro xx wz hkz hF
      (repeat first | (apply wr_assign; exact rfl; with_reducible (conv => enter [6, 3]; whnf)) | apply wr_end | (apply wc_ret; try simp only [thenE, inBlockE, bodyQ]))
      exact leave1 (v := .bool true) rfl rfl ⟨rfl, (hkw3.trans hk8).trans (hk0 hkz)⟩
    (repeat first | (apply wr_move; exact rfl; with_reducible (conv => enter [6, 3]; whnf)) | apply wr_end | apply wc_seq | apply wc_region | apply wc_skip | apply wc_block | (apply wr_cmp; (iterate 3 exact rfl); exact cmpT (by dsimp only [cmpP]; first | done | omega)) | (apply wc_true; exact rfl))
    refine wr_buildSlice (vs := nTab.map S) rfl rfl (by intro v hv; simp [nTab] at hv; rcases hv with rfl | rfl | rfl | rfl <;> rfl) rfl (by decide) (by decide) (by decide) ?_
    refine wr_name ?_
    intro w9 hwt
    have hkw9 : Keeps NoB w8 w9 := by rw [hwt]; exact (Keeps.refl NoB w8).alloc _
    have hctw9 : w9.heap[w8.heap.size]? = some (.cells (nTab.map S).toArray 9 (0, 0)) := by rw [hwt]; exact heap_alloc_same _ _
    clear hwt
    (repeat first | (apply wr_move; exact rfl; with_reducible (conv => enter [6, 3]; whnf)))
    refine wr_indexAddr (i := j) rfl rfl rfl hj4 ?_
    refine wr_load (v := S (nTab.getD j [])) rfl rfl rfl hctw9 (nTab_cell j hj4) ?_
    refine wr_lookup (l := M) (a := nTab.getD j []) rfl rfl (hI8.map.keep hkw9 (fun h => h)) rfl ?_
    rw [hI8.seen]
    have htk : (nTab.take (j + 1)).filter T = (nTab.take j).filter T ++ if T (nTab.getD j []) = true then [nTab.getD j []] else [] := by
      have h2 : j < nTab.length := hj4
      rw [List.take_add_one, List.filter_append]
      have : nTab[j]? = some (nTab.getD j []) := by rw [List.getD_eq_getElem?_getD]; simp [h2]
      rw [this]
      generalize nTab.getD j [] = y
      cases hT : T y <;> simp [hT]
    cases hT : T (nTab.getD j []) with
    | false =>
      rw [hT, if_neg (by decide), List.append_nil] at htk
      (repeat first | (apply wr_move; exact rfl; with_reducible (conv => enter [6, 3]; whnf)) | (apply wr_assign; exact rfl; with_reducible (conv => enter [6, 3]; whnf)) | apply wr_end | apply wc_region | apply wc_skip | (apply wr_add; (iterate 3 exact rfl); exact w_fit (by dsimp only [kIn]; first | done | omega)) | (apply wc_false; exact rfl))
      exact ⟨(j + 1, vv), by dsimp only; omega, ⟨by trivial, hj4, by dsimp only; rw [htk]; exact own_keep ho8 hkw9 (fun _ _ h => h), hk8.trans hkw9⟩, rfl, rfl, rfl, rfl, by simp, trivial⟩
    | true =>
      rw [hT, if_pos rfl] at htk
      (repeat first | (apply wr_move; exact rfl; with_reducible (conv => enter [6, 3]; whnf)) | apply wr_end | apply wc_region | (apply wc_true; exact rfl))
      refine wr_buildSlice (vs := nTab.map S) rfl rfl (by intro v hv; simp [nTab] at hv; rcases hv with rfl | rfl | rfl | rfl <;> rfl) rfl (by decide) (by decide) (by decide) ?_
      refine wr_name ?_
      intro w10 hwt
      have hkw10 : Keeps NoB w9 w10 := by rw [hwt]; exact (Keeps.refl NoB w9).alloc _
      have hctw10 : w10.heap[w9.heap.size]? = some (.cells (nTab.map S).toArray 9 (0, 0)) := by rw [hwt]; exact heap_alloc_same _ _
      clear hwt
      (repeat first | (apply wr_move; exact rfl; with_reducible (conv => enter [6, 3]; whnf)))
      refine wr_indexAddr (i := j) rfl rfl rfl hj4 ?_
      refine wr_load (v := S (nTab.getD j [])) rfl rfl rfl hctw10 (nTab_cell j hj4) ?_
      refine wr_buildSlice (vs := [S (nTab.getD j [])]) rfl rfl (by intro v hv; simp at hv; subst hv; rfl) rfl (by decide) (by decide) (by decide) ?_
      refine wr_name ?_
      intro w11 hwt
      have hkw11 : Keeps NoB w10 w11 := by rw [hwt]; exact (Keeps.refl NoB w10).alloc _
      have hctw11 : w11.heap[w10.heap.size]? = some (.cells [S (nTab.getD j [])].toArray 9 (0, 0)) := by rw [hwt]; exact heap_alloc_same _ _
      have hslw11 : SlR w11 1 (.slice (some ⟨w10.heap.size, 0, none⟩) 1 1) ([(nTab.getD j [])] : TX).length (SL [(nTab.getD j [])]) := ⟨rfl, _, _, rfl, Nat.le_refl _, .inr ⟨_, 0, _, _, _, rfl, hctw11, fun j hj => by rw [Nat.zero_add, List.getElem?_toArray]; rfl⟩⟩
      clear hwt
      have hk811 := (hkw9.trans hkw10).trans hkw11
      have ho11 := own_keep ho8 hk811 (fun _ _ h => h)
      have hfl : ((nTab.take j).filter T).length ≤ 4 := Nat.le_trans (List.length_filter_le _ _) (by rw [List.length_take]; omega)
      refine wr_append (v := vv) (base := w3.heap.size) (n := ((nTab.take j).filter T).length) (m := 1) (xs := SL ((nTab.take j).filter T)) (news := [S (nTab.getD j [])]) rfl rfl ho11 rfl hctw11 rfl (by intro u hu; simp at hu; subst hu; rfl) rfl (by decide) (by omega) (by omega) (by have := hk811.size; omega) ?_
      intro v12 w12 ho12 hk12 _
      (repeat first | (apply wr_move; exact rfl; with_reducible (conv => enter [6, 3]; whnf)) | (apply wr_assign; exact rfl; with_reducible (conv => enter [6, 3]; whnf)) | apply wr_end | apply wc_region | (apply wr_add; (iterate 3 exact rfl); exact w_fit (by dsimp only [kIn]; first | done | omega)) | (apply wr_nil; try simp only [thenE, inBlockE, bodyQ]))
      refine ⟨(j + 1, v12), by dsimp only; omega, ⟨by trivial, hj4, ?_, Keeps.trans' (hk8.trans hk811) hk12 (fun q hq e => by have := own_ge ho11 e; omega)⟩, rfl, rfl, rfl, rfl, by simp, trivial⟩
      dsimp only
      have e1 : ((nTab.take (j + 1)).filter T).length = ((nTab.take j).filter T).length + 1 := by rw [htk, List.length_append]; rfl
      have e2 : SL ((nTab.take (j + 1)).filter T) = SL ((nTab.take j).filter T) ++ [S (nTab.getD j [])] := by rw [htk]; simp [SL]
      rw [e1, e2]
      exact ho12
  obtain ⟨b, o, rfl, cur, e, fr, hb, hr⟩ := hat (by omega)
  obtain ⟨x, hx⟩ : ∃ x, l[i]? = some x := ⟨l[i], by simp [hlt]⟩
  have hx8 := hl8 x (List.mem_of_getElem? hx)
  have hcell : cur[o + i * 1]? = some (.int .u8 (x : Int)) := by rw [Nat.mul_one, hr i (by omega)]; simp [IB, hx]
  have hb3 := hkw3.heap hb (fun h => h)
  (repeat first | (apply wr_move; exact rfl; with_reducible (conv => enter [6, 3]; whnf)) | apply wr_end | apply wc_seq | apply wc_region | apply wc_skip | apply wc_block | (apply wr_len_slice; iterate 2 exact rfl) | (apply wr_cmp; (iterate 3 exact rfl); exact cmpT (by dsimp only [cmpP]; first | done | omega)) | (apply wr_pick (t := true); (iterate 2 exact rfl); with_reducible (conv => enter [6, 3]; whnf)) | (apply wc_true; exact rfl))
  refine wr_buildSlice (vs := nTab.map S) rfl rfl (by intro v hv; simp [nTab] at hv; rcases hv with rfl | rfl | rfl | rfl <;> rfl) rfl (by decide) (by decide) (by decide) ?_
  refine wr_name ?_
  intro w4 hwt
  have hkw4 : Keeps NoB w3 w4 := by rw [hwt]; exact (Keeps.refl NoB w3).alloc _
  have hctw4 : w4.heap[w3.heap.size]? = some (.cells (nTab.map S).toArray 9 (0, 0)) := by rw [hwt]; exact heap_alloc_same _ _
  clear hwt
  have hb4 := hkw4.heap hb3 (fun h => h)
  (repeat first | (apply wr_move; exact rfl; with_reducible (conv => enter [6, 3]; whnf)))
  refine wr_indexAddr (i := i) rfl rfl rfl hlt ?_
  refine wr_load (v := .int .u8 (x : Int)) rfl rfl rfl hb4 hcell ?_
  refine wr_remN (n := x) (m := 4) rfl rfl rfl (by omega) ?_
  have hm4 : x % 4 < 4 := Nat.mod_lt _ (by decide)
  refine wr_indexAddr (i := x % 4) rfl rfl rfl hm4 ?_
  refine wr_load (v := S (nOf x)) rfl rfl rfl hctw4 (nTab_cell _ hm4) ?_
  obtain ⟨n, hn⟩ : ∃ n, n = nOf x := ⟨_, rfl⟩
  have hnm := nOf_mem x
  rw [← hn] at hnm ⊢
  have hn64 : n.length ≤ 9223372036854775807 := by
    have h : ∀ y ∈ nTab, y.length ≤ 9223372036854775807 := by decide
    exact h n hnm
  have hI4 : DI bs mb T M an cn w4 := ⟨hkw4.heap hI.box (fun h => h), hI.row.keep hkw4 (fun _ _ h => h), hI.map.keep hkw4 (fun h => h), hI.seen⟩
  (repeat first | (apply wr_move; exact rfl; with_reducible (conv => enter [6, 3]; whnf)) | (apply wr_assign; exact rfl; with_reducible (conv => enter [6, 3]; whnf)) | apply wr_end | apply wc_seq | apply wc_region)
  refine wr_indexAddr (i := i) rfl rfl rfl hlt ?_
  refine wr_load (v := .int .u8 (x : Int)) rfl rfl rfl hb4 hcell ?_
  (repeat first | apply wr_end | (apply wr_cmp; (iterate 3 exact rfl); exact cmp_le _ _))
  refine wc_cut (fun ds f w' => ds = [] ∧ ∃ T2 M2 an2 cn2, DI bs mb T2 M2 an2 cn2 w' ∧ Keeps (fun q => q = bs ∨ q = mb) w4 w' ∧ Slots f [(0, .slice (some ⟨b, o, none⟩) l.length c), (3, .bool true), (4, .pointer (some ⟨bs, 0, none⟩)), (5, .map (some mb)), (6, .int .i64 (i : Int))]) ?_ ?_
  · by_cases hx128 : 128 ≤ x
    · rw [show decide ((x : Int) ≥ 128) = true from decide_eq_true (by omega)]
      (repeat first | apply wc_seq | apply wc_region | (apply wc_true; exact rfl))
      refine wr_loadAll (cs := [.bool (T star), .slice an (stT T).2.length cn]) rfl rfl rfl hI4.box rfl ?_
      (repeat first | (apply wr_move; exact rfl; with_reducible (conv => enter [6, 3]; whnf)))
      refine wr_buildSlice (vs := [S n]) rfl rfl (by intro v hv; simp at hv; subst hv; rfl) rfl (by decide) (by decide) (by decide) ?_
      refine wr_name ?_
      intro w5 hwt
      have hkw5 : Keeps NoB w4 w5 := by rw [hwt]; exact (Keeps.refl NoB w4).alloc _
      have hctw5 : w5.heap[w4.heap.size]? = some (.cells [S n].toArray 9 (0, 0)) := by rw [hwt]; exact heap_alloc_same _ _
      have hslw5 : SlR w5 1 (.slice (some ⟨w4.heap.size, 0, none⟩) 1 1) ([n] : TX).length (SL [n]) := ⟨rfl, _, _, rfl, Nat.le_refl _, .inr ⟨_, 0, _, _, _, rfl, hctw5, fun j hj => by rw [Nat.zero_add, List.getElem?_toArray]; rfl⟩⟩
      clear hwt
      refine wr_call (vs := [SetV (T star) (.slice an (stT T).2.length cn), .slice (some ⟨w4.heap.size, 0, none⟩) 1 1]) rfl (add_ca (stT T) [n] _ _ w5 ⟨_, rfl, hI4.row.keep hkw5 (fun _ _ h => h)⟩ hslw5 (by have := stT_len T; omega) (by simp) (by intro y hy; simp at hy; subst hy; exact hn64)) rfl ?_
      rintro v w6 ⟨hR, hk6⟩
      rw [add_stT hnm] at hR
      obtain ⟨v6, rfl, hr6⟩ := hR
      obtain ⟨a6, c6, rfl, _, _⟩ := slr_strs hr6
      have hc6 := hk6.heap (hkw5.heap hI4.box (fun h => h)) (fun h => h)
      have hM6 := (hI4.map.keep hkw5 (fun h => h)).keep hk6 (fun h => h)
      refine wr_storeAll (b := bs) (cs := [.bool (updT T n true star), .slice a6 (stT (updT T n true)).2.length c6]) rfl rfl rfl (by intro u hu; simp at hu; rcases hu with rfl | rfl <;> rfl) hc6 rfl rfl ?_
      refine wr_name ?_
      intro w7 hw7
      have hk7 : Keeps (· = bs) w6 w7 := by rw [hw7]; exact (Keeps.refl _ _).put _ (fun _ => rfl)
      have hc7 : w7.heap[bs]? = some (.cells #[.bool (updT T n true star), .slice a6 (stT (updT T n true)).2.length c6] 27 (0, 0)) := by rw [hw7]; exact World.putObj_heap_same (lt_of_heap hc6)
      have hr7 := slS_put hc6 (by intro x h; cases h) rfl hr6 hk7
      have hM7 := hM6.keep hk7 (fun e => by omega)
      clear hw7
      (repeat first | (apply wr_move; exact rfl; with_reducible (conv => enter [6, 3]; whnf)) | apply wr_end | apply wc_region)
      refine wr_update (l := M) (a := n) (v := .bool true) rfl rfl hM7 rfl rfl ?_
      intro w8 hM8 hk8
      (repeat first | apply wr_end)
      exact ⟨by trivial, updT T n true, putM M n (.bool true), a6, c6, ⟨hk8.heap hc7 (fun e => by omega), slR_map hM7 hr7 hk8, hM8, hI4.seen.put n true⟩, ((hkw5.trans hk6).upD.trans (hk7.mono fun _ _ e => .inl e)).trans (hk8.mono fun _ _ e => .inr e), rfl, rfl, rfl, rfl, rfl, trivial⟩
    · rw [show decide ((x : Int) ≥ 128) = false from decide_eq_false (by omega)]
      (repeat first | apply wc_seq | apply wc_region | (apply wc_false; exact rfl))
      refine wr_loadAll (cs := [.bool (T star), .slice an (stT T).2.length cn]) rfl rfl rfl hI4.box rfl ?_
      (repeat first | (apply wr_move; exact rfl; with_reducible (conv => enter [6, 3]; whnf)))
      refine wr_buildSlice (vs := [S n]) rfl rfl (by intro v hv; simp at hv; subst hv; rfl) rfl (by decide) (by decide) (by decide) ?_
      refine wr_name ?_
      intro w5 hwt
      have hkw5 : Keeps NoB w4 w5 := by rw [hwt]; exact (Keeps.refl NoB w4).alloc _
      have hctw5 : w5.heap[w4.heap.size]? = some (.cells [S n].toArray 9 (0, 0)) := by rw [hwt]; exact heap_alloc_same _ _
      have hslw5 : SlR w5 1 (.slice (some ⟨w4.heap.size, 0, none⟩) 1 1) ([n] : TX).length (SL [n]) := ⟨rfl, _, _, rfl, Nat.le_refl _, .inr ⟨_, 0, _, _, _, rfl, hctw5, fun j hj => by rw [Nat.zero_add, List.getElem?_toArray]; rfl⟩⟩
      clear hwt
      refine wr_call (vs := [SetV (T star) (.slice an (stT T).2.length cn), .slice (some ⟨w4.heap.size, 0, none⟩) 1 1]) rfl (drop_ca (stT T) [n] _ _ w5 ⟨_, rfl, hI4.row.keep hkw5 (fun _ _ h => h)⟩ hslw5 (by have := stT_len T; omega) (by simp) (by intro y hy; simp at hy; subst hy; exact hn64)) rfl ?_
      rintro v w6 ⟨hR, hk6⟩
      rw [drop_stT hnm] at hR
      obtain ⟨v6, rfl, hr6⟩ := hR
      obtain ⟨a6, c6, rfl, _, _⟩ := slr_strs hr6
      have hc6 := hk6.heap (hkw5.heap hI4.box (fun h => h)) (fun h => h)
      have hM6 := (hI4.map.keep hkw5 (fun h => h)).keep hk6 (fun h => h)
      refine wr_storeAll (b := bs) (cs := [.bool (updT T n false star), .slice a6 (stT (updT T n false)).2.length c6]) rfl rfl rfl (by intro u hu; simp at hu; rcases hu with rfl | rfl <;> rfl) hc6 rfl rfl ?_
      refine wr_name ?_
      intro w7 hw7
      have hk7 : Keeps (· = bs) w6 w7 := by rw [hw7]; exact (Keeps.refl _ _).put _ (fun _ => rfl)
      have hc7 : w7.heap[bs]? = some (.cells #[.bool (updT T n false star), .slice a6 (stT (updT T n false)).2.length c6] 27 (0, 0)) := by rw [hw7]; exact World.putObj_heap_same (lt_of_heap hc6)
      have hr7 := slS_put hc6 (by intro x h; cases h) rfl hr6 hk7
      have hM7 := hM6.keep hk7 (fun e => by omega)
      clear hw7
      (repeat first | (apply wr_move; exact rfl; with_reducible (conv => enter [6, 3]; whnf)) | apply wr_end | apply wc_region)
      refine wr_update (l := M) (a := n) (v := .bool false) rfl rfl hM7 rfl rfl ?_
      intro w8 hM8 hk8
      (repeat first | apply wr_end)
      exact ⟨by trivial, updT T n false, putM M n (.bool false), a6, c6, ⟨hk8.heap hc7 (fun e => by omega), slR_map hM7 hr7 hk8, hM8, hI4.seen.put n false⟩, ((hkw5.trans hk6).upD.trans (hk7.mono fun _ _ e => .inl e)).trans (hk8.mono fun _ _ e => .inr e), rfl, rfl, rfl, rfl, rfl, trivial⟩
  rintro ds f7 w7 ⟨rfl, T2, M2, an2, cn2, hI7, hk7, hslots⟩
  refine wc_keep _ hslots ?_
  intro f8
  have hk0 : ∀ {w'}, Keeps NoB w7.drew w' → Keeps NoB w7 w' := fun hk => (Keeps.refl NoB w7).drew.trans hk
  have hM7 := hI7.map
  obtain ⟨ta, hta⟩ : ∃ t, T2 [97] = t := ⟨_, rfl⟩
  obtain ⟨tc, htc⟩ : ∃ t, T2 [99] = t := ⟨_, rfl⟩
  obtain ⟨ts, hts⟩ : ∃ t, T2 star = t := ⟨_, rfl⟩
  have hsa := hI7.seen [97]
  have hsc := hI7.seen [99]
  have hss := hI7.seen [42]
  have hha := has_stT T2 (x := [97]) (by decide) (by decide)
  have hhc := has_stT T2 (x := [99]) (by decide) (by decide)
  have hhz := has_zz T2
  rw [hta] at hsa hha
  rw [htc] at hsc hhc
  rw [show T2 [42] = ts from hts] at hss
  rw [hts] at hha hhc hhz
  (repeat first | apply wc_seq)
  cases ta <;> cases tc
  all_goals
    refine wc_drawP (l := _) 34 _ (by kernel_rfl) (by kernel_rfl) rfl (by kernel_rfl) (by kernel_rfl) (by decide) ?_
    apply chP_pure
    focus
      intro xx w' hk hF
      refine wr_fieldAddr rfl rfl ?_
      apply wr_nil
      exact ⟨rfl, Keeps.refl _ _⟩
    focus (intro xx yy h; rfl)
    focus kernel_rfl
    apply chP_pure
    focus
      intro xx w' hk hF
      refine wr_load (v := .bool (T2 star)) rfl rfl rfl ((hk0 hk).heap hI7.box (fun h => h)) rfl ?_
      apply wr_nil
      exact ⟨rfl, Keeps.refl _ _⟩
    focus (intro xx yy h; rfl)
    focus kernel_rfl
    apply chP_pure
    focus
      intro xx w' hk hF
      apply wr_move; exact rfl; with_reducible (conv => enter [6, 3]; whnf)
      apply wr_nil
      exact ⟨rfl, Keeps.refl _ _⟩
    focus (intro xx yy h; rfl)
    focus kernel_rfl
    apply chP_pure
    focus
      intro xx w' hk hF
      refine wr_lookup (l := M2) (a := [42]) rfl rfl (hM7.keep (hk0 hk) (fun h => h)) rfl ?_
      rw [hss]
      apply wr_nil
      exact ⟨rfl, Keeps.refl _ _⟩
    focus (intro xx yy h; rfl)
    focus kernel_rfl
    apply chP_pure
    focus
      intro xx w' hk hF
      refine wr_boolNe (c := false) rfl rfl rfl (by simp [hts]) ?_
      apply wr_nil
      exact ⟨rfl, Keeps.refl _ _⟩
    focus (intro xx yy h; rfl)
    focus kernel_rfl
    apply chP_pure
    focus
      intro xx w' hk hF
      apply wr_move; exact rfl; with_reducible (conv => enter [6, 3]; whnf)
      apply wr_nil
      exact ⟨rfl, Keeps.refl _ _⟩
    focus (intro xx yy h; rfl)
    focus kernel_rfl
    apply chP_pure
    focus
      intro xx w' hk hF
      refine wr_loadAll (cs := [.bool (T2 star), .slice an2 (stT T2).2.length cn2]) rfl rfl rfl ((hk0 hk).heap hI7.box (fun h => h)) rfl ?_
      apply wr_nil
      exact ⟨rfl, Keeps.refl _ _⟩
    focus (intro xx yy h; rfl)
    focus kernel_rfl
    apply chP_pure
    focus
      intro xx w' hk hF
      refine wr_call (vs := [SetV (T2 star) (.slice an2 (stT T2).2.length cn2), S [97]]) rfl (has_cb _ hha (by decide) ⟨_, rfl, hI7.row.keep (hk0 hk) (fun _ _ h => h)⟩ (by have := stT_len T2; omega)) rfl ?_
      rintro v w'' ⟨rfl, hkc⟩
      apply wr_nil
      exact ⟨rfl, hkc⟩
    focus (intro xx yy h; rfl)
    focus kernel_rfl
    apply chP_pure
    focus
      intro xx w' hk hF
      apply wr_move; exact rfl; with_reducible (conv => enter [6, 3]; whnf)
      apply wr_nil
      exact ⟨rfl, Keeps.refl _ _⟩
    focus (intro xx yy h; rfl)
    focus kernel_rfl
    apply chP_pure
    focus
      intro xx w' hk hF
      refine wr_lookup (l := M2) (a := [97]) rfl rfl (hM7.keep (hk0 hk) (fun h => h)) rfl ?_
      rw [hsa]
      apply wr_nil
      exact ⟨rfl, Keeps.refl _ _⟩
    focus (intro xx yy h; rfl)
    focus kernel_rfl
    apply chP_pure
    focus
      intro xx w' hk hF
      apply wr_move; exact rfl; with_reducible (conv => enter [6, 3]; whnf)
      apply wr_nil
      exact ⟨rfl, Keeps.refl _ _⟩
    focus (intro xx yy h; rfl)
    focus kernel_rfl
    apply chP_pure
    focus
      intro xx w' hk hF
      first
      | (refine wr_skip rfl ?_; apply wr_nil; exact ⟨rfl, Keeps.refl _ _⟩)
      | (apply wr_move; exact rfl; with_reducible (conv => enter [6, 3]; whnf); apply wr_nil; exact ⟨rfl, Keeps.refl _ _⟩)
    focus (intro xx yy h; rfl)
    focus kernel_rfl
    apply chP_pure
    focus
      intro xx w' hk hF
      first
      | (refine wr_skip rfl ?_; apply wr_nil; exact ⟨rfl, Keeps.refl _ _⟩)
      | (refine wr_lookup (l := M2) (a := [42]) rfl rfl (hM7.keep (hk0 hk) (fun h => h)) rfl ?_; rw [hss]; apply wr_nil; exact ⟨rfl, Keeps.refl _ _⟩)
    focus (intro xx yy h; rfl)
    focus kernel_rfl
    apply chP_pure
    focus
      intro xx w' hk hF
      first
      | (apply wr_pick (t := true); (iterate 2 exact rfl); with_reducible (conv => enter [6, 3]; whnf); apply wr_nil; exact ⟨rfl, Keeps.refl _ _⟩)
      | (apply wr_pick (t := false); (iterate 2 exact rfl); with_reducible (conv => enter [6, 3]; whnf); apply wr_nil; exact ⟨rfl, Keeps.refl _ _⟩)
    focus (intro xx yy h; rfl)
    focus kernel_rfl
    apply chP_pure
    focus
      intro xx w' hk hF
      refine wr_boolNe (c := false) rfl rfl rfl (by simp) ?_
      apply wr_nil
      exact ⟨rfl, Keeps.refl _ _⟩
    focus (intro xx yy h; rfl)
    focus kernel_rfl
    apply chP_pure
    focus
      intro xx w' hk hF
      first
      | (apply wr_pick (t := true); (iterate 2 exact rfl); with_reducible (conv => enter [6, 3]; whnf); apply wr_nil; exact ⟨rfl, Keeps.refl _ _⟩)
      | (apply wr_pick (t := false); (iterate 2 exact rfl); with_reducible (conv => enter [6, 3]; whnf); apply wr_nil; exact ⟨rfl, Keeps.refl _ _⟩)
    focus (intro xx yy h; rfl)
    focus kernel_rfl
    apply chP_pure
    focus
      intro xx w' hk hF
      apply wr_move; exact rfl; with_reducible (conv => enter [6, 3]; whnf)
      apply wr_nil
      exact ⟨rfl, Keeps.refl _ _⟩
    focus (intro xx yy h; rfl)
    focus kernel_rfl
    apply chP_pure
    focus
      intro xx w' hk hF
      refine wr_loadAll (cs := [.bool (T2 star), .slice an2 (stT T2).2.length cn2]) rfl rfl rfl ((hk0 hk).heap hI7.box (fun h => h)) rfl ?_
      apply wr_nil
      exact ⟨rfl, Keeps.refl _ _⟩
    focus (intro xx yy h; rfl)
    focus kernel_rfl
    apply chP_pure
    focus
      intro xx w' hk hF
      refine wr_call (vs := [SetV (T2 star) (.slice an2 (stT T2).2.length cn2), S [99]]) rfl (has_cb _ hhc (by decide) ⟨_, rfl, hI7.row.keep (hk0 hk) (fun _ _ h => h)⟩ (by have := stT_len T2; omega)) rfl ?_
      rintro v w'' ⟨rfl, hkc⟩
      apply wr_nil
      exact ⟨rfl, hkc⟩
    focus (intro xx yy h; rfl)
    focus kernel_rfl
    apply chP_pure
    focus
      intro xx w' hk hF
      apply wr_move; exact rfl; with_reducible (conv => enter [6, 3]; whnf)
      apply wr_nil
      exact ⟨rfl, Keeps.refl _ _⟩
    focus (intro xx yy h; rfl)
    focus kernel_rfl
    apply chP_pure
    focus
      intro xx w' hk hF
      refine wr_lookup (l := M2) (a := [99]) rfl rfl (hM7.keep (hk0 hk) (fun h => h)) rfl ?_
      rw [hsc]
      apply wr_nil
      exact ⟨rfl, Keeps.refl _ _⟩
    focus (intro xx yy h; rfl)
    focus kernel_rfl
    apply chP_pure
    focus
      intro xx w' hk hF
      apply wr_move; exact rfl; with_reducible (conv => enter [6, 3]; whnf)
      apply wr_nil
      exact ⟨rfl, Keeps.refl _ _⟩
    focus (intro xx yy h; rfl)
    focus kernel_rfl
    apply chP_pure
    focus
      intro xx w' hk hF
      first
      | (refine wr_skip rfl ?_; apply wr_nil; exact ⟨rfl, Keeps.refl _ _⟩)
      | (apply wr_move; exact rfl; with_reducible (conv => enter [6, 3]; whnf); apply wr_nil; exact ⟨rfl, Keeps.refl _ _⟩)
    focus (intro xx yy h; rfl)
    focus kernel_rfl
    apply chP_pure
    focus
      intro xx w' hk hF
      first
      | (refine wr_skip rfl ?_; apply wr_nil; exact ⟨rfl, Keeps.refl _ _⟩)
      | (refine wr_lookup (l := M2) (a := [42]) rfl rfl (hM7.keep (hk0 hk) (fun h => h)) rfl ?_; rw [hss]; apply wr_nil; exact ⟨rfl, Keeps.refl _ _⟩)
    focus (intro xx yy h; rfl)
    focus kernel_rfl
    apply chP_pure
    focus
      intro xx w' hk hF
      first
      | (apply wr_pick (t := true); (iterate 2 exact rfl); with_reducible (conv => enter [6, 3]; whnf); apply wr_nil; exact ⟨rfl, Keeps.refl _ _⟩)
      | (apply wr_pick (t := false); (iterate 2 exact rfl); with_reducible (conv => enter [6, 3]; whnf); apply wr_nil; exact ⟨rfl, Keeps.refl _ _⟩)
    focus (intro xx yy h; rfl)
    focus kernel_rfl
    apply chP_pure
    focus
      intro xx w' hk hF
      refine wr_boolNe (c := false) rfl rfl rfl (by simp) ?_
      apply wr_nil
      exact ⟨rfl, Keeps.refl _ _⟩
    focus (intro xx yy h; rfl)
    focus kernel_rfl
    apply chP_pure
    focus
      intro xx w' hk hF
      first
      | (apply wr_pick (t := true); (iterate 2 exact rfl); with_reducible (conv => enter [6, 3]; whnf); apply wr_nil; exact ⟨rfl, Keeps.refl _ _⟩)
      | (apply wr_pick (t := false); (iterate 2 exact rfl); with_reducible (conv => enter [6, 3]; whnf); apply wr_nil; exact ⟨rfl, Keeps.refl _ _⟩)
    focus (intro xx yy h; rfl)
    focus kernel_rfl
    apply chP_pure
    focus
      intro xx w' hk hF
      apply wr_move; exact rfl; with_reducible (conv => enter [6, 3]; whnf)
      apply wr_nil
      exact ⟨rfl, Keeps.refl _ _⟩
    focus (intro xx yy h; rfl)
    focus kernel_rfl
    apply chP_pure
    focus
      intro xx w' hk hF
      refine wr_loadAll (cs := [.bool (T2 star), .slice an2 (stT T2).2.length cn2]) rfl rfl rfl ((hk0 hk).heap hI7.box (fun h => h)) rfl ?_
      apply wr_nil
      exact ⟨rfl, Keeps.refl _ _⟩
    focus (intro xx yy h; rfl)
    focus kernel_rfl
    apply chP_pure
    focus
      intro xx w' hk hF
      refine wr_call (vs := [SetV (T2 star) (.slice an2 (stT T2).2.length cn2), S [122, 122]]) rfl (has_cb _ hhz (by decide) ⟨_, rfl, hI7.row.keep (hk0 hk) (fun _ _ h => h)⟩ (by have := stT_len T2; omega)) rfl ?_
      rintro v w'' ⟨rfl, hkc⟩
      apply wr_nil
      exact ⟨rfl, hkc⟩
    focus (intro xx yy h; rfl)
    focus kernel_rfl
    apply chP_pure
    focus
      intro xx w' hk hF
      apply wr_move; exact rfl; with_reducible (conv => enter [6, 3]; whnf)
      apply wr_nil
      exact ⟨rfl, Keeps.refl _ _⟩
    focus (intro xx yy h; rfl)
    focus kernel_rfl
    apply chP_pure
    focus
      intro xx w' hk hF
      refine wr_lookup (l := M2) (a := [42]) rfl rfl (hM7.keep (hk0 hk) (fun h => h)) rfl ?_
      rw [hss]
      apply wr_nil
      exact ⟨rfl, Keeps.refl _ _⟩
    focus (intro xx yy h; rfl)
    focus kernel_rfl
    apply chP_pure
    focus
      intro xx w' hk hF
      refine wr_boolNe (c := false) rfl rfl rfl (by simp) ?_
      apply wr_nil
      exact ⟨rfl, Keeps.refl _ _⟩
    focus (intro xx yy h; rfl)
    focus kernel_rfl
    apply chP_pure
    focus
      intro xx w' hk hF
      first
      | (apply wr_pick (t := true); (iterate 2 exact rfl); with_reducible (conv => enter [6, 3]; whnf); apply wr_nil; exact ⟨rfl, Keeps.refl _ _⟩)
      | (apply wr_pick (t := false); (iterate 2 exact rfl); with_reducible (conv => enter [6, 3]; whnf); apply wr_nil; exact ⟨rfl, Keeps.refl _ _⟩)
    focus (intro xx yy h; rfl)
    focus kernel_rfl
    refine chP_nil ?_
    intro xx w8 hk8 hF
    (repeat first | (apply wr_move; exact rfl; with_reducible (conv => enter [6, 3]; whnf)) | (apply wr_assign; exact rfl; with_reducible (conv => enter [6, 3]; whnf)) | apply wr_end | apply wc_region | apply wc_skip | (apply wr_add; (iterate 3 exact rfl); exact w_fit (by dsimp only [kIn]; first | done | omega)) | (apply wc_false; exact rfl))
    have hk38 : Keeps (fun q => q = bs ∨ q = mb) w3 w8 := (hkw4.upD.trans hk7).trans (hk0 hk8).upD
    exact ⟨(i + 1, T2, M2, an2, cn2), by dsimp only; omega, ⟨by trivial, hlt, hlt2, ⟨(hk0 hk8).heap hI7.box (fun h => h), hI7.row.keep (hk0 hk8) (fun _ _ h => h), hI7.map.keep (hk0 hk8) (fun h => h), hI7.seen⟩, hk3.trans hk38⟩, rfl, rfl, rfl, rfl, by simp, trivial⟩
end Go.Proofs.YtfdpnkmchedeeaaDoor
