/- The store: space and Put, when it is full and somebody is not wanted. -/
import Derived.Test.YtafnbbehmbmchaaDoorQd
namespace Go.Proofs.YtafnbbehmbmchaaDoor
open Go Go.V Go.RowKit
set_option linter.unusedVariables false
set_option linter.unusedSimpArgs false

theorem GE_key' (e : EN) (j : Nat) (u : Value) (h : ([.int .i64 (keyR e.1).1, S (keyR e.1).2] : List Value)[j]? = some u) : (GE e).toArray[j]? = some u := GE_key e j u h
set_option maxRecDepth 100000 in
set_option maxHeartbeats 4000000 in
theorem spaceG_ca {sb kb wb : Nat} {room : Int} {grace : Nat} {K : KL} {W : KY → Int} {w : World} (h : St w sb kb wb room grace K W) (hroom : room ≤ (K.length : Int)) (hK : K.length ≤ 4096) (hkl : ∀ x ∈ K, x.1.2.length ≤ 9223372036854775807) (hkey : ∀ x ∈ K, x.1 = keyR x.2.2.1) (now : Nat) (hne : K.filterMap (unw W now) ≠ []) :
    Ca Tryd.prog 25 #[.pointer (some ⟨sb, 0, none⟩), .int .u64 ((now : Nat) : Int)] w fun v w' => v = .bool true ∧ ∃ x ∈ K, ∃ e, unw W now x = some e ∧ (∀ y ∈ K, ∀ e', unw W now y = some e' → ¬ ordE e' e < 0) ∧ St w' sb kb wb room grace (delL K x.1) W ∧ Keeps (· = kb) w w' := by
  refine ca_of_body (args := [.pointer (some ⟨sb, 0, none⟩), .int .u64 ((now : Nat) : Int)]) Tryd.func25 rfl (by kernel_rfl) ?_
  have h1 := h.drew
  have hs1 := h1.cells
  have hln : (mapL ptrE K).length = K.length := by simp [mapL]
  have hlt : ¬ (K.length : Int) < room := by omega
  (repeat first | (apply wr_assign; exact rfl; with_reducible (conv => enter [6, 3]; whnf)) | apply wr_end | apply wc_seq | apply wc_region)
  refine wc_drawS (l := _) (S := fun w' => w' = w.drew) (by kernel_rfl) (by kernel_rfl) rfl ?_
  repeat
    apply ch_step
    focus
      intro w' hS
      subst hS
      (repeat first | (apply wr_move; exact rfl; with_reducible (conv => enter [6, 3]; whnf)) | (apply wr_fieldAddr; iterate 2 exact rfl) | (apply wr_nilCheck; iterate 2 exact rfl) | (apply wr_load; (iterate 3 exact rfl); (focus repeat first | with_reducible assumption | exact heap_alloc_same _ _ | exact World.putObj_heap_same (by first | omega | (simp only [World.size_alloc, World.putObj_size, ne_eq]; omega)) | ((first | refine hAl ?_ ?_ | refine hPu ?_ ?_); focus first | omega | (simp only [World.size_alloc, World.putObj_size, ne_eq]; omega))); exact rfl; conv => enter [6, 3]; whnf) | (apply wr_nil; try simp only [thenE, inBlockE, bodyQ]))
      exact ⟨rfl, by trivial⟩
  apply ch_step
  focus
    intro w' hS
    subst hS
    refine wr_len_map (l := mapL ptrE K) rfl rfl h1.kept ?_
    apply wr_nil
    exact ⟨rfl, rfl⟩
  rw [hln]
  repeat
    apply ch_step
    focus
      intro w' hS
      subst hS
      (repeat first | (apply wr_move; exact rfl; with_reducible (conv => enter [6, 3]; whnf)) | (apply wr_fieldAddr; iterate 2 exact rfl) | (apply wr_nilCheck; iterate 2 exact rfl) | (apply wr_load; (iterate 3 exact rfl); (focus repeat first | with_reducible assumption | exact heap_alloc_same _ _ | exact World.putObj_heap_same (by first | omega | (simp only [World.size_alloc, World.putObj_size, ne_eq]; omega)) | ((first | refine hAl ?_ ?_ | refine hPu ?_ ?_); focus first | omega | (simp only [World.size_alloc, World.putObj_size, ne_eq]; omega))); exact rfl; conv => enter [6, 3]; whnf) | (apply wr_cmp; (iterate 3 exact rfl); exact cmpF (by dsimp only [cmpN]; first | done | omega)) | (apply wr_nil; try simp only [thenE, inBlockE, bodyQ]))
      exact ⟨rfl, by trivial⟩
  refine ch_nil ?_
  intro w' hS
  subst hS
  (repeat first | (apply wr_move; exact rfl; with_reducible (conv => enter [6, 3]; whnf)) | apply wc_seq | apply wc_region | apply wc_skip | (apply wc_false; exact rfl))
  refine wr_call (vs := [.pointer (some ⟨sb, 0, none⟩), .int .u64 ((now : Nat) : Int)]) rfl (idle_ca h1 hK hkl now) rfl ?_
  rintro r w2 ⟨vb, v, l, rfl, hvb, hH, hp, hF, hk2⟩
  have hl : l.length ≤ 4096 := by
    have h1 := hp.length_eq
    rw [List.length_map] at h1
    have := List.length_filterMap_le (unw W now) K
    omega
  have hl0 : 0 < l.length := by
    have h1 := hp.length_eq
    rw [List.length_map] at h1
    have := List.length_pos_iff.2 hne
    omega
  obtain ⟨z, hz⟩ : ∃ z, l[0]? = some z := ⟨l[0], by simp [hl0]⟩
  have hzl := List.mem_of_getElem? hz
  have hmem : z.2 ∈ K.filterMap (unw W now) := hp.mem_iff.1 (List.mem_map.2 ⟨z, hzl, rfl⟩)
  obtain ⟨x, hxK, hxe⟩ := List.mem_filterMap.1 hmem
  have hmin : ∀ y ∈ K, ∀ e', unw W now y = some e' → ¬ ordE e' z.2 < 0 := fun y hy e' he => by
    obtain ⟨q, hq, rfl⟩ := List.mem_map.1 (hp.mem_iff.2 (List.mem_filterMap.2 ⟨y, hy, he⟩))
    obtain ⟨i, hi⟩ := List.getElem?_of_mem hq
    exact heap_root ltE_strict hF hz i q hi
  have hzk : keyR z.2.1 = x.1 := by
    rw [hkey x hxK]
    unfold unw at hxe
    split at hxe
    · cases hxe
    · rw [← Option.some.inj hxe]
  have hez := hH.ents z hzl
  (repeat first | (apply wr_move; exact rfl; with_reducible (conv => enter [6, 3]; whnf)) | (apply wr_assign; exact rfl; with_reducible (conv => enter [6, 3]; whnf)) | apply wr_end | apply wc_seq | apply wc_region)
  refine wr_invoke (vs := []) rfl (mLenAt hH.cell) hH.len rfl rfl ?_
  rintro r w3 ⟨rfl, rfl⟩
  (repeat first | (apply wr_move; exact rfl; with_reducible (conv => enter [6, 3]; whnf)) | apply wr_end | apply wc_seq | apply wc_region | apply wc_skip | (apply wr_cmp; (iterate 3 exact rfl); exact cmpF (by dsimp only [cmpN]; first | done | omega)) | (apply wc_false; exact rfl))
  refine wr_call (vs := [ifV vb]) rfl (pop_ca hH hl hz) rfl ?_
  rintro r w4 ⟨rfl, hk4⟩
  have hez4 := hk4.heap hez (fun e => e.elim (fun e => hH.ne_ent e hzl rfl) (fun e => by have := hH.cell; rw [← e, hez] at this; cases this))
  have hk24 : Keeps NoB w w4 := ((Keeps.refl NoB w).drew.trans hk2).trans' hk4 (fun q hq e => by
    rcases e with e | e
    · have := (own_cell hH.row e).1; have : w.drew.heap.size = w.heap.size := rfl; omega
    · have : w.drew.heap.size = w.heap.size := rfl; omega)
  have h4 := h.keep hk24
  have hs4 := h4.cells
  refine wr_assert (a := .iface 63 (ptrE z)) (v := ptrE z) rfl rfl (by kernel_rfl) ?_
  have hk0 : ∀ {w'}, Keeps NoB w4.drew w' → Keeps NoB w4 w' := fun hk => (Keeps.refl NoB w4).drew.trans hk
  (repeat first | (apply wr_assign; exact rfl; with_reducible (conv => enter [6, 3]; whnf)) | apply wr_end | apply wc_seq)
  refine wc_drawP (l := _) 9 _ (by kernel_rfl) (by kernel_rfl) rfl (by kernel_rfl) (by kernel_rfl) (by decide) ?_
  apply chP_pure
  focus
    intro xx w' hk hF
    apply wr_move; exact rfl; with_reducible (conv => enter [6, 3]; whnf)
    apply wr_nil
    exact ⟨rfl, Keeps.refl _ _⟩
  focus (intro xx yy h; rfl)
  focus kernel_rfl
  apply chP_pure
  focus
    intro xx w' hk hF
    refine wr_nilCheck rfl rfl ?_
    apply wr_nil
    exact ⟨rfl, Keeps.refl _ _⟩
  focus (intro xx yy h; rfl)
  focus kernel_rfl
  apply chP_pure
  focus
    intro xx w' hk hF
    refine wr_fieldAddr rfl rfl ?_
    apply wr_nil
    exact ⟨rfl, Keeps.refl _ _⟩
  focus (intro xx yy h; rfl)
  focus kernel_rfl
  apply chP_pure
  focus
    intro xx w' hk hF
    refine wr_load (v := .map (some kb)) rfl rfl rfl ((hk0 hk).heap hs4 (fun h => h)) rfl ?_
    apply wr_nil
    exact ⟨rfl, Keeps.refl _ _⟩
  focus (intro xx yy h; rfl)
  focus kernel_rfl
  apply chP_pure
  focus
    intro xx w' hk hF
    apply wr_move; exact rfl; with_reducible (conv => enter [6, 3]; whnf)
    apply wr_nil
    exact ⟨rfl, Keeps.refl _ _⟩
  focus (intro xx yy h; rfl)
  focus kernel_rfl
  apply chP_pure
  focus
    intro xx w' hk hF
    refine wr_nilCheck rfl rfl ?_
    apply wr_nil
    exact ⟨rfl, Keeps.refl _ _⟩
  focus (intro xx yy h; rfl)
  focus kernel_rfl
  apply chP_pure
  focus
    intro xx w' hk hF
    refine wr_fieldAddr rfl rfl ?_
    apply wr_nil
    exact ⟨rfl, Keeps.refl _ _⟩
  focus (intro xx yy h; rfl)
  focus kernel_rfl
  apply chP_pure
  focus
    intro xx w' hk hF
    refine wr_fieldAddr rfl rfl ?_
    apply wr_nil
    exact ⟨rfl, Keeps.refl _ _⟩
  focus (intro xx yy h; rfl)
  focus kernel_rfl
  apply chP_pure
  focus
    intro xx w' hk hF
    refine wr_loadAgg (cs := [.int .i64 (keyR z.2.1).1, S (keyR z.2.1).2]) rfl rfl rfl rfl (fun q u h => cell_of_heap ((hk0 hk).heap hez4 (fun h => h)) (by rw [Nat.zero_add]; exact GE_key' z.2 q u h)) ?_
    apply wr_nil
    exact ⟨rfl, Keeps.refl _ _⟩
  focus (intro xx yy h; rfl)
  focus kernel_rfl
  refine chP_nil ?_
  intro xx w5 hk5' hF
  have hk5 := hk0 hk5'
  have h5 := h4.keep hk5
  refine wr_delete (l := mapL ptrE K) (a := keyR z.2.1) rfl rfl h5.kept rfl ?_
  intro w6 hM6 hk6
  rw [← delL_map, hzk] at hM6
  (repeat first | (apply wr_assign; exact rfl; with_reducible (conv => enter [6, 3]; whnf)) | apply wr_end | apply wc_seq | apply wc_region | (apply wc_ret; try simp only [thenE, inBlockE, bodyQ]))
  refine leave1 (v := .bool true) rfl rfl ⟨rfl, x, hxK, z.2, hxe, hmin, h5.kept_upd hM6 hk6 (fun x hx => (List.mem_filter.1 hx).1), (hk24.trans hk5).upD.trans hk6⟩
set_option maxRecDepth 100000 in
set_option maxHeartbeats 8000000 in
theorem putG_ca {sb kb wb : Nat} {room : Int} {grace : Nat} {K : KL} {W : KY → Int} {w : World} (h : St w sb kb wb room grace K W) (r : RD) (now : Nat) (hok : rightOk r) (hg : getL K (keyR r) = none) (hroom : room ≤ (K.length : Int)) (hK : K.length ≤ 4096) (hkl : ∀ x ∈ K, x.1.2.length ≤ 9223372036854775807) (hkey : ∀ x ∈ K, x.1 = keyR x.2.2.1) (hne : K.filterMap (unw W now) ≠ [])
    (hrn : r.2.1.length ≤ 9223372036854775807) (hrb : r.2.2.2.2.length ≤ 9223372036854775807) :
    Ca Tryd.prog 13 #[.pointer (some ⟨sb, 0, none⟩), RdV r, .int .u64 ((now : Nat) : Int)] w fun v w' => v = .int .i64 0 ∧
      ∃ x ∈ K, ∃ e, unw W now x = some e ∧ (∀ y ∈ K, ∀ e', unw W now y = some e' → ¬ ordE e' e < 0) ∧ ∃ g, w.heap.size ≤ g ∧ St w' sb kb wb room grace (putL (delL K x.1) (keyR r) (g, (r, decide (wantP W (keyR r) = 0), now))) W ∧ Keeps (· = kb) w w' := by
  refine ca_of_body (args := [.pointer (some ⟨sb, 0, none⟩), RdV r, .int .u64 ((now : Nat) : Int)]) Tryd.func13 rfl (by kernel_rfl) ?_
  apply wc_seq
  apply wc_region
  refine wr_box (v := .agg (GRd r).toArray) rfl rfl ?_
  refine wr_name ?_
  intro w1 hw1
  obtain ⟨b1, hb1⟩ : ∃ b1, b1 = w.heap.size := ⟨_, rfl⟩
  have hk1 : Keeps NoB w w1 := by rw [hw1]; exact (Keeps.refl NoB w).alloc _
  have hc1 : w1.heap[b1]? = some (.cells (GRd r).toArray 30 (0, 0)) := by rw [hw1, hb1]; exact heap_alloc_same _ _
  rw [← hb1]
  clear hw1
  (repeat first | (apply wr_assign; exact rfl; with_reducible (conv => enter [6, 3]; whnf)) | apply wr_end | apply wc_seq | apply wc_region)
  refine wr_loadAll (cs := GRd r) rfl rfl rfl hc1 rfl ?_
  refine wr_call (vs := [RdV r]) rfl (right_ca r w1 hrn hrb) rfl ?_
  rintro v w2 ⟨rfl, hk2⟩
  have hkw2 := hk1.trans hk2
  have hc2 : w2.drew.heap[b1]? = _ := hk2.heap hc1 (fun h => h)
  rw [decide_eq_true hok]
  have h2 := (h.keep hkw2).drew
  have hs2 := h2.cells
  obtain ⟨t, n, sq, g, b⟩ := r
  have hkc : ∀ (j : Nat) (u : Value), ([.int .i64 t, S n] : List Value)[j]? = some u → (GRd (t, n, sq, g, b)).toArray[j]? = some u := fun j u h => by
    match j, h with
    | 0, h => exact h
    | 1, h => exact h
    | j + 2, h => simp at h
  (repeat first | apply wr_end | apply wc_seq | apply wc_skip | (apply wr_not; iterate 2 exact rfl) | (apply wc_false; exact rfl))
  refine wc_drawS (l := _) (S := fun w' => w' = w2.drew) (by kernel_rfl) (by kernel_rfl) rfl ?_
  repeat
    apply ch_step
    focus
      intro w' hS
      subst hS
      (repeat first | (apply wr_move; exact rfl; with_reducible (conv => enter [6, 3]; whnf)) | (apply wr_fieldAddr; iterate 2 exact rfl) | (apply wr_nilCheck; iterate 2 exact rfl) | (apply wr_load; (iterate 3 exact rfl); (focus repeat first | with_reducible assumption | exact heap_alloc_same _ _ | exact World.putObj_heap_same (by first | omega | (simp only [World.size_alloc, World.putObj_size, ne_eq]; omega)) | ((first | refine hAl ?_ ?_ | refine hPu ?_ ?_); focus first | omega | (simp only [World.size_alloc, World.putObj_size, ne_eq]; omega))); exact rfl; conv => enter [6, 3]; whnf) | (apply wr_nil; try simp only [thenE, inBlockE, bodyQ]))
      exact ⟨rfl, by trivial⟩
  apply ch_step
  focus
    intro w' hS
    subst hS
    refine wr_loadAgg (cs := [.int .i64 t, S n]) rfl rfl rfl rfl (fun j u h => cell_of_heap hc2 (by rw [Nat.zero_add]; exact hkc j u h)) ?_
    apply wr_nil
    exact ⟨rfl, rfl⟩
  apply ch_step
  focus
    intro w' hS
    subst hS
    refine wr_lookupOk (l := mapL ptrE K) (a := (t, n)) rfl rfl h2.kept rfl ?_
    apply wr_nil
    exact ⟨rfl, rfl⟩
  rw [getL_map, Option.isSome_map]
  repeat
    apply ch_step
    focus
      intro w' hS
      subst hS
      (repeat first | (apply wr_move; exact rfl; with_reducible (conv => enter [6, 3]; whnf)) | (apply wr_assign; exact rfl; with_reducible (conv => enter [6, 3]; whnf)) | (apply wr_extract; (iterate 3 exact rfl); with_reducible (conv => enter [6, 3]; whnf)) | (apply wr_nil; try simp only [thenE, inBlockE, bodyQ]))
      exact ⟨rfl, by trivial⟩
  refine ch_nil ?_
  intro w' hS
  subst hS
  obtain ⟨w3, hw3⟩ : ∃ w3, w3 = w2.drew := ⟨_, rfl⟩
  have hk3 : Keeps NoB w w3 := by rw [hw3]; exact hkw2.drew
  rw [← hw3] at hc2 h2 hs2 ⊢
  clear hw3
  replace hg : getL K (t, n) = none := hg
  rw [hg]
  have hc3 : w3.drew.heap[b1]? = _ := hc2
  (repeat first | apply wc_seq | apply wc_block)
  refine wc_drawS (l := _) (S := fun w' => w' = w3.drew) (by kernel_rfl) (by kernel_rfl) rfl ?_
  repeat
    apply ch_step
    focus
      intro w' hS
      subst hS
      (repeat first | (apply wr_move; exact rfl; with_reducible (conv => enter [6, 3]; whnf)) | (apply wr_assign; exact rfl; with_reducible (conv => enter [6, 3]; whnf)) | (apply wr_pick (t := false); (iterate 2 exact rfl); with_reducible (conv => enter [6, 3]; whnf)) | (apply wr_nil; try simp only [thenE, inBlockE, bodyQ]) | (apply wr_skip; exact rfl))
      exact ⟨rfl, by trivial⟩
  refine ch_nil ?_
  intro w' hS
  subst hS
  obtain ⟨w4, hw4⟩ : ∃ w4, w4 = w3.drew := ⟨_, rfl⟩
  have hk4 : Keeps NoB w w4 := by rw [hw4]; exact hk3.drew
  have hc4 : w4.heap[b1]? = some (.cells (GRd (t, n, sq, g, b)).toArray 30 (0, 0)) := by rw [hw4]; exact hc3
  have h4 := h.keep hk4
  rw [← hw4]
  clear hw4
  (repeat first | (apply wr_move; exact rfl; with_reducible (conv => enter [6, 3]; whnf)) | apply wc_seq | apply wc_region | (apply wr_not; iterate 2 exact rfl) | (apply wc_false; exact rfl))
  refine wr_call (vs := [.pointer (some ⟨sb, 0, none⟩), .int .u64 ((now : Nat) : Int)]) rfl (spaceG_ca h4 hroom hK hkl hkey now hne) rfl ?_
  rintro v w5 ⟨rfl, x, hxK, e, hxe, hmin, h5, hk5⟩
  have hk5w := hk4.upD.trans hk5
  have hc5 := hk5.heap hc4 (map_cells h4.kept hc4)
  (repeat first | (apply wr_assign; exact rfl; with_reducible (conv => enter [6, 3]; whnf)) | apply wr_end | apply wc_seq | apply wc_skip | (apply wr_not; iterate 2 exact rfl) | (apply wr_pick (t := true); (iterate 2 exact rfl); with_reducible (conv => enter [6, 3]; whnf)) | (apply wc_false; exact rfl))
  have hs8 := h5.cells
  have hk0 : ∀ {w'}, Keeps NoB w5.drew w' → Keeps NoB w5 w' := fun hk => (Keeps.refl NoB w5).drew.trans hk
  skip
  refine wc_drawP (l := _) 15 _ (by kernel_rfl) (by kernel_rfl) rfl (by kernel_rfl) (by kernel_rfl) (by decide) ?_
  apply chP_pure
  focus
    intro xx w' hk hF
    apply wr_move; exact rfl; with_reducible (conv => enter [6, 3]; whnf)
    apply wr_nil
    exact ⟨rfl, Keeps.refl _ _⟩
  focus (intro xx yy h; rfl)
  focus kernel_rfl
  apply chP_pure
  focus
    intro xx w' hk hF
    refine wr_nilCheck rfl rfl ?_
    apply wr_nil
    exact ⟨rfl, Keeps.refl _ _⟩
  focus (intro xx yy h; rfl)
  focus kernel_rfl
  apply chP_pure
  focus
    intro xx w' hk hF
    refine wr_fieldAddr rfl rfl ?_
    apply wr_nil
    exact ⟨rfl, Keeps.refl _ _⟩
  focus (intro xx yy h; rfl)
  focus kernel_rfl
  apply chP_pure
  focus
    intro xx w' hk hF
    refine wr_load (v := .map (some kb)) rfl rfl rfl ((hk0 hk).heap hs8 (fun h => h)) rfl ?_
    apply wr_nil
    exact ⟨rfl, Keeps.refl _ _⟩
  focus (intro xx yy h; rfl)
  focus kernel_rfl
  apply chP_pure
  focus
    intro xx w' hk hF
    refine wr_fieldAddr rfl rfl ?_
    apply wr_nil
    exact ⟨rfl, Keeps.refl _ _⟩
  focus (intro xx yy h; rfl)
  focus kernel_rfl
  apply chP_pure
  focus
    intro xx w' hk hF
    refine wr_loadAgg (cs := [.int .i64 t, S n]) rfl rfl rfl rfl (fun j u h => cell_of_heap ((hk0 hk).heap hc5 (fun h => h)) (by rw [Nat.zero_add]; exact hkc j u h)) ?_
    apply wr_nil
    exact ⟨rfl, Keeps.refl _ _⟩
  focus (intro xx yy h; rfl)
  focus kernel_rfl
  apply chP_pure
  focus
    intro xx w' hk hF
    refine wr_loadAll (cs := GRd (t, n, sq, g, b)) rfl rfl rfl ((hk0 hk).heap hc5 (fun h => h)) rfl ?_
    apply wr_nil
    exact ⟨rfl, Keeps.refl _ _⟩
  focus (intro xx yy h; rfl)
  focus kernel_rfl
  apply chP_pure
  focus
    intro xx w' hk hF
    apply wr_move; exact rfl; with_reducible (conv => enter [6, 3]; whnf)
    apply wr_nil
    exact ⟨rfl, Keeps.refl _ _⟩
  focus (intro xx yy h; rfl)
  focus kernel_rfl
  apply chP_pure
  focus
    intro xx w' hk hF
    refine wr_fieldAddr rfl rfl ?_
    apply wr_nil
    exact ⟨rfl, Keeps.refl _ _⟩
  focus (intro xx yy h; rfl)
  focus kernel_rfl
  apply chP_pure
  focus
    intro xx w' hk hF
    refine wr_loadAgg (cs := [.int .i64 t, S n]) rfl rfl rfl rfl (fun j u h => cell_of_heap ((hk0 hk).heap hc5 (fun h => h)) (by rw [Nat.zero_add]; exact hkc j u h)) ?_
    apply wr_nil
    exact ⟨rfl, Keeps.refl _ _⟩
  focus (intro xx yy h; rfl)
  focus kernel_rfl
  apply chP_pure
  focus
    intro xx w' hk hF
    refine wr_call (vs := [.pointer (some ⟨sb, 0, none⟩), encK (t, n)]) rfl (wanted_ca (h5.keep (hk0 hk)) (t, n) hrn) rfl ?_
    rintro v w'' ⟨rfl, hkc⟩
    apply wr_nil
    exact ⟨rfl, hkc⟩
  focus (intro xx yy h; rfl)
  focus kernel_rfl
  apply chP_pure
  focus
    intro xx w' hk hF
    refine wr_cmp rfl rfl rfl (cmp_eq _ _) ?_
    apply wr_nil
    exact ⟨rfl, Keeps.refl _ _⟩
  focus (intro xx yy h; rfl)
  focus kernel_rfl
  apply chP_pure
  focus
    intro xx w' hk hF
    apply wr_move; exact rfl; with_reducible (conv => enter [6, 3]; whnf)
    apply wr_nil
    exact ⟨rfl, Keeps.refl _ _⟩
  focus (intro xx yy h; rfl)
  focus kernel_rfl
  apply chP_pure
  focus
    intro xx w' hk hF
    refine wr_build (ps := [(0, .agg (GRd (t, n, sq, g, b)).toArray), (1, .bool (decide (wantP W (t, n) = 0))), (2, .int .u64 ((now : Nat) : Int))]) (cs := GE ((t, n, sq, g, b), decide (wantP W (t, n) = 0), now)) rfl rfl rfl rfl ?_
    apply wr_nil
    exact ⟨rfl, Keeps.refl _ _⟩
  focus (intro xx yy h; rfl)
  focus kernel_rfl
  refine chP_fact (fun y => .pointer (some ⟨blkOf y, 0, none⟩)) (fun y w' => w'.heap[blkOf y]? = some (.cells (GE ((t, n, sq, g, b), decide (wantP W (t, n) = 0), now)).toArray 66 (0, 0)) ∧ w5.heap.size ≤ blkOf y) (fun y w' w'' h k => ⟨k.heap h.1 (fun h => h), h.2⟩) ?_ ?_
  focus
    intro xx w' hk hF
    refine wr_box (v := .agg (GE ((t, n, sq, g, b), decide (wantP W (t, n) = 0), now)).toArray) rfl rfl ?_
    apply wr_nil
    exact ⟨.pointer (some ⟨w'.heap.size, 0, none⟩), rfl, ⟨heap_alloc_same _ _, hk.size⟩, (Keeps.refl _ _).alloc _⟩
  refine chP_nil ?_
  intro xx w8 hk8' hF
  have hk8 := hk0 hk8'
  have h8 := h5.keep hk8
  obtain ⟨hce, hge⟩ : w8.heap[blkOf (xx 14)]? = some (.cells (GE ((t, n, sq, g, b), decide (wantP W (t, n) = 0), now)).toArray 66 (0, 0)) ∧ w5.heap.size ≤ blkOf (xx 14) := hF 14 (by decide)
  refine wr_update (l := mapL ptrE (delL K x.1)) (a := (t, n)) (v := .pointer (some ⟨blkOf (xx 14), 0, none⟩)) rfl rfl h8.kept rfl rfl ?_
  intro w9 hM9 hk9
  obtain ⟨M, hM, hW⟩ := h8.watch
  (repeat first | (apply wr_assign; exact rfl; with_reducible (conv => enter [6, 3]; whnf)) | apply wr_end | apply wc_seq | apply wc_region | (apply wc_ret; try simp only [thenE, inBlockE, bodyQ]))
  refine leave1 (v := .int .i64 0) rfl rfl ⟨rfl, x, hxK, e, hxe, hmin, blkOf (xx 14), (by have := (hk5w).size; omega), ⟨hk9.heap h8.cells (map_cells h8.kept h8.cells), by rw [putL_map]; exact hM9, ⟨M, hM.keep hk9 (fun e => h8.ne e.symm), hW⟩, fun x hx => ?_, h8.ne, h8.wB⟩, ((hk5w).trans hk8.upD).trans hk9⟩
  rcases mem_putL hx with rfl | hx
  focus
    exact hk9.heap hce (map_cells h8.kept hce)
  exact hk9.heap (h8.ents x hx) (map_cells h8.kept (h8.ents x hx))
end Go.Proofs.YtafnbbehmbmchaaDoor
