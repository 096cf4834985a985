/- container/heap: Init, Pop; the store's idle. -/
import Derived.Test.YtafnbbehmbmchaaDoorQc
namespace Go.Proofs.YtafnbbehmbmchaaDoor
open Go Go.V Go.RowKit
set_option linter.unusedVariables false
set_option linter.unusedSimpArgs false

set_option maxRecDepth 100000 in
theorem init_ca {base vb : Nat} {v : Value} {l : List PE} {w : World} (h : HeapAt w base vb v l) (hl : l.length ≤ 4096) :
    Ca Tryd.prog 40 #[ifV vb] w fun r w' => r = .tuple #[] ∧ ∃ l' : List PE, HeapAt w' base vb v l' ∧ l'.Perm l ∧ HeapF ltE 0 l'.length l' ∧ Keeps (fun b => v.ownBlock = some b) w w' := by
  refine ca_of_body (args := [ifV vb]) Tryd.func40 rfl (by kernel_rfl) ?_
  (repeat first | (apply wr_move; exact rfl; with_reducible (conv => enter [6, 3]; whnf)) | apply wc_seq | apply wc_region)
  refine wr_invoke (vs := []) rfl (mLenAt h.cell) h.len rfl rfl ?_
  rintro r w1 ⟨rfl, rfl⟩
  (repeat first | (apply wr_move; exact rfl; with_reducible (conv => enter [6, 3]; whnf)) | (apply wr_assign; exact rfl; with_reducible (conv => enter [6, 3]; whnf)) | apply wr_end | apply wc_seq | apply wc_region)
  refine wr_quoN (n := l.length) (m := 2) rfl rfl rfl (by decide) (w_i64 (by omega)) ?_
  have hq : ((l.length / 2 : Nat) : Int) ≤ 2048 := by omega
  (repeat first | (apply wr_assign; exact rfl; with_reducible (conv => enter [6, 3]; whnf)) | apply wr_end | apply wc_block | (apply wr_sub; (iterate 3 exact rfl); exact w_fit (by dsimp only [kIn]; first | done | omega)))
  refine wc_loopL (α := Nat × List PE) (fun p => [(0, ifV vb), (2, .int .i64 (l.length : Int)), (3, .int .i64 ((p.1 : Int) - 1))])
    (fun p ds w' => ds = [] ∧ p.1 ≤ l.length / 2 ∧ HeapAt w' base vb v p.2 ∧ p.2.Perm l ∧ HeapF ltE p.1 l.length p.2 ∧ Keeps (fun b => v.ownBlock = some b) w1 w') (fun p => p.1) (l.length / 2, l)
    ⟨rfl, Nat.le_refl _, h, List.Perm.refl _, fun p c a b hp hc hch ha hb => by unfold Ch2 at hch; omega, Keeps.refl _ _⟩ ⟨rfl, rfl, rfl, trivial⟩ ?_
  rintro ⟨m, l1⟩ ds f0 w2 ⟨rfl, hm, hH, hp, hF, hk⟩
  dsimp only at hm hH hp hF ⊢
  match m, hm, hF with
  | 0, hm, hF =>
    (repeat first | (apply wr_move; exact rfl; with_reducible (conv => enter [6, 3]; whnf)) | apply wr_end | apply wc_seq | apply wc_region | (apply wr_cmp; (iterate 3 exact rfl); exact cmpF (by dsimp only [cmpN]; first | done | omega)) | (apply wc_false; exact rfl) | (apply wc_exit; try simp only [thenE, inBlockE, bodyQ, ↓reduceIte, Nat.reduceEqDiff]))
    try unfold bodyQ
    exact leave0 rfl ⟨rfl, l1, hH, hp, by rw [hp.length_eq]; exact hF, hk⟩
  | m + 1, hm, hF =>
    have hm1 : ((m + 1 : Nat) : Int) - 1 = (m : Int) := by omega
    rw [hm1]
    (repeat first | (apply wr_move; exact rfl; with_reducible (conv => enter [6, 3]; whnf)) | apply wr_end | apply wc_seq | apply wc_region | apply wc_skip | apply wc_block | (apply wr_cmp; (iterate 3 exact rfl); exact cmpT (by dsimp only [cmpP]; first | done | omega)) | (apply wc_true; exact rfl))
    refine wr_call (vs := [ifV vb, .int .i64 (m : Int), .int .i64 (l.length : Int)]) rfl (down_ca hH (by rw [hp.length_eq]; exact hl) m l.length (by rw [hp.length_eq]; exact Nat.le_refl _) (by omega)) rfl ?_
    rintro r w3 ⟨l2, hH3, hp3, _, hF3, hk3⟩
    (repeat first | (apply wr_move; exact rfl; with_reducible (conv => enter [6, 3]; whnf)) | (apply wr_assign; exact rfl; with_reducible (conv => enter [6, 3]; whnf)) | apply wr_end | apply wc_region | (apply wr_sub; (iterate 3 exact rfl); exact w_fit (by dsimp only [kIn]; first | done | omega)) | (apply wr_nil; try simp only [thenE, inBlockE, bodyQ]))
    exact ⟨(m, l2), by dsimp only; omega, ⟨by trivial, by dsimp only; omega, hH3, hp3.trans hp, hF3 hF, hk.trans hk3⟩, rfl, rfl, rfl, trivial⟩
set_option maxRecDepth 100000 in
/-- Who is first is taken away. -/
theorem pop_ca {base vb : Nat} {v : Value} {l : List PE} {w : World} (h : HeapAt w base vb v l) (hl : l.length ≤ 4096) {z : PE} (hz : l[0]? = some z) :
    Ca Tryd.prog 32 #[ifV vb] w fun r w' => r = .iface 63 (ptrE z) ∧ Keeps (fun b => v.ownBlock = some b ∨ b = vb) w w' := by
  refine ca_of_body (args := [ifV vb]) Tryd.func32 rfl (by kernel_rfl) ?_
  have h0 := (List.getElem?_eq_some_iff.1 hz).1
  obtain ⟨n, hn⟩ : ∃ n, l.length = n + 1 := ⟨l.length - 1, by omega⟩
  obtain ⟨y, hy⟩ : ∃ y, l[n]? = some y := ⟨l[n]'(by omega), by simp [hn]⟩
  have hnn : (l.length : Int) - 1 = (n : Int) := by omega
  (repeat first | (apply wr_move; exact rfl; with_reducible (conv => enter [6, 3]; whnf)) | (apply wr_assign; exact rfl; with_reducible (conv => enter [6, 3]; whnf)) | apply wr_end | apply wc_seq | apply wc_region)
  refine wr_invoke (vs := []) rfl (mLenAt h.cell) h.len rfl rfl ?_
  rintro r w1 ⟨rfl, rfl⟩
  (repeat first | (apply wr_move; exact rfl; with_reducible (conv => enter [6, 3]; whnf)) | (apply wr_assign; exact rfl; with_reducible (conv => enter [6, 3]; whnf)) | apply wr_end | apply wc_seq | apply wc_region | (apply wr_sub; (iterate 3 exact rfl); exact w_fit (by dsimp only [kIn]; first | done | omega)))
  rw [hnn]
  refine wr_invoke (vs := [.int .i64 ((0 : Nat) : Int), .int .i64 (n : Int)]) rfl (mSwapAt h.cell) (swap_ca h hz hy) rfl rfl ?_
  rintro r w2 ⟨rfl, hH2, hk2⟩
  have hl2 : ((l.set 0 y).set n z).length = l.length := by rw [List.length_set, List.length_set]
  (repeat first | (apply wr_move; exact rfl; with_reducible (conv => enter [6, 3]; whnf)) | apply wr_end | apply wc_seq | apply wc_region)
  refine wr_call (vs := [ifV vb, .int .i64 ((0 : Nat) : Int), .int .i64 (n : Int)]) rfl (down_ca hH2 (by omega) 0 n (by omega) (by omega)) rfl ?_
  rintro r w3 ⟨l3, hH3, hp3, hq3, _, hk3⟩
  have h3n : l3[n]? = some z := by
    rw [hq3 n (Nat.le_refl _), List.getElem?_set_self (by rw [List.length_set]; omega)]
  (repeat first | (apply wr_move; exact rfl; with_reducible (conv => enter [6, 3]; whnf)) | apply wr_end | apply wc_seq | apply wc_region)
  refine wr_invoke (vs := []) rfl (mPop vb w3) (popI_ca hH3 (by rw [hp3.length_eq, hl2]; exact hn) h3n) rfl rfl ?_
  rintro r w4 ⟨rfl, hk4⟩
  (repeat first | (apply wr_assign; exact rfl; with_reducible (conv => enter [6, 3]; whnf)) | apply wr_end | (apply wc_ret; try simp only [thenE, inBlockE, bodyQ]))
  exact leave1 (v := .iface 63 (ptrE z)) rfl rfl ⟨rfl, ((hk2.trans hk3).mono fun k _ e => .inl e).trans (hk4.mono fun k _ e => .inr e)⟩
/-! ### idle -/
def outF {β γ : Type} (K : List β) (g : β → Option γ) (idx : List Nat) : List γ := idx.filterMap fun i => K[i]?.bind g
theorem outF_app {β γ : Type} (K : List β) (g : β → Option γ) (idx : List Nat) (i : Nat) : outF K g (idx ++ [i]) = outF K g idx ++ outF K g [i] := by simp [outF, List.filterMap_append]
theorem outF_perm {β γ : Type} {K : List β} {g : β → Option γ} {idx : List Nat} (hn : idx.Nodup) (h1 : ∀ i ∈ idx, i < K.length) (h2 : ∀ i, i < K.length → i ∈ idx) : (outF K g idx).Perm (K.filterMap g) := by
  have hp : idx.Perm (List.range K.length) := (List.perm_ext_iff_of_nodup hn List.nodup_range).2 fun i => by simp only [List.mem_range]; exact ⟨h1 i, h2 i⟩
  have h3 := hp.filterMap (fun i => K[i]?.bind g)
  have h4 : (List.range K.length).filterMap (fun i => K[i]?.bind g) = K.filterMap g := by
    have h5 := congrArg (List.filterMap fun o : Option β => o.bind g) (range_map K)
    rw [List.filterMap_map, List.filterMap_map] at h5
    exact h5
  rw [h4] at h3
  exact h3
/-- What stands of one in the heap: nothing if somebody wants it. -/
def unw (W : KY → Int) (now : Nat) (x : KY × PE) : Option EN := if 0 < wantP W x.1 then none else some (x.2.2.1, x.2.2.2.1, if x.2.2.2.1 = true then x.2.2.2.2 else now)
theorem iter_ne {w : World} {r mb : Nat} {M : List (KY × Value)} {idx : List Nat} (h : IterAt w encK r mb M idx) {q : Nat} {c : Array Value} {T : TypeId} {fr : Nat × Nat} (hq : w.heap[q]? = some (.cells c T fr)) : q ≠ r ∧ q ≠ mb := by
  obtain ⟨es, c, since, last, seen, h1, h2, h3, h4, h5, h6, h7, h7', h8, h9, h10, h11⟩ := h
  refine ⟨?_, ?_⟩
  · rintro rfl; rw [h8] at hq; cases hq
  · rintro rfl; rw [h1] at hq; cases hq
theorem own_cell {w : World} {base n k : Nat} {T : TypeId} {v : Value} {xs : List Value} (h : w.ownsRow base T k v n xs) {q : Nat} (hq : v.ownBlock = some q) : base ≤ q ∧ ∃ cur, w.heap[q]? = some (.cells cur T (0, 0)) := by
  rcases h.2 with ⟨rfl, _⟩ | ⟨g, cap, cur, rfl, hb, hg, _⟩
  · simp [Value.ownBlock] at hq
  · simp [Value.ownBlock] at hq
    subst hq
    exact ⟨hb, cur, hg⟩
theorem HeapAt.keepD {D : Nat → Prop} {w w' : World} {base vb : Nat} {v : Value} {l : List PE} (h : HeapAt w base vb v l) (k : Keeps D w w') (hd : ∀ (q : Nat) (c : Array Value) (T : TypeId) (fr : Nat × Nat), w.heap[q]? = some (.cells c T fr) → ¬ D q) : HeapAt w' base vb v l :=
  ⟨k.heap h.cell (hd _ _ _ _ h.cell), own_keep h.row k (fun q hq => hd _ _ _ _ (own_cell h.row hq).2.choose_spec), fun x hx => k.heap (h.ents x hx) (hd _ _ _ _ (h.ents x hx))⟩
theorem GP_one (x : PE) : ∀ u ∈ GP x, u.oneCell' = true := by
  intro u hu
  simp only [GP, List.mem_singleton] at hu
  subst hu; rfl
/- One more in the heap; $3: where its entry $1 stands in block b8. -/
set_option maxRecDepth 100000 in
set_option maxHeartbeats 8000000 in
theorem idle_ca {sb kb wb : Nat} {room : Int} {grace : Nat} {K : KL} {W : KY → Int} {w : World} (h : St w sb kb wb room grace K W) (hK : K.length ≤ 4096) (hkl : ∀ x ∈ K, x.1.2.length ≤ 9223372036854775807) (now : Nat) :
    Ca Tryd.prog 31 #[.pointer (some ⟨sb, 0, none⟩), .int .u64 ((now : Nat) : Int)] w fun r w' => ∃ vb v l, r = ifV vb ∧ w.heap.size ≤ vb ∧ HeapAt w' w.heap.size vb v l ∧ (l.map (·.2)).Perm (K.filterMap (unw W now)) ∧ HeapF ltE 0 l.length l ∧ Keeps NoB w w' := by
  refine ca_of_body (args := [.pointer (some ⟨sb, 0, none⟩), .int .u64 ((now : Nat) : Int)]) Tryd.func31 rfl (by kernel_rfl) ?_
  (repeat first | (apply wr_assign; exact rfl; with_reducible (conv => enter [6, 3]; whnf)) | apply wr_end | apply wc_seq | apply wc_region)
  refine wr_buildSlice0 rfl ?_
  refine wr_name ?_
  intro w1 hw1
  obtain ⟨c1, hc1⟩ : ∃ b, b = w.heap.size := ⟨_, rfl⟩
  have hk1 : Keeps NoB w w1 := by rw [hw1]; exact (Keeps.refl NoB w).alloc _
  have hcc1 : w1.heap[c1]? = some (.cells #[] 63 (0, 0)) := by rw [hw1, hc1]; exact heap_alloc_same _ _
  rw [← hc1]
  clear hw1
  refine wr_box (v := .slice (some ⟨c1, 0, none⟩) 0 0) rfl rfl ?_
  refine wr_name ?_
  intro w2 hw2
  obtain ⟨vb, hvb⟩ : ∃ b, b = w1.heap.size := ⟨_, rfl⟩
  have hk2 : Keeps NoB w1 w2 := by rw [hw2]; exact (Keeps.refl NoB w1).alloc _
  have hc2 : w2.heap[vb]? = some (.cells #[.slice (some ⟨c1, 0, none⟩) 0 0] 87 (0, 0)) := by rw [hw2, hvb]; exact heap_alloc_same _ _
  rw [← hvb]
  clear hw2
  have h2 := h.keep (hk1.trans hk2)
  have hs2 := h2.cells
  have hs12 := hk1.size
  have hs23 := hk2.size
  have hH2 : HeapAt w2 w.heap.size vb (.slice (some ⟨c1, 0, none⟩) 0 0) [] := ⟨hc2, ⟨rfl, .inr ⟨c1, 0, #[], rfl, by omega, hk2.heap hcc1 (fun h => h), Nat.le_refl _, by decide, rfl, rfl⟩⟩, fun x hx => by cases hx⟩
  (repeat first | (apply wr_move; exact rfl; with_reducible (conv => enter [6, 3]; whnf)) | (apply wr_assign; exact rfl; with_reducible (conv => enter [6, 3]; whnf)) | apply wr_end | apply wc_seq | apply wc_region | (apply wr_fieldAddr; iterate 2 exact rfl) | (apply wr_nilCheck; iterate 2 exact rfl) | (apply wr_load; (iterate 3 exact rfl); (focus repeat first | with_reducible assumption | exact heap_alloc_same _ _ | exact World.putObj_heap_same (by first | omega | (simp only [World.size_alloc, World.putObj_size, ne_eq]; omega)) | ((first | refine hAl ?_ ?_ | refine hPu ?_ ?_); focus first | omega | (simp only [World.size_alloc, World.putObj_size, ne_eq]; omega))); exact rfl; conv => enter [6, 3]; whnf))
  refine wr_rangeM rfl rfl h2.kept ?_
  intro w3 hI3 hk3
  obtain ⟨r, hr⟩ : ∃ b, b = w2.heap.size := ⟨_, rfl⟩
  rw [← hr] at hI3 ⊢
  have hkw3 := (hk1.trans hk2).trans hk3
  have hln : (mapL ptrE K).length = K.length := by simp [mapL]
  (repeat first | apply wr_end | apply wc_block)
  refine wc_loopL (α := List Nat × Value × List PE) (fun _ => [(0, .pointer (some ⟨sb, 0, none⟩)), (1, .int .u64 ((now : Nat) : Int)), (5, .pointer (some ⟨vb, 0, none⟩)), (15, .pointer (some ⟨r, 0, none⟩))])
    (fun p ds w' => ds = [] ∧ IterAt w' encK r kb (mapL ptrE K) p.1 ∧ HeapAt w' w.heap.size vb p.2.1 p.2.2 ∧ p.2.2.map (·.2) = outF K (unw W now) p.1 ∧ Keeps NoB w w') (fun p => K.length - p.1.length) ([], .slice (some ⟨c1, 0, none⟩) 0 0, [])
    ⟨rfl, hI3, hH2.keep hk3, rfl, hkw3⟩ ⟨rfl, rfl, rfl, rfl, trivial⟩ ?_
  rintro ⟨idx, ov, l⟩ ds f0 w4 ⟨rfl, hI4, hH4, hlo, hkw4⟩
  dsimp only at hI4 hH4 hlo ⊢
  have hcell4 := hH4.cell
  (repeat first | apply wc_seq | apply wc_region)
  refine wr_nextM rfl rfl hI4 ?_ ?_
  · intro w5 hall hk5
    have hH5 := hH4.keep hk5
    have hlen5 := iter_len hI4
    rw [hln] at hlen5
    have hl4096 : l.length ≤ 4096 := by
      have h1 := congrArg List.length hlo
      rw [List.length_map] at h1
      have h2 : (outF K (unw W now) idx).length ≤ idx.length := List.length_filterMap_le _ _
      omega
    have hp : (outF K (unw W now) idx).Perm (K.filterMap (unw W now)) := by
      obtain ⟨es, c, since, last, seen, h1, h2, h3, h4, h5, h6, h7, h7', h8, h9, h10, h11⟩ := hI4
      exact outF_perm h10 (fun i hi => by have := h11 i hi; rw [hln] at this; exact this) (fun i hi => hall i (by rw [hln]; exact hi))
    (repeat first | (apply wr_move; exact rfl; with_reducible (conv => enter [6, 3]; whnf)) | apply wr_end | apply wc_seq | apply wc_region | (apply wr_extract; (iterate 3 exact rfl); with_reducible (conv => enter [6, 3]; whnf)) | (apply wc_false; exact rfl) | (apply wc_exit; try simp only [thenE, inBlockE, bodyQ, ↓reduceIte, Nat.reduceEqDiff]))
    refine wr_makeIface (v := .pointer (some ⟨vb, 0, none⟩)) rfl rfl rfl ?_
    refine wr_call (vs := [ifV vb]) rfl (init_ca hH5 hl4096) rfl ?_
    rintro v w6 ⟨rfl, l', hH6, hp6, hF6, hk6⟩
    (repeat first | (apply wr_move; exact rfl; with_reducible (conv => enter [6, 3]; whnf)) | apply wr_end | apply wc_seq | apply wc_region)
    refine wr_makeIface (v := .pointer (some ⟨vb, 0, none⟩)) rfl rfl rfl ?_
    (repeat first | (apply wr_assign; exact rfl; with_reducible (conv => enter [6, 3]; whnf)) | apply wr_end | (apply wc_ret; try simp only [thenE, inBlockE, bodyQ]))
    exact leave1 (v := ifV vb) rfl rfl ⟨vb, ov, l', rfl, by omega, by rw [hc1]; exact hH6, by rw [← hlo] at hp; exact (hp6.map _).trans hp, hF6, (hkw4.trans hk5).trans' hk6 (fun q hq e => by have := (own_cell hH5.row e).1; omega)⟩
  · intro w5 i p hi hp hI5 hE5 hk5
    have hp' : ∃ x, K[i]? = some x ∧ p = (x.1, ptrE x.2) := by
      simp only [mapL, List.getElem?_map, Option.map_eq_some_iff] at hp
      obtain ⟨x, hx, rfl⟩ := hp
      exact ⟨x, hx, rfl⟩
    obtain ⟨x, hxi, rfl⟩ := hp'
    have hxK : x ∈ K := List.mem_of_getElem? hxi
    have hkx := hkl x hxK
    have hlen5 := iter_len hI5
    rw [List.length_append, hln] at hlen5
    simp only [List.length_singleton] at hlen5
    have hkw5 : Keeps NoB w w5 := Keeps.trans' hkw4 hk5 (fun q hq e => by have := (iter_ne hI4 hcell4).1; have := lt_of_heap hc2; omega)
    have hH5 : HeapAt w5 w.heap.size vb ov l := hH4.keepD hk5 (fun q c T fr hq e => (iter_ne hI4 hq).1 e)
    have hcell5 := hH5.cell
    (repeat first | apply wr_end | apply wc_seq | apply wc_region | apply wc_skip | apply wc_block | (apply wr_extract; (iterate 3 exact rfl); with_reducible (conv => enter [6, 3]; whnf)) | (apply wc_true; exact rfl))
    refine wr_entryM rfl rfl hE5 ?_
    (repeat first | (apply wr_alloc; exact rfl) | (apply wr_extract; (iterate 3 exact rfl); with_reducible (conv => enter [6, 3]; whnf)))
    refine wr_storeAll (cs := [.int .i64 x.1.1, S x.1.2]) rfl rfl rfl (by intro u hu; simp at hu; rcases hu with rfl | rfl <;> rfl) (heap_alloc_same _ _) rfl rfl ?_
    refine wr_name ?_
    intro w6 hww6
    obtain ⟨bw6, hbw6⟩ : ∃ b, b = (w5).heap.size := ⟨_, rfl⟩
    have hkw6 : Keeps NoB w5 w6 := by rw [hww6]; exact ((Keeps.refl NoB w5).alloc _).put _ (fun h => by omega)
    have hcw6 : (w6).heap[bw6]? = some (.cells ([.int .i64 x.1.1, S x.1.2]).toArray 28 (0, 0)) := by rw [hww6, hbw6]; exact World.putObj_heap_same (by simp)
    rw [← hbw6]
    clear hww6
    (repeat first | (apply wr_move; exact rfl; with_reducible (conv => enter [6, 3]; whnf)) | (apply wr_assign; exact rfl; with_reducible (conv => enter [6, 3]; whnf)) | apply wr_end | apply wc_seq | apply wc_region)
    refine wr_loadAll (cs := [.int .i64 x.1.1, S x.1.2]) rfl rfl rfl hcw6 rfl ?_
    refine wr_call (vs := [.pointer (some ⟨sb, 0, none⟩), encK x.1]) rfl (wanted_ca (h.keep (hkw5.trans hkw6)) x.1 hkx) rfl ?_
    rintro v w7 ⟨rfl, hk7⟩
    have hk57 := hkw6.trans hk7
    have he7 := (h.keep (hkw5.trans hk57)).ents x hxK
    by_cases hwx : 0 < wantP W x.1
    · have hoi : outF K (unw W now) (idx ++ [i]) = outF K (unw W now) idx := by rw [outF_app]; simp [outF, hxi, unw, hwx]
      (repeat first | apply wr_end | (apply wr_cmp; (iterate 3 exact rfl); exact cmpT (by dsimp only [cmpP]; first | done | omega)) | (apply wc_true; exact rfl) | (apply wc_exit; try simp only [thenE, inBlockE, bodyQ, ↓reduceIte, Nat.reduceEqDiff]))
      exact ⟨(idx ++ [i], ov, l), by simp only [List.length_append, List.length_singleton]; omega, ⟨by trivial, hI5.keep hk57 (fun h => h) (fun h => h), hH5.keep hk57, by dsimp only; rw [hlo, hoi], hkw5.trans hk57⟩, rfl, rfl, rfl, rfl, trivial⟩
    · obtain ⟨kx, eb, er, ei, es⟩ := x
      dsimp only at hwx he7 hcw6 ⊢
      (repeat first | (apply wr_move; exact rfl; with_reducible (conv => enter [6, 3]; whnf)) | apply wr_end | apply wc_seq | apply wc_region | apply wc_skip | (apply wr_nilCheck; iterate 2 exact rfl) | (apply wr_cmp; (iterate 3 exact rfl); exact cmpF (by dsimp only [cmpN]; first | done | omega)) | (apply wc_false; exact rfl))
      refine wr_loadAll (cs := GE (er, ei, es)) rfl rfl rfl he7 rfl ?_
      (repeat first | (apply wr_alloc; exact rfl))
      refine wr_storeAll (cs := GE (er, ei, es)) rfl rfl rfl (GE_one _) (heap_alloc_same _ _) rfl rfl ?_
      refine wr_name ?_
      intro w8 hww8
      obtain ⟨bw8, hbw8⟩ : ∃ b, b = (w7).heap.size := ⟨_, rfl⟩
      have hkw8 : Keeps NoB w7 w8 := by rw [hww8]; exact ((Keeps.refl NoB w7).alloc _).put _ (fun h => by omega)
      have hcw8 : (w8).heap[bw8]? = some (.cells (GE (er, ei, es)).toArray 66 (0, 0)) := by rw [hww8, hbw8]; exact World.putObj_heap_same (by simp)
      rw [← hbw8]
      clear hww8
      have hk58 := hk57.trans hkw8
      obtain ⟨b8, hb8'⟩ : ∃ b, b = bw8 := ⟨_, rfl⟩
      rw [← hb8'] at hcw8 ⊢
      have hl8 := lt_of_heap hcw8
      have hcell8 := hk58.heap hcell5 (fun h => h)
      cases ei with
      | true =>
        (repeat first | (apply wr_move; exact rfl; with_reducible (conv => enter [6, 3]; whnf)) | apply wr_end | apply wc_seq | apply wc_region | apply wc_skip | (apply wr_fieldAddr; iterate 2 exact rfl) | (apply wr_not; iterate 2 exact rfl) | (apply wr_nilCheck; iterate 2 exact rfl) | (apply wr_load; (iterate 3 exact rfl); (focus repeat first | with_reducible assumption | exact heap_alloc_same _ _ | exact World.putObj_heap_same (by first | omega | (simp only [World.size_alloc, World.putObj_size, ne_eq]; omega)) | ((first | refine hAl ?_ ?_ | refine hPu ?_ ?_); focus first | omega | (simp only [World.size_alloc, World.putObj_size, ne_eq]; omega))); exact rfl; conv => enter [6, 3]; whnf) | (apply wc_false; exact rfl))
        refine wr_buildSlice (vs := [.pointer (some ⟨b8, 0, none⟩)]) rfl rfl (by intro v hv; simp at hv; subst hv; rfl) rfl (by decide) (by decide) (by decide) ?_
        have hk59 := hk58
        have hc9 := hcw8
        have hH9 := hH5.keep hk59
        have hoi : outF K (unw W now) (idx ++ [i]) = outF K (unw W now) idx ++ [(er, true, es)] := by rw [outF_app]; simp [outF, hxi, unw, hwx]
        have hlen9 : l.length ≤ K.length := by
          have h1 := congrArg List.length hlo
          rw [List.length_map] at h1
          have h2 : (outF K (unw W now) idx).length ≤ idx.length := List.length_filterMap_le _ _
          omega
        refine wr_append (base := w.heap.size) (v := ov) (n := l.length) (m := 1) (news := GP (b8, (er, true, es))) rfl rfl (own_keep hH9.row ((Keeps.refl NoB w8).alloc _) (fun _ _ h => h)) rfl (heap_alloc_same _ _) rfl (GP_one _) rfl (by decide) (by omega) (by omega) (by have := hk59.size; have := hkw5.size; simp; omega) ?_
        intro ov' w10 hown10 hk10 _
        have hk910 := ((Keeps.refl NoB w8).alloc (.cells #[.pointer (some ⟨b8, 0, none⟩)] 63)).upD (D := fun k => ov.ownBlock = some k) |>.trans hk10
        have hnv := fun q hq => hH9.ne_vb (q := q) hq
        have hne := fun q hq z hz => hH9.ne_ent (q := q) hq (x := z) hz
        have hown9 := fun q hq => own_cell hH9.row (q := q) hq
        have hc10 := hk910.heap hH9.cell (fun e => hnv _ e rfl)
        have hc8' := hk910.heap hc9 (fun e => by
          obtain ⟨cur, hcur⟩ := (hown9 _ e).2
          rw [hc9] at hcur
          cases hcur)
        have hI9 := hI5.keep hk59 (fun h => h) (fun h => h)
        have hI10 := hI9.keep hk910 (fun e => (iter_ne hI9 (hown9 _ e).2.choose_spec).1 rfl) (fun e => (iter_ne hI9 (hown9 _ e).2.choose_spec).2 rfl)
        (repeat first | (apply wr_nilCheck; iterate 2 exact rfl))
        refine wr_store (v := ov') (u := ov) rfl rfl rfl (own_one hown10) hc10 rfl ?_
        (repeat first | (apply wr_nil; try simp only [thenE, inBlockE, bodyQ]))
        refine ⟨(idx ++ [i], ov', l ++ [(b8, (er, true, es))]), by simp only [List.length_append, List.length_singleton]; omega, ⟨by trivial, ?_, ⟨World.putObj_heap_same (lt_of_heap hc10), ?_, ?_⟩, ?_, ?_⟩, rfl, rfl, rfl, rfl, trivial⟩
        focus
          exact hI10.keep ((Keeps.refl (· = vb) w10).put _ (fun _ => rfl)) (fun e => (iter_ne hI10 hc10).1 e.symm) (fun e => (iter_ne hI10 hc10).2 e.symm)
        focus
          dsimp only
          rw [List.length_append, List.flatMap_append]
          refine own_keep ?_ ((Keeps.refl (· = vb) w10).put _ (fun _ => rfl)) (fun q hq e => ?_)
          focus
            simpa using hown10
          obtain ⟨cur, hcur⟩ := (own_cell hown10 hq).2
          rw [e, hc10] at hcur
          cases hcur
        focus
          intro z hz
          refine Keeps.heap ((Keeps.refl (· = vb) w10).put _ (fun _ => rfl)) ?_ (fun e => ?_)
          focus
            dsimp only at hz
            rcases List.mem_append.1 hz with hz | hz
            focus
              exact hk910.heap (hH9.ents z hz) (fun e => hne _ e z hz rfl)
            simp only [List.mem_singleton] at hz
            subst hz
            exact hc8'
          dsimp only at hz
          have hzz : w10.heap[z.1]? = some (.cells (GE z.2).toArray 66 (0, 0)) := by
            rcases List.mem_append.1 hz with hz | hz
            · exact hk910.heap (hH9.ents z hz) (fun e => hne _ e z hz rfl)
            · simp only [List.mem_singleton] at hz
              subst hz
              exact hc8'
          rw [e, hc10] at hzz
          cases hzz
        focus
          dsimp only
          rw [List.map_append, hlo, hoi]; rfl
        exact ((hkw5.trans hk59).trans' hk910 (fun q hq e => by have := (hown9 _ e).1; omega)).trans' ((Keeps.refl (· = vb) w10).put _ (fun _ => rfl)) (fun q hq e => by omega)
      | false =>
        (repeat first | (apply wr_move; exact rfl; with_reducible (conv => enter [6, 3]; whnf)) | apply wr_end | apply wc_seq | apply wc_region | (apply wr_fieldAddr; iterate 2 exact rfl) | (apply wr_not; iterate 2 exact rfl) | (apply wr_nilCheck; iterate 2 exact rfl) | (apply wr_load; (iterate 3 exact rfl); (focus repeat first | with_reducible assumption | exact heap_alloc_same _ _ | exact World.putObj_heap_same (by first | omega | (simp only [World.size_alloc, World.putObj_size, ne_eq]; omega)) | ((first | refine hAl ?_ ?_ | refine hPu ?_ ?_); focus first | omega | (simp only [World.size_alloc, World.putObj_size, ne_eq]; omega))); exact rfl; conv => enter [6, 3]; whnf) | (apply wr_store; (iterate 3 exact rfl); (first | exact rfl | with_reducible assumption); (focus repeat first | with_reducible assumption | exact heap_alloc_same _ _ | exact World.putObj_heap_same (by first | omega | (simp only [World.size_alloc, World.putObj_size, ne_eq]; omega)) | ((first | refine hAl ?_ ?_ | refine hPu ?_ ?_); focus first | omega | (simp only [World.size_alloc, World.putObj_size, ne_eq]; omega))); exact rfl) | (apply wc_true; exact rfl))
        generalize hw9 : World.putObj w8 _ _ = w9
        have hc9' : w9.heap[b8]? = some (.cells (GE (er, false, now)).toArray 66 (0, 0)) := by rw [← hw9]; exact World.putObj_heap_same (lt_of_heap hcw8)
        have hk59' : Keeps NoB w5 w9 := hk58.trans' ((by rw [← hw9]; exact (Keeps.refl _ w8).put _ (fun _ => rfl) : Keeps (· = b8) w8 w9)) (fun q hq e => by have := hk57.size; omega)
        have hcell9 := hk59'.heap hcell5 (fun h => h)
        clear hw9
        (repeat first | (apply wr_load; (iterate 3 exact rfl); (focus repeat first | with_reducible assumption | exact heap_alloc_same _ _ | exact World.putObj_heap_same (by first | omega | (simp only [World.size_alloc, World.putObj_size, ne_eq]; omega)) | ((first | refine hAl ?_ ?_ | refine hPu ?_ ?_); focus first | omega | (simp only [World.size_alloc, World.putObj_size, ne_eq]; omega))); exact rfl; conv => enter [6, 3]; whnf))
        refine wr_buildSlice (vs := [.pointer (some ⟨b8, 0, none⟩)]) rfl rfl (by intro v hv; simp at hv; subst hv; rfl) rfl (by decide) (by decide) (by decide) ?_
        have hk59 := hk59'
        have hc9 := hc9'
        have hH9 := hH5.keep hk59
        have hoi : outF K (unw W now) (idx ++ [i]) = outF K (unw W now) idx ++ [(er, false, now)] := by rw [outF_app]; simp [outF, hxi, unw, hwx]
        have hlen9 : l.length ≤ K.length := by
          have h1 := congrArg List.length hlo
          rw [List.length_map] at h1
          have h2 : (outF K (unw W now) idx).length ≤ idx.length := List.length_filterMap_le _ _
          omega
        refine wr_append (base := w.heap.size) (v := ov) (n := l.length) (m := 1) (news := GP (b8, (er, false, now))) rfl rfl (own_keep hH9.row ((Keeps.refl NoB w9).alloc _) (fun _ _ h => h)) rfl (heap_alloc_same _ _) rfl (GP_one _) rfl (by decide) (by omega) (by omega) (by have := hk59.size; have := hkw5.size; simp; omega) ?_
        intro ov' w10 hown10 hk10 _
        have hk910 := ((Keeps.refl NoB w9).alloc (.cells #[.pointer (some ⟨b8, 0, none⟩)] 63)).upD (D := fun k => ov.ownBlock = some k) |>.trans hk10
        have hnv := fun q hq => hH9.ne_vb (q := q) hq
        have hne := fun q hq z hz => hH9.ne_ent (q := q) hq (x := z) hz
        have hown9 := fun q hq => own_cell hH9.row (q := q) hq
        have hc10 := hk910.heap hH9.cell (fun e => hnv _ e rfl)
        have hc8' := hk910.heap hc9 (fun e => by
          obtain ⟨cur, hcur⟩ := (hown9 _ e).2
          rw [hc9] at hcur
          cases hcur)
        have hI9 := hI5.keep hk59 (fun h => h) (fun h => h)
        have hI10 := hI9.keep hk910 (fun e => (iter_ne hI9 (hown9 _ e).2.choose_spec).1 rfl) (fun e => (iter_ne hI9 (hown9 _ e).2.choose_spec).2 rfl)
        (repeat first | (apply wr_nilCheck; iterate 2 exact rfl))
        refine wr_store (v := ov') (u := ov) rfl rfl rfl (own_one hown10) hc10 rfl ?_
        (repeat first | (apply wr_nil; try simp only [thenE, inBlockE, bodyQ]))
        refine ⟨(idx ++ [i], ov', l ++ [(b8, (er, false, now))]), by simp only [List.length_append, List.length_singleton]; omega, ⟨by trivial, ?_, ⟨World.putObj_heap_same (lt_of_heap hc10), ?_, ?_⟩, ?_, ?_⟩, rfl, rfl, rfl, rfl, trivial⟩
        focus
          exact hI10.keep ((Keeps.refl (· = vb) w10).put _ (fun _ => rfl)) (fun e => (iter_ne hI10 hc10).1 e.symm) (fun e => (iter_ne hI10 hc10).2 e.symm)
        focus
          dsimp only
          rw [List.length_append, List.flatMap_append]
          refine own_keep ?_ ((Keeps.refl (· = vb) w10).put _ (fun _ => rfl)) (fun q hq e => ?_)
          focus
            simpa using hown10
          obtain ⟨cur, hcur⟩ := (own_cell hown10 hq).2
          rw [e, hc10] at hcur
          cases hcur
        focus
          intro z hz
          refine Keeps.heap ((Keeps.refl (· = vb) w10).put _ (fun _ => rfl)) ?_ (fun e => ?_)
          focus
            dsimp only at hz
            rcases List.mem_append.1 hz with hz | hz
            focus
              exact hk910.heap (hH9.ents z hz) (fun e => hne _ e z hz rfl)
            simp only [List.mem_singleton] at hz
            subst hz
            exact hc8'
          dsimp only at hz
          have hzz : w10.heap[z.1]? = some (.cells (GE z.2).toArray 66 (0, 0)) := by
            rcases List.mem_append.1 hz with hz | hz
            · exact hk910.heap (hH9.ents z hz) (fun e => hne _ e z hz rfl)
            · simp only [List.mem_singleton] at hz
              subst hz
              exact hc8'
          rw [e, hc10] at hzz
          cases hzz
        focus
          dsimp only
          rw [List.map_append, hlo, hoi]; rfl
        exact ((hkw5.trans hk59).trans' hk910 (fun q hq e => by have := (hown9 _ e).1; omega)).trans' ((Keeps.refl (· = vb) w10).put _ (fun _ => rfl)) (fun q hq e => by omega)
end Go.Proofs.YtafnbbehmbmchaaDoor
