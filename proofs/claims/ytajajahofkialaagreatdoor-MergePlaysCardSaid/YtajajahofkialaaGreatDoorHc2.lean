/- maps.Keys, slices.Collect. -/
import Derived.Test.YtajajahofkialaaGreatDoorHa2
namespace Go.Proofs.YtajajahofkialaaGreatDoor
open Go Go.V Go.RowKit
set_option linter.unusedVariables false
set_option linter.unusedSimpArgs false

theorem nodup_len {α : Type} [DecidableEq α] : ∀ (l L : List α), l.Nodup → (∀ x ∈ l, x ∈ L) → l.length ≤ L.length
  | [], L, _, _ => Nat.zero_le _
  | x :: l, L, hn, hs => by
    obtain ⟨h1, h2⟩ := List.nodup_cons.1 hn
    have hx : x ∈ L := hs x List.mem_cons_self
    have := nodup_len l (L.erase x) h2 (fun y hy => (List.mem_erase_of_ne (fun e => h1 (by rw [← e]; exact hy))).2 (hs y (List.mem_cons_of_mem _ hy)))
    rw [List.length_erase_of_mem hx] at this
    have := List.length_pos_of_mem hx
    rw [List.length_cons]
    omega
/-- Blocks that are cells, or a loop's record. -/
def Dc (w : World) (q : Nat) : Prop := (∃ c T fr, w.heap[q]? = some (.cells c T fr)) ∨ ∃ l, w.heap[q]? = some (.loop l)
def IsIt (w : World) (r : Nat) : Prop := ∃ mb s seen l, w.heap[r]? = some (.mapIter mb s seen l)
theorem iter_isIt {α : Type} [DecidableEq α] {w : World} {enc : α → Value} {r mb : Nat} {M : List (α × Value)} {idx : List Nat} (h : IterAt w enc r mb M idx) : IsIt w r := by
  obtain ⟨es, c, since, last, seen, h1, h2, h3, h4, h5, h6, h7, h7', h8, h9⟩ := h
  exact ⟨_, _, _, _, h8⟩
theorem IsIt.dc {w : World} {r : Nat} (h : IsIt w r) : ¬ Dc w r := by
  obtain ⟨a, b, c, d, h⟩ := h
  rintro (⟨x, y, z, e⟩ | ⟨l, e⟩)
  · rw [h] at e; cases e
  · rw [h] at e; cases e
theorem map_dc {α : Type} [DecidableEq α] {w : World} {enc : α → Value} {b : Nat} {M : List (α × Value)} (h : MapAt w enc b M) : ¬ Dc w b := by
  obtain ⟨es, n, hb, _⟩ := h
  rintro (⟨x, y, z, e⟩ | ⟨l, e⟩)
  · rw [hb] at e; cases e
  · rw [hb] at e; cases e
theorem iter_idx {α : Type} [DecidableEq α] {w : World} {enc : α → Value} {r mb : Nat} {M : List (α × Value)} {idx : List Nat} (h : IterAt w enc r mb M idx) : idx.length ≤ M.length := by
  obtain ⟨es, c, since, last, seen, h1, h2, h3, h4, h5, h6, h7, h7', h8, h9, h10, h11⟩ := h
  have := nodup_len idx (List.range M.length) h10 (fun i hi => List.mem_range.2 (h11 i hi))
  rwa [List.length_range] at this
/-- What was handed out. -/
def outK (C : List (TT × Value)) (idx : List Nat) : TX := idx.filterMap fun i => (C[i]?).map (·.1)
set_option maxRecDepth 100000 in
set_option maxHeartbeats 4000000 in
theorem keys1_ca {y : Value} {bm mb : Nat} {T : TypeId} {C : List (TT × Value)} (I : TX → World → Prop) {n0 : Nat} (hst : ∀ acc w1 w2 r, n0 ≤ r → I acc w1 → IsIt w1 r → Keeps (· = r) w1 w2 → I acc w2) (hst0 : ∀ acc w1 w2, I acc w1 → Keeps NoB w1 w2 → I acc w2)
    (hy : ∀ acc x w1, acc.length < C.length → I acc w1 → CallV Tryz.prog y #[S x] w1 fun v w2 => v = .bool true ∧ I (acc ++ [x]) w2 ∧ Keeps (Dc w1) w1 w2) {w : World} (hbm : w.heap[bm]? = some (.cells #[.map (some mb)] T (0, 0))) (hC : MapAt w Go.V.encS mb C) (hI : I [] w) (hn0 : n0 ≤ w.heap.size) :
    Ca Tryz.prog 70 #[y, .pointer (some ⟨bm, 0, none⟩)] w fun v w' => v = .tuple #[] ∧ ∃ acc, I acc w' ∧ (∀ x, x ∈ acc ↔ x ∈ C.map (·.1)) ∧ acc.length ≤ C.length := by
  refine ca_of_body (args := [y, .pointer (some ⟨bm, 0, none⟩)]) Tryz.func70 rfl (by kernel_rfl) ?_
  (repeat first | apply wc_seq | apply wc_region | (apply wr_load; (iterate 3 exact rfl); (focus repeat first | with_reducible assumption | exact heap_alloc_same _ _ | exact World.putObj_heap_same (by first | omega | (simp only [World.size_alloc, World.putObj_size, ne_eq]; omega)) | ((first | refine hAl ?_ ?_ | refine hPu ?_ ?_); focus first | omega | (simp only [World.size_alloc, World.putObj_size, ne_eq]; omega))); exact rfl; conv => enter [6, 3]; whnf))
  refine wr_rangeM rfl rfl hC ?_
  intro w1 hI1 hk1
  obtain ⟨r, hr⟩ : ∃ b, b = w.heap.size := ⟨_, rfl⟩
  rw [← hr] at hI1 ⊢
  (repeat first | apply wr_end | apply wc_block)
  refine wc_loopL (α := List Nat) (fun _ => [(0, y), (5, .pointer (some ⟨r, 0, none⟩))])
    (fun idx ds w' => ds = [] ∧ IterAt w' Go.V.encS r mb C idx ∧ I (outK C idx) w' ∧ (outK C idx).length = idx.length) (fun idx => C.length - idx.length) []
    ⟨rfl, hI1, hst0 _ _ _ hI hk1, rfl⟩ ⟨rfl, rfl, trivial⟩ ?_
  rintro idx ds f0 w2 ⟨rfl, hI2, hA, hlen⟩
  have hidx := iter_idx hI2
  (repeat first | apply wc_seq | apply wc_region)
  refine wr_nextM rfl rfl hI2 ?_ ?_
  · intro w3 hall hk3
    (repeat first | apply wr_end | apply wc_seq | (apply wr_extract; (iterate 3 exact rfl); with_reducible (conv => enter [6, 3]; whnf)) | (apply wc_false; exact rfl) | (apply wc_exit; try simp only [thenE, inBlockE, bodyQ, ↓reduceIte, Nat.reduceEqDiff]))
    refine leave0 rfl ⟨rfl, _, hst0 _ _ _ hA hk3, fun x => ?_, by omega⟩
    unfold outK
    rw [List.mem_filterMap, List.mem_map]
    constructor
    · rintro ⟨i, _, h⟩
      obtain ⟨p, hp, rfl⟩ := Option.map_eq_some_iff.1 h
      exact ⟨p, List.mem_of_getElem? hp, rfl⟩
    · rintro ⟨p, hp, rfl⟩
      obtain ⟨i, hi⟩ := List.getElem?_of_mem hp
      exact ⟨i, hall i (List.getElem?_eq_some_iff.1 hi).1, by rw [hi]; rfl⟩
  · intro w3 i p hni hp hI3 hE3 hk3
    have hA3 := hst _ _ _ _ (by omega) hA (iter_isIt hI2) hk3
    have hidx3 := iter_idx hI3
    rw [List.length_append, List.length_singleton] at hidx3
    have hout : outK C (idx ++ [i]) = outK C idx ++ [p.1] := by
      unfold outK
      rw [List.filterMap_append]
      simp [hp]
    (repeat first | apply wr_end | apply wc_seq | apply wc_region | apply wc_skip | apply wc_block | (apply wr_extract; (iterate 3 exact rfl); with_reducible (conv => enter [6, 3]; whnf)) | (apply wc_true; exact rfl))
    refine wr_entryM rfl rfl hE3 ?_
    (repeat first | (apply wr_move; exact rfl; with_reducible (conv => enter [6, 3]; whnf)) | (apply wr_assign; exact rfl; with_reducible (conv => enter [6, 3]; whnf)) | apply wr_end | apply wc_seq | apply wc_region | (apply wr_extract; (iterate 3 exact rfl); with_reducible (conv => enter [6, 3]; whnf)))
    refine wr_callv (vs := [S p.1]) rfl (hy (outK C idx) p.1 w3 (by omega) hA3) rfl rfl ?_
    rintro v w4 ⟨rfl, hA4, hk4⟩
    have hI4 := hI3.keep hk4 (iter_isIt hI3).dc (map_dc hI3.map)
    (repeat first | apply wr_end | apply wc_skip | (apply wr_not; iterate 2 exact rfl) | (apply wc_false; exact rfl))
    refine ⟨idx ++ [i], by rw [List.length_append, List.length_singleton]; omega, ⟨by trivial, hI4, by rw [hout]; exact hA4, ?_⟩, rfl, rfl, trivial⟩
    rw [hout, List.length_append, List.length_append, hlen]
    rfl
/-- While the loop of AppendSeq runs: D its deferred calls' block, b2 the row's cell. -/
structure PA (w : World) (c : LoopC) (D b2 : Nat) (acc : TX) (v : Value) (w' : World) : Prop where
  L : w'.heap[D + 1]? = some (.loop (c.at .ready none))
  hD : w'.heap[D]? = some (.deferred (some []))
  A : w'.heap[b2]? = some (.cells #[v] 27 (0, 0))
  own : w'.ownsRow w.heap.size 9 1 v acc.length (SL acc)
  k : Keeps NoB w w'
theorem obj_ne {w : World} {p q : Nat} {o o' : Obj} (h : w.heap[p]? = some o) (hq : w.heap[q]? = some o') (hne : o ≠ o') : p ≠ q := by
  rintro rfl
  rw [h] at hq
  injection hq with hq
  exact hne hq
theorem PA.keepIt {w : World} {c : LoopC} {D b2 : Nat} {acc : TX} {v : Value} {w1 w2 : World} {r : Nat} (h : PA w c D b2 acc v w1) (hr : IsIt w1 r) (hrw : w.heap.size ≤ r) (k : Keeps (· = r) w1 w2) : PA w c D b2 acc v w2 := by
  obtain ⟨a1, a2, a3, a4, hr⟩ := hr
  refine ⟨k.heap h.L (obj_ne h.L hr (by simp)), k.heap h.hD (obj_ne h.hD hr (by simp)), k.heap h.A (obj_ne h.A hr (by simp)), own_keep h.own k (fun q hq e => ?_), h.k.trans' k (fun i hi e => by omega)⟩
  have e : q = r := e
  subst e
  rcases h.own.2 with ⟨rfl, _⟩ | ⟨g, cap, cur, rfl, _, hg, _⟩
  · cases hq
  · simp [Value.ownBlock] at hq
    subst hq
    rw [hr] at hg; cases hg
set_option maxRecDepth 100000 in
set_option maxHeartbeats 4000000 in
theorem appendSeq_ca {bm mb : Nat} {T : TypeId} {C : List (TT × Value)} {w : World} (hbm : w.heap[bm]? = some (.cells #[.map (some mb)] T (0, 0))) (hC : MapAt w Go.V.encS mb C) (hCl : C.length ≤ 8796093000000) :
    Ca Tryz.prog 69 #[.slice none 0 0, .func (.func 70) #[] #[.pointer (some ⟨bm, 0, none⟩)]] w fun v w' => (∃ acc, (∀ x, x ∈ acc ↔ x ∈ C.map (·.1)) ∧ acc.length ≤ C.length ∧ w'.ownsRow w.heap.size 9 1 v acc.length (SL acc)) ∧ Keeps NoB w w' := by
  refine ca_of_body (args := [.slice none 0 0, .func (.func 70) #[] #[.pointer (some ⟨bm, 0, none⟩)]]) Tryz.func69 rfl (by kernel_rfl) ?_
  apply wc_seq
  apply wc_region
  refine wr_box (v := nilV) rfl rfl ?_
  refine wr_name ?_
  intro w1 hww1
  obtain ⟨bw1, hbw1⟩ : ∃ b, b = (w).heap.size := ⟨_, rfl⟩
  have hkw1 : Keeps NoB w w1 := by rw [hww1]; exact (Keeps.refl NoB w).alloc _
  have hcw1 : (w1).heap[bw1]? = some (.cells ([nilV]).toArray 27 (0, 0)) := by rw [hww1, hbw1]; exact heap_alloc_same _ _
  rw [← hbw1]
  clear hww1
  (repeat first | (apply wr_move; exact rfl; with_reducible (conv => enter [6, 3]; whnf)) | (apply wr_assign; exact rfl; with_reducible (conv => enter [6, 3]; whnf)) | apply wr_end | apply wc_seq | apply wc_region | apply wc_block)
  refine wc_keep [(2, .pointer (some ⟨bw1, 0, none⟩)), (6, .func (.func 70) #[] #[.pointer (some ⟨bm, 0, none⟩)])]
    ⟨rfl, rfl, trivial⟩ ?_
  intro fr0
  refine wc_rangeC rfl ?_
  intro c w2 hcp hca hcb hrp hok hD hL hk2 hsz2
  obtain ⟨D, hDe⟩ : ∃ D, D = w1.heap.size := ⟨_, rfl⟩
  rw [← hDe] at hD hL hsz2 ⊢
  have hz1 := hkw1.size
  have hlt1 : bw1 < D := by rw [hDe]; exact lt_of_heap hcw1
  have hwD : w.heap.size ≤ bw1 := by omega
  show Ca _ _ #[yieldV (D + 1), .pointer (some ⟨bm, 0, none⟩)] _ _
  have hk02 := hkw1.trans hk2
  have hlm := lt_of_heap hbm
  refine Ca.mono (keys1_ca (bm := bm) (mb := mb) (C := C) (n0 := w2.heap.size) (fun acc w' => ∃ v, PA w c D bw1 acc v w' ∧ w2.heap.size ≤ w'.heap.size) ?_ ?_ ?_ (w := w2) (hk02.heap hbm (fun h => h)) (hC.keep hk02 (fun h => h)) ⟨nilV, ⟨hL, hD, hk2.heap hcw1 (fun h => h), own_nilV _ _ _ _, hk02⟩, Nat.le_refl _⟩ (Nat.le_refl _)) ?_
  · rintro acc w3 w4 r hrn ⟨v, hP, hs⟩ hIt hk
    exact ⟨v, hP.keepIt hIt (by omega) hk, by have := hk.size; omega⟩
  · rintro acc w3 w4 ⟨v, hP, hs⟩ hk
    exact ⟨v, ⟨hk.heap hP.L (fun h => h), hk.heap hP.hD (fun h => h), hk.heap hP.A (fun h => h), own_keep hP.own hk (fun _ _ h => h), hP.k.trans hk⟩, by have := hk.size; omega⟩
  · rintro acc x w3 hlt ⟨v, hP, hs⟩
    refine callV_yieldC (c := c) (args := [S x]) hP.L (by rw [hcp]; rfl) hrp hok.2.2 ⟨hok.1, hok.2.1⟩ (f' := setL fr0 [(7, S x), (2, .pointer (some ⟨bw1, 0, none⟩)), (6, .func (.func 70) #[] #[.pointer (some ⟨bm, 0, none⟩)])]) (by rw [hcp]; rfl) ?_
    rw [hca]
    (repeat first | (apply wr_assign; exact rfl; with_reducible (conv => enter [6, 3]; whnf)) | apply wr_end | apply wc_region)
    refine ⟨hP.L, ?_⟩
    rw [hcb]
    generalize hw4 : World.putObj w3 (D + 1) _ = w4
    have hL4 : w4.heap[D + 1]? = some (.loop (c.at .busy none)) := by rw [← hw4]; exact World.putObj_heap_same (lt_of_heap hP.L)
    have hk4 : Keeps (· = D + 1) w3 w4 := by rw [← hw4]; exact (Keeps.refl _ w3).put _ (fun _ => rfl)
    clear hw4
    have hA4 := hk4.heap hP.A (fun e => by omega)
    have hD4 := hk4.heap hP.hD (fun e => by omega)
    have hown4 := own_keep hP.own hk4 (fun q hq e => by
      rcases hP.own.2 with ⟨rfl, _⟩ | ⟨g, cap, cur, rfl, _, hg, _⟩
      · cases hq
      · simp [Value.ownBlock] at hq
        subst hq
        exact obj_ne hg hP.L (by simp) e)
    (repeat first | (apply wr_move; exact rfl; with_reducible (conv => enter [6, 3]; whnf)) | apply wc_region | apply wc_block | (apply wr_load; (iterate 3 exact rfl); (focus repeat first | with_reducible assumption | exact heap_alloc_same _ _ | exact World.putObj_heap_same (by first | omega | (simp only [World.size_alloc, World.putObj_size, ne_eq]; omega)) | ((first | refine hAl ?_ ?_ | refine hPu ?_ ?_); focus first | omega | (simp only [World.size_alloc, World.putObj_size, ne_eq]; omega))); exact rfl; conv => enter [6, 3]; whnf))
    refine wr_buildSlice (vs := [S x]) rfl rfl (by intro v hv; simp at hv; subst hv; rfl) rfl (by decide) (by decide) (by decide) ?_
    have hk4a : Keeps NoB w4 (w4.alloc (.cells (List.flatMap (fun v : Value => v.cells.toList) [S x]).toArray 9)) := (Keeps.refl _ _).alloc _
    have hown4a := own_keep hown4 hk4a (fun _ _ h => h)
    have hsz4 := hP.k.size
    have hsz4' := hk4.size
    refine wr_append (base := w.heap.size) (v := v) (n := acc.length) (m := 1) (news := [S x]) rfl rfl hown4a rfl (heap_alloc_same _ _) rfl (by intro u hu; simp at hu; subst hu; rfl) rfl (by decide) (by omega) (by omega) (by have := hk4a.size; exact Nat.le_trans (by omega) this) ?_
    intro v5 w5 hown5 hk5 _
    have nb : ∀ q o, w4.heap[q]? = some o → (∀ cs, o ≠ .cells cs 9 (0, 0)) → ¬ v.ownBlock = some q := by
      intro q o hq ho e
      rcases hown4.2 with ⟨rfl, _⟩ | ⟨g, cap, cur, rfl, _, hg, _⟩
      · cases e
      · simp [Value.ownBlock] at e
        subst e
        rw [hg] at hq
        injection hq with hq
        exact ho _ hq.symm
    have hL5 := hk5.heap (hk4a.heap hL4 (fun h => h)) (nb _ _ hL4 (by intro cs; simp))
    have hD5 := hk5.heap (hk4a.heap hD4 (fun h => h)) (nb _ _ hD4 (by intro cs; simp))
    have hA5 := hk5.heap (hk4a.heap hA4 (fun h => h)) (nb _ _ hA4 (by intro cs e; injection e with _ e; exact absurd e (by decide)))
    have hk35 : Keeps (fun q => q = D + 1 ∨ q = bw1 ∨ v.ownBlock = some q) w3 w5 := ((hk4.mono fun _ _ h => .inl h).trans hk4a.upD).trans (hk5.mono fun _ _ h => .inr (.inr h))
    have h15 := own_one hown5
    (repeat first | (apply wr_store; (iterate 3 exact rfl); (first | exact rfl | with_reducible assumption); (focus repeat first | with_reducible assumption | exact heap_alloc_same _ _ | exact World.putObj_heap_same (by first | omega | (simp only [World.size_alloc, World.putObj_size, ne_eq]; omega)) | ((first | refine hAl ?_ ?_ | refine hPu ?_ ?_); focus first | omega | (simp only [World.size_alloc, World.putObj_size, ne_eq]; omega))); exact rfl) | (apply wr_nil; try simp only [thenE, inBlockE, bodyQ]))
    generalize hw6 : World.putObj w5 bw1 _ = w6
    have hk6 : Keeps (· = bw1) w5 w6 := by rw [← hw6]; exact (Keeps.refl _ w5).put _ (fun _ => rfl)
    have hA6 : w6.heap[bw1]? = some (.cells #[v5] 27 (0, 0)) := by rw [← hw6]; exact World.putObj_heap_same (lt_of_heap hA5)
    clear hw6
    have hL6 := hk6.heap hL5 (fun e => by omega)
    have hD6 := hk6.heap hD5 (fun e => by omega)
    have hown6 := own_keep hown5 hk6 (fun q hq e => V.F.own_neT hown5 hA5 (by decide) q hq e)
    have hk36 := hk35.trans (hk6.mono fun _ _ h => .inr (.inl h))
    refine ⟨hL6, rfl, ⟨v5, ⟨World.putObj_heap_same (lt_of_heap hL6), ?_, ?_, ?_, ?_⟩, ?_⟩, ?_⟩
    · exact (heap_put_ne _ _ (by omega)).trans hD6
    · exact (heap_put_ne _ _ (by omega)).trans hA6
    · have := own_keep hown6 ((Keeps.refl (· = D + 1) w6).put (.loop (c.at .ready none)) (fun _ => rfl)) (fun q hq e => by
        rcases hown6.2 with ⟨rfl, _⟩ | ⟨g, cap, cur, rfl, _, hg, _⟩
        · cases hq
        · simp [Value.ownBlock] at hq
          subst hq
          exact obj_ne hg hL6 (by simp) e)
      rw [List.length_append]
      simpa [SL] using this
    · refine (hP.k.trans' hk36 (fun q hq e => ?_)).put _ (fun h => by omega)
      rcases e with e | e | e
      · omega
      · omega
      · have := V.F.own_geF hP.own e; omega
    · have := hk36.size; simp; omega
    · refine (hk36.mono fun q hq e => ?_).put _ (fun _ => .inr ⟨_, hP.L⟩)
      rcases e with rfl | rfl | e
      · exact .inr ⟨_, hP.L⟩
      · exact .inl ⟨_, _, _, hP.A⟩
      · rcases hP.own.2 with ⟨rfl, _⟩ | ⟨g, cap, cur, rfl, _, hg, _⟩
        · cases e
        · simp [Value.ownBlock] at e
          subst e
          exact .inl ⟨_, _, _, hg⟩
  · rintro v w' ⟨rfl, acc, ⟨v', hP, hs⟩, hmem, hlen⟩
    left
    refine ⟨hP.L, ?_⟩
    simp only [inBlockE, thenE]
    generalize hw8 : World.putObj w' (D + 1) _ = w8
    have hk8 : Keeps (· = D + 1) w' w8 := by rw [← hw8]; exact (Keeps.refl _ w').put _ (fun _ => rfl)
    clear hw8
    have hA8 := hk8.heap hP.A (fun e => by omega)
    have hD8 := hk8.heap hP.hD (fun e => by omega)
    have hown8 := own_keep hP.own hk8 (fun q hq e => by
      rcases hP.own.2 with ⟨rfl, _⟩ | ⟨g, cap, cur, rfl, _, hg, _⟩
      · cases hq
      · simp [Value.ownBlock] at hq
        subst hq
        exact obj_ne hg hP.L (by simp) e)
    (repeat first | (apply wr_assign; exact rfl; with_reducible (conv => enter [6, 3]; whnf)) | apply wr_end | apply wc_seq | apply wc_region | (apply wr_load; (iterate 3 exact rfl); (focus repeat first | with_reducible assumption | exact heap_alloc_same _ _ | exact World.putObj_heap_same (by first | omega | (simp only [World.size_alloc, World.putObj_size, ne_eq]; omega)) | ((first | refine hAl ?_ ?_ | refine hPu ?_ ?_); focus first | omega | (simp only [World.size_alloc, World.putObj_size, ne_eq]; omega))); exact rfl; conv => enter [6, 3]; whnf) | (apply wc_ret; try simp only [thenE, inBlockE, bodyQ]))
    refine ⟨D, rfl, hD8, ?_⟩
    have hown9 := own_keep hown8 ((Keeps.refl (· = D) w8).put (.deferred none) (fun _ => rfl)) (fun q hq e => by
      rcases hown8.2 with ⟨rfl, _⟩ | ⟨g, cap, cur, rfl, _, hg, _⟩
      · cases hq
      · simp [Value.ownBlock] at hq
        subst hq
        exact obj_ne hg hD8 (by simp) e)
    rw [← hbw1] at hown9
    exact leave1 (v := v') rfl rfl ⟨⟨acc, hmem, hlen, hown9⟩, (hP.k.trans' hk8 (fun i hi e => by omega)).put _ (fun h => by omega)⟩
end Go.Proofs.YtajajahofkialaaGreatDoor

namespace Go.Proofs.YtajajahofkialaaGreatDoor
open Go Go.V Go.RowKit
set_option linter.unusedVariables false
set_option linter.unusedSimpArgs false

theorem keysM_ca (mb : Nat) (w : World) : Ca Tryz.prog 47 #[.map (some mb)] w fun v w' => (∃ bm T, v = .func (.func 70) #[] #[.pointer (some ⟨bm, 0, none⟩)] ∧ w'.heap[bm]? = some (.cells #[.map (some mb)] T (0, 0))) ∧ Keeps NoB w w' := by
  refine ca_of_body (args := [.map (some mb)]) Tryz.func47 rfl (by kernel_rfl) ?_
  apply wc_seq
  apply wc_region
  refine wr_box (v := .map (some mb)) rfl rfl ?_
  refine wr_name ?_
  intro w1 hw1
  have hk1 : Keeps NoB w w1 := by rw [hw1]; exact (Keeps.refl NoB w).alloc _
  have hc1 : ∃ T, w1.heap[w.heap.size]? = some (.cells #[.map (some mb)] T (0, 0)) := by rw [hw1]; exact ⟨_, heap_alloc_same _ _⟩
  obtain ⟨T, hc1⟩ := hc1
  clear hw1
  (repeat first | (apply wr_assign; exact rfl; with_reducible (conv => enter [6, 3]; whnf)) | apply wr_end | apply wc_seq | apply wc_region)
  refine wr_makeFunc (v1 := []) (v2 := [.pointer (some ⟨w.heap.size, 0, none⟩)]) rfl rfl rfl ?_
  (repeat first | (apply wr_assign; exact rfl; with_reducible (conv => enter [6, 3]; whnf)) | apply wr_end | (apply wc_ret; try simp only [thenE, inBlockE, bodyQ]))
  exact leave1 (v := .func (.func 70) #[] #[.pointer (some ⟨w.heap.size, 0, none⟩)]) rfl rfl ⟨⟨_, T, rfl, hc1⟩, hk1⟩
theorem collect_ca {bm mb : Nat} {T : TypeId} {C : List (TT × Value)} {w : World} (hbm : w.heap[bm]? = some (.cells #[.map (some mb)] T (0, 0))) (hC : MapAt w Go.V.encS mb C) (hCl : C.length ≤ 8796093000000) :
    Ca Tryz.prog 46 #[.func (.func 70) #[] #[.pointer (some ⟨bm, 0, none⟩)]] w fun v w' => (∃ acc, (∀ x, x ∈ acc ↔ x ∈ C.map (·.1)) ∧ acc.length ≤ C.length ∧ w'.ownsRow w.heap.size 9 1 v acc.length (SL acc)) ∧ Keeps NoB w w' := by
  refine ca_of_body (args := [.func (.func 70) #[] #[.pointer (some ⟨bm, 0, none⟩)]]) Tryz.func46 rfl (by kernel_rfl) ?_
  (repeat first | (apply wr_move; exact rfl; with_reducible (conv => enter [6, 3]; whnf)) | (apply wr_assign; exact rfl; with_reducible (conv => enter [6, 3]; whnf)) | apply wr_end | apply wc_seq | apply wc_region)
  refine wr_call (vs := [.slice none 0 0, .func (.func 70) #[] #[.pointer (some ⟨bm, 0, none⟩)]]) rfl (appendSeq_ca hbm hC hCl) rfl ?_
  rintro v w1 ⟨h, hk⟩
  (repeat first | (apply wr_assign; exact rfl; with_reducible (conv => enter [6, 3]; whnf)) | apply wr_end | (apply wc_ret; try simp only [thenE, inBlockE, bodyQ]))
  exact leave1 (v := v) rfl rfl ⟨h, hk⟩

/-! ### What all want -/
abbrev WF := TY → PS
def noneP : PS := (false, [])
def inDom (t : TY) : Prop := 1 ≤ t.1 ∧ t.1 ≤ 32 ∧ 1 ≤ t.2 ∧ t.2 ≤ 5
instance (t : TY) : Decidable (inDom t) := by unfold inDom; infer_instance
def updW (Wn : WF) (t : TY) (s : PS) : WF := fun u => if u = t then s else Wn u
/-- By how many a name of a type is wanted. -/
def cntW (Wn : WF) (k : Nat) (x : TT) : Int := (((List.range 33).countP fun id : Nat => decide (x ∈ listP (Wn ((id : Int), (k : Int)))) : Nat) : Int)
theorem countP_one (p q : Nat → Bool) (i : Nat) : ∀ l : List Nat, l.Nodup → (∀ j ∈ l, j ≠ i → p j = q j) → ((l.countP q : Nat) : Int) = (l.countP p : Nat) + (if i ∈ l then (if q i = true then 1 else 0) - (if p i = true then 1 else 0) else 0)
  | [], _, _ => by simp
  | a :: l, hn, h => by
    obtain ⟨h1, h2⟩ := List.nodup_cons.1 hn
    have ih := countP_one p q i l h2 (fun j hj => h j (List.mem_cons_of_mem _ hj))
    rw [List.countP_cons, List.countP_cons]
    by_cases hai : a = i
    · subst hai
      rw [if_neg h1] at ih
      rw [if_pos List.mem_cons_self]
      split <;> split <;> omega
    · have e := h a List.mem_cons_self hai
      rw [e]
      generalize (if q a = true then 1 else 0) = t
      by_cases hil : i ∈ l
      · rw [if_pos hil] at ih
        rw [if_pos (show i ∈ a :: l from List.mem_cons_of_mem _ hil)]
        omega
      · rw [if_neg hil] at ih
        rw [if_neg (show ¬ i ∈ a :: l from fun hm => by rcases List.mem_cons.1 hm with hm | hm; exact hai hm.symm; exact hil hm)]
        omega
theorem cntW_upd {Wn : WF} {t : TY} (hd : inDom t) (s : PS) {k : Nat} (hk : (k : Int) = t.2) (x : TT) : cntW (updW Wn t s) k x = cntW Wn k x + (if x ∈ listP (Wn t) then -1 else 0) + (if x ∈ listP s then 1 else 0) := by
  obtain ⟨n, hn⟩ := Int.eq_ofNat_of_zero_le (show 0 ≤ t.1 by have := hd.1; omega)
  have htn : ((n : Int), (k : Int)) = t := Prod.ext hn.symm hk
  have h := countP_one (fun id : Nat => decide (x ∈ listP (Wn ((id : Int), (k : Int))))) (fun id : Nat => decide (x ∈ listP (updW Wn t s ((id : Int), (k : Int))))) n (List.range 33) List.nodup_range (fun j _ hj => by
    have : ((j : Int), (k : Int)) ≠ t := fun e => hj (by rw [← htn] at e; have h2 : (j : Int) = (n : Int) := congrArg Prod.fst e; omega)
    unfold updW
    rw [if_neg this])
  rw [if_pos (List.mem_range.2 (by have := hd.2.1; omega))] at h
  unfold cntW
  rw [h, htn]
  have hu : updW Wn t s t = s := by unfold updW; rw [if_pos rfl]
  rw [hu]
  by_cases h1 : x ∈ listP (Wn t) <;> by_cases h2 : x ∈ listP s <;> simp [h1, h2] <;> omega
theorem cntW_other {Wn : WF} {t : TY} (s : PS) {k : Nat} (hk : (k : Int) ≠ t.2) : cntW (updW Wn t s) k = cntW Wn k := by
  funext x
  unfold cntW
  congr 2
  funext id
  unfold updW
  rw [if_neg (fun e => hk (by rw [← e]))]
theorem cntW_bound (Wn : WF) (k : Nat) (x : TT) : 0 ≤ cntW Wn k x ∧ cntW Wn k x ≤ 33 := by
  unfold cntW
  have := List.countP_le_length (p := fun id : Nat => decide (x ∈ listP (Wn ((id : Int), (k : Int))))) (l := List.range 33)
  rw [List.length_range] at this
  omega
/-- Who is counted, in a row. -/
def allL (Wn : WF) (k : Nat) : TX := (List.range 33).flatMap fun id : Nat => listP (Wn ((id : Int), (k : Int)))
theorem cntW_pos {Wn : WF} {k : Nat} {x : TT} : cntW Wn k x ≠ 0 ↔ x ∈ allL Wn k := by
  unfold cntW allL
  rw [List.mem_flatMap]
  have h : (List.range 33).countP (fun id : Nat => decide (x ∈ listP (Wn ((id : Int), (k : Int))))) ≠ 0 ↔ ∃ a, a ∈ List.range 33 ∧ x ∈ listP (Wn ((a : Int), (k : Int))) := by
    rw [ne_eq, List.countP_eq_zero]
    constructor
    · intro h
      refine Classical.byContradiction fun hn => h fun a ha => ?_
      simp only [decide_eq_true_eq]
      exact fun hx => hn ⟨a, ha, hx⟩
    · rintro ⟨a, ha, hx⟩ h
      exact h a ha (by simpa using hx)
  constructor
  · intro h1
    exact h.1 (fun e => h1 (by rw [e]; rfl))
  · intro h1 h2
    exact h.2 h1 (by exact_mod_cast h2)
def small (Wn : WF) : Prop := ∀ t, (Wn t).2.length ≤ 100000
theorem flat_bound {β : Type} (g : β → TX) (n : Nat) : ∀ l : List β, (∀ x ∈ l, (g x).length ≤ n) → (l.flatMap g).length ≤ l.length * n
  | [], _ => by simp
  | a :: l, h => by
    rw [List.flatMap_cons, List.length_append, List.length_cons, Nat.add_mul, Nat.one_mul]
    have h1 := h a List.mem_cons_self
    have h2 := flat_bound g n l (fun x hx => h x (List.mem_cons_of_mem _ hx))
    omega
theorem allL_len {Wn : WF} (hs : small Wn) (k : Nat) : (allL Wn k).length ≤ 3400000 := by
  have := flat_bound (fun id : Nat => listP (Wn ((id : Int), (k : Int)))) 100001 (List.range 33) (fun x _ => by have := listP_le (Wn ((x : Int), (k : Int))); have := hs ((x : Int), (k : Int)); omega)
  rw [List.length_range] at this
  unfold allL
  omega
/-- What all want of a type. -/
def unionK (Wn : WF) (k : Nat) : PS := ofP (allL Wn k)
theorem ofP_congr {a b : TX} (h : ∀ x, x ∈ a ↔ x ∈ b) : ofP a = ofP b := by
  refine fine_ext (ofP_fine _) (ofP_fine _) ?_ fun x => ?_
  · show decide (star ∈ a) = decide (star ∈ b)
    rw [decide_eq_decide.2 (h star)]
  · rw [mem_ofP, mem_ofP, h]
/-- What is kept under a key: nothing, if nothing is wanted. -/
def WantV (w : World) (n0 : Nat) (s : PS) (o : Option Value) : Prop := if s = noneP then o = none else ∃ v, o = some (SetV s.1 v) ∧ w.ownsRow n0 9 1 v s.2.length (SL s.2)
structure MgAt (w : World) (n0 ab wb : Nat) (cb : List Nat) (Wn : WF) : Prop where
  cells : w.heap[ab]? = some (.cells (GMg wb cb).toArray 76 (0, 0))
  len : cb.length = 6
  cnt : ∀ k b, cb[k]? = some b → CntAt w b (cntW Wn k)
  want : ∃ M : List (TY × Value), MapAt w encT wb M ∧ ∀ t, WantV w n0 (Wn t) (getM M t)
  fine : ∀ t, Fine (Wn t)
  dom : ∀ t, ¬ inDom t → Wn t = noneP
  small : small Wn
  nd : cb.Nodup
  nw : wb ∉ cb
theorem WantV.keep {D : Nat → Prop} {w w' : World} {n0 : Nat} {s : PS} {o : Option Value} (h : WantV w n0 s o) (k : Keeps D w w') (hD : ∀ q, D q → ∀ cs, w.heap[q]? ≠ some (.cells cs 9 (0, 0))) : WantV w' n0 s o := by
  unfold WantV at h ⊢
  split
  · rename_i e; rw [if_pos e] at h; exact h
  · rename_i e
    rw [if_neg e] at h
    obtain ⟨v, h1, h2⟩ := h
    refine ⟨v, h1, own_keep h2 k fun q hq hd => ?_⟩
    rcases h2.2 with ⟨rfl, _⟩ | ⟨g, cap, cur, rfl, _, hg, _⟩
    · cases hq
    · simp [Value.ownBlock] at hq
      subst hq
      exact hD _ hd cur hg
/-- What leaves the merge's blocks, and rows of texts, leaves it. -/
theorem MgAt.keep {D : Nat → Prop} {w w' : World} {n0 ab wb : Nat} {cb : List Nat} {Wn : WF} (h : MgAt w n0 ab wb cb Wn) (k : Keeps D w w') (hab : ¬ D ab) (hwb : ¬ D wb) (hcb : ∀ b ∈ cb, ¬ D b) (hD : ∀ q, D q → ∀ cs, w.heap[q]? ≠ some (.cells cs 9 (0, 0))) : MgAt w' n0 ab wb cb Wn := by
  obtain ⟨M, h1, h2⟩ := h.want
  exact ⟨k.heap h.cells hab, h.len, fun i b hb => (h.cnt i b hb).keep k (hcb b (List.mem_of_getElem? hb)), ⟨M, h1.keep k hwb, fun t => (h2 t).keep k hD⟩, h.fine, h.dom, h.small, h.nd, h.nw⟩
theorem MgAt.keepN {w w' : World} {n0 ab wb : Nat} {cb : List Nat} {Wn : WF} (h : MgAt w n0 ab wb cb Wn) (k : Keeps NoB w w') : MgAt w' n0 ab wb cb Wn := h.keep k (fun h => h) (fun h => h) (fun _ _ h => h) (fun _ h => h.elim)
theorem MgAt.name {w : World} {n0 ab wb : Nat} {cb : List Nat} {Wn : WF} (h : MgAt w n0 ab wb cb Wn) {k : Nat} {x : TT} (hx : x ∈ allL Wn k) : x.length ≤ 9223372036854775807 := by
  unfold allL at hx
  rw [List.mem_flatMap] at hx
  obtain ⟨i, _, hx⟩ := hx
  exact listP_ok (h.fine _) x hx
set_option maxRecDepth 100000 in
set_option maxHeartbeats 4000000 in
theorem unionM_ca {w : World} {n0 ab wb : Nat} {cb : List Nat} {Wn : WF} (h : MgAt w n0 ab wb cb Wn) (k : Nat) (hk1 : 1 ≤ k) (hk5 : k ≤ 5) :
    Ca Tryz.prog 18 #[.pointer (some ⟨ab, 0, none⟩), .int .i64 (k : Int)] w fun v w' => SetO w' w.heap.size (unionK Wn k) v ∧ Keeps NoB w w' := by
  refine ca_of_body (args := [.pointer (some ⟨ab, 0, none⟩), .int .i64 (k : Int)]) Tryz.func18 rfl (by kernel_rfl) ?_
  apply wc_seq
  apply wc_region
  apply wr_alloc
  focus exact rfl
  refine wr_name ?_
  intro w1 hww1
  obtain ⟨bw1, hbw1⟩ : ∃ b, b = (w).heap.size := ⟨_, rfl⟩
  have hkw1 : Keeps NoB w w1 := by rw [hww1]; exact (Keeps.refl NoB w).alloc _
  have hcw1 : (w1).heap[bw1]? = some (.cells ([.bool false, nilV]).toArray 41 (0, 0)) := by rw [hww1, hbw1]; exact heap_alloc_same _ _
  rw [← hbw1]
  clear hww1
  obtain ⟨b, hb⟩ : ∃ b, cb[k]? = some b := ⟨cb[k]'(by rw [h.len]; omega), by simp [h.len, show k < 6 by omega]⟩
  have hc1 := hkw1.heap h.cells (fun h => h)
  obtain ⟨C, hC, hCg⟩ := (h.cnt k b hb).keep hkw1 (fun h => h)
  have hcellb : (GMg wb cb).toArray[0 + 1 + k * 1]? = some (.map (some b)) := by rw [Nat.zero_add, Nat.mul_one]; exact GMg_get hb
  have hmem : ∀ x, x ∈ C.map (·.1) ↔ x ∈ allL Wn k := fun x => by
    rw [← cntW_pos]
    have hg := hCg x
    constructor
    · intro hm hz
      rw [if_pos hz] at hg
      unfold getM at hg
      rw [Option.map_eq_none_iff, List.find?_eq_none] at hg
      obtain ⟨p, hp, rfl⟩ := List.mem_map.1 hm
      exact hg p hp (by simp)
    · intro hz
      rw [if_neg hz] at hg
      unfold getM at hg
      obtain ⟨p, hp, _⟩ := Option.map_eq_some_iff.1 hg
      have h1 := List.find?_some hp
      simp at h1
      exact List.mem_map.2 ⟨p, List.mem_of_find?_eq_some hp, h1⟩
  have hCl : C.length ≤ 3400000 := by
    obtain ⟨es, cl, _, _, hn, _⟩ := hC
    have := nodup_len _ _ hn (fun x hx => (hmem x).1 hx)
    rw [List.length_map] at this
    have := allL_len h.small k
    omega
  (repeat first | (apply wr_move; exact rfl; with_reducible (conv => enter [6, 3]; whnf)) | apply wr_end | apply wc_seq | apply wc_region | apply wc_skip | (apply wr_fieldAddr; iterate 2 exact rfl) | (apply wr_nilCheck; iterate 2 exact rfl) | (apply wr_cmp; (iterate 3 exact rfl); exact cmpF (by dsimp only [cmpN]; first | done | omega)) | (apply wr_pick (t := false); (iterate 2 exact rfl); with_reducible (conv => enter [6, 3]; whnf)) | (apply wc_false; exact rfl))
  refine wr_indexArr (i := k) rfl rfl rfl (by omega) ?_
  refine wr_load (v := .map (some b)) rfl rfl rfl hc1 hcellb ?_
  refine wr_call (vs := [.map (some b)]) rfl (keysM_ca b w1) rfl ?_
  rintro v w2 ⟨⟨bm, T, rfl, hbm⟩, hk2⟩
  refine wr_call (vs := [.func (.func 70) #[] #[.pointer (some ⟨bm, 0, none⟩)]]) rfl (collect_ca hbm (hC.keep hk2 (fun h => h)) (by omega)) rfl ?_
  rintro v w3 ⟨⟨acc, hacc, hlen, hrow⟩, hk3⟩
  have hall : ∀ x, x ∈ acc ↔ x ∈ allL Wn k := fun x => (hacc x).trans (hmem x)
  refine wr_call (vs := [v]) rfl (ofO_ca acc v w3 (SlR.of_own hrow) (by omega) (fun x hx => h.name ((hall x).1 hx))) rfl ?_
  rintro sv w4 ⟨⟨nv, rfl, hnv⟩, hk4⟩
  rw [show ofP acc = unionK Wn k from ofP_congr hall] at hnv ⊢
  have hk14 := (hk2.trans hk3).trans hk4
  have hc4 := hk14.heap hcw1 (fun h => h)
  have hz1 := hkw1.size
  have hz3 := (hk2.trans hk3).size
  refine wr_storeAll (cs := [.bool (unionK Wn k).1, nv]) rfl rfl rfl (by intro u hu; simp at hu; rcases hu with rfl | rfl; rfl; exact own_one hnv) hc4 rfl rfl ?_
  (repeat first | apply wr_end | (apply wc_ret; try simp only [thenE, inBlockE, bodyQ]))
  have hl1 := lt_of_heap hcw1
  exact leaveN (vs := [SetV (unionK Wn k).1 nv]) (resv_cells (cs := [.bool (unionK Wn k).1, nv]) (e := 41) (fr := (0, 0)) rfl rfl (World.putObj_heap_same (lt_of_heap hc4)) rfl resv_nil) ⟨⟨nv, rfl, own_down (own_keep hnv ((Keeps.refl (· = bw1) w4).put _ (fun _ => rfl)) (fun q hq e => by have := V.F.own_geF hnv hq; omega)) (by omega)⟩, (hkw1.trans hk14).trans' ((Keeps.refl (· = bw1) w4).put _ (fun _ => rfl)) (fun i hi e => by omega)⟩
end Go.Proofs.YtajajahofkialaaGreatDoor
