/- maps.Keys, slices.Collect. -/
import Derived.Test.YtajajahofkialaaGreatDoorHb
namespace Go.Proofs.YtajajahofkialaaGreatDoor
open Go Go.V Go.RowKit
set_option linter.unusedVariables false
set_option linter.unusedSimpArgs false

theorem nodup_len {α : Type} [DecidableEq α] : ∀ (l L : List α), l.Nodup → (∀ x ∈ l, x ∈ L) → l.length ≤ L.length
  | [], L, _, _ => Nat.zero_le _
  | x :: l, L, hn, hs => by
    obtain ⟨h1, h2⟩ := List.nodup_cons.1 hn
    have hx : x ∈ L := hs x List.mem_cons_self
    have := nodup_len l (L.erase x) h2 (fun y hy => (List.mem_erase_of_ne (fun e => h1 (by rw [← e]; exact hy))).2 (hs y (List.mem_cons_of_mem _ hy)))
    rw [List.length_erase_of_mem hx] at this
    have := List.length_pos_of_mem hx
    rw [List.length_cons]
    omega
/-- Blocks that are cells, or a loop's record. -/
def Dc (w : World) (q : Nat) : Prop := (∃ c T fr, w.heap[q]? = some (.cells c T fr)) ∨ ∃ l, w.heap[q]? = some (.loop l)
def IsIt (w : World) (r : Nat) : Prop := ∃ mb s seen l, w.heap[r]? = some (.mapIter mb s seen l)
theorem iter_isIt {α : Type} [DecidableEq α] {w : World} {enc : α → Value} {r mb : Nat} {M : List (α × Value)} {idx : List Nat} (h : IterAt w enc r mb M idx) : IsIt w r := by
  obtain ⟨es, c, since, last, seen, h1, h2, h3, h4, h5, h6, h7, h7', h8, h9⟩ := h
  exact ⟨_, _, _, _, h8⟩
theorem IsIt.dc {w : World} {r : Nat} (h : IsIt w r) : ¬ Dc w r := by
  obtain ⟨a, b, c, d, h⟩ := h
  rintro (⟨x, y, z, e⟩ | ⟨l, e⟩)
  · rw [h] at e; cases e
  · rw [h] at e; cases e
theorem map_dc {α : Type} [DecidableEq α] {w : World} {enc : α → Value} {b : Nat} {M : List (α × Value)} (h : MapAt w enc b M) : ¬ Dc w b := by
  obtain ⟨es, n, hb, _⟩ := h
  rintro (⟨x, y, z, e⟩ | ⟨l, e⟩)
  · rw [hb] at e; cases e
  · rw [hb] at e; cases e
theorem iter_idx {α : Type} [DecidableEq α] {w : World} {enc : α → Value} {r mb : Nat} {M : List (α × Value)} {idx : List Nat} (h : IterAt w enc r mb M idx) : idx.length ≤ M.length := by
  obtain ⟨es, c, since, last, seen, h1, h2, h3, h4, h5, h6, h7, h7', h8, h9, h10, h11⟩ := h
  have := nodup_len idx (List.range M.length) h10 (fun i hi => List.mem_range.2 (h11 i hi))
  rwa [List.length_range] at this
/-- What was handed out. -/
def outK (C : List (TT × Value)) (idx : List Nat) : TX := idx.filterMap fun i => (C[i]?).map (·.1)
set_option maxRecDepth 100000 in
set_option maxHeartbeats 4000000 in
theorem keys1_ca {y : Value} {bm mb : Nat} {T : TypeId} {C : List (TT × Value)} (I : TX → World → Prop) {n0 : Nat} (hst : ∀ acc w1 w2 r, n0 ≤ r → I acc w1 → IsIt w1 r → Keeps (· = r) w1 w2 → I acc w2) (hst0 : ∀ acc w1 w2, I acc w1 → Keeps NoB w1 w2 → I acc w2)
    (hy : ∀ acc x w1, acc.length < C.length → I acc w1 → CallV Tryz.prog y #[S x] w1 fun v w2 => v = .bool true ∧ I (acc ++ [x]) w2 ∧ Keeps (Dc w1) w1 w2) {w : World} (hbm : w.heap[bm]? = some (.cells #[.map (some mb)] T (0, 0))) (hC : MapAt w Go.V.encS mb C) (hI : I [] w) (hn0 : n0 ≤ w.heap.size) :
    Ca Tryz.prog 70 #[y, .pointer (some ⟨bm, 0, none⟩)] w fun v w' => v = .tuple #[] ∧ ∃ acc, I acc w' ∧ (∀ x, x ∈ acc ↔ x ∈ C.map (·.1)) ∧ acc.length ≤ C.length := by
  refine ca_of_body (args := [y, .pointer (some ⟨bm, 0, none⟩)]) Tryz.func70 rfl (by kernel_rfl) ?_
  (repeat first | apply wc_seq | apply wc_region | (apply wr_load; (iterate 3 exact rfl); (focus repeat first | with_reducible assumption | exact heap_alloc_same _ _ | exact World.putObj_heap_same (by first | omega | (simp only [World.size_alloc, World.putObj_size, ne_eq]; omega)) | ((first | refine hAl ?_ ?_ | refine hPu ?_ ?_); focus first | omega | (simp only [World.size_alloc, World.putObj_size, ne_eq]; omega))); exact rfl; conv => enter [6, 3]; whnf))
  refine wr_rangeM rfl rfl hC ?_
  intro w1 hI1 hk1
  obtain ⟨r, hr⟩ : ∃ b, b = w.heap.size := ⟨_, rfl⟩
  rw [← hr] at hI1 ⊢
  (repeat first | apply wr_end | apply wc_block)
  refine wc_loopL (α := List Nat) (fun _ => [(0, y), (5, .pointer (some ⟨r, 0, none⟩))])
    (fun idx ds w' => ds = [] ∧ IterAt w' Go.V.encS r mb C idx ∧ I (outK C idx) w' ∧ (outK C idx).length = idx.length) (fun idx => C.length - idx.length) []
    ⟨rfl, hI1, hst0 _ _ _ hI hk1, rfl⟩ ⟨rfl, rfl, trivial⟩ ?_
  rintro idx ds f0 w2 ⟨rfl, hI2, hA, hlen⟩
  have hidx := iter_idx hI2
  (repeat first | apply wc_seq | apply wc_region)
  refine wr_nextM rfl rfl hI2 ?_ ?_
  · intro w3 hall hk3
    (repeat first | apply wr_end | apply wc_seq | (apply wr_extract; (iterate 3 exact rfl); with_reducible (conv => enter [6, 3]; whnf)) | (apply wc_false; exact rfl) | (apply wc_exit; try simp only [thenE, inBlockE, bodyQ, ↓reduceIte, Nat.reduceEqDiff]))
    refine leave0 rfl ⟨rfl, _, hst0 _ _ _ hA hk3, fun x => ?_, by omega⟩
    unfold outK
    rw [List.mem_filterMap, List.mem_map]
    constructor
    · rintro ⟨i, _, h⟩
      obtain ⟨p, hp, rfl⟩ := Option.map_eq_some_iff.1 h
      exact ⟨p, List.mem_of_getElem? hp, rfl⟩
    · rintro ⟨p, hp, rfl⟩
      obtain ⟨i, hi⟩ := List.getElem?_of_mem hp
      exact ⟨i, hall i (List.getElem?_eq_some_iff.1 hi).1, by rw [hi]; rfl⟩
  · intro w3 i p hni hp hI3 hE3 hk3
    have hA3 := hst _ _ _ _ (by omega) hA (iter_isIt hI2) hk3
    have hidx3 := iter_idx hI3
    rw [List.length_append, List.length_singleton] at hidx3
    have hout : outK C (idx ++ [i]) = outK C idx ++ [p.1] := by
      unfold outK
      rw [List.filterMap_append]
      simp [hp]
    (repeat first | apply wr_end | apply wc_seq | apply wc_region | apply wc_skip | apply wc_block | (apply wr_extract; (iterate 3 exact rfl); with_reducible (conv => enter [6, 3]; whnf)) | (apply wc_true; exact rfl))
    refine wr_entryM rfl rfl hE3 ?_
    (repeat first | (apply wr_move; exact rfl; with_reducible (conv => enter [6, 3]; whnf)) | (apply wr_assign; exact rfl; with_reducible (conv => enter [6, 3]; whnf)) | apply wr_end | apply wc_seq | apply wc_region | (apply wr_extract; (iterate 3 exact rfl); with_reducible (conv => enter [6, 3]; whnf)))
    refine wr_callv (vs := [S p.1]) rfl (hy (outK C idx) p.1 w3 (by omega) hA3) rfl rfl ?_
    rintro v w4 ⟨rfl, hA4, hk4⟩
    have hI4 := hI3.keep hk4 (iter_isIt hI3).dc (map_dc hI3.map)
    (repeat first | apply wr_end | apply wc_skip | (apply wr_not; iterate 2 exact rfl) | (apply wc_false; exact rfl))
    refine ⟨idx ++ [i], by rw [List.length_append, List.length_singleton]; omega, ⟨by trivial, hI4, by rw [hout]; exact hA4, ?_⟩, rfl, rfl, trivial⟩
    rw [hout, List.length_append, List.length_append, hlen]
    rfl
/-- While the loop of AppendSeq runs: D its deferred calls' block, b2 the row's cell. -/
structure PA (w : World) (c : LoopC) (D b2 : Nat) (acc : TX) (v : Value) (w' : World) : Prop where
  L : w'.heap[D + 1]? = some (.loop (c.at .ready none))
  hD : w'.heap[D]? = some (.deferred (some []))
  A : w'.heap[b2]? = some (.cells #[v] 27 (0, 0))
  own : w'.ownsRow w.heap.size 9 1 v acc.length (SL acc)
  k : Keeps NoB w w'
theorem obj_ne {w : World} {p q : Nat} {o o' : Obj} (h : w.heap[p]? = some o) (hq : w.heap[q]? = some o') (hne : o ≠ o') : p ≠ q := by
  rintro rfl
  rw [h] at hq
  injection hq with hq
  exact hne hq
theorem PA.keepIt {w : World} {c : LoopC} {D b2 : Nat} {acc : TX} {v : Value} {w1 w2 : World} {r : Nat} (h : PA w c D b2 acc v w1) (hr : IsIt w1 r) (hrw : w.heap.size ≤ r) (k : Keeps (· = r) w1 w2) : PA w c D b2 acc v w2 := by
  obtain ⟨a1, a2, a3, a4, hr⟩ := hr
  refine ⟨k.heap h.L (obj_ne h.L hr (by simp)), k.heap h.hD (obj_ne h.hD hr (by simp)), k.heap h.A (obj_ne h.A hr (by simp)), own_keep h.own k (fun q hq e => ?_), h.k.trans' k (fun i hi e => by omega)⟩
  have e : q = r := e
  subst e
  rcases h.own.2 with ⟨rfl, _⟩ | ⟨g, cap, cur, rfl, _, hg, _⟩
  · cases hq
  · simp [Value.ownBlock] at hq
    subst hq
    rw [hr] at hg; cases hg
set_option maxRecDepth 100000 in
set_option maxHeartbeats 4000000 in
theorem appendSeq_ca {bm mb : Nat} {T : TypeId} {C : List (TT × Value)} {w : World} (hbm : w.heap[bm]? = some (.cells #[.map (some mb)] T (0, 0))) (hC : MapAt w Go.V.encS mb C) (hCl : C.length ≤ 8796093000000) :
    Ca Tryz.prog 69 #[.slice none 0 0, .func (.func 70) #[] #[.pointer (some ⟨bm, 0, none⟩)]] w fun v w' => (∃ acc, (∀ x, x ∈ acc ↔ x ∈ C.map (·.1)) ∧ acc.length ≤ C.length ∧ w'.ownsRow w.heap.size 9 1 v acc.length (SL acc)) ∧ Keeps NoB w w' := by
  refine ca_of_body (args := [.slice none 0 0, .func (.func 70) #[] #[.pointer (some ⟨bm, 0, none⟩)]]) Tryz.func69 rfl (by kernel_rfl) ?_
  apply wc_seq
  apply wc_region
  refine wr_box (v := nilV) rfl rfl ?_
  refine wr_name ?_
  intro w1 hww1
  obtain ⟨bw1, hbw1⟩ : ∃ b, b = (w).heap.size := ⟨_, rfl⟩
  have hkw1 : Keeps NoB w w1 := by rw [hww1]; exact (Keeps.refl NoB w).alloc _
  have hcw1 : (w1).heap[bw1]? = some (.cells ([nilV]).toArray 27 (0, 0)) := by rw [hww1, hbw1]; exact heap_alloc_same _ _
  rw [← hbw1]
  clear hww1
  (repeat first | (apply wr_move; exact rfl; with_reducible (conv => enter [6, 3]; whnf)) | (apply wr_assign; exact rfl; with_reducible (conv => enter [6, 3]; whnf)) | apply wr_end | apply wc_seq | apply wc_region | apply wc_block)
  refine wc_keep [(2, .pointer (some ⟨bw1, 0, none⟩)), (6, .func (.func 70) #[] #[.pointer (some ⟨bm, 0, none⟩)])]
    ⟨rfl, rfl, trivial⟩ ?_
  intro fr0
  refine wc_rangeC rfl ?_
  intro c w2 hcp hca hcb hrp hok hD hL hk2 hsz2
  obtain ⟨D, hDe⟩ : ∃ D, D = w1.heap.size := ⟨_, rfl⟩
  rw [← hDe] at hD hL hsz2 ⊢
  have hz1 := hkw1.size
  have hlt1 : bw1 < D := by rw [hDe]; exact lt_of_heap hcw1
  have hwD : w.heap.size ≤ bw1 := by omega
  show Ca _ _ #[yieldV (D + 1), .pointer (some ⟨bm, 0, none⟩)] _ _
  have hk02 := hkw1.trans hk2
  have hlm := lt_of_heap hbm
  refine Ca.mono (keys1_ca (bm := bm) (mb := mb) (C := C) (n0 := w2.heap.size) (fun acc w' => ∃ v, PA w c D bw1 acc v w' ∧ w2.heap.size ≤ w'.heap.size) ?_ ?_ ?_ (w := w2) (hk02.heap hbm (fun h => h)) (hC.keep hk02 (fun h => h)) ⟨nilV, ⟨hL, hD, hk2.heap hcw1 (fun h => h), own_nilV _ _ _ _, hk02⟩, Nat.le_refl _⟩ (Nat.le_refl _)) ?_
  · rintro acc w3 w4 r hrn ⟨v, hP, hs⟩ hIt hk
    exact ⟨v, hP.keepIt hIt (by omega) hk, by have := hk.size; omega⟩
  · rintro acc w3 w4 ⟨v, hP, hs⟩ hk
    exact ⟨v, ⟨hk.heap hP.L (fun h => h), hk.heap hP.hD (fun h => h), hk.heap hP.A (fun h => h), own_keep hP.own hk (fun _ _ h => h), hP.k.trans hk⟩, by have := hk.size; omega⟩
  · rintro acc x w3 hlt ⟨v, hP, hs⟩
    refine callV_yieldC (c := c) (args := [S x]) hP.L (by rw [hcp]; rfl) hrp hok.2.2 ⟨hok.1, hok.2.1⟩ (f' := setL fr0 [(7, S x), (2, .pointer (some ⟨bw1, 0, none⟩)), (6, .func (.func 70) #[] #[.pointer (some ⟨bm, 0, none⟩)])]) (by rw [hcp]; rfl) ?_
    rw [hca]
    (repeat first | (apply wr_assign; exact rfl; with_reducible (conv => enter [6, 3]; whnf)) | apply wr_end | apply wc_region)
    refine ⟨hP.L, ?_⟩
    rw [hcb]
    generalize hw4 : World.putObj w3 (D + 1) _ = w4
    have hL4 : w4.heap[D + 1]? = some (.loop (c.at .busy none)) := by rw [← hw4]; exact World.putObj_heap_same (lt_of_heap hP.L)
    have hk4 : Keeps (· = D + 1) w3 w4 := by rw [← hw4]; exact (Keeps.refl _ w3).put _ (fun _ => rfl)
    clear hw4
    have hA4 := hk4.heap hP.A (fun e => by omega)
    have hD4 := hk4.heap hP.hD (fun e => by omega)
    have hown4 := own_keep hP.own hk4 (fun q hq e => by
      rcases hP.own.2 with ⟨rfl, _⟩ | ⟨g, cap, cur, rfl, _, hg, _⟩
      · cases hq
      · simp [Value.ownBlock] at hq
        subst hq
        exact obj_ne hg hP.L (by simp) e)
    (repeat first | (apply wr_move; exact rfl; with_reducible (conv => enter [6, 3]; whnf)) | apply wc_region | apply wc_block | (apply wr_load; (iterate 3 exact rfl); (focus repeat first | with_reducible assumption | exact heap_alloc_same _ _ | exact World.putObj_heap_same (by first | omega | (simp only [World.size_alloc, World.putObj_size, ne_eq]; omega)) | ((first | refine hAl ?_ ?_ | refine hPu ?_ ?_); focus first | omega | (simp only [World.size_alloc, World.putObj_size, ne_eq]; omega))); exact rfl; conv => enter [6, 3]; whnf))
    refine wr_buildSlice (vs := [S x]) rfl rfl (by intro v hv; simp at hv; subst hv; rfl) rfl (by decide) (by decide) (by decide) ?_
    have hk4a : Keeps NoB w4 (w4.alloc (.cells (List.flatMap (fun v : Value => v.cells.toList) [S x]).toArray 9)) := (Keeps.refl _ _).alloc _
    have hown4a := own_keep hown4 hk4a (fun _ _ h => h)
    have hsz4 := hP.k.size
    have hsz4' := hk4.size
    refine wr_append (base := w.heap.size) (v := v) (n := acc.length) (m := 1) (news := [S x]) rfl rfl hown4a rfl (heap_alloc_same _ _) rfl (by intro u hu; simp at hu; subst hu; rfl) rfl (by decide) (by omega) (by omega) (by have := hk4a.size; exact Nat.le_trans (by omega) this) ?_
    intro v5 w5 hown5 hk5 _
    have nb : ∀ q o, w4.heap[q]? = some o → (∀ cs, o ≠ .cells cs 9 (0, 0)) → ¬ v.ownBlock = some q := by
      intro q o hq ho e
      rcases hown4.2 with ⟨rfl, _⟩ | ⟨g, cap, cur, rfl, _, hg, _⟩
      · cases e
      · simp [Value.ownBlock] at e
        subst e
        rw [hg] at hq
        injection hq with hq
        exact ho _ hq.symm
    have hL5 := hk5.heap (hk4a.heap hL4 (fun h => h)) (nb _ _ hL4 (by intro cs; simp))
    have hD5 := hk5.heap (hk4a.heap hD4 (fun h => h)) (nb _ _ hD4 (by intro cs; simp))
    have hA5 := hk5.heap (hk4a.heap hA4 (fun h => h)) (nb _ _ hA4 (by intro cs e; injection e with _ e; exact absurd e (by decide)))
    have hk35 : Keeps (fun q => q = D + 1 ∨ q = bw1 ∨ v.ownBlock = some q) w3 w5 := ((hk4.mono fun _ _ h => .inl h).trans hk4a.upD).trans (hk5.mono fun _ _ h => .inr (.inr h))
    have h15 := own_one hown5
    (repeat first | (apply wr_store; (iterate 3 exact rfl); (first | exact rfl | with_reducible assumption); (focus repeat first | with_reducible assumption | exact heap_alloc_same _ _ | exact World.putObj_heap_same (by first | omega | (simp only [World.size_alloc, World.putObj_size, ne_eq]; omega)) | ((first | refine hAl ?_ ?_ | refine hPu ?_ ?_); focus first | omega | (simp only [World.size_alloc, World.putObj_size, ne_eq]; omega))); exact rfl) | (apply wr_nil; try simp only [thenE, inBlockE, bodyQ]))
    generalize hw6 : World.putObj w5 bw1 _ = w6
    have hk6 : Keeps (· = bw1) w5 w6 := by rw [← hw6]; exact (Keeps.refl _ w5).put _ (fun _ => rfl)
    have hA6 : w6.heap[bw1]? = some (.cells #[v5] 27 (0, 0)) := by rw [← hw6]; exact World.putObj_heap_same (lt_of_heap hA5)
    clear hw6
    have hL6 := hk6.heap hL5 (fun e => by omega)
    have hD6 := hk6.heap hD5 (fun e => by omega)
    have hown6 := own_keep hown5 hk6 (fun q hq e => V.F.own_neT hown5 hA5 (by decide) q hq e)
    have hk36 := hk35.trans (hk6.mono fun _ _ h => .inr (.inl h))
    refine ⟨hL6, rfl, ⟨v5, ⟨World.putObj_heap_same (lt_of_heap hL6), ?_, ?_, ?_, ?_⟩, ?_⟩, ?_⟩
    · exact (heap_put_ne _ _ (by omega)).trans hD6
    · exact (heap_put_ne _ _ (by omega)).trans hA6
    · have := own_keep hown6 ((Keeps.refl (· = D + 1) w6).put (.loop (c.at .ready none)) (fun _ => rfl)) (fun q hq e => by
        rcases hown6.2 with ⟨rfl, _⟩ | ⟨g, cap, cur, rfl, _, hg, _⟩
        · cases hq
        · simp [Value.ownBlock] at hq
          subst hq
          exact obj_ne hg hL6 (by simp) e)
      rw [List.length_append]
      simpa [SL] using this
    · refine (hP.k.trans' hk36 (fun q hq e => ?_)).put _ (fun h => by omega)
      rcases e with e | e | e
      · omega
      · omega
      · have := V.F.own_geF hP.own e; omega
    · have := hk36.size; simp; omega
    · refine (hk36.mono fun q hq e => ?_).put _ (fun _ => .inr ⟨_, hP.L⟩)
      rcases e with rfl | rfl | e
      · exact .inr ⟨_, hP.L⟩
      · exact .inl ⟨_, _, _, hP.A⟩
      · rcases hP.own.2 with ⟨rfl, _⟩ | ⟨g, cap, cur, rfl, _, hg, _⟩
        · cases e
        · simp [Value.ownBlock] at e
          subst e
          exact .inl ⟨_, _, _, hg⟩
  · rintro v w' ⟨rfl, acc, ⟨v', hP, hs⟩, hmem, hlen⟩
    left
    refine ⟨hP.L, ?_⟩
    simp only [inBlockE, thenE]
    generalize hw8 : World.putObj w' (D + 1) _ = w8
    have hk8 : Keeps (· = D + 1) w' w8 := by rw [← hw8]; exact (Keeps.refl _ w').put _ (fun _ => rfl)
    clear hw8
    have hA8 := hk8.heap hP.A (fun e => by omega)
    have hD8 := hk8.heap hP.hD (fun e => by omega)
    have hown8 := own_keep hP.own hk8 (fun q hq e => by
      rcases hP.own.2 with ⟨rfl, _⟩ | ⟨g, cap, cur, rfl, _, hg, _⟩
      · cases hq
      · simp [Value.ownBlock] at hq
        subst hq
        exact obj_ne hg hP.L (by simp) e)
    (repeat first | (apply wr_assign; exact rfl; with_reducible (conv => enter [6, 3]; whnf)) | apply wr_end | apply wc_seq | apply wc_region | (apply wr_load; (iterate 3 exact rfl); (focus repeat first | with_reducible assumption | exact heap_alloc_same _ _ | exact World.putObj_heap_same (by first | omega | (simp only [World.size_alloc, World.putObj_size, ne_eq]; omega)) | ((first | refine hAl ?_ ?_ | refine hPu ?_ ?_); focus first | omega | (simp only [World.size_alloc, World.putObj_size, ne_eq]; omega))); exact rfl; conv => enter [6, 3]; whnf) | (apply wc_ret; try simp only [thenE, inBlockE, bodyQ]))
    refine ⟨D, rfl, hD8, ?_⟩
    have hown9 := own_keep hown8 ((Keeps.refl (· = D) w8).put (.deferred none) (fun _ => rfl)) (fun q hq e => by
      rcases hown8.2 with ⟨rfl, _⟩ | ⟨g, cap, cur, rfl, _, hg, _⟩
      · cases hq
      · simp [Value.ownBlock] at hq
        subst hq
        exact obj_ne hg hD8 (by simp) e)
    rw [← hbw1] at hown9
    exact leave1 (v := v') rfl rfl ⟨⟨acc, hmem, hlen, hown9⟩, (hP.k.trans' hk8 (fun i hi e => by omega)).put _ (fun h => by omega)⟩
end Go.Proofs.YtajajahofkialaaGreatDoor
