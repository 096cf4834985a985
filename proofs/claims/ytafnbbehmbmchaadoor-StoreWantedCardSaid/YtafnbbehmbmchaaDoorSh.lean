/- The store: Sweep of one that is wanted; List. -/
import Derived.Test.YtafnbbehmbmchaaDoorSg
namespace Go.Proofs.YtafnbbehmbmchaaDoor
open Go Go.V Go.RowKit
set_option linter.unusedVariables false
set_option linter.unusedSimpArgs false

def idlF (b : Bool) (x : KY × (Nat × EN)) : KY × (Nat × EN) := (x.1, (x.2.1, (x.2.2.1, b, x.2.2.2.2)))
theorem St.upd1 {w w' : World} {sb kb wb : Nat} {room : Int} {grace : Nat} {x y : KY × (Nat × EN)} {W : KY → Int} (h : St w sb kb wb room grace [x] W) (hy1 : y.1 = x.1) (hy2 : y.2.1 = x.2.1) (hb : w'.heap[x.2.1]? = some (.cells (GE y.2.2).toArray 66 (0, 0))) (hk : Keeps (· = x.2.1) w w') : St w' sb kb wb room grace [y] W := by
  obtain ⟨M, h1, h2⟩ := h.watch
  have hx := h.ents x (by simp)
  have hxs : sb ≠ x.2.1 := fun e => by
    have := h.cells
    rw [e, hx] at this
    cases this
  refine ⟨hk.heap h.cells hxs, ?_, ⟨M, h1.keep hk (fun e => map_cells h1 hx e.symm), h2⟩, ?_, h.ne, h.wB⟩
  · have : mapL ptrE [y] = mapL ptrE [x] := by simp [mapL, hy1, ptrE, hy2]
    rw [this]
    exact h.kept.keep hk (fun e => map_cells h.kept hx e.symm)
  · intro z hz
    simp only [List.mem_singleton] at hz
    subst hz
    rw [hy2]; exact hb
set_option maxRecDepth 100000 in
set_option maxHeartbeats 4000000 in
theorem sweep1_ca {sb kb wb : Nat} {room : Int} {grace : Nat} {x : KY × (Nat × EN)} {W : KY → Int} {w : World} (h : St w sb kb wb room grace [x] W) (hwx : 0 < wantP W x.1) (hkx : x.1.2.length ≤ 9223372036854775807) (now : Nat) :
    Ca Tryd.prog 16 #[.pointer (some ⟨sb, 0, none⟩), .int .u64 ((now : Nat) : Int)] w fun v w' => v = .slice none 0 0 ∧ St w' sb kb wb room grace [idlF false x] W ∧ Keeps (· = x.2.1) w w' := by
  refine ca_of_body (args := [.pointer (some ⟨sb, 0, none⟩), .int .u64 ((now : Nat) : Int)]) Tryd.func16 rfl (by kernel_rfl) ?_
  have hs := h.cells
  (repeat first | (apply wr_move; exact rfl; with_reducible (conv => enter [6, 3]; whnf)) | (apply wr_assign; exact rfl; with_reducible (conv => enter [6, 3]; whnf)) | apply wr_end | apply wc_seq | apply wc_region | (apply wr_fieldAddr; iterate 2 exact rfl) | (apply wr_nilCheck; iterate 2 exact rfl) | (apply wr_load; (iterate 3 exact rfl); (focus repeat first | with_reducible assumption | exact heap_alloc_same _ _ | exact World.putObj_heap_same (by first | omega | (simp only [World.size_alloc, World.putObj_size, ne_eq]; omega)) | ((first | refine hAl ?_ ?_ | refine hPu ?_ ?_); focus first | omega | (simp only [World.size_alloc, World.putObj_size, ne_eq]; omega))); exact rfl; conv => enter [6, 3]; whnf))
  refine wr_rangeM rfl rfl h.kept ?_
  intro w3 hI3 hk3
  obtain ⟨r, hr⟩ : ∃ b, b = w.heap.size := ⟨_, rfl⟩
  rw [← hr] at hI3 ⊢
  have hlr : r < w3.heap.size := by
    obtain ⟨es, c, since, last, seen, h1, h2, h3, h4, h5, h6, h7, h7', h8, h9⟩ := hI3
    exact lt_of_heap h8
  have hsz3 := hk3.size
  have hex := h.ents x (by simp)
  have hxr : x.2.1 < r := by rw [hr]; exact lt_of_heap hex
  have hkbr : kb < r := by rw [hr]; exact h.kept.lt
  have hxkb : x.2.1 ≠ kb := map_cells h.kept hex
  (repeat first | apply wr_end | apply wc_block)
  refine wc_loopL (α := List Nat) (fun _ => [(0, .pointer (some ⟨sb, 0, none⟩)), (1, .int .u64 ((now : Nat) : Int)), (5, .slice none 0 0), (15, .pointer (some ⟨r, 0, none⟩))])
    (fun idx ds w' => ds = [] ∧ IterAt w' encK r kb (mapL ptrE [x]) idx ∧ ((idx = [] ∧ St w' sb kb wb room grace [x] W) ∨ St w' sb kb wb room grace [idlF false x] W) ∧ Keeps (fun k => k = x.2.1 ∨ k = r) w3 w') (fun idx => 1 - idx.length) [] ⟨rfl, hI3, .inl ⟨rfl, h.keep hk3⟩, Keeps.refl _ _⟩ ⟨rfl, rfl, rfl, rfl, trivial⟩ ?_
  rintro idx ds f0 w4 ⟨rfl, hI4, hst4, hk4⟩
  have hkw4 : Keeps (· = x.2.1) w w4 := Keeps.trans' hk3.upD hk4 (fun i hi e => by rcases e with e | e <;> omega)
  (repeat first | apply wc_seq | apply wc_region)
  refine wr_nextM rfl rfl hI4 ?_ ?_
  · intro w5 hall hk5
    have hst : St w4 sb kb wb room grace [idlF false x] W := by
      rcases hst4 with ⟨rfl, _⟩ | hst
      · have := hall 0 (by simp [mapL])
        simp at this
      · exact hst
    (repeat first | (apply wr_move; exact rfl; with_reducible (conv => enter [6, 3]; whnf)) | apply wr_end | apply wc_seq | apply wc_region | apply wc_block | (apply wr_len_slice; iterate 2 exact rfl) | (apply wr_extract; (iterate 3 exact rfl); with_reducible (conv => enter [6, 3]; whnf)) | (apply wc_false; exact rfl) | (apply wc_exit; try simp only [thenE, inBlockE, bodyQ, ↓reduceIte, Nat.reduceEqDiff]))
    refine wc_loopL (α := Unit) (fun _ => [(5, .slice none 0 0), (73, .int .i64 0), (74, .int .i64 0)]) (fun _ ds w' => ds = [] ∧ w' = w5) (fun _ => 0) () ⟨rfl, rfl⟩ ⟨rfl, rfl, rfl, trivial⟩ ?_
    rintro _ ds f1 w6 ⟨rfl, rfl⟩
    (repeat first | (apply wr_move; exact rfl; with_reducible (conv => enter [6, 3]; whnf)) | apply wr_end | apply wc_seq | apply wc_region | (apply wr_cmp; (iterate 3 exact rfl); exact cmpF (by dsimp only [cmpN]; first | done | omega)) | (apply wc_false; exact rfl) | (apply wc_exit; try simp only [thenE, inBlockE, bodyQ, ↓reduceIte, Nat.reduceEqDiff]))
    refine wr_call (vs := [.slice none 0 0, .func (.func 28) #[] #[]]) rfl (ksort_small none 0 0 (by omega) _ w6) rfl ?_
    rintro v w7 ⟨rfl, rfl⟩
    (repeat first | (apply wr_move; exact rfl; with_reducible (conv => enter [6, 3]; whnf)) | (apply wr_assign; exact rfl; with_reducible (conv => enter [6, 3]; whnf)) | apply wr_end | apply wc_seq | apply wc_region | (apply wc_ret; try simp only [thenE, inBlockE, bodyQ]))
    exact leave1 (v := .slice none 0 0) rfl rfl ⟨rfl, hst.keep hk5, hkw4.trans hk5.upD⟩
  · intro w5 i p hi hp hI5 hE5 hk5
    have hpx : i = 0 ∧ p = (x.1, ptrE x.2) := by
      match i, hp with
      | 0, hp => simp [mapL] at hp; exact ⟨rfl, hp.symm⟩
      | i + 1, hp => simp [mapL] at hp
    obtain ⟨rfl, rfl⟩ := hpx
    have hlen5 := iter_len hI5
    simp only [List.length_append, List.length_singleton, mapL, List.map_cons, List.map_nil] at hlen5
    have hidx : idx = [] := List.eq_nil_of_length_eq_zero (by simpa using hlen5)
    have hkw5 : Keeps (· = x.2.1) w w5 := Keeps.trans' hkw4 hk5 (fun j hj e => by omega)
    obtain ⟨bi, hst5⟩ : ∃ bi, St w5 sb kb wb room grace [idlF bi x] W := by
      have hsr : ∀ {y : KY × (Nat × EN)}, St w4 sb kb wb room grace [y] W → St w5 sb kb wb room grace [y] W := fun {y} hs4 => by
        obtain ⟨M, hM, hW⟩ := hs4.watch
        have hsb : sb ≠ r := by
          have h1 := lt_of_heap h.cells
          omega
        have hwb : wb ≠ r := by
          obtain ⟨M0, hM0, _⟩ := h.watch
          have h1 := hM0.lt
          omega
        exact ⟨hk5.heap hs4.cells hsb, hs4.kept.keep hk5 (fun e => by omega), ⟨M, hM.keep hk5 (fun e => hwb e), hW⟩, fun z hz => hk5.heap (hs4.ents z hz) (fun e => by
          obtain ⟨es, c, since, last, seen, h1, h2, h3, h4, h5, h6, h7, h7', h8, h9⟩ := hI4
          have := hs4.ents z hz
          rw [e, h8] at this
          cases this), hs4.ne, hs4.wB⟩
      rcases hst4 with ⟨_, hs4⟩ | hs4
      · exact ⟨x.2.2.2.1, hsr hs4⟩
      · exact ⟨false, hsr hs4⟩
    have hx5 := hst5.ents _ (List.mem_singleton_self _)
    (repeat first | apply wr_end | apply wc_seq | apply wc_region | apply wc_skip | apply wc_block | (apply wr_extract; (iterate 3 exact rfl); with_reducible (conv => enter [6, 3]; whnf)) | (apply wc_true; exact rfl))
    refine wr_entryM rfl rfl hE5 ?_
    (repeat first | (apply wr_alloc; exact rfl) | (apply wr_extract; (iterate 3 exact rfl); with_reducible (conv => enter [6, 3]; whnf)))
    refine wr_storeAll (cs := [.int .i64 x.1.1, S x.1.2]) rfl rfl rfl (by intro u hu; simp at hu; rcases hu with rfl | rfl <;> rfl) (heap_alloc_same _ _) rfl rfl ?_
    refine wr_name ?_
    intro w6 hw6
    obtain ⟨b6, hb6⟩ : ∃ b, b = w5.heap.size := ⟨_, rfl⟩
    have hk6 : Keeps NoB w5 w6 := by rw [hw6]; exact ((Keeps.refl NoB w5).alloc _).put _ (fun h => by omega)
    have hc6 : w6.heap[b6]? = some (.cells #[.int .i64 x.1.1, S x.1.2] 28 (0, 0)) := by rw [hw6, hb6]; exact World.putObj_heap_same (by simp)
    rw [← hb6]
    clear hw6
    (repeat first | (apply wr_move; exact rfl; with_reducible (conv => enter [6, 3]; whnf)) | (apply wr_assign; exact rfl; with_reducible (conv => enter [6, 3]; whnf)) | apply wr_end | apply wc_seq | apply wc_region)
    refine wr_loadAll (cs := [.int .i64 x.1.1, S x.1.2]) rfl rfl rfl hc6 rfl ?_
    refine wr_call (vs := [.pointer (some ⟨sb, 0, none⟩), encK x.1]) rfl (wanted_ca (hst5.keep hk6) x.1 hkx) rfl ?_
    rintro v w7 ⟨rfl, hk7⟩
    have hk57 := hk6.trans hk7
    have hx7 : w7.heap[x.2.1]? = some (.cells (GE (x.2.2.1, bi, x.2.2.2.2)).toArray 66 (0, 0)) := hk57.heap hx5 (fun h => h)
    have hst7 := hst5.keep hk57
    (repeat first | (apply wr_move; exact rfl; with_reducible (conv => enter [6, 3]; whnf)) | (apply wr_assign; exact rfl; with_reducible (conv => enter [6, 3]; whnf)) | apply wr_end | apply wc_seq | apply wc_region | apply wc_skip | (apply wr_fieldAddr; iterate 2 exact rfl) | (apply wr_not; iterate 2 exact rfl) | (apply wr_nilCheck; iterate 2 exact rfl) | (apply wr_cmp; (iterate 3 exact rfl); exact cmpT (by dsimp only [cmpP]; first | done | omega)) | (apply wr_pick (t := false); (iterate 2 exact rfl); with_reducible (conv => enter [6, 3]; whnf)) | (apply wr_store; (iterate 3 exact rfl); (first | exact rfl | with_reducible assumption); (focus repeat first | with_reducible assumption | exact heap_alloc_same _ _ | exact World.putObj_heap_same (by first | omega | (simp only [World.size_alloc, World.putObj_size, ne_eq]; omega)) | ((first | refine hAl ?_ ?_ | refine hPu ?_ ?_); focus first | omega | (simp only [World.size_alloc, World.putObj_size, ne_eq]; omega))); exact rfl) | (apply wc_false; exact rfl) | (apply wr_skip; exact rfl))
    generalize hw8 : World.putObj w7 _ _ = w8
    have hx8 : w8.heap[x.2.1]? = some (.cells (GE (x.2.2.1, false, x.2.2.2.2)).toArray 66 (0, 0)) := by rw [← hw8]; exact World.putObj_heap_same (lt_of_heap hx7)
    have hk8 : Keeps (· = x.2.1) w7 w8 := by rw [← hw8]; exact (Keeps.refl _ w7).put _ (fun _ => rfl)
    clear hw8
    have hst8 : St w8 sb kb wb room grace [idlF false x] W := hst7.upd1 rfl rfl hx8 hk8
    have hx8d : w8.drew.heap[x.2.1]? = _ := hx8
    skip
    refine wc_drawS (l := _) (S := fun w' => w' = w8.drew) (by kernel_rfl) (by kernel_rfl) rfl ?_
    repeat
      apply ch_step
      focus
        intro w' hS
        subst hS
        (repeat first | (apply wr_move; exact rfl; with_reducible (conv => enter [6, 3]; whnf)) | (apply wr_fieldAddr; iterate 2 exact rfl) | (apply wr_nilCheck; iterate 2 exact rfl) | (apply wr_load; (iterate 3 exact rfl); (focus repeat first | with_reducible assumption | exact heap_alloc_same _ _ | exact World.putObj_heap_same (by first | omega | (simp only [World.size_alloc, World.putObj_size, ne_eq]; omega)) | ((first | refine hAl ?_ ?_ | refine hPu ?_ ?_); focus first | omega | (simp only [World.size_alloc, World.putObj_size, ne_eq]; omega))); exact rfl; conv => enter [6, 3]; whnf) | (apply wr_pick (t := false); (iterate 2 exact rfl); with_reducible (conv => enter [6, 3]; whnf)) | (apply wr_nil; try simp only [thenE, inBlockE, bodyQ]) | (apply wr_skip; exact rfl))
        exact ⟨rfl, by trivial⟩
    refine ch_nil ?_
    intro w' hS
    subst hS
    (repeat first | apply wc_skip | (apply wc_false; exact rfl))
    refine ⟨idx ++ [0], by simp [hidx], ⟨by trivial, ?_, .inr hst8.drew, ?_⟩, rfl, rfl, rfl, rfl, trivial⟩
    · exact (((hI5.keep hk6 (fun h => h) (fun h => h)).keep hk7 (fun h => h) (fun h => h)).keep hk8 (fun e => by omega) (fun e => hxkb e.symm)).keep (Keeps.refl NoB w8).drew (fun h => h) (fun h => h)
    · exact (hk4.trans (hk5.mono fun k _ e => .inr e)).trans ((hk57.upD.trans (hk8.mono fun k _ e => .inl e)).drew)
end Go.Proofs.YtafnbbehmbmchaaDoor
