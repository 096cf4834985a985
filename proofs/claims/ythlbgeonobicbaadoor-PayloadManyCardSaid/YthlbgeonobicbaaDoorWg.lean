/- wire.fields, its iterator: what they do. -/
import Derived.Test.YthlbgeonobicbaaDoorWf
import Derived.Test.YthlbgeonobicbaaDoorVA
namespace Go.Proofs.YthlbgeonobicbaaDoor
open Go Go.V Go.RowKit
set_option linter.unusedVariables false
set_option linter.unusedSimpArgs false

theorem takeF_lt {s : List UInt8} {f : WF} {r : List UInt8} (h : takeF s = .ok f r) : r.length < s.length := by
  unfold takeF at h
  cases hrv : readVarint s with
  | none => rw [hrv] at h; cases h
  | some nk =>
    obtain ⟨tag, n⟩ := nk
    obtain ⟨_, h1, h2⟩ := readVarint_bounds hrv
    rw [hrv] at h
    dsimp only at h
    split at h
    · cases h
    · split at h
      · split at h
        · cases h
        · simp only [TR.ok.injEq] at h
          rw [← h.2]; simp; omega
      · split at h
        · split at h
          · cases h
          · split at h
            · cases h
            · simp only [TR.ok.injEq] at h
              rw [← h.2]; simp; omega
        · split at h
          · split at h
            · cases h
            · simp only [TR.ok.injEq] at h
              rw [← h.2]; simp; omega
          · split at h
            · split at h
              · cases h
              · simp only [TR.ok.injEq] at h
                rw [← h.2]; simp; omega
            · cases h
/-- The fields of bytes. -/
def parseF (s : List UInt8) : Option (List WF) := if s = [] then some [] else
  match h : takeF s with
  | .ok f r => (parseF r).map (f :: ·)
  | _ => none
termination_by s.length
decreasing_by exact takeF_lt h
theorem parseF_nil : parseF [] = some [] := by unfold parseF; rw [if_pos rfl]
theorem parseF_ok {s : List UInt8} {f : WF} {r : List UInt8} (hs : s ≠ []) (h : takeF s = .ok f r) : parseF s = (parseF r).map (f :: ·) := by
  rw [parseF, if_neg hs]
  split
  · rename_i f' r' h'; rw [h] at h'; cases h'; rfl
  · rename_i h'; exact absurd h (h' f r)
theorem parseF_no {s : List UInt8} (hs : s ≠ []) (h : takeF s = .short ∨ takeF s = .wrong) : parseF s = none := by
  rw [parseF, if_neg hs]
  split
  · rename_i f' r' h'; rw [h'] at h; rcases h with h | h <;> cases h
  · rfl
set_option maxRecDepth 100000 in
theorem fields_ca (s : List UInt8) (w : World) : Ca Tryd.prog 80 #[S s] w fun v w' => v = .func (.func 88) #[] #[.pointer (some ⟨w.heap.size, 0, none⟩)] ∧
    w'.heap[w.heap.size]? = some (.cells #[S s] 9 (0, 0)) ∧ Keeps NoB w w' ∧ w'.heap.size = w.heap.size + 1 := by
  refine ca_of_body (args := [S s]) Tryd.func80 rfl (by kernel_rfl) ?_
  (repeat first | (apply wr_assign; exact rfl; with_reducible (conv => enter [6, 3]; whnf)) | apply wr_end | apply wc_seq | apply wc_region | (apply wr_box; iterate 2 exact rfl))
  refine wr_makeFunc (v1 := []) (v2 := [.pointer (some ⟨w.heap.size, 0, none⟩)]) rfl rfl rfl ?_
  (repeat first | (apply wr_assign; exact rfl; with_reducible (conv => enter [6, 3]; whnf)) | apply wr_end | (apply wc_ret; try simp only [thenE, inBlockE, bodyQ]))
  exact leave1 (v := .func (.func 88) #[] #[.pointer (some ⟨w.heap.size, 0, none⟩)]) rfl rfl ⟨rfl, heap_alloc_same _ _, (Keeps.refl _ _).alloc _, by simp⟩
set_option maxRecDepth 100000 in
set_option maxHeartbeats 2000000 in
theorem fields1_ca {yv : Value} {bs : Nat} {p q : Addr} {I : List UInt8 → World → Prop} {J : World → Prop} (hst : ∀ s w w', I s w → Keeps (· = bs) w w' → I s w') (hglo : ∀ s w, I s w → Glo w p q)
    (hok : ∀ s f r w, I s w → s ≠ [] → takeF s = .ok f r → CallV Tryd.prog yv #[f.v, .nilIface] w fun v w' => v = .bool true ∧ I r w' ∧ w'.heap[bs]? = w.heap[bs]?)
    (herr : ∀ s (f : WF) k e w, I s w → s ≠ [] → (takeF s = .short ∧ e = Er p ∨ takeF s = .wrong ∧ e = Er q) → CallV Tryd.prog yv #[f.v, At k e] w fun v w' => J w')
    {s : List UInt8} {w : World} (h0 : I s w) (hb : w.heap[bs]? = some (.cells #[S s] 9 (0, 0))) (hs : s.length ≤ 4611686018427387904) :
    Ca Tryd.prog 88 #[yv, .pointer (some ⟨bs, 0, none⟩)] w fun v w' => ((parseF s).isSome = true ∧ I [] w') ∨ (parseF s = none ∧ J w') := by
  refine ca_of_body (args := [yv, .pointer (some ⟨bs, 0, none⟩)]) Tryd.func88 rfl (by kernel_rfl) ?_
  (repeat first | (apply wr_assign; exact rfl; with_reducible (conv => enter [6, 3]; whnf)) | apply wr_end | apply wc_seq | apply wc_region | apply wc_block | (apply wr_len_str; iterate 2 exact rfl) | (apply wr_load; (iterate 3 exact rfl); (focus repeat first | with_reducible assumption | exact heap_alloc_same _ _ | exact World.putObj_heap_same (by first | omega | (simp only [World.size_alloc, World.putObj_size, ne_eq]; omega)) | ((first | refine hAl ?_ ?_ | refine hPu ?_ ?_); focus first | omega | (simp only [World.size_alloc, World.putObj_size, ne_eq]; omega))); exact rfl; conv => enter [6, 3]; whnf))
  refine wc_loopL (α := List UInt8) (fun x => [(0, yv), (1, .pointer (some ⟨bs, 0, none⟩)), (3, .int .i64 (s.length : Int))])
    (fun x ds w' => ds = [] ∧ I x w' ∧ w'.heap[bs]? = some (.cells #[S x] 9 (0, 0)) ∧ (parseF s).isSome = (parseF x).isSome ∧ x.length ≤ s.length) List.length s ⟨rfl, h0, hb, rfl, Nat.le_refl _⟩ ⟨rfl, rfl, rfl, trivial⟩ ?_
  rintro x ds f0 w2 ⟨rfl, hI, hb2, hps, hxl⟩
  by_cases hx : x = []
  · subst hx
    (repeat first | apply wr_end | apply wc_seq | apply wc_region | (apply wr_load; (iterate 3 exact rfl); (focus repeat first | with_reducible assumption | exact heap_alloc_same _ _ | exact World.putObj_heap_same (by first | omega | (simp only [World.size_alloc, World.putObj_size, ne_eq]; omega)) | ((first | refine hAl ?_ ?_ | refine hPu ?_ ?_); focus first | omega | (simp only [World.size_alloc, World.putObj_size, ne_eq]; omega))); exact rfl; conv => enter [6, 3]; whnf) | (apply wr_strnec; (iterate 3 exact rfl); (first | exact decide_eq_true (by with_reducible assumption) | exact decide_eq_false (by with_reducible assumption) | exact decide_eq_true rfl | exact rfl); with_reducible (conv => enter [6, 3]; whnf)) | (apply wc_false; exact rfl) | (apply wc_exit; try simp only [thenE, inBlockE, bodyQ, ↓reduceIte, Nat.reduceEqDiff]))
    refine leave0 rfl (.inl ⟨by rw [hps, parseF_nil]; rfl, hI⟩)
  · (repeat first | apply wr_end | apply wc_seq | apply wc_region | apply wc_skip | apply wc_block | (apply wr_load; (iterate 3 exact rfl); (focus repeat first | with_reducible assumption | exact heap_alloc_same _ _ | exact World.putObj_heap_same (by first | omega | (simp only [World.size_alloc, World.putObj_size, ne_eq]; omega)) | ((first | refine hAl ?_ ?_ | refine hPu ?_ ?_); focus first | omega | (simp only [World.size_alloc, World.putObj_size, ne_eq]; omega))); exact rfl; conv => enter [6, 3]; whnf) | (apply wr_strnec; (iterate 3 exact rfl); (first | exact decide_eq_true (by with_reducible assumption) | exact decide_eq_false (by with_reducible assumption) | exact decide_eq_true rfl | exact rfl); with_reducible (conv => enter [6, 3]; whnf)) | (apply wc_true; exact rfl))
    refine wr_call (vs := [S x]) rfl (take_ca x (by omega) (hglo x w2 hI)) rfl ?_
    rintro v w3 ⟨hv, hk3⟩
    have hI3 := hst x w2 w3 hI (hk3.mono fun _ _ h => h.elim)
    have hb3 := hk3.heap hb2 (fun h => h)
    have hsz3 := lt_of_heap hb3
    cases hT : takeF x with
    | ok f r =>
      rw [hT] at hv
      simp only [takeR] at hv
      subst hv
      obtain ⟨fn, fk, fv, fs⟩ := f
      dsimp only [WF.v]
      (repeat first | (apply wr_move; exact rfl; with_reducible (conv => enter [6, 3]; whnf)) | (apply wr_alloc; exact rfl) | (apply wr_extract; (iterate 3 exact rfl); with_reducible (conv => enter [6, 3]; whnf)))
      refine wr_storeAll (cs := [.int .i64 fn, .int .i64 fk, .int .u64 (fv : Int), S fs]) rfl rfl rfl (by intro u hu; simp at hu; rcases hu with rfl | rfl | rfl | rfl <;> rfl) (heap_alloc_same _ _) rfl rfl ?_
      (repeat first | (apply wr_move; exact rfl; with_reducible (conv => enter [6, 3]; whnf)) | (apply wr_assign; exact rfl; with_reducible (conv => enter [6, 3]; whnf)) | apply wr_end | apply wc_seq | apply wc_region | apply wc_skip | (apply wr_nenil_f; iterate 2 exact rfl) | (apply wc_false; exact rfl))
      refine wr_loadAll (cs := [.int .i64 fn, .int .i64 fk, .int .u64 (fv : Int), S fs]) rfl rfl rfl (by focus repeat first | with_reducible assumption | exact heap_alloc_same _ _ | exact World.putObj_heap_same (by first | omega | (simp only [World.size_alloc, World.putObj_size, ne_eq]; omega)) | ((first | refine hAl ?_ ?_ | refine hPu ?_ ?_); focus first | omega | (simp only [World.size_alloc, World.putObj_size, ne_eq]; omega))) rfl ?_
      refine wr_callv (vs := [.agg #[.int .i64 fn, .int .i64 fk, .int .u64 (fv : Int), S fs], .nilIface]) rfl (hok x ⟨fn, fk, fv, fs⟩ r _ (hst x w3 _ hI3 (((Keeps.refl _ w3).alloc _).put _ (fun h => by omega))) hx hT) rfl rfl ?_
      rintro v w4 ⟨rfl, hI4, hb4⟩
      have hb4' : w4.heap[bs]? = some (.cells #[S x] 9 (0, 0)) := hb4.trans ((heap_put_ne _ _ (by omega)).trans ((heap_alloc_ne _ _ (by omega)).trans hb3))
      (repeat first | (apply wr_move; exact rfl; with_reducible (conv => enter [6, 3]; whnf)) | apply wr_end | apply wc_region | apply wc_skip | (apply wr_not; iterate 2 exact rfl) | (apply wr_store; (iterate 3 exact rfl); (first | exact rfl | with_reducible assumption); (focus repeat first | with_reducible assumption | exact heap_alloc_same _ _ | exact World.putObj_heap_same (by first | omega | (simp only [World.size_alloc, World.putObj_size, ne_eq]; omega)) | ((first | refine hAl ?_ ?_ | refine hPu ?_ ?_); focus first | omega | (simp only [World.size_alloc, World.putObj_size, ne_eq]; omega))); exact rfl) | (apply wc_false; exact rfl) | (apply wr_nil; try simp only [thenE, inBlockE, bodyQ]))
      refine ⟨r, takeF_lt hT, ⟨by trivial, hst r w4 _ hI4 ((Keeps.refl _ w4).put _ (fun h => rfl)), World.putObj_heap_same (lt_of_heap hb4'), ?_, by have := takeF_lt hT; omega⟩, rfl, rfl, rfl, trivial⟩
      rw [hps, parseF_ok hx hT]; simp
    | short =>
      rw [hT] at hv
      obtain ⟨⟨fn, fk, fv, fs⟩, r, rfl⟩ := hv
      dsimp only [WF.v]
      (repeat first | (apply wr_move; exact rfl; with_reducible (conv => enter [6, 3]; whnf)) | (apply wr_alloc; exact rfl) | (apply wr_extract; (iterate 3 exact rfl); with_reducible (conv => enter [6, 3]; whnf)))
      refine wr_storeAll (cs := [.int .i64 fn, .int .i64 fk, .int .u64 (fv : Int), S fs]) rfl rfl rfl (by intro u hu; simp at hu; rcases hu with rfl | rfl | rfl | rfl <;> rfl) (heap_alloc_same _ _) rfl rfl ?_
      (repeat first | (apply wr_move; exact rfl; with_reducible (conv => enter [6, 3]; whnf)) | (apply wr_assign; exact rfl; with_reducible (conv => enter [6, 3]; whnf)) | apply wr_end | apply wc_seq | apply wc_region | (apply wr_nenil_t; iterate 2 exact rfl) | (apply wc_true; exact rfl))
      refine wr_loadAll (cs := [.int .i64 fn, .int .i64 fk, .int .u64 (fv : Int), S fs]) rfl rfl rfl (by focus repeat first | with_reducible assumption | exact heap_alloc_same _ _ | exact World.putObj_heap_same (by first | omega | (simp only [World.size_alloc, World.putObj_size, ne_eq]; omega)) | ((first | refine hAl ?_ ?_ | refine hPu ?_ ?_); focus first | omega | (simp only [World.size_alloc, World.putObj_size, ne_eq]; omega))) rfl ?_
      (repeat first | (apply wr_move; exact rfl; with_reducible (conv => enter [6, 3]; whnf)) | (apply wr_len_str; iterate 2 exact rfl) | (apply wr_load; (iterate 3 exact rfl); (focus repeat first | with_reducible assumption | exact heap_alloc_same _ _ | exact World.putObj_heap_same (by first | omega | (simp only [World.size_alloc, World.putObj_size, ne_eq]; omega)) | ((first | refine hAl ?_ ?_ | refine hPu ?_ ?_); focus first | omega | (simp only [World.size_alloc, World.putObj_size, ne_eq]; omega))); exact rfl; conv => enter [6, 3]; whnf) | (apply wr_sub; (iterate 3 exact rfl); exact w_fit (by dsimp only [kIn]; first | done | omega)))
      refine wr_build (ps := [(0, .int .i64 ((s.length : Int) - (x.length : Int))), (1, Er p)]) (cs := [.int .i64 ((s.length : Int) - (x.length : Int)), Er p]) rfl rfl rfl rfl ?_
      refine wr_makeIface rfl rfl rfl ?_
      refine wr_callv (vs := [.agg #[.int .i64 fn, .int .i64 fk, .int .u64 (fv : Int), S fs], At ((s.length : Int) - (x.length : Int)) (Er p)]) rfl (herr x ⟨fn, fk, fv, fs⟩ _ (Er p) _ (hst x w3 _ hI3 (((Keeps.refl _ w3).alloc _).put _ (fun h => by omega))) hx (.inl ⟨hT, rfl⟩)) rfl rfl ?_
      rintro v w4 hJ
      (repeat first | apply wr_end | (apply wc_ret; try simp only [thenE, inBlockE, bodyQ]))
      exact leave0 rfl (.inr ⟨by have := parseF_no hx (.inl hT); rw [this] at hps; simpa using hps, hJ⟩)
    | wrong =>
      rw [hT] at hv
      obtain ⟨⟨fn, fk, fv, fs⟩, r, rfl⟩ := hv
      dsimp only [WF.v]
      (repeat first | (apply wr_move; exact rfl; with_reducible (conv => enter [6, 3]; whnf)) | (apply wr_alloc; exact rfl) | (apply wr_extract; (iterate 3 exact rfl); with_reducible (conv => enter [6, 3]; whnf)))
      refine wr_storeAll (cs := [.int .i64 fn, .int .i64 fk, .int .u64 (fv : Int), S fs]) rfl rfl rfl (by intro u hu; simp at hu; rcases hu with rfl | rfl | rfl | rfl <;> rfl) (heap_alloc_same _ _) rfl rfl ?_
      (repeat first | (apply wr_move; exact rfl; with_reducible (conv => enter [6, 3]; whnf)) | (apply wr_assign; exact rfl; with_reducible (conv => enter [6, 3]; whnf)) | apply wr_end | apply wc_seq | apply wc_region | (apply wr_nenil_t; iterate 2 exact rfl) | (apply wc_true; exact rfl))
      refine wr_loadAll (cs := [.int .i64 fn, .int .i64 fk, .int .u64 (fv : Int), S fs]) rfl rfl rfl (by focus repeat first | with_reducible assumption | exact heap_alloc_same _ _ | exact World.putObj_heap_same (by first | omega | (simp only [World.size_alloc, World.putObj_size, ne_eq]; omega)) | ((first | refine hAl ?_ ?_ | refine hPu ?_ ?_); focus first | omega | (simp only [World.size_alloc, World.putObj_size, ne_eq]; omega))) rfl ?_
      (repeat first | (apply wr_move; exact rfl; with_reducible (conv => enter [6, 3]; whnf)) | (apply wr_len_str; iterate 2 exact rfl) | (apply wr_load; (iterate 3 exact rfl); (focus repeat first | with_reducible assumption | exact heap_alloc_same _ _ | exact World.putObj_heap_same (by first | omega | (simp only [World.size_alloc, World.putObj_size, ne_eq]; omega)) | ((first | refine hAl ?_ ?_ | refine hPu ?_ ?_); focus first | omega | (simp only [World.size_alloc, World.putObj_size, ne_eq]; omega))); exact rfl; conv => enter [6, 3]; whnf) | (apply wr_sub; (iterate 3 exact rfl); exact w_fit (by dsimp only [kIn]; first | done | omega)))
      refine wr_build (ps := [(0, .int .i64 ((s.length : Int) - (x.length : Int))), (1, Er q)]) (cs := [.int .i64 ((s.length : Int) - (x.length : Int)), Er q]) rfl rfl rfl rfl ?_
      refine wr_makeIface rfl rfl rfl ?_
      refine wr_callv (vs := [.agg #[.int .i64 fn, .int .i64 fk, .int .u64 (fv : Int), S fs], At ((s.length : Int) - (x.length : Int)) (Er q)]) rfl (herr x ⟨fn, fk, fv, fs⟩ _ (Er q) _ (hst x w3 _ hI3 (((Keeps.refl _ w3).alloc _).put _ (fun h => by omega))) hx (.inr ⟨hT, rfl⟩)) rfl rfl ?_
      rintro v w4 hJ
      (repeat first | apply wr_end | (apply wc_ret; try simp only [thenE, inBlockE, bodyQ]))
      exact leave0 rfl (.inr ⟨by have := parseF_no hx (.inr hT); rw [this] at hps; simpa using hps, hJ⟩)
end Go.Proofs.YthlbgeonobicbaaDoor
