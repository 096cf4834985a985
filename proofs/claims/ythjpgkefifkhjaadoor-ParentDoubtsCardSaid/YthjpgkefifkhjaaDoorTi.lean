/- Fall; later; Rise. -/
import Derived.Test.YthjpgkefifkhjaaDoorTh
namespace Go.Proofs.YthjpgkefifkhjaaDoor
open Go Go.V Go.RowKit
set_option linter.unusedVariables false
set_option linter.unusedSimpArgs false

set_option maxRecDepth 100000 in
set_option maxHeartbeats 2000000 in
theorem fall_ca {tb lb cap : Nat} {T : List ND} {X : List NL} (id : Int) (w : World) (h : TreeAt w tb lb cap T X) (hwf : WFT T X) :
    Ca Tryd.prog 13 #[.pointer (some ⟨tb, 0, none⟩), .int .i64 id] w fun v w' => w'.ownsRow w.heap.size 3 1 v (turnN T (fallF T id) T.length).length (IN (turnN T (fallF T id) T.length)) ∧ TreeAt w' tb lb cap (fallF T id) X ∧ Keeps (TD X) w w' := by
  have hno : ¬ (inT T id ∧ id ≠ 1 ∧ upT T id = true) → fallF T id = T ∧ turnN T (fallF T id) T.length = [] := fun hh => by
    have : fallF T id = T := if_neg hh
    exact ⟨this, by rw [this]; exact turnN_same _ _⟩
  refine ca_of_body (args := [.pointer (some ⟨tb, 0, none⟩), .int .i64 id]) Tryd.func13 rfl (by kernel_rfl) ?_
  apply wc_seq
  apply wc_region
  refine wr_box (v := .pointer (some ⟨tb, 0, none⟩)) rfl rfl ?_
  refine wr_box (v := .int .i64 id) rfl rfl ?_
  obtain ⟨w1, hw1⟩ : ∃ w1, w1 = (w.alloc (.cells (Value.pointer (some ⟨tb, 0, none⟩)).cells 27)).alloc (.cells (Value.int .i64 id).cells 3) := ⟨_, rfl⟩
  have hk1 : Keeps NoB w w1 := by rw [hw1]; exact ((Keeps.refl NoB w).alloc _).alloc _
  obtain ⟨xi, hxi⟩ : ∃ xi, xi = (w.alloc (.cells (Value.pointer (some ⟨tb, 0, none⟩)).cells 27)).heap.size := ⟨_, rfl⟩
  have hi1 : w1.heap[xi]? = some (.cells #[.int .i64 id] 3 (0, 0)) := by rw [hw1, hxi]; exact heap_alloc_same _ _
  obtain ⟨xt, hxt⟩ : ∃ xt, xt = w.heap.size := ⟨_, rfl⟩
  have ht1 : w1.heap[xt]? = some (.cells #[.pointer (some ⟨tb, 0, none⟩)] 27 (0, 0)) := by
    rw [hw1, hxt, heap_alloc_ne _ _ (by simp only [World.size_alloc]; omega)]; exact heap_alloc_same _ _
  rw [← hw1, ← hxi, ← hxt]
  clear hw1 hxi
  have h1 := h.kin hk1
  (repeat first | (apply wr_assign; exact rfl; with_reducible (conv => enter [6, 3]; whnf)) | apply wr_end | apply wc_seq | apply wc_region | (apply wr_load; (iterate 3 exact rfl); (focus repeat first | with_reducible assumption | exact heap_alloc_same _ _ | exact World.putObj_heap_same (by first | omega | (simp only [World.size_alloc, World.putObj_size, ne_eq]; omega)) | ((first | refine hAl ?_ ?_ | refine hPu ?_ ?_); focus first | omega | (simp only [World.size_alloc, World.putObj_size, ne_eq]; omega))); exact rfl; conv => enter [6, 3]; whnf))
  refine wr_call (vs := [.pointer (some ⟨tb, 0, none⟩), .int .i64 id]) rfl (find_ca id w1 h1) rfl ?_
  rintro v w2 ⟨rfl, hfind⟩
  rcases hfind with ⟨hin, x, hx, rfl⟩ | ⟨hin, rfl⟩
  rotate_left
  · obtain ⟨e1, e2⟩ := hno (fun hh => hin hh.1)
    rw [e2, e1]
    (repeat first | (apply wr_move; exact rfl; with_reducible (conv => enter [6, 3]; whnf)) | (apply wr_assign; exact rfl; with_reducible (conv => enter [6, 3]; whnf)) | apply wr_end | apply wc_seq | apply wc_region | (apply wr_not; iterate 2 exact rfl) | (apply wr_pick (t := true); (iterate 2 exact rfl); with_reducible (conv => enter [6, 3]; whnf)) | (apply wr_alloc; exact rfl) | (apply wr_extract; (iterate 3 exact rfl); with_reducible (conv => enter [6, 3]; whnf)) | (apply wr_store; (iterate 3 exact rfl); (first | exact rfl | with_reducible assumption); (focus repeat first | with_reducible assumption | exact heap_alloc_same _ _ | exact World.putObj_heap_same (by first | omega | (simp only [World.size_alloc, World.putObj_size, ne_eq]; omega)) | ((first | refine hAl ?_ ?_ | refine hPu ?_ ?_); focus first | omega | (simp only [World.size_alloc, World.putObj_size, ne_eq]; omega))); exact rfl) | (apply wc_true; exact rfl) | (apply wc_ret; try simp only [thenE, inBlockE, bodyQ]) | (apply wr_skip; exact rfl))
    exact leave1 (v := .slice none 0 0) rfl rfl ⟨own_nil _ _ _ _, h1.kin (by first | exact Keeps.refl _ _ | (exact ((Keeps.refl NoB _).alloc _).put _ (fun h => by omega))), by first | exact hk1.upD | exact (((hk1.alloc _).put _ (fun h => by have := hk1.size; omega))).upD⟩
  obtain ⟨n, hn, hN⟩ := h1.at hx
  have hc1 := hN.cells
  have hnT : ndAt T id = n := ndAt_of hn
  have hxm := List.mem_of_getElem? hx
  have hup : upT T id = n.up := by unfold upT; rw [if_pos hin, hnT]
  refine wr_move rfl ?_
  refine wr_extract rfl rfl rfl ?_
  refine wr_extract rfl rfl rfl ?_
  refine wr_alloc rfl ?_
  refine wr_store (v := .pointer (some ⟨x.blk, 0, none⟩)) rfl rfl rfl rfl (heap_alloc_same _ _) rfl ?_
  obtain ⟨w3, hw3⟩ : ∃ w3, w3 = (w2.alloc (.cells (Value.pointer none).cells 53)).putObj w2.heap.size (.cells ((Value.pointer none).cells.setIfInBounds 0 (.pointer (some ⟨x.blk, 0, none⟩))) 53 (0, 0)) := ⟨_, rfl⟩
  have hk3 : Keeps NoB w2 w3 := by rw [hw3]; exact ((Keeps.refl NoB w2).alloc _).put _ (fun h => by omega)
  have hp3' : w3.heap[w2.heap.size]? = some (.cells #[.pointer (some ⟨x.blk, 0, none⟩)] 53 (0, 0)) := by rw [hw3]; exact World.putObj_heap_same (by simp)
  rw [← hw3]
  clear hw3
  obtain ⟨xn, hxn⟩ : ∃ xn, xn = w2.heap.size := ⟨_, rfl⟩
  rw [← hxn] at hp3' ⊢
  have hp3 := hp3'
  have h3 := h1.kin hk3
  have hk03 := hk1.trans hk3
  have ht3 := hk3.heap ht1 (fun h => h)
  have hi3' := hk3.heap hi1 (fun h => h)
  have hc3 : w3.heap[x.blk]? = some (.cells #[.int .i64 n.depth, x.cv, .bool n.up, .int .i64 n.par, .map x.db] 56 (0, 0)) := hk3.heap hc1 (fun h => h)
  by_cases hid1 : id = 1
  · obtain ⟨e1, e2⟩ := hno (fun hh => hh.2.1 hid1)
    rw [e2, e1]
    (repeat first | (apply wr_move; exact rfl; with_reducible (conv => enter [6, 3]; whnf)) | (apply wr_assign; exact rfl; with_reducible (conv => enter [6, 3]; whnf)) | apply wr_end | apply wc_seq | apply wc_region | (apply wr_not; iterate 2 exact rfl) | (apply wr_load; (iterate 3 exact rfl); (focus repeat first | with_reducible assumption | exact heap_alloc_same _ _ | exact World.putObj_heap_same (by first | omega | (simp only [World.size_alloc, World.putObj_size, ne_eq]; omega)) | ((first | refine hAl ?_ ?_ | refine hPu ?_ ?_); focus first | omega | (simp only [World.size_alloc, World.putObj_size, ne_eq]; omega))); exact rfl; conv => enter [6, 3]; whnf) | (apply wr_cmp; (iterate 3 exact rfl); exact cmpT (by dsimp only [cmpP]; first | done | omega)) | (apply wr_pick (t := true); (iterate 2 exact rfl); with_reducible (conv => enter [6, 3]; whnf)) | (apply wr_pick (t := false); (iterate 2 exact rfl); with_reducible (conv => enter [6, 3]; whnf)) | (apply wc_true; exact rfl) | (apply wc_ret; try simp only [thenE, inBlockE, bodyQ]) | (apply wr_skip; exact rfl))
    exact leave1 (v := .slice none 0 0) rfl rfl ⟨own_nil _ _ _ _, h3, hk03.upD⟩
  cases hu : n.up with
  | false =>
    obtain ⟨e1, e2⟩ := hno (fun hh => by have := hh.2.2; rw [hup, hu] at this; cases this)
    rw [e2, e1]
    rw [hu] at hc3
    (repeat first | (apply wr_move; exact rfl; with_reducible (conv => enter [6, 3]; whnf)) | (apply wr_assign; exact rfl; with_reducible (conv => enter [6, 3]; whnf)) | apply wr_end | apply wc_seq | apply wc_region | (apply wr_fieldAddr; iterate 2 exact rfl) | (apply wr_not; iterate 2 exact rfl) | (apply wr_nilCheck; iterate 2 exact rfl) | (apply wr_load; (iterate 3 exact rfl); (focus repeat first | with_reducible assumption | exact heap_alloc_same _ _ | exact World.putObj_heap_same (by first | omega | (simp only [World.size_alloc, World.putObj_size, ne_eq]; omega)) | ((first | refine hAl ?_ ?_ | refine hPu ?_ ?_); focus first | omega | (simp only [World.size_alloc, World.putObj_size, ne_eq]; omega))); exact rfl; conv => enter [6, 3]; whnf) | (apply wr_cmp; (iterate 3 exact rfl); exact cmpF (by dsimp only [cmpN]; first | done | omega)) | (apply wr_pick (t := false); (iterate 2 exact rfl); with_reducible (conv => enter [6, 3]; whnf)) | (apply wc_true; exact rfl) | (apply wc_ret; try simp only [thenE, inBlockE, bodyQ]))
    exact leave1 (v := .slice none 0 0) rfl rfl ⟨own_nil _ _ _ _, h3, hk03.upD⟩
  | true =>
    have hF : fallF T id = fallT T id.toNat := if_pos ⟨hin, hid1, by rw [hup, hu]⟩
    rw [hF]
    have hwff := fallT_wf hwf (i := id.toNat) (by unfold inT at hin; omega)
    have hi3 : id = ((id.toNat : Nat) : Int) := by unfold inT at hin; omega
    have hi03 : w3.heap[xi]? = some (.cells #[.int .i64 ((id.toNat : Nat) : Int)] 3 (0, 0)) := by rw [← hi3]; exact hi3'
    rw [hu] at hc3
    (repeat first | (apply wr_move; exact rfl; with_reducible (conv => enter [6, 3]; whnf)) | (apply wr_assign; exact rfl; with_reducible (conv => enter [6, 3]; whnf)) | apply wr_end | apply wc_seq | apply wc_region | apply wc_skip | (apply wr_fieldAddr; iterate 2 exact rfl) | (apply wr_not; iterate 2 exact rfl) | (apply wr_nilCheck; iterate 2 exact rfl) | (apply wr_load; (iterate 3 exact rfl); (focus repeat first | with_reducible assumption | exact heap_alloc_same _ _ | exact World.putObj_heap_same (by first | omega | (simp only [World.size_alloc, World.putObj_size, ne_eq]; omega)) | ((first | refine hAl ?_ ?_ | refine hPu ?_ ?_); focus first | omega | (simp only [World.size_alloc, World.putObj_size, ne_eq]; omega))); exact rfl; conv => enter [6, 3]; whnf) | (apply wr_cmp; (iterate 3 exact rfl); exact cmpF (by dsimp only [cmpN]; first | done | omega)) | (apply wr_pick (t := false); (iterate 2 exact rfl); with_reducible (conv => enter [6, 3]; whnf)) | (apply wc_false; exact rfl))
    refine wr_makeFunc (v1 := []) (v2 := [.pointer (some ⟨xt, 0, none⟩), .pointer (some ⟨xi, 0, none⟩), .pointer (some ⟨xn, 0, none⟩)]) rfl rfl rfl ?_
    refine wr_call (vs := [.pointer (some ⟨tb, 0, none⟩), .func (.func 27) #[] #[.pointer (some ⟨xt, 0, none⟩), .pointer (some ⟨xi, 0, none⟩), .pointer (some ⟨xn, 0, none⟩)]]) rfl (turned_ca (T' := fallT T id.toNat) _ w3 h3 hwff.2 (fun w' hk h' => callV_of (args := []) (by kernel_rfl) (fallIn_ca xt xi xn (by unfold inT at hin; omega) w' h' hwf hn hx (hk.heap ht3 (fun h => h)) (hk.heap hi03 (fun h => h)) (hk.heap hp3 (fun h => h))))) rfl ?_
    rintro vv w4 ⟨ho4, h4, hk4⟩
    (repeat first | (apply wr_assign; exact rfl; with_reducible (conv => enter [6, 3]; whnf)) | apply wr_end | (apply wc_ret; try simp only [thenE, inBlockE, bodyQ]))
    exact leave1 (v := vv) rfl rfl ⟨own_down ho4 (by have := hk03.size; omega), h4, hk03.upD.trans hk4⟩
/-! ### later -/
def laterN (n : ND) (id : Int) : Bool := decide (0 ≤ idxOf n.cands id) && (decide (n.par = 0) || decide (idxOf n.cands id < idxOf n.cands n.par))
set_option maxRecDepth 100000 in
set_option maxHeartbeats 2000000 in
theorem later_ca {n : ND} {x : NL} (id : Int) (w : World) (hN : NodeAt w n x) (hl : n.cands.length ≤ 1000) :
    Ca Tryd.prog 29 #[.pointer (some ⟨x.blk, 0, none⟩), .int .i64 id] w fun v w' => v = .bool (laterN n id) ∧ Keeps NoB w w' := by
  refine ca_of_body (args := [.pointer (some ⟨x.blk, 0, none⟩), .int .i64 id]) Tryd.func29 rfl (by kernel_rfl) ?_
  have hc0 := hN.cells
  (repeat first | (apply wr_move; exact rfl; with_reducible (conv => enter [6, 3]; whnf)) | (apply wr_assign; exact rfl; with_reducible (conv => enter [6, 3]; whnf)) | apply wr_end | apply wc_seq | apply wc_region | (apply wr_fieldAddr; iterate 2 exact rfl) | (apply wr_nilCheck; iterate 2 exact rfl) | (apply wr_load; (iterate 3 exact rfl); (focus repeat first | with_reducible assumption | exact heap_alloc_same _ _ | exact World.putObj_heap_same (by first | omega | (simp only [World.size_alloc, World.putObj_size, ne_eq]; omega)) | ((first | refine hAl ?_ ?_ | refine hPu ?_ ?_); focus first | omega | (simp only [World.size_alloc, World.putObj_size, ne_eq]; omega))); exact rfl; conv => enter [6, 3]; whnf))
  refine wr_call (vs := [x.cv, .int .i64 id]) rfl (index_ca n.cands id x.cv w hN.cands (by omega)) rfl ?_
  rintro v w1 ⟨rfl, hk1⟩
  have hc := hk1.heap hc0 (fun h => h)
  have hcs := hN.cands.keep hk1 (fun _ _ h => h)
  unfold laterN
  generalize idxOf n.cands id = p
  (repeat first | (apply wr_assign; exact rfl; with_reducible (conv => enter [6, 3]; whnf)) | apply wr_end | apply wc_seq)
  refine wc_drawS (l := _) (S := fun w' => Keeps NoB w1 w') (by kernel_rfl) (by kernel_rfl) ((Keeps.refl NoB w1).drew) ?_
  by_cases h1 : 0 ≤ p
  rotate_left
  · rw [decide_eq_false h1]
    repeat
      apply ch_step
      focus
        intro w' hS
        have hA := hS.heap hc (fun h => h)
        (repeat first | (apply wr_move; exact rfl; with_reducible (conv => enter [6, 3]; whnf)) | (apply wr_assign; exact rfl; with_reducible (conv => enter [6, 3]; whnf)) | (apply wr_cmp; (iterate 3 exact rfl); exact cmpF (by dsimp only [cmpN]; first | done | omega)) | (apply wr_pick (t := false); (iterate 2 exact rfl); with_reducible (conv => enter [6, 3]; whnf)) | (apply wr_nil; try simp only [thenE, inBlockE, bodyQ]) | (apply wr_skip; exact rfl))
        exact ⟨rfl, hS⟩
    refine ch_nil ?_
    intro w' hS
    (repeat first | (apply wc_ret; try simp only [thenE, inBlockE, bodyQ]))
    exact leave1 (v := .bool false) rfl rfl ⟨rfl, hk1.trans hS⟩
  rw [decide_eq_true h1]
  by_cases h2 : n.par = 0
  · rw [decide_eq_true h2]
    repeat
      apply ch_step
      focus
        intro w' hS
        have hA := hS.heap hc (fun h => h)
        (repeat first | (apply wr_move; exact rfl; with_reducible (conv => enter [6, 3]; whnf)) | (apply wr_assign; exact rfl; with_reducible (conv => enter [6, 3]; whnf)) | (apply wr_fieldAddr; iterate 2 exact rfl) | (apply wr_nilCheck; iterate 2 exact rfl) | (apply wr_load; (iterate 3 exact rfl); (focus repeat first | with_reducible assumption | exact heap_alloc_same _ _ | exact World.putObj_heap_same (by first | omega | (simp only [World.size_alloc, World.putObj_size, ne_eq]; omega)) | ((first | refine hAl ?_ ?_ | refine hPu ?_ ?_); focus first | omega | (simp only [World.size_alloc, World.putObj_size, ne_eq]; omega))); exact rfl; conv => enter [6, 3]; whnf) | (apply wr_cmp; (iterate 3 exact rfl); exact cmpT (by dsimp only [cmpP]; first | done | omega)) | (apply wr_pick (t := true); (iterate 2 exact rfl); with_reducible (conv => enter [6, 3]; whnf)) | (apply wr_nil; try simp only [thenE, inBlockE, bodyQ]) | (apply wr_skip; exact rfl))
        exact ⟨rfl, hS⟩
    refine ch_nil ?_
    intro w' hS
    (repeat first | (apply wc_ret; try simp only [thenE, inBlockE, bodyQ]))
    exact leave1 (v := .bool true) rfl rfl ⟨rfl, hk1.trans hS⟩
  rw [decide_eq_false h2]
  repeat
    apply ch_step
    focus
      intro w' hS
      have hA := hS.heap hc (fun h => h)
      (repeat first | (apply wr_move; exact rfl; with_reducible (conv => enter [6, 3]; whnf)) | (apply wr_fieldAddr; iterate 2 exact rfl) | (apply wr_nilCheck; iterate 2 exact rfl) | (apply wr_load; (iterate 3 exact rfl); (focus repeat first | with_reducible assumption | exact heap_alloc_same _ _ | exact World.putObj_heap_same (by first | omega | (simp only [World.size_alloc, World.putObj_size, ne_eq]; omega)) | ((first | refine hAl ?_ ?_ | refine hPu ?_ ?_); focus first | omega | (simp only [World.size_alloc, World.putObj_size, ne_eq]; omega))); exact rfl; conv => enter [6, 3]; whnf) | (apply wr_cmp; (iterate 3 exact rfl); exact cmpT (by dsimp only [cmpP]; first | done | omega)) | (apply wr_cmp; (iterate 3 exact rfl); exact cmpF (by dsimp only [cmpN]; first | done | omega)) | (apply wr_nil; try simp only [thenE, inBlockE, bodyQ]))
      exact ⟨rfl, hS⟩
  apply ch_step
  focus
    intro w' hS
    refine wr_call (vs := [x.cv, .int .i64 n.par]) rfl (index_ca n.cands n.par x.cv w' (hcs.keep hS (fun _ _ h => h)) (by omega)) rfl ?_
    rintro v w4 ⟨rfl, hk⟩
    apply wr_nil
    exact ⟨rfl, hS.trans hk⟩
  generalize idxOf n.cands n.par = q
  by_cases h3 : p < q
  · rw [decide_eq_true h3]
    repeat
      apply ch_step
      focus
        intro w' hS
        have hA := hS.heap hc (fun h => h)
        (repeat first | (apply wr_move; exact rfl; with_reducible (conv => enter [6, 3]; whnf)) | (apply wr_assign; exact rfl; with_reducible (conv => enter [6, 3]; whnf)) | (apply wr_cmp; (iterate 3 exact rfl); exact cmpT (by dsimp only [cmpP]; first | done | omega)) | (apply wr_pick (t := true); (iterate 2 exact rfl); with_reducible (conv => enter [6, 3]; whnf)) | (apply wr_pick (t := false); (iterate 2 exact rfl); with_reducible (conv => enter [6, 3]; whnf)) | (apply wr_nil; try simp only [thenE, inBlockE, bodyQ]))
        exact ⟨rfl, hS⟩
    refine ch_nil ?_
    intro w' hS
    (repeat first | (apply wc_ret; try simp only [thenE, inBlockE, bodyQ]))
    exact leave1 (v := .bool true) rfl rfl ⟨rfl, hk1.trans hS⟩
  · rw [decide_eq_false h3]
    repeat
      apply ch_step
      focus
        intro w' hS
        have hA := hS.heap hc (fun h => h)
        (repeat first | (apply wr_move; exact rfl; with_reducible (conv => enter [6, 3]; whnf)) | (apply wr_assign; exact rfl; with_reducible (conv => enter [6, 3]; whnf)) | (apply wr_cmp; (iterate 3 exact rfl); exact cmpF (by dsimp only [cmpN]; first | done | omega)) | (apply wr_pick (t := true); (iterate 2 exact rfl); with_reducible (conv => enter [6, 3]; whnf)) | (apply wr_pick (t := false); (iterate 2 exact rfl); with_reducible (conv => enter [6, 3]; whnf)) | (apply wr_nil; try simp only [thenE, inBlockE, bodyQ]))
        exact ⟨rfl, hS⟩
    refine ch_nil ?_
    intro w' hS
    (repeat first | (apply wc_ret; try simp only [thenE, inBlockE, bodyQ]))
    exact leave1 (v := .bool false) rfl rfl ⟨rfl, hk1.trans hS⟩
end Go.Proofs.YthjpgkefifkhjaaDoor
