/- Rise; Path. -/
import Derived.Test.YthjpgkefifkhjaaDoorTj
namespace Go.Proofs.YthjpgkefifkhjaaDoor
open Go Go.V Go.RowKit
set_option linter.unusedVariables false
set_option linter.unusedSimpArgs false

set_option maxRecDepth 100000 in
set_option maxHeartbeats 2000000 in
theorem rise_ca {tb lb cap : Nat} {T : List ND} {X : List NL} (id : Int) (w : World) (h : TreeAt w tb lb cap T X) (hwf : WFT T X) :
    Ca Tryd.prog 16 #[.pointer (some ⟨tb, 0, none⟩), .int .i64 id] w fun v w' => w'.ownsRow w.heap.size 3 1 v (turnN T (riseF T id) T.length).length (IN (turnN T (riseF T id) T.length)) ∧ TreeAt w' tb lb cap (riseF T id) X ∧ Keeps (TD X) w w' := by
  have hno : ¬ (inT T id ∧ upT T id = false) → riseF T id = T ∧ turnN T (riseF T id) T.length = [] := fun hh => by
    have : riseF T id = T := if_neg hh
    exact ⟨this, by rw [this]; exact turnN_same _ _⟩
  refine ca_of_body (args := [.pointer (some ⟨tb, 0, none⟩), .int .i64 id]) Tryd.func16 rfl (by kernel_rfl) ?_
  apply wc_seq
  apply wc_region
  refine wr_box (v := .pointer (some ⟨tb, 0, none⟩)) rfl rfl ?_
  refine wr_box (v := .int .i64 id) rfl rfl ?_
  obtain ⟨w1, hw1⟩ : ∃ w1, w1 = (w.alloc (.cells (Value.pointer (some ⟨tb, 0, none⟩)).cells 27)).alloc (.cells (Value.int .i64 id).cells 3) := ⟨_, rfl⟩
  have hk1 : Keeps NoB w w1 := by rw [hw1]; exact ((Keeps.refl NoB w).alloc _).alloc _
  obtain ⟨xi, hxi⟩ : ∃ xi, xi = (w.alloc (.cells (Value.pointer (some ⟨tb, 0, none⟩)).cells 27)).heap.size := ⟨_, rfl⟩
  have hi1 : w1.heap[xi]? = some (.cells #[.int .i64 id] 3 (0, 0)) := by rw [hw1, hxi]; exact heap_alloc_same _ _
  obtain ⟨xt, hxt⟩ : ∃ xt, xt = w.heap.size := ⟨_, rfl⟩
  have ht1 : w1.heap[xt]? = some (.cells #[.pointer (some ⟨tb, 0, none⟩)] 27 (0, 0)) := by
    rw [hw1, hxt, heap_alloc_ne _ _ (by simp only [World.size_alloc]; omega)]; exact heap_alloc_same _ _
  rw [← hw1, ← hxi, ← hxt]
  clear hw1 hxi
  have h1 := h.kin hk1
  (repeat first | (apply wr_assign; exact rfl; with_reducible (conv => enter [6, 3]; whnf)) | apply wr_end | apply wc_seq | apply wc_region | (apply wr_load; (iterate 3 exact rfl); (focus repeat first | with_reducible assumption | exact heap_alloc_same _ _ | exact World.putObj_heap_same (by first | omega | (simp only [World.size_alloc, World.putObj_size, ne_eq]; omega)) | ((first | refine hAl ?_ ?_ | refine hPu ?_ ?_); focus first | omega | (simp only [World.size_alloc, World.putObj_size, ne_eq]; omega))); exact rfl; conv => enter [6, 3]; whnf))
  refine wr_call (vs := [.pointer (some ⟨tb, 0, none⟩), .int .i64 id]) rfl (find_ca id w1 h1) rfl ?_
  rintro v w2 ⟨rfl, hfind⟩
  rcases hfind with ⟨hin, x, hx, rfl⟩ | ⟨hin, rfl⟩
  rotate_left
  · obtain ⟨e1, e2⟩ := hno (fun hh => hin hh.1)
    rw [e2, e1]
    (repeat first | (apply wr_move; exact rfl; with_reducible (conv => enter [6, 3]; whnf)) | (apply wr_assign; exact rfl; with_reducible (conv => enter [6, 3]; whnf)) | apply wr_end | apply wc_seq | apply wc_region | (apply wr_not; iterate 2 exact rfl) | (apply wr_pick (t := true); (iterate 2 exact rfl); with_reducible (conv => enter [6, 3]; whnf)) | (apply wr_alloc; exact rfl) | (apply wr_extract; (iterate 3 exact rfl); with_reducible (conv => enter [6, 3]; whnf)) | (apply wr_store; (iterate 3 exact rfl); (first | exact rfl | with_reducible assumption); (focus repeat first | with_reducible assumption | exact heap_alloc_same _ _ | exact World.putObj_heap_same (by first | omega | (simp only [World.size_alloc, World.putObj_size, ne_eq]; omega)) | ((first | refine hAl ?_ ?_ | refine hPu ?_ ?_); focus first | omega | (simp only [World.size_alloc, World.putObj_size, ne_eq]; omega))); exact rfl) | (apply wc_true; exact rfl) | (apply wc_ret; try simp only [thenE, inBlockE, bodyQ]) | (apply wr_skip; exact rfl))
    exact leave1 (v := .slice none 0 0) rfl rfl ⟨own_nil _ _ _ _, h1.kin (by first | exact Keeps.refl _ _ | (exact ((Keeps.refl NoB _).alloc _).put _ (fun h => by omega))), by first | exact hk1.upD | exact (((hk1.alloc _).put _ (fun h => by have := hk1.size; omega))).upD⟩
  obtain ⟨n, hn, hN⟩ := h1.at hx
  have hc1 := hN.cells
  have hnT : ndAt T id = n := ndAt_of hn
  have hxm := List.mem_of_getElem? hx
  have hup : upT T id = n.up := by unfold upT; rw [if_pos hin, hnT]
  refine wr_move rfl ?_
  refine wr_extract rfl rfl rfl ?_
  refine wr_extract rfl rfl rfl ?_
  refine wr_alloc rfl ?_
  refine wr_store (v := .pointer (some ⟨x.blk, 0, none⟩)) rfl rfl rfl rfl (heap_alloc_same _ _) rfl ?_
  obtain ⟨w3, hw3⟩ : ∃ w3, w3 = (w2.alloc (.cells (Value.pointer none).cells 53)).putObj w2.heap.size (.cells ((Value.pointer none).cells.setIfInBounds 0 (.pointer (some ⟨x.blk, 0, none⟩))) 53 (0, 0)) := ⟨_, rfl⟩
  have hk3 : Keeps NoB w2 w3 := by rw [hw3]; exact ((Keeps.refl NoB w2).alloc _).put _ (fun h => by omega)
  have hp3' : w3.heap[w2.heap.size]? = some (.cells #[.pointer (some ⟨x.blk, 0, none⟩)] 53 (0, 0)) := by rw [hw3]; exact World.putObj_heap_same (by simp)
  rw [← hw3]
  clear hw3
  obtain ⟨xn, hxn⟩ : ∃ xn, xn = w2.heap.size := ⟨_, rfl⟩
  rw [← hxn] at hp3' ⊢
  have hp3 := hp3'
  have h3 := h1.kin hk3
  have hk03 := hk1.trans hk3
  have ht3 := hk3.heap ht1 (fun h => h)
  have hi3' := hk3.heap hi1 (fun h => h)
  have hc3 : w3.heap[x.blk]? = some (.cells #[.int .i64 n.depth, x.cv, .bool n.up, .int .i64 n.par, .map x.db] 56 (0, 0)) := hk3.heap hc1 (fun h => h)
  cases hu : n.up with
  | true =>
    obtain ⟨e1, e2⟩ := hno (fun hh => by have := hh.2; rw [hup, hu] at this; cases this)
    rw [e2, e1]
    rw [hu] at hc3
    (repeat first | (apply wr_move; exact rfl; with_reducible (conv => enter [6, 3]; whnf)) | (apply wr_assign; exact rfl; with_reducible (conv => enter [6, 3]; whnf)) | apply wr_end | apply wc_seq | apply wc_region | (apply wr_fieldAddr; iterate 2 exact rfl) | (apply wr_not; iterate 2 exact rfl) | (apply wr_nilCheck; iterate 2 exact rfl) | (apply wr_load; (iterate 3 exact rfl); (focus repeat first | with_reducible assumption | exact heap_alloc_same _ _ | exact World.putObj_heap_same (by first | omega | (simp only [World.size_alloc, World.putObj_size, ne_eq]; omega)) | ((first | refine hAl ?_ ?_ | refine hPu ?_ ?_); focus first | omega | (simp only [World.size_alloc, World.putObj_size, ne_eq]; omega))); exact rfl; conv => enter [6, 3]; whnf) | (apply wr_pick (t := false); (iterate 2 exact rfl); with_reducible (conv => enter [6, 3]; whnf)) | (apply wc_true; exact rfl) | (apply wc_ret; try simp only [thenE, inBlockE, bodyQ]))
    exact leave1 (v := .slice none 0 0) rfl rfl ⟨own_nil _ _ _ _, h3, hk03.upD⟩
  | false =>
    have hF : riseF T id = riseT T id.toNat := if_pos ⟨hin, by rw [hup, hu]⟩
    rw [hF]
    have hwff := riseT_wf hwf (i := id.toNat) (by unfold inT at hin; omega)
    have hi3 : id = ((id.toNat : Nat) : Int) := by unfold inT at hin; omega
    have hi03 : w3.heap[xi]? = some (.cells #[.int .i64 ((id.toNat : Nat) : Int)] 3 (0, 0)) := by rw [← hi3]; exact hi3'
    rw [hu] at hc3
    (repeat first | (apply wr_move; exact rfl; with_reducible (conv => enter [6, 3]; whnf)) | (apply wr_assign; exact rfl; with_reducible (conv => enter [6, 3]; whnf)) | apply wr_end | apply wc_seq | apply wc_region | apply wc_skip | (apply wr_fieldAddr; iterate 2 exact rfl) | (apply wr_not; iterate 2 exact rfl) | (apply wr_nilCheck; iterate 2 exact rfl) | (apply wr_load; (iterate 3 exact rfl); (focus repeat first | with_reducible assumption | exact heap_alloc_same _ _ | exact World.putObj_heap_same (by first | omega | (simp only [World.size_alloc, World.putObj_size, ne_eq]; omega)) | ((first | refine hAl ?_ ?_ | refine hPu ?_ ?_); focus first | omega | (simp only [World.size_alloc, World.putObj_size, ne_eq]; omega))); exact rfl; conv => enter [6, 3]; whnf) | (apply wr_pick (t := false); (iterate 2 exact rfl); with_reducible (conv => enter [6, 3]; whnf)) | (apply wc_false; exact rfl))
    refine wr_makeFunc (v1 := []) (v2 := [.pointer (some ⟨xn, 0, none⟩), .pointer (some ⟨xt, 0, none⟩), .pointer (some ⟨xi, 0, none⟩)]) rfl rfl rfl ?_
    refine wr_call (vs := [.pointer (some ⟨tb, 0, none⟩), .func (.func 28) #[] #[.pointer (some ⟨xn, 0, none⟩), .pointer (some ⟨xt, 0, none⟩), .pointer (some ⟨xi, 0, none⟩)]]) rfl (turned_ca (T' := riseT T id.toNat) _ w3 h3 hwff.2 (fun w' hk h' => callV_of (args := []) (by kernel_rfl) (riseIn_ca xt xi xn w' h' hwf hn hx (hk.heap ht3 (fun h => h)) (hk.heap hi03 (fun h => h)) (hk.heap hp3 (fun h => h))))) rfl ?_
    rintro vv w4 ⟨ho4, h4, hk4⟩
    (repeat first | (apply wr_assign; exact rfl; with_reducible (conv => enter [6, 3]; whnf)) | apply wr_end | (apply wc_ret; try simp only [thenE, inBlockE, bodyQ]))
    exact leave1 (v := vv) rfl rfl ⟨own_down ho4 (by have := hk03.size; omega), h4, hk03.upD.trans hk4⟩
/-- The way up, of at most so many steps. -/
def pathL (T : List ND) : Nat → Int → List Int × Bool
  | 0, _ => ([], false)
  | f + 1, id => if upT T id = true then (if id = 1 then ([1], true) else (id :: (pathL T f (parT T id)).1, (pathL T f (parT T id)).2)) else ([], false)
theorem pathL_len (T : List ND) : ∀ (f : Nat) (id : Int), (pathL T f id).1.length ≤ f
  | 0, _ => Nat.le_refl _
  | f + 1, id => by
    have := pathL_len T f (parT T id)
    unfold pathL
    split
    · split
      · simp
      · simp; omega
    · simp
set_option maxRecDepth 100000 in
set_option maxHeartbeats 2000000 in
theorem path_ca {tb lb cap : Nat} {T : List ND} {X : List NL} (id : Int) (μ : Int → Nat) (hμ : ∀ id, upT T id = true → id ≠ 1 → μ (parT T id) < μ id) (hb : μ id ≤ 1000000) (w : World) (h : TreeAt w tb lb cap T X) :
    Ca Tryd.prog 20 #[.pointer (some ⟨tb, 0, none⟩), .int .i64 id] w fun v w' => ∃ sl, v = .tuple #[sl, .bool (pathL T (μ id + 1) id).2] ∧ w'.ownsRow w.heap.size 3 1 sl (pathL T (μ id + 1) id).1.length (IL (pathL T (μ id + 1) id).1) ∧ Keeps NoB w w' := by
  refine ca_of_body (args := [.pointer (some ⟨tb, 0, none⟩), .int .i64 id]) Tryd.func20 rfl (by kernel_rfl) ?_
  have hpl := pathL_len T (μ id + 1) id
  obtain ⟨R, hR⟩ : ∃ R, R = pathL T (μ id + 1) id := ⟨_, rfl⟩
  rw [← hR] at hpl ⊢
  (repeat first | (apply wr_assign; exact rfl; with_reducible (conv => enter [6, 3]; whnf)) | apply wr_end | apply wc_seq | apply wc_region | apply wc_block)
  refine wc_loopL (α := Nat × Int × List Int × Value) (fun x => [(0, .pointer (some ⟨tb, 0, none⟩)), (1, .int .i64 x.2.1), (6, x.2.2.2)])
    (fun x ds w' => ds = [] ∧ w'.ownsRow w.heap.size 3 1 x.2.2.2 x.2.2.1.length (IL x.2.2.1) ∧ Keeps NoB w w' ∧ μ x.2.1 < x.1 ∧ R = (x.2.2.1 ++ (pathL T x.1 x.2.1).1, (pathL T x.1 x.2.1).2)) (fun x => x.1) (μ id + 1, id, [], .slice none 0 0) ⟨rfl, own_nil _ _ _ _, Keeps.refl _ _, Nat.lt_succ_self _, hR⟩ ⟨rfl, rfl, rfl, trivial⟩ ?_
  rintro ⟨n, j, acc, v⟩ ds f0 w2 ⟨rfl, ho2, hk2, hμn, hRn⟩
  dsimp only at ho2 hμn hRn ⊢
  have h2 := h.kin hk2
  have hacc : acc.length ≤ 1000001 := by
    have : R.1.length = acc.length + (pathL T n j).1.length := by rw [hRn]; simp
    omega
  (repeat first | (apply wr_move; exact rfl; with_reducible (conv => enter [6, 3]; whnf)) | apply wc_seq | apply wc_region)
  refine wr_call (vs := [.pointer (some ⟨tb, 0, none⟩), .int .i64 j]) rfl (up_ca j w2 h2) rfl ?_
  rintro vv w3 ⟨rfl, rfl⟩
  obtain ⟨m, rfl⟩ : ∃ m, n = m + 1 := ⟨n - 1, by omega⟩
  cases hu : upT T j with
  | false =>
    have e : pathL T (m + 1) j = ([], false) := by unfold pathL; rw [if_neg (by rw [hu]; simp)]
    rw [e, List.append_nil] at hRn
    rw [hRn]
    (repeat first | (apply wr_move; exact rfl; with_reducible (conv => enter [6, 3]; whnf)) | (apply wr_assign; exact rfl; with_reducible (conv => enter [6, 3]; whnf)) | apply wr_end | apply wc_seq | apply wc_region | (apply wc_false; exact rfl) | (apply wc_exit; try simp only [thenE, inBlockE, bodyQ, ↓reduceIte, Nat.reduceEqDiff]) | (apply wc_ret; try simp only [thenE, inBlockE, bodyQ]))
    exact leave2 (v1 := v) (v2 := .bool false) rfl rfl rfl ⟨v, rfl, ho2, hk2⟩
  | true =>
    (repeat first | (apply wr_move; exact rfl; with_reducible (conv => enter [6, 3]; whnf)) | apply wr_end | apply wc_seq | apply wc_region | apply wc_skip | apply wc_block | (apply wc_true; exact rfl))
    refine wr_buildSlice (vs := [.int .i64 j]) rfl rfl (by intro v hv; simp at hv; subst hv; rfl) rfl (by decide) (by decide) (by decide) ?_
    refine wr_append (v := v) (n := acc.length) (m := 1) (news := [.int .i64 j]) rfl rfl (ho2.alloc _) rfl (heap_alloc_same _ _) rfl (by intro u hu; simp at hu; subst hu; rfl) rfl (by decide) (by omega) (by omega) (by have := hk2.size; simp only [World.size_alloc]; omega) ?_
    intro v2 w4 ho4 hk4 _
    have hkw4 : Keeps NoB w w4 := Keeps.trans' (hk2.alloc _) hk4 (fun b hb e => by have := own_ge ho2 e; omega)
    have ho4' : w4.ownsRow w.heap.size 3 1 v2 (acc ++ [j]).length (IL (acc ++ [j])) := by rw [List.length_append]; simpa [IL] using ho4
    by_cases h1 : j = 1
    · subst h1
      have e : pathL T (m + 1) 1 = ([1], true) := by unfold pathL; rw [if_pos hu, if_pos rfl]
      rw [e] at hRn
      rw [hRn]
      (repeat first | (apply wr_move; exact rfl; with_reducible (conv => enter [6, 3]; whnf)) | (apply wr_assign; exact rfl; with_reducible (conv => enter [6, 3]; whnf)) | apply wr_end | apply wc_seq | apply wc_region | (apply wr_cmp; (iterate 3 exact rfl); exact cmpT (by dsimp only [cmpP]; first | done | omega)) | (apply wc_true; exact rfl) | (apply wc_ret; try simp only [thenE, inBlockE, bodyQ]))
      exact leave2 (v1 := v2) (v2 := .bool true) rfl rfl rfl ⟨v2, rfl, ho4', hkw4⟩
    · have e : pathL T (m + 1) j = (j :: (pathL T m (parT T j)).1, (pathL T m (parT T j)).2) := by
        show (if upT T j = true then _ else _) = _
        rw [if_pos hu, if_neg h1]
      rw [e] at hRn
      (repeat first | (apply wr_move; exact rfl; with_reducible (conv => enter [6, 3]; whnf)) | (apply wr_assign; exact rfl; with_reducible (conv => enter [6, 3]; whnf)) | apply wr_end | apply wc_seq | apply wc_region | apply wc_skip | (apply wr_cmp; (iterate 3 exact rfl); exact cmpF (by dsimp only [cmpN]; first | done | omega)) | (apply wc_false; exact rfl))
      refine wr_call (vs := [.pointer (some ⟨tb, 0, none⟩), .int .i64 j]) rfl (parent_ca j w4 (h.kin hkw4)) rfl ?_
      rintro vv w5 ⟨rfl, rfl⟩
      have hlt := hμ j hu h1
      (repeat first | (apply wr_assign; exact rfl; with_reducible (conv => enter [6, 3]; whnf)) | (apply wr_nil; try simp only [thenE, inBlockE, bodyQ]))
      exact ⟨(m, parT T j, acc ++ [j], v2), by dsimp only; omega, ⟨by trivial, ho4', hkw4, by dsimp only; omega, by dsimp only; rw [hRn]; simp⟩, rfl, rfl, rfl, trivial⟩
end Go.Proofs.YthjpgkefifkhjaaDoor
