/- slices.Contains of keys; payload.Refs: what they do. -/
import Derived.Test.YthlbgeonobicbaaDoorYk
namespace Go.Proofs.YthlbgeonobicbaaDoor
open Go Go.V Go.RowKit
set_option linter.unusedVariables false
set_option linter.unusedSimpArgs false

abbrev KeyD := Int × List UInt8
def GK (k : KeyD) : List Value := [.int .i64 k.1, S k.2]
theorem GK_len (k : KeyD) : (GK k).length = 2 := rfl
theorem key_stood : Tryd.prog.stoodInHeld 49 = false := by kernel_rfl
theorem key_guard : Tryd.prog.eqGuardType Tryd.prog.depth 49 = false := by kernel_rfl
theorem key_eqOk (x y : KeyD) (w : World) : EqOk Tryd.prog w 9999 #[.int .i64 x.1, S x.2] #[.int .i64 y.1, S y.2]
    [⟨"Type", 3, 0, false, "", "", 0⟩, ⟨"Name", 9, 1, false, "", "", 8⟩] [decide (x.1 = y.1), decide (x.2 = y.2)] :=
  ⟨⟨by decide, _, _, run_part1 Tryd.underlying3 rfl rfl, run_part1 Tryd.underlying3 rfl rfl, equalIn_int 9998 inferInstance _ _ _⟩,
   ⟨by decide, _, _, run_part1 Tryd.underlying9 rfl rfl, run_part1 Tryd.underlying9 rfl rfl, equalIn_str 9998 inferInstance _ _ _⟩, trivial⟩
set_option maxRecDepth 100000 in
set_option maxHeartbeats 1000000 in
theorem keyIndex_ca (l : List KeyD) (k : KeyD) (sl : Value) (w : World) (hsl : SlR w 2 sl l.length (l.flatMap GK)) (hlen : l.length ≤ 1000000000000) :
    Ca Tryd.prog 60 #[sl, .agg #[.int .i64 k.1, S k.2]] w fun v w' => (∃ z : Int, v = .int .i64 z ∧ -1 ≤ z ∧ z ≤ 1000000000000 ∧ (0 ≤ z ↔ k ∈ l)) ∧ Keeps NoB w w' := by
  obtain ⟨a, c, rfl, hc, hat⟩ := hsl.shape
  obtain ⟨k1, k2⟩ := k
  refine ca_of_body (args := [.slice a l.length c, .agg #[.int .i64 k1, S k2]]) Tryd.func60 rfl (by kernel_rfl) ?_
  have hcells : (Value.agg #[.int .i64 k1, S k2]).cells = #[.int .i64 k1, S k2] := rfl
  (repeat first | (apply wr_move; exact rfl; with_reducible (conv => enter [6, 3]; whnf)) | (apply wr_assign; exact rfl; with_reducible (conv => enter [6, 3]; whnf)) | apply wr_end | apply wc_seq | apply wc_region | apply wc_block | (apply wr_len_slice; iterate 2 exact rfl) | (apply wr_box; iterate 2 exact rfl))
  refine wc_loopL (α := Nat) (fun i => [(0, .slice a l.length c), (3, .pointer (some ⟨w.heap.size, 0, none⟩)), (7, .int .i64 (l.length : Int)), (8, .int .i64 (i : Int))])
    (fun i ds w' => ds = [] ∧ i ≤ l.length ∧ (k1, k2) ∉ l.take i ∧ w'.heap[w.heap.size]? = some (.cells #[.int .i64 k1, S k2] 49 (0, 0)) ∧ Keeps NoB w w') (fun i => l.length - i) 0 ⟨rfl, Nat.zero_le _, by simp, heap_alloc_same _ _, (Keeps.refl NoB w).alloc _⟩ ⟨rfl, rfl, rfl, rfl, trivial⟩ ?_
  rintro i ds f0 w2 ⟨rfl, hi, hni, hb2, hk2⟩
  by_cases hlt : i < l.length
  · obtain ⟨b, o, rfl, cur, e, fr, hb, hr⟩ := hat (by omega)
    have hbb2 := hk2.heap hb (fun h => h)
    obtain ⟨x, hx⟩ : ∃ x, l[i]? = some x := ⟨l[i], by simp [hlt]⟩
    obtain ⟨x1, x2⟩ := x
    obtain ⟨cc, hcc⟩ : ∃ cc : Bool, cc = decide ((k1, k2) = (x1, x2)) := ⟨_, rfl⟩
    (repeat first | (apply wr_move; exact rfl; with_reducible (conv => enter [6, 3]; whnf)) | (apply wr_assign; exact rfl; with_reducible (conv => enter [6, 3]; whnf)) | apply wr_end | apply wc_seq | apply wc_region | apply wc_skip | apply wc_block | (apply wr_cmp; (iterate 3 exact rfl); exact cmpT (by dsimp only [cmpP]; first | done | omega)) | (apply wc_true; exact rfl))
    refine wc_drawS (l := _) (S := fun w' => w' = w2.drew) (by kernel_rfl) (by kernel_rfl) rfl ?_
    apply ch_step
    focus
      intro w' hS
      subst hS
      refine wr_loadAll (cs := [.int .i64 k1, S k2]) rfl rfl rfl hb2 rfl ?_
      apply wr_nil
      exact ⟨rfl, rfl⟩
    apply ch_step
    focus
      intro w' hS
      subst hS
      apply wr_move; exact rfl; with_reducible (conv => enter [6, 3]; whnf)
      apply wr_nil
      exact ⟨rfl, rfl⟩
    apply ch_step
    focus
      intro w' hS
      subst hS
      apply wr_move; exact rfl; with_reducible (conv => enter [6, 3]; whnf)
      apply wr_nil
      exact ⟨rfl, rfl⟩
    apply ch_step
    focus
      intro w' hS
      subst hS
      refine wr_indexAddr (i := i) rfl rfl rfl hlt ?_
      apply wr_nil
      exact ⟨rfl, rfl⟩
    apply ch_step
    focus
      intro w' hS
      subst hS
      refine wr_loadElem (G := GK) (n := l.length) rfl rfl GK_len rfl hbb2 hr hlt hx rfl ?_
      apply wr_nil
      exact ⟨rfl, rfl⟩
    apply ch_step
    focus
      intro w' hS
      subst hS
      refine wr_structEq (c := cc) rfl rfl rfl key_stood key_guard (key_eqOk (k1, k2) (x1, x2) _) (by rw [hcc]; simp [List.all_cons, Prod.mk.injEq, Bool.decide_and]) ?_
      apply wr_nil
      exact ⟨rfl, rfl⟩
    refine ch_nil ?_
    intro w' hS
    subst hS
    by_cases he : (k1, k2) = (x1, x2)
    · rw [decide_eq_true he] at hcc
      subst hcc
      (repeat first | (apply wr_move; exact rfl; with_reducible (conv => enter [6, 3]; whnf)) | (apply wr_assign; exact rfl; with_reducible (conv => enter [6, 3]; whnf)) | apply wr_end | apply wc_seq | apply wc_region | (apply wc_true; exact rfl) | (apply wc_ret; try simp only [thenE, inBlockE, bodyQ]))
      refine leave1 (v := .int .i64 (i : Int)) rfl rfl ⟨⟨(i : Int), rfl, by omega, by omega, fun _ => by rw [he]; exact List.mem_of_getElem? hx, fun _ => by omega⟩, hk2.drew⟩
    · rw [decide_eq_false he] at hcc
      subst hcc
      (repeat first | (apply wr_move; exact rfl; with_reducible (conv => enter [6, 3]; whnf)) | apply wr_end | apply wc_region | apply wc_skip | (apply wr_add; (iterate 3 exact rfl); exact w_fit (by dsimp only [kIn]; first | done | omega)) | (apply wc_false; exact rfl))
      refine ⟨i + 1, by omega, ⟨by trivial, hlt, ?_, hb2, hk2.drew⟩, rfl, rfl, rfl, by simp, trivial⟩
      rw [List.take_add_one, hx]
      simp only [Option.toList_some, List.mem_append, List.mem_singleton, not_or]
      exact ⟨hni, he⟩
  · have he : i = l.length := by omega
    subst he
    rw [List.take_length] at hni
    (repeat first | (apply wr_assign; exact rfl; with_reducible (conv => enter [6, 3]; whnf)) | apply wr_end | apply wc_seq | apply wc_region | (apply wr_cmp; (iterate 3 exact rfl); exact cmpF (by dsimp only [cmpN]; first | done | omega)) | (apply wc_false; exact rfl) | (apply wc_exit; try simp only [thenE, inBlockE, bodyQ, ↓reduceIte, Nat.reduceEqDiff]) | (apply wc_ret; try simp only [thenE, inBlockE, bodyQ]))
    exact leave1 (v := .int .i64 (-1)) rfl rfl ⟨⟨-1, rfl, by omega, by omega, fun h => by omega, fun h => absurd h hni⟩, hk2⟩
set_option maxRecDepth 100000 in
theorem keyIn_ca (l : List KeyD) (k : KeyD) (sl : Value) (w : World) (hsl : SlR w 2 sl l.length (l.flatMap GK)) (hlen : l.length ≤ 1000000000000) :
    Ca Tryd.prog 41 #[sl, .agg #[.int .i64 k.1, S k.2]] w fun v w' => v = .bool (decide (k ∈ l)) ∧ Keeps NoB w w' := by
  obtain ⟨k1, k2⟩ := k
  refine ca_of_body (args := [sl, .agg #[.int .i64 k1, S k2]]) Tryd.func41 rfl (by kernel_rfl) ?_
  have hk1 : Keeps NoB w (w.alloc (.cells (Value.agg #[.int .i64 k1, S k2]).cells 49)) := (Keeps.refl NoB w).alloc _
  (repeat first | (apply wr_move; exact rfl; with_reducible (conv => enter [6, 3]; whnf)) | (apply wr_assign; exact rfl; with_reducible (conv => enter [6, 3]; whnf)) | apply wr_end | apply wc_seq | apply wc_region | (apply wr_box; iterate 2 exact rfl))
  refine wr_loadAll (cs := [.int .i64 k1, S k2]) rfl rfl rfl (heap_alloc_same _ _) rfl ?_
  refine wr_call (vs := [sl, .agg #[.int .i64 k1, S k2]]) rfl (keyIndex_ca l (k1, k2) sl _ (hsl.keep hk1 (fun _ _ h => h)) hlen) rfl ?_
  rintro v w2 ⟨⟨z, rfl, hz1, hz2, hz⟩, hk2⟩
  by_cases hm : (k1, k2) ∈ l
  · have hz0 := hz.2 hm
    (repeat first | (apply wr_assign; exact rfl; with_reducible (conv => enter [6, 3]; whnf)) | apply wr_end | (apply wr_cmp; (iterate 3 exact rfl); exact cmpT (by dsimp only [cmpP]; first | done | omega)) | (apply wc_ret; try simp only [thenE, inBlockE, bodyQ]))
    exact leave1 (v := .bool true) rfl rfl ⟨by rw [decide_eq_true hm], hk1.trans hk2⟩
  · have hz0 : z < 0 := by
      rcases Int.lt_or_le z 0 with h | h
      · exact h
      · exact absurd (hz.1 h) hm
    (repeat first | (apply wr_assign; exact rfl; with_reducible (conv => enter [6, 3]; whnf)) | apply wr_end | (apply wr_cmp; (iterate 3 exact rfl); exact cmpF (by dsimp only [cmpN]; first | done | omega)) | (apply wc_ret; try simp only [thenE, inBlockE, bodyQ]))
    exact leave1 (v := .bool false) rfl rfl ⟨by rw [decide_eq_false hm], hk1.trans hk2⟩
def refsAdd (l : List KeyD) (k : KeyD) : List KeyD := if k.2 ≠ [] ∧ k ∉ l then l ++ [k] else l
theorem refsAdd_len (l : List KeyD) (k : KeyD) : (refsAdd l k).length ≤ l.length + 1 := by
  unfold refsAdd; split <;> simp
/-- The variable that gathers keys. -/
def RS (ob : Nat) (l : List KeyD) (w : World) : Prop := ∃ ov, w.heap[ob]? = some (.cells #[ov] 46 (0, 0)) ∧ w.ownsRow (ob + 1) 49 2 ov l.length (l.flatMap GK)
theorem RS.kin {ob : Nat} {l : List KeyD} {w w' : World} (h : RS ob l w) (k : Keeps NoB w w') : RS ob l w' := by
  obtain ⟨ov, h1, h2⟩ := h
  exact ⟨ov, k.heap h1 (fun h => h), own_keep h2 k (fun _ _ h => h)⟩
set_option maxRecDepth 100000 in
set_option maxHeartbeats 1000000 in
theorem add_ca (ob : Nat) (l : List KeyD) (k : KeyD) (w : World) (h : RS ob l w) (hlen : l.length ≤ 100000000) :
    Ca Tryd.prog 40 #[.int .i64 k.1, S k.2, .pointer (some ⟨ob, 0, none⟩)] w fun v w' => RS ob (refsAdd l k) w' ∧ Keeps (fun i => ob ≤ i) w w' := by
  obtain ⟨ov, hob, hown⟩ := h
  obtain ⟨k1, k2⟩ := k
  have hobl := lt_of_heap hob
  have h1 := own_one hown
  refine ca_of_body (args := [.int .i64 k1, S k2, .pointer (some ⟨ob, 0, none⟩)]) Tryd.func40 rfl (by kernel_rfl) ?_
  (repeat first | (apply wr_move; exact rfl; with_reducible (conv => enter [6, 3]; whnf)) | apply wc_seq | apply wc_region)
  refine wr_build (ps := [(0, .int .i64 k1), (1, S k2)]) (cs := [.int .i64 k1, S k2]) rfl rfl rfl rfl ?_
  apply wr_alloc
  exact rfl
  refine wr_storeAll (cs := [.int .i64 k1, S k2]) rfl rfl rfl (by intro u hu; simp at hu; rcases hu with rfl | rfl <;> rfl) (heap_alloc_same _ _) rfl rfl ?_
  obtain ⟨w1, hw1⟩ : ∃ w1, w1 = (w.alloc (.cells (Value.agg #[.int .i64 0, S []]).cells 49)).putObj w.heap.size (.cells #[.int .i64 k1, S k2] 49 (0, 0)) := ⟨_, rfl⟩
  have hk1 : Keeps NoB w w1 := by rw [hw1]; exact ((Keeps.refl NoB w).alloc _).put _ (fun h => by omega)
  have hf1 : w1.heap[w.heap.size]? = some (.cells #[.int .i64 k1, S k2] 49 (0, 0)) := by rw [hw1]; exact World.putObj_heap_same (by simp)
  rw [← hw1]
  clear hw1
  have hob1 := hk1.heap hob (fun h => h)
  have hown1 := own_keep hown hk1 (fun _ _ h => h)
  have hs1 := hk1.size
  by_cases h0 : k2 = []
  · subst h0
    (repeat first | (apply wr_move; exact rfl; with_reducible (conv => enter [6, 3]; whnf)) | apply wr_end | apply wc_seq | apply wc_region | apply wc_skip | (apply wr_pick (t := false); (iterate 2 exact rfl); with_reducible (conv => enter [6, 3]; whnf)) | (apply wr_strnec; (iterate 3 exact rfl); (first | exact decide_eq_true (by with_reducible assumption) | exact decide_eq_false (by with_reducible assumption) | exact decide_eq_true rfl | exact rfl); with_reducible (conv => enter [6, 3]; whnf)) | (apply wc_false; exact rfl) | (apply wr_skip; exact rfl))
    try simp only [bodyQ]
    exact leave0 rfl ⟨by rw [show refsAdd l (k1, []) = l from if_neg fun h => h.1 rfl]; exact ⟨ov, hob1, hown1⟩, hk1.upD⟩
  · (repeat first | (apply wr_move; exact rfl; with_reducible (conv => enter [6, 3]; whnf)) | apply wr_end | apply wc_seq | apply wc_region | (apply wr_load; (iterate 3 exact rfl); (focus repeat first | with_reducible assumption | exact heap_alloc_same _ _ | exact World.putObj_heap_same (by first | omega | (simp only [World.size_alloc, World.putObj_size, ne_eq]; omega)) | ((first | refine hAl ?_ ?_ | refine hPu ?_ ?_); focus first | omega | (simp only [World.size_alloc, World.putObj_size, ne_eq]; omega))); exact rfl; conv => enter [6, 3]; whnf) | (apply wr_strnec; (iterate 3 exact rfl); (first | exact decide_eq_true (by with_reducible assumption) | exact decide_eq_false (by with_reducible assumption) | exact decide_eq_true rfl | exact rfl); with_reducible (conv => enter [6, 3]; whnf)))
    refine wr_loadAll (cs := [.int .i64 k1, S k2]) rfl rfl rfl hf1 rfl ?_
    refine wr_call (vs := [ov, .agg #[.int .i64 k1, S k2]]) rfl (keyIn_ca l (k1, k2) ov _ (SlR.of_own hown1) (by omega)) rfl ?_
    rintro v w2 ⟨rfl, hk2⟩
    have hob2 := hk2.heap hob1 (fun h => h)
    have hf2 := hk2.heap hf1 (fun h => h)
    have hown2 := own_keep hown1 hk2 (fun _ _ h => h)
    have hs2 := hk2.size
    by_cases hm : (k1, k2) ∈ l
    · rw [decide_eq_true hm]
      (repeat first | apply wr_end | apply wc_skip | (apply wr_not; iterate 2 exact rfl) | (apply wr_pick (t := true); (iterate 2 exact rfl); with_reducible (conv => enter [6, 3]; whnf)) | (apply wc_false; exact rfl))
      try simp only [bodyQ]
      exact leave0 rfl ⟨by rw [show refsAdd l (k1, k2) = l from if_neg fun h => h.2 hm]; exact ⟨ov, hob2, hown2⟩, (hk1.trans hk2).upD⟩
    · rw [decide_eq_false hm]
      (repeat first | apply wr_end | apply wc_region | (apply wr_not; iterate 2 exact rfl) | (apply wr_load; (iterate 3 exact rfl); (focus repeat first | with_reducible assumption | exact heap_alloc_same _ _ | exact World.putObj_heap_same (by first | omega | (simp only [World.size_alloc, World.putObj_size, ne_eq]; omega)) | ((first | refine hAl ?_ ?_ | refine hPu ?_ ?_); focus first | omega | (simp only [World.size_alloc, World.putObj_size, ne_eq]; omega))); exact rfl; conv => enter [6, 3]; whnf) | (apply wr_pick (t := true); (iterate 2 exact rfl); with_reducible (conv => enter [6, 3]; whnf)) | (apply wc_true; exact rfl))
      refine wr_loadAll (cs := [.int .i64 k1, S k2]) rfl rfl rfl hf2 rfl ?_
      refine wr_buildSlice (vs := [.agg #[.int .i64 k1, S k2]]) rfl rfl (by intro v hv; simp at hv; subst hv; rfl) rfl (by decide) (by decide) (by decide) ?_
      refine wr_append2 (v := ov) (n := l.length) (m := 1) (news := [.int .i64 k1, S k2]) rfl rfl (hown2.alloc _) rfl (heap_alloc_same _ _) rfl (by intro u hu; simp at hu; rcases hu with rfl | rfl <;> rfl) rfl (by decide) (by omega) (by omega) (by simp; omega) ?_
      intro v' w3 ho3 hk3 hb3
      have hblk : ∀ i, ov.ownBlock = some i → ob + 1 ≤ i ∧ i < w2.heap.size := fun i hi => hown2.lt i hi
      have hob3 := hk3.heap (hAl (by omega) hob2) (fun h => by have := hblk _ h; omega)
      have hob3l := lt_of_heap hob3
      have h1' := own_one ho3
      (repeat first | (apply wr_store; (iterate 3 exact rfl); (first | exact rfl | with_reducible assumption); (focus repeat first | with_reducible assumption | exact heap_alloc_same _ _ | exact World.putObj_heap_same (by first | omega | (simp only [World.size_alloc, World.putObj_size, ne_eq]; omega)) | ((first | refine hAl ?_ ?_ | refine hPu ?_ ?_); focus first | omega | (simp only [World.size_alloc, World.putObj_size, ne_eq]; omega))); exact rfl) | (apply wr_nil; try simp only [thenE, inBlockE, bodyQ]))
      try simp only [bodyQ]
      refine leave0 rfl ⟨?_, ?_⟩
      · rw [show refsAdd l (k1, k2) = l ++ [(k1, k2)] from if_pos ⟨h0, hm⟩]
        refine ⟨v', World.putObj_heap_same hob3l, ?_⟩
        have e : (l ++ [(k1, k2)]).flatMap GK = l.flatMap GK ++ [.int .i64 k1, S k2] := by simp [GK]
        rw [e, List.length_append]
        exact own_keep ho3 ((Keeps.refl (fun k => k = ob) w3).put _ (fun _ => rfl)) (fun b hb e => by have := (ho3.lt b hb).1; omega)
      · exact (((hk1.trans hk2).upD.alloc _).trans' hk3 (fun i hi h => by have := hblk _ h; omega)).put _ (fun _ => Nat.le_refl _)
def refsP (kind : Int) (p : PL) : List KeyD := if kind = 1 then refsAdd [] (2, p.route) else if kind = 2 then p.rules.foldl (fun l r => refsAdd l (3, r.2)) [] else if kind = 3 then refsAdd [(4, p.name)] (5, p.secret) else []
theorem refs_foldl_len : ∀ (rs : List RuleD) (l : List KeyD), (rs.foldl (fun l r => refsAdd l (3, r.2)) l).length ≤ l.length + rs.length
  | [], l => by simp
  | r :: rs, l => by
    have h1 := refs_foldl_len rs (refsAdd l (3, r.2))
    have h2 := refsAdd_len l (3, r.2)
    simp only [List.foldl_cons, List.length_cons]; omega
set_option maxRecDepth 100000 in
set_option maxHeartbeats 2000000 in
theorem refs_ca (kind : Int) (p : PL) (hp : p.ok) (rv av : Value) (w : World) (hs : PlS w p rv av) :
    Ca Tryd.prog 18 #[.int .i64 kind, PlV p rv av] w fun v w' => w'.ownsRow w.heap.size 49 2 v (refsP kind p).length ((refsP kind p).flatMap GK) ∧ Keeps NoB w w' := by
  have hr1 := slR_one hs.r
  have ha1 := slR_one hs.a
  refine ca_of_body (args := [.int .i64 kind, PlV p rv av]) Tryd.func18 rfl (by kernel_rfl) ?_
  have hN := hp.rulesN
  obtain ⟨w1, hw1⟩ : ∃ w1, w1 = (w.alloc (.cells (PlV p rv av).cells 26)).alloc (.cells (Value.slice none 0 0).cells 46) := ⟨_, rfl⟩
  have hk1 : Keeps NoB w w1 := by rw [hw1]; exact ((Keeps.refl NoB w).alloc _).alloc _
  have hb1 : w1.heap[w.heap.size]? = some (.cells (PlC p rv av).toArray 26 (0, 0)) := by rw [hw1]; exact hAl (by simp) (heap_alloc_same w (.cells (PlV p rv av).cells 26))
  have hob1 : RS (w.heap.size + 1) [] w1 := by rw [hw1]; exact ⟨.slice none 0 0, heap_alloc_at _ _ (by simp), rfl, .inl ⟨rfl, rfl⟩⟩
  have hs1 : w1.heap.size = w.heap.size + 2 := by rw [hw1]; simp
  have hsl1 := hs.kin hk1
  (repeat first | (apply wr_assign; exact rfl; with_reducible (conv => enter [6, 3]; whnf)) | apply wr_end | apply wc_seq | apply wc_region | (apply wr_box; iterate 2 exact rfl) | (apply wr_alloc; exact rfl))
  refine wr_makeFunc rfl rfl rfl ?_
  (repeat first | (apply wr_move; exact rfl; with_reducible (conv => enter [6, 3]; whnf)) | (apply wr_assign; exact rfl; with_reducible (conv => enter [6, 3]; whnf)) | apply wr_end | apply wc_seq | apply wc_region | apply wc_block | (apply wr_cmp; (iterate 3 exact rfl); exact cmp_eq _ _))
  refine wc_keep [(3, .pointer (some ⟨w.heap.size, 0, none⟩)), (5, .pointer (some ⟨w.heap.size + 1, 0, none⟩)), (6, .func (.func 40) #[] #[.pointer (some ⟨w.heap.size + 1, 0, none⟩)]), (11, .bool (decide (kind = 1))), (10, .int .i64 kind)] ⟨rfl, by show Value.pointer _ = _; simp, by show Value.func _ _ _ = _; simp, rfl, rfl, trivial⟩ ?_
  intro fk
  change Wc _ _ _ _ _ _ _ ((w.alloc (.cells (PlV p rv av).cells 26)).alloc (.cells (Value.slice none 0 0).cells 46))
  rw [← hw1]
  clear hw1
  by_cases h1 : kind = 1
  · subst h1
    (repeat first | (apply wr_move; exact rfl; with_reducible (conv => enter [6, 3]; whnf)) | apply wc_region | (apply wr_fieldAddr; iterate 2 exact rfl) | (apply wr_load; (iterate 3 exact rfl); (focus repeat first | with_reducible assumption | exact heap_alloc_same _ _ | exact World.putObj_heap_same (by first | omega | (simp only [World.size_alloc, World.putObj_size, ne_eq]; omega)) | ((first | refine hAl ?_ ?_ | refine hPu ?_ ?_); focus first | omega | (simp only [World.size_alloc, World.putObj_size, ne_eq]; omega))); exact rfl; conv => enter [6, 3]; whnf) | (apply wc_true; exact rfl))
    refine wr_callv rfl (callV_of (args := [.int .i64 2, S p.route]) (by kernel_rfl) (add_ca (w.heap.size + 1) [] (2, p.route) w1 hob1 (by simp))) rfl rfl ?_
    rintro v w2 ⟨⟨ov, ho1, ho2⟩, hk2⟩
    (repeat first | (apply wr_assign; exact rfl; with_reducible (conv => enter [6, 3]; whnf)) | apply wr_end | apply wc_seq | apply wc_region | (apply wr_load; (iterate 3 exact rfl); (focus repeat first | with_reducible assumption | exact heap_alloc_same _ _ | exact World.putObj_heap_same (by first | omega | (simp only [World.size_alloc, World.putObj_size, ne_eq]; omega)) | ((first | refine hAl ?_ ?_ | refine hPu ?_ ?_); focus first | omega | (simp only [World.size_alloc, World.putObj_size, ne_eq]; omega))); exact rfl; conv => enter [6, 3]; whnf) | (apply wc_ret; try simp only [thenE, inBlockE, bodyQ]) | (apply wr_nil; try simp only [thenE, inBlockE, bodyQ]))
    exact leave1 (v := ov) rfl rfl ⟨own_down ho2 (by omega), hk1.trans' hk2 (fun i hi h => by omega)⟩
  by_cases h2 : kind = 2
  · subst h2
    obtain ⟨a, c, rfl, hc, hat⟩ := hsl1.r.shape
    (repeat first | (apply wr_move; exact rfl; with_reducible (conv => enter [6, 3]; whnf)) | (apply wr_assign; exact rfl; with_reducible (conv => enter [6, 3]; whnf)) | apply wr_end | apply wc_seq | apply wc_region | apply wc_block | (apply wr_fieldAddr; iterate 2 exact rfl) | (apply wr_len_slice; iterate 2 exact rfl) | (apply wr_load; (iterate 3 exact rfl); (focus repeat first | with_reducible assumption | exact heap_alloc_same _ _ | exact World.putObj_heap_same (by first | omega | (simp only [World.size_alloc, World.putObj_size, ne_eq]; omega)) | ((first | refine hAl ?_ ?_ | refine hPu ?_ ?_); focus first | omega | (simp only [World.size_alloc, World.putObj_size, ne_eq]; omega))); exact rfl; conv => enter [6, 3]; whnf) | (apply wr_cmp; (iterate 3 exact rfl); exact cmpT (by dsimp only [cmpP]; first | done | omega)) | (apply wc_true; exact rfl) | (apply wc_false; exact rfl))
    refine wc_loopL (α := Nat) (fun k => [(5, .pointer (some ⟨w.heap.size + 1, 0, none⟩)), (6, .func (.func 40) #[] #[.pointer (some ⟨w.heap.size + 1, 0, none⟩)]), (20, .slice a p.rules.length c), (21, .int .i64 (p.rules.length : Int)), (22, .int .i64 (k : Int))])
      (fun k ds w' => ds = [] ∧ k ≤ p.rules.length ∧ RS (w.heap.size + 1) ((p.rules.take k).foldl (fun l r => refsAdd l (3, r.2)) []) w' ∧ Keeps (fun i => w.heap.size + 1 ≤ i) w1 w' ∧ SlR w' 2 (.slice a p.rules.length c) p.rules.length (p.rules.flatMap GR)) (fun k => p.rules.length - k) 0 ⟨rfl, Nat.zero_le _, hob1, Keeps.refl _ _, hsl1.r⟩ ⟨rfl, rfl, rfl, rfl, rfl, trivial⟩ ?_
    rintro k ds f0 w2 ⟨rfl, hk, hRS, hk2, hsl2⟩
    have hs2 := hk2.size
    by_cases hlt : k < p.rules.length
    · obtain ⟨a', c', he', _, hat2⟩ := hsl2.shape
      simp only [Value.slice.injEq, true_and] at he'
      obtain ⟨rfl, rfl⟩ := he'
      obtain ⟨b, o, rfl, cur, e, fr, hb, hr⟩ := hat2 (by omega)
      obtain ⟨b0, o0, he0, cur0, e0, fr0, hb0, _⟩ := (by
        obtain ⟨_, a0, c0, he0, _, hh⟩ := hs.r
        simp only [Value.slice.injEq, true_and] at he0
        obtain ⟨rfl, rfl⟩ := he0
        rcases hh with ⟨h0, _⟩ | ⟨b0, o0, cur0, e0, fr0, he0, hb0, hr0⟩
        · omega
        · exact ⟨b0, o0, he0, cur0, e0, fr0, hb0, True.intro⟩ : ∃ (b0 o0 : Nat), (some ⟨b, o, none⟩ : Option Addr) = some ⟨b0, o0, none⟩ ∧ ∃ (cur0 : Array Value) (e0 : TypeId) (fr0 : Nat × Nat), w.heap[b0]? = some (.cells cur0 e0 fr0) ∧ True)
      have hbw : b < w.heap.size := by
        simp at he0
        rw [he0.1]; exact lt_of_heap hb0
      obtain ⟨x, hx⟩ : ∃ x, p.rules[k]? = some x := ⟨p.rules[k], by simp [hlt]⟩
      obtain ⟨x1, x2⟩ := x
      have hfl := refs_foldl_len (p.rules.take k) []
      rw [List.length_take] at hfl
      simp only [List.length_nil] at hfl
      (repeat first | apply wr_end | apply wc_seq | apply wc_region | apply wc_skip | apply wc_block | (apply wr_cmp; (iterate 3 exact rfl); exact cmpT (by dsimp only [cmpP]; first | done | omega)) | (apply wc_true; exact rfl))
      refine wr_indexAddr (i := k) rfl rfl rfl hlt ?_
      refine wr_loadElem (G := GR) (n := p.rules.length) rfl rfl GR_len rfl hb hr hlt hx rfl ?_
      apply wr_alloc
      exact rfl
      refine wr_storeAll (cs := [S x1, S x2]) rfl rfl rfl (by intro u hu; simp at hu; rcases hu with rfl | rfl <;> rfl) (heap_alloc_same _ _) rfl rfl ?_
      obtain ⟨w3, hw3⟩ : ∃ w3, w3 = (w2.alloc (.cells (Value.agg #[S [], S []]).cells 51)).putObj w2.heap.size (.cells #[S x1, S x2] 51 (0, 0)) := ⟨_, rfl⟩
      have hk3 : Keeps NoB w2 w3 := by rw [hw3]; exact ((Keeps.refl NoB w2).alloc _).put _ (fun h => by omega)
      have hf3 : w3.heap[w2.heap.size]? = some (.cells #[S x1, S x2] 51 (0, 0)) := by rw [hw3]; exact World.putObj_heap_same (by simp)
      rw [← hw3]
      clear hw3
      have hRS3 := hRS.kin hk3
      (repeat first | (apply wr_move; exact rfl; with_reducible (conv => enter [6, 3]; whnf)) | apply wr_end | apply wc_region | (apply wr_fieldAddr; iterate 2 exact rfl) | (apply wr_load; (iterate 3 exact rfl); (focus repeat first | with_reducible assumption | exact heap_alloc_same _ _ | exact World.putObj_heap_same (by first | omega | (simp only [World.size_alloc, World.putObj_size, ne_eq]; omega)) | ((first | refine hAl ?_ ?_ | refine hPu ?_ ?_); focus first | omega | (simp only [World.size_alloc, World.putObj_size, ne_eq]; omega))); exact rfl; conv => enter [6, 3]; whnf))
      refine wr_callv rfl (callV_of (args := [.int .i64 3, S x2]) (by kernel_rfl) (add_ca (w.heap.size + 1) _ (3, x2) w3 hRS3 (by omega))) rfl rfl ?_
      rintro v w4 ⟨hRS4, hk4⟩
      have hk24 : Keeps (fun i => w.heap.size + 1 ≤ i) w2 w4 := hk3.upD.trans hk4
      (repeat first | (apply wr_move; exact rfl; with_reducible (conv => enter [6, 3]; whnf)) | apply wr_end | apply wc_region | (apply wr_add; (iterate 3 exact rfl); exact w_fit (by dsimp only [kIn]; first | done | omega)) | (apply wr_nil; try simp only [thenE, inBlockE, bodyQ]))
      refine ⟨k + 1, by omega, ⟨by trivial, hlt, ?_, hk2.trans hk24, hsl2.keep hk24 (fun b' hb' h => by simp [Value.ownBlock] at hb'; omega)⟩, rfl, rfl, rfl, rfl, by simp, trivial⟩
      rw [List.take_add_one, hx]
      simpa [List.foldl_append] using hRS4
    · have he : k = p.rules.length := by omega
      subst he
      rw [List.take_length] at hRS
      obtain ⟨ov, ho1, ho2⟩ := hRS
      (repeat first | (apply wr_assign; exact rfl; with_reducible (conv => enter [6, 3]; whnf)) | apply wr_end | apply wc_seq | apply wc_region | (apply wr_load; (iterate 3 exact rfl); (focus repeat first | with_reducible assumption | exact heap_alloc_same _ _ | exact World.putObj_heap_same (by first | omega | (simp only [World.size_alloc, World.putObj_size, ne_eq]; omega)) | ((first | refine hAl ?_ ?_ | refine hPu ?_ ?_); focus first | omega | (simp only [World.size_alloc, World.putObj_size, ne_eq]; omega))); exact rfl; conv => enter [6, 3]; whnf) | (apply wr_cmp; (iterate 3 exact rfl); exact cmpF (by dsimp only [cmpN]; first | done | omega)) | (apply wc_false; exact rfl) | (apply wc_exit; try simp only [thenE, inBlockE, bodyQ, ↓reduceIte, Nat.reduceEqDiff]) | (apply wc_ret; try simp only [thenE, inBlockE, bodyQ]))
      exact leave1 (v := ov) rfl rfl ⟨own_down ho2 (by omega), hk1.trans' hk2 (fun i hi h => by omega)⟩
  by_cases h3 : kind = 3
  · subst h3
    have hobc : ∃ ov, w1.heap[w.heap.size + 1]? = some (.cells #[ov] 46 (0, 0)) := by
      obtain ⟨ov, h, _⟩ := hob1
      exact ⟨ov, h⟩
    obtain ⟨ov0, hob1c⟩ := hobc
    (repeat first | (apply wr_assign; exact rfl; with_reducible (conv => enter [6, 3]; whnf)) | apply wr_end | apply wc_seq | apply wc_region | (apply wr_fieldAddr; iterate 2 exact rfl) | (apply wr_load; (iterate 3 exact rfl); (focus repeat first | with_reducible assumption | exact heap_alloc_same _ _ | exact World.putObj_heap_same (by first | omega | (simp only [World.size_alloc, World.putObj_size, ne_eq]; omega)) | ((first | refine hAl ?_ ?_ | refine hPu ?_ ?_); focus first | omega | (simp only [World.size_alloc, World.putObj_size, ne_eq]; omega))); exact rfl; conv => enter [6, 3]; whnf) | (apply wr_cmp; (iterate 3 exact rfl); exact cmpT (by dsimp only [cmpP]; first | done | omega)) | (apply wr_cmp; (iterate 3 exact rfl); exact cmpF (by dsimp only [cmpN]; first | done | omega)) | (apply wc_true; exact rfl) | (apply wc_false; exact rfl))
    refine wr_build (ps := [(0, .int .i64 4), (1, S p.name)]) (cs := [.int .i64 4, S p.name]) rfl rfl rfl rfl ?_
    refine wr_buildSlice (vs := [.agg #[.int .i64 4, S p.name]]) rfl rfl (by intro v hv; simp at hv; subst hv; rfl) rfl (by decide) (by decide) (by decide) ?_
    have hob2 := hAl (o' := .cells ([Value.agg #[.int .i64 4, S p.name]].flatMap fun v => v.cells.toList).toArray 49) (by omega) hob1c
    have hob2l := lt_of_heap hob2
    have hown2 := World.ownsRow_lit (base := w.heap.size + 1 + 1) (e := 49) (size := 2) w1 ([Value.agg #[.int .i64 4, S p.name]].flatMap fun v => v.cells.toList).toArray 1 (by omega) (by decide) rfl
    (repeat first | (apply wr_move; exact rfl; with_reducible (conv => enter [6, 3]; whnf)) | apply wr_end | apply wc_region | (apply wr_fieldAddr; iterate 2 exact rfl) | (apply wr_load; (iterate 3 exact rfl); (focus repeat first | with_reducible assumption | exact heap_alloc_same _ _ | exact World.putObj_heap_same (by first | omega | (simp only [World.size_alloc, World.putObj_size, ne_eq]; omega)) | ((first | refine hAl ?_ ?_ | refine hPu ?_ ?_); focus first | omega | (simp only [World.size_alloc, World.putObj_size, ne_eq]; omega))); exact rfl; conv => enter [6, 3]; whnf) | (apply wr_store; (iterate 3 exact rfl); (first | exact rfl | with_reducible assumption); (focus repeat first | with_reducible assumption | exact heap_alloc_same _ _ | exact World.putObj_heap_same (by first | omega | (simp only [World.size_alloc, World.putObj_size, ne_eq]; omega)) | ((first | refine hAl ?_ ?_ | refine hPu ?_ ?_); focus first | omega | (simp only [World.size_alloc, World.putObj_size, ne_eq]; omega))); exact rfl))
    have hRS2 : RS (w.heap.size + 1) [(4, p.name)] ((w1.alloc (.cells ([Value.agg #[.int .i64 4, S p.name]].flatMap fun v => v.cells.toList).toArray 49)).putObj (w.heap.size + 1) (.cells #[.slice (some ⟨w1.heap.size, 0, none⟩) 1 1] 46 (0, 0))) :=
      ⟨_, World.putObj_heap_same hob2l, own_keep hown2 ((Keeps.refl (fun k => k = w.heap.size + 1) _).put _ (fun _ => rfl)) (fun b hb e => by simp [Value.ownBlock] at hb; omega)⟩
    refine wr_callv rfl (callV_of (args := [.int .i64 5, S p.secret]) (by kernel_rfl) (add_ca (w.heap.size + 1) [(4, p.name)] (5, p.secret) _ hRS2 (by simp))) rfl rfl ?_
    rintro v w2 ⟨⟨ov, ho1, ho2⟩, hk2⟩
    (repeat first | (apply wr_assign; exact rfl; with_reducible (conv => enter [6, 3]; whnf)) | apply wr_end | apply wc_seq | apply wc_region | (apply wr_load; (iterate 3 exact rfl); (focus repeat first | with_reducible assumption | exact heap_alloc_same _ _ | exact World.putObj_heap_same (by first | omega | (simp only [World.size_alloc, World.putObj_size, ne_eq]; omega)) | ((first | refine hAl ?_ ?_ | refine hPu ?_ ?_); focus first | omega | (simp only [World.size_alloc, World.putObj_size, ne_eq]; omega))); exact rfl; conv => enter [6, 3]; whnf) | (apply wc_ret; try simp only [thenE, inBlockE, bodyQ]) | (apply wr_nil; try simp only [thenE, inBlockE, bodyQ]))
    exact leave1 (v := ov) rfl rfl ⟨own_down ho2 (by omega), (((hk1.alloc _).put _ (fun h => by omega)).trans' hk2 (fun i hi h => by omega))⟩
  · have hP : refsP kind p = [] := by unfold refsP; rw [if_neg h1, if_neg h2, if_neg h3]
    obtain ⟨ov, ho1, ho2⟩ := hob1
    rw [decide_eq_false h1]
    (repeat first | (apply wr_assign; exact rfl; with_reducible (conv => enter [6, 3]; whnf)) | apply wr_end | apply wc_seq | apply wc_region | apply wc_skip | (apply wr_load; (iterate 3 exact rfl); (focus repeat first | with_reducible assumption | exact heap_alloc_same _ _ | exact World.putObj_heap_same (by first | omega | (simp only [World.size_alloc, World.putObj_size, ne_eq]; omega)) | ((first | refine hAl ?_ ?_ | refine hPu ?_ ?_); focus first | omega | (simp only [World.size_alloc, World.putObj_size, ne_eq]; omega))); exact rfl; conv => enter [6, 3]; whnf) | (apply wr_cmp; (iterate 3 exact rfl); exact cmpF (by dsimp only [cmpN]; first | done | omega)) | (apply wc_false; exact rfl) | (apply wc_ret; try simp only [thenE, inBlockE, bodyQ]))
    exact leave1 (v := ov) rfl rfl ⟨by rw [hP]; exact own_down ho2 (by omega), hk1⟩
end Go.Proofs.YthlbgeonobicbaaDoor
