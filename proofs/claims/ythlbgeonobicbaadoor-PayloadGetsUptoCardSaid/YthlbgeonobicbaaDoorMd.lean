/- slices.Contains of keys; payload.Refs: what they do. -/
import Derived.Test.YthlbgeonobicbaaDoorMc
namespace Go.Proofs.YthlbgeonobicbaaDoor
open Go Go.V Go.RowKit
set_option linter.unusedVariables false
set_option linter.unusedSimpArgs false

abbrev KeyD := Int × List UInt8
def GK (k : KeyD) : List Value := [.int .i64 k.1, S k.2]
theorem GK_len (k : KeyD) : (GK k).length = 2 := rfl
theorem key_stood : Tryd.prog.stoodInHeld 49 = false := by kernel_rfl
theorem key_guard : Tryd.prog.eqGuardType Tryd.prog.depth 49 = false := by kernel_rfl
theorem key_eqOk (x y : KeyD) (w : World) : EqOk Tryd.prog w 9999 #[.int .i64 x.1, S x.2] #[.int .i64 y.1, S y.2]
    [⟨"Type", 3, 0, false, "", "", 0⟩, ⟨"Name", 9, 1, false, "", "", 8⟩] [decide (x.1 = y.1), decide (x.2 = y.2)] :=
  ⟨⟨by decide, _, _, run_part1 Tryd.underlying3 rfl rfl, run_part1 Tryd.underlying3 rfl rfl, equalIn_int 9998 inferInstance _ _ _⟩,
   ⟨by decide, _, _, run_part1 Tryd.underlying9 rfl rfl, run_part1 Tryd.underlying9 rfl rfl, equalIn_str 9998 inferInstance _ _ _⟩, trivial⟩
set_option maxRecDepth 100000 in
set_option maxHeartbeats 1000000 in
theorem keyIndex_ca (l : List KeyD) (k : KeyD) (sl : Value) (w : World) (hsl : SlR w 2 sl l.length (l.flatMap GK)) (hlen : l.length ≤ 1000000000000) :
    Ca Tryd.prog 60 #[sl, .agg #[.int .i64 k.1, S k.2]] w fun v w' => (∃ z : Int, v = .int .i64 z ∧ -1 ≤ z ∧ z ≤ 1000000000000 ∧ (0 ≤ z ↔ k ∈ l)) ∧ Keeps NoB w w' := by
  obtain ⟨a, c, rfl, hc, hat⟩ := hsl.shape
  obtain ⟨k1, k2⟩ := k
  refine ca_of_body (args := [.slice a l.length c, .agg #[.int .i64 k1, S k2]]) Tryd.func60 rfl (by kernel_rfl) ?_
  have hcells : (Value.agg #[.int .i64 k1, S k2]).cells = #[.int .i64 k1, S k2] := rfl
  (repeat first | (apply wr_move; exact rfl; with_reducible (conv => enter [6, 3]; whnf)) | (apply wr_assign; exact rfl; with_reducible (conv => enter [6, 3]; whnf)) | apply wr_end | apply wc_seq | apply wc_region | apply wc_block | (apply wr_len_slice; iterate 2 exact rfl) | (apply wr_box; iterate 2 exact rfl))
  refine wc_loopL (α := Nat) (fun i => [(0, .slice a l.length c), (3, .pointer (some ⟨w.heap.size, 0, none⟩)), (7, .int .i64 (l.length : Int)), (8, .int .i64 (i : Int))])
    (fun i ds w' => ds = [] ∧ i ≤ l.length ∧ (k1, k2) ∉ l.take i ∧ w'.heap[w.heap.size]? = some (.cells #[.int .i64 k1, S k2] 49 (0, 0)) ∧ Keeps NoB w w') (fun i => l.length - i) 0 ⟨rfl, Nat.zero_le _, by simp, heap_alloc_same _ _, (Keeps.refl NoB w).alloc _⟩ ⟨rfl, rfl, rfl, rfl, trivial⟩ ?_
  rintro i ds f0 w2 ⟨rfl, hi, hni, hb2, hk2⟩
  by_cases hlt : i < l.length
  · obtain ⟨b, o, rfl, cur, e, fr, hb, hr⟩ := hat (by omega)
    have hbb2 := hk2.heap hb (fun h => h)
    obtain ⟨x, hx⟩ : ∃ x, l[i]? = some x := ⟨l[i], by simp [hlt]⟩
    obtain ⟨x1, x2⟩ := x
    obtain ⟨cc, hcc⟩ : ∃ cc : Bool, cc = decide ((k1, k2) = (x1, x2)) := ⟨_, rfl⟩
    (repeat first | (apply wr_move; exact rfl; with_reducible (conv => enter [6, 3]; whnf)) | (apply wr_assign; exact rfl; with_reducible (conv => enter [6, 3]; whnf)) | apply wr_end | apply wc_seq | apply wc_region | apply wc_skip | apply wc_block | (apply wr_cmp; (iterate 3 exact rfl); exact cmpT (by dsimp only [cmpP]; first | done | omega)) | (apply wc_true; exact rfl))
    refine wc_drawS (l := _) (S := fun w' => w' = w2.drew) (by kernel_rfl) (by kernel_rfl) rfl ?_
    apply ch_step
    focus
      intro w' hS
      subst hS
      refine wr_loadAll (cs := [.int .i64 k1, S k2]) rfl rfl rfl hb2 rfl ?_
      apply wr_nil
      exact ⟨rfl, rfl⟩
    apply ch_step
    focus
      intro w' hS
      subst hS
      apply wr_move; exact rfl; with_reducible (conv => enter [6, 3]; whnf)
      apply wr_nil
      exact ⟨rfl, rfl⟩
    apply ch_step
    focus
      intro w' hS
      subst hS
      apply wr_move; exact rfl; with_reducible (conv => enter [6, 3]; whnf)
      apply wr_nil
      exact ⟨rfl, rfl⟩
    apply ch_step
    focus
      intro w' hS
      subst hS
      refine wr_indexAddr (i := i) rfl rfl rfl hlt ?_
      apply wr_nil
      exact ⟨rfl, rfl⟩
    apply ch_step
    focus
      intro w' hS
      subst hS
      refine wr_loadElem (G := GK) (n := l.length) rfl rfl GK_len rfl hbb2 hr hlt hx rfl ?_
      apply wr_nil
      exact ⟨rfl, rfl⟩
    apply ch_step
    focus
      intro w' hS
      subst hS
      refine wr_structEq (c := cc) rfl rfl rfl key_stood key_guard (key_eqOk (k1, k2) (x1, x2) _) (by rw [hcc]; simp [List.all_cons, Prod.mk.injEq, Bool.decide_and]) ?_
      apply wr_nil
      exact ⟨rfl, rfl⟩
    refine ch_nil ?_
    intro w' hS
    subst hS
    by_cases he : (k1, k2) = (x1, x2)
    · rw [decide_eq_true he] at hcc
      subst hcc
      (repeat first | (apply wr_move; exact rfl; with_reducible (conv => enter [6, 3]; whnf)) | (apply wr_assign; exact rfl; with_reducible (conv => enter [6, 3]; whnf)) | apply wr_end | apply wc_seq | apply wc_region | (apply wc_true; exact rfl) | (apply wc_ret; try simp only [thenE, inBlockE, bodyQ]))
      refine leave1 (v := .int .i64 (i : Int)) rfl rfl ⟨⟨(i : Int), rfl, by omega, by omega, fun _ => by rw [he]; exact List.mem_of_getElem? hx, fun _ => by omega⟩, hk2.drew⟩
    · rw [decide_eq_false he] at hcc
      subst hcc
      (repeat first | (apply wr_move; exact rfl; with_reducible (conv => enter [6, 3]; whnf)) | apply wr_end | apply wc_region | apply wc_skip | (apply wr_add; (iterate 3 exact rfl); exact w_fit (by dsimp only [kIn]; first | done | omega)) | (apply wc_false; exact rfl))
      refine ⟨i + 1, by omega, ⟨by trivial, hlt, ?_, hb2, hk2.drew⟩, rfl, rfl, rfl, by simp, trivial⟩
      rw [List.take_add_one, hx]
      simp only [Option.toList_some, List.mem_append, List.mem_singleton, not_or]
      exact ⟨hni, he⟩
  · have he : i = l.length := by omega
    subst he
    rw [List.take_length] at hni
    (repeat first | (apply wr_assign; exact rfl; with_reducible (conv => enter [6, 3]; whnf)) | apply wr_end | apply wc_seq | apply wc_region | (apply wr_cmp; (iterate 3 exact rfl); exact cmpF (by dsimp only [cmpN]; first | done | omega)) | (apply wc_false; exact rfl) | (apply wc_exit; try simp only [thenE, inBlockE, bodyQ, ↓reduceIte, Nat.reduceEqDiff]) | (apply wc_ret; try simp only [thenE, inBlockE, bodyQ]))
    exact leave1 (v := .int .i64 (-1)) rfl rfl ⟨⟨-1, rfl, by omega, by omega, fun h => by omega, fun h => absurd h hni⟩, hk2⟩
set_option maxRecDepth 100000 in
theorem keyIn_ca (l : List KeyD) (k : KeyD) (sl : Value) (w : World) (hsl : SlR w 2 sl l.length (l.flatMap GK)) (hlen : l.length ≤ 1000000000000) :
    Ca Tryd.prog 41 #[sl, .agg #[.int .i64 k.1, S k.2]] w fun v w' => v = .bool (decide (k ∈ l)) ∧ Keeps NoB w w' := by
  obtain ⟨k1, k2⟩ := k
  refine ca_of_body (args := [sl, .agg #[.int .i64 k1, S k2]]) Tryd.func41 rfl (by kernel_rfl) ?_
  have hk1 : Keeps NoB w (w.alloc (.cells (Value.agg #[.int .i64 k1, S k2]).cells 49)) := (Keeps.refl NoB w).alloc _
  (repeat first | (apply wr_move; exact rfl; with_reducible (conv => enter [6, 3]; whnf)) | (apply wr_assign; exact rfl; with_reducible (conv => enter [6, 3]; whnf)) | apply wr_end | apply wc_seq | apply wc_region | (apply wr_box; iterate 2 exact rfl))
  refine wr_loadAll (cs := [.int .i64 k1, S k2]) rfl rfl rfl (heap_alloc_same _ _) rfl ?_
  refine wr_call (vs := [sl, .agg #[.int .i64 k1, S k2]]) rfl (keyIndex_ca l (k1, k2) sl _ (hsl.keep hk1 (fun _ _ h => h)) hlen) rfl ?_
  rintro v w2 ⟨⟨z, rfl, hz1, hz2, hz⟩, hk2⟩
  by_cases hm : (k1, k2) ∈ l
  · have hz0 := hz.2 hm
    (repeat first | (apply wr_assign; exact rfl; with_reducible (conv => enter [6, 3]; whnf)) | apply wr_end | (apply wr_cmp; (iterate 3 exact rfl); exact cmpT (by dsimp only [cmpP]; first | done | omega)) | (apply wc_ret; try simp only [thenE, inBlockE, bodyQ]))
    exact leave1 (v := .bool true) rfl rfl ⟨by rw [decide_eq_true hm], hk1.trans hk2⟩
  · have hz0 : z < 0 := by
      rcases Int.lt_or_le z 0 with h | h
      · exact h
      · exact absurd (hz.1 h) hm
    (repeat first | (apply wr_assign; exact rfl; with_reducible (conv => enter [6, 3]; whnf)) | apply wr_end | (apply wr_cmp; (iterate 3 exact rfl); exact cmpF (by dsimp only [cmpN]; first | done | omega)) | (apply wc_ret; try simp only [thenE, inBlockE, bodyQ]))
    exact leave1 (v := .bool false) rfl rfl ⟨by rw [decide_eq_false hm], hk1.trans hk2⟩
def refsAdd (l : List KeyD) (k : KeyD) : List KeyD := if k.2 ≠ [] ∧ k ∉ l then l ++ [k] else l
theorem refsAdd_len (l : List KeyD) (k : KeyD) : (refsAdd l k).length ≤ l.length + 1 := by
  unfold refsAdd; split <;> simp
/-- The variable that gathers keys. -/
def RS (ob : Nat) (l : List KeyD) (w : World) : Prop := ∃ ov, w.heap[ob]? = some (.cells #[ov] 46 (0, 0)) ∧ w.ownsRow (ob + 1) 49 2 ov l.length (l.flatMap GK)
theorem RS.kin {ob : Nat} {l : List KeyD} {w w' : World} (h : RS ob l w) (k : Keeps NoB w w') : RS ob l w' := by
  obtain ⟨ov, h1, h2⟩ := h
  exact ⟨ov, k.heap h1 (fun h => h), own_keep h2 k (fun _ _ h => h)⟩
set_option maxRecDepth 100000 in
set_option maxHeartbeats 1000000 in
theorem add_ca (ob : Nat) (l : List KeyD) (k : KeyD) (w : World) (h : RS ob l w) (hlen : l.length ≤ 100000000) :
    Ca Tryd.prog 40 #[.int .i64 k.1, S k.2, .pointer (some ⟨ob, 0, none⟩)] w fun v w' => RS ob (refsAdd l k) w' ∧ Keeps (fun i => ob ≤ i) w w' := by
  obtain ⟨ov, hob, hown⟩ := h
  obtain ⟨k1, k2⟩ := k
  have hobl := lt_of_heap hob
  have h1 := own_one hown
  refine ca_of_body (args := [.int .i64 k1, S k2, .pointer (some ⟨ob, 0, none⟩)]) Tryd.func40 rfl (by kernel_rfl) ?_
  (repeat first | (apply wr_move; exact rfl; with_reducible (conv => enter [6, 3]; whnf)) | apply wc_seq | apply wc_region)
  refine wr_build (ps := [(0, .int .i64 k1), (1, S k2)]) (cs := [.int .i64 k1, S k2]) rfl rfl rfl rfl ?_
  apply wr_alloc
  exact rfl
  refine wr_storeAll (cs := [.int .i64 k1, S k2]) rfl rfl rfl (by intro u hu; simp at hu; rcases hu with rfl | rfl <;> rfl) (heap_alloc_same _ _) rfl rfl ?_
  obtain ⟨w1, hw1⟩ : ∃ w1, w1 = (w.alloc (.cells (Value.agg #[.int .i64 0, S []]).cells 49)).putObj w.heap.size (.cells #[.int .i64 k1, S k2] 49 (0, 0)) := ⟨_, rfl⟩
  have hk1 : Keeps NoB w w1 := by rw [hw1]; exact ((Keeps.refl NoB w).alloc _).put _ (fun h => by omega)
  have hf1 : w1.heap[w.heap.size]? = some (.cells #[.int .i64 k1, S k2] 49 (0, 0)) := by rw [hw1]; exact World.putObj_heap_same (by simp)
  rw [← hw1]
  clear hw1
  have hob1 := hk1.heap hob (fun h => h)
  have hown1 := own_keep hown hk1 (fun _ _ h => h)
  have hs1 := hk1.size
  by_cases h0 : k2 = []
  · subst h0
    (repeat first | (apply wr_move; exact rfl; with_reducible (conv => enter [6, 3]; whnf)) | apply wr_end | apply wc_seq | apply wc_region | apply wc_skip | (apply wr_pick (t := false); (iterate 2 exact rfl); with_reducible (conv => enter [6, 3]; whnf)) | (apply wr_strnec; (iterate 3 exact rfl); (first | exact decide_eq_true (by with_reducible assumption) | exact decide_eq_false (by with_reducible assumption) | exact decide_eq_true rfl | exact rfl); with_reducible (conv => enter [6, 3]; whnf)) | (apply wc_false; exact rfl) | (apply wr_skip; exact rfl))
    try simp only [bodyQ]
    exact leave0 rfl ⟨by rw [show refsAdd l (k1, []) = l from if_neg fun h => h.1 rfl]; exact ⟨ov, hob1, hown1⟩, hk1.upD⟩
  · (repeat first | (apply wr_move; exact rfl; with_reducible (conv => enter [6, 3]; whnf)) | apply wr_end | apply wc_seq | apply wc_region | (apply wr_load; (iterate 3 exact rfl); (focus repeat first | with_reducible assumption | exact heap_alloc_same _ _ | exact World.putObj_heap_same (by first | omega | (simp only [World.size_alloc, World.putObj_size, ne_eq]; omega)) | ((first | refine hAl ?_ ?_ | refine hPu ?_ ?_); focus first | omega | (simp only [World.size_alloc, World.putObj_size, ne_eq]; omega))); exact rfl; conv => enter [6, 3]; whnf) | (apply wr_strnec; (iterate 3 exact rfl); (first | exact decide_eq_true (by with_reducible assumption) | exact decide_eq_false (by with_reducible assumption) | exact decide_eq_true rfl | exact rfl); with_reducible (conv => enter [6, 3]; whnf)))
    refine wr_loadAll (cs := [.int .i64 k1, S k2]) rfl rfl rfl hf1 rfl ?_
    refine wr_call (vs := [ov, .agg #[.int .i64 k1, S k2]]) rfl (keyIn_ca l (k1, k2) ov _ (SlR.of_own hown1) (by omega)) rfl ?_
    rintro v w2 ⟨rfl, hk2⟩
    have hob2 := hk2.heap hob1 (fun h => h)
    have hf2 := hk2.heap hf1 (fun h => h)
    have hown2 := own_keep hown1 hk2 (fun _ _ h => h)
    have hs2 := hk2.size
    by_cases hm : (k1, k2) ∈ l
    · rw [decide_eq_true hm]
      (repeat first | apply wr_end | apply wc_skip | (apply wr_not; iterate 2 exact rfl) | (apply wr_pick (t := true); (iterate 2 exact rfl); with_reducible (conv => enter [6, 3]; whnf)) | (apply wc_false; exact rfl))
      try simp only [bodyQ]
      exact leave0 rfl ⟨by rw [show refsAdd l (k1, k2) = l from if_neg fun h => h.2 hm]; exact ⟨ov, hob2, hown2⟩, (hk1.trans hk2).upD⟩
    · rw [decide_eq_false hm]
      (repeat first | apply wr_end | apply wc_region | (apply wr_not; iterate 2 exact rfl) | (apply wr_load; (iterate 3 exact rfl); (focus repeat first | with_reducible assumption | exact heap_alloc_same _ _ | exact World.putObj_heap_same (by first | omega | (simp only [World.size_alloc, World.putObj_size, ne_eq]; omega)) | ((first | refine hAl ?_ ?_ | refine hPu ?_ ?_); focus first | omega | (simp only [World.size_alloc, World.putObj_size, ne_eq]; omega))); exact rfl; conv => enter [6, 3]; whnf) | (apply wr_pick (t := true); (iterate 2 exact rfl); with_reducible (conv => enter [6, 3]; whnf)) | (apply wc_true; exact rfl))
      refine wr_loadAll (cs := [.int .i64 k1, S k2]) rfl rfl rfl hf2 rfl ?_
      refine wr_buildSlice (vs := [.agg #[.int .i64 k1, S k2]]) rfl rfl (by intro v hv; simp at hv; subst hv; rfl) rfl (by decide) (by decide) (by decide) ?_
      refine wr_append2 (v := ov) (n := l.length) (m := 1) (news := [.int .i64 k1, S k2]) rfl rfl (hown2.alloc _) rfl (heap_alloc_same _ _) rfl (by intro u hu; simp at hu; rcases hu with rfl | rfl <;> rfl) rfl (by decide) (by omega) (by omega) (by simp; omega) ?_
      intro v' w3 ho3 hk3 hb3
      have hblk : ∀ i, ov.ownBlock = some i → ob + 1 ≤ i ∧ i < w2.heap.size := fun i hi => hown2.lt i hi
      have hob3 := hk3.heap (hAl (by omega) hob2) (fun h => by have := hblk _ h; omega)
      have hob3l := lt_of_heap hob3
      have h1' := own_one ho3
      (repeat first | (apply wr_store; (iterate 3 exact rfl); (first | exact rfl | with_reducible assumption); (focus repeat first | with_reducible assumption | exact heap_alloc_same _ _ | exact World.putObj_heap_same (by first | omega | (simp only [World.size_alloc, World.putObj_size, ne_eq]; omega)) | ((first | refine hAl ?_ ?_ | refine hPu ?_ ?_); focus first | omega | (simp only [World.size_alloc, World.putObj_size, ne_eq]; omega))); exact rfl) | (apply wr_nil; try simp only [thenE, inBlockE, bodyQ]))
      try simp only [bodyQ]
      refine leave0 rfl ⟨?_, ?_⟩
      · rw [show refsAdd l (k1, k2) = l ++ [(k1, k2)] from if_pos ⟨h0, hm⟩]
        refine ⟨v', World.putObj_heap_same hob3l, ?_⟩
        have e : (l ++ [(k1, k2)]).flatMap GK = l.flatMap GK ++ [.int .i64 k1, S k2] := by simp [GK]
        rw [e, List.length_append]
        exact own_keep ho3 ((Keeps.refl (fun k => k = ob) w3).put _ (fun _ => rfl)) (fun b hb e => by have := (ho3.lt b hb).1; omega)
      · exact (((hk1.trans hk2).upD.alloc _).trans' hk3 (fun i hi h => by have := hblk _ h; omega)).put _ (fun _ => Nat.le_refl _)
def refsP (kind : Int) (p : PL) : List KeyD := if kind = 1 then refsAdd [] (2, p.route) else if kind = 2 then p.rules.foldl (fun l r => refsAdd l (3, r.2)) [] else if kind = 3 then refsAdd [(4, p.name)] (5, p.secret) else []
theorem refs_foldl_len : ∀ (rs : List RuleD) (l : List KeyD), (rs.foldl (fun l r => refsAdd l (3, r.2)) l).length ≤ l.length + rs.length
  | [], l => by simp
  | r :: rs, l => by
    have h1 := refs_foldl_len rs (refsAdd l (3, r.2))
    have h2 := refsAdd_len l (3, r.2)
    simp only [List.foldl_cons, List.length_cons]; omega
set_option maxRecDepth 100000 in
set_option maxHeartbeats 2000000 in
theorem refs_ca (kind : Int) (p : PL) (hp : p.ok) (rv av : Value) (w : World) (hs : PlS w p rv av) :
    Ca Tryd.prog 18 #[.int .i64 kind, PlV p rv av] w fun v w' => w'.ownsRow w.heap.size 49 2 v (refsP kind p).length ((refsP kind p).flatMap GK) ∧ Keeps NoB w w' := by
  have hr1 := slR_one hs.r
  have ha1 := slR_one hs.a
  refine ca_of_body (args := [.int .i64 kind, PlV p rv av]) Tryd.func18 rfl (by kernel_rfl) ?_
  have hN := hp.rulesN
  obtain ⟨w1, hw1⟩ : ∃ w1, w1 = (w.alloc (.cells (PlV p rv av).cells 26)).alloc (.cells (Value.slice none 0 0).cells 46) := ⟨_, rfl⟩
  have hk1 : Keeps NoB w w1 := by rw [hw1]; exact ((Keeps.refl NoB w).alloc _).alloc _
  have hb1 : w1.heap[w.heap.size]? = some (.cells (PlC p rv av).toArray 26 (0, 0)) := by rw [hw1]; exact hAl (by simp) (heap_alloc_same w (.cells (PlV p rv av).cells 26))
  have hob1 : RS (w.heap.size + 1) [] w1 := by rw [hw1]; exact ⟨.slice none 0 0, heap_alloc_at _ _ (by simp), rfl, .inl ⟨rfl, rfl⟩⟩
  have hs1 : w1.heap.size = w.heap.size + 2 := by rw [hw1]; simp
  have hsl1 := hs.kin hk1
  (repeat first | (apply wr_assign; exact rfl; with_reducible (conv => enter [6, 3]; whnf)) | apply wr_end | apply wc_seq | apply wc_region | (apply wr_box; iterate 2 exact rfl) | (apply wr_alloc; exact rfl))
  refine wr_makeFunc rfl rfl rfl ?_
  (repeat first | (apply wr_move; exact rfl; with_reducible (conv => enter [6, 3]; whnf)) | (apply wr_assign; exact rfl; with_reducible (conv => enter [6, 3]; whnf)) | apply wr_end | apply wc_seq | apply wc_region | apply wc_block | (apply wr_cmp; (iterate 3 exact rfl); exact cmp_eq _ _))
  refine wc_keep [(3, .pointer (some ⟨w.heap.size, 0, none⟩)), (5, .pointer (some ⟨w.heap.size + 1, 0, none⟩)), (6, .func (.func 40) #[] #[.pointer (some ⟨w.heap.size + 1, 0, none⟩)]), (11, .bool (decide (kind = 1))), (10, .int .i64 kind)] ⟨rfl, by show Value.pointer _ = _; simp, by show Value.func _ _ _ = _; simp, rfl, rfl, trivial⟩ ?_
  intro fk
  change Wc _ _ _ _ _ _ _ ((w.alloc (.cells (PlV p rv av).cells 26)).alloc (.cells (Value.slice none 0 0).cells 46))
  rw [← hw1]
  clear hw1
  by_cases h1 : kind = 1
  · subst h1
    (repeat first | (apply wr_move; exact rfl; with_reducible (conv => enter [6, 3]; whnf)) | apply wc_region | (apply wr_fieldAddr; iterate 2 exact rfl) | (apply wr_load; (iterate 3 exact rfl); (focus repeat first | with_reducible assumption | exact heap_alloc_same _ _ | exact World.putObj_heap_same (by first | omega | (simp only [World.size_alloc, World.putObj_size, ne_eq]; omega)) | ((first | refine hAl ?_ ?_ | refine hPu ?_ ?_); focus first | omega | (simp only [World.size_alloc, World.putObj_size, ne_eq]; omega))); exact rfl; conv => enter [6, 3]; whnf) | (apply wc_true; exact rfl))
    refine wr_callv rfl (callV_of (args := [.int .i64 2, S p.route]) (by kernel_rfl) (add_ca (w.heap.size + 1) [] (2, p.route) w1 hob1 (by simp))) rfl rfl ?_
    rintro v w2 ⟨⟨ov, ho1, ho2⟩, hk2⟩
    (repeat first | (apply wr_assign; exact rfl; with_reducible (conv => enter [6, 3]; whnf)) | apply wr_end | apply wc_seq | apply wc_region | (apply wr_load; (iterate 3 exact rfl); (focus repeat first | with_reducible assumption | exact heap_alloc_same _ _ | exact World.putObj_heap_same (by first | omega | (simp only [World.size_alloc, World.putObj_size, ne_eq]; omega)) | ((first | refine hAl ?_ ?_ | refine hPu ?_ ?_); focus first | omega | (simp only [World.size_alloc, World.putObj_size, ne_eq]; omega))); exact rfl; conv => enter [6, 3]; whnf) | (apply wc_ret; try simp only [thenE, inBlockE, bodyQ]) | (apply wr_nil; try simp only [thenE, inBlockE, bodyQ]))
    exact leave1 (v := ov) rfl rfl ⟨own_down ho2 (by omega), hk1.trans' hk2 (fun i hi h => by omega)⟩
  by_cases h2 : kind = 2
  · subst h2
    obtain ⟨a, c, rfl, hc, hat⟩ := hsl1.r.shape
    (repeat first | (apply wr_move; exact rfl; with_reducible (conv => enter [6, 3]; whnf)) | (apply wr_assign; exact rfl; with_reducible (conv => enter [6, 3]; whnf)) | apply wr_end | apply wc_seq | apply wc_region | apply wc_block | (apply wr_fieldAddr; iterate 2 exact rfl) | (apply wr_len_slice; iterate 2 exact rfl) | (apply wr_load; (iterate 3 exact rfl); (focus repeat first | with_reducible assumption | exact heap_alloc_same _ _ | exact World.putObj_heap_same (by first | omega | (simp only [World.size_alloc, World.putObj_size, ne_eq]; omega)) | ((first | refine hAl ?_ ?_ | refine hPu ?_ ?_); focus first | omega | (simp only [World.size_alloc, World.putObj_size, ne_eq]; omega))); exact rfl; conv => enter [6, 3]; whnf) | (apply wr_cmp; (iterate 3 exact rfl); exact cmpT (by dsimp only [cmpP]; first | done | omega)) | (apply wc_true; exact rfl) | (apply wc_false; exact rfl))
    refine wc_loopL (α := Nat) (fun k => [(5, .pointer (some ⟨w.heap.size + 1, 0, none⟩)), (6, .func (.func 40) #[] #[.pointer (some ⟨w.heap.size + 1, 0, none⟩)]), (20, .slice a p.rules.length c), (21, .int .i64 (p.rules.length : Int)), (22, .int .i64 (k : Int))])
      (fun k ds w' => ds = [] ∧ k ≤ p.rules.length ∧ RS (w.heap.size + 1) ((p.rules.take k).foldl (fun l r => refsAdd l (3, r.2)) []) w' ∧ Keeps (fun i => w.heap.size + 1 ≤ i) w1 w' ∧ SlR w' 2 (.slice a p.rules.length c) p.rules.length (p.rules.flatMap GR)) (fun k => p.rules.length - k) 0 ⟨rfl, Nat.zero_le _, hob1, Keeps.refl _ _, hsl1.r⟩ ⟨rfl, rfl, rfl, rfl, rfl, trivial⟩ ?_
    rintro k ds f0 w2 ⟨rfl, hk, hRS, hk2, hsl2⟩
    have hs2 := hk2.size
    by_cases hlt : k < p.rules.length
    · obtain ⟨a', c', he', _, hat2⟩ := hsl2.shape
      simp only [Value.slice.injEq, true_and] at he'
      obtain ⟨rfl, rfl⟩ := he'
      obtain ⟨b, o, rfl, cur, e, fr, hb, hr⟩ := hat2 (by omega)
      obtain ⟨b0, o0, he0, cur0, e0, fr0, hb0, _⟩ := (by
        obtain ⟨_, a0, c0, he0, _, hh⟩ := hs.r
        simp only [Value.slice.injEq, true_and] at he0
        obtain ⟨rfl, rfl⟩ := he0
        rcases hh with ⟨h0, _⟩ | ⟨b0, o0, cur0, e0, fr0, he0, hb0, hr0⟩
        · omega
        · exact ⟨b0, o0, he0, cur0, e0, fr0, hb0, True.intro⟩ : ∃ (b0 o0 : Nat), (some ⟨b, o, none⟩ : Option Addr) = some ⟨b0, o0, none⟩ ∧ ∃ (cur0 : Array Value) (e0 : TypeId) (fr0 : Nat × Nat), w.heap[b0]? = some (.cells cur0 e0 fr0) ∧ True)
      have hbw : b < w.heap.size := by
        simp at he0
        rw [he0.1]; exact lt_of_heap hb0
      obtain ⟨x, hx⟩ : ∃ x, p.rules[k]? = some x := ⟨p.rules[k], by simp [hlt]⟩
      obtain ⟨x1, x2⟩ := x
      have hfl := refs_foldl_len (p.rules.take k) []
      rw [List.length_take] at hfl
      simp only [List.length_nil] at hfl
      (repeat first | apply wr_end | apply wc_seq | apply wc_region | apply wc_skip | apply wc_block | (apply wr_cmp; (iterate 3 exact rfl); exact cmpT (by dsimp only [cmpP]; first | done | omega)) | (apply wc_true; exact rfl))
      refine wr_indexAddr (i := k) rfl rfl rfl hlt ?_
      refine wr_loadElem (G := GR) (n := p.rules.length) rfl rfl GR_len rfl hb hr hlt hx rfl ?_
      apply wr_alloc
      exact rfl
      refine wr_storeAll (cs := [S x1, S x2]) rfl rfl rfl (by intro u hu; simp at hu; rcases hu with rfl | rfl <;> rfl) (heap_alloc_same _ _) rfl rfl ?_
      obtain ⟨w3, hw3⟩ : ∃ w3, w3 = (w2.alloc (.cells (Value.agg #[S [], S []]).cells 51)).putObj w2.heap.size (.cells #[S x1, S x2] 51 (0, 0)) := ⟨_, rfl⟩
      have hk3 : Keeps NoB w2 w3 := by rw [hw3]; exact ((Keeps.refl NoB w2).alloc _).put _ (fun h => by omega)
      have hf3 : w3.heap[w2.heap.size]? = some (.cells #[S x1, S x2] 51 (0, 0)) := by rw [hw3]; exact World.putObj_heap_same (by simp)
      rw [← hw3]
      clear hw3
      have hRS3 := hRS.kin hk3
      (repeat first | (apply wr_move; exact rfl; with_reducible (conv => enter [6, 3]; whnf)) | apply wr_end | apply wc_region | (apply wr_fieldAddr; iterate 2 exact rfl) | (apply wr_load; (iterate 3 exact rfl); (focus repeat first | with_reducible assumption | exact heap_alloc_same _ _ | exact World.putObj_heap_same (by first | omega | (simp only [World.size_alloc, World.putObj_size, ne_eq]; omega)) | ((first | refine hAl ?_ ?_ | refine hPu ?_ ?_); focus first | omega | (simp only [World.size_alloc, World.putObj_size, ne_eq]; omega))); exact rfl; conv => enter [6, 3]; whnf))
      refine wr_callv rfl (callV_of (args := [.int .i64 3, S x2]) (by kernel_rfl) (add_ca (w.heap.size + 1) _ (3, x2) w3 hRS3 (by omega))) rfl rfl ?_
      rintro v w4 ⟨hRS4, hk4⟩
      have hk24 : Keeps (fun i => w.heap.size + 1 ≤ i) w2 w4 := hk3.upD.trans hk4
      (repeat first | (apply wr_move; exact rfl; with_reducible (conv => enter [6, 3]; whnf)) | apply wr_end | apply wc_region | (apply wr_add; (iterate 3 exact rfl); exact w_fit (by dsimp only [kIn]; first | done | omega)) | (apply wr_nil; try simp only [thenE, inBlockE, bodyQ]))
      refine ⟨k + 1, by omega, ⟨by trivial, hlt, ?_, hk2.trans hk24, hsl2.keep hk24 (fun b' hb' h => by simp [Value.ownBlock] at hb'; omega)⟩, rfl, rfl, rfl, rfl, by simp, trivial⟩
      rw [List.take_add_one, hx]
      simpa [List.foldl_append] using hRS4
    · have he : k = p.rules.length := by omega
      subst he
      rw [List.take_length] at hRS
      obtain ⟨ov, ho1, ho2⟩ := hRS
      (repeat first | (apply wr_assign; exact rfl; with_reducible (conv => enter [6, 3]; whnf)) | apply wr_end | apply wc_seq | apply wc_region | (apply wr_load; (iterate 3 exact rfl); (focus repeat first | with_reducible assumption | exact heap_alloc_same _ _ | exact World.putObj_heap_same (by first | omega | (simp only [World.size_alloc, World.putObj_size, ne_eq]; omega)) | ((first | refine hAl ?_ ?_ | refine hPu ?_ ?_); focus first | omega | (simp only [World.size_alloc, World.putObj_size, ne_eq]; omega))); exact rfl; conv => enter [6, 3]; whnf) | (apply wr_cmp; (iterate 3 exact rfl); exact cmpF (by dsimp only [cmpN]; first | done | omega)) | (apply wc_false; exact rfl) | (apply wc_exit; try simp only [thenE, inBlockE, bodyQ, ↓reduceIte, Nat.reduceEqDiff]) | (apply wc_ret; try simp only [thenE, inBlockE, bodyQ]))
      exact leave1 (v := ov) rfl rfl ⟨own_down ho2 (by omega), hk1.trans' hk2 (fun i hi h => by omega)⟩
  by_cases h3 : kind = 3
  · subst h3
    have hobc : ∃ ov, w1.heap[w.heap.size + 1]? = some (.cells #[ov] 46 (0, 0)) := by
      obtain ⟨ov, h, _⟩ := hob1
      exact ⟨ov, h⟩
    obtain ⟨ov0, hob1c⟩ := hobc
    (repeat first | (apply wr_assign; exact rfl; with_reducible (conv => enter [6, 3]; whnf)) | apply wr_end | apply wc_seq | apply wc_region | (apply wr_fieldAddr; iterate 2 exact rfl) | (apply wr_load; (iterate 3 exact rfl); (focus repeat first | with_reducible assumption | exact heap_alloc_same _ _ | exact World.putObj_heap_same (by first | omega | (simp only [World.size_alloc, World.putObj_size, ne_eq]; omega)) | ((first | refine hAl ?_ ?_ | refine hPu ?_ ?_); focus first | omega | (simp only [World.size_alloc, World.putObj_size, ne_eq]; omega))); exact rfl; conv => enter [6, 3]; whnf) | (apply wr_cmp; (iterate 3 exact rfl); exact cmpT (by dsimp only [cmpP]; first | done | omega)) | (apply wr_cmp; (iterate 3 exact rfl); exact cmpF (by dsimp only [cmpN]; first | done | omega)) | (apply wc_true; exact rfl) | (apply wc_false; exact rfl))
    refine wr_build (ps := [(0, .int .i64 4), (1, S p.name)]) (cs := [.int .i64 4, S p.name]) rfl rfl rfl rfl ?_
    refine wr_buildSlice (vs := [.agg #[.int .i64 4, S p.name]]) rfl rfl (by intro v hv; simp at hv; subst hv; rfl) rfl (by decide) (by decide) (by decide) ?_
    have hob2 := hAl (o' := .cells ([Value.agg #[.int .i64 4, S p.name]].flatMap fun v => v.cells.toList).toArray 49) (by omega) hob1c
    have hob2l := lt_of_heap hob2
    have hown2 := World.ownsRow_lit (base := w.heap.size + 1 + 1) (e := 49) (size := 2) w1 ([Value.agg #[.int .i64 4, S p.name]].flatMap fun v => v.cells.toList).toArray 1 (by omega) (by decide) rfl
    (repeat first | (apply wr_move; exact rfl; with_reducible (conv => enter [6, 3]; whnf)) | apply wr_end | apply wc_region | (apply wr_fieldAddr; iterate 2 exact rfl) | (apply wr_load; (iterate 3 exact rfl); (focus repeat first | with_reducible assumption | exact heap_alloc_same _ _ | exact World.putObj_heap_same (by first | omega | (simp only [World.size_alloc, World.putObj_size, ne_eq]; omega)) | ((first | refine hAl ?_ ?_ | refine hPu ?_ ?_); focus first | omega | (simp only [World.size_alloc, World.putObj_size, ne_eq]; omega))); exact rfl; conv => enter [6, 3]; whnf) | (apply wr_store; (iterate 3 exact rfl); (first | exact rfl | with_reducible assumption); (focus repeat first | with_reducible assumption | exact heap_alloc_same _ _ | exact World.putObj_heap_same (by first | omega | (simp only [World.size_alloc, World.putObj_size, ne_eq]; omega)) | ((first | refine hAl ?_ ?_ | refine hPu ?_ ?_); focus first | omega | (simp only [World.size_alloc, World.putObj_size, ne_eq]; omega))); exact rfl))
    have hRS2 : RS (w.heap.size + 1) [(4, p.name)] ((w1.alloc (.cells ([Value.agg #[.int .i64 4, S p.name]].flatMap fun v => v.cells.toList).toArray 49)).putObj (w.heap.size + 1) (.cells #[.slice (some ⟨w1.heap.size, 0, none⟩) 1 1] 46 (0, 0))) :=
      ⟨_, World.putObj_heap_same hob2l, own_keep hown2 ((Keeps.refl (fun k => k = w.heap.size + 1) _).put _ (fun _ => rfl)) (fun b hb e => by simp [Value.ownBlock] at hb; omega)⟩
    refine wr_callv rfl (callV_of (args := [.int .i64 5, S p.secret]) (by kernel_rfl) (add_ca (w.heap.size + 1) [(4, p.name)] (5, p.secret) _ hRS2 (by simp))) rfl rfl ?_
    rintro v w2 ⟨⟨ov, ho1, ho2⟩, hk2⟩
    (repeat first | (apply wr_assign; exact rfl; with_reducible (conv => enter [6, 3]; whnf)) | apply wr_end | apply wc_seq | apply wc_region | (apply wr_load; (iterate 3 exact rfl); (focus repeat first | with_reducible assumption | exact heap_alloc_same _ _ | exact World.putObj_heap_same (by first | omega | (simp only [World.size_alloc, World.putObj_size, ne_eq]; omega)) | ((first | refine hAl ?_ ?_ | refine hPu ?_ ?_); focus first | omega | (simp only [World.size_alloc, World.putObj_size, ne_eq]; omega))); exact rfl; conv => enter [6, 3]; whnf) | (apply wc_ret; try simp only [thenE, inBlockE, bodyQ]) | (apply wr_nil; try simp only [thenE, inBlockE, bodyQ]))
    exact leave1 (v := ov) rfl rfl ⟨own_down ho2 (by omega), (((hk1.alloc _).put _ (fun h => by omega)).trans' hk2 (fun i hi h => by omega))⟩
  · have hP : refsP kind p = [] := by unfold refsP; rw [if_neg h1, if_neg h2, if_neg h3]
    obtain ⟨ov, ho1, ho2⟩ := hob1
    rw [decide_eq_false h1]
    (repeat first | (apply wr_assign; exact rfl; with_reducible (conv => enter [6, 3]; whnf)) | apply wr_end | apply wc_seq | apply wc_region | apply wc_skip | (apply wr_load; (iterate 3 exact rfl); (focus repeat first | with_reducible assumption | exact heap_alloc_same _ _ | exact World.putObj_heap_same (by first | omega | (simp only [World.size_alloc, World.putObj_size, ne_eq]; omega)) | ((first | refine hAl ?_ ?_ | refine hPu ?_ ?_); focus first | omega | (simp only [World.size_alloc, World.putObj_size, ne_eq]; omega))); exact rfl; conv => enter [6, 3]; whnf) | (apply wr_cmp; (iterate 3 exact rfl); exact cmpF (by dsimp only [cmpN]; first | done | omega)) | (apply wc_false; exact rfl) | (apply wc_ret; try simp only [thenE, inBlockE, bodyQ]))
    exact leave1 (v := ov) rfl rfl ⟨by rw [hP]; exact own_down ho2 (by omega), hk1⟩
end Go.Proofs.YthlbgeonobicbaaDoor

namespace Go.Proofs.YthlbgeonobicbaaDoor
open Go Go.V Go.RowKit
set_option linter.unusedVariables false
set_option linter.unusedSimpArgs false

def exP1 : PL := ⟨[97], 0, [], [], 0, [], [], [107]⟩
def exP2 : PL := ⟨[], 1, [], [], 0, [], [], []⟩
def exP3 : PL := ⟨[97], 0, [], [], 0, [115], [], []⟩
theorem ex_t1 : textF 1 [97] = [10, 1, 97] := by rw [textF_eq (by decide), varint_lt (by decide), varint_lt (by decide)]; rfl
theorem ex_t8 : textF 8 [107] = [66, 1, 107] := by rw [textF_eq (by decide), varint_lt (by decide), varint_lt (by decide)]; rfl
theorem ex_parts : partsB exP1 = [[10, 1, 97], [], [], [], [], [], [], [66, 1, 107]] := by
  have h1 : txt 1 [97] = [10, 1, 97] := by unfold txt; rw [if_neg (by decide), ex_t1]
  have h8 : txt 8 [107] = [66, 1, 107] := by unfold txt; rw [if_neg (by decide), ex_t8]
  unfold partsB exP1
  simp only
  rw [h1, h8]
  rfl
theorem ex_put1 : putP 5 exP1 = some [10, 1, 97, 66, 1, 107] := by
  have h : (List.range 8).all (fitK (hasF 5).1 exP1) = true := by
    refine List.all_eq_true.2 fun i hi => ?_
    have hi' := List.mem_range.1 hi
    unfold fitK
    rw [ex_parts]
    match i with
    | 0 | 1 | 2 | 3 | 4 | 5 | 6 | 7 => rfl
    | i + 8 => omega
  unfold putP
  rw [if_pos ⟨rfl, by decide, by decide, h⟩, ex_parts]; rfl
theorem ex_put2 : putP 5 exP2 = none := by
  refine if_neg fun h => ?_
  have h1 := List.all_eq_true.1 h.2.2.2 1 (by decide)
  have h2 : (partsB exP2).getD 1 [] = numberF 2 1 := rfl
  have h3 : numberF 2 1 ≠ [] := numberF_ne (by decide)
  unfold fitK at h1
  rw [h2, decide_eq_false h3] at h1
  exact absurd h1 (by decide)
theorem ex_tk1 : takeF [10, 1, 97, 66, 1, 107] = .ok ⟨1, 2, 0, [97]⟩ [66, 1, 107] := by rfl
theorem ex_tk2 : takeF [66, 1, 107] = .ok ⟨8, 2, 0, [107]⟩ [] := by rfl
theorem ex_parse : parseF [10, 1, 97, 66, 1, 107] = some [⟨1, 2, 0, [97]⟩, ⟨8, 2, 0, [107]⟩] := by
  rw [parseF_ok (by decide) ex_tk1, parseF_ok (by decide) ex_tk2, parseF_nil]; rfl
theorem ex_get : getP 5 [10, 1, 97, 66, 1, 107] = some exP1 := by
  unfold getP
  rw [ex_parse]; rfl
theorem ex_refs : refsP 3 exP3 = [(4, [97]), (5, [115])] := rfl
theorem exOk (p : PL) (h : p = exP1 ∨ p = exP2 ∨ p = exP3) : p.ok := by
  rcases h with rfl | rfl | rfl <;> (refine ⟨by decide, by decide, by decide, (fun _ hr => nomatch hr), by decide, by decide, by decide, (fun _ hr => nomatch hr), by decide, by decide⟩)
theorem PlS.none (w : World) (p : PL) (hr : p.rules = []) (ha : p.addrs = []) : PlS w p (.slice none 0 0) (.slice none 0 0) := ⟨by rw [hr]; exact (PlS.zero w).r, by rw [ha]; exact (PlS.zero w).a⟩
theorem getR_some {kind : Int} {s : List UInt8} {v : Value} {w' : World} {p : PL} (h : getR kind s v w') (hp : getP kind s = some p) : ∃ rv av, v = .tuple #[PlV p rv av, .bool true] ∧ PlS w' p rv av := by
  obtain ⟨p', rv, av, b, rfl, hs, ⟨rfl, h1⟩ | ⟨rfl, h1, _⟩⟩ := h
  · rw [hp] at h1
    cases h1
    exact ⟨rv, av, rfl, hs⟩
  · rw [hp] at h1; cases h1
set_option maxRecDepth 100000 in
set_option maxHeartbeats 4000000 in
theorem examples_ca {p q : Addr} {w : World} (hg : Glo w p q) : Ca Tryd.prog 10 #[] w fun v w' => v = .bool true ∧ Keeps NoB w w' := by
  refine ca_of_body (args := []) Tryd.func10 rfl (by kernel_rfl) ?_
  (repeat first | (apply wr_assign; exact rfl; with_reducible (conv => enter [6, 3]; whnf)) | apply wr_end | apply wc_seq | apply wc_region)
  refine wr_build (ps := [(0, S [97]), (7, S [107])]) (cs := PlC exP1 (.slice none 0 0) (.slice none 0 0)) rfl rfl rfl rfl ?_
  refine wr_call (vs := [.int .i64 5, PlV exP1 (.slice none 0 0) (.slice none 0 0)]) rfl (pPut_ca 5 exP1 (exOk _ (.inl rfl)) _ _ _ (PlS.none _ _ rfl rfl)) rfl ?_
  rintro v w1 ⟨rfl, hk1⟩
  rw [ex_put1]
  dsimp only [putV]
  have hg1 := hg.keep hk1 (fun i hi h => h)
  (repeat first | (apply wr_move; exact rfl; with_reducible (conv => enter [6, 3]; whnf)) | (apply wr_assign; exact rfl; with_reducible (conv => enter [6, 3]; whnf)) | apply wr_end | apply wc_seq | apply wc_region | (apply wr_extract; (iterate 3 exact rfl); with_reducible (conv => enter [6, 3]; whnf)))
  refine wr_call (vs := [.int .i64 5, S [10, 1, 97, 66, 1, 107]]) rfl (pGet_ca 5 [10, 1, 97, 66, 1, 107] (by decide) hg1) rfl ?_
  rintro v w2 ⟨hv, hk2⟩
  obtain ⟨rv, av, rfl, hs2⟩ := getR_some hv ex_get
  have hr1 := slR_one hs2.r
  have ha1 := slR_one hs2.a
  clear hv
  (repeat first | (apply wr_move; exact rfl; with_reducible (conv => enter [6, 3]; whnf)) | (apply wr_alloc; exact rfl) | (apply wr_extract; (iterate 3 exact rfl); with_reducible (conv => enter [6, 3]; whnf)))
  refine wr_storeAll (cs := PlC exP1 rv av) rfl rfl rfl (PlC_one hr1 ha1) (heap_alloc_same _ _) rfl rfl ?_
  obtain ⟨w3, hw3⟩ : ∃ w3, w3 = (w2.alloc (.cells (Value.agg PlZ.toArray).cells 26)).putObj w2.heap.size (.cells (PlC exP1 rv av).toArray 26 (0, 0)) := ⟨_, rfl⟩
  have hk3 : Keeps NoB w2 w3 := by rw [hw3]; exact ((Keeps.refl NoB w2).alloc _).put _ (fun h => by omega)
  have hf3 : w3.heap[w2.heap.size]? = some (.cells (PlC exP1 rv av).toArray 26 (0, 0)) := by rw [hw3]; exact World.putObj_heap_same (by simp)
  rw [← hw3]
  clear hw3
  generalize w2.heap.size = fb at hf3 ⊢
  have hk03 := hk1.trans (hk2.trans hk3)
  (repeat first | (apply wr_assign; exact rfl; with_reducible (conv => enter [6, 3]; whnf)) | apply wr_end | apply wc_seq | apply wc_region)
  refine wr_call (vs := [.int .i64 3]) rfl (has_ca 3 _) rfl ?_
  rintro v w4 ⟨rfl, hk4⟩
  have hf4 := hk4.heap hf3 (fun h => h)
  (repeat first | (apply wr_move; exact rfl; with_reducible (conv => enter [6, 3]; whnf)) | (apply wr_assign; exact rfl; with_reducible (conv => enter [6, 3]; whnf)) | apply wr_end | apply wc_seq | apply wc_region | (apply wr_extract; (iterate 3 exact rfl); with_reducible (conv => enter [6, 3]; whnf)))
  refine wr_build (ps := [(1, .int .u64 1)]) (cs := PlC exP2 (.slice none 0 0) (.slice none 0 0)) rfl rfl rfl rfl ?_
  refine wr_call (vs := [.int .i64 5, PlV exP2 (.slice none 0 0) (.slice none 0 0)]) rfl (pPut_ca 5 exP2 (exOk _ (.inr (.inl rfl))) _ _ _ (PlS.none _ _ rfl rfl)) rfl ?_
  rintro v w5 ⟨rfl, hk5⟩
  rw [ex_put2]
  dsimp only [putV]
  have hf5 := hk5.heap hf4 (fun h => h)
  (repeat first | (apply wr_move; exact rfl; with_reducible (conv => enter [6, 3]; whnf)) | (apply wr_assign; exact rfl; with_reducible (conv => enter [6, 3]; whnf)) | apply wr_end | apply wc_seq | apply wc_region | (apply wr_fieldAddr; iterate 2 exact rfl) | (apply wr_not; iterate 2 exact rfl) | (apply wr_load; (iterate 3 exact rfl); (focus repeat first | with_reducible assumption | exact heap_alloc_same _ _ | exact World.putObj_heap_same (by first | omega | (simp only [World.size_alloc, World.putObj_size, ne_eq]; omega)) | ((first | refine hAl ?_ ?_ | refine hPu ?_ ?_); focus first | omega | (simp only [World.size_alloc, World.putObj_size, ne_eq]; omega))); exact rfl; conv => enter [6, 3]; whnf) | (apply wr_pick (t := true); (iterate 2 exact rfl); with_reducible (conv => enter [6, 3]; whnf)) | (apply wr_extract; (iterate 3 exact rfl); with_reducible (conv => enter [6, 3]; whnf)) | (apply wr_streqc; (iterate 3 exact rfl); (first | exact decide_eq_true (by with_reducible assumption) | exact decide_eq_false (by with_reducible assumption) | exact decide_eq_true rfl | exact rfl)))
  refine wr_build (ps := [(0, S [97]), (5, S [115])]) (cs := PlC exP3 (.slice none 0 0) (.slice none 0 0)) rfl rfl rfl rfl ?_
  refine wr_call (vs := [.int .i64 3, PlV exP3 (.slice none 0 0) (.slice none 0 0)]) rfl (refs_ca 3 exP3 (exOk _ (.inr (.inr rfl))) _ _ _ (PlS.none _ _ rfl rfl)) rfl ?_
  rintro v w6 ⟨ho, hk6⟩
  obtain ⟨al, cl, rfl, _, _⟩ := (SlR.of_own ho).shape
  (repeat first | (apply wr_assign; exact rfl; with_reducible (conv => enter [6, 3]; whnf)) | apply wr_end | (apply wr_len_slice; iterate 2 exact rfl) | (apply wr_cmp; (iterate 3 exact rfl); exact cmp_eq _ _) | (apply wr_pick (t := true); (iterate 2 exact rfl); with_reducible (conv => enter [6, 3]; whnf)) | (apply wc_ret; try simp only [thenE, inBlockE, bodyQ]))
  exact leave1 (v := .bool true) rfl rfl ⟨rfl, hk03.trans (hk4.trans (hk5.trans hk6))⟩
end Go.Proofs.YthlbgeonobicbaaDoor

namespace Go.Proofs.YthlbgeonobicbaaDoor
open Go Go.V Go.RowKit
set_option linter.unusedVariables false
set_option linter.unusedSimpArgs false

def wordL : List (List UInt8) := [[97], [98], [99, 47, 100], [101, 46, 102], [103, 45, 49], [122, 122]]
def wordOf (n : Nat) : List UInt8 := wordL.getD (n % 6) []
theorem wordOf_get (n : Nat) : wordL[n % 6]? = some (wordOf n) := by
  have h : n % 6 < 6 := Nat.mod_lt _ (by decide)
  unfold wordOf
  match hh : n % 6, h with
  | 0, _ | 1, _ | 2, _ | 3, _ | 4, _ | 5, _ => rfl
set_option maxRecDepth 100000 in
theorem word_ca (n : Nat) (hn : n < 256) (w : World) : Ca Tryd.prog 27 #[.int .u8 (n : Int)] w fun v w' => v = S (wordOf n) ∧ Keeps NoB w w' := by
  refine ca_of_body (args := [.int .u8 (n : Int)]) Tryd.func27 rfl (by kernel_rfl) ?_
  have h6 : n % 6 < 6 := Nat.mod_lt _ (by decide)
  (repeat first | (apply wr_assign; exact rfl; with_reducible (conv => enter [6, 3]; whnf)) | apply wr_end | apply wc_seq | apply wc_region)
  refine wr_buildSlice (vs := wordL.map S) rfl rfl (by intro v hv; simp [wordL] at hv; rcases hv with rfl | rfl | rfl | rfl | rfl | rfl <;> rfl) rfl (by decide) (by decide) (by decide) ?_
  apply wr_move
  exact rfl
  refine wr_remN (n := n) (m := 6) rfl rfl rfl (by decide) ?_
  refine wr_indexAddr (i := n % 6) rfl rfl rfl h6 ?_
  refine wr_load (v := S (wordOf n)) rfl rfl rfl (heap_alloc_same _ _) (by
    rw [List.getElem?_toArray, show (List.flatMap (fun v : Value => v.cells.toList) (List.map S wordL)) = wordL.map S from rfl, List.getElem?_map, Nat.zero_add, Nat.mul_one, wordOf_get]; rfl) ?_
  (repeat first | (apply wr_assign; exact rfl; with_reducible (conv => enter [6, 3]; whnf)) | apply wr_end | (apply wc_ret; try simp only [thenE, inBlockE, bodyQ]))
  exact leave1 (v := S (wordOf n)) rfl rfl ⟨rfl, (Keeps.refl NoB w).alloc _⟩
structure MD where
  p : PL
  kind : Int
  own : Bool
  name : Nat
  many : Nat
abbrev MdC (m : MD) (rv av : Value) : List Value := PlC m.p rv av ++ [.int .i64 m.kind, .bool m.own, .int .u8 (m.name : Int), .int .u8 (m.many : Int)]
abbrev MdV (m : MD) (rv av : Value) : Value := .agg (MdC m rv av).toArray
def kOf (k : Int) : Nat := (k % 18446744073709551616).toNat % 5
def bareP (s : List UInt8) : PL := ⟨s, 0, [], [], 0, [], [], []⟩
def madeRule (many i : Nat) : RuleD := ([47, UInt8.ofNat (97 + i)], wordOf (many / 3 + i))
def madeAddr (many pol i : Nat) : AddrD := (wordOf (many / 4 + i), i + 1, pol % 1000)
def madeOwn (m : MD) : PL := match kOf m.kind with
  | 0 => { bareP (wordOf m.name) with port := 1 + m.p.port % 65535, route := wordOf m.many }
  | 1 => { bareP (wordOf m.name) with rules := (List.range (m.many % 3 + 1)).map (madeRule m.many) }
  | 2 => { bareP (wordOf m.name) with policy := m.many % 3, secret := if m.many / 3 % 2 = 0 then wordOf (m.many / 6) else [] }
  | 3 => { bareP (wordOf m.name) with addrs := (List.range (m.many % 4)).map (madeAddr m.many m.p.policy) }
  | _ => { bareP (wordOf m.name) with key := (m.p.key ++ List.replicate 20 0).take (16 + m.many % 4) }
def MD.out (m : MD) : Int × PL := if m.own = true then ((1 + kOf m.kind : Nat), madeOwn m) else (m.kind, m.p)
structure MD.ok (m : MD) : Prop where
  p : m.p.ok
  kind : -9223372036854775808 ≤ m.kind ∧ m.kind ≤ 9223372036854775807
  name : m.name < 256
  many : m.many < 256
def blkV (v : Value) : Nat := match v with
  | .pointer (some a) => a.block
  | _ => 0
theorem one_cells (vs : List Value) (cs : List Value) (h : vs.flatMap (fun v => v.cells.toList) = cs) (w : World) (e : TypeId) : (w.alloc (.cells (vs.flatMap (fun v => v.cells.toList)).toArray e)).heap[w.heap.size]? = some (.cells cs.toArray e (0, 0)) := by rw [h]; exact heap_alloc_same _ _
theorem pre_get {l m : List Value} {j : Nat} {u : Value} (h : l[j]? = some u) : (l ++ m).toArray[0 + j]? = some u := by
  rw [List.getElem?_toArray, Nat.zero_add, List.getElem?_append_left (List.getElem?_eq_some_iff.1 h).1, h]
theorem wrapU (k : Int) : IntKind.u64.wrap k = (((k % 18446744073709551616).toNat : Nat) : Int) := by
  show k % 18446744073709551616 = _
  omega
set_option maxRecDepth 100000 in
set_option maxHeartbeats 4000000 in
theorem made_ca (m : MD) (hm : m.ok) (rv av : Value) (w : World) (hs : PlS w m.p rv av) :
    Ca Tryd.prog 11 #[MdV m rv av] w fun v w' => ∃ rv' av', v = .tuple #[.int .i64 m.out.1, PlV m.out.2 rv' av'] ∧ PlS w' m.out.2 rv' av' ∧ Keeps NoB w w' := by
  have hr1 := slR_one hs.r
  have ha1 := slR_one hs.a
  obtain ⟨hp, hkind, hname, hmany⟩ := hm
  obtain ⟨p, kind, own, name, many⟩ := m
  simp only at hp hkind hname hmany hs
  refine ca_of_body (args := [MdV ⟨p, kind, own, name, many⟩ rv av]) Tryd.func11 rfl (by kernel_rfl) ?_
  (repeat first | (apply wr_assign; exact rfl; with_reducible (conv => enter [6, 3]; whnf)) | apply wr_end | apply wc_seq | apply wc_region | (apply wr_fieldAddr; iterate 2 exact rfl) | (apply wr_not; iterate 2 exact rfl) | (apply wr_box; iterate 2 exact rfl) | (apply wr_load; (iterate 3 exact rfl); (focus repeat first | with_reducible assumption | exact heap_alloc_same _ _ | exact World.putObj_heap_same (by first | omega | (simp only [World.size_alloc, World.putObj_size, ne_eq]; omega)) | ((first | refine hAl ?_ ?_ | refine hPu ?_ ?_); focus first | omega | (simp only [World.size_alloc, World.putObj_size, ne_eq]; omega))); exact rfl; conv => enter [6, 3]; whnf) | (apply wr_alloc; exact rfl))
  obtain ⟨w1, hw1⟩ : ∃ w1, w1 = (w.alloc (.cells (MdV ⟨p, kind, own, name, many⟩ rv av).cells 28)).alloc (.cells (Value.agg PlZ.toArray).cells 26) := ⟨_, rfl⟩
  have hk1 : Keeps NoB w w1 := by rw [hw1]; exact ((Keeps.refl NoB w).alloc _).alloc _
  have hm1 : w1.heap[w.heap.size]? = some (.cells #[S p.name, .int .u64 (p.port : Int), S p.route, rv, .int .u64 (p.policy : Int), S p.secret, av, S p.key, .int .i64 kind, .bool own, .int .u8 (name : Int), .int .u8 (many : Int)] 28 (0, 0)) := by rw [hw1]; exact hAl (by simp) (heap_alloc_same w (.cells (MdV ⟨p, kind, own, name, many⟩ rv av).cells 28))
  have hx1 : w1.heap[w.heap.size + 1]? = some (.cells PlZ.toArray 26 (0, 0)) := by rw [hw1]; exact heap_alloc_at _ _ (by simp)
  have hs1 : w1.heap.size = w.heap.size + 2 := by rw [hw1]; simp
  refine wc_keep [(1, .pointer (some ⟨w.heap.size, 0, none⟩)), (3, .pointer (some ⟨w.heap.size + 1, 0, none⟩)), (10, .bool (!own))] ⟨rfl, by show Value.pointer _ = _; simp, rfl, trivial⟩ ?_
  intro f0
  change Wc _ _ _ _ _ _ _ ((w.alloc (.cells (MdV ⟨p, kind, own, name, many⟩ rv av).cells 28)).alloc (.cells (Value.agg PlZ.toArray).cells 26))
  rw [← hw1]
  clear hw1
  cases own with
  | false =>
    (repeat first | apply wc_seq | (apply wc_true; exact rfl))
    refine wc_drawP (l := _) 5 _ (by kernel_rfl) (by kernel_rfl) rfl (by kernel_rfl) (by kernel_rfl) (by decide) ?_
    apply chP_pure
    focus
      intro x w' hk hF
      refine wr_fieldAddr rfl rfl ?_
      apply wr_nil
      exact ⟨rfl, Keeps.refl _ _⟩
    focus (intro x y h; rfl)
    focus kernel_rfl
    apply chP_pure
    focus
      intro x w' hk hF
      refine wr_load (v := .int .i64 kind) rfl rfl rfl (hk.heap (a := w1.drew) hm1 (fun h => h)) rfl ?_
      apply wr_nil
      exact ⟨rfl, Keeps.refl _ _⟩
    focus (intro x y h; rfl)
    focus kernel_rfl
    apply chP_pure
    focus
      intro x w' hk hF
      refine wr_fieldAddr rfl rfl ?_
      apply wr_nil
      exact ⟨rfl, Keeps.refl _ _⟩
    focus (intro x y h; rfl)
    focus kernel_rfl
    apply chP_pure
    focus
      intro x w' hk hF
      refine wr_loadAgg (cs := PlC p rv av) rfl rfl rfl rfl (fun j u h => cell_of_heap (hk.heap (a := w1.drew) hm1 (fun h => h)) (pre_get (m := [.int .i64 kind, .bool false, .int .u8 (name : Int), .int .u8 (many : Int)]) h)) ?_
      apply wr_nil
      exact ⟨rfl, Keeps.refl _ _⟩
    focus (intro x y h; rfl)
    focus kernel_rfl
    apply chP_pure
    focus
      intro x w' hk hF
      apply wr_assign; exact rfl; with_reducible (conv => enter [6, 3]; whnf)
      apply wr_nil
      exact ⟨rfl, Keeps.refl _ _⟩
    focus (intro x y h; rfl)
    focus kernel_rfl
    refine chP_nil ?_
    intro x w2 hk2 hF
    have hx2 := hk2.heap (a := w1.drew) hx1 (fun h => h)
    have hk12 : Keeps NoB w w2 := hk1.trans (((Keeps.refl NoB w1).drew).trans hk2)
    refine wr_storeAll (cs := PlC p rv av) rfl rfl rfl (PlC_one hr1 ha1) hx2 rfl rfl ?_
    (repeat first | apply wr_end | (apply wc_ret; try simp only [thenE, inBlockE, bodyQ]))
    have hk3 : Keeps NoB w (w2.putObj (w.heap.size + 1) (.cells (PlC p rv av).toArray 26 (0, 0))) := hk12.put _ (fun h => by omega)
    exact leaveN (vs := [.int .i64 kind, PlV p rv av]) (resv_tmp rfl (resv_cells (cs := PlC p rv av) rfl rfl (World.putObj_heap_same (lt_of_heap hx2)) rfl resv_nil)) ⟨rv, av, rfl, hs.kin hk3, hk3⟩
  | true =>
    obtain ⟨K, hK⟩ : ∃ K, K = (kind % 18446744073709551616).toNat := ⟨_, rfl⟩
    have hKw : IntKind.u64.wrap kind = (K : Int) := by rw [hK]; exact wrapU kind
    have hK5 : kOf kind = K % 5 := by unfold kOf; rw [← hK]
    (repeat first | apply wc_seq | apply wc_region | apply wc_skip | (apply wr_fieldAddr; iterate 2 exact rfl) | (apply wr_load; (iterate 3 exact rfl); (focus repeat first | with_reducible assumption | exact heap_alloc_same _ _ | exact World.putObj_heap_same (by first | omega | (simp only [World.size_alloc, World.putObj_size, ne_eq]; omega)) | ((first | refine hAl ?_ ?_ | refine hPu ?_ ?_); focus first | omega | (simp only [World.size_alloc, World.putObj_size, ne_eq]; omega))); exact rfl; conv => enter [6, 3]; whnf) | (apply wr_conv; (iterate 2 exact rfl); (first | exact w_fit (by dsimp only [kIn]; first | done | omega) | with_reducible assumption | rfl)) | (apply wc_false; exact rfl))
    refine wr_remN (n := K) (m := 5) rfl rfl rfl (by decide) ?_
    (repeat first | (apply wr_assign; exact rfl; with_reducible (conv => enter [6, 3]; whnf)) | apply wr_end | apply wc_seq | apply wc_region | (apply wr_fieldAddr; iterate 2 exact rfl) | (apply wr_load; (iterate 3 exact rfl); (focus repeat first | with_reducible assumption | exact heap_alloc_same _ _ | exact World.putObj_heap_same (by first | omega | (simp only [World.size_alloc, World.putObj_size, ne_eq]; omega)) | ((first | refine hAl ?_ ?_ | refine hPu ?_ ?_); focus first | omega | (simp only [World.size_alloc, World.putObj_size, ne_eq]; omega))); exact rfl; conv => enter [6, 3]; whnf) | (apply wr_add; (iterate 3 exact rfl); exact w_fit (by dsimp only [kIn]; first | done | omega)) | (apply wr_conv; (iterate 2 exact rfl); exact w_fit (by dsimp only [kIn]; first | done | omega)))
    refine wr_call (vs := [.int .u8 (name : Int)]) rfl (word_ca name hname _) rfl ?_
    rintro v w2 ⟨rfl, hk2⟩
    have hm2 := hk2.heap hm1 (fun h => h)
    have hx2 := hk2.heap hx1 (fun h => h)
    refine wr_build (ps := [(0, S (wordOf name))]) (cs := PlC (bareP (wordOf name)) (.slice none 0 0) (.slice none 0 0)) rfl rfl rfl rfl ?_
    apply wr_alloc
    exact rfl
    refine wr_storeAll (cs := PlC (bareP (wordOf name)) (.slice none 0 0) (.slice none 0 0)) rfl rfl rfl (PlC_one rfl rfl) (heap_alloc_same _ _) rfl rfl ?_
    obtain ⟨w3, hw3⟩ : ∃ w3, w3 = (w2.alloc (.cells (Value.agg PlZ.toArray).cells 26)).putObj w2.heap.size (.cells (PlC (bareP (wordOf name)) (.slice none 0 0) (.slice none 0 0)).toArray 26 (0, 0)) := ⟨_, rfl⟩
    have hk3 : Keeps NoB w2 w3 := by rw [hw3]; exact ((Keeps.refl NoB w2).alloc _).put _ (fun h => by omega)
    have hb3 : w3.heap[w2.heap.size]? = some (.cells (PlC (bareP (wordOf name)) (.slice none 0 0) (.slice none 0 0)).toArray 26 (0, 0)) := by rw [hw3]; exact World.putObj_heap_same (by simp)
    rw [← hw3]
    clear hw3
    have hm3 := hk3.heap hm2 (fun h => h)
    have hx3 := hk3.heap hx2 (fun h => h)
    have hk13 : Keeps NoB w w3 := hk1.trans (hk2.trans hk3)
    have hs3 := hk3.size
    have hs2 := hk2.size
    obtain ⟨pb, hpb⟩ : ∃ pb, pb = w2.heap.size := ⟨_, rfl⟩
    rw [← hpb] at hb3 ⊢
    apply wr_nil
    try simp only [thenE]
    apply wc_seq
    refine wc_cut (fun ds f w' => ds = [] ∧ ∃ rv' av', Slots f [(3, .pointer (some ⟨w.heap.size + 1, 0, none⟩)), (4, .int .i64 (1 + (K % 5 : Nat))), (5, .pointer (some ⟨pb, 0, none⟩))] ∧ w'.heap[pb]? = some (.cells (PlC (madeOwn ⟨p, kind, true, name, many⟩) rv' av').toArray 26 (0, 0)) ∧ PlS w' (madeOwn ⟨p, kind, true, name, many⟩) rv' av' ∧ Keeps (· = pb) w3 w' ∧ ∀ b, (rv'.ownBlock = some b ∨ av'.ownBlock = some b) → w3.heap.size ≤ b) ?_ ?_
    · have hpb3 := lt_of_heap hb3
      obtain ⟨k5, hk5⟩ : ∃ k5, k5 = K % 5 := ⟨_, rfl⟩
      have hlt5 : k5 < 5 := by omega
      refine wc_keep [(1, .pointer (some ⟨w.heap.size, 0, none⟩)), (3, .pointer (some ⟨w.heap.size + 1, 0, none⟩)), (4, .int .i64 (1 + (k5 : Nat))), (5, .pointer (some ⟨pb, 0, none⟩))] ⟨rfl, rfl, by rw [hk5], rfl, trivial⟩ ?_
      intro f0
      rw [← hk5]
      rw [← hk5] at hK5
      clear hk5 hK hKw
      match k5, hK5, hlt5 with
      | 0, hK5, _ =>
        have hMO : madeOwn ⟨p, kind, true, name, many⟩ = { bareP (wordOf name) with port := 1 + p.port % 65535, route := wordOf many } := by unfold madeOwn; simp only [hK5]
        rw [hMO]
        clear hMO
        (repeat first | (apply wr_move; exact rfl; with_reducible (conv => enter [6, 3]; whnf)) | (apply wr_assign; exact rfl; with_reducible (conv => enter [6, 3]; whnf)) | apply wr_end | apply wc_seq | apply wc_region | apply wc_block | (apply wr_fieldAddr; iterate 2 exact rfl) | (apply wr_load; (iterate 3 exact rfl); (focus repeat first | with_reducible assumption | exact heap_alloc_same _ _ | exact World.putObj_heap_same (by first | omega | (simp only [World.size_alloc, World.putObj_size, ne_eq]; omega)) | ((first | refine hAl ?_ ?_ | refine hPu ?_ ?_); focus first | omega | (simp only [World.size_alloc, World.putObj_size, ne_eq]; omega))); exact rfl; conv => enter [6, 3]; whnf) | (apply wr_cmp; (iterate 3 exact rfl); exact cmpT (by dsimp only [cmpP]; first | done | omega)) | (apply wc_true; exact rfl))
        refine wr_remN (n := p.port) (m := 65535) rfl rfl rfl (by decide) ?_
        (repeat first | apply wr_end | apply wc_region | (apply wr_fieldAddr; iterate 2 exact rfl) | (apply wr_load; (iterate 3 exact rfl); (focus repeat first | with_reducible assumption | exact heap_alloc_same _ _ | exact World.putObj_heap_same (by first | omega | (simp only [World.size_alloc, World.putObj_size, ne_eq]; omega)) | ((first | refine hAl ?_ ?_ | refine hPu ?_ ?_); focus first | omega | (simp only [World.size_alloc, World.putObj_size, ne_eq]; omega))); exact rfl; conv => enter [6, 3]; whnf) | (apply wr_add; (iterate 3 exact rfl); exact w_fit (by dsimp only [kIn]; first | done | omega)) | (apply wr_store; (iterate 3 exact rfl); (first | exact rfl | with_reducible assumption); (focus repeat first | with_reducible assumption | exact heap_alloc_same _ _ | exact World.putObj_heap_same (by first | omega | (simp only [World.size_alloc, World.putObj_size, ne_eq]; omega)) | ((first | refine hAl ?_ ?_ | refine hPu ?_ ?_); focus first | omega | (simp only [World.size_alloc, World.putObj_size, ne_eq]; omega))); exact rfl))
        have hb4 : (w3.putObj pb (.cells ((PlC (bareP (wordOf name)) (.slice none 0 0) (.slice none 0 0)).toArray.setIfInBounds 1 (.int .u64 (1 + ((p.port % 65535 : Nat) : Int)))) 26 (0, 0))).heap[pb]? = _ := World.putObj_heap_same hpb3
        refine wr_call (vs := [.int .u8 (many : Int)]) rfl (word_ca many hmany _) rfl ?_
        rintro v w5 ⟨rfl, hk5'⟩
        have hb5 := hk5'.heap hb4 (fun h => h)
        have hpb5 := lt_of_heap hb5
        have hk35 : Keeps (· = pb) w3 w5 := ((Keeps.refl (· = pb) w3).put _ (fun _ => rfl)).trans hk5'.upD
        (repeat first | (apply wr_fieldAddr; iterate 2 exact rfl) | (apply wr_store; (iterate 3 exact rfl); (first | exact rfl | with_reducible assumption); (focus repeat first | with_reducible assumption | exact heap_alloc_same _ _ | exact World.putObj_heap_same (by first | omega | (simp only [World.size_alloc, World.putObj_size, ne_eq]; omega)) | ((first | refine hAl ?_ ?_ | refine hPu ?_ ?_); focus first | omega | (simp only [World.size_alloc, World.putObj_size, ne_eq]; omega))); exact rfl) | (apply wr_nil; try simp only [thenE, inBlockE, bodyQ]))
        exact ⟨by trivial, .slice none 0 0, .slice none 0 0, ⟨rfl, rfl, rfl, trivial⟩, World.putObj_heap_same hpb5, PlS.none _ _ rfl rfl, hk35.put _ (fun _ => rfl), fun b hb => by rcases hb with hb | hb <;> cases hb⟩
      | 1, hK5, _ =>
        have hMO : madeOwn ⟨p, kind, true, name, many⟩ = { bareP (wordOf name) with rules := (List.range (many % 3 + 1)).map (madeRule many) } := by unfold madeOwn; simp only [hK5]
        rw [hMO]
        clear hMO
        (repeat first | (apply wr_move; exact rfl; with_reducible (conv => enter [6, 3]; whnf)) | (apply wr_assign; exact rfl; with_reducible (conv => enter [6, 3]; whnf)) | apply wr_end | apply wc_seq | apply wc_region | apply wc_block | (apply wr_cmp; (iterate 3 exact rfl); exact cmpT (by dsimp only [cmpP]; first | done | omega)) | (apply wr_cmp; (iterate 3 exact rfl); exact cmpF (by dsimp only [cmpN]; first | done | omega)) | (apply wc_true; exact rfl) | (apply wc_false; exact rfl))
        refine wc_loopL (α := Nat) (fun i => [(1, .pointer (some ⟨w.heap.size, 0, none⟩)), (3, .pointer (some ⟨w.heap.size + 1, 0, none⟩)), (4, .int .i64 (1 + ((1 : Nat) : Int))), (5, .pointer (some ⟨pb, 0, none⟩)), (6, .int .i64 (i : Int))])
          (fun i ds w' => ds = [] ∧ i ≤ many % 3 + 1 ∧ Keeps (· = pb) w3 w' ∧ ∃ rv', w'.heap[pb]? = some (.cells (PlC (bareP (wordOf name)) rv' (.slice none 0 0)).toArray 26 (0, 0)) ∧ w'.ownsRow w3.heap.size 51 2 rv' i (((List.range i).map (madeRule many)).flatMap GR)) (fun i => many % 3 + 1 - i) 0 ⟨rfl, Nat.zero_le _, Keeps.refl _ _, .slice none 0 0, hb3, rfl, .inl ⟨rfl, rfl⟩⟩ ⟨rfl, rfl, rfl, rfl, rfl, trivial⟩ ?_
        rintro i ds f1 w4 ⟨rfl, hi, hk4, rv', hb4, hrv4⟩
        have hm4 := hk4.heap hm3 (by omega)
        have hr4 := own_one hrv4
        by_cases hlt : i < many % 3 + 1
        · have hbl : ∀ b, rv'.ownBlock = some b → w3.heap.size ≤ b ∧ b < w4.heap.size := fun b hb => hrv4.lt b hb
          have hs4 := hk4.size
          have hrd : ∀ {j w'}, Keeps (monD (fun k => rv'.ownBlock = some k) (some 17) j) w4.drew w' → Keeps (fun k => rv'.ownBlock = some k) w4.drew w' := by
            intro j w' h
            unfold monD at h
            simp only at h
            cases hb : Nat.beq j 17 with
            | true => rw [hb] at h; exact Keeps.upD h
            | false => rw [hb] at h; exact h
          (repeat first | (apply wr_move; exact rfl; with_reducible (conv => enter [6, 3]; whnf)) | apply wc_seq | apply wc_region | (apply wr_fieldAddr; iterate 2 exact rfl) | (apply wr_load; (iterate 3 exact rfl); (focus repeat first | with_reducible assumption | exact heap_alloc_same _ _ | exact World.putObj_heap_same (by first | omega | (simp only [World.size_alloc, World.putObj_size, ne_eq]; omega)) | ((first | refine hAl ?_ ?_ | refine hPu ?_ ?_); focus first | omega | (simp only [World.size_alloc, World.putObj_size, ne_eq]; omega))); exact rfl; conv => enter [6, 3]; whnf))
          refine wr_remN (n := many) (m := 3) rfl rfl rfl (by decide) ?_
          (repeat first | apply wr_end | apply wc_seq | apply wc_skip | apply wc_block | (apply wr_cmp; (iterate 3 exact rfl); exact cmpT (by dsimp only [cmpP]; first | done | omega)) | (apply wr_conv; (iterate 2 exact rfl); exact w_fit (by dsimp only [kIn]; first | done | omega)) | (apply wc_true; exact rfl))
          refine wc_drawQ (fun k => rv'.ownBlock = some k) (some 17) (l := _) 19 _ (by kernel_rfl) (by kernel_rfl) rfl (by kernel_rfl) (by kernel_rfl) (by decide) ?_
          apply chP_pure
          focus
            intro x w' hk hF
            refine wr_fieldAddr rfl rfl ?_
            apply wr_nil
            exact ⟨rfl, Keeps.refl _ _⟩
          focus (intro x y h; rfl)
          focus kernel_rfl
          apply chP_pure
          focus
            intro x w' hk hF
            refine wr_load (v := rv') rfl rfl rfl ((hrd hk).heap (a := w4.drew) hb4 (fun h => by have := hbl _ h; omega)) rfl ?_
            apply wr_nil
            exact ⟨rfl, Keeps.refl _ _⟩
          focus (intro x y h; rfl)
          focus kernel_rfl
          apply chP_pure
          focus
            intro x w' hk hF
            apply wr_move; exact rfl; with_reducible (conv => enter [6, 3]; whnf)
            apply wr_nil
            exact ⟨rfl, Keeps.refl _ _⟩
          focus (intro x y h; rfl)
          focus kernel_rfl
          apply chP_pure
          focus
            intro x w' hk hF
            (repeat first | (apply wr_add; (iterate 3 exact rfl); exact w_fit (by dsimp only [kIn]; first | done | omega)) | (apply wr_nil; try simp only [thenE, inBlockE, bodyQ]))
            exact ⟨rfl, Keeps.refl _ _⟩
          focus (intro x y h; rfl)
          focus kernel_rfl
          apply chP_pure
          focus
            intro x w' hk hF
            (repeat first | (apply wr_conv; (iterate 2 exact rfl); exact w_fit (by dsimp only [kIn]; first | done | omega)) | (apply wr_nil; try simp only [thenE, inBlockE, bodyQ]))
            exact ⟨rfl, Keeps.refl _ _⟩
          focus (intro x y h; rfl)
          focus kernel_rfl
          refine chP_fact (fun y => .slice (some ⟨blkV y, 0, none⟩) 1 1) (fun y w' => w'.heap[blkV y]? = some (.cells (bytesV [UInt8.ofNat (97 + i)]).toArray 5 (0, 0)) ∧ w4.heap.size ≤ blkV y) (fun y w w' h k => ⟨Keeps.heap (D := fun k => rv'.ownBlock = some k) k h.1 (fun hd => by have := hbl _ hd; omega), h.2⟩) ?_ ?_
          focus
            intro x w' hk hF
            refine wr_buildSlice (vs := [.int .u8 (97 + (i : Int))]) rfl rfl (by intro v hv; simp at hv; subst hv; rfl) rfl (by decide) (by decide) (by decide) ?_
            apply wr_nil
            exact ⟨.pointer (some ⟨w'.heap.size, 0, none⟩), rfl, ⟨one_cells _ _ (by simp [bytesV, Value.cells, UInt8.toNat_ofNat']; omega) _ _, (hrd hk).size⟩, (Keeps.refl _ _).alloc _⟩
          apply chP_pure
          focus
            intro x w' hk hF
            obtain ⟨q1, q2⟩ : w'.heap[blkV (x 5)]? = some (.cells (bytesV [UInt8.ofNat (97 + i)]).toArray 5 (0, 0)) ∧ w4.heap.size ≤ blkV (x 5) := hF 5 (by kernel_rfl)
            refine wr_bytes2str (v := .slice (some ⟨blkV (x 5), 0, none⟩) 1 1) (n := 1) (l := [UInt8.ofNat (97 + i)]) rfl rfl ⟨rfl, _, _, rfl, Nat.le_refl _, .inr ⟨_, 0, _, _, _, rfl, q1, fun j hj => by rw [Nat.zero_add, List.getElem?_toArray]⟩⟩ ?_
            apply wr_nil
            exact ⟨rfl, Keeps.refl _ _⟩
          focus (intro x y h; rfl)
          focus kernel_rfl
          apply chP_pure
          focus
            intro x w' hk hF
            refine wr_cat rfl rfl rfl (by simp only [List.length_cons, List.length_nil]; decide) ?_
            apply wr_nil
            exact ⟨rfl, Keeps.refl _ _⟩
          focus (intro x y h; rfl)
          focus kernel_rfl
          apply chP_pure
          focus
            intro x w' hk hF
            refine wr_fieldAddr rfl rfl ?_
            apply wr_nil
            exact ⟨rfl, Keeps.refl _ _⟩
          focus (intro x y h; rfl)
          focus kernel_rfl
          apply chP_pure
          focus
            intro x w' hk hF
            refine wr_load (v := .int .u8 (many : Int)) rfl rfl rfl ((hrd hk).heap (a := w4.drew) hm4 (fun h => by have := hbl _ h; omega)) rfl ?_
            apply wr_nil
            exact ⟨rfl, Keeps.refl _ _⟩
          focus (intro x y h; rfl)
          focus kernel_rfl
          apply chP_pure
          focus
            intro x w' hk hF
            refine wr_quoN (n := many) (m := 3) rfl rfl rfl (by decide) (w_u8 (by omega)) ?_
            apply wr_nil
            exact ⟨rfl, Keeps.refl _ _⟩
          focus (intro x y h; rfl)
          focus kernel_rfl
          apply chP_pure
          focus
            intro x w' hk hF
            apply wr_move; exact rfl; with_reducible (conv => enter [6, 3]; whnf)
            apply wr_nil
            exact ⟨rfl, Keeps.refl _ _⟩
          focus (intro x y h; rfl)
          focus kernel_rfl
          apply chP_pure
          focus
            intro x w' hk hF
            (repeat first | (apply wr_conv; (iterate 2 exact rfl); exact w_fit (by dsimp only [kIn]; first | done | omega)) | (apply wr_nil; try simp only [thenE, inBlockE, bodyQ]))
            exact ⟨rfl, Keeps.refl _ _⟩
          focus (intro x y h; rfl)
          focus kernel_rfl
          apply chP_pure
          focus
            intro x w' hk hF
            (repeat first | (apply wr_add; (iterate 3 exact rfl); exact w_fit (by dsimp only [kIn]; first | done | omega)) | (apply wr_nil; try simp only [thenE, inBlockE, bodyQ]))
            exact ⟨rfl, Keeps.refl _ _⟩
          focus (intro x y h; rfl)
          focus kernel_rfl
          apply chP_pure
          focus
            intro x w' hk hF
            refine wr_call (vs := [.int .u8 ((many / 3 + i : Nat) : Int)]) rfl (word_ca (many / 3 + i) (by omega) _) rfl ?_
            rintro v w'' ⟨rfl, hkk⟩
            apply wr_nil
            exact ⟨rfl, hkk⟩
          focus (intro x y h; rfl)
          focus kernel_rfl
          apply chP_pure
          focus
            intro x w' hk hF
            refine wr_build (ps := [(0, S [47, UInt8.ofNat (97 + i)]), (1, S (wordOf (many / 3 + i)))]) (cs := GR (madeRule many i)) rfl rfl rfl rfl ?_
            apply wr_nil
            exact ⟨rfl, Keeps.refl _ _⟩
          focus (intro x y h; rfl)
          focus kernel_rfl
          refine chP_fact (fun y => .slice (some ⟨blkV y, 0, none⟩) 1 1) (fun y w' => w'.heap[blkV y]? = some (.cells (GR (madeRule many i)).toArray 51 (0, 0)) ∧ w4.heap.size ≤ blkV y) (fun y w w' h k => ⟨Keeps.heap (D := fun k => rv'.ownBlock = some k) k h.1 (fun hd => by have := hbl _ hd; omega), h.2⟩) ?_ ?_
          focus
            intro x w' hk hF
            refine wr_buildSlice (vs := [.agg (GR (madeRule many i)).toArray]) rfl rfl (by intro v hv; simp at hv; subst hv; rfl) rfl (by decide) (by decide) (by decide) ?_
            apply wr_nil
            exact ⟨.pointer (some ⟨w'.heap.size, 0, none⟩), rfl, ⟨one_cells _ _ (by simp [Value.cells]) _ _, (hrd hk).size⟩, (Keeps.refl _ _).alloc _⟩
          refine chP_fact (fun y => y) (fun y w' => w'.ownsRow w3.heap.size 51 2 y (i + 1) (((List.range i).map (madeRule many)).flatMap GR ++ GR (madeRule many i))) (fun y w w' h k => own_keep (D := NoB) h k (fun _ _ h => h)) ?_ ?_
          focus
            intro x w' hk hF
            obtain ⟨q1, q2⟩ : w'.heap[blkV (x 16)]? = some (.cells (GR (madeRule many i)).toArray 51 (0, 0)) ∧ w4.heap.size ≤ blkV (x 16) := hF 16 (by kernel_rfl)
            have hkn : Keeps NoB w4.drew w' := hk
            have hwk : w4.heap.size ≤ w'.heap.size := hkn.size
            refine wr_append2 (v := rv') (n := i) (m := 1) (b := blkV (x 16)) (news := GR (madeRule many i)) rfl rfl (own_keep (w := w4.drew) hrv4 hkn (fun _ _ h => h)) rfl q1 rfl (by intro u hu; simp [GR] at hu; rcases hu with rfl | rfl <;> rfl) rfl (by decide) (by omega) (by omega) (by omega) ?_
            intro v' w'' ho' hk' hb'
            apply wr_nil
            exact ⟨v', rfl, ho', hk'⟩
          apply chP_pure
          focus
            intro x w' hk hF
            refine wr_fieldAddr rfl rfl ?_
            apply wr_nil
            exact ⟨rfl, Keeps.refl _ _⟩
          focus (intro x y h; rfl)
          focus kernel_rfl
          refine chP_nil ?_
          intro x w5 hk5 hF
          have q1 : w5.ownsRow w3.heap.size 51 2 (x 17) (i + 1) (((List.range i).map (madeRule many)).flatMap GR ++ GR (madeRule many i)) := hF 17 (by decide)
          have h17 := own_one q1
          have hb5 := hk5.heap (a := w4.drew) hb4 (fun h => by have := hbl _ h; omega)
          have hpb5 := lt_of_heap hb5
          have hk35 : Keeps (· = pb) w3 w5 := hk4.trans' ((Keeps.refl _ w4).drew.trans hk5) (fun j hj h => by have := hbl j h; omega)
          (repeat first | (apply wr_move; exact rfl; with_reducible (conv => enter [6, 3]; whnf)) | (apply wr_assign; exact rfl; with_reducible (conv => enter [6, 3]; whnf)) | apply wr_end | apply wc_region | (apply wr_add; (iterate 3 exact rfl); exact w_fit (by dsimp only [kIn]; first | done | omega)) | (apply wr_store; (iterate 3 exact rfl); (first | exact rfl | with_reducible assumption); (focus repeat first | with_reducible assumption | exact heap_alloc_same _ _ | exact World.putObj_heap_same (by first | omega | (simp only [World.size_alloc, World.putObj_size, ne_eq]; omega)) | ((first | refine hAl ?_ ?_ | refine hPu ?_ ?_); focus first | omega | (simp only [World.size_alloc, World.putObj_size, ne_eq]; omega))); exact rfl) | (apply wr_nil; try simp only [thenE, inBlockE, bodyQ]))
          refine ⟨i + 1, by omega, ⟨by trivial, hlt, hk35.put _ (fun _ => rfl), x 17, World.putObj_heap_same hpb5, ?_⟩, rfl, rfl, rfl, rfl, by simp, trivial⟩
          rw [List.range_succ, List.map_append, List.flatMap_append]
          exact own_keep (D := (· = pb)) (by simpa using q1) ((Keeps.refl (· = pb) w5).put _ (fun _ => rfl)) (fun b hb e => by have := (q1.lt b hb).1; omega)
        · have he : i = many % 3 + 1 := by omega
          subst he
          (repeat first | (apply wr_move; exact rfl; with_reducible (conv => enter [6, 3]; whnf)) | apply wc_seq | apply wc_region | (apply wr_fieldAddr; iterate 2 exact rfl) | (apply wr_load; (iterate 3 exact rfl); (focus repeat first | with_reducible assumption | exact heap_alloc_same _ _ | exact World.putObj_heap_same (by first | omega | (simp only [World.size_alloc, World.putObj_size, ne_eq]; omega)) | ((first | refine hAl ?_ ?_ | refine hPu ?_ ?_); focus first | omega | (simp only [World.size_alloc, World.putObj_size, ne_eq]; omega))); exact rfl; conv => enter [6, 3]; whnf))
          refine wr_remN (n := many) (m := 3) rfl rfl rfl (by decide) ?_
          (repeat first | apply wr_end | (apply wr_cmp; (iterate 3 exact rfl); exact cmpF (by dsimp only [cmpN]; first | done | omega)) | (apply wr_conv; (iterate 2 exact rfl); exact w_fit (by dsimp only [kIn]; first | done | omega)) | (apply wc_false; exact rfl) | (apply wc_exit; try simp only [thenE, inBlockE, bodyQ, ↓reduceIte, Nat.reduceEqDiff]))
          exact ⟨by trivial, rv', .slice none 0 0, ⟨rfl, rfl, rfl, trivial⟩, hb4, ⟨by simpa using SlR.of_own hrv4, (PlS.none w4 (bareP []) rfl rfl).a⟩, hk4, fun b hb => by rcases hb with hb | hb; exact (hrv4.lt b hb).1; cases hb⟩
      | 2, hK5, _ =>
        have hMO : madeOwn ⟨p, kind, true, name, many⟩ = { bareP (wordOf name) with policy := many % 3, secret := if many / 3 % 2 = 0 then wordOf (many / 6) else [] } := by unfold madeOwn; simp only [hK5]
        rw [hMO]
        clear hMO
        (repeat first | (apply wr_move; exact rfl; with_reducible (conv => enter [6, 3]; whnf)) | (apply wr_assign; exact rfl; with_reducible (conv => enter [6, 3]; whnf)) | apply wr_end | apply wc_seq | apply wc_region | apply wc_block | (apply wr_fieldAddr; iterate 2 exact rfl) | (apply wr_load; (iterate 3 exact rfl); (focus repeat first | with_reducible assumption | exact heap_alloc_same _ _ | exact World.putObj_heap_same (by first | omega | (simp only [World.size_alloc, World.putObj_size, ne_eq]; omega)) | ((first | refine hAl ?_ ?_ | refine hPu ?_ ?_); focus first | omega | (simp only [World.size_alloc, World.putObj_size, ne_eq]; omega))); exact rfl; conv => enter [6, 3]; whnf) | (apply wr_cmp; (iterate 3 exact rfl); exact cmpT (by dsimp only [cmpP]; first | done | omega)) | (apply wr_cmp; (iterate 3 exact rfl); exact cmpF (by dsimp only [cmpN]; first | done | omega)) | (apply wc_true; exact rfl) | (apply wc_false; exact rfl))
        refine wr_remN (n := many) (m := 3) rfl rfl rfl (by decide) ?_
        (repeat first | apply wr_end | apply wc_seq | apply wc_region | (apply wr_fieldAddr; iterate 2 exact rfl) | (apply wr_load; (iterate 3 exact rfl); (focus repeat first | with_reducible assumption | exact heap_alloc_same _ _ | exact World.putObj_heap_same (by first | omega | (simp only [World.size_alloc, World.putObj_size, ne_eq]; omega)) | ((first | refine hAl ?_ ?_ | refine hPu ?_ ?_); focus first | omega | (simp only [World.size_alloc, World.putObj_size, ne_eq]; omega))); exact rfl; conv => enter [6, 3]; whnf) | (apply wr_conv; (iterate 2 exact rfl); exact w_fit (by dsimp only [kIn]; first | done | omega)) | (apply wr_store; (iterate 3 exact rfl); (first | exact rfl | with_reducible assumption); (focus repeat first | with_reducible assumption | exact heap_alloc_same _ _ | exact World.putObj_heap_same (by first | omega | (simp only [World.size_alloc, World.putObj_size, ne_eq]; omega)) | ((first | refine hAl ?_ ?_ | refine hPu ?_ ?_); focus first | omega | (simp only [World.size_alloc, World.putObj_size, ne_eq]; omega))); exact rfl))
        have hb4 : (w3.putObj pb (.cells ((PlC (bareP (wordOf name)) (.slice none 0 0) (.slice none 0 0)).toArray.setIfInBounds 4 (.int .u64 ((many % 3 : Nat) : Int))) 26 (0, 0))).heap[pb]? = _ := World.putObj_heap_same hpb3
        have hk34 : Keeps (· = pb) w3 (w3.putObj pb (.cells ((PlC (bareP (wordOf name)) (.slice none 0 0) (.slice none 0 0)).toArray.setIfInBounds 4 (.int .u64 ((many % 3 : Nat) : Int))) 26 (0, 0))) := (Keeps.refl (· = pb) w3).put _ (fun _ => rfl)
        have hpb4 := lt_of_heap hb4
        refine wr_quoN (n := many) (m := 3) rfl rfl rfl (by decide) (w_u8 (by omega)) ?_
        refine wr_remN (n := many / 3) (m := 2) rfl rfl rfl (by decide) ?_
        by_cases h2 : many / 3 % 2 = 0
        · rw [if_pos h2]
          (repeat first | apply wr_end | apply wc_region | (apply wr_fieldAddr; iterate 2 exact rfl) | (apply wr_load; (iterate 3 exact rfl); (focus repeat first | with_reducible assumption | exact heap_alloc_same _ _ | exact World.putObj_heap_same (by first | omega | (simp only [World.size_alloc, World.putObj_size, ne_eq]; omega)) | ((first | refine hAl ?_ ?_ | refine hPu ?_ ?_); focus first | omega | (simp only [World.size_alloc, World.putObj_size, ne_eq]; omega))); exact rfl; conv => enter [6, 3]; whnf) | (apply wr_cmp; (iterate 3 exact rfl); exact cmpT (by dsimp only [cmpP]; first | done | omega)) | (apply wc_true; exact rfl))
          refine wr_quoN (n := many) (m := 6) rfl rfl rfl (by decide) (w_u8 (by omega)) ?_
          refine wr_call (vs := [.int .u8 ((many / 6 : Nat) : Int)]) rfl (word_ca (many / 6) (by omega) _) rfl ?_
          rintro v w5 ⟨rfl, hk5'⟩
          have hb5 := hk5'.heap hb4 (fun h => h)
          have hpb5 := lt_of_heap hb5
          have hk35 : Keeps (· = pb) w3 w5 := hk34.trans hk5'.upD
          (repeat first | (apply wr_fieldAddr; iterate 2 exact rfl) | (apply wr_store; (iterate 3 exact rfl); (first | exact rfl | with_reducible assumption); (focus repeat first | with_reducible assumption | exact heap_alloc_same _ _ | exact World.putObj_heap_same (by first | omega | (simp only [World.size_alloc, World.putObj_size, ne_eq]; omega)) | ((first | refine hAl ?_ ?_ | refine hPu ?_ ?_); focus first | omega | (simp only [World.size_alloc, World.putObj_size, ne_eq]; omega))); exact rfl) | (apply wr_nil; try simp only [thenE, inBlockE, bodyQ]))
          exact ⟨by trivial, .slice none 0 0, .slice none 0 0, ⟨rfl, rfl, rfl, trivial⟩, World.putObj_heap_same hpb5, PlS.none _ _ rfl rfl, hk35.put _ (fun _ => rfl), fun b hb => by rcases hb with hb | hb <;> cases hb⟩
        · rw [if_neg h2]
          (repeat first | apply wr_end | apply wc_skip | (apply wr_cmp; (iterate 3 exact rfl); exact cmpF (by dsimp only [cmpN]; first | done | omega)) | (apply wc_false; exact rfl))
          exact ⟨by trivial, .slice none 0 0, .slice none 0 0, ⟨rfl, rfl, rfl, trivial⟩, hb4, PlS.none _ _ rfl rfl, hk34, fun b hb => by rcases hb with hb | hb <;> cases hb⟩
      | 3, hK5, _ =>
        have hMO : madeOwn ⟨p, kind, true, name, many⟩ = { bareP (wordOf name) with addrs := (List.range (many % 4)).map (madeAddr many p.policy) } := by unfold madeOwn; simp only [hK5]
        rw [hMO]
        clear hMO
        (repeat first | (apply wr_move; exact rfl; with_reducible (conv => enter [6, 3]; whnf)) | (apply wr_assign; exact rfl; with_reducible (conv => enter [6, 3]; whnf)) | apply wr_end | apply wc_seq | apply wc_region | apply wc_block | (apply wr_cmp; (iterate 3 exact rfl); exact cmpT (by dsimp only [cmpP]; first | done | omega)) | (apply wr_cmp; (iterate 3 exact rfl); exact cmpF (by dsimp only [cmpN]; first | done | omega)) | (apply wc_true; exact rfl) | (apply wc_false; exact rfl))
        refine wc_loopL (α := Nat) (fun i => [(1, .pointer (some ⟨w.heap.size, 0, none⟩)), (3, .pointer (some ⟨w.heap.size + 1, 0, none⟩)), (4, .int .i64 (1 + ((3 : Nat) : Int))), (5, .pointer (some ⟨pb, 0, none⟩)), (7, .int .i64 (i : Int))])
          (fun i ds w' => ds = [] ∧ i ≤ many % 4 ∧ Keeps (· = pb) w3 w' ∧ ∃ rv', w'.heap[pb]? = some (.cells (PlC (bareP (wordOf name)) (.slice none 0 0) rv').toArray 26 (0, 0)) ∧ w'.ownsRow w3.heap.size 65 3 rv' i (((List.range i).map (madeAddr many p.policy)).flatMap GA)) (fun i => many % 4 - i) 0 ⟨rfl, Nat.zero_le _, Keeps.refl _ _, .slice none 0 0, hb3, rfl, .inl ⟨rfl, rfl⟩⟩ ⟨rfl, rfl, rfl, rfl, rfl, trivial⟩ ?_
        rintro i ds f1 w4 ⟨rfl, hi, hk4, rv', hb4, hrv4⟩
        have hm4 := hk4.heap hm3 (by omega)
        have hr4 := own_one hrv4
        by_cases hlt : i < many % 4
        · have hbl : ∀ b, rv'.ownBlock = some b → w3.heap.size ≤ b ∧ b < w4.heap.size := fun b hb => hrv4.lt b hb
          have hs4 := hk4.size
          have hrd : ∀ {j w'}, Keeps (monD (fun k => rv'.ownBlock = some k) (some 18) j) w4.drew w' → Keeps (fun k => rv'.ownBlock = some k) w4.drew w' := by
            intro j w' h
            unfold monD at h
            simp only at h
            cases hb : Nat.beq j 18 with
            | true => rw [hb] at h; exact Keeps.upD h
            | false => rw [hb] at h; exact h
          (repeat first | (apply wr_move; exact rfl; with_reducible (conv => enter [6, 3]; whnf)) | apply wc_seq | apply wc_region | (apply wr_fieldAddr; iterate 2 exact rfl) | (apply wr_load; (iterate 3 exact rfl); (focus repeat first | with_reducible assumption | exact heap_alloc_same _ _ | exact World.putObj_heap_same (by first | omega | (simp only [World.size_alloc, World.putObj_size, ne_eq]; omega)) | ((first | refine hAl ?_ ?_ | refine hPu ?_ ?_); focus first | omega | (simp only [World.size_alloc, World.putObj_size, ne_eq]; omega))); exact rfl; conv => enter [6, 3]; whnf))
          refine wr_remN (n := many) (m := 4) rfl rfl rfl (by decide) ?_
          (repeat first | apply wr_end | apply wc_seq | apply wc_skip | apply wc_block | (apply wr_cmp; (iterate 3 exact rfl); exact cmpT (by dsimp only [cmpP]; first | done | omega)) | (apply wr_conv; (iterate 2 exact rfl); exact w_fit (by dsimp only [kIn]; first | done | omega)) | (apply wc_true; exact rfl))
          refine wc_drawQ (fun k => rv'.ownBlock = some k) (some 18) (l := _) 20 _ (by kernel_rfl) (by kernel_rfl) rfl (by kernel_rfl) (by kernel_rfl) (by decide) ?_
          apply chP_pure
          focus
            intro x w' hk hF
            refine wr_fieldAddr rfl rfl ?_
            apply wr_nil
            exact ⟨rfl, Keeps.refl _ _⟩
          focus (intro x y h; rfl)
          focus kernel_rfl
          apply chP_pure
          focus
            intro x w' hk hF
            refine wr_load (v := rv') rfl rfl rfl ((hrd hk).heap (a := w4.drew) hb4 (fun h => by have := hbl _ h; omega)) rfl ?_
            apply wr_nil
            exact ⟨rfl, Keeps.refl _ _⟩
          focus (intro x y h; rfl)
          focus kernel_rfl
          apply chP_pure
          focus
            intro x w' hk hF
            refine wr_fieldAddr rfl rfl ?_
            apply wr_nil
            exact ⟨rfl, Keeps.refl _ _⟩
          focus (intro x y h; rfl)
          focus kernel_rfl
          apply chP_pure
          focus
            intro x w' hk hF
            refine wr_load (v := .int .u8 (many : Int)) rfl rfl rfl ((hrd hk).heap (a := w4.drew) hm4 (fun h => by have := hbl _ h; omega)) rfl ?_
            apply wr_nil
            exact ⟨rfl, Keeps.refl _ _⟩
          focus (intro x y h; rfl)
          focus kernel_rfl
          apply chP_pure
          focus
            intro x w' hk hF
            refine wr_quoN (n := many) (m := 4) rfl rfl rfl (by decide) (w_u8 (by omega)) ?_
            apply wr_nil
            exact ⟨rfl, Keeps.refl _ _⟩
          focus (intro x y h; rfl)
          focus kernel_rfl
          apply chP_pure
          focus
            intro x w' hk hF
            apply wr_move; exact rfl; with_reducible (conv => enter [6, 3]; whnf)
            apply wr_nil
            exact ⟨rfl, Keeps.refl _ _⟩
          focus (intro x y h; rfl)
          focus kernel_rfl
          apply chP_pure
          focus
            intro x w' hk hF
            (repeat first | (apply wr_conv; (iterate 2 exact rfl); exact w_fit (by dsimp only [kIn]; first | done | omega)) | (apply wr_nil; try simp only [thenE, inBlockE, bodyQ]))
            exact ⟨rfl, Keeps.refl _ _⟩
          focus (intro x y h; rfl)
          focus kernel_rfl
          apply chP_pure
          focus
            intro x w' hk hF
            (repeat first | (apply wr_add; (iterate 3 exact rfl); exact w_fit (by dsimp only [kIn]; first | done | omega)) | (apply wr_nil; try simp only [thenE, inBlockE, bodyQ]))
            exact ⟨rfl, Keeps.refl _ _⟩
          focus (intro x y h; rfl)
          focus kernel_rfl
          apply chP_pure
          focus
            intro x w' hk hF
            refine wr_call (vs := [.int .u8 ((many / 4 + i : Nat) : Int)]) rfl (word_ca (many / 4 + i) (by omega) _) rfl ?_
            rintro v w'' ⟨rfl, hkk⟩
            apply wr_nil
            exact ⟨rfl, hkk⟩
          focus (intro x y h; rfl)
          focus kernel_rfl
          apply chP_pure
          focus
            intro x w' hk hF
            apply wr_move; exact rfl; with_reducible (conv => enter [6, 3]; whnf)
            apply wr_nil
            exact ⟨rfl, Keeps.refl _ _⟩
          focus (intro x y h; rfl)
          focus kernel_rfl
          apply chP_pure
          focus
            intro x w' hk hF
            (repeat first | (apply wr_conv; (iterate 2 exact rfl); exact w_fit (by dsimp only [kIn]; first | done | omega)) | (apply wr_nil; try simp only [thenE, inBlockE, bodyQ]))
            exact ⟨rfl, Keeps.refl _ _⟩
          focus (intro x y h; rfl)
          focus kernel_rfl
          apply chP_pure
          focus
            intro x w' hk hF
            (repeat first | (apply wr_add; (iterate 3 exact rfl); exact w_fit (by dsimp only [kIn]; first | done | omega)) | (apply wr_nil; try simp only [thenE, inBlockE, bodyQ]))
            exact ⟨rfl, Keeps.refl _ _⟩
          focus (intro x y h; rfl)
          focus kernel_rfl
          apply chP_pure
          focus
            intro x w' hk hF
            refine wr_fieldAddr rfl rfl ?_
            apply wr_nil
            exact ⟨rfl, Keeps.refl _ _⟩
          focus (intro x y h; rfl)
          focus kernel_rfl
          apply chP_pure
          focus
            intro x w' hk hF
            refine wr_fieldAddr rfl rfl ?_
            apply wr_nil
            exact ⟨rfl, Keeps.refl _ _⟩
          focus (intro x y h; rfl)
          focus kernel_rfl
          apply chP_pure
          focus
            intro x w' hk hF
            refine wr_load (v := .int .u64 (p.policy : Int)) rfl rfl rfl ((hrd hk).heap (a := w4.drew) hm4 (fun h => by have := hbl _ h; omega)) rfl ?_
            apply wr_nil
            exact ⟨rfl, Keeps.refl _ _⟩
          focus (intro x y h; rfl)
          focus kernel_rfl
          apply chP_pure
          focus
            intro x w' hk hF
            refine wr_remN (n := p.policy) (m := 1000) rfl rfl rfl (by decide) ?_
            apply wr_nil
            exact ⟨rfl, Keeps.refl _ _⟩
          focus (intro x y h; rfl)
          focus kernel_rfl
          apply chP_pure
          focus
            intro x w' hk hF
            refine wr_build (ps := [(0, S (wordOf (many / 4 + i))), (1, .int .u64 ((i + 1 : Nat) : Int)), (2, .int .u64 ((p.policy % 1000 : Nat) : Int))]) (cs := GA (madeAddr many p.policy i)) rfl rfl rfl rfl ?_
            apply wr_nil
            exact ⟨rfl, Keeps.refl _ _⟩
          focus (intro x y h; rfl)
          focus kernel_rfl
          refine chP_fact (fun y => .slice (some ⟨blkV y, 0, none⟩) 1 1) (fun y w' => w'.heap[blkV y]? = some (.cells (GA (madeAddr many p.policy i)).toArray 65 (0, 0)) ∧ w4.heap.size ≤ blkV y) (fun y w w' h k => ⟨Keeps.heap (D := fun k => rv'.ownBlock = some k) k h.1 (fun hd => by have := hbl _ hd; omega), h.2⟩) ?_ ?_
          focus
            intro x w' hk hF
            refine wr_buildSlice (vs := [.agg (GA (madeAddr many p.policy i)).toArray]) rfl rfl (by intro v hv; simp at hv; subst hv; rfl) rfl (by decide) (by decide) (by decide) ?_
            apply wr_nil
            exact ⟨.pointer (some ⟨w'.heap.size, 0, none⟩), rfl, ⟨one_cells _ _ (by simp [Value.cells]) _ _, (hrd hk).size⟩, (Keeps.refl _ _).alloc _⟩
          refine chP_fact (fun y => y) (fun y w' => w'.ownsRow w3.heap.size 65 3 y (i + 1) (((List.range i).map (madeAddr many p.policy)).flatMap GA ++ GA (madeAddr many p.policy i))) (fun y w w' h k => own_keep (D := NoB) h k (fun _ _ h => h)) ?_ ?_
          focus
            intro x w' hk hF
            obtain ⟨q1, q2⟩ : w'.heap[blkV (x 17)]? = some (.cells (GA (madeAddr many p.policy i)).toArray 65 (0, 0)) ∧ w4.heap.size ≤ blkV (x 17) := hF 17 (by kernel_rfl)
            have hkn : Keeps NoB w4.drew w' := hk
            have hwk : w4.heap.size ≤ w'.heap.size := hkn.size
            refine wr_append2 (v := rv') (n := i) (m := 1) (b := blkV (x 17)) (news := GA (madeAddr many p.policy i)) rfl rfl (own_keep (w := w4.drew) hrv4 hkn (fun _ _ h => h)) rfl q1 rfl (by intro u hu; simp [GA] at hu; rcases hu with rfl | rfl | rfl <;> rfl) rfl (by decide) (by omega) (by omega) (by omega) ?_
            intro v' w'' ho' hk' hb'
            apply wr_nil
            exact ⟨v', rfl, ho', hk'⟩
          apply chP_pure
          focus
            intro x w' hk hF
            refine wr_fieldAddr rfl rfl ?_
            apply wr_nil
            exact ⟨rfl, Keeps.refl _ _⟩
          focus (intro x y h; rfl)
          focus kernel_rfl
          refine chP_nil ?_
          intro x w5 hk5 hF
          have q1 : w5.ownsRow w3.heap.size 65 3 (x 18) (i + 1) (((List.range i).map (madeAddr many p.policy)).flatMap GA ++ GA (madeAddr many p.policy i)) := hF 18 (by decide)
          have h17 := own_one q1
          have hb5 := hk5.heap (a := w4.drew) hb4 (fun h => by have := hbl _ h; omega)
          have hpb5 := lt_of_heap hb5
          have hk35 : Keeps (· = pb) w3 w5 := hk4.trans' ((Keeps.refl _ w4).drew.trans hk5) (fun j hj h => by have := hbl j h; omega)
          (repeat first | (apply wr_move; exact rfl; with_reducible (conv => enter [6, 3]; whnf)) | (apply wr_assign; exact rfl; with_reducible (conv => enter [6, 3]; whnf)) | apply wr_end | apply wc_region | (apply wr_add; (iterate 3 exact rfl); exact w_fit (by dsimp only [kIn]; first | done | omega)) | (apply wr_store; (iterate 3 exact rfl); (first | exact rfl | with_reducible assumption); (focus repeat first | with_reducible assumption | exact heap_alloc_same _ _ | exact World.putObj_heap_same (by first | omega | (simp only [World.size_alloc, World.putObj_size, ne_eq]; omega)) | ((first | refine hAl ?_ ?_ | refine hPu ?_ ?_); focus first | omega | (simp only [World.size_alloc, World.putObj_size, ne_eq]; omega))); exact rfl) | (apply wr_nil; try simp only [thenE, inBlockE, bodyQ]))
          refine ⟨i + 1, by omega, ⟨by trivial, hlt, hk35.put _ (fun _ => rfl), x 18, World.putObj_heap_same hpb5, ?_⟩, rfl, rfl, rfl, rfl, by simp, trivial⟩
          rw [List.range_succ, List.map_append, List.flatMap_append]
          exact own_keep (D := (· = pb)) (by simpa using q1) ((Keeps.refl (· = pb) w5).put _ (fun _ => rfl)) (fun b hb e => by have := (q1.lt b hb).1; omega)
        · have he : i = many % 4 := by omega
          subst he
          (repeat first | (apply wr_move; exact rfl; with_reducible (conv => enter [6, 3]; whnf)) | apply wc_seq | apply wc_region | (apply wr_fieldAddr; iterate 2 exact rfl) | (apply wr_load; (iterate 3 exact rfl); (focus repeat first | with_reducible assumption | exact heap_alloc_same _ _ | exact World.putObj_heap_same (by first | omega | (simp only [World.size_alloc, World.putObj_size, ne_eq]; omega)) | ((first | refine hAl ?_ ?_ | refine hPu ?_ ?_); focus first | omega | (simp only [World.size_alloc, World.putObj_size, ne_eq]; omega))); exact rfl; conv => enter [6, 3]; whnf))
          refine wr_remN (n := many) (m := 4) rfl rfl rfl (by decide) ?_
          (repeat first | apply wr_end | (apply wr_cmp; (iterate 3 exact rfl); exact cmpF (by dsimp only [cmpN]; first | done | omega)) | (apply wr_conv; (iterate 2 exact rfl); exact w_fit (by dsimp only [kIn]; first | done | omega)) | (apply wc_false; exact rfl) | (apply wc_exit; try simp only [thenE, inBlockE, bodyQ, ↓reduceIte, Nat.reduceEqDiff]))
          exact ⟨by trivial, .slice none 0 0, rv', ⟨rfl, rfl, rfl, trivial⟩, hb4, ⟨(PlS.none w4 (bareP []) rfl rfl).r, by simpa using SlR.of_own hrv4⟩, hk4, fun b hb => by rcases hb with hb | hb; cases hb; exact (hrv4.lt b hb).1⟩
      | 4, hK5, _ =>
        have hMO : madeOwn ⟨p, kind, true, name, many⟩ = { bareP (wordOf name) with key := (p.key ++ List.replicate 20 0).take (16 + many % 4) } := by unfold madeOwn; simp only [hK5]
        rw [hMO]
        clear hMO
        have hkey := hp.key
        (repeat first | (apply wr_move; exact rfl; with_reducible (conv => enter [6, 3]; whnf)) | (apply wr_assign; exact rfl; with_reducible (conv => enter [6, 3]; whnf)) | apply wr_end | apply wc_seq | apply wc_region | apply wc_block | (apply wr_cmp; (iterate 3 exact rfl); exact cmpT (by dsimp only [cmpP]; first | done | omega)) | (apply wr_cmp; (iterate 3 exact rfl); exact cmpF (by dsimp only [cmpN]; first | done | omega)) | (apply wc_true; exact rfl) | (apply wc_false; exact rfl))
        refine wc_drawP (l := _) 13 _ (by kernel_rfl) (by kernel_rfl) rfl (by kernel_rfl) (by kernel_rfl) (by decide) ?_
        apply chP_pure
        focus
          intro x w' hk hF
          refine wr_fieldAddr rfl rfl ?_
          apply wr_nil
          exact ⟨rfl, Keeps.refl _ _⟩
        focus (intro x y h; rfl)
        focus kernel_rfl
        apply chP_pure
        focus
          intro x w' hk hF
          refine wr_fieldAddr rfl rfl ?_
          apply wr_nil
          exact ⟨rfl, Keeps.refl _ _⟩
        focus (intro x y h; rfl)
        focus kernel_rfl
        apply chP_pure
        focus
          intro x w' hk hF
          refine wr_load (v := S p.key) rfl rfl rfl (hk.heap (a := w3.drew) hm3 (fun h => h)) rfl ?_
          apply wr_nil
          exact ⟨rfl, Keeps.refl _ _⟩
        focus (intro x y h; rfl)
        focus kernel_rfl
        refine chP_fact (fun y => y) (fun y w' => w'.ownsRow w3.heap.size 5 1 y 20 (List.replicate 20 (.int .u8 0))) (fun y w w' h k => own_keep (D := NoB) h k (fun _ _ h => h)) ?_ ?_
        focus
          intro x w' hk hF
          have hsz : w3.heap.size ≤ w'.heap.size := hk.size
          refine wr_makeN (n := 20) w3.heap.size rfl rfl rfl rfl rfl (by decide) (by decide) hsz ?_
          intro v' w'' ho hk' hv'
          apply wr_nil
          exact ⟨v', rfl, ho, hk'⟩
        apply chP_pure
        focus
          intro x w' hk hF
          have hrow : w'.ownsRow w3.heap.size 5 1 (x 3) 20 (List.replicate 20 (.int .u8 0)) := hF 3 (by kernel_rfl)
          refine wr_bytes2str (v := x 3) (n := 20) (l := List.replicate 20 0) rfl rfl (SlR.of_own hrow) ?_
          apply wr_nil
          exact ⟨rfl, Keeps.refl _ _⟩
        focus (intro x y h; rfl)
        focus kernel_rfl
        apply chP_pure
        focus
          intro x w' hk hF
          refine wr_cat rfl rfl rfl (by simp only [List.length_append, List.length_replicate]; omega) ?_
          apply wr_nil
          exact ⟨rfl, Keeps.refl _ _⟩
        focus (intro x y h; rfl)
        focus kernel_rfl
        apply chP_pure
        focus
          intro x w' hk hF
          refine wr_fieldAddr rfl rfl ?_
          apply wr_nil
          exact ⟨rfl, Keeps.refl _ _⟩
        focus (intro x y h; rfl)
        focus kernel_rfl
        apply chP_pure
        focus
          intro x w' hk hF
          refine wr_load (v := .int .u8 (many : Int)) rfl rfl rfl (hk.heap (a := w3.drew) hm3 (fun h => h)) rfl ?_
          apply wr_nil
          exact ⟨rfl, Keeps.refl _ _⟩
        focus (intro x y h; rfl)
        focus kernel_rfl
        apply chP_pure
        focus
          intro x w' hk hF
          refine wr_remN (n := many) (m := 4) rfl rfl rfl (by decide) ?_
          apply wr_nil
          exact ⟨rfl, Keeps.refl _ _⟩
        focus (intro x y h; rfl)
        focus kernel_rfl
        apply chP_pure
        focus
          intro x w' hk hF
          (repeat first | (apply wr_conv; (iterate 2 exact rfl); exact w_fit (by dsimp only [kIn]; first | done | omega)) | (apply wr_nil; try simp only [thenE, inBlockE, bodyQ]))
          exact ⟨rfl, Keeps.refl _ _⟩
        focus (intro x y h; rfl)
        focus kernel_rfl
        apply chP_pure
        focus
          intro x w' hk hF
          (repeat first | (apply wr_add; (iterate 3 exact rfl); exact w_fit (by dsimp only [kIn]; first | done | omega)) | (apply wr_nil; try simp only [thenE, inBlockE, bodyQ]))
          exact ⟨rfl, Keeps.refl _ _⟩
        focus (intro x y h; rfl)
        focus kernel_rfl
        apply chP_pure
        focus
          intro x w' hk hF
          refine wr_sl_to (j := 16 + many % 4) rfl rfl rfl (by simp only [List.length_append, List.length_replicate]; omega) ?_
          apply wr_nil
          exact ⟨rfl, Keeps.refl _ _⟩
        focus (intro x y h; rfl)
        focus kernel_rfl
        apply chP_pure
        focus
          intro x w' hk hF
          refine wr_fieldAddr rfl rfl ?_
          apply wr_nil
          exact ⟨rfl, Keeps.refl _ _⟩
        focus (intro x y h; rfl)
        focus kernel_rfl
        refine chP_nil ?_
        intro x w4 hk4 hF
        have hb4 := hk4.heap (a := w3.drew) hb3 (fun h => h)
        have hpb4 := lt_of_heap hb4
        have hk34 : Keeps (· = pb) w3 w4 := ((Keeps.refl NoB w3).drew.trans hk4).upD
        (repeat first | (apply wr_store; (iterate 3 exact rfl); (first | exact rfl | with_reducible assumption); (focus repeat first | with_reducible assumption | exact heap_alloc_same _ _ | exact World.putObj_heap_same (by first | omega | (simp only [World.size_alloc, World.putObj_size, ne_eq]; omega)) | ((first | refine hAl ?_ ?_ | refine hPu ?_ ?_); focus first | omega | (simp only [World.size_alloc, World.putObj_size, ne_eq]; omega))); exact rfl) | (apply wr_nil; try simp only [thenE, inBlockE, bodyQ]))
        exact ⟨by trivial, .slice none 0 0, .slice none 0 0, ⟨rfl, rfl, rfl, trivial⟩, World.putObj_heap_same hpb4, PlS.none _ _ rfl rfl, hk34.put _ (fun _ => rfl), fun b hb => by rcases hb with hb | hb <;> cases hb⟩
    rintro ds f w4 ⟨rfl, rv', av', hslots, hb4, hs4, hk4, ho4⟩
    refine wc_keep _ hslots ?_
    intro f0
    have hr4 := slR_one hs4.r
    have ha4 := slR_one hs4.a
    have hx4 := hk4.heap hx3 (by omega)
    (repeat first | apply wc_seq)
    refine wc_drawP (l := _) 3 _ (by kernel_rfl) (by kernel_rfl) rfl (by kernel_rfl) (by kernel_rfl) (by decide) ?_
    apply chP_pure
    focus
      intro x w' hk hF
      apply wr_move; exact rfl; with_reducible (conv => enter [6, 3]; whnf)
      apply wr_nil
      exact ⟨rfl, Keeps.refl _ _⟩
    focus (intro x y h; rfl)
    focus kernel_rfl
    apply chP_pure
    focus
      intro x w' hk hF
      refine wr_loadAll (cs := PlC (madeOwn ⟨p, kind, true, name, many⟩) rv' av') rfl rfl rfl (hk.heap (a := w4.drew) hb4 (fun h => h)) rfl ?_
      apply wr_nil
      exact ⟨rfl, Keeps.refl _ _⟩
    focus (intro x y h; rfl)
    focus kernel_rfl
    apply chP_pure
    focus
      intro x w' hk hF
      apply wr_assign; exact rfl; with_reducible (conv => enter [6, 3]; whnf)
      apply wr_nil
      exact ⟨rfl, Keeps.refl _ _⟩
    focus (intro x y h; rfl)
    focus kernel_rfl
    refine chP_nil ?_
    intro x w5 hk5 hF
    have hk45 : Keeps NoB w4 w5 := (Keeps.refl NoB w4).drew.trans hk5
    have hx5 := hk5.heap (a := w4.drew) hx4 (fun h => h)
    have hkw5 : Keeps NoB w w5 := (hk13.trans' hk4 (fun i hi h => by omega)).trans hk45
    refine wr_storeAll (cs := PlC (madeOwn ⟨p, kind, true, name, many⟩) rv' av') rfl rfl rfl (PlC_one hr4 ha4) hx5 rfl rfl ?_
    (repeat first | apply wr_end | (apply wc_ret; try simp only [thenE, inBlockE, bodyQ]))
    refine leaveN (vs := [.int .i64 (1 + (K % 5 : Nat)), PlV (madeOwn ⟨p, kind, true, name, many⟩) rv' av']) (resv_tmp rfl (resv_cells (cs := PlC (madeOwn ⟨p, kind, true, name, many⟩) rv' av') rfl rfl (World.putObj_heap_same (lt_of_heap hx5)) rfl resv_nil)) ⟨rv', av', ?_, ?_, hkw5.put _ (fun h => by omega)⟩
    · show _ = Value.tuple #[.int .i64 ((1 + kOf kind : Nat) : Int), _]
      rw [hK5, Int.natCast_add]; rfl
    · exact (hs4.kin hk45).keep ((Keeps.refl (· = w.heap.size + 1) w5).put _ (fun _ => rfl)) (fun b hb e => by have := ho4 b (.inl hb); omega) (fun b hb e => by have := ho4 b (.inr hb); omega)
end Go.Proofs.YthlbgeonobicbaaDoor
