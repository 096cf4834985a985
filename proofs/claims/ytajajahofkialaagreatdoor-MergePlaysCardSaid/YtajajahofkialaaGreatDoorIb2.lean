/- noriaref14: the merge in memory; Want, Union, Lean. -/
import Derived.Test.YtajajahofkialaaGreatDoorIa
import Derived.Test.YtajajahofkialaaGreatDoorHr
namespace Go.Proofs.YtajajahofkialaaGreatDoor
open Go Go.V Go.RowKit
set_option linter.unusedVariables false
set_option linter.unusedSimpArgs false

/- The head: $1 after New. -/
/- A set of a few: $1 slice, $2 bytes, $3 world, $4 stem, $5 SlR, $6 bytes small, $7 how many. -/
theorem flat_drop : ∀ (L : List SE) (m : Nat), (L.flatMap GSt).drop (m * 2) = (L.drop m).flatMap GSt
  | L, 0 => by simp
  | [], m + 1 => by simp
  | a :: L, m + 1 => by
    rw [List.flatMap_cons, List.drop_succ_cons, ← flat_drop L m, show (m + 1) * 2 = m * 2 + 2 by omega]
    rfl
theorem ref_cells (L : List SE) (id : Nat) : ∀ j, j < 6 * 2 → ((L.flatMap GSt).toArray)[0 + id * 12 + j]? = ((L.drop (id * 6)).flatMap GSt)[j]? := fun j _ => by
  rw [List.getElem?_toArray, ← flat_drop, List.getElem?_drop, show 0 + id * 12 + j = id * 6 * 2 + j by omega]
structure RefAt (w : World) (xb : Nat) (Wn : WF) : Prop where
  at' : ∃ L : List SE, L.length = 198 ∧ w.heap[xb]? = some (.cells (L.flatMap GSt).toArray 33 (0, 0)) ∧ (∀ id k : Nat, id < 33 → k < 6 → ∃ v, L[id * 6 + k]? = some (Wn ((id : Int), (k : Int)), v)) ∧ ∀ x ∈ L, SlR w 1 x.2 x.1.2.length (SL x.1.2)
theorem RefAt.keep {w w' : World} {b : Nat} {Wn : WF} (h : RefAt w b Wn) (k : Keeps NoB w w') : RefAt w' b Wn := by
  obtain ⟨L, h1, h2, h3, h4⟩ := h.at'
  exact ⟨L, h1, k.heap h2 (fun h => h), h3, fun x hx => (h4 x hx).keep k (fun _ _ h => h)⟩
theorem RefAt.keepM {D : Nat → Prop} {w w' : World} {b : Nat} {Wn : WF} (h : RefAt w b Wn) (k : Keeps D w w') (hD : ∀ b, D b → ∀ c t r, w.heap[b]? ≠ some (.cells c t r)) : RefAt w' b Wn := by
  obtain ⟨L, h1, h2, h3, h4⟩ := h.at'
  exact ⟨L, h1, heap_keepM h2 k hD, h3, fun x hx => ((SE_R (h4 x hx)).keepM k hD).row⟩
theorem ref_sel {L : List SE} {Wn : WF} (h3 : ∀ id k : Nat, id < 33 → k < 6 → ∃ v, L[id * 6 + k]? = some (Wn ((id : Int), (k : Int)), v)) {id k : Nat} (hi : id < 33) (hk : k < 6) : ∃ v, (L.drop (id * 6))[k]? = some (Wn ((id : Int), (k : Int)), v) := by
  obtain ⟨v, hv⟩ := h3 id k hi hk
  exact ⟨v, by rw [List.getElem?_drop]; exact hv⟩
theorem build_zero {w : World} : SetR w noneP (SetV false nilV) := zset_R w
set_option maxRecDepth 100000 in
set_option maxHeartbeats 4000000 in
theorem refWant_ca {w : World} {xb : Nat} {Wn : WF} (h : RefAt w xb Wn) (hd : ∀ t, ¬ inDom t → Wn t = noneP) (id kk : Int) :
    Ca Tryz.prog 21 #[.pointer (some ⟨xb, 0, none⟩), .int .i64 id, .int .i64 kk] w fun v w' => SetR w' (Wn (id, kk)) v ∧ Keeps NoB w w' := by
  refine ca_of_body (args := [.pointer (some ⟨xb, 0, none⟩), .int .i64 id, .int .i64 kk]) Tryz.func21 rfl (by kernel_rfl) ?_
  apply wc_seq
  apply wc_region
  apply wr_alloc
  focus exact rfl
  refine wr_name ?_
  intro w1 hww1
  obtain ⟨bw1, hbw1⟩ : ∃ b, b = (w).heap.size := ⟨_, rfl⟩
  have hkw1 : Keeps NoB w w1 := by rw [hww1]; exact (Keeps.refl NoB w).alloc _
  have hcw1 : (w1).heap[bw1]? = some (.cells ([.bool false, nilV]).toArray 29 (0, 0)) := by rw [hww1, hbw1]; exact heap_alloc_same _ _
  rw [← hbw1]
  clear hww1
  by_cases hin : inDom (id, kk)
  · obtain ⟨a1, a2, a3, a4⟩ := (show 1 ≤ id ∧ id ≤ 32 ∧ 1 ≤ kk ∧ kk ≤ 5 from hin)
    obtain ⟨i, rfl⟩ := Int.eq_ofNat_of_zero_le (show 0 ≤ id by omega)
    obtain ⟨k, rfl⟩ := Int.eq_ofNat_of_zero_le (show 0 ≤ kk by omega)
    obtain ⟨L, h1, h2, h3, h4⟩ := (h.keep hkw1).at'
    obtain ⟨v, hv⟩ := ref_sel h3 (id := i) (k := k) (by omega) (by omega)
    have hrow := SE_R (h4 _ (List.mem_of_mem_drop (List.mem_of_getElem? hv)))
    dsimp only at hrow
    (repeat first | (apply wr_move; exact rfl; with_reducible (conv => enter [6, 3]; whnf)) | apply wr_end | apply wc_seq | apply wc_region | apply wc_skip | (apply wr_fieldAddr; iterate 2 exact rfl) | (apply wr_nilCheck; iterate 2 exact rfl) | (apply wr_cmp; (iterate 3 exact rfl); exact cmpF (by dsimp only [cmpN]; first | done | omega)) | (apply wr_pick (t := false); (iterate 2 exact rfl); with_reducible (conv => enter [6, 3]; whnf)) | (apply wc_false; exact rfl))
    refine wr_indexArr (i := i) rfl rfl rfl (by omega) ?_
    refine wr_indexArr (i := k) rfl rfl rfl (by omega) ?_
    refine wr_loadElem (G := GSt) (n := 6) (i := k) (l := L.drop (i * 6)) (o := 0 + i * 12) rfl rfl GSt_len rfl h2 (ref_cells L i) (by omega) (hv) rfl ?_
    refine wr_storeAll (cs := [.bool (Wn ((i : Int), (k : Int))).1, v]) rfl rfl rfl (by intro u hu; simp at hu; rcases hu with rfl | rfl; rfl; exact hrow.one.1) hcw1 rfl rfl ?_
    have hkp : Keeps (· = bw1) w1 (w1.putObj bw1 (.cells [.bool (Wn ((i : Int), (k : Int))).1, v].toArray 29 (0, 0))) := (Keeps.refl _ w1).put _ (fun _ => rfl)
    (repeat first | apply wr_end | (apply wc_ret; try simp only [thenE, inBlockE, bodyQ]))
    exact leaveN (vs := [SetV (Wn ((i : Int), (k : Int))).1 v]) (resv_cells (cs := [.bool (Wn ((i : Int), (k : Int))).1, v]) (e := 29) (fr := (0, 0)) rfl rfl (World.putObj_heap_same (lt_of_heap hcw1)) rfl resv_nil) ⟨hrow.put hkp hcw1 (setCells_ne false nilV (fun t e => by cases e)), hkw1.trans' hkp (fun i hi e => by omega)⟩
  · rw [hd _ hin]
    have hex : id < 1 ∨ (¬ id < 1 ∧ id > 32) ∨ (¬ id < 1 ∧ ¬ id > 32 ∧ kk < 1) ∨ (¬ id < 1 ∧ ¬ id > 32 ∧ ¬ kk < 1 ∧ kk > 5) := by
      rcases Decidable.em (id < 1) with h | h
      · exact .inl h
      · rcases Decidable.em (id > 32) with h2 | h2
        · exact .inr (.inl ⟨h, h2⟩)
        · rcases Decidable.em (kk < 1) with h3 | h3
          · exact .inr (.inr (.inl ⟨h, h2, h3⟩))
          · refine .inr (.inr (.inr ⟨h, h2, h3, ?_⟩))
            rcases Decidable.em (kk > 5) with h4 | h4
            · exact h4
            · exact absurd ⟨by dsimp only; omega, by dsimp only; omega, by dsimp only; omega, by dsimp only; omega⟩ hin
    have hkp : Keeps (· = bw1) w1 (w1.putObj bw1 (.cells [.bool false, nilV].toArray 29 (0, 0))) := (Keeps.refl _ w1).put _ (fun _ => rfl)
    rcases hex with e1 | ⟨e1, e2⟩ | ⟨e1, e2, e3⟩ | ⟨e1, e2, e3, e4⟩
    all_goals
      (repeat first | (apply wr_move; exact rfl; with_reducible (conv => enter [6, 3]; whnf)) | apply wr_end | apply wc_seq | apply wc_region | (apply wr_cmp; (iterate 3 exact rfl); exact cmpT (by dsimp only [cmpP]; first | done | omega)) | (apply wr_cmp; (iterate 3 exact rfl); exact cmpF (by dsimp only [cmpN]; first | done | omega)) | (apply wr_pick (t := true); (iterate 2 exact rfl); with_reducible (conv => enter [6, 3]; whnf)) | (apply wr_pick (t := false); (iterate 2 exact rfl); with_reducible (conv => enter [6, 3]; whnf)) | (apply wc_true; exact rfl) | (apply wr_skip; exact rfl))
      refine wr_build (ps := []) (cs := [.bool false, nilV]) rfl rfl rfl rfl ?_
      refine wr_storeAll (cs := [.bool false, nilV]) rfl rfl rfl zset_one hcw1 rfl rfl ?_
      (repeat first | apply wr_end | (apply wc_ret; try simp only [thenE, inBlockE, bodyQ]))
      exact leaveN (vs := [SetV false nilV]) (resv_cells (cs := [.bool false, nilV]) (e := 29) (fr := (0, 0)) rfl rfl (World.putObj_heap_same (lt_of_heap hcw1)) rfl resv_nil) ⟨zset_R _, hkw1.trans' hkp (fun i hi e => by omega)⟩
end Go.Proofs.YtajajahofkialaaGreatDoor

namespace Go.Proofs.YtajajahofkialaaGreatDoor
open Go Go.V Go.RowKit
set_option linter.unusedVariables false
set_option linter.unusedSimpArgs false

/- The head: $1 after New. -/
/- A set of a few: $1 slice, $2 bytes, $3 world, $4 stem, $5 SlR, $6 bytes small, $7 how many. -/
def rlK (L : List SE) (k n : Nat) : List SE := (List.range n).map fun i => L.getD ((i + 1) * 6 + k) (noneP, nilV)
theorem rlK_succ (L : List SE) (k n : Nat) : rlK L k (n + 1) = rlK L k n ++ [L.getD ((n + 1) * 6 + k) (noneP, nilV)] := by
  unfold rlK
  rw [List.range_succ, List.map_append]
  rfl
theorem flat_le (b : Nat) : ∀ l : List PS, (∀ s ∈ l, s.2.length ≤ b) → (l.flatMap (·.2)).length ≤ l.length * b
  | [], _ => by simp
  | s :: l, h => by
    have ih := flat_le b l (fun t ht => h t (List.mem_cons_of_mem _ ht))
    have h1 := h s (by simp)
    rw [List.flatMap_cons, List.length_append, List.length_cons, Nat.add_mul, Nat.one_mul]
    omega
theorem rlK_union {L : List SE} {Wn : WF} (hf : ∀ t, Fine (Wn t)) (hd : ∀ t, ¬ inDom t → Wn t = noneP) {k : Nat} (h1 : 1 ≤ k) (h5 : k ≤ 5) (h3 : ∀ id k : Nat, id < 33 → k < 6 → ∃ v, L[id * 6 + k]? = some (Wn ((id : Int), (k : Int)), v)) : unionP ((rlK L k 32).map (·.1)) = unionK Wn k := by
  have e : ∀ i : Nat, i < 32 → (L.getD ((i + 1) * 6 + k) (noneP, nilV)).1 = Wn (((i + 1 : Nat) : Int), (k : Int)) := fun i hi => by
    obtain ⟨v, hv⟩ := h3 (i + 1) k (by omega) (by omega)
    rw [List.getD_eq_getElem?_getD, hv]
    rfl
  have hm : ∀ s, s ∈ (rlK L k 32).map (·.1) ↔ ∃ i : Nat, i < 32 ∧ s = Wn (((i + 1 : Nat) : Int), (k : Int)) := fun s => by
    unfold rlK
    rw [List.map_map, List.mem_map]
    constructor
    · rintro ⟨i, hi, rfl⟩
      exact ⟨i, List.mem_range.1 hi, e i (List.mem_range.1 hi)⟩
    · rintro ⟨i, hi, rfl⟩
      exact ⟨i, List.mem_range.2 hi, e i hi⟩
  refine (unionK_eq (unionP_fine fun s hs => ?_) fun x => ?_).symm
  · obtain ⟨i, _, rfl⟩ := (hm s).1 hs
    exact hf _
  · rw [mem_listPU, mem_allL]
    constructor
    · rintro ⟨i, hi, hx⟩
      by_cases h0 : i = 0
      · subst h0
        rw [hd _ (fun h => by have := h.1; simp at this)] at hx
        exact absurd hx (by simp [noneP, listP])
      · obtain ⟨j, rfl⟩ : ∃ j, i = j + 1 := ⟨i - 1, by omega⟩
        exact ⟨_, (hm _).2 ⟨j, by omega, rfl⟩, hx⟩
    · rintro ⟨s, hs, hx⟩
      obtain ⟨i, hi, rfl⟩ := (hm s).1 hs
      exact ⟨i + 1, by omega, hx⟩
set_option maxRecDepth 100000 in
set_option maxHeartbeats 4000000 in
theorem refUnion14_ca {w : World} {xb : Nat} {Wn : WF} (h : RefAt w xb Wn) (hd : ∀ t, ¬ inDom t → Wn t = noneP) (hf : ∀ t, Fine (Wn t)) (hsm : ∀ t, (Wn t).2.length ≤ 100000) (k : Nat) (hk1 : 1 ≤ k) (hk5 : k ≤ 5) :
    Ca Tryz.prog 19 #[.pointer (some ⟨xb, 0, none⟩), .int .i64 (k : Int)] w fun v w' => SetR w' (unionK Wn k) v ∧ Keeps NoB w w' := by
  refine ca_of_body (args := [.pointer (some ⟨xb, 0, none⟩), .int .i64 (k : Int)]) Tryz.func19 rfl (by kernel_rfl) ?_
  apply wc_seq
  apply wc_region
  apply wr_alloc
  focus exact rfl
  refine wr_name ?_
  intro w1 hww1
  obtain ⟨bw1, hbw1⟩ : ∃ b, b = (w).heap.size := ⟨_, rfl⟩
  have hkw1 : Keeps NoB w w1 := by rw [hww1]; exact (Keeps.refl NoB w).alloc _
  have hcw1 : (w1).heap[bw1]? = some (.cells ([.bool false, nilV]).toArray 29 (0, 0)) := by rw [hww1, hbw1]; exact heap_alloc_same _ _
  rw [← hbw1]
  clear hww1
  obtain ⟨L, h1, h2, h3, h4⟩ := (h.keep hkw1).at'
  (repeat first | (apply wr_assign; exact rfl; with_reducible (conv => enter [6, 3]; whnf)) | apply wr_end | apply wc_seq | apply wc_region | apply wc_block)
  refine wc_loopL (α := Nat × Value) (fun p => [(0, .pointer (some ⟨xb, 0, none⟩)), (1, .int .i64 (k : Int)), (4, .pointer (some ⟨bw1, 0, none⟩)), (5, p.2), (6, .int .i64 ((p.1 + 1 : Nat) : Int))])
    (fun p ds w' => ds = [] ∧ p.1 ≤ 32 ∧ w'.ownsRow w1.heap.size 29 2 p.2 p.1 ((rlK L k p.1).flatMap GSt) ∧ Keeps NoB w1 w') (fun p => 32 - p.1) (0, nilV)
    ⟨rfl, by decide, own_nilV _ _ _ _, Keeps.refl _ _⟩ ⟨rfl, rfl, rfl, rfl, rfl, trivial⟩ ?_
  rintro ⟨i, ov⟩ ds f0 w3 ⟨rfl, hi, ho3, hk13⟩
  dsimp only at hi ho3 ⊢
  have hz13 := hk13.size
  by_cases hlt : i < 32
  rotate_left
  · have hie : i = 32 := by omega
    subst hie
    have hc3 := hk13.heap hcw1 (fun h => h)
    have hrow : ∀ y ∈ rlK L k 32, SlR w3 1 y.2 y.1.2.length (SL y.1.2) ∧ y.1.2.length ≤ 100000 := fun y hy => by
      unfold rlK at hy
      obtain ⟨j, hj, rfl⟩ := List.mem_map.1 hy
      have hj := List.mem_range.1 hj
      obtain ⟨v, hv⟩ := h3 (j + 1) k (by omega) (by omega)
      rw [List.getD_eq_getElem?_getD, hv]
      exact ⟨(h4 _ (List.mem_of_getElem? hv)).keep hk13 (fun _ _ h => h), hsm _⟩
    have hlen : (rlK L k 32).length = 32 := by simp [rlK]
    have hsat : SetsAt w3 (rlK L k 32) ov := ⟨by rw [hlen]; exact SlR.of_own ho3, fun y hy => (hrow y hy).1⟩
    have huN : (uN (rlK L k 32) (rlK L k 32).length).length ≤ 1000000000 := by
      unfold uN
      rw [List.take_length]
      have := flat_le 100000 ((rlK L k 32).map (·.1)) (fun s hs => by obtain ⟨y, hy, rfl⟩ := List.mem_map.1 hs; exact (hrow y hy).2)
      rw [List.length_map, hlen] at this
      omega
    (repeat first | (apply wr_move; exact rfl; with_reducible (conv => enter [6, 3]; whnf)) | apply wr_end | apply wc_seq | apply wc_region | (apply wr_cmp; (iterate 3 exact rfl); exact cmpF (by dsimp only [cmpN]; first | done | omega)) | (apply wr_pick (t := false); (iterate 2 exact rfl); with_reducible (conv => enter [6, 3]; whnf)) | (apply wc_false; exact rfl) | (apply wc_exit; try simp only [thenE, inBlockE, bodyQ, ↓reduceIte, Nat.reduceEqDiff]) | (apply wr_skip; exact rfl))
    refine wr_call (vs := [ov]) rfl (refUnion_ca (rlK L k 32) ov w3 hsat (by rw [hlen]; decide) huN) rfl ?_
    rintro v w4 ⟨hu, hk4⟩
    rw [rlK_union hf hd hk1 hk5 h3] at hu
    obtain ⟨un, rfl, hur⟩ := hu
    have hu4 : SetR w4 (unionK Wn k) (SetV (unionK Wn k).1 un) := ⟨un, rfl, hur⟩
    have hc4 := hk4.heap hc3 (fun h => h)
    refine wr_storeAll (cs := [.bool (unionK Wn k).1, un]) rfl rfl rfl (by intro u hu; simp at hu; rcases hu with rfl | rfl; rfl; exact hu4.one.1) hc4 rfl rfl ?_
    have hkp : Keeps (· = bw1) w4 (w4.putObj bw1 (.cells [.bool (unionK Wn k).1, un].toArray 29 (0, 0))) := (Keeps.refl _ w4).put _ (fun _ => rfl)
    (repeat first | apply wr_end | (apply wc_ret; try simp only [thenE, inBlockE, bodyQ]))
    exact leaveN (vs := [SetV (unionK Wn k).1 un]) (resv_cells (cs := [.bool (unionK Wn k).1, un]) (e := 29) (fr := (0, 0)) rfl rfl (World.putObj_heap_same (lt_of_heap hc4)) rfl resv_nil) ⟨hu4.put hkp hc4 (setCells_ne false nilV (fun t e => by cases e)), ((hkw1.trans hk13).trans hk4).trans' hkp (fun i hi e => by omega)⟩
  have h23 := hk13.heap h2 (fun h => h)
  obtain ⟨v, hv⟩ := ref_sel h3 (id := i + 1) (k := k) (by omega) (by omega)
  have hvg : L.getD ((i + 1) * 6 + k) (noneP, nilV) = (Wn (((i + 1 : Nat) : Int), (k : Int)), v) := by
    rw [List.getElem?_drop] at hv
    rw [List.getD_eq_getElem?_getD, hv]
    rfl
  have hvr := (SE_R (h4 _ (List.mem_of_mem_drop (List.mem_of_getElem? hv)))).keep hk13
  dsimp only at hvr
  (repeat first | (apply wr_move; exact rfl; with_reducible (conv => enter [6, 3]; whnf)) | apply wr_end | apply wc_seq | apply wc_region | apply wc_skip | apply wc_block | (apply wr_fieldAddr; iterate 2 exact rfl) | (apply wr_nilCheck; iterate 2 exact rfl) | (apply wr_cmp; (iterate 3 exact rfl); exact cmpT (by dsimp only [cmpP]; first | done | omega)) | (apply wr_pick (t := true); (iterate 2 exact rfl); with_reducible (conv => enter [6, 3]; whnf)) | (apply wc_true; exact rfl))
  refine wr_indexArr (i := i + 1) rfl rfl rfl (by omega) ?_
  refine wr_indexArr (i := k) rfl rfl rfl (by omega) ?_
  refine wr_loadElem (G := GSt) (n := 6) (i := k) (l := L.drop ((i + 1) * 6)) (o := 0 + (i + 1) * 12) rfl rfl GSt_len rfl h23 (ref_cells L (i + 1)) (by omega) (hv) rfl ?_
  refine wr_buildSlice (vs := [SetV (Wn (((i + 1 : Nat) : Int), (k : Int))).1 v]) rfl rfl (by intro v hv; simp at hv; subst hv; rfl) rfl (by decide) (by decide) (by decide) ?_
  have hk4 : Keeps NoB w3 (w3.alloc (.cells (List.flatMap (fun v : Value => v.cells.toList) [SetV (Wn (((i + 1 : Nat) : Int), (k : Int))).1 v]).toArray 29)) := (Keeps.refl _ _).alloc _
  have ho4 := own_keep ho3 hk4 (fun _ _ h => h)
  refine wr_append (base := w1.heap.size) (v := ov) (n := i) (m := 1) (news := [.bool (Wn (((i + 1 : Nat) : Int), (k : Int))).1, v]) rfl rfl ho4 rfl (heap_alloc_same _ _) rfl (by intro u hu; simp at hu; rcases hu with rfl | rfl; rfl; exact hvr.one.1) rfl (by decide) (by omega) (by omega) (Nat.le_trans hz13 hk4.size) ?_
  intro v5 w5 ho5 hk5 _
  have hk15 : Keeps NoB w1 w5 := (hk13.trans hk4).trans' hk5 (fun q hq e => by have := V.F.own_geF ho4 e; omega)
  (repeat first | (apply wr_move; exact rfl; with_reducible (conv => enter [6, 3]; whnf)) | (apply wr_assign; exact rfl; with_reducible (conv => enter [6, 3]; whnf)) | apply wr_end | apply wc_region | (apply wr_add; (iterate 3 exact rfl); exact w_fit (by dsimp only [kIn]; first | done | omega)) | (apply wr_nil; try simp only [thenE, inBlockE, bodyQ]))
  refine ⟨(i + 1, v5), by dsimp only; omega, ⟨by trivial, hlt, ?_, hk15⟩, rfl, rfl, rfl, rfl, congrArg (Value.int .i64) (by dsimp only; omega), trivial⟩
  dsimp only
  rw [rlK_succ, List.flatMap_append, hvg]
  exact ho5
end Go.Proofs.YtajajahofkialaaGreatDoor

namespace Go.Proofs.YtajajahofkialaaGreatDoor
open Go Go.V Go.RowKit
set_option linter.unusedVariables false
set_option linter.unusedSimpArgs false

/- The head: $1 after New. -/
/- A set of a few: $1 slice, $2 bytes, $3 world, $4 stem, $5 SlR, $6 bytes small, $7 how many. -/
theorem unionP_none : unionP [] = noneP := fine_ext (unionP_fine (fun s hs => by cases hs)) (nil_fine false) rfl fun x => by
  rw [mem_unionP]
  constructor
  · rintro ⟨s, hs, _⟩; cases hs
  · intro h; cases h
set_option maxRecDepth 100000 in
set_option maxHeartbeats 4000000 in
theorem refUnionZ_ca {w : World} {xb : Nat} {kk : Int} (hk : ¬ (1 ≤ kk ∧ kk ≤ 5)) :
    Ca Tryz.prog 19 #[.pointer (some ⟨xb, 0, none⟩), .int .i64 kk] w fun v w' => SetR w' noneP v ∧ Keeps NoB w w' := by
  refine ca_of_body (args := [.pointer (some ⟨xb, 0, none⟩), .int .i64 kk]) Tryz.func19 rfl (by kernel_rfl) ?_
  apply wc_seq
  apply wc_region
  apply wr_alloc
  focus exact rfl
  refine wr_name ?_
  intro w1 hww1
  obtain ⟨bw1, hbw1⟩ : ∃ b, b = (w).heap.size := ⟨_, rfl⟩
  have hkw1 : Keeps NoB w w1 := by rw [hww1]; exact (Keeps.refl NoB w).alloc _
  have hcw1 : (w1).heap[bw1]? = some (.cells ([.bool false, nilV]).toArray 29 (0, 0)) := by rw [hww1, hbw1]; exact heap_alloc_same _ _
  rw [← hbw1]
  clear hww1
  have hex : ¬ kk ≥ 1 ∨ (kk ≥ 1 ∧ ¬ kk ≤ 5) := by omega
  (repeat first | (apply wr_assign; exact rfl; with_reducible (conv => enter [6, 3]; whnf)) | apply wr_end | apply wc_seq | apply wc_region | apply wc_block)
  refine wc_loopL (α := Unit) (fun _ => [(0, .pointer (some ⟨xb, 0, none⟩)), (1, .int .i64 kk), (4, .pointer (some ⟨bw1, 0, none⟩)), (5, nilV), (6, .int .i64 1)])
    (fun _ ds w' => ds = [] ∧ w' = w1) (fun _ => 0) () ⟨rfl, rfl⟩ ⟨rfl, rfl, rfl, rfl, rfl, trivial⟩ ?_
  rintro _ ds f0 w3 ⟨rfl, e⟩
  rw [e]
  clear e
  rcases hex with e1 | ⟨e1, e2⟩
  all_goals
    (repeat first | (apply wr_move; exact rfl; with_reducible (conv => enter [6, 3]; whnf)) | apply wr_end | apply wc_seq | apply wc_region | (apply wr_cmp; (iterate 3 exact rfl); exact cmpT (by dsimp only [cmpP]; first | done | omega)) | (apply wr_cmp; (iterate 3 exact rfl); exact cmpF (by dsimp only [cmpN]; first | done | omega)) | (apply wr_pick (t := true); (iterate 2 exact rfl); with_reducible (conv => enter [6, 3]; whnf)) | (apply wr_pick (t := false); (iterate 2 exact rfl); with_reducible (conv => enter [6, 3]; whnf)) | (apply wc_false; exact rfl) | (apply wc_exit; try simp only [thenE, inBlockE, bodyQ, ↓reduceIte, Nat.reduceEqDiff]) | (apply wr_skip; exact rfl))
    refine wr_call (vs := [nilV]) rfl (refUnion_ca [] nilV w1 ⟨⟨rfl, none, 0, rfl, Nat.le_refl _, .inl ⟨rfl, fun _ => rfl⟩⟩, fun x hx => by cases hx⟩ (by decide) (by simp [uN])) rfl ?_
    rintro v w4 ⟨hu, hk4⟩
    rw [show unionP (([] : List SE).map (·.1)) = noneP from unionP_none] at hu
    obtain ⟨un, rfl, hur⟩ := hu
    have hu4 : SetR w4 noneP (SetV noneP.1 un) := ⟨un, rfl, hur⟩
    have hc4 := hk4.heap hcw1 (fun h => h)
    refine wr_storeAll (cs := [.bool noneP.1, un]) rfl rfl rfl (by intro u hu; simp at hu; rcases hu with rfl | rfl; rfl; exact hu4.one.1) hc4 rfl rfl ?_
    have hkp : Keeps (· = bw1) w4 (w4.putObj bw1 (.cells [.bool noneP.1, un].toArray 29 (0, 0))) := (Keeps.refl _ w4).put _ (fun _ => rfl)
    (repeat first | apply wr_end | (apply wc_ret; try simp only [thenE, inBlockE, bodyQ]))
    exact leaveN (vs := [SetV noneP.1 un]) (resv_cells (cs := [.bool noneP.1, un]) (e := 29) (fr := (0, 0)) rfl rfl (World.putObj_heap_same (lt_of_heap hc4)) rfl resv_nil) ⟨hu4.put hkp hc4 (setCells_ne false nilV (fun t e => by cases e)), (hkw1.trans hk4).trans' hkp (fun i hi e => by omega)⟩
set_option maxRecDepth 100000 in
set_option maxHeartbeats 4000000 in
theorem refLean_ca {w : World} {xb : Nat} {kk : Int} {U : PS} (hC : ∀ w', Keeps NoB w w' → Ca Tryz.prog 19 #[.pointer (some ⟨xb, 0, none⟩), .int .i64 kk] w' fun v w'' => SetR w'' U v ∧ Keeps NoB w' w'') :
    Ca Tryz.prog 23 #[.pointer (some ⟨xb, 0, none⟩), .int .i64 kk] w fun v w' => SetR w' (leanP U) v ∧ Keeps NoB w w' := by
  refine ca_of_body (args := [.pointer (some ⟨xb, 0, none⟩), .int .i64 kk]) Tryz.func23 rfl (by kernel_rfl) ?_
  apply wc_seq
  apply wc_region
  apply wr_alloc
  focus exact rfl
  refine wr_name ?_
  intro w1 hww1
  obtain ⟨bw1, hbw1⟩ : ∃ b, b = (w).heap.size := ⟨_, rfl⟩
  have hkw1 : Keeps NoB w w1 := by rw [hww1]; exact (Keeps.refl NoB w).alloc _
  have hcw1 : (w1).heap[bw1]? = some (.cells ([.bool false, nilV]).toArray 29 (0, 0)) := by rw [hww1, hbw1]; exact heap_alloc_same _ _
  rw [← hbw1]
  clear hww1
  (repeat first | (apply wr_move; exact rfl; with_reducible (conv => enter [6, 3]; whnf)) | apply wr_end | apply wc_seq | apply wc_region)
  refine wr_call (vs := [.pointer (some ⟨xb, 0, none⟩), .int .i64 kk]) rfl (hC w1 hkw1) rfl ?_
  rintro v w2 ⟨⟨un, rfl, hur⟩, hk2⟩
  have hu2 : SetR w2 U (SetV U.1 un) := ⟨un, rfl, hur⟩
  (repeat first | (apply wr_alloc; exact rfl))
  refine wr_storeAll (cs := [.bool U.1, un]) rfl rfl rfl (by intro u hu; simp at hu; rcases hu with rfl | rfl; rfl; exact hu2.one.1) (heap_alloc_same _ _) rfl rfl ?_
  refine wr_name ?_
  intro w3 hww3
  obtain ⟨bw3, hbw3⟩ : ∃ b, b = (w2).heap.size := ⟨_, rfl⟩
  have hkw3 : Keeps NoB w2 w3 := by rw [hww3]; exact ((Keeps.refl NoB w2).alloc _).put _ (fun h => by omega)
  have hcw3 : (w3).heap[bw3]? = some (.cells ([.bool U.1, un]).toArray 29 (0, 0)) := by rw [hww3, hbw3]; exact World.putObj_heap_same (by simp)
  rw [← hbw3]
  clear hww3
  have hu3 := hu2.keep hkw3
  have hk13 := hk2.trans hkw3
  have hc13 := hk13.heap hcw1 (fun h => h)
  have hz := hkw1.size
  unfold leanP
  cases hU : U.1
  · rw [hU] at hcw3 hu3
    rw [if_neg (by decide)]
    (repeat first | apply wr_end | apply wc_seq | apply wc_region | apply wc_skip | (apply wr_fieldAddr; iterate 2 exact rfl) | (apply wr_load; (iterate 3 exact rfl); (focus repeat first | with_reducible assumption | exact heap_alloc_same _ _ | exact World.putObj_heap_same (by first | omega | (simp only [World.size_alloc, World.putObj_size, ne_eq]; omega)) | ((first | refine hAl ?_ ?_ | refine hPu ?_ ?_); focus first | omega | (simp only [World.size_alloc, World.putObj_size, ne_eq]; omega))); exact rfl; conv => enter [6, 3]; whnf) | (apply wc_false; exact rfl))
    refine wr_loadAll (cs := [.bool false, un]) rfl rfl rfl hcw3 rfl ?_
    refine wr_storeAll (cs := [.bool false, un]) rfl rfl rfl (by intro u hu; simp at hu; rcases hu with rfl | rfl; rfl; exact hu3.one.1) hc13 rfl rfl ?_
    have hkp : Keeps (· = bw1) w3 (w3.putObj bw1 (.cells [.bool false, un].toArray 29 (0, 0))) := (Keeps.refl _ w3).put _ (fun _ => rfl)
    (repeat first | apply wr_end | (apply wc_ret; try simp only [thenE, inBlockE, bodyQ]))
    exact leaveN (vs := [SetV false un]) (resv_cells (cs := [.bool false, un]) (e := 29) (fr := (0, 0)) rfl rfl (World.putObj_heap_same (lt_of_heap hc13)) rfl resv_nil) ⟨hu3.put hkp hc13 (setCells_ne false nilV (fun t e => by cases e)), (hkw1.trans hk13).trans' hkp (fun i hi e => by omega)⟩
  · rw [hU] at hcw3 hu3
    rw [if_pos rfl]
    (repeat first | apply wr_end | apply wc_seq | apply wc_region | (apply wr_fieldAddr; iterate 2 exact rfl) | (apply wr_load; (iterate 3 exact rfl); (focus repeat first | with_reducible assumption | exact heap_alloc_same _ _ | exact World.putObj_heap_same (by first | omega | (simp only [World.size_alloc, World.putObj_size, ne_eq]; omega)) | ((first | refine hAl ?_ ?_ | refine hPu ?_ ?_); focus first | omega | (simp only [World.size_alloc, World.putObj_size, ne_eq]; omega))); exact rfl; conv => enter [6, 3]; whnf) | (apply wc_true; exact rfl))
    refine wr_build (ps := [(0, .bool true)]) (cs := [.bool true, nilV]) rfl rfl rfl rfl ?_
    refine wr_storeAll (cs := [.bool true, nilV]) rfl rfl rfl (by intro u hu; simp at hu; rcases hu with rfl | rfl <;> rfl) hc13 rfl rfl ?_
    have hkp : Keeps (· = bw1) w3 (w3.putObj bw1 (.cells [.bool true, nilV].toArray 29 (0, 0))) := (Keeps.refl _ w3).put _ (fun _ => rfl)
    (repeat first | apply wr_end | (apply wc_ret; try simp only [thenE, inBlockE, bodyQ]))
    exact leaveN (vs := [SetV true nilV]) (resv_cells (cs := [.bool true, nilV]) (e := 29) (fr := (0, 0)) rfl rfl (World.putObj_heap_same (lt_of_heap hc13)) rfl resv_nil) ⟨⟨nilV, rfl, slr_none _⟩, (hkw1.trans hk13).trans' hkp (fun i hi e => by omega)⟩
def wlK (Wn : WF) (kk : Int) (x : TT) (n : Nat) : List Int := ((List.range (n + 1)).filter fun id : Nat => hasP (Wn ((id : Int), kk)) x).map fun id : Nat => (id : Int)
theorem wlK_succ (Wn : WF) (kk : Int) (x : TT) (n : Nat) : wlK Wn kk x (n + 1) = wlK Wn kk x n ++ (if hasP (Wn (((n + 1 : Nat) : Int), kk)) x = true then [((n + 1 : Nat) : Int)] else []) := by
  unfold wlK
  rw [List.range_succ, List.filter_append, List.map_append]
  congr 1
  rw [List.filter_cons]
  split <;> simp
theorem wlK_zero {Wn : WF} (hd : ∀ t, ¬ inDom t → Wn t = noneP) (kk : Int) (x : TT) : wlK Wn kk x 0 = [] := by
  unfold wlK
  rw [show List.range (0 + 1) = [0] from rfl, List.filter_cons, hd _ (fun h => by have := h.1; simp at this), none_has]
  rfl
set_option maxRecDepth 100000 in
set_option maxHeartbeats 4000000 in
theorem refWho_ca {w : World} {xb : Nat} {Wn : WF} (h : RefAt w xb Wn) (hd : ∀ t, ¬ inDom t → Wn t = noneP) (hsm : ∀ t, (Wn t).2.length ≤ 100000) (kk : Int) (x : TT) (hx : x.length ≤ 9223372036854775807) :
    Ca Tryz.prog 26 #[.pointer (some ⟨xb, 0, none⟩), .agg #[.int .i64 kk, S x]] w fun v w' => w'.ownsRow w.heap.size 3 1 v (whoL Wn kk x).length (IL (whoL Wn kk x)) ∧ Keeps NoB w w' := by
  refine ca_of_body (args := [.pointer (some ⟨xb, 0, none⟩), .agg #[.int .i64 kk, S x]]) Tryz.func26 rfl (by kernel_rfl) ?_
  apply wc_seq
  apply wc_region
  refine wr_box (v := .agg #[.int .i64 kk, S x]) rfl rfl ?_
  refine wr_name ?_
  intro w1 hww1
  obtain ⟨bw1, hbw1⟩ : ∃ b, b = (w).heap.size := ⟨_, rfl⟩
  have hkw1 : Keeps NoB w w1 := by rw [hww1]; exact (Keeps.refl NoB w).alloc _
  have hcw1 : (w1).heap[bw1]? = some (.cells ([.int .i64 kk, S x]).toArray 55 (0, 0)) := by rw [hww1, hbw1]; exact heap_alloc_same _ _
  rw [← hbw1]
  clear hww1
  have hz1 := hkw1.size
  (repeat first | (apply wr_assign; exact rfl; with_reducible (conv => enter [6, 3]; whnf)) | apply wr_end | apply wc_seq | apply wc_region | apply wc_block)
  refine wc_loopL (α := Nat × Value) (fun p => [(0, .pointer (some ⟨xb, 0, none⟩)), (3, .pointer (some ⟨bw1, 0, none⟩)), (5, p.2), (6, .int .i64 ((p.1 + 1 : Nat) : Int))])
    (fun p ds w' => ds = [] ∧ p.1 ≤ 32 ∧ w'.ownsRow w1.heap.size 3 1 p.2 (wlK Wn kk x p.1).length (IL (wlK Wn kk x p.1)) ∧ Keeps NoB w1 w') (fun p => 32 - p.1) (0, nilV)
    ⟨rfl, by decide, by rw [wlK_zero hd]; exact own_nilV _ _ _ _, Keeps.refl _ _⟩ ⟨rfl, rfl, rfl, rfl, trivial⟩ ?_
  rintro ⟨i, ov⟩ ds f0 w3 ⟨rfl, hi, ho3, hk13⟩
  dsimp only at hi ho3 ⊢
  have hz13 := hk13.size
  by_cases hlt : i < 32
  rotate_left
  · have hie : i = 32 := by omega
    subst hie
    (repeat first | (apply wr_move; exact rfl; with_reducible (conv => enter [6, 3]; whnf)) | (apply wr_assign; exact rfl; with_reducible (conv => enter [6, 3]; whnf)) | apply wr_end | apply wc_seq | apply wc_region | (apply wr_cmp; (iterate 3 exact rfl); exact cmpF (by dsimp only [cmpN]; first | done | omega)) | (apply wc_false; exact rfl) | (apply wc_exit; try simp only [thenE, inBlockE, bodyQ, ↓reduceIte, Nat.reduceEqDiff]) | (apply wc_ret; try simp only [thenE, inBlockE, bodyQ]))
    exact leave1 (v := ov) rfl rfl ⟨own_down ho3 (by omega), hkw1.trans hk13⟩
  have h3 := (h.keep hkw1).keep hk13
  have hc3 := hk13.heap hcw1 (fun h => h)
  have hwl : (wlK Wn kk x i).length ≤ 33 := by
    unfold wlK
    rw [List.length_map]
    have := List.length_filter_le (fun id : Nat => hasP (Wn ((id : Int), kk)) x) (List.range (i + 1))
    rw [List.length_range] at this
    omega
  obtain ⟨cc, hcc⟩ : ∃ c, hasP (Wn (((i + 1 : Nat) : Int), kk)) x = c := ⟨_, rfl⟩
  have hk0 : ∀ {w'}, Keeps NoB w3.drew w' → Keeps NoB w3 w' := fun hk => (Keeps.refl NoB w3).drew.trans hk
  (repeat first | (apply wr_move; exact rfl; with_reducible (conv => enter [6, 3]; whnf)) | apply wr_end | apply wc_seq | apply wc_region | apply wc_skip | apply wc_block | (apply wr_cmp; (iterate 3 exact rfl); exact cmpT (by dsimp only [cmpP]; first | done | omega)) | (apply wc_true; exact rfl))
  refine wc_drawP (l := _) 9 _ (by kernel_rfl) (by kernel_rfl) rfl (by kernel_rfl) (by kernel_rfl) (by decide) ?_
  apply chP_pure
  focus
    intro xx w' hk hF
    apply wr_move; exact rfl; with_reducible (conv => enter [6, 3]; whnf)
    apply wr_nil
    exact ⟨rfl, Keeps.refl _ _⟩
  focus (intro xx yy h; rfl)
  focus kernel_rfl
  apply chP_pure
  focus
    intro xx w' hk hF
    apply wr_move; exact rfl; with_reducible (conv => enter [6, 3]; whnf)
    apply wr_nil
    exact ⟨rfl, Keeps.refl _ _⟩
  focus (intro xx yy h; rfl)
  focus kernel_rfl
  apply chP_pure
  focus
    intro xx w' hk hF
    refine wr_fieldAddr rfl rfl ?_
    apply wr_nil
    exact ⟨rfl, Keeps.refl _ _⟩
  focus (intro xx yy h; rfl)
  focus kernel_rfl
  apply chP_pure
  focus
    intro xx w' hk hF
    refine wr_load (v := .int .i64 kk) rfl rfl rfl ((hk0 hk).heap hc3 (fun h => h)) rfl ?_
    apply wr_nil
    exact ⟨rfl, Keeps.refl _ _⟩
  focus (intro xx yy h; rfl)
  focus kernel_rfl
  refine chP_fact (fun yq => yq) (fun yq w' => SetR w' (Wn (((i + 1 : Nat) : Int), kk)) yq) (fun yq w' w'' h k => h.keep k) ?_ ?_
  focus
    intro xx w' hk hF
    refine wr_call (vs := [.pointer (some ⟨xb, 0, none⟩), .int .i64 ((i + 1 : Nat) : Int), .int .i64 kk]) rfl (refWant_ca (h3.keep (hk0 hk)) hd ((i + 1 : Nat) : Int) kk) rfl ?_
    rintro v w'' ⟨hR, hkc⟩
    apply wr_nil
    exact ⟨v, rfl, hR, hkc⟩
  apply chP_pure
  focus
    intro xx w' hk hF
    refine wr_fieldAddr rfl rfl ?_
    apply wr_nil
    exact ⟨rfl, Keeps.refl _ _⟩
  focus (intro xx yy h; rfl)
  focus kernel_rfl
  apply chP_pure
  focus
    intro xx w' hk hF
    refine wr_load (v := S x) rfl rfl rfl ((hk0 hk).heap hc3 (fun h => h)) rfl ?_
    apply wr_nil
    exact ⟨rfl, Keeps.refl _ _⟩
  focus (intro xx yy h; rfl)
  focus kernel_rfl
  apply chP_pure
  focus
    intro xx w' hk hF
    refine wr_call (vs := [xx 4, S x]) rfl (refHas_ca cc hcc hx (hF 4 (by kernel_rfl)) (by have := hsm (((i + 1 : Nat) : Int), kk); omega)) rfl ?_
    rintro v w'' ⟨rfl, hkc⟩
    apply wr_nil
    exact ⟨rfl, hkc⟩
  focus (intro xx yy h; rfl)
  focus kernel_rfl
  apply chP_pure
  focus
    intro xx w' hk hF
    apply wr_assign; exact rfl; with_reducible (conv => enter [6, 3]; whnf)
    apply wr_nil
    exact ⟨rfl, Keeps.refl _ _⟩
  focus (intro xx yy h; rfl)
  focus kernel_rfl
  refine chP_nil ?_
  intro xx w4 hk4' hF
  have hk4 := hk0 hk4'
  clear hF
  have hk14 := hk13.trans hk4
  have ho4 := own_keep ho3 hk4 (fun _ _ h => h)
  have hws := wlK_succ Wn kk x i
  rw [hcc] at hws
  cases cc
  · rw [if_neg (by decide), List.append_nil] at hws
    (repeat first | (apply wr_move; exact rfl; with_reducible (conv => enter [6, 3]; whnf)) | (apply wr_assign; exact rfl; with_reducible (conv => enter [6, 3]; whnf)) | apply wr_end | apply wc_seq | apply wc_region | apply wc_skip | (apply wr_add; (iterate 3 exact rfl); exact w_fit (by dsimp only [kIn]; first | done | omega)) | (apply wc_false; exact rfl))
    refine ⟨(i + 1, ov), by dsimp only; omega, ⟨by trivial, hlt, by dsimp only; rw [hws]; exact ho4, hk14⟩, rfl, rfl, rfl, congrArg (Value.int .i64) (by dsimp only; omega), trivial⟩
  · rw [if_pos rfl] at hws
    (repeat first | (apply wr_move; exact rfl; with_reducible (conv => enter [6, 3]; whnf)) | apply wr_end | apply wc_seq | apply wc_region | (apply wc_true; exact rfl))
    refine wr_buildSlice (vs := [.int .i64 ((i + 1 : Nat) : Int)]) rfl rfl (by intro v hv; simp at hv; subst hv; rfl) rfl (by decide) (by decide) (by decide) ?_
    have hk5 : Keeps NoB w4 (w4.alloc (.cells (List.flatMap (fun v : Value => v.cells.toList) [.int .i64 ((i + 1 : Nat) : Int)]).toArray 3)) := (Keeps.refl _ _).alloc _
    have ho5 := own_keep ho4 hk5 (fun _ _ h => h)
    refine wr_append (base := w1.heap.size) (v := ov) (n := (wlK Wn kk x i).length) (m := 1) (news := [.int .i64 ((i + 1 : Nat) : Int)]) rfl rfl ho5 rfl (heap_alloc_same _ _) rfl (by intro u hu; simp at hu; subst hu; rfl) rfl (by decide) (by omega) (by omega) (Nat.le_trans hk14.size hk5.size) ?_
    intro v6 w6 ho6 hk6 _
    have hk16 : Keeps NoB w1 w6 := (hk14.trans hk5).trans' hk6 (fun q hq e => by have := V.F.own_geF ho5 e; omega)
    (repeat first | (apply wr_move; exact rfl; with_reducible (conv => enter [6, 3]; whnf)) | (apply wr_assign; exact rfl; with_reducible (conv => enter [6, 3]; whnf)) | apply wr_end | apply wc_region | (apply wr_add; (iterate 3 exact rfl); exact w_fit (by dsimp only [kIn]; first | done | omega)) | (apply wr_nil; try simp only [thenE, inBlockE, bodyQ]))
    refine ⟨(i + 1, v6), by dsimp only; omega, ⟨by trivial, hlt, ?_, hk16⟩, rfl, rfl, rfl, congrArg (Value.int .i64) (by dsimp only; omega), trivial⟩
    dsimp only
    rw [hws, List.length_append, List.length_singleton]
    unfold IL at ho6 ⊢
    rw [List.map_append]
    exact ho6
end Go.Proofs.YtajajahofkialaaGreatDoor
