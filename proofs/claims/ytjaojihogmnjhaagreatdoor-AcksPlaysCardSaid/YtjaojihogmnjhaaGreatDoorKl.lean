/- acks: Keys, Drop, Ready. -/
import Derived.Test.YtjaojihogmnjhaaGreatDoorKk
import Derived.Test.YtjaojihogmnjhaaGreatDoorMf
namespace Go.Proofs.YtjaojihogmnjhaaGreatDoor
open Go Go.V Go.RowKit
set_option linter.unusedVariables false
set_option linter.unusedSimpArgs false

theorem nodup_le : ∀ (n : Nat) (l : List Nat), l.Nodup → (∀ x ∈ l, x < n) → l.length ≤ n
  | 0, [], _, _ => Nat.le_refl _
  | 0, x :: l, _, h => absurd (h x (by simp)) (by omega)
  | n + 1, l, hn, h => by
    by_cases hm : n ∈ l
    · have h1 := nodup_le n (l.erase n) (hn.erase n) (fun x hx => by
        have h2 := (List.Nodup.mem_erase_iff hn).1 hx
        have := h x h2.2
        have := h2.1
        omega)
      rw [List.length_erase_of_mem hm] at h1
      omega
    · have := nodup_le n l hn (fun x hx => by
        have h1 := h x hx
        have : x ≠ n := fun e => hm (e ▸ hx)
        omega)
      omega
theorem iter_len {w : World} {r mb : Nat} {M : List (KY × Value)} {idx : List Nat} (h : IterAt w encK r mb M idx) : idx.length ≤ M.length := by
  obtain ⟨es, c, since, last, seen, h1, h2, h3, h4, h5, h6, h7, h7', h8, h9, h10, h11⟩ := h
  exact nodup_le _ _ h10 h11
theorem iter_lt {w : World} {r mb : Nat} {M : List (KY × Value)} {idx : List Nat} (h : IterAt w encK r mb M idx) : r < w.heap.size ∧ idx.Nodup ∧ (∀ i ∈ idx, i < M.length) ∧ ∀ (c : Array Value) (T : TypeId) (fr : Nat × Nat), w.heap[r]? ≠ some (.cells c T fr) := by
  obtain ⟨es, c, since, last, seen, h1, h2, h3, h4, h5, h6, h7, h7', h8, h9, h10, h11⟩ := h
  exact ⟨lt_of_heap h8, h10, h11, fun c T fr e => by rw [h8] at e; cases e⟩
theorem range_map' {α : Type} (l : List α) : (List.range l.length).map (fun i => l[i]?) = l.map some := by
  apply List.ext_getElem?
  intro i
  by_cases h : i < l.length
  · simp [h]
  · simp [h, show l.length ≤ i by omega]
def outK (L : List (KY × ND)) (idx : List Nat) : List KY := idx.filterMap fun i => (L[i]?).map (·.1)
theorem outK_app (L : List (KY × ND)) (idx : List Nat) (i : Nat) : outK L (idx ++ [i]) = outK L idx ++ outK L [i] := by simp [outK, List.filterMap_append]
theorem outK_perm {L : List (KY × ND)} {idx : List Nat} (hn : idx.Nodup) (h1 : ∀ i ∈ idx, i < L.length) (h2 : ∀ i, i < L.length → i ∈ idx) : (outK L idx).Perm (L.map (·.1)) := by
  have hp : idx.Perm (List.range L.length) := (List.perm_ext_iff_of_nodup hn List.nodup_range).2 fun i => by simp only [List.mem_range]; exact ⟨h1 i, h2 i⟩
  have h3 := hp.filterMap (fun i => (L[i]?).map (·.1))
  have h4 : (List.range L.length).filterMap (fun i => (L[i]?).map (·.1)) = L.map (·.1) := by
    have h5 := congrArg (List.filterMap fun o : Option (KY × ND) => o.map (·.1)) (range_map' L)
    rw [List.filterMap_map, List.filterMap_map] at h5
    refine Eq.trans h5 ?_
    rw [← List.filterMap_eq_map]
    rfl
  rw [h4] at h3
  exact h3
set_option maxRecDepth 100000 in
set_option maxHeartbeats 4000000 in
theorem keys_ca {base ab mb : Nat} {L : List (KY × ND)} {w : World} (h : AcksAt w base ab mb L) (hL : L.length ≤ 12) :
    Ca Tryz.prog 15 #[.pointer (some ⟨ab, 0, none⟩)] w fun v w' => ∃ l : List KY, l.Perm (L.map (·.1)) ∧ (l.Pairwise fun a b => ¬ ltK b a) ∧ w'.ownsRow w.heap.size 36 2 v l.length (l.flatMap GK) ∧ Keeps NoB w w' := by
  refine ca_of_body (args := [.pointer (some ⟨ab, 0, none⟩)]) Tryz.func15 rfl (by kernel_rfl) ?_
  have hs := h.cells
  have hln : (mapL ptrN L).length = L.length := by simp [mapL]
  (repeat first | (apply wr_move; exact rfl; with_reducible (conv => enter [6, 3]; whnf)) | (apply wr_assign; exact rfl; with_reducible (conv => enter [6, 3]; whnf)) | apply wr_end | apply wc_seq | apply wc_region | (apply wr_fieldAddr; iterate 2 exact rfl) | (apply wr_nilCheck; iterate 2 exact rfl) | (apply wr_load; (iterate 3 exact rfl); (focus repeat first | with_reducible assumption | exact heap_alloc_same _ _ | exact World.putObj_heap_same (by first | omega | (simp only [World.size_alloc, World.putObj_size, ne_eq]; omega)) | ((first | refine hAl ?_ ?_ | refine hPu ?_ ?_); focus first | omega | (simp only [World.size_alloc, World.putObj_size, ne_eq]; omega))); exact rfl; conv => enter [6, 3]; whnf))
  refine wr_len_map (l := mapL ptrN L) rfl rfl h.keys ?_
  refine wr_make0 (cap := (mapL ptrN L).length) w.heap.size rfl rfl rfl (by rw [hln]; omega) (by rw [hln]; omega) (Nat.le_refl _) ?_
  intro ov1 w1 ho1 hk1 hne1
  have h1 := h.keep hk1
  have hs1 := h1.cells
  (repeat first | (apply wr_move; exact rfl; with_reducible (conv => enter [6, 3]; whnf)) | (apply wr_assign; exact rfl; with_reducible (conv => enter [6, 3]; whnf)) | apply wr_end | apply wc_seq | apply wc_region | (apply wr_fieldAddr; iterate 2 exact rfl) | (apply wr_nilCheck; iterate 2 exact rfl) | (apply wr_load; (iterate 3 exact rfl); (focus repeat first | with_reducible assumption | exact heap_alloc_same _ _ | exact World.putObj_heap_same (by first | omega | (simp only [World.size_alloc, World.putObj_size, ne_eq]; omega)) | ((first | refine hAl ?_ ?_ | refine hPu ?_ ?_); focus first | omega | (simp only [World.size_alloc, World.putObj_size, ne_eq]; omega))); exact rfl; conv => enter [6, 3]; whnf))
  refine wr_rangeM rfl rfl h1.keys ?_
  intro w3 hI3 hk3
  obtain ⟨r, hr⟩ : ∃ b, b = w1.heap.size := ⟨_, rfl⟩
  rw [← hr] at hI3 ⊢
  have hsz1 := hk1.size
  have hsz3 := hk3.size
  have hlr := (iter_lt hI3).1
  have ho3 := own_keep ho1 hk3 (fun _ _ h => h)
  (repeat first | apply wr_end | apply wc_block)
  refine wc_loopL (α := List Nat × Value) (fun p => [(3, p.2), (15, .pointer (some ⟨r, 0, none⟩))])
    (fun p ds w' => ds = [] ∧ IterAt w' encK r mb (mapL ptrN L) p.1 ∧ p.2.ownBlock ≠ some r ∧ w'.ownsRow w.heap.size 36 2 p.2 (outK L p.1).length ((outK L p.1).flatMap GK) ∧ Keeps (fun k => w.heap.size ≤ k) w3 w') (fun p => L.length - p.1.length) ([], ov1) ⟨rfl, hI3, fun e => by have := (ho1.lt _ e).2; omega, ho3, Keeps.refl _ _⟩ ⟨rfl, rfl, trivial⟩ ?_
  rintro ⟨idx, ov⟩ ds f0 w4 ⟨rfl, hI4, hnr, hown4, hk4⟩
  dsimp only at hI4 hnr hown4 ⊢
  have hkw4 : Keeps NoB w w4 := (hk1.trans hk3).trans' hk4 (fun i hi e => by omega)
  have hle : (outK L idx).length ≤ idx.length := List.length_filterMap_le _ _
  (repeat first | apply wc_seq | apply wc_region)
  refine wr_nextM rfl rfl hI4 ?_ ?_
  · intro w5 hall hk5
    obtain ⟨_, hnd, hlt, _⟩ := iter_lt hI4
    have hp : (outK L idx).Perm (L.map (·.1)) := outK_perm hnd (fun i hi => by have := hlt i hi; rw [hln] at this; exact this) (fun i hi => hall i (by rw [hln]; exact hi))
    have hown5 := own_keep hown4 hk5 (fun _ _ h => h)
    (repeat first | (apply wr_move; exact rfl; with_reducible (conv => enter [6, 3]; whnf)) | apply wr_end | apply wc_seq | apply wc_region | (apply wr_extract; (iterate 3 exact rfl); with_reducible (conv => enter [6, 3]; whnf)) | (apply wc_false; exact rfl) | (apply wc_exit; try simp only [thenE, inBlockE, bodyQ, ↓reduceIte, Nat.reduceEqDiff]))
    refine wr_call (vs := [ov, .func (.func 26) #[] #[]]) rfl (kOrder_ca _ ov _ _ w5 hown5 rfl (by rw [hp.length_eq, List.length_map]; exact hL)) rfl ?_
    rintro v w6 ⟨rfl, l', hl', hsort, hown6, hk6⟩
    (repeat first | (apply wr_move; exact rfl; with_reducible (conv => enter [6, 3]; whnf)) | (apply wr_assign; exact rfl; with_reducible (conv => enter [6, 3]; whnf)) | apply wr_end | apply wc_seq | apply wc_region | (apply wc_ret; try simp only [thenE, inBlockE, bodyQ]))
    refine leave1 (v := ov) rfl rfl ⟨l', hl'.trans hp, hsort, ?_, ?_⟩
    · rw [hl'.length_eq]
      exact hown6
    · refine (hkw4.trans hk5).trans' hk6 (fun i hi e => ?_)
      have := (hown5.lt i e).1
      omega
  · intro w5 i p hi hp hI5 hE5 hk5
    have hp' : ∃ x, L[i]? = some x ∧ p = (x.1, ptrN x.2) := by
      simp only [mapL, List.getElem?_map, Option.map_eq_some_iff] at hp
      obtain ⟨x, hx, rfl⟩ := hp
      exact ⟨x, hx, rfl⟩
    obtain ⟨x, hxi, rfl⟩ := hp'
    have hlen5 := iter_len hI5
    rw [List.length_append, hln] at hlen5
    simp only [List.length_singleton] at hlen5
    have hown5 := own_keep hown4 hk5 (fun k hk e => hnr (by rw [hk, e]))
    have hsz5 := hk5.size
    have hsz4 := hkw4.size
    (repeat first | apply wr_end | apply wc_seq | apply wc_region | apply wc_skip | apply wc_block | (apply wr_extract; (iterate 3 exact rfl); with_reducible (conv => enter [6, 3]; whnf)) | (apply wc_true; exact rfl))
    refine wr_entryM rfl rfl hE5 ?_
    (repeat first | (apply wr_alloc; exact rfl) | (apply wr_extract; (iterate 3 exact rfl); with_reducible (conv => enter [6, 3]; whnf)))
    refine wr_storeAll (cs := [.int .i64 x.1.1, S x.1.2]) rfl rfl rfl (by intro u hu; simp at hu; rcases hu with rfl | rfl <;> rfl) (heap_alloc_same _ _) rfl rfl ?_
    refine wr_name ?_
    intro w6 hw6
    obtain ⟨b6, hb6⟩ : ∃ b, b = w5.heap.size := ⟨_, rfl⟩
    have hk6 : Keeps NoB w5 w6 := by rw [hw6]; exact ((Keeps.refl NoB w5).alloc _).put _ (fun h => by omega)
    have hc6 : w6.heap[b6]? = some (.cells #[.int .i64 x.1.1, S x.1.2] 36 (0, 0)) := by rw [hw6, hb6]; exact World.putObj_heap_same (by simp)
    rw [← hb6]
    clear hw6
    have hI6 : IterAt w6 encK r mb (mapL ptrN L) (idx ++ [i]) := hI5.keep hk6 (fun h => h) (fun h => h)
    have hown6 := own_keep hown5 hk6 (fun _ _ h => h)
    have hsz6 := hk6.size
    have hoi : outK L (idx ++ [i]) = outK L idx ++ [x.1] := by rw [outK_app]; simp [outK, hxi]
    (repeat first | (apply wr_move; exact rfl; with_reducible (conv => enter [6, 3]; whnf)) | apply wr_end | apply wc_region)
    refine wr_loadAll (cs := GK x.1) rfl rfl rfl hc6 rfl ?_
    refine wr_buildSlice (vs := [encK x.1]) rfl rfl (by intro v hv; simp at hv; subst hv; rfl) rfl (by decide) (by decide) (by decide) ?_
    refine wr_append2 (v := ov) (n := (outK L idx).length) (m := 1) (news := GK x.1) rfl rfl (hown6.alloc _) rfl (heap_alloc_same _ _) rfl (GK_one _) rfl (by decide) (by omega) (by omega) (by simp; omega) ?_
    intro ov' w7 hown7 hk7 hv7
    have hsA : (w6.alloc (.cells (List.flatMap (fun v => v.cells.toList) [encK x.1]).toArray 36)).heap.size = w6.heap.size + 1 := by simp
    have hnr7 : ov'.ownBlock ≠ some r := by
      intro e
      rcases hv7 _ e with hv7 | hv7
      · exact hnr hv7
      · have := (iter_lt hI6).1
        omega
    (repeat first | (apply wr_assign; exact rfl; with_reducible (conv => enter [6, 3]; whnf)) | (apply wr_nil; try simp only [thenE, inBlockE, bodyQ]))
    refine ⟨(idx ++ [i], ov'), by simp only [List.length_append, List.length_singleton]; omega, ⟨by trivial, ?_, hnr7, ?_, ?_⟩, rfl, rfl, trivial⟩
    · refine (hI6.keep ((Keeps.refl NoB w6).alloc _) (fun h => h) (fun h => h)).keep hk7 hnr (fun e => ?_)
      have := (hown4.lt _ e).1
      have := h.keys.lt
      omega
    · dsimp only
      rw [hoi, List.length_append, List.flatMap_append]
      simpa using hown7
    · refine (hk4.trans ((hk5.mono fun k _ e => by omega).trans hk6.upD)).trans ((((Keeps.refl NoB w6).alloc _).upD).trans (hk7.mono fun q _ e => (hown4.lt q e).1))
def dropN (id : Int) (x : KY × ND) : KY × ND := (x.1, { x.2 with p := { x.2.p with T := setT x.2.p.T id 0 } })
theorem dropN_idem (id : Int) (x : KY × ND) : dropN id (dropN id x) = dropN id x := by
  unfold dropN setT
  dsimp only
  congr 2
  congr 1
  funext y
  by_cases hy : y = id <;> simp [hy]
theorem mapL_drop (id : Int) (L : List (KY × ND)) (idx : List Nat) : mapL ptrN (L.mapIdx fun i x => if i ∈ idx then dropN id x else x) = mapL ptrN L := by
  unfold mapL
  apply List.ext_getElem?
  intro i
  simp only [List.getElem?_map, List.getElem?_mapIdx]
  cases L[i]? with
  | none => rfl
  | some x =>
    by_cases h : i ∈ idx <;> simp [h, dropN, ptrN]
theorem AcksAt.dropped {w w' : World} {base ab mb i : Nat} {L : List (KY × ND)} {idx : List Nat} {x : KY × ND} {id : Int} (h : AcksAt w base ab mb (L.mapIdx fun i x => if i ∈ idx then dropN id x else x)) (hn : (L.map (·.1)).Nodup) (hx : L[i]? = some x) (hi : i ∉ idx)
    (hN : NoteAt w' base (dropN id x).2) (hk : Keeps (· = x.2.tb) w w') : AcksAt w' base ab mb (L.mapIdx fun j x => if j ∈ idx ++ [i] then dropN id x else x) := by
  have hmem : ∀ (j : Nat) (y : KY × ND), L[j]? = some y → (if j ∈ idx then dropN id y else y) ∈ (L.mapIdx fun i x => if i ∈ idx then dropN id x else x) := fun j y hy => List.mem_of_getElem? (by rw [List.getElem?_mapIdx, hy]; rfl)
  have hblk : ∀ (b : Bool) (y : KY × ND), (if b = true then dropN id y else y).1 = y.1 ∧ (if b = true then dropN id y else y).2.nb = y.2.nb ∧ (if b = true then dropN id y else y).2.tb = y.2.tb ∧ (if b = true then dropN id y else y).2.v = y.2.v := fun b y => by cases b <;> exact ⟨rfl, rfl, rfl, rfl⟩
  have hb2 : ∀ (l : List Nat) (j : Nat) (y : KY × ND), (if j ∈ l then dropN id y else y).1 = y.1 ∧ (if j ∈ l then dropN id y else y).2.nb = y.2.nb ∧ (if j ∈ l then dropN id y else y).2.tb = y.2.tb ∧ (if j ∈ l then dropN id y else y).2.v = y.2.v := fun l j y => by split <;> exact ⟨rfl, rfl, rfl, rfl⟩
  have hx0 := h.note _ (hmem i x hx)
  rw [if_neg hi] at hx0
  have hkey : ∀ (j k : Nat) (y z : KY × ND), L[j]? = some y → L[k]? = some z → y.1 = z.1 → j = k := fun j k y z hj hz e => by
    obtain ⟨h1, rfl⟩ := List.getElem?_eq_some_iff.1 hj
    obtain ⟨h2, rfl⟩ := List.getElem?_eq_some_iff.1 hz
    have := List.getElem_inj hn (i := j) (j := k) (h₀ := by simpa using h1) (h₁ := by simpa using h2)
    rw [List.getElem_map, List.getElem_map] at this
    exact this.1 e
  have hsep : ∀ (j k : Nat) (y z : KY × ND), L[j]? = some y → L[k]? = some z → y.1 ≠ z.1 → y.2.nb ≠ z.2.nb ∧ y.2.tb ≠ z.2.tb ∧ ∀ q, y.2.v.ownBlock = some q → z.2.v.ownBlock ≠ some q := fun j k y z hj hz e => by
    have h1 := h.sep _ (hmem j y hj) _ (hmem k z hz)
    obtain ⟨e1, e2, e3, e4⟩ := hb2 idx j y
    obtain ⟨f1, f2, f3, f4⟩ := hb2 idx k z
    rw [e1, f1] at h1
    have h2 := h1 e
    rw [e2, e3, e4, f2, f3, f4] at h2
    exact h2
  have hgetI : ∀ y ∈ (L.mapIdx fun j x => if j ∈ idx ++ [i] then dropN id x else x), ∃ j z, L[j]? = some z ∧ y = if j ∈ idx ++ [i] then dropN id z else z := fun y hy => by
    obtain ⟨j, hj⟩ := List.getElem?_of_mem hy
    rw [List.getElem?_mapIdx] at hj
    cases hz : L[j]? with
    | none => rw [hz] at hj; cases hj
    | some z => rw [hz] at hj; cases hj; exact ⟨j, z, hz, rfl⟩
  obtain ⟨M, hM, _⟩ := hx0.tk
  refine ⟨hk.heap h.cells (map_cells' hM h.cells), ?_, ?_, ?_, ?_⟩
  · rw [mapL_drop]
    have := h.keys
    rw [mapL_drop] at this
    have htm := h.tne _ (hmem i x hx)
    rw [if_neg hi] at htm
    exact this.keep hk (fun e => htm e.symm)
  · intro y hy
    obtain ⟨j, z, hz, rfl⟩ := hgetI y hy
    by_cases hji : j = i
    · subst hji
      rw [hx] at hz; cases hz
      rw [if_pos (by simp)]
      exact hN
    · have e1 : (j ∈ idx ++ [i]) ↔ j ∈ idx := by simp [hji]
      have hzn := h.note _ (hmem j z hz)
      simp only [e1]
      refine hzn.keep hk (fun q hq e => ?_)
      subst e
      have hne : z.1 ≠ x.1 := fun e => hji (hkey j i z x hz hx e)
      obtain ⟨s1, s2, s3⟩ := hsep j i z x hz hx hne
      obtain ⟨e1, e2, e3, e4⟩ := hb2 idx j z
      rcases hq with hq | hq | hq
      · exact map_cells' hM (hzn.cell) hq.symm
      · rw [e3] at hq; exact s2 hq.symm
      · obtain ⟨_, _, cur, hcur⟩ := hzn.bad.lt _ hq
        exact map_cells' hM hcur rfl
  · intro y hy z hz hyz
    obtain ⟨j, y', hy', rfl⟩ := hgetI y hy
    obtain ⟨k, z', hz', rfl⟩ := hgetI z hz
    obtain ⟨e1, e2, e3, e4⟩ := hb2 (idx ++ [i]) j y'
    obtain ⟨f1, f2, f3, f4⟩ := hb2 (idx ++ [i]) k z'
    rw [e1, f1] at hyz
    rw [e2, e3, e4, f2, f3, f4]
    exact hsep j k y' z' hy' hz' hyz
  · intro y hy
    obtain ⟨j, z, hz, rfl⟩ := hgetI y hy
    have := h.tne _ (hmem j z hz)
    obtain ⟨e1, e2, e3, e4⟩ := hb2 (idx ++ [i]) j z
    obtain ⟨f1, f2, f3, f4⟩ := hb2 idx j z
    rw [e3]; rw [f3] at this; exact this
set_option maxRecDepth 100000 in
set_option maxHeartbeats 4000000 in
theorem drop_ca {base ab mb : Nat} {L : List (KY × ND)} {w : World} (h : AcksAt w base ab mb L) (id : Int) :
    Ca Tryz.prog 9 #[.pointer (some ⟨ab, 0, none⟩), .int .i64 id] w fun v w' => v = .tuple #[] ∧ AcksAt w' base ab mb (L.map (dropN id)) ∧ Keeps (aD mb L) w w' := by
  refine ca_of_body (args := [.pointer (some ⟨ab, 0, none⟩), .int .i64 id]) Tryz.func9 rfl (by kernel_rfl) ?_
  have hs := h.cells
  have hln : (mapL ptrN L).length = L.length := by simp [mapL]
  (repeat first | (apply wr_move; exact rfl; with_reducible (conv => enter [6, 3]; whnf)) | apply wc_seq | apply wc_region | (apply wr_fieldAddr; iterate 2 exact rfl) | (apply wr_nilCheck; iterate 2 exact rfl) | (apply wr_load; (iterate 3 exact rfl); (focus repeat first | with_reducible assumption | exact heap_alloc_same _ _ | exact World.putObj_heap_same (by first | omega | (simp only [World.size_alloc, World.putObj_size, ne_eq]; omega)) | ((first | refine hAl ?_ ?_ | refine hPu ?_ ?_); focus first | omega | (simp only [World.size_alloc, World.putObj_size, ne_eq]; omega))); exact rfl; conv => enter [6, 3]; whnf))
  refine wr_rangeM rfl rfl h.keys ?_
  intro w3 hI3 hk3
  obtain ⟨r, hr⟩ : ∃ b, b = w.heap.size := ⟨_, rfl⟩
  rw [← hr] at hI3 ⊢
  have hsz3 := hk3.size
  have h3 := h.keep hk3
  have hL0 : (L.mapIdx fun i x => if i ∈ ([] : List Nat) then dropN id x else x) = L := by
    apply List.ext_getElem?
    intro i
    rw [List.getElem?_mapIdx]
    cases L[i]? <;> simp
  (repeat first | apply wr_end | apply wc_block)
  refine wc_loopL (α := List Nat) (fun idx => [(1, .int .i64 id), (10, .pointer (some ⟨r, 0, none⟩))])
    (fun idx ds w' => ds = [] ∧ IterAt w' encK r mb (mapL ptrN L) idx ∧ AcksAt w' base ab mb (L.mapIdx fun i x => if i ∈ idx then dropN id x else x) ∧ Keeps (fun k => k = r ∨ aD mb L k) w3 w') (fun idx => L.length - idx.length) [] ⟨rfl, hI3, by rw [hL0]; exact h3, Keeps.refl _ _⟩ ⟨rfl, rfl, trivial⟩ ?_
  rintro idx ds f0 w4 ⟨rfl, hI4, h4, hk4⟩
  have hkw4 : Keeps (aD mb L) w w4 := hk3.upD.trans' hk4 (fun i hi e => by
    rcases e with e | e
    · omega
    · exact e)
  (repeat first | apply wc_seq | apply wc_region)
  refine wr_nextM rfl rfl hI4 ?_ ?_
  · intro w5 hall hk5
    have hLe : (L.mapIdx fun i x => if i ∈ idx then dropN id x else x) = L.map (dropN id) := by
      apply List.ext_getElem?
      intro i
      rw [List.getElem?_mapIdx, List.getElem?_map]
      cases hx : L[i]? with
      | none => rfl
      | some x =>
        have hi := hall i (by rw [hln]; exact (List.getElem?_eq_some_iff.1 hx).1)
        simp [hi]
    (repeat first | apply wr_end | apply wc_seq | (apply wr_extract; (iterate 3 exact rfl); with_reducible (conv => enter [6, 3]; whnf)) | (apply wc_false; exact rfl) | (apply wc_exit; try simp only [thenE, inBlockE, bodyQ, ↓reduceIte, Nat.reduceEqDiff]))
    try unfold bodyQ
    exact leave0 rfl ⟨rfl, by rw [← hLe]; exact h4.keep hk5, hkw4.trans hk5.upD⟩
  · intro w5 i p hi hp hI5 hE5 hk5
    have hp' : ∃ x, L[i]? = some x ∧ p = (x.1, ptrN x.2) := by
      simp only [mapL, List.getElem?_map, Option.map_eq_some_iff] at hp
      obtain ⟨x, hx, rfl⟩ := hp
      exact ⟨x, hx, rfl⟩
    obtain ⟨x, hxi, rfl⟩ := hp'
    have hlen5 := iter_len hI5
    rw [List.length_append, hln] at hlen5
    simp only [List.length_singleton] at hlen5
    have hrc := (iter_lt hI4).2.2.2
    have h5 : AcksAt w5 base ab mb (L.mapIdx fun i x => if i ∈ idx then dropN id x else x) := by
      refine ⟨hk5.heap h4.cells (fun e => ?_), h4.keys.keep hk5 (fun e => ?_), fun y hy => (h4.note y hy).keep hk5 (fun q hq e => ?_), h4.sep, h4.tne⟩
      · exact hrc _ _ _ (by rw [← e]; exact h4.cells)
      · have := h.keys.lt
        omega
      · subst e
        obtain ⟨M, hM, _⟩ := (h4.note y hy).tk
        rcases hq with hq | hq | hq
        · exact hrc _ _ _ (by rw [hq]; exact (h4.note y hy).cell)
        · have h8 := hM
          rw [← hq] at h8
          obtain ⟨es, n, hb, _⟩ := h8
          obtain ⟨es', c, since, last, seen, g1, g2, g3, g4, g5, g6, g7, g7', g8, g9⟩ := hI4
          rw [hb] at g8
          cases g8
        · obtain ⟨_, _, cur, hcur⟩ := (h4.note y hy).bad.lt _ hq
          exact hrc _ _ _ hcur
    have hxm : x ∈ (L.mapIdx fun i x => if i ∈ idx then dropN id x else x) := List.mem_of_getElem? (i := i) (by rw [List.getElem?_mapIdx, hxi]; simp [hi])
    have hN := h5.note x hxm
    have hnc := hN.cell
    obtain ⟨M, hM, hT⟩ := hN.tk
    obtain ⟨xk, xnb, xtb, xv, xp⟩ := x
    dsimp only at hnc hM hT
    (repeat first | apply wr_end | apply wc_seq | apply wc_region | apply wc_skip | apply wc_block | (apply wr_extract; (iterate 3 exact rfl); with_reducible (conv => enter [6, 3]; whnf)) | (apply wc_true; exact rfl))
    refine wr_entryM rfl rfl hE5 ?_
    (repeat first | (apply wr_move; exact rfl; with_reducible (conv => enter [6, 3]; whnf)) | (apply wr_assign; exact rfl; with_reducible (conv => enter [6, 3]; whnf)) | apply wr_end | apply wc_region | (apply wr_fieldAddr; iterate 2 exact rfl) | (apply wr_nilCheck; iterate 2 exact rfl) | (apply wr_load; (iterate 3 exact rfl); (focus repeat first | with_reducible assumption | exact heap_alloc_same _ _ | exact World.putObj_heap_same (by first | omega | (simp only [World.size_alloc, World.putObj_size, ne_eq]; omega)) | ((first | refine hAl ?_ ?_ | refine hPu ?_ ?_); focus first | omega | (simp only [World.size_alloc, World.putObj_size, ne_eq]; omega))); exact rfl; conv => enter [6, 3]; whnf) | (apply wr_extract; (iterate 3 exact rfl); with_reducible (conv => enter [6, 3]; whnf)))
    refine wr_delete (enc := encI .i64) (l := M) (a := id) rfl rfl hM rfl ?_
    intro w6 hM6 hk6
    have hN6 : NoteAt w6 base (dropN id (xk, ⟨xnb, xtb, xv, xp⟩)).2 := ⟨hk6.heap hnc (map_cells' hM hnc), ⟨_, hM6, fun y => by
      rw [getM_delM]
      show _ = Value.int .u64 ((setT xp.T id 0 y : Nat) : Int)
      unfold setT
      by_cases hy : y = id
      · simp [hy]
      · simp only [hy, if_false]; exact hT y⟩, hN.bad.keep hk6 (fun q hq e => by
        subst e
        obtain ⟨_, _, cur, hcur⟩ := hN.bad.lt _ hq
        exact map_cells' hM hcur rfl), hN.sort, hN.few⟩
    have h6 := h5.dropped h.nodup hxi hi hN6 hk6
    have hrm : r ≠ xtb := fun e => by
      obtain ⟨es, n, hb, _⟩ := hM
      obtain ⟨es', c, since, last, seen, g1, g2, g3, g4, g5, g6, g7, g7', g8, g9⟩ := hI5
      rw [← e, g8] at hb
      cases hb
    have hmm : mb ≠ xtb := fun e => h5.tne _ hxm e.symm
    (repeat first | (apply wr_nil; try simp only [thenE, inBlockE, bodyQ]))
    refine ⟨idx ++ [i], by simp only [List.length_append, List.length_singleton]; omega, ⟨by trivial, hI5.keep hk6 hrm hmm, h6, ?_⟩, rfl, rfl, trivial⟩
    exact hk4.trans ((hk5.mono fun q _ e => .inl e).trans (hk6.mono fun q _ e => .inr (.inr ⟨_, List.mem_of_getElem? hxi, .inr (.inl e)⟩)))
end Go.Proofs.YtjaojihogmnjhaaGreatDoor
