/- Sort of numbers; merge: New, Want, Lean. -/
import Derived.Test.YtajajahofkialaaGreatDoorHh
import Derived.Test.YtajajahofkialaaGreatDoorShelf
namespace Go.Proofs.YtajajahofkialaaGreatDoor
open Go Go.V Go.RowKit
set_option linter.unusedVariables false
set_option linter.unusedSimpArgs false

def IL (l : List Int) : List Value := l.map (.int .i64)
theorem IL_len (l : List Int) : (IL l).length = l.length := by simp [IL]
theorem IL_get {l : List Int} {i : Nat} {x : Int} (h : l[i]? = some x) : (IL l)[i]? = some (.int .i64 x) := by simp [IL, h]
theorem put_cellsI {cur : Array Value} {d : List Int} (h : d.length ≤ cur.size) : (Sort.putCells (Value.int .i64) 0 d.toArray cur).size = cur.size ∧ (Sort.putCells (Value.int .i64) 0 d.toArray cur).toList.take d.length = IL d := by
  have hs : (Sort.putCells (Value.int .i64) 0 d.toArray cur).size = cur.size := by simp [Sort.putCells]
  refine ⟨hs, ?_⟩
  apply List.ext_getElem?
  intro i
  by_cases hi : i < d.length
  · rw [List.getElem?_take_of_lt hi]
    have h1 : i < cur.size := by omega
    have h2 : (IL d)[i]? = some (.int .i64 d[i]) := IL_get (by simp [hi])
    rw [h2]
    simp [Sort.putCells, h1, hi, getElem!_pos]
  · rw [List.getElem?_eq_none (by simp; omega), List.getElem?_eq_none (by rw [IL_len]; omega)]
theorem put_ownI {w : World} {base n cap g N : Nat} {os : Array Obj} {T : TypeId} {l d : List Int} (h : w.ownsRow base T 1 (.slice (some ⟨g, 0, none⟩) n cap) n (IL l)) (hd : d.length = n) :
    (Sort.grow (Sort.putRow (Value.int .i64) (Sort.ahead w N) g 0 d.toArray) os).ownsRow base T 1 (.slice (some ⟨g, 0, none⟩) n cap) n (IL d) ∧ Keeps (fun k => (Value.slice (some ⟨g, 0, none⟩) n cap).ownBlock = some k) w (Sort.grow (Sort.putRow (Value.int .i64) (Sort.ahead w N) g 0 d.toArray) os) := by
  rcases h with ⟨hxl, ⟨h0, _⟩ | ⟨g', cap', cur, he, hg, hb, hn, hc, hcs, htk⟩⟩
  · cases h0
  cases he
  have hlt := lt_of_heap hb
  have hsz : (Sort.putRow (Value.int .i64) (Sort.ahead w N) g 0 d.toArray).heap.size = w.heap.size := by rw [Sort.size_putRow]; rfl
  have hp := put_cellsI (cur := cur) (d := d) (by omega)
  have hb' : (Sort.putRow (Value.int .i64) (Sort.ahead w N) g 0 d.toArray).heap[g]? = some (.cells (Sort.putCells (Value.int .i64) 0 d.toArray cur) T (0, 0)) := by
    show (w.heap.modify g (Sort.onCells _))[g]? = _
    rw [Array.getElem?_modify, if_pos rfl, hb]; rfl
  have hgr : ∀ k, k < w.heap.size → (Sort.grow (Sort.putRow (Value.int .i64) (Sort.ahead w N) g 0 d.toArray) os).heap[k]? = (Sort.putRow (Value.int .i64) (Sort.ahead w N) g 0 d.toArray).heap[k]? := fun k hk => Array.getElem?_append_left (by rw [hsz]; exact hk)
  refine ⟨⟨by rw [IL_len]; omega, .inr ⟨g, cap, _, rfl, hg, (hgr g hlt).trans hb', hn, hc, by rw [hp.1]; exact hcs, by rw [Nat.mul_one, ← hd]; exact hp.2⟩⟩, rfl, rfl, rfl, ?_, fun k hk hne => ?_⟩
  · show w.heap.size ≤ (_ ++ os).size
    rw [Array.size_append, hsz]; omega
  · rw [hgr k hk]
    show (w.heap.modify g (Sort.onCells _))[k]? = _
    rw [Array.getElem?_modify, if_neg (fun e => hne (by rw [← e]; rfl))]
theorem own_holdsI {w : World} {base n cap g : Nat} {T : TypeId} {l : List Int} (h : w.ownsRow base T 1 (.slice (some ⟨g, 0, none⟩) n cap) n (IL l)) : Sort.Holds (Value.int .i64) w g 0 l.toArray := by
  intro j hj
  have hj' : j < l.length := by simpa using hj
  refine ⟨?_, ?_⟩
  · rcases h with ⟨hxl, ⟨h0, _⟩ | ⟨g', cap', cur, he, hg, hb, hn, hc, hcs, htk⟩⟩
    · cases h0
    cases he
    have hll : l.length = n := by rw [IL_len] at hxl; omega
    have h1 : (IL l)[j]? = some (.int .i64 l[j]) := IL_get (by simp [hj'])
    rw [← htk, List.getElem?_take_of_lt (by omega)] at h1
    have h2 : cur[0 + j]? = some (.int .i64 l[j]) := by rw [Nat.zero_add]; simpa using h1
    have h3 := cell_of_heap hb h2
    rw [h3]
    simp [hj', getElem!_pos]
  · rw [Nat.zero_add]; exact World.ownsRow.frozenAt h j

theorem sortI_ca {base n : Nat} {v : Value} {l : List Int} (w : World) (h : w.ownsRow base 3 1 v n (IL l)) (hn : n < 4611686018427387904) :
    Ca Tryz.prog 49 #[v] w fun r w' => r = .tuple #[] ∧ w'.ownsRow base 3 1 v n (IL (l.mergeSort fun x y => decide (x ≤ y))) ∧ Keeps (fun k => v.ownBlock = some k) w w' := by
  have hll : l.length = n := by have := h.1; rw [IL_len] at this; omega
  rcases h.2 with ⟨rfl, rfl⟩ | ⟨g, cap, cur, rfl, hg, hb, _⟩
  · have hl : l = [] := List.length_eq_zero_iff.1 hll
    subst hl
    refine Ca.of_calls (Tryz.slices_Sort_int_none none 0 w) (fun e w' ⟨h1, h2⟩ => ⟨_, h1, rfl, ?_, ?_⟩)
    · rw [h2, List.mergeSort_nil]; exact own_nilV _ _ _ _
    · rw [h2]; exact Keeps.refl _ _
  · have hc := Tryz.slices_Sort_int g 0 cap l w (own_holdsI h) (lt_of_heap hb) (by omega)
    rw [hll] at hc
    refine Ca.of_calls hc (fun e w' ⟨h1, N, os, h2⟩ => ?_)
    obtain ⟨h3, h4⟩ := put_ownI (N := N) (os := os) (d := l.mergeSort fun x y => decide (x ≤ y)) h (by rw [List.length_mergeSort]; exact hll)
    exact ⟨_, h1, rfl, by rw [h2]; exact h3, by rw [h2]; exact h4⟩
theorem itoa_ca (i : Nat) (hi : i < 100) (w : World) : Ca Tryz.prog 51 #[.int .i64 (i : Int)] w fun v w' => v = S (Lib.decDigits i) ∧ w' = w :=
  Ca.of_calls (Tryz.strconv_Itoa_small i hi w) (fun e w' ⟨h1, h2⟩ => ⟨_, h1, rfl, h2⟩)
set_option maxRecDepth 100000 in
set_option maxHeartbeats 4000000 in
theorem wantM_ca {w : World} {n0 ab wb : Nat} {cb : List Nat} {Wn : WF} (h : MgAt w n0 ab wb cb Wn) (t : TY) :
    Ca Tryz.prog 20 #[.pointer (some ⟨ab, 0, none⟩), .int .i64 t.1, .int .i64 t.2] w fun v w' => SetR w' (Wn t) v ∧ Keeps NoB w w' := by
  obtain ⟨id, kk⟩ := t
  refine ca_of_body (args := [.pointer (some ⟨ab, 0, none⟩), .int .i64 id, .int .i64 kk]) Tryz.func20 rfl (by kernel_rfl) ?_
  apply wc_seq
  apply wc_region
  apply wr_alloc
  focus exact rfl
  refine wr_name ?_
  intro w1 hww1
  obtain ⟨bw1, hbw1⟩ : ∃ b, b = (w).heap.size := ⟨_, rfl⟩
  have hkw1 : Keeps NoB w w1 := by rw [hww1]; exact (Keeps.refl NoB w).alloc _
  have hcw1 : (w1).heap[bw1]? = some (.cells ([.bool false, nilV]).toArray 41 (0, 0)) := by rw [hww1, hbw1]; exact heap_alloc_same _ _
  rw [← hbw1]
  clear hww1
  have h1 := h.keepN hkw1
  obtain ⟨M, hM, hMW⟩ := h1.want
  obtain ⟨lv, hle, hlv⟩ := want_R (hMW (id, kk))
  have hc1 := h1.cells
  (repeat first | (apply wr_move; exact rfl; with_reducible (conv => enter [6, 3]; whnf)) | apply wr_end | apply wc_seq | apply wc_region | (apply wr_fieldAddr; iterate 2 exact rfl) | (apply wr_nilCheck; iterate 2 exact rfl) | (apply wr_load; (iterate 3 exact rfl); (focus repeat first | with_reducible assumption | exact heap_alloc_same _ _ | exact World.putObj_heap_same (by first | omega | (simp only [World.size_alloc, World.putObj_size, ne_eq]; omega)) | ((first | refine hAl ?_ ?_ | refine hPu ?_ ?_); focus first | omega | (simp only [World.size_alloc, World.putObj_size, ne_eq]; omega))); exact rfl; conv => enter [6, 3]; whnf))
  refine wr_build (ps := [(0, .int .i64 id), (1, .int .i64 kk)]) (cs := [.int .i64 id, .int .i64 kk]) rfl rfl rfl rfl ?_
  refine wr_lookup (l := M) (a := (id, kk)) rfl rfl hM rfl ?_
  rw [show (getM M (id, kk)).getD _ = SetV (Wn (id, kk)).1 lv from hle]
  have hR1 : SetR w1 (Wn (id, kk)) (SetV (Wn (id, kk)).1 lv) := ⟨lv, rfl, hlv⟩
  refine wr_storeAll (cs := [.bool (Wn (id, kk)).1, lv]) rfl rfl rfl (by intro u hu; simp at hu; rcases hu with rfl | rfl; rfl; exact hR1.one.1) hcw1 rfl rfl ?_
  (repeat first | apply wr_end | (apply wc_ret; try simp only [thenE, inBlockE, bodyQ]))
  exact leaveN (vs := [SetV (Wn (id, kk)).1 lv]) (resv_cells (cs := [.bool (Wn (id, kk)).1, lv]) (e := 41) (fr := (0, 0)) rfl rfl (World.putObj_heap_same (lt_of_heap hcw1)) rfl resv_nil) ⟨hR1.put ((Keeps.refl (· = bw1) w1).put _ (fun _ => rfl)) hcw1 (setCells_ne false nilV (fun t h => by cases h)), hkw1.trans' ((Keeps.refl (· = bw1) w1).put _ (fun _ => rfl)) (fun i hi e => by omega)⟩
/-- What is to be asked for. -/
def leanP (u : PS) : PS := if u.1 = true then (true, []) else u
theorem stO : ofP [[42]] = (true, []) := by
  have := ofP_listP (nil_fine true)
  exact this
set_option maxRecDepth 100000 in
set_option maxHeartbeats 4000000 in
theorem leanM_ca {w : World} {n0 ab wb : Nat} {cb : List Nat} {Wn : WF} (h : MgAt w n0 ab wb cb Wn) (k : Nat) (hk1 : 1 ≤ k) (hk5 : k ≤ 5) :
    Ca Tryz.prog 22 #[.pointer (some ⟨ab, 0, none⟩), .int .i64 (k : Int)] w fun v w' => SetR w' (leanP (unionK Wn k)) v ∧ Keeps NoB w w' := by
  refine ca_of_body (args := [.pointer (some ⟨ab, 0, none⟩), .int .i64 (k : Int)]) Tryz.func22 rfl (by kernel_rfl) ?_
  apply wc_seq
  apply wc_region
  apply wr_alloc
  focus exact rfl
  refine wr_name ?_
  intro w1 hww1
  obtain ⟨bw1, hbw1⟩ : ∃ b, b = (w).heap.size := ⟨_, rfl⟩
  have hkw1 : Keeps NoB w w1 := by rw [hww1]; exact (Keeps.refl NoB w).alloc _
  have hcw1 : (w1).heap[bw1]? = some (.cells ([.bool false, nilV]).toArray 41 (0, 0)) := by rw [hww1, hbw1]; exact heap_alloc_same _ _
  rw [← hbw1]
  clear hww1
  (repeat first | (apply wr_move; exact rfl; with_reducible (conv => enter [6, 3]; whnf)) | apply wr_end | apply wc_seq | apply wc_region)
  refine wr_call (vs := [.pointer (some ⟨ab, 0, none⟩), .int .i64 (k : Int)]) rfl (unionM_ca (h.keepN hkw1) k hk1 hk5) rfl ?_
  rintro v w2 ⟨⟨uv, rfl, huv⟩, hk2⟩
  have hc12 := hk2.heap hcw1 (fun h => h)
  obtain ⟨U, hU⟩ : ∃ U, U = unionK Wn k := ⟨_, rfl⟩
  rw [← hU] at huv ⊢
  (repeat first | (apply wr_alloc; exact rfl))
  refine wr_storeAll (cs := [.bool U.1, uv]) rfl rfl rfl (by intro u hu; simp at hu; rcases hu with rfl | rfl; rfl; exact own_one huv) (heap_alloc_same _ _) rfl rfl ?_
  refine wr_name ?_
  intro w3 hww3
  obtain ⟨bw3, hbw3⟩ : ∃ b, b = (w2).heap.size := ⟨_, rfl⟩
  have hkw3 : Keeps NoB w2 w3 := by rw [hww3]; exact ((Keeps.refl NoB w2).alloc _).put _ (fun h => by omega)
  have hcw3 : (w3).heap[bw3]? = some (.cells ([.bool U.1, uv]).toArray 41 (0, 0)) := by rw [hww3, hbw3]; exact World.putObj_heap_same (by simp)
  rw [← hbw3]
  clear hww3
  have hc13 := hkw3.heap hc12 (fun h => h)
  have hk03 := (hkw1.trans hk2).trans hkw3
  have hl1 := lt_of_heap hcw1
  cases hua : U.1 with
  | false =>
    have huR : SetR w3 U (SetV U.1 uv) := ⟨uv, rfl, (SlR.of_own huv).keep hkw3 (fun _ _ h => h)⟩
    (repeat first | apply wr_end | apply wc_seq | apply wc_region | (apply wr_fieldAddr; iterate 2 exact rfl) | (apply wr_not; iterate 2 exact rfl) | (apply wr_load; (iterate 3 exact rfl); (focus repeat first | with_reducible assumption | exact heap_alloc_same _ _ | exact World.putObj_heap_same (by first | omega | (simp only [World.size_alloc, World.putObj_size, ne_eq]; omega)) | ((first | refine hAl ?_ ?_ | refine hPu ?_ ?_); focus first | omega | (simp only [World.size_alloc, World.putObj_size, ne_eq]; omega))); exact rfl; conv => enter [6, 3]; whnf))
    rw [hua]
    (repeat first | apply wc_seq | apply wc_region | (apply wc_true; exact rfl))
    refine wr_loadAll (cs := [.bool U.1, uv]) rfl rfl rfl hcw3 rfl ?_
    refine wr_storeAll (cs := [.bool U.1, uv]) rfl rfl rfl (by intro u hu; simp at hu; rcases hu with rfl | rfl; rfl; exact own_one huv) hc13 rfl rfl ?_
    (repeat first | apply wr_end | (apply wc_ret; try simp only [thenE, inBlockE, bodyQ]))
    refine leaveN (vs := [SetV U.1 uv]) (resv_cells (cs := [.bool U.1, uv]) (e := 41) (fr := (0, 0)) rfl rfl (World.putObj_heap_same (lt_of_heap hc13)) rfl resv_nil) ⟨?_, hk03.trans' ((Keeps.refl (· = bw1) w3).put _ (fun _ => rfl)) (fun i hi e => by omega)⟩
    unfold leanP
    rw [if_neg (by rw [hua]; decide)]
    exact huR.put ((Keeps.refl (· = bw1) w3).put _ (fun _ => rfl)) hc13 (setCells_ne false nilV (fun t h => by cases h))
  | true =>
    (repeat first | apply wr_end | apply wc_seq | apply wc_region | (apply wr_fieldAddr; iterate 2 exact rfl) | (apply wr_not; iterate 2 exact rfl) | (apply wr_load; (iterate 3 exact rfl); (focus repeat first | with_reducible assumption | exact heap_alloc_same _ _ | exact World.putObj_heap_same (by first | omega | (simp only [World.size_alloc, World.putObj_size, ne_eq]; omega)) | ((first | refine hAl ?_ ?_ | refine hPu ?_ ?_); focus first | omega | (simp only [World.size_alloc, World.putObj_size, ne_eq]; omega))); exact rfl; conv => enter [6, 3]; whnf))
    rw [hua]
    (repeat first | apply wc_seq | apply wc_region | apply wc_skip | (apply wc_false; exact rfl))
    refine wr_buildSlice (vs := [S [42]]) rfl rfl (by intro v hv; simp at hv; subst hv; rfl) rfl (by decide) (by decide) (by decide) ?_
    refine wr_name ?_
    intro w4 hw4
    have hk4 : Keeps NoB w3 w4 := by rw [hw4]; exact (Keeps.refl NoB w3).alloc _
    have hc4 : w4.heap[w3.heap.size]? = some (.cells (SL [[42]]).toArray 9 (0, 0)) := by rw [hw4]; exact heap_alloc_same _ _
    clear hw4
    refine wr_call (vs := [.slice (some ⟨w3.heap.size, 0, none⟩) 1 1]) rfl (ofO_ca [[42]] _ w4 (slR_blk hc4 rfl) (by decide) (by decide)) rfl ?_
    rintro sv w5 ⟨⟨sn, rfl, hsn⟩, hk5⟩
    rw [stO] at hsn ⊢
    have hc15 := (hk4.trans hk5).heap hc13 (fun h => h)
    have hsR : SetR w5 (true, []) (SetV true sn) := ⟨sn, rfl, SlR.of_own hsn⟩
    refine wr_storeAll (cs := [.bool true, sn]) rfl rfl rfl (by intro u hu; simp at hu; rcases hu with rfl | rfl; rfl; exact own_one hsn) hc15 rfl rfl ?_
    (repeat first | apply wr_end | (apply wc_ret; try simp only [thenE, inBlockE, bodyQ]))
    refine leaveN (vs := [SetV true sn]) (resv_cells (cs := [.bool true, sn]) (e := 41) (fr := (0, 0)) rfl rfl (World.putObj_heap_same (lt_of_heap hc15)) rfl resv_nil) ⟨?_, ((hk03.trans hk4).trans hk5).trans' ((Keeps.refl (· = bw1) w5).put _ (fun _ => rfl)) (fun i hi e => by omega)⟩
    unfold leanP
    rw [if_pos hua]
    exact hsR.put ((Keeps.refl (· = bw1) w5).put _ (fun _ => rfl)) hc15 (setCells_ne false nilV (fun t h => by cases h))
end Go.Proofs.YtajajahofkialaaGreatDoor

namespace Go.Proofs.YtajajahofkialaaGreatDoor
open Go Go.V Go.RowKit
set_option linter.unusedVariables false
set_option linter.unusedSimpArgs false

def Gi (wb : Nat) (cl : List Nat) (i : Nat) : List Value := .map (some wb) :: ((cl.map fun b => .map (some b)) ++ List.replicate (6 - i) (.map none))
theorem Gi_set {wb b i : Nat} {cl : List Nat} (hl : cl.length = i) (hi : i < 6) : (Gi wb cl i).toArray.setIfInBounds (0 + 1 + i * 1) (.map (some b)) = (Gi wb (cl ++ [b]) (i + 1)).toArray := by
  apply Array.toList_inj.1
  rw [Array.toList_setIfInBounds]
  show (Value.map (some wb) :: _).set _ _ = Value.map (some wb) :: _
  rw [show 0 + 1 + i * 1 = i + 1 by omega, List.set_cons_succ, List.set_append_right _ _ (by rw [List.length_map]; omega), List.length_map, hl, Nat.sub_self, show 6 - i = (6 - (i + 1)) + 1 by omega, List.replicate_succ, List.set_cons_zero, List.map_append, List.append_assoc]
  rfl
theorem Gi_get {wb i : Nat} {cl : List Nat} (hl : cl.length = i) (hi : i < 6) : (Gi wb cl i).toArray[0 + 1 + i * 1]? = some (.map none) := by
  rw [List.getElem?_toArray]
  unfold Gi
  rw [show 0 + 1 + i * 1 = i + 1 by omega, List.getElem?_cons_succ, List.getElem?_append_right (by rw [List.length_map]; omega), List.length_map, hl, Nat.sub_self, List.getElem?_replicate, if_pos (by omega)]
theorem Gi_end {wb : Nat} {cl : List Nat} : Gi wb cl 6 = GMg wb cl := by unfold Gi GMg; simp
abbrev noW : WF := fun _ => noneP
theorem cnt_no (k : Nat) (x : TT) : cntW noW k x = 0 := by
  unfold cntW
  have : (List.range 33).countP (fun id : Nat => decide (x ∈ listP (noW ((id : Int), (k : Int))))) = 0 := by
    rw [List.countP_eq_zero]
    intro a _
    simp [noneP, listP]
  rw [this]; rfl
set_option maxRecDepth 100000 in
set_option maxHeartbeats 4000000 in
theorem newM_ca (w : World) : Ca Tryz.prog 10 #[] w fun v w' => (∃ ab wb cb, v = .pointer (some ⟨ab, 0, none⟩) ∧ MgAt w' 0 ab wb cb noW ∧ w.heap.size ≤ ab ∧ w.heap.size ≤ wb ∧ ∀ b ∈ cb, w.heap.size ≤ b) ∧ Keeps NoB w w' := by
  refine ca_of_body (args := []) Tryz.func10 rfl (by kernel_rfl) ?_
  apply wc_seq
  apply wc_region
  apply wr_assign
  focus exact rfl
  apply wr_nil
  simp only [thenE]
  apply wc_seq
  apply wc_region
  refine wr_makeMap rfl ?_
  obtain ⟨wb, hwb⟩ : ∃ b, b = w.heap.size := ⟨_, rfl⟩
  refine wr_name ?_
  intro w1 hw1
  have hk1 : Keeps NoB w w1 := by rw [hw1]; exact (Keeps.refl NoB w).alloc _
  have hm1 : MapAt w1 encT wb [] := by rw [hw1, hwb]; exact MapAt.new w encT
  rw [← hwb]
  clear hw1
  refine wr_build (ps := [(0, .map (some wb))]) (cs := Gi wb [] 0) rfl rfl rfl rfl ?_
  refine wr_box (v := .agg (Gi wb [] 0).toArray) rfl rfl ?_
  refine wr_name ?_
  intro w2 hw2
  obtain ⟨ab, hab⟩ : ∃ b, b = w1.heap.size := ⟨_, rfl⟩
  have hk2 : Keeps NoB w1 w2 := by rw [hw2]; exact (Keeps.refl NoB w1).alloc _
  have hc2 : w2.heap[ab]? = some (.cells (Gi wb [] 0).toArray 76 (0, 0)) := by rw [hw2, hab]; exact heap_alloc_same _ _
  rw [← hab]
  clear hw2
  have hk02 := hk1.trans hk2
  have hm2 := hm1.keep hk2 (fun h => h)
  have hz1 := hk1.size
  have hlw := hm1.lt
  (repeat first | (apply wr_move; exact rfl; with_reducible (conv => enter [6, 3]; whnf)) | (apply wr_assign; exact rfl; with_reducible (conv => enter [6, 3]; whnf)) | apply wr_end | apply wc_seq | apply wc_region | apply wc_block)
  refine wc_loopL (α := Nat × List Nat) (fun p => [(1, .pointer (some ⟨ab, 0, none⟩)), (6, .int .i64 (p.1 : Int))])
    (fun p ds w' => ds = [] ∧ p.1 ≤ 6 ∧ p.2.length = p.1 ∧ p.2.Nodup ∧ (∀ b ∈ p.2, ab < b ∧ MapAt w' Go.V.encS b []) ∧ MapAt w' encT wb [] ∧ w'.heap[ab]? = some (.cells (Gi wb p.2 p.1).toArray 76 (0, 0)) ∧ Keeps NoB w w' ∧ ∀ b ∈ p.2, b < w'.heap.size) (fun p => 6 - p.1) (0, [])
    ⟨rfl, by decide, rfl, List.nodup_nil, (fun b hb => by cases hb), hm2, hc2, hk02, (fun b hb => by cases hb)⟩ ⟨rfl, rfl, trivial⟩ ?_
  rintro ⟨i, cl⟩ ds f0 w3 ⟨rfl, hi, hcl, hnd, hcb, hm3, hc3, hk3, hlt3⟩
  dsimp only at hi hcl hnd hcb hc3 hlt3 ⊢
  by_cases hlt : i < 6
  · (repeat first | (apply wr_move; exact rfl; with_reducible (conv => enter [6, 3]; whnf)) | (apply wr_assign; exact rfl; with_reducible (conv => enter [6, 3]; whnf)) | apply wr_end | apply wc_seq | apply wc_region | apply wc_skip | apply wc_block | (apply wr_cmp; (iterate 3 exact rfl); exact cmpT (by dsimp only [cmpP]; first | done | omega)) | (apply wc_true; exact rfl))
    refine wr_makeMap rfl ?_
    refine wr_name ?_
    intro w4 hw4
    obtain ⟨b, hb⟩ : ∃ b, b = w3.heap.size := ⟨_, rfl⟩
    have hk4 : Keeps NoB w3 w4 := by rw [hw4]; exact (Keeps.refl NoB w3).alloc _
    have hmb : MapAt w4 Go.V.encS b ([] : List (TT × Value)) := by rw [hw4, hb]; exact MapAt.new w3 Go.V.encS
    rw [← hb]
    clear hw4
    have hc4 := hk4.heap hc3 (fun h => h)
    have hla := lt_of_heap hc3
    have hlb := hmb.lt
    (repeat first | (apply wr_fieldAddr; iterate 2 exact rfl) | (apply wr_nilCheck; iterate 2 exact rfl))
    refine wr_indexArr (i := i) rfl rfl rfl hlt ?_
    refine wr_store (v := .map (some b)) (u := .map none) rfl rfl rfl rfl hc4 (Gi_get hcl hlt) ?_
    rw [Gi_set hcl hlt]
    generalize hw5 : World.putObj w4 ab _ = w5
    have hk5 : Keeps (· = ab) w4 w5 := by rw [← hw5]; exact (Keeps.refl _ w4).put _ (fun _ => rfl)
    have hc5 : w5.heap[ab]? = some (.cells (Gi wb (cl ++ [b]) (i + 1)).toArray 76 (0, 0)) := by rw [← hw5]; exact World.putObj_heap_same (lt_of_heap hc4)
    clear hw5
    have hz5 := hk5.size
    have hz4 := hk4.size
    (repeat first | (apply wr_move; exact rfl; with_reducible (conv => enter [6, 3]; whnf)) | apply wr_end | apply wc_region | (apply wr_add; (iterate 3 exact rfl); exact w_fit (by dsimp only [kIn]; first | done | omega)) | (apply wr_nil; try simp only [thenE, inBlockE, bodyQ]))
    refine ⟨(i + 1, cl ++ [b]), by dsimp only; omega, ⟨by trivial, hlt, by simp [hcl], ?_, ?_, (hm3.keep hk4 (fun h => h)).keep hk5 (fun e => by omega), hc5, (hk3.trans hk4).trans' hk5 (fun i hi e => by omega), ?_⟩, rfl, rfl, trivial⟩
    · rw [List.nodup_append]
      exact ⟨hnd, by simp, fun x hx y hy e => by simp at hy; have := hlt3 x hx; omega⟩
    · intro x hx
      rcases List.mem_append.1 hx with hx | hx
      · exact ⟨(hcb x hx).1, ((hcb x hx).2.keep hk4 (fun h => h)).keep hk5 (fun e => by have := (hcb x hx).1; omega)⟩
      · simp at hx
        subst hx
        exact ⟨by omega, hmb.keep hk5 (fun e => by omega)⟩
    · intro x hx
      rcases List.mem_append.1 hx with hx | hx
      · have := hlt3 x hx; omega
      · simp at hx; omega
  · have hie : i = 6 := by omega
    subst hie
    rw [Gi_end] at hc3
    (repeat first | (apply wr_move; exact rfl; with_reducible (conv => enter [6, 3]; whnf)) | (apply wr_assign; exact rfl; with_reducible (conv => enter [6, 3]; whnf)) | apply wr_end | apply wc_seq | apply wc_region | (apply wr_cmp; (iterate 3 exact rfl); exact cmpF (by dsimp only [cmpN]; first | done | omega)) | (apply wc_false; exact rfl) | (apply wc_exit; try simp only [thenE, inBlockE, bodyQ, ↓reduceIte, Nat.reduceEqDiff]) | (apply wc_ret; try simp only [thenE, inBlockE, bodyQ]))
    refine leave1 (v := .pointer (some ⟨ab, 0, none⟩)) rfl rfl ⟨⟨ab, wb, cl, rfl, ⟨hc3, hcl, fun k b hb => ⟨[], (hcb b (List.mem_of_getElem? hb)).2, fun x => by rw [cnt_no]; rfl⟩, ⟨[], hm3, fun t => ?_⟩, fun t => nil_fine false, fun t _ => rfl, fun t => by show (0 : Nat) ≤ _; omega, hnd, fun hm => by have := (hcb wb hm).1; omega⟩, by omega, by omega, fun b hb => by have := (hcb b hb).1; omega⟩, hk3⟩
    unfold WantV
    rw [if_pos rfl]
    rfl
end Go.Proofs.YtajajahofkialaaGreatDoor
