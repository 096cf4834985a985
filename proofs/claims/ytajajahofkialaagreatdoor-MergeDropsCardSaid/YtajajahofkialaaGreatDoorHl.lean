/- merge: Keys, Drop of nobody. -/
import Derived.Test.YtajajahofkialaaGreatDoorHk
namespace Go.Proofs.YtajajahofkialaaGreatDoor
open Go Go.V Go.RowKit
set_option linter.unusedVariables false
set_option linter.unusedSimpArgs false

theorem dec_len {i : Nat} (hi : i < 100) : (Lib.decDigits i).length ≤ 2 := by
  by_cases h : i < 10
  · rw [Lib.decDigits_one h]; simp
  · rw [Lib.decDigits_two h hi]; simp
def keyT (Wn : WF) (k : Nat) (x : TT) : TT := x ++ [32] ++ Lib.decDigits (cntW Wn k x).toNat
def keysL (Wn : WF) (k : Nat) : TX := (listP (unionK Wn k)).map (keyT Wn k)
theorem unionK_fine (Wn : WF) (k : Nat) : Fine (unionK Wn k) := ofP_fine _
theorem unionK_len {Wn : WF} (hs : small Wn) (k : Nat) : (unionK Wn k).2.length ≤ 3400000 := Nat.le_trans (ofP_le _) (allL_len hs k)
set_option maxRecDepth 100000 in
set_option maxHeartbeats 4000000 in
theorem keysM2_ca {w : World} {n0 ab wb : Nat} {cb : List Nat} {Wn : WF} (h : MgAt w n0 ab wb cb Wn) (k : Nat) (hk1 : 1 ≤ k) (hk5 : k ≤ 5) :
    Ca Tryz.prog 28 #[.pointer (some ⟨ab, 0, none⟩), .int .i64 (k : Int)] w fun v w' => w'.ownsRow w.heap.size 9 1 v (keysL Wn k).length (SL (keysL Wn k)) ∧ Keeps NoB w w' := by
  refine ca_of_body (args := [.pointer (some ⟨ab, 0, none⟩), .int .i64 (k : Int)]) Tryz.func28 rfl (by kernel_rfl) ?_
  obtain ⟨b, hb⟩ : ∃ b, cb[k]? = some b := ⟨cb[k]'(by rw [h.len]; omega), by simp [h.len, show k < 6 by omega]⟩
  have hcellb : (GMg wb cb).toArray[0 + 1 + k * 1]? = some (.map (some b)) := by rw [Nat.zero_add, Nat.mul_one]; exact GMg_get hb
  obtain ⟨U, hU⟩ : ∃ U, U = unionK Wn k := ⟨_, rfl⟩
  have hUl := unionK_len h.small k
  have hUf := unionK_fine Wn k
  rw [← hU] at hUl hUf
  (repeat first | (apply wr_move; exact rfl; with_reducible (conv => enter [6, 3]; whnf)) | (apply wr_assign; exact rfl; with_reducible (conv => enter [6, 3]; whnf)) | apply wr_end | apply wc_seq | apply wc_region)
  refine wr_call (vs := [.pointer (some ⟨ab, 0, none⟩), .int .i64 (k : Int)]) rfl (unionM_ca h k hk1 hk5) rfl ?_
  rintro v w1 ⟨hu, hk01⟩
  rw [← hU] at hu
  refine wr_call (vs := [v]) rfl (list_ca U v w1 hu.toR (by omega)) rfl ?_
  rintro lv w2 ⟨hlv, hk12⟩
  obtain ⟨la, lc, rfl, _, hat⟩ := slr_strs hlv
  have hk02 := hk01.trans hk12
  have hll := listP_le U
  have hkl : keysL Wn k = (listP U).map (keyT Wn k) := by unfold keysL; rw [← hU]
  rw [hkl]
  (repeat first | (apply wr_move; exact rfl; with_reducible (conv => enter [6, 3]; whnf)) | apply wr_end | apply wc_block | (apply wr_len_slice; iterate 2 exact rfl))
  refine wc_loopL (α := Nat × Value) (fun p => [(0, .pointer (some ⟨ab, 0, none⟩)), (1, .int .i64 (k : Int)), (5, p.2), (11, .slice la (listP U).length lc), (12, .int .i64 ((listP U).length : Int)), (13, .int .i64 (p.1 : Int))])
    (fun p ds w' => ds = [] ∧ p.1 ≤ (listP U).length ∧ w'.ownsRow w2.heap.size 9 1 p.2 p.1 (SL (((listP U).take p.1).map (keyT Wn k))) ∧ Keeps NoB w2 w') (fun p => (listP U).length - p.1) (0, nilV)
    ⟨rfl, Nat.zero_le _, own_nilV _ _ _ _, Keeps.refl _ _⟩ ⟨rfl, rfl, rfl, rfl, rfl, rfl, trivial⟩ ?_
  rintro ⟨i, ov⟩ ds f0 w3 ⟨rfl, hi, ho3, hk23⟩
  dsimp only at hi ho3 ⊢
  have hk03 := hk02.trans hk23
  by_cases hlt : i < (listP U).length
  rotate_left
  · have hie : i = (listP U).length := by omega
    subst hie
    rw [List.take_length] at ho3
    have hml : ((listP U).map (keyT Wn k)).length = (listP U).length := List.length_map _
    rw [hml]
    (repeat first | (apply wr_move; exact rfl; with_reducible (conv => enter [6, 3]; whnf)) | (apply wr_assign; exact rfl; with_reducible (conv => enter [6, 3]; whnf)) | apply wr_end | apply wc_seq | apply wc_region | (apply wr_cmp; (iterate 3 exact rfl); exact cmpF (by dsimp only [cmpN]; first | done | omega)) | (apply wc_false; exact rfl) | (apply wc_exit; try simp only [thenE, inBlockE, bodyQ, ↓reduceIte, Nat.reduceEqDiff]) | (apply wc_ret; try simp only [thenE, inBlockE, bodyQ]))
    exact leave1 (v := ov) rfl rfl ⟨own_down ho3 hk02.size, hk03⟩
  obtain ⟨b0, o0, rfl, cur, ee, fr, hb0, hr⟩ := hat (by omega)
  obtain ⟨x, hx⟩ : ∃ x, (listP U)[i]? = some x := ⟨(listP U)[i], by simp [hlt]⟩
  have hb3 := hk23.heap hb0 (fun h => h)
  have hc3 := hk03.heap h.cells (fun h => h)
  have hxl := listP_ok hUf x (List.mem_of_getElem? hx)
  have hxl2 : x.length ≤ 64 := by
    rcases (mem_listP U x).1 (List.mem_of_getElem? hx) with ⟨_, rfl⟩ | h1
    · decide
    · exact nameOk_le (hUf.2 x h1)
  obtain ⟨C, hC, hCg⟩ := (h.cnt k b hb).keep hk03 (fun h => h)
  have hcb := cntW_bound Wn k x
  obtain ⟨m, hm⟩ : ∃ m : Nat, m = (cntW Wn k x).toNat := ⟨_, rfl⟩
  have hmx : cntW Wn k x = (m : Int) := by omega
  have hm33 : m < 100 := by omega
  have hdl := dec_len hm33
  (repeat first | apply wr_end | apply wc_seq | apply wc_region | apply wc_skip | apply wc_block | (apply wr_cmp; (iterate 3 exact rfl); exact cmpT (by dsimp only [cmpP]; first | done | omega)) | (apply wc_true; exact rfl))
  refine wr_indexAddr (i := i) rfl rfl rfl hlt ?_
  refine wr_load (v := S x) rfl rfl rfl hb3 (hr i x hx) ?_
  (repeat first | (apply wr_move; exact rfl; with_reducible (conv => enter [6, 3]; whnf)) | (apply wr_assign; exact rfl; with_reducible (conv => enter [6, 3]; whnf)) | apply wr_end | apply wc_region)
  refine wr_cat (a := x) (b := [32]) rfl rfl rfl (by simp only [List.length_cons, List.length_nil]; omega) ?_
  (repeat first | (apply wr_move; exact rfl; with_reducible (conv => enter [6, 3]; whnf)) | (apply wr_fieldAddr; iterate 2 exact rfl) | (apply wr_nilCheck; iterate 2 exact rfl))
  refine wr_indexArr (i := k) rfl rfl rfl (by omega) ?_
  refine wr_load (v := .map (some b)) rfl rfl rfl hc3 hcellb ?_
  (repeat first | (apply wr_move; exact rfl; with_reducible (conv => enter [6, 3]; whnf)))
  refine wr_lookup (l := C) (a := x) rfl rfl hC rfl ?_
  rw [CntAt.get (w := w3) (b := b) hCg x, hmx]
  refine wr_call (vs := [.int .i64 (m : Int)]) rfl (itoa_ca m hm33 w3) rfl ?_
  rintro v w4 ⟨rfl, e⟩
  rw [e]
  clear e
  refine wr_cat (a := x ++ [32]) (b := Lib.decDigits m) rfl rfl rfl (by simp only [List.length_append, List.length_cons, List.length_nil]; omega) ?_
  refine wr_buildSlice (vs := [S (x ++ [32] ++ Lib.decDigits m)]) rfl rfl (by intro v hv; simp at hv; subst hv; rfl) rfl (by decide) (by decide) (by decide) ?_
  have hk4 : Keeps NoB w3 (w3.alloc (.cells (List.flatMap (fun v : Value => v.cells.toList) [S (x ++ [32] ++ Lib.decDigits m)]).toArray 9)) := (Keeps.refl _ _).alloc _
  have ho4 := own_keep ho3 hk4 (fun _ _ h => h)
  refine wr_append (base := w2.heap.size) (v := ov) (n := i) (m := 1) (news := [S (x ++ [32] ++ Lib.decDigits m)]) rfl rfl ho4 rfl (heap_alloc_same _ _) rfl (by intro u hu; simp at hu; subst hu; rfl) rfl (by decide) (by omega) (by omega) (Nat.le_trans hk23.size hk4.size) ?_
  intro v5 w5 ho5 hk5 _
  have hk25 : Keeps NoB w2 w5 := (hk23.trans hk4).trans' hk5 (fun q hq e => by have := V.F.own_geF ho4 e; omega)
  (repeat first | (apply wr_move; exact rfl; with_reducible (conv => enter [6, 3]; whnf)) | (apply wr_assign; exact rfl; with_reducible (conv => enter [6, 3]; whnf)) | apply wr_end | apply wc_region | (apply wr_add; (iterate 3 exact rfl); exact w_fit (by dsimp only [kIn]; first | done | omega)) | (apply wr_nil; try simp only [thenE, inBlockE, bodyQ]))
  refine ⟨(i + 1, v5), by dsimp only; omega, ⟨by trivial, hlt, ?_, hk25⟩, rfl, rfl, rfl, rfl, rfl, rfl, trivial⟩
  dsimp only
  rw [List.take_add_one, hx]
  simp only [Option.toList_some, List.map_append, List.map_cons, List.map_nil, SL]
  have hkt : keyT Wn k x = x ++ [32] ++ Lib.decDigits m := by unfold keyT; rw [← hm]
  rw [hkt]
  exact ho5
set_option maxRecDepth 100000 in
set_option maxHeartbeats 2000000 in
theorem unionZ_ca {w : World} {ab : Nat} {kk : Int} (hk : ¬ (1 ≤ kk ∧ kk ≤ 5)) :
    Ca Tryz.prog 18 #[.pointer (some ⟨ab, 0, none⟩), .int .i64 kk] w fun v w' => v = SetV false nilV ∧ Keeps NoB w w' := by
  refine ca_of_body (args := [.pointer (some ⟨ab, 0, none⟩), .int .i64 kk]) Tryz.func18 rfl (by kernel_rfl) ?_
  apply wc_seq
  apply wc_region
  apply wr_alloc
  focus exact rfl
  refine wr_name ?_
  intro w1 hww1
  obtain ⟨bw1, hbw1⟩ : ∃ b, b = (w).heap.size := ⟨_, rfl⟩
  have hkw1 : Keeps NoB w w1 := by rw [hww1]; exact (Keeps.refl NoB w).alloc _
  have hcw1 : (w1).heap[bw1]? = some (.cells ([.bool false, nilV]).toArray 41 (0, 0)) := by rw [hww1, hbw1]; exact heap_alloc_same _ _
  rw [← hbw1]
  clear hww1
  by_cases h1 : 1 ≤ kk
  · have h5 : ¬ kk ≤ 5 := fun h => hk ⟨h1, h⟩
    (repeat first | (apply wr_move; exact rfl; with_reducible (conv => enter [6, 3]; whnf)) | apply wr_end | apply wc_seq | apply wc_region | (apply wr_cmp; (iterate 3 exact rfl); exact cmpT (by dsimp only [cmpP]; first | done | omega)) | (apply wr_cmp; (iterate 3 exact rfl); exact cmpF (by dsimp only [cmpN]; first | done | omega)) | (apply wr_pick (t := false); (iterate 2 exact rfl); with_reducible (conv => enter [6, 3]; whnf)) | (apply wc_true; exact rfl))
    refine wr_build (ps := []) (cs := [.bool false, nilV]) rfl rfl rfl rfl ?_
    refine wr_storeAll (cs := [.bool false, nilV]) rfl rfl rfl zset_one hcw1 rfl rfl ?_
    (repeat first | apply wr_end | (apply wc_ret; try simp only [thenE, inBlockE, bodyQ]))
    exact leaveN (vs := [SetV false nilV]) (resv_cells (cs := [.bool false, nilV]) (e := 41) (fr := (0, 0)) rfl rfl (World.putObj_heap_same (lt_of_heap hcw1)) rfl resv_nil) ⟨rfl, hkw1.trans' ((Keeps.refl (· = bw1) w1).put _ (fun _ => rfl)) (fun i hi e => by omega)⟩
  · (repeat first | (apply wr_move; exact rfl; with_reducible (conv => enter [6, 3]; whnf)) | apply wr_end | apply wc_seq | apply wc_region | (apply wr_cmp; (iterate 3 exact rfl); exact cmpT (by dsimp only [cmpP]; first | done | omega)) | (apply wr_pick (t := true); (iterate 2 exact rfl); with_reducible (conv => enter [6, 3]; whnf)) | (apply wc_true; exact rfl) | (apply wr_skip; exact rfl))
    refine wr_build (ps := []) (cs := [.bool false, nilV]) rfl rfl rfl rfl ?_
    refine wr_storeAll (cs := [.bool false, nilV]) rfl rfl rfl zset_one hcw1 rfl rfl ?_
    (repeat first | apply wr_end | (apply wc_ret; try simp only [thenE, inBlockE, bodyQ]))
    exact leaveN (vs := [SetV false nilV]) (resv_cells (cs := [.bool false, nilV]) (e := 41) (fr := (0, 0)) rfl rfl (World.putObj_heap_same (lt_of_heap hcw1)) rfl resv_nil) ⟨rfl, hkw1.trans' ((Keeps.refl (· = bw1) w1).put _ (fun _ => rfl)) (fun i hi e => by omega)⟩
theorem zset_R (w : World) : SetR w noneP (SetV false nilV) := ⟨nilV, rfl, slr_none w⟩
set_option maxRecDepth 100000 in
set_option maxHeartbeats 2000000 in
theorem keysZ_ca {w : World} {ab : Nat} {kk : Int} (hk : ¬ (1 ≤ kk ∧ kk ≤ 5)) :
    Ca Tryz.prog 28 #[.pointer (some ⟨ab, 0, none⟩), .int .i64 kk] w fun v w' => v = nilV ∧ Keeps NoB w w' := by
  refine ca_of_body (args := [.pointer (some ⟨ab, 0, none⟩), .int .i64 kk]) Tryz.func28 rfl (by kernel_rfl) ?_
  (repeat first | (apply wr_move; exact rfl; with_reducible (conv => enter [6, 3]; whnf)) | (apply wr_assign; exact rfl; with_reducible (conv => enter [6, 3]; whnf)) | apply wr_end | apply wc_seq | apply wc_region)
  refine wr_call (vs := [.pointer (some ⟨ab, 0, none⟩), .int .i64 kk]) rfl (unionZ_ca hk) rfl ?_
  rintro v w1 ⟨rfl, hk01⟩
  refine wr_call (vs := [SetV false nilV]) rfl (list_ca noneP _ w1 (zset_R w1) (by decide)) rfl ?_
  rintro lv w2 ⟨hlv, hk12⟩
  obtain ⟨la, lc, rfl, _, _⟩ := slr_strs hlv
  rw [show (listP noneP).length = 0 from rfl]
  (repeat first | (apply wr_move; exact rfl; with_reducible (conv => enter [6, 3]; whnf)) | apply wr_end | apply wc_block | (apply wr_len_slice; iterate 2 exact rfl))
  refine wc_loopL (α := Unit) (fun _ => [(5, nilV), (12, .int .i64 0), (13, .int .i64 0)]) (fun _ ds w' => ds = [] ∧ w' = w2) (fun _ => 0) () ⟨rfl, rfl⟩ ⟨rfl, rfl, rfl, trivial⟩ ?_
  rintro _ ds f0 w3 ⟨rfl, e⟩
  rw [e]
  clear e
  (repeat first | (apply wr_move; exact rfl; with_reducible (conv => enter [6, 3]; whnf)) | (apply wr_assign; exact rfl; with_reducible (conv => enter [6, 3]; whnf)) | apply wr_end | apply wc_seq | apply wc_region | (apply wr_cmp; (iterate 3 exact rfl); exact cmpF (by dsimp only [cmpN]; first | done | omega)) | (apply wc_false; exact rfl) | (apply wc_exit; try simp only [thenE, inBlockE, bodyQ, ↓reduceIte, Nat.reduceEqDiff]) | (apply wc_ret; try simp only [thenE, inBlockE, bodyQ]))
  exact leave1 (v := nilV) rfl rfl ⟨rfl, hk01.trans hk12⟩
set_option maxRecDepth 100000 in
set_option maxHeartbeats 4000000 in
theorem dropZ_ca {w : World} {n0 ab wb : Nat} {cb : List Nat} {Wn : WF} (h : MgAt w n0 ab wb cb Wn) (id : Int) (hid : ∀ kk, Wn (id, kk) = noneP) :
    Ca Tryz.prog 11 #[.pointer (some ⟨ab, 0, none⟩), .int .i64 id] w fun v w' => v = .int .i64 5 ∧ Keeps NoB w w' := by
  refine ca_of_body (args := [.pointer (some ⟨ab, 0, none⟩), .int .i64 id]) Tryz.func11 rfl (by kernel_rfl) ?_
  obtain ⟨M, hM, hMW⟩ := h.want
  have hMn := map_nodup hM
  have hc1 := h.cells
  (repeat first | (apply wr_move; exact rfl; with_reducible (conv => enter [6, 3]; whnf)) | (apply wr_assign; exact rfl; with_reducible (conv => enter [6, 3]; whnf)) | apply wr_end | apply wc_seq | apply wc_region | (apply wr_fieldAddr; iterate 2 exact rfl) | (apply wr_nilCheck; iterate 2 exact rfl) | (apply wr_load; (iterate 3 exact rfl); (focus repeat first | with_reducible assumption | exact heap_alloc_same _ _ | exact World.putObj_heap_same (by first | omega | (simp only [World.size_alloc, World.putObj_size, ne_eq]; omega)) | ((first | refine hAl ?_ ?_ | refine hPu ?_ ?_); focus first | omega | (simp only [World.size_alloc, World.putObj_size, ne_eq]; omega))); exact rfl; conv => enter [6, 3]; whnf))
  refine wr_rangeM rfl rfl hM ?_
  intro w2 hI2 hk2
  obtain ⟨r, hr⟩ : ∃ b, b = w.heap.size := ⟨_, rfl⟩
  rw [← hr] at hI2 ⊢
  (repeat first | apply wr_end | apply wc_block)
  refine wc_loopL (α := List Nat) (fun _ => [(1, .int .i64 id), (5, .int .i64 5), (11, .pointer (some ⟨r, 0, none⟩))])
    (fun idx ds w' => ds = [] ∧ IterAt w' encT r wb M idx ∧ Keeps NoB w w') (fun idx => M.length - idx.length) []
    ⟨rfl, hI2, hk2⟩ ⟨rfl, rfl, rfl, trivial⟩ ?_
  rintro idx ds f0 w3 ⟨rfl, hI3, hk3⟩
  have hidx := iter_idx hI3
  (repeat first | apply wc_seq | apply wc_region)
  refine wr_nextM rfl rfl hI3 ?_ ?_
  · intro w4 hall hk4
    (repeat first | (apply wr_move; exact rfl; with_reducible (conv => enter [6, 3]; whnf)) | (apply wr_assign; exact rfl; with_reducible (conv => enter [6, 3]; whnf)) | apply wr_end | apply wc_seq | apply wc_region | (apply wr_extract; (iterate 3 exact rfl); with_reducible (conv => enter [6, 3]; whnf)) | (apply wc_false; exact rfl) | (apply wc_exit; try simp only [thenE, inBlockE, bodyQ, ↓reduceIte, Nat.reduceEqDiff]) | (apply wc_ret; try simp only [thenE, inBlockE, bodyQ]))
    exact leave1 (v := .int .i64 5) rfl rfl ⟨rfl, hk3.trans hk4⟩
  · intro w4 i p hni hp hI4 hE4 hk4
    have hidx4 := iter_idx hI4
    rw [List.length_append, List.length_singleton] at hidx4
    have hk14 : Keeps NoB w w4 := hk3.trans' hk4 (fun i hi e => by omega)
    have hgp := getM_at hMn hp
    have hgw := hMW p.1
    unfold WantV at hgw
    by_cases hno : Wn p.1 = noneP
    · rw [if_pos hno, hgp] at hgw; cases hgw
    obtain ⟨⟨pa, pb⟩, pval⟩ := p
    have hne : pa ≠ id := fun e => hno (by dsimp only; rw [e]; exact hid pb)
    (repeat first | apply wr_end | apply wc_seq | apply wc_region | apply wc_skip | apply wc_block | (apply wr_extract; (iterate 3 exact rfl); with_reducible (conv => enter [6, 3]; whnf)) | (apply wc_true; exact rfl))
    refine wr_entryM rfl rfl hE4 ?_
    (repeat first | (apply wr_alloc; exact rfl) | (apply wr_extract; (iterate 3 exact rfl); with_reducible (conv => enter [6, 3]; whnf)))
    refine wr_storeAll (cs := [.int .i64 pa, .int .i64 pb]) rfl rfl rfl (by intro u hu; simp at hu; rcases hu with rfl | rfl <;> rfl) (heap_alloc_same _ _) rfl rfl ?_
    refine wr_name ?_
    intro w5 hww5
    obtain ⟨bw5, hbw5⟩ : ∃ b, b = (w4).heap.size := ⟨_, rfl⟩
    have hkw5 : Keeps NoB w4 w5 := by rw [hww5]; exact ((Keeps.refl NoB w4).alloc _).put _ (fun h => by omega)
    have hcw5 : (w5).heap[bw5]? = some (.cells ([.int .i64 pa, .int .i64 pb]).toArray 78 (0, 0)) := by rw [hww5, hbw5]; exact World.putObj_heap_same (by simp)
    rw [← hbw5]
    clear hww5
    have hI5 := hI4.keep hkw5 (fun h => h) (fun h => h)
    (repeat first | (apply wr_move; exact rfl; with_reducible (conv => enter [6, 3]; whnf)) | apply wr_end | apply wc_seq | apply wc_region | apply wc_skip | (apply wr_fieldAddr; iterate 2 exact rfl) | (apply wr_load; (iterate 3 exact rfl); (focus repeat first | with_reducible assumption | exact heap_alloc_same _ _ | exact World.putObj_heap_same (by first | omega | (simp only [World.size_alloc, World.putObj_size, ne_eq]; omega)) | ((first | refine hAl ?_ ?_ | refine hPu ?_ ?_); focus first | omega | (simp only [World.size_alloc, World.putObj_size, ne_eq]; omega))); exact rfl; conv => enter [6, 3]; whnf) | (apply wr_cmp; (iterate 3 exact rfl); exact cmpF (by dsimp only [cmpN]; first | done | omega)) | (apply wc_false; exact rfl))
    exact ⟨idx ++ [i], by rw [List.length_append, List.length_singleton]; omega, ⟨by trivial, hI5, hk14.trans hkw5⟩, rfl, rfl, rfl, trivial⟩
end Go.Proofs.YtajajahofkialaaGreatDoor
