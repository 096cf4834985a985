/- message.RightReq of requests that may be. -/
import Derived.Test.YtahlhldkcekbfaaGreatDoorGk
namespace Go.Proofs.YtahlhldkcekbfaaGreatDoor
open Go Go.V Go.RowKit
set_option linter.unusedVariables false
set_option linter.unusedSimpArgs false

theorem starB_len {x : TT} (h : starB x = true) : x.length ≤ 64 := by
  unfold starB at h
  simp only [Bool.or_eq_true, decide_eq_true_eq] at h
  rcases h with rfl | h
  · decide
  · exact nameOk_le h
theorem starB_list {s : PS} (h : Fine s) : ∀ x ∈ listP s, starB x = true := by
  intro x hx
  unfold starB
  rcases (mem_listP s x).1 hx with ⟨_, rfl⟩ | h1
  · rfl
  · rw [decide_eq_true (h.2 x h1), Bool.or_true]
theorem named_star {ls : TX} {sl : Value} {w : World} (hsl : SlR w 1 sl ls.length (SL ls)) (hl : ls.length ≤ 64) (ha : ∀ x ∈ ls, starB x = true) :
    Ca Tryz.prog 50 #[sl, .func (.func 51) #[] #[]] w fun v w' => v = .bool true ∧ Keeps NoB w w' := by
  have := named_ca ls sl 51 starB w (by omega) hsl (by kernel_rfl) (fun x hx w' => star_ca x (by have := starB_len (ha x hx); omega) w')
  rw [decide_eq_true hl, List.all_eq_true.2 ha] at this
  exact this
theorem named_names {ls : TX} {sl : Value} {w : World} (hsl : SlR w 1 sl ls.length (SL ls)) (hl : ls.length ≤ 64) (ha : ∀ x ∈ ls, nameOk x) :
    Ca Tryz.prog 50 #[sl, .func (.func 43) #[] #[]] w fun v w' => v = .bool true ∧ Keeps NoB w w' := by
  have := named_ca ls sl 43 (fun x => decide (nameOk x)) w (by omega) hsl (by kernel_rfl) (fun x hx w' => name_ca x w' (by have := nameOk_le (ha x hx); omega))
  rw [decide_eq_true hl, List.all_eq_true.2 (fun x hx => decide_eq_true (ha x hx))] at this
  exact this
set_option maxRecDepth 100000 in
set_option maxHeartbeats 4000000 in
theorem rightReq_ok {k : Int} {d : Bool} {n : Nat} {sub uns hav : Value} {ls lu : TX} {lh : List HV} {w : World} (hk : typedB k = true) (hs : SlR w 1 sub ls.length (SL ls)) (hu : SlR w 1 uns lu.length (SL lu)) (hh : SlR w 2 hav lh.length (lh.flatMap GHv))
    (hsl : ls.length ≤ 64) (hul : lu.length ≤ 64) (hhl : lh.length ≤ 64) (hsa : ∀ x ∈ ls, starB x = true) (hua : ∀ x ∈ lu, starB x = true) (hha : ∀ x ∈ lh, nameOk x.1) (hn : n ≤ 18446744073709551615) (hd : d = false → lu.length = 0 ∧ lh.length = 0) :
    Ca Tryz.prog 16 #[.agg (GRq k d n sub uns hav []).toArray] w fun v w' => v = .bool true ∧ Keeps NoB w w' := by
  refine ca_of_body (args := [.agg (GRq k d n sub uns hav []).toArray]) Tryz.func16 rfl (by kernel_rfl) ?_
  obtain ⟨ua, uc, rfl, _, _⟩ := hu.shape
  obtain ⟨ha, hc, rfl, hhc, hhm⟩ := hh.shape
  apply wc_seq
  apply wc_region
  refine wr_box (v := .agg (GRq k d n sub (.slice ua lu.length uc) (.slice ha lh.length hc) []).toArray) rfl rfl ?_
  refine wr_name ?_
  intro w1 hww1
  obtain ⟨bw1, hbw1⟩ : ∃ b, b = (w).heap.size := ⟨_, rfl⟩
  have hkw1 : Keeps NoB w w1 := by rw [hww1]; exact (Keeps.refl NoB w).alloc _
  have hcw1 : (w1).heap[bw1]? = some (.cells (GRq k d n sub (.slice ua lu.length uc) (.slice ha lh.length hc) []).toArray 42 (0, 0)) := by rw [hww1, hbw1]; exact heap_alloc_same _ _
  rw [← hbw1]
  clear hww1
  (repeat first | (apply wr_assign; exact rfl; with_reducible (conv => enter [6, 3]; whnf)) | apply wr_end | apply wc_seq | apply wc_region | (apply wr_fieldAddr; iterate 2 exact rfl) | (apply wr_len_slice; iterate 2 exact rfl) | (apply wr_load; (iterate 3 exact rfl); (focus repeat first | with_reducible assumption | exact heap_alloc_same _ _ | exact World.putObj_heap_same (by first | omega | (simp only [World.size_alloc, World.putObj_size, ne_eq]; omega)) | ((first | refine hAl ?_ ?_ | refine hPu ?_ ?_); focus first | omega | (simp only [World.size_alloc, World.putObj_size, ne_eq]; omega))); exact rfl; conv => enter [6, 3]; whnf))
  refine wr_make0 (cap := lh.length) w.heap.size rfl rfl rfl (by show 16 * lh.length ≤ 281474976710656; omega) (by omega) hkw1.size ?_
  intro rv w2 hrv hk2 _
  have hc2 := hk2.heap hcw1 (fun h => h)
  have hk02 := hkw1.trans hk2
  (repeat first | (apply wr_move; exact rfl; with_reducible (conv => enter [6, 3]; whnf)) | (apply wr_assign; exact rfl; with_reducible (conv => enter [6, 3]; whnf)) | apply wr_end | apply wc_seq | apply wc_region | apply wc_block | (apply wr_fieldAddr; iterate 2 exact rfl) | (apply wr_len_slice; iterate 2 exact rfl) | (apply wr_load; (iterate 3 exact rfl); (focus repeat first | with_reducible assumption | exact heap_alloc_same _ _ | exact World.putObj_heap_same (by first | omega | (simp only [World.size_alloc, World.putObj_size, ne_eq]; omega)) | ((first | refine hAl ?_ ?_ | refine hPu ?_ ?_); focus first | omega | (simp only [World.size_alloc, World.putObj_size, ne_eq]; omega))); exact rfl; conv => enter [6, 3]; whnf))
  refine wc_loopL (α := Nat × Value) (fun p => [(1, .pointer (some ⟨bw1, 0, none⟩)), (3, p.2), (11, .slice ha lh.length hc), (12, .int .i64 (lh.length : Int)), (13, .int .i64 (p.1 : Int))])
    (fun p ds w' => ds = [] ∧ p.1 ≤ lh.length ∧ w'.ownsRow w.heap.size 9 1 p.2 p.1 (SL ((lh.take p.1).map (·.1))) ∧ w'.heap[bw1]? = some (.cells (GRq k d n sub (.slice ua lu.length uc) (.slice ha lh.length hc) []).toArray 42 (0, 0)) ∧ Keeps NoB w w') (fun p => lh.length - p.1) (0, rv)
    ⟨rfl, Nat.zero_le _, hrv, hc2, hk02⟩ ⟨rfl, rfl, rfl, rfl, rfl, trivial⟩ ?_
  rintro ⟨i, v3⟩ ds f0 w3 ⟨rfl, hi, ho3, hc3, hk3⟩
  dsimp only at hi ho3 ⊢
  by_cases hlt : i < lh.length
  · obtain ⟨x, hx⟩ : ∃ x, lh[i]? = some x := ⟨lh[i], by simp [hlt]⟩
    obtain ⟨hb0, ho0, rfl, cur, ee, fr, hvb, hvr⟩ := hhm (by omega)
    (repeat first | apply wr_end | apply wc_seq | apply wc_region | apply wc_skip | apply wc_block | (apply wr_cmp; (iterate 3 exact rfl); exact cmpT (by dsimp only [cmpP]; first | done | omega)) | (apply wc_true; exact rfl))
    refine wr_indexAddr (i := i) rfl rfl rfl hlt ?_
    refine wr_loadElem (G := GHv) (n := lh.length) (l := lh) rfl rfl GHv_len rfl (hk3.heap hvb (fun h => h)) hvr hlt hx rfl ?_
    (repeat first | (apply wr_alloc; exact rfl))
    refine wr_storeAll (cs := GHv x) rfl rfl rfl (GHv_one _) (heap_alloc_same _ _) rfl rfl ?_
    refine wr_name ?_
    intro w4 hww4
    obtain ⟨bw4, hbw4⟩ : ∃ b, b = (w3).heap.size := ⟨_, rfl⟩
    have hkw4 : Keeps NoB w3 w4 := by rw [hww4]; exact ((Keeps.refl NoB w3).alloc _).put _ (fun h => by omega)
    have hcw4 : (w4).heap[bw4]? = some (.cells (GHv x).toArray 55 (0, 0)) := by rw [hww4, hbw4]; exact World.putObj_heap_same (by simp)
    rw [← hbw4]
    clear hww4
    (repeat first | (apply wr_move; exact rfl; with_reducible (conv => enter [6, 3]; whnf)) | apply wr_end | apply wc_region | (apply wr_fieldAddr; iterate 2 exact rfl) | (apply wr_load; (iterate 3 exact rfl); (focus repeat first | with_reducible assumption | exact heap_alloc_same _ _ | exact World.putObj_heap_same (by first | omega | (simp only [World.size_alloc, World.putObj_size, ne_eq]; omega)) | ((first | refine hAl ?_ ?_ | refine hPu ?_ ?_); focus first | omega | (simp only [World.size_alloc, World.putObj_size, ne_eq]; omega))); exact rfl; conv => enter [6, 3]; whnf))
    refine wr_buildSlice (vs := [S x.1]) rfl rfl (by intro v hv; simp at hv; subst hv; rfl) rfl (by decide) (by decide) (by decide) ?_
    have hk4a : Keeps NoB w3 (w4.alloc (.cells (List.flatMap (fun v : Value => v.cells.toList) [S x.1]).toArray 9)) := hkw4.alloc _
    have ho4 := own_keep ho3 hk4a (fun _ _ h => h)
    have hc4 := hk4a.heap hc3 (fun h => h)
    refine wr_append (base := w.heap.size) (v := v3) (n := i) (m := 1) (news := [S x.1]) rfl rfl ho4 rfl (heap_alloc_same _ _) rfl (by intro u hu; simp at hu; subst hu; rfl) rfl (by decide) (by omega) (by omega) (Nat.le_trans hk3.size hk4a.size) ?_
    intro v5 w5 ho5 hk5 _
    have hc5 := hk5.heap hc4 (fun e => V.F.own_neT ho4 hc4 (by decide) _ e rfl)
    have hk05 : Keeps NoB w w5 := (hk3.trans hk4a).trans' hk5 (fun q hq e => by have := V.F.own_geF ho4 e; have := hkw1.size; omega)
    (repeat first | (apply wr_move; exact rfl; with_reducible (conv => enter [6, 3]; whnf)) | (apply wr_assign; exact rfl; with_reducible (conv => enter [6, 3]; whnf)) | apply wr_end | apply wc_region | (apply wr_add; (iterate 3 exact rfl); exact w_fit (by dsimp only [kIn]; first | done | omega)) | (apply wr_nil; try simp only [thenE, inBlockE, bodyQ]))
    exact ⟨(i + 1, v5), by dsimp only; omega, ⟨by trivial, hlt, by
      rw [List.take_add_one, hx]
      simp only [Option.toList_some, List.map_append, List.map_cons, List.map_nil, SL]
      simpa [SL] using ho5, hc5, hk05⟩, rfl, rfl, rfl, rfl, rfl, trivial⟩
  · have hie : i = lh.length := by omega
    subst hie
    rw [List.take_length] at ho3
    obtain ⟨hl, hhl'⟩ : ∃ l, l = lh.map (·.1) := ⟨_, rfl⟩
    rw [← hhl'] at ho3
    have hll : lh.length = hl.length := by rw [hhl', List.length_map]
    have hha' : ∀ x ∈ hl, nameOk x := by
      intro x hx
      rw [hhl', List.mem_map] at hx
      obtain ⟨y, hy, rfl⟩ := hx
      exact hha y hy
    (repeat first | apply wr_end | apply wc_seq | apply wc_region | (apply wr_fieldAddr; iterate 2 exact rfl) | (apply wr_load; (iterate 3 exact rfl); (focus repeat first | with_reducible assumption | exact heap_alloc_same _ _ | exact World.putObj_heap_same (by first | omega | (simp only [World.size_alloc, World.putObj_size, ne_eq]; omega)) | ((first | refine hAl ?_ ?_ | refine hPu ?_ ?_); focus first | omega | (simp only [World.size_alloc, World.putObj_size, ne_eq]; omega))); exact rfl; conv => enter [6, 3]; whnf) | (apply wr_cmp; (iterate 3 exact rfl); exact cmpF (by dsimp only [cmpN]; first | done | omega)) | (apply wc_false; exact rfl) | (apply wc_exit; try simp only [thenE, inBlockE, bodyQ, ↓reduceIte, Nat.reduceEqDiff]))
    refine wr_call (vs := [.int .i64 k]) rfl (typedM_ca k w3) rfl ?_
    rintro v w4 ⟨rfl, rfl⟩
    rw [hk]
    (repeat first | (apply wr_move; exact rfl; with_reducible (conv => enter [6, 3]; whnf)) | (apply wr_fieldAddr; iterate 2 exact rfl) | (apply wr_load; (iterate 3 exact rfl); (focus repeat first | with_reducible assumption | exact heap_alloc_same _ _ | exact World.putObj_heap_same (by first | omega | (simp only [World.size_alloc, World.putObj_size, ne_eq]; omega)) | ((first | refine hAl ?_ ?_ | refine hPu ?_ ?_); focus first | omega | (simp only [World.size_alloc, World.putObj_size, ne_eq]; omega))); exact rfl; conv => enter [6, 3]; whnf))
    refine wr_call (vs := [sub, .func (.func 51) #[] #[]]) rfl (named_star (hs.keep hk3 (fun _ _ h => h)) hsl hsa) rfl ?_
    rintro v w5 ⟨rfl, hk5⟩
    have hc5 := hk5.heap hc3 (fun h => h)
    have hk05 := hk3.trans hk5
    (repeat first | (apply wr_move; exact rfl; with_reducible (conv => enter [6, 3]; whnf)) | (apply wr_fieldAddr; iterate 2 exact rfl) | (apply wr_load; (iterate 3 exact rfl); (focus repeat first | with_reducible assumption | exact heap_alloc_same _ _ | exact World.putObj_heap_same (by first | omega | (simp only [World.size_alloc, World.putObj_size, ne_eq]; omega)) | ((first | refine hAl ?_ ?_ | refine hPu ?_ ?_); focus first | omega | (simp only [World.size_alloc, World.putObj_size, ne_eq]; omega))); exact rfl; conv => enter [6, 3]; whnf) | (apply wr_pick (t := true); (iterate 2 exact rfl); with_reducible (conv => enter [6, 3]; whnf)))
    refine wr_call (vs := [.slice ua lu.length uc, .func (.func 51) #[] #[]]) rfl (named_star (hu.keep hk05 (fun _ _ h => h)) hul hua) rfl ?_
    rintro v w6 ⟨rfl, hk6⟩
    have hc6 := hk6.heap hc5 (fun h => h)
    have hk06 := hk05.trans hk6
    (repeat first | (apply wr_move; exact rfl; with_reducible (conv => enter [6, 3]; whnf)) | (apply wr_pick (t := true); (iterate 2 exact rfl); with_reducible (conv => enter [6, 3]; whnf)))
    refine wr_call (vs := [v3, .func (.func 43) #[] #[]]) rfl (named_names (ls := hl) (by rw [← hll]; exact (SlR.of_own ho3).keep (hk5.trans hk6) (fun _ _ h => h)) (by omega) hha') rfl ?_
    rintro v w7 ⟨rfl, hk7⟩
    have hc7 := hk7.heap hc6 (fun h => h)
    have hk07 := hk06.trans hk7
    by_cases hn0 : 0 < n
    · cases d with
      | true =>
        (repeat first | (apply wr_move; exact rfl; with_reducible (conv => enter [6, 3]; whnf)) | (apply wr_assign; exact rfl; with_reducible (conv => enter [6, 3]; whnf)) | apply wr_end | (apply wr_fieldAddr; iterate 2 exact rfl) | (apply wr_len_str; iterate 2 exact rfl) | (apply wr_load; (iterate 3 exact rfl); (focus repeat first | with_reducible assumption | exact heap_alloc_same _ _ | exact World.putObj_heap_same (by first | omega | (simp only [World.size_alloc, World.putObj_size, ne_eq]; omega)) | ((first | refine hAl ?_ ?_ | refine hPu ?_ ?_); focus first | omega | (simp only [World.size_alloc, World.putObj_size, ne_eq]; omega))); exact rfl; conv => enter [6, 3]; whnf) | (apply wr_cmp; (iterate 3 exact rfl); exact cmpT (by dsimp only [cmpP]; first | done | omega)) | (apply wr_cmp; (iterate 3 exact rfl); exact cmp_le _ _) | (apply wr_pick (t := true); (iterate 2 exact rfl); with_reducible (conv => enter [6, 3]; whnf)) | (apply wc_ret; try simp only [thenE, inBlockE, bodyQ]) | (apply wr_skip; exact rfl))
        exact leave1 (v := .bool true) rfl rfl ⟨rfl, hk07⟩
      | false =>
        obtain ⟨hd1, hd2⟩ := hd rfl
        (repeat first | (apply wr_move; exact rfl; with_reducible (conv => enter [6, 3]; whnf)) | (apply wr_assign; exact rfl; with_reducible (conv => enter [6, 3]; whnf)) | apply wr_end | (apply wr_fieldAddr; iterate 2 exact rfl) | (apply wr_len_str; iterate 2 exact rfl) | (apply wr_len_slice; iterate 2 exact rfl) | (apply wr_load; (iterate 3 exact rfl); (focus repeat first | with_reducible assumption | exact heap_alloc_same _ _ | exact World.putObj_heap_same (by first | omega | (simp only [World.size_alloc, World.putObj_size, ne_eq]; omega)) | ((first | refine hAl ?_ ?_ | refine hPu ?_ ?_); focus first | omega | (simp only [World.size_alloc, World.putObj_size, ne_eq]; omega))); exact rfl; conv => enter [6, 3]; whnf) | (apply wr_cmp; (iterate 3 exact rfl); exact cmpT (by dsimp only [cmpP]; first | done | omega)) | (apply wr_cmp; (iterate 3 exact rfl); exact cmp_le _ _) | (apply wr_pick (t := true); (iterate 2 exact rfl); with_reducible (conv => enter [6, 3]; whnf)) | (apply wr_pick (t := false); (iterate 2 exact rfl); with_reducible (conv => enter [6, 3]; whnf)) | (apply wr_add; (iterate 3 exact rfl); exact w_fit (by dsimp only [kIn]; first | done | omega)) | (apply wc_ret; try simp only [thenE, inBlockE, bodyQ]) | (apply wr_skip; exact rfl))
        exact leave1 (v := .bool true) rfl rfl ⟨rfl, hk07⟩
    · cases d with
      | true =>
        (repeat first | (apply wr_move; exact rfl; with_reducible (conv => enter [6, 3]; whnf)) | (apply wr_assign; exact rfl; with_reducible (conv => enter [6, 3]; whnf)) | apply wr_end | (apply wr_fieldAddr; iterate 2 exact rfl) | (apply wr_len_str; iterate 2 exact rfl) | (apply wr_load; (iterate 3 exact rfl); (focus repeat first | with_reducible assumption | exact heap_alloc_same _ _ | exact World.putObj_heap_same (by first | omega | (simp only [World.size_alloc, World.putObj_size, ne_eq]; omega)) | ((first | refine hAl ?_ ?_ | refine hPu ?_ ?_); focus first | omega | (simp only [World.size_alloc, World.putObj_size, ne_eq]; omega))); exact rfl; conv => enter [6, 3]; whnf) | (apply wr_cmp; (iterate 3 exact rfl); exact cmpF (by dsimp only [cmpN]; first | done | omega)) | (apply wr_cmp; (iterate 3 exact rfl); exact cmp_le _ _) | (apply wr_pick (t := true); (iterate 2 exact rfl); with_reducible (conv => enter [6, 3]; whnf)) | (apply wr_pick (t := false); (iterate 2 exact rfl); with_reducible (conv => enter [6, 3]; whnf)) | (apply wr_streqc; (iterate 3 exact rfl); (first | exact decide_eq_true (by with_reducible assumption) | exact decide_eq_false (by with_reducible assumption) | exact decide_eq_true rfl | exact rfl)) | (apply wc_ret; try simp only [thenE, inBlockE, bodyQ]) | (apply wr_skip; exact rfl))
        exact leave1 (v := .bool true) rfl rfl ⟨rfl, hk07⟩
      | false =>
        obtain ⟨hd1, hd2⟩ := hd rfl
        (repeat first | (apply wr_move; exact rfl; with_reducible (conv => enter [6, 3]; whnf)) | (apply wr_assign; exact rfl; with_reducible (conv => enter [6, 3]; whnf)) | apply wr_end | (apply wr_fieldAddr; iterate 2 exact rfl) | (apply wr_len_str; iterate 2 exact rfl) | (apply wr_len_slice; iterate 2 exact rfl) | (apply wr_load; (iterate 3 exact rfl); (focus repeat first | with_reducible assumption | exact heap_alloc_same _ _ | exact World.putObj_heap_same (by first | omega | (simp only [World.size_alloc, World.putObj_size, ne_eq]; omega)) | ((first | refine hAl ?_ ?_ | refine hPu ?_ ?_); focus first | omega | (simp only [World.size_alloc, World.putObj_size, ne_eq]; omega))); exact rfl; conv => enter [6, 3]; whnf) | (apply wr_cmp; (iterate 3 exact rfl); exact cmpT (by dsimp only [cmpP]; first | done | omega)) | (apply wr_cmp; (iterate 3 exact rfl); exact cmpF (by dsimp only [cmpN]; first | done | omega)) | (apply wr_cmp; (iterate 3 exact rfl); exact cmp_le _ _) | (apply wr_pick (t := true); (iterate 2 exact rfl); with_reducible (conv => enter [6, 3]; whnf)) | (apply wr_pick (t := false); (iterate 2 exact rfl); with_reducible (conv => enter [6, 3]; whnf)) | (apply wr_add; (iterate 3 exact rfl); exact w_fit (by dsimp only [kIn]; first | done | omega)) | (apply wr_streqc; (iterate 3 exact rfl); (first | exact decide_eq_true (by with_reducible assumption) | exact decide_eq_false (by with_reducible assumption) | exact decide_eq_true rfl | exact rfl)) | (apply wc_ret; try simp only [thenE, inBlockE, bodyQ]))
        exact leave1 (v := .bool true) rfl rfl ⟨rfl, hk07⟩
end Go.Proofs.YtahlhldkcekbfaaGreatDoor
