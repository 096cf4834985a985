/- Pick; resources compared. -/
import Derived.Test.YtfdpnkmchedeeaaDoorOd
namespace Go.Proofs.YtfdpnkmchedeeaaDoor
open Go Go.V Go.RowKit
set_option linter.unusedVariables false
set_option linter.unusedSimpArgs false

/-- A resource: type, name, version, gone, body. -/
abbrev RD := Int × TT × Nat × Bool × TT
def GRd (x : RD) : List Value := [.int .i64 x.1, S x.2.1, .int .u64 ((x.2.2.1 : Nat) : Int), .bool x.2.2.2.1, S x.2.2.2.2]
theorem GRd_len (x : RD) : (GRd x).length = 5 := rfl
theorem GRd_one (x : RD) : ∀ u ∈ GRd x, u.oneCell' = true := by
  intro u hu
  simp only [GRd, List.mem_cons, List.not_mem_nil, or_false] at hu
  rcases hu with rfl | rfl | rfl | rfl | rfl <;> rfl
theorem run_partAgg {P : Program} {w : World} {t : TypeId} {D : TypeDesc} {z : Value} {k by' : Nat} {cs : Array Value} {o : Nat} (U : P.underlying t = some D) (hD : isAggD D = true) (I : Info P t z k by') : (part t cs o).run P w = .ok (.agg (cs.extract o (o + k))) w := by
  unfold part
  have := run_isAgg' (P := P) (w := w) (t := t) (d := D) ⟨U⟩
  simp only [Sem.run_bind, this, Result.andThen_ok, hD, if_true, run_sizeOf' I, Sem.run_pure]
theorem rd_stood : Tryd.prog.stoodInHeld 53 = false := by kernel_rfl
theorem key_stood : Tryd.prog.stoodInHeld 50 = false := by kernel_rfl
theorem rd_guard : Tryd.prog.eqGuardType Tryd.prog.depth 53 = false := by kernel_rfl
theorem key_eq (x y : RD) (w : World) : (Op.equalIn 9999 50 (.agg #[.int .i64 x.1, S x.2.1]) (.agg #[.int .i64 y.1, S y.2.1])).run Tryd.prog w = .ok ([decide (x.1 = y.1), decide (x.2.1 = y.2.1)].all id) w :=
  run_structEq (n := 9998) Tryd.underlying50 key_stood
    ⟨⟨by decide, _, _, run_part1 Tryd.underlying3 rfl rfl, run_part1 Tryd.underlying3 rfl rfl, equalIn_int 9997 inferInstance _ _ _⟩,
     ⟨by decide, _, _, run_part1 Tryd.underlying9 rfl rfl, run_part1 Tryd.underlying9 rfl rfl, equalIn_str 9997 inferInstance _ _ _⟩, trivial⟩
theorem rd_eqOk (x y : RD) (w : World) : EqOk Tryd.prog w 9999 (GRd x).toArray (GRd y).toArray
    [⟨"Key", 50, 0, true, "", "", 0⟩, ⟨"Seq", 51, 2, false, "", "", 24⟩, ⟨"Gone", 4, 3, false, "", "", 32⟩, ⟨"Body", 9, 4, false, "", "", 40⟩]
    [[decide (x.1 = y.1), decide (x.2.1 = y.2.1)].all id, decide (((x.2.2.1 : Nat) : Int) = ((y.2.2.1 : Nat) : Int)), x.2.2.2.1 == y.2.2.2.1, decide (x.2.2.2.2 = y.2.2.2.2)] :=
  ⟨⟨by decide, _, _, run_partAgg Tryd.underlying50 rfl inferInstance, run_partAgg Tryd.underlying50 rfl inferInstance, key_eq x y w⟩,
   ⟨by decide, _, _, run_part1 Tryd.underlying51 rfl rfl, run_part1 Tryd.underlying51 rfl rfl, equalIn_int 9998 inferInstance _ _ _⟩,
   ⟨by decide, _, _, run_part1 Tryd.underlying4 rfl rfl, run_part1 Tryd.underlying4 rfl rfl, equalIn_bool 9998 Tryd.underlying4 _ _⟩,
   ⟨by decide, _, _, run_part1 Tryd.underlying9 rfl rfl, run_part1 Tryd.underlying9 rfl rfl, equalIn_str 9998 inferInstance _ _ _⟩, trivial⟩
def pickP (s : PS) (L : List RD) : List RD := L.filter fun r => hasP s r.2.1
theorem pickP_snoc (s : PS) {L : List RD} {i : Nat} {x : RD} (h : L[i]? = some x) : pickP s (L.take (i + 1)) = pickP s (L.take i) ++ if hasP s x.2.1 = true then [x] else [] := by
  unfold pickP
  rw [List.take_add_one, h, List.filter_append]
  cases hT : hasP s x.2.1 <;> simp [hT]
theorem pickP_le (s : PS) (L : List RD) (i : Nat) : (pickP s (L.take i)).length ≤ i := by
  have h := List.length_filter_le (fun r => hasP s r.2.1) (L.take i)
  rw [List.length_take] at h
  exact Nat.le_trans h (Nat.min_le_left _ _)
set_option maxRecDepth 100000 in
set_option maxHeartbeats 2000000 in
theorem pick_ca (s : PS) (L : List RD) (sv lv : Value) (w : World) (hs : SetR w s sv) (hl : SlR w 5 lv L.length (L.flatMap GRd)) (hsn : s.2.length ≤ 8796093022000) (hln : L.length ≤ 1000000000) (hok : ∀ x ∈ L, x.2.1.length ≤ 9223372036854775807) :
    Ca Tryd.prog 31 #[sv, lv] w fun v w' => SlR w' 5 v (pickP s L).length ((pickP s L).flatMap GRd) ∧ Keeps NoB w w' := by
  obtain ⟨av, rfl, has⟩ := hs
  obtain ⟨aA, al⟩ := s
  dsimp only at has hsn ⊢
  obtain ⟨an, cn, rfl, _, _⟩ := slr_strs has
  obtain ⟨a, c, rfl, hc, hat⟩ := hl.shape
  refine ca_of_body (args := [SetV aA (.slice an al.length cn), .slice a L.length c]) Tryd.func31 rfl (by kernel_rfl) ?_
  apply wc_seq
  apply wc_region
  refine wr_box (v := SetV aA (.slice an al.length cn)) rfl rfl ?_
  obtain ⟨w1, hw1⟩ : ∃ w1, w1 = w.alloc (.cells (SetV aA (.slice an al.length cn)).cells 27) := ⟨_, rfl⟩
  obtain ⟨b1, hb1⟩ : ∃ b1, b1 = w.heap.size := ⟨_, rfl⟩
  have hk1 : Keeps NoB w w1 := by rw [hw1]; exact (Keeps.refl NoB w).alloc _
  have hc1 : w1.heap[b1]? = some (.cells #[.bool aA, .slice an al.length cn] 27 (0, 0)) := by rw [hw1, hb1]; exact heap_alloc_same _ _
  rw [← hw1, ← hb1]
  clear hw1
  have hl1 := lt_of_heap hc1
  (repeat first | (apply wr_move; exact rfl; with_reducible (conv => enter [6, 3]; whnf)) | (apply wr_assign; exact rfl; with_reducible (conv => enter [6, 3]; whnf)) | apply wr_end | apply wc_seq | apply wc_region | apply wc_block | (apply wr_len_slice; iterate 2 exact rfl))
  refine wc_loopL (α := Nat × Value) (fun p => [(2, .pointer (some ⟨b1, 0, none⟩)), (5, p.2), (8, .slice a L.length c), (9, .int .i64 (L.length : Int)), (10, .int .i64 (p.1 : Int))])
    (fun p ds w' => ds = [] ∧ p.1 ≤ L.length ∧ w'.ownsRow w1.heap.size 53 5 p.2 (pickP (aA, al) (L.take p.1)).length ((pickP (aA, al) (L.take p.1)).flatMap GRd) ∧ Keeps NoB w1 w') (fun p => L.length - p.1) (0, .slice none 0 0)
    ⟨rfl, Nat.zero_le _, own_nil _ _ _ _, Keeps.refl _ _⟩ ⟨rfl, rfl, rfl, rfl, rfl, trivial⟩ ?_
  rintro ⟨i, v⟩ ds f0 w2 ⟨rfl, hi, ho, hk⟩
  dsimp only at hi ho ⊢
  have hkw := hk1.trans hk
  have hpl := pickP_le (aA, al) L i
  have hs2 := hk.size
  by_cases hlt : i < L.length
  rotate_left
  · have he : i = L.length := by omega
    rw [he, List.take_length] at ho
    (repeat first | (apply wr_move; exact rfl; with_reducible (conv => enter [6, 3]; whnf)) | (apply wr_assign; exact rfl; with_reducible (conv => enter [6, 3]; whnf)) | apply wr_end | apply wc_seq | apply wc_region | (apply wr_cmp; (iterate 3 exact rfl); exact cmpF (by dsimp only [cmpN]; first | done | omega)) | (apply wc_false; exact rfl) | (apply wc_exit; try simp only [thenE, inBlockE, bodyQ, ↓reduceIte, Nat.reduceEqDiff]) | (apply wc_ret; try simp only [thenE, inBlockE, bodyQ]))
    exact leave1 (v := v) rfl rfl ⟨SlR.of_own ho, hkw⟩
  obtain ⟨b, o, rfl, cur, e, fr, hb, hr⟩ := hat (by omega)
  obtain ⟨x, hx⟩ : ∃ x, L[i]? = some x := ⟨L[i], by simp [hlt]⟩
  have hxo := hok x (List.mem_of_getElem? hx)
  have hb2 := hkw.heap hb (fun h => h)
  have hsn2 := pickP_snoc (aA, al) hx
  (repeat first | apply wr_end | apply wc_seq | apply wc_region | apply wc_skip | apply wc_block | (apply wr_cmp; (iterate 3 exact rfl); exact cmpT (by dsimp only [cmpP]; first | done | omega)) | (apply wc_true; exact rfl))
  refine wr_indexAddr (i := i) rfl rfl rfl hlt ?_
  refine wr_loadElem (G := GRd) (n := L.length) (l := L) rfl rfl GRd_len rfl hb2 hr hlt hx rfl ?_
  (repeat first | (apply wr_alloc; exact rfl))
  refine wr_storeAll (cs := GRd x) rfl rfl rfl (GRd_one x) (heap_alloc_same _ _) rfl rfl ?_
  refine wr_name ?_
  intro w3 hw3
  obtain ⟨b3, hb3⟩ : ∃ b, b = w2.heap.size := ⟨_, rfl⟩
  have hk3 : Keeps NoB w2 w3 := by rw [hw3]; exact ((Keeps.refl NoB w2).alloc _).put _ (fun h => by omega)
  have hc3 : w3.heap[b3]? = some (.cells (GRd x).toArray 53 (0, 0)) := by rw [hw3, hb3]; exact World.putObj_heap_same (by simp)
  rw [← hb3]
  clear hw3
  have hc13 := (hk.trans hk3).heap hc1 (fun h => h)
  (repeat first | apply wr_end | apply wc_seq | apply wc_region)
  refine wr_loadAll (cs := [.bool aA, .slice an al.length cn]) rfl rfl rfl hc13 rfl ?_
  (repeat first | (apply wr_fieldAddr; iterate 2 exact rfl) | (apply wr_load; (iterate 3 exact rfl); (focus repeat first | with_reducible assumption | exact heap_alloc_same _ _ | exact World.putObj_heap_same (by first | omega | (simp only [World.size_alloc, World.putObj_size, ne_eq]; omega)) | ((first | refine hAl ?_ ?_ | refine hPu ?_ ?_); focus first | omega | (simp only [World.size_alloc, World.putObj_size, ne_eq]; omega))); exact rfl; conv => enter [6, 3]; whnf))
  refine wr_call (vs := [SetV aA (.slice an al.length cn), S x.2.1]) rfl (has_cb (s := (aA, al)) _ rfl hxo ⟨_, rfl, has.keep (hkw.trans hk3) (fun _ _ h => h)⟩ hsn) rfl ?_
  rintro vb w4 ⟨rfl, hk4⟩
  have hk24 := hk3.trans hk4
  have ho4 := own_keep ho hk24 (fun _ _ h => h)
  have hs4 := hk24.size
  cases hh : hasP (aA, al) x.2.1 with
  | false =>
    rw [hh, if_neg (by decide), List.append_nil] at hsn2
    (repeat first | (apply wr_move; exact rfl; with_reducible (conv => enter [6, 3]; whnf)) | apply wr_end | apply wc_region | apply wc_skip | (apply wr_add; (iterate 3 exact rfl); exact w_fit (by dsimp only [kIn]; first | done | omega)) | (apply wc_false; exact rfl))
    exact ⟨(i + 1, v), by dsimp only; omega, ⟨by trivial, hlt, by dsimp only; rw [hsn2]; exact ho4, hk.trans hk24⟩, rfl, rfl, rfl, rfl, by simp, trivial⟩
  | true =>
    rw [hh, if_pos rfl] at hsn2
    have hsn := hsn2
    have hc4 := hk4.heap hc3 (fun h => h)
    (repeat first | (apply wr_move; exact rfl; with_reducible (conv => enter [6, 3]; whnf)) | apply wr_end | apply wc_region | (apply wc_true; exact rfl))
    refine wr_loadAll (cs := GRd x) rfl rfl rfl hc4 rfl ?_
    refine wr_buildSlice (vs := [.agg (GRd x).toArray]) rfl rfl (by intro v hv; simp at hv; subst hv; rfl) rfl (by decide) (by decide) (by decide) ?_
    refine wr_name ?_
    intro w6 hw6
    have hk6 : Keeps NoB w4 w6 := by rw [hw6]; exact (Keeps.refl NoB w4).alloc _
    have hc6 : w6.heap[w4.heap.size]? = some (.cells (GRd x).toArray 53 (0, 0)) := by
      rw [hw6]
      exact (heap_alloc_same _ _).trans (by simp [Value.cells])
    clear hw6
    have ho6 := own_keep ho4 hk6 (fun _ _ h => h)
    have hs6 := hk6.size
    refine wr_append (v := v) (base := w1.heap.size) (n := (pickP (aA, al) (L.take i)).length) (m := 1) (xs := (pickP (aA, al) (L.take i)).flatMap GRd) (news := GRd x) rfl rfl ho6 rfl hc6 rfl (GRd_one x) rfl (by decide) (by omega) (by omega) (by omega) ?_
    intro v7 w7 ho7 hk7 _
    (repeat first | (apply wr_move; exact rfl; with_reducible (conv => enter [6, 3]; whnf)) | (apply wr_assign; exact rfl; with_reducible (conv => enter [6, 3]; whnf)) | apply wr_end | apply wc_region | (apply wr_add; (iterate 3 exact rfl); exact w_fit (by dsimp only [kIn]; first | done | omega)) | (apply wr_nil; try simp only [thenE, inBlockE, bodyQ]))
    refine ⟨(i + 1, v7), by dsimp only; omega, ⟨by trivial, hlt, ?_, ?_⟩, rfl, rfl, rfl, rfl,by simp, trivial⟩
    focus
      dsimp only
      rw [hsn, List.length_append, List.flatMap_append]
      simpa using ho7
    exact Keeps.trans' ((hk.trans hk24).trans hk6) hk7 (fun j hj e => by have := own_ge ho6 e; omega)
set_option maxRecDepth 100000 in
set_option maxHeartbeats 2000000 in
theorem refPick_ca (s : PS) (L : List RD) (sv lv : Value) (w : World) (hs : SetR w s sv) (hl : SlR w 5 lv L.length (L.flatMap GRd)) (hsn : s.2.length ≤ 8796093022000) (hln : L.length ≤ 1000000000) (hok : ∀ x ∈ L, x.2.1.length ≤ 9223372036854775807) :
    Ca Tryd.prog 32 #[sv, lv] w fun v w' => SlR w' 5 v (pickP s L).length ((pickP s L).flatMap GRd) ∧ Keeps NoB w w' := by
  obtain ⟨av, rfl, has⟩ := hs
  obtain ⟨aA, al⟩ := s
  dsimp only at has hsn ⊢
  obtain ⟨an, cn, rfl, _, _⟩ := slr_strs has
  obtain ⟨a, c, rfl, hc, hat⟩ := hl.shape
  refine ca_of_body (args := [SetV aA (.slice an al.length cn), .slice a L.length c]) Tryd.func32 rfl (by kernel_rfl) ?_
  apply wc_seq
  apply wc_region
  refine wr_box (v := SetV aA (.slice an al.length cn)) rfl rfl ?_
  obtain ⟨w1, hw1⟩ : ∃ w1, w1 = w.alloc (.cells (SetV aA (.slice an al.length cn)).cells 29) := ⟨_, rfl⟩
  obtain ⟨b1, hb1⟩ : ∃ b1, b1 = w.heap.size := ⟨_, rfl⟩
  have hk1 : Keeps NoB w w1 := by rw [hw1]; exact (Keeps.refl NoB w).alloc _
  have hc1 : w1.heap[b1]? = some (.cells #[.bool aA, .slice an al.length cn] 29 (0, 0)) := by rw [hw1, hb1]; exact heap_alloc_same _ _
  rw [← hw1, ← hb1]
  clear hw1
  have hl1 := lt_of_heap hc1
  (repeat first | (apply wr_assign; exact rfl; with_reducible (conv => enter [6, 3]; whnf)) | apply wr_end | apply wc_seq | apply wc_region | apply wc_block)
  refine wc_loopL (α := Nat × Value) (fun p => [(1, .slice a L.length c), (2, .pointer (some ⟨b1, 0, none⟩)), (5, p.2), (6, .int .i64 (p.1 : Int))])
    (fun p ds w' => ds = [] ∧ p.1 ≤ L.length ∧ w'.ownsRow w1.heap.size 53 5 p.2 (pickP (aA, al) (L.take p.1)).length ((pickP (aA, al) (L.take p.1)).flatMap GRd) ∧ Keeps NoB w1 w') (fun p => L.length - p.1) (0, .slice none 0 0)
    ⟨rfl, Nat.zero_le _, own_nil _ _ _ _, Keeps.refl _ _⟩ ⟨rfl, rfl, rfl, rfl, trivial⟩ ?_
  rintro ⟨i, v⟩ ds f0 w2 ⟨rfl, hi, ho, hk⟩
  dsimp only at hi ho ⊢
  have hkw := hk1.trans hk
  have hpl := pickP_le (aA, al) L i
  have hs2 := hk.size
  by_cases hlt : i < L.length
  rotate_left
  · have he : i = L.length := by omega
    rw [he, List.take_length] at ho
    (repeat first | (apply wr_move; exact rfl; with_reducible (conv => enter [6, 3]; whnf)) | (apply wr_assign; exact rfl; with_reducible (conv => enter [6, 3]; whnf)) | apply wr_end | apply wc_seq | apply wc_region | (apply wr_len_slice; iterate 2 exact rfl) | (apply wr_cmp; (iterate 3 exact rfl); exact cmpF (by dsimp only [cmpN]; first | done | omega)) | (apply wc_false; exact rfl) | (apply wc_exit; try simp only [thenE, inBlockE, bodyQ, ↓reduceIte, Nat.reduceEqDiff]) | (apply wc_ret; try simp only [thenE, inBlockE, bodyQ]))
    exact leave1 (v := v) rfl rfl ⟨SlR.of_own ho, hkw⟩
  obtain ⟨b, o, rfl, cur, e, fr, hb, hr⟩ := hat (by omega)
  obtain ⟨x, hx⟩ : ∃ x, L[i]? = some x := ⟨L[i], by simp [hlt]⟩
  have hxo := hok x (List.mem_of_getElem? hx)
  have hb2 := hkw.heap hb (fun h => h)
  have hsn2 := pickP_snoc (aA, al) hx
  have hc12 := hk.heap hc1 (fun h => h)
  have hv1 : cur[o + i * 5 + 1]? = some (S x.2.1) := cell_elem (g := GRd) (k := 5) (n := L.length) (i := i) (j := 1) GRd_len hr hlt hx rfl
  (repeat first | (apply wr_move; exact rfl; with_reducible (conv => enter [6, 3]; whnf)) | apply wr_end | apply wc_seq | apply wc_region | apply wc_skip | apply wc_block | (apply wr_len_slice; iterate 2 exact rfl) | (apply wr_cmp; (iterate 3 exact rfl); exact cmpT (by dsimp only [cmpP]; first | done | omega)) | (apply wc_true; exact rfl))
  have hk0 : ∀ {w'}, Keeps NoB w2.drew w' → Keeps NoB w2 w' := fun hk => (Keeps.refl NoB w2).drew.trans hk
  refine wc_drawP (l := _) 8 _ (by kernel_rfl) (by kernel_rfl) rfl (by kernel_rfl) (by kernel_rfl) (by decide) ?_
  apply chP_pure
  focus
    intro xx w' hk hF
    refine wr_loadAll (cs := [.bool aA, .slice an al.length cn]) rfl rfl rfl ((hk0 hk).heap hc12 (fun h => h)) rfl ?_
    apply wr_nil
    exact ⟨rfl, Keeps.refl _ _⟩
  focus (intro xx yy h; rfl)
  focus kernel_rfl
  apply chP_pure
  focus
    intro xx w' hk hF
    apply wr_move; exact rfl; with_reducible (conv => enter [6, 3]; whnf)
    apply wr_nil
    exact ⟨rfl, Keeps.refl _ _⟩
  focus (intro xx yy h; rfl)
  focus kernel_rfl
  apply chP_pure
  focus
    intro xx w' hk hF
    apply wr_move; exact rfl; with_reducible (conv => enter [6, 3]; whnf)
    apply wr_nil
    exact ⟨rfl, Keeps.refl _ _⟩
  focus (intro xx yy h; rfl)
  focus kernel_rfl
  apply chP_pure
  focus
    intro xx w' hk hF
    refine wr_indexAddr (i := i) rfl rfl rfl hlt ?_
    apply wr_nil
    exact ⟨rfl, Keeps.refl _ _⟩
  focus (intro xx yy h; rfl)
  focus kernel_rfl
  apply chP_pure
  focus
    intro xx w' hk hF
    refine wr_fieldAddr rfl rfl ?_
    apply wr_nil
    exact ⟨rfl, Keeps.refl _ _⟩
  focus (intro xx yy h; rfl)
  focus kernel_rfl
  apply chP_pure
  focus
    intro xx w' hk hF
    refine wr_fieldAddr rfl rfl ?_
    apply wr_nil
    exact ⟨rfl, Keeps.refl _ _⟩
  focus (intro xx yy h; rfl)
  focus kernel_rfl
  apply chP_pure
  focus
    intro xx w' hk hF
    refine wr_load (o := o + i * 5 + 0 + 1) (v := S x.2.1) rfl rfl rfl ((hk0 hk).heap hb2 (fun h => h)) hv1 ?_
    apply wr_nil
    exact ⟨rfl, Keeps.refl _ _⟩
  focus (intro xx yy h; rfl)
  focus kernel_rfl
  apply chP_pure
  focus
    intro xx w' hk hF
    refine wr_call (vs := [SetV aA (.slice an al.length cn), S x.2.1]) rfl (refHas_ca (s := (aA, al)) _ rfl hxo ⟨_, rfl, has.keep (hkw.trans (hk0 hk)) (fun _ _ h => h)⟩ hsn) rfl ?_
    rintro v w'' ⟨rfl, hkc⟩
    apply wr_nil
    exact ⟨rfl, hkc⟩
  focus (intro xx yy h; rfl)
  focus kernel_rfl
  refine chP_nil ?_
  intro xx w4 hk4' hF
  clear hF
  have hk4 := hk0 hk4'
  have ho4 := own_keep ho hk4 (fun _ _ h => h)
  have hs4 := hk4.size
  cases hh : hasP (aA, al) x.2.1 with
  | false =>
    rw [hh, if_neg (by decide), List.append_nil] at hsn2
    (repeat first | (apply wr_move; exact rfl; with_reducible (conv => enter [6, 3]; whnf)) | (apply wr_assign; exact rfl; with_reducible (conv => enter [6, 3]; whnf)) | apply wr_end | apply wc_seq | apply wc_region | apply wc_skip | (apply wr_add; (iterate 3 exact rfl); exact w_fit (by dsimp only [kIn]; first | done | omega)) | (apply wc_false; exact rfl))
    exact ⟨(i + 1, v), by dsimp only; omega, ⟨by trivial, hlt, by dsimp only; rw [hsn2]; exact ho4, hk.trans hk4⟩, rfl, rfl, rfl, by simp, trivial⟩
  | true =>
    rw [hh, if_pos rfl] at hsn2
    have hsn := hsn2
    have hb4 := hk4.heap hb2 (fun h => h)
    (repeat first | (apply wr_move; exact rfl; with_reducible (conv => enter [6, 3]; whnf)) | (apply wr_assign; exact rfl; with_reducible (conv => enter [6, 3]; whnf)) | apply wr_end | apply wc_seq | apply wc_region | (apply wc_true; exact rfl))
    refine wr_indexAddr (i := i) rfl rfl rfl hlt ?_
    refine wr_loadElem (G := GRd) (n := L.length) (l := L) rfl rfl GRd_len rfl hb4 hr hlt hx rfl ?_
    refine wr_buildSlice (vs := [.agg (GRd x).toArray]) rfl rfl (by intro v hv; simp at hv; subst hv; rfl) rfl (by decide) (by decide) (by decide) ?_
    refine wr_name ?_
    intro w6 hw6
    have hk6 : Keeps NoB w4 w6 := by rw [hw6]; exact (Keeps.refl NoB w4).alloc _
    have hc6 : w6.heap[w4.heap.size]? = some (.cells (GRd x).toArray 53 (0, 0)) := by
      rw [hw6]
      exact (heap_alloc_same _ _).trans (by simp [Value.cells])
    clear hw6
    have ho6 := own_keep ho4 hk6 (fun _ _ h => h)
    have hs6 := hk6.size
    refine wr_append (v := v) (base := w1.heap.size) (n := (pickP (aA, al) (L.take i)).length) (m := 1) (xs := (pickP (aA, al) (L.take i)).flatMap GRd) (news := GRd x) rfl rfl ho6 rfl hc6 rfl (GRd_one x) rfl (by decide) (by omega) (by omega) (by omega) ?_
    intro v7 w7 ho7 hk7 _
    (repeat first | (apply wr_move; exact rfl; with_reducible (conv => enter [6, 3]; whnf)) | (apply wr_assign; exact rfl; with_reducible (conv => enter [6, 3]; whnf)) | apply wr_end | apply wc_region | (apply wr_add; (iterate 3 exact rfl); exact w_fit (by dsimp only [kIn]; first | done | omega)) | (apply wr_nil; try simp only [thenE, inBlockE, bodyQ]))
    refine ⟨(i + 1, v7), by dsimp only; omega, ⟨by trivial, hlt, ?_, ?_⟩, rfl, rfl, rfl, by simp, trivial⟩
    focus
      dsimp only
      rw [hsn, List.length_append, List.flatMap_append]
      simpa using ho7
    exact Keeps.trans' ((hk.trans hk4).trans hk6) hk7 (fun j hj e => by have := own_ge ho6 e; omega)
end Go.Proofs.YtfdpnkmchedeeaaDoor
