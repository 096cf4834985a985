/- Deed.want. -/
import Derived.Test.YtajajahofkialaaGreatDoorIi
namespace Go.Proofs.YtajajahofkialaaGreatDoor
open Go Go.V Go.RowKit
set_option linter.unusedVariables false
set_option linter.unusedSimpArgs false

/- The head: $1 after New. -/
/- A set of a few: $1 slice, $2 bytes, $3 world, $4 stem, $5 SlR, $6 bytes small, $7 how many. -/
def mnT (d : DL) (i : Nat) : TT := [109] ++ [UInt8.ofNat (97 + i / 9), UInt8.ofNat (97 + i % 9)] ++ [UInt8.ofNat (97 + d.name % 9)]
def mnL (d : DL) (n : Nat) : TX := (List.range n).map (mnT d)
def wantL (d : DL) : TX := namesF d.ll 20 ++ mnL d (if 230 < d.many then d.many - 180 else 0)
def wantD (d : DL) : PS := ofP (wantL d)
theorem mnL_succ (d : DL) (n : Nat) : mnL d (n + 1) = mnL d n ++ [mnT d n] := by
  unfold mnL
  rw [List.range_succ, List.map_append]
  rfl
theorem mnL_len (d : DL) (n : Nat) : (mnL d n).length = n := by simp [mnL]
theorem wantL_ok (d : DL) : ∀ x ∈ wantL d, x.length ≤ 9223372036854775807 := by
  intro x hx
  rcases List.mem_append.1 hx with h | h
  · exact namesF_ok d.ll 20 x h
  · unfold mnL at h
    obtain ⟨i, _, rfl⟩ := List.mem_map.1 h
    unfold mnT
    simp
theorem wantL_len {d : DL} (h : d.many < 256) : (wantL d).length ≤ 95 := by
  unfold wantL
  have := namesF_le d.ll 20
  rw [List.length_append, mnL_len]
  split <;> omega
theorem wantD_len {d : DL} (h : d.many < 256) : (wantD d).2.length ≤ 95 := Nat.le_trans (ofP_le _) (wantL_len h)
theorem by97 {n : Nat} (h : n < 100) : ((UInt8.ofNat (97 + n)).toNat : Int) = 97 + (n : Int) := by
  rw [UInt8.toNat_ofNat']
  omega
set_option maxRecDepth 100000 in
set_option maxHeartbeats 8000000 in
theorem wantD_ca (d : DL) {w : World} (hd : dlOk w d) : Ca Tryz.prog 14 #[.agg (GDl d).toArray] w fun v w' => SetR w' (wantD d) v ∧ Keeps NoB w w' := by
  refine ca_of_body (args := [.agg (GDl d).toArray]) Tryz.func14 rfl (by kernel_rfl) ?_
  have hdm := hd.many
  have hdn := hd.name
  obtain ⟨ra, rc, hre, _, _⟩ := hd.row.shape
  apply wc_seq
  apply wc_region
  refine wr_box (v := .agg (GDl d).toArray) rfl rfl ?_
  refine wr_name ?_
  intro w1 hww1
  obtain ⟨bw1, hbw1⟩ : ∃ b, b = (w).heap.size := ⟨_, rfl⟩
  have hkw1 : Keeps NoB w w1 := by rw [hww1]; exact (Keeps.refl NoB w).alloc _
  have hcw1 : (w1).heap[bw1]? = some (.cells ((GDl d)).toArray 36 (0, 0)) := by rw [hww1, hbw1]; exact heap_alloc_same _ _
  rw [← hbw1]
  clear hww1
  apply wr_alloc
  focus exact rfl
  refine wr_name ?_
  intro w2 hww2
  obtain ⟨bw2, hbw2⟩ : ∃ b, b = (w1).heap.size := ⟨_, rfl⟩
  have hkw2 : Keeps NoB w1 w2 := by rw [hww2]; exact (Keeps.refl NoB w1).alloc _
  have hcw2 : (w2).heap[bw2]? = some (.cells ([.bool false, nilV]).toArray 41 (0, 0)) := by rw [hww2, hbw2]; exact heap_alloc_same _ _
  rw [← hbw2]
  clear hww2
  have hc12 := hkw2.heap hcw1 (fun h => h)
  have hk2 := hkw1.trans hkw2
  have hz1 := hkw1.size
  have hl2 := lt_of_heap hcw2
  (repeat first | apply wr_end | apply wc_seq | apply wc_region | (apply wr_fieldAddr; iterate 2 exact rfl) | (apply wr_load; (iterate 3 exact rfl); (focus repeat first | with_reducible assumption | exact heap_alloc_same _ _ | exact World.putObj_heap_same (by first | omega | (simp only [World.size_alloc, World.putObj_size, ne_eq]; omega)) | ((first | refine hAl ?_ ?_ | refine hPu ?_ ?_); focus first | omega | (simp only [World.size_alloc, World.putObj_size, ne_eq]; omega))); exact rfl; conv => enter [6, 3]; whnf))
  refine wr_call (vs := [d.lv, .int .i64 ((20 : Nat) : Int)]) rfl (few_ca d.ll d.lv 20 (by decide) w2 (hd.row.keep hk2 (fun _ _ h => h)) hd.ll) rfl ?_
  rintro fv w3 ⟨hfw, hk3⟩
  have hle := namesF_le d.ll 20
  have hc13 := hk3.heap hc12 (fun h => h)
  have hz23 := hk3.size
  obtain ⟨n, hn⟩ : ∃ n, n = if 230 < d.many then d.many - 180 else 0 := ⟨_, rfl⟩
  have hwl : wantL d = namesF d.ll 20 ++ mnL d n := by unfold wantL; rw [← hn]
  by_cases hbig : 230 < d.many
  rotate_left
  · rw [if_neg hbig] at hn
    subst hn
    have hw0 : wantL d = namesF d.ll 20 := by rw [hwl]; unfold mnL; simp
    (repeat first | (apply wr_move; exact rfl; with_reducible (conv => enter [6, 3]; whnf)) | (apply wr_assign; exact rfl; with_reducible (conv => enter [6, 3]; whnf)) | apply wr_end | apply wc_seq | apply wc_region | apply wc_skip | (apply wr_fieldAddr; iterate 2 exact rfl) | (apply wr_load; (iterate 3 exact rfl); (focus repeat first | with_reducible assumption | exact heap_alloc_same _ _ | exact World.putObj_heap_same (by first | omega | (simp only [World.size_alloc, World.putObj_size, ne_eq]; omega)) | ((first | refine hAl ?_ ?_ | refine hPu ?_ ?_); focus first | omega | (simp only [World.size_alloc, World.putObj_size, ne_eq]; omega))); exact rfl; conv => enter [6, 3]; whnf) | (apply wr_cmp; (iterate 3 exact rfl); exact cmpF (by dsimp only [cmpN]; first | done | omega)) | (apply wc_false; exact rfl))
    refine wr_call (vs := [fv]) rfl (ofO_ca (namesF d.ll 20) fv w3 (SlR.of_own hfw) (by omega) (namesF_ok d.ll 20)) rfl ?_
    rintro sv w4 ⟨hsv, hk4⟩
    obtain ⟨sn, rfl, hso⟩ := hsv
    rw [show ofP (namesF d.ll 20) = wantD d by unfold wantD; rw [hw0]] at hso ⊢
    have hR : SetR w4 (wantD d) (SetV (wantD d).1 sn) := ⟨sn, rfl, SlR.of_own hso⟩
    have hc4 := (hk3.trans hk4).heap hcw2 (fun h => h)
    refine wr_storeAll (cs := [.bool (wantD d).1, sn]) rfl rfl rfl (by intro u hu; simp at hu; rcases hu with rfl | rfl; rfl; exact hR.one.1) hc4 rfl rfl ?_
    have hkp : Keeps (· = bw2) w4 (w4.putObj bw2 (.cells [.bool (wantD d).1, sn].toArray 41 (0, 0))) := (Keeps.refl _ w4).put _ (fun _ => rfl)
    (repeat first | apply wr_end | (apply wc_ret; try simp only [thenE, inBlockE, bodyQ]))
    exact leaveN (vs := [SetV (wantD d).1 sn]) (resv_cells (cs := [.bool (wantD d).1, sn]) (e := 41) (fr := (0, 0)) rfl rfl (World.putObj_heap_same (lt_of_heap hc4)) rfl resv_nil) ⟨hR.put hkp hc4 zne2, ((hk2.trans hk3).trans hk4).trans' hkp (fun i hi e => by omega)⟩
  rw [if_pos hbig] at hn
  (repeat first | (apply wr_assign; exact rfl; with_reducible (conv => enter [6, 3]; whnf)) | apply wr_end | apply wc_seq | apply wc_region | apply wc_block | (apply wr_fieldAddr; iterate 2 exact rfl) | (apply wr_load; (iterate 3 exact rfl); (focus repeat first | with_reducible assumption | exact heap_alloc_same _ _ | exact World.putObj_heap_same (by first | omega | (simp only [World.size_alloc, World.putObj_size, ne_eq]; omega)) | ((first | refine hAl ?_ ?_ | refine hPu ?_ ?_); focus first | omega | (simp only [World.size_alloc, World.putObj_size, ne_eq]; omega))); exact rfl; conv => enter [6, 3]; whnf) | (apply wr_cmp; (iterate 3 exact rfl); exact cmpT (by dsimp only [cmpP]; first | done | omega)) | (apply wc_true; exact rfl))
  refine wc_loopL (α := Nat × Value) (fun p => [(1, .pointer (some ⟨bw1, 0, none⟩)), (2, .pointer (some ⟨bw2, 0, none⟩)), (3, p.2), (4, .int .i64 (p.1 : Int))])
    (fun p ds w' => ds = [] ∧ p.1 ≤ n ∧ w'.ownsRow w2.heap.size 9 1 p.2 ((namesF d.ll 20).length + p.1) (SL (namesF d.ll 20 ++ mnL d p.1)) ∧ Keeps NoB w2 w') (fun p => n - p.1) (0, fv)
    ⟨rfl, Nat.zero_le _, by unfold mnL; simpa using hfw, hk3⟩ ⟨rfl, rfl, rfl, rfl, trivial⟩ ?_
  rintro ⟨i, ov⟩ ds f0 w4 ⟨rfl, hi, ho4, hk24⟩
  dsimp only at hi ho4 ⊢
  have hc14 := hk24.heap hc12 (fun h => h)
  by_cases hlt : i < n
  rotate_left
  · have hie : i = n := by omega
    subst hie
    rw [show (namesF d.ll 20).length + i = (wantL d).length by rw [hwl, List.length_append, mnL_len], ← hwl] at ho4
    have hwl95 := wantL_len hdm
    (repeat first | (apply wr_move; exact rfl; with_reducible (conv => enter [6, 3]; whnf)) | apply wr_end | apply wc_seq | apply wc_region | (apply wr_fieldAddr; iterate 2 exact rfl) | (apply wr_load; (iterate 3 exact rfl); (focus repeat first | with_reducible assumption | exact heap_alloc_same _ _ | exact World.putObj_heap_same (by first | omega | (simp only [World.size_alloc, World.putObj_size, ne_eq]; omega)) | ((first | refine hAl ?_ ?_ | refine hPu ?_ ?_); focus first | omega | (simp only [World.size_alloc, World.putObj_size, ne_eq]; omega))); exact rfl; conv => enter [6, 3]; whnf) | (apply wr_cmp; (iterate 3 exact rfl); exact cmpF (by dsimp only [cmpN]; first | done | omega)) | (apply wr_sub; (iterate 3 exact rfl); exact w_fit (by dsimp only [kIn]; first | done | omega)) | (apply wr_conv; (iterate 2 exact rfl); exact w_fit (by dsimp only [kIn]; first | done | omega)) | (apply wc_false; exact rfl) | (apply wc_exit; try simp only [thenE, inBlockE, bodyQ, ↓reduceIte, Nat.reduceEqDiff]))
    refine wr_call (vs := [ov]) rfl (ofO_ca (wantL d) ov w4 (SlR.of_own ho4) (by omega) (wantL_ok d)) rfl ?_
    rintro sv w5 ⟨hsv, hk5⟩
    obtain ⟨sn, rfl, hso⟩ := hsv
    have hR : SetR w5 (wantD d) (SetV (wantD d).1 sn) := ⟨sn, rfl, SlR.of_own hso⟩
    have hc5 := (hk24.trans hk5).heap hcw2 (fun h => h)
    refine wr_storeAll (cs := [.bool (wantD d).1, sn]) rfl rfl rfl (by intro u hu; simp at hu; rcases hu with rfl | rfl; rfl; exact hR.one.1) hc5 rfl rfl ?_
    have hkp : Keeps (· = bw2) w5 (w5.putObj bw2 (.cells [.bool (wantD d).1, sn].toArray 41 (0, 0))) := (Keeps.refl _ w5).put _ (fun _ => rfl)
    (repeat first | apply wr_end | (apply wc_ret; try simp only [thenE, inBlockE, bodyQ]))
    exact leaveN (vs := [SetV (wantD d).1 sn]) (resv_cells (cs := [.bool (wantD d).1, sn]) (e := 41) (fr := (0, 0)) rfl rfl (World.putObj_heap_same (lt_of_heap hc5)) rfl resv_nil) ⟨hR.put hkp hc5 zne2, ((hk2.trans hk24).trans hk5).trans' hkp (fun i hi e => by omega)⟩
  have hby2 : bytesV [UInt8.ofNat (97 + i / 9), UInt8.ofNat (97 + i % 9)] = [.int .u8 (97 + ((i / 9 : Nat) : Int)), .int .u8 (97 + ((i % 9 : Nat) : Int))] := by
    show [Value.int .u8 ((UInt8.ofNat (97 + i / 9)).toNat : Int), Value.int .u8 ((UInt8.ofNat (97 + i % 9)).toNat : Int)] = _
    rw [by97 (by omega), by97 (by omega)]
  have hby1 : bytesV [UInt8.ofNat (97 + d.name % 9)] = [.int .u8 (97 + ((d.name % 9 : Nat) : Int))] := by
    show [Value.int .u8 ((UInt8.ofNat (97 + d.name % 9)).toNat : Int)] = _
    rw [by97 (by omega)]
  (repeat first | (apply wr_move; exact rfl; with_reducible (conv => enter [6, 3]; whnf)) | apply wr_end | apply wc_seq | apply wc_region | apply wc_skip | apply wc_block | (apply wr_fieldAddr; iterate 2 exact rfl) | (apply wr_load; (iterate 3 exact rfl); (focus repeat first | with_reducible assumption | exact heap_alloc_same _ _ | exact World.putObj_heap_same (by first | omega | (simp only [World.size_alloc, World.putObj_size, ne_eq]; omega)) | ((first | refine hAl ?_ ?_ | refine hPu ?_ ?_); focus first | omega | (simp only [World.size_alloc, World.putObj_size, ne_eq]; omega))); exact rfl; conv => enter [6, 3]; whnf) | (apply wr_cmp; (iterate 3 exact rfl); exact cmpT (by dsimp only [cmpP]; first | done | omega)) | (apply wr_sub; (iterate 3 exact rfl); exact w_fit (by dsimp only [kIn]; first | done | omega)) | (apply wr_conv; (iterate 2 exact rfl); exact w_fit (by dsimp only [kIn]; first | done | omega)) | (apply wc_true; exact rfl))
  refine wr_quoN (n := i) (m := 9) rfl rfl rfl (by decide) (w_i64 (by omega)) ?_
  refine wr_add (c := 97 + ((i / 9 : Nat) : Int)) rfl rfl rfl (w_i64 (by omega)) ?_
  refine wr_conv (c := 97 + ((i / 9 : Nat) : Int)) rfl rfl (w_fit (by dsimp only [kIn]; omega)) ?_
  (repeat first | (apply wr_move; exact rfl; with_reducible (conv => enter [6, 3]; whnf)))
  refine wr_remN (n := i) (m := 9) rfl rfl rfl (by decide) ?_
  refine wr_add (c := 97 + ((i % 9 : Nat) : Int)) rfl rfl rfl (w_i64 (by omega)) ?_
  refine wr_conv (c := 97 + ((i % 9 : Nat) : Int)) rfl rfl (w_fit (by dsimp only [kIn]; omega)) ?_
  refine wr_buildSlice (vs := [.int .u8 (97 + ((i / 9 : Nat) : Int)), .int .u8 (97 + ((i % 9 : Nat) : Int))]) rfl rfl (by intro v hv; simp at hv; rcases hv with rfl | rfl <;> rfl) rfl (by decide) (by decide) (by decide) ?_
  refine wr_bytes2str (n := 2) (l := [UInt8.ofNat (97 + i / 9), UInt8.ofNat (97 + i % 9)]) rfl rfl (slR_blk (cs := bytesV [UInt8.ofNat (97 + i / 9), UInt8.ofNat (97 + i % 9)]) (by rw [hby2]; exact heap_alloc_same _ _) rfl) ?_
  refine wr_name ?_
  intro w5 hw5
  have hk5 : Keeps NoB w4 w5 := by rw [hw5]; exact (Keeps.refl NoB w4).alloc _
  clear hw5
  have hc15 := hk5.heap hc14 (fun h => h)
  refine wr_cat (a := [109]) (b := [UInt8.ofNat (97 + i / 9), UInt8.ofNat (97 + i % 9)]) rfl rfl rfl (by simp only [List.length_cons, List.length_nil]; omega) ?_
  (repeat first | (apply wr_fieldAddr; iterate 2 exact rfl) | (apply wr_load; (iterate 3 exact rfl); (focus repeat first | with_reducible assumption | exact heap_alloc_same _ _ | exact World.putObj_heap_same (by first | omega | (simp only [World.size_alloc, World.putObj_size, ne_eq]; omega)) | ((first | refine hAl ?_ ?_ | refine hPu ?_ ?_); focus first | omega | (simp only [World.size_alloc, World.putObj_size, ne_eq]; omega))); exact rfl; conv => enter [6, 3]; whnf))
  refine wr_remN (n := d.name) (m := 9) rfl rfl rfl (by decide) ?_
  refine wr_add (c := 97 + ((d.name % 9 : Nat) : Int)) rfl rfl rfl (w_fit (by dsimp only [kIn]; omega)) ?_
  refine wr_buildSlice (vs := [.int .u8 (97 + ((d.name % 9 : Nat) : Int))]) rfl rfl (by intro v hv; simp at hv; subst hv; rfl) rfl (by decide) (by decide) (by decide) ?_
  refine wr_bytes2str (n := 1) (l := [UInt8.ofNat (97 + d.name % 9)]) rfl rfl (slR_blk (cs := bytesV [UInt8.ofNat (97 + d.name % 9)]) (by rw [hby1]; exact heap_alloc_same _ _) rfl) ?_
  refine wr_name ?_
  intro w6 hw6
  have hk6 : Keeps NoB w5 w6 := by rw [hw6]; exact (Keeps.refl NoB w5).alloc _
  clear hw6
  refine wr_cat (a := [109] ++ [UInt8.ofNat (97 + i / 9), UInt8.ofNat (97 + i % 9)]) (b := [UInt8.ofNat (97 + d.name % 9)]) rfl rfl rfl (by simp only [List.length_append, List.length_cons, List.length_nil]; omega) ?_
  refine wr_buildSlice (vs := [S (mnT d i)]) rfl rfl (by intro v hv; simp at hv; subst hv; rfl) rfl (by decide) (by decide) (by decide) ?_
  have hk7 : Keeps NoB w6 (w6.alloc (.cells (List.flatMap (fun v : Value => v.cells.toList) [S (mnT d i)]).toArray 9)) := (Keeps.refl _ _).alloc _
  have hk47 := (hk5.trans hk6).trans hk7
  have ho7 := own_keep ho4 hk47 (fun _ _ h => h)
  refine wr_append (base := w2.heap.size) (v := ov) (n := (namesF d.ll 20).length + i) (m := 1) (news := [S (mnT d i)]) rfl rfl ho7 rfl (heap_alloc_same _ _) rfl (by intro u hu; simp at hu; subst hu; rfl) rfl (by decide) (by omega) (by omega) ((hk24.trans hk47).size) ?_
  intro v8 w8 ho8 hk8 _
  have hk28 : Keeps NoB w2 w8 := (hk24.trans hk47).trans' hk8 (fun q hq e => by have := V.F.own_geF ho7 e; omega)
  (repeat first | (apply wr_move; exact rfl; with_reducible (conv => enter [6, 3]; whnf)) | (apply wr_assign; exact rfl; with_reducible (conv => enter [6, 3]; whnf)) | apply wr_end | apply wc_region | (apply wr_add; (iterate 3 exact rfl); exact w_fit (by dsimp only [kIn]; first | done | omega)) | (apply wr_nil; try simp only [thenE, inBlockE, bodyQ]))
  refine ⟨(i + 1, v8), by dsimp only; omega, ⟨by trivial, hlt, ?_, hk28⟩, rfl, rfl, rfl, rfl, trivial⟩
  dsimp only
  rw [mnL_succ, ← List.append_assoc]
  have e : SL (namesF d.ll 20 ++ mnL d i ++ [mnT d i]) = SL (namesF d.ll 20 ++ mnL d i) ++ [S (mnT d i)] := by unfold SL; rw [List.map_append]; rfl
  rw [e]
  exact ho8
end Go.Proofs.YtajajahofkialaaGreatDoor
