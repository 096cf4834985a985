/- MergePlays: the law. -/
import Derived.Test.YtajajahofkialaaGreatDoorIl
namespace Go.Proofs.YtajajahofkialaaGreatDoor
open Go Go.V Go.RowKit
set_option linter.unusedVariables false
set_option linter.unusedSimpArgs false

/- The head: $1 after New. -/
/- A set of a few: $1 slice, $2 bytes, $3 world, $4 stem, $5 SlR, $6 bytes small, $7 how many. -/
def zero33 : List SE := List.replicate 198 (noneP, nilV)
instance iRef : Info Tryz.prog 33 (.agg (zero33.flatMap GSt).toArray) 396 6336 := ⟨by kernel_rfl⟩
structure PlI (w : World) (ab wb : Nat) (cb : List Nat) (xb i : Nat) (Wn : WF) (w' : World) : Prop where
  le : i ≤ 50
  mg : MgAt w' 0 ab wb cb Wn
  rf : RefAt w' xb Wn
  k : Keeps NoB w w'
theorem ref_zero {w : World} {xb : Nat} (h : w.heap[xb]? = some (.cells (zero33.flatMap GSt).toArray 33 (0, 0))) : RefAt w xb noW :=
  ⟨zero33, rfl, h, fun id k hi hk => ⟨nilV, by unfold zero33; rw [List.getElem?_replicate, if_pos (by omega)]⟩, fun x hx => by rw [List.eq_of_mem_replicate hx]; exact slr_none _⟩
set_option maxRecDepth 100000 in
set_option maxHeartbeats 32000000 in
theorem plays_law (dl : List DL) (v0 : Value) {w : World} {p q : Addr} (hg : GloM w p q) (hv : SlR w 7 v0 dl.length (dl.flatMap GDl)) (hd : ∀ x ∈ dl, dlOk w x) :
    Ca Tryz.prog 3 #[v0] w fun v w' => v = .bool true ∧ Keeps NoB w w' := by
  obtain ⟨va, vc, rfl, hvc, hvm⟩ := hv.shape
  refine ca_of_body (args := [.slice va dl.length vc]) Tryz.func3 rfl (by kernel_rfl) ?_
  (repeat first | (apply wr_assign; exact rfl; with_reducible (conv => enter [6, 3]; whnf)) | apply wr_end | apply wc_seq | apply wc_region)
  refine wr_call (vs := []) rfl (examples_ca hg) rfl ?_
  rintro v w0 ⟨rfl, hk0'⟩
  have hz0 := hk0'.size
  (repeat first | (apply wr_move; exact rfl; with_reducible (conv => enter [6, 3]; whnf)) | (apply wr_assign; exact rfl; with_reducible (conv => enter [6, 3]; whnf)) | apply wr_end | apply wc_seq | apply wc_region | apply wc_skip | (apply wr_not; iterate 2 exact rfl) | (apply wc_false; exact rfl))
  refine wr_call (vs := []) rfl (newM_ca w0) rfl ?_
  rintro v w1 ⟨⟨ab, wb, cb, rfl, h1, hab, hwb, hcb⟩, hk1⟩
  have hmD : ∀ i, i < w.heap.size → ¬ mD wb cb i := fun i hi e => by
    rcases e with e | e
    · omega
    · have := hcb i e; omega
  have hK1 := hk0'.trans hk1
  have hz1 := hK1.size
  (repeat first | (apply wr_assign; exact rfl; with_reducible (conv => enter [6, 3]; whnf)) | apply wr_end | apply wc_seq | apply wc_region)
  refine wr_build (ps := []) (cs := zero33.flatMap GSt) rfl rfl rfl rfl ?_
  refine wr_box (v := .agg (zero33.flatMap GSt).toArray) rfl rfl ?_
  refine wr_name ?_
  intro w2 hww2
  obtain ⟨bw2, hbw2⟩ : ∃ b, b = (w1).heap.size := ⟨_, rfl⟩
  have hkw2 : Keeps NoB w1 w2 := by rw [hww2]; exact (Keeps.refl NoB w1).alloc _
  have hcw2 : (w2).heap[bw2]? = some (.cells ((zero33.flatMap GSt)).toArray 33 (0, 0)) := by rw [hww2, hbw2]; exact heap_alloc_same _ _
  rw [← hbw2]
  clear hww2
  have h2 := h1.keepN hkw2
  have hr2 := ref_zero hcw2
  have hK2 := hK1.trans hkw2
  (repeat first | (apply wr_move; exact rfl; with_reducible (conv => enter [6, 3]; whnf)) | (apply wr_assign; exact rfl; with_reducible (conv => enter [6, 3]; whnf)) | apply wr_end | apply wc_seq | apply wc_region)
  refine wr_ptrNil rfl rfl ?_
  (repeat first | (apply wr_assign; exact rfl; with_reducible (conv => enter [6, 3]; whnf)) | apply wr_end | apply wc_seq | apply wc_region | apply wc_skip | apply wc_block | (apply wc_false; exact rfl))
  refine wc_loopL (α := Nat × WF) (fun s => [(0, .slice va dl.length vc), (3, .bool true), (4, .pointer (some ⟨ab, 0, none⟩)), (5, .pointer (some ⟨bw2, 0, none⟩)), (6, .int .i64 (s.1 : Int))])
    (fun s ds w' => ds = [] ∧ PlI w ab wb cb bw2 s.1 s.2 w') (fun s => 50 - s.1) (0, noW)
    ⟨rfl, ⟨by decide, h2, hr2, hK2⟩⟩ ⟨rfl, rfl, rfl, rfl, rfl, trivial⟩ ?_
  rintro ⟨i, W⟩ ds f0 w4 ⟨rfl, ⟨hi, h4, hr4, hK4⟩⟩
  dsimp only at hi h4 hr4 hK4 ⊢
  by_cases hgo : i < dl.length ∧ i < 50
  rotate_left
  · have hex : ¬ i < dl.length ∨ (i < dl.length ∧ ¬ i < 50) := by omega
    rcases hex with hex | ⟨hex1, hex2⟩
    all_goals
      (repeat first | (apply wr_move; exact rfl; with_reducible (conv => enter [6, 3]; whnf)) | (apply wr_assign; exact rfl; with_reducible (conv => enter [6, 3]; whnf)) | apply wr_end | apply wc_seq | apply wc_region | (apply wr_len_slice; iterate 2 exact rfl) | (apply wr_cmp; (iterate 3 exact rfl); exact cmpT (by dsimp only [cmpP]; first | done | omega)) | (apply wr_cmp; (iterate 3 exact rfl); exact cmpF (by dsimp only [cmpN]; first | done | omega)) | (apply wr_pick (t := true); (iterate 2 exact rfl); with_reducible (conv => enter [6, 3]; whnf)) | (apply wr_pick (t := false); (iterate 2 exact rfl); with_reducible (conv => enter [6, 3]; whnf)) | (apply wc_false; exact rfl) | (apply wc_exit; try simp only [thenE, inBlockE, bodyQ, ↓reduceIte, Nat.reduceEqDiff]) | (apply wc_ret; try simp only [thenE, inBlockE, bodyQ]) | (apply wr_skip; exact rfl))
      exact leave1 (v := .bool true) rfl rfl ⟨rfl, hK4⟩
  obtain ⟨hlt, hlt50⟩ := hgo
  obtain ⟨d, hdx⟩ : ∃ x, dl[i]? = some x := ⟨dl[i], by simp [hlt]⟩
  have hdo := hd d (List.mem_of_getElem? hdx)
  obtain ⟨vb, vo, rfl, cur, e, fr, hvb, hvr⟩ := hvm (by omega)
  have hvb4 := hK4.heap hvb (fun h => h)
  (repeat first | (apply wr_move; exact rfl; with_reducible (conv => enter [6, 3]; whnf)) | apply wr_end | apply wc_seq | apply wc_region | apply wc_skip | apply wc_block | (apply wr_len_slice; iterate 2 exact rfl) | (apply wr_cmp; (iterate 3 exact rfl); exact cmpT (by dsimp only [cmpP]; first | done | omega)) | (apply wr_pick (t := true); (iterate 2 exact rfl); with_reducible (conv => enter [6, 3]; whnf)) | (apply wc_true; exact rfl))
  refine wr_indexAddr (i := i) rfl rfl rfl hlt ?_
  refine wr_loadElem (G := GDl) (n := dl.length) (i := i) (l := dl) rfl rfl GDl_len rfl hvb4 hvr hlt hdx rfl ?_
  obtain ⟨lsa, lsc, hlve, _, _⟩ := hdo.row.shape
  (repeat first | (apply wr_alloc; exact rfl))
  refine wr_storeAll (cs := (GDl d)) rfl rfl rfl (by intro u hu; simp only [GDl, List.mem_cons, List.not_mem_nil, or_false] at hu; rcases hu with rfl | rfl | rfl | rfl | rfl | rfl | rfl; rfl; rfl; rfl; rfl; (rw [hlve]; rfl); rfl; rfl) (heap_alloc_same _ _) rfl rfl ?_
  refine wr_name ?_
  intro w5 hww5
  obtain ⟨bw5, hbw5⟩ : ∃ b, b = (w4).heap.size := ⟨_, rfl⟩
  have hkw5 : Keeps NoB w4 w5 := by rw [hww5]; exact ((Keeps.refl NoB w4).alloc _).put _ (fun h => by omega)
  have hcw5 : (w5).heap[bw5]? = some (.cells ((GDl d)).toArray 36 (0, 0)) := by rw [hww5, hbw5]; exact World.putObj_heap_same (by simp)
  rw [← hbw5]
  clear hww5
  have h5 := h4.keepN hkw5
  have hr5 := hr4.keep hkw5
  have hK5 := hK4.trans hkw5
  obtain ⟨L4, _, hL4, _⟩ := hr4.at'
  have hlt25 := lt_of_heap hL4
  have hz5 := hkw5.size
  have hdo5 : dlOk w5 d := { hdo with row := hdo.row.keep hK5 (fun _ _ h => h) }
  apply wr_end
  apply wc_seq
  apply wc_region
  refine wr_fieldAddr rfl rfl ?_
  refine wr_load (v := .int .i64 d.id) rfl rfl rfl hcw5 rfl ?_
  apply wr_assign; exact rfl; with_reducible (conv => enter [6, 3]; whnf)
  apply wr_end
  apply wc_seq
  apply wc_region
  refine wr_fieldAddr rfl rfl ?_
  refine wr_load (v := .int .i64 d.ty) rfl rfl rfl hcw5 rfl ?_
  apply wr_assign; exact rfl; with_reducible (conv => enter [6, 3]; whnf)
  apply wr_end
  apply wc_seq
  refine wc_cut (fun ds' f' w' => ds' = [] ∧ w' = w5 ∧ ∃ id kk : Int, (-9223372036854775808 ≤ id ∧ id < 9223372036854775808) ∧ (-9223372036854775808 ≤ kk ∧ kk < 9223372036854775808) ∧ Slots f' [(0, .slice (some ⟨vb, vo, none⟩) dl.length vc), (3, .bool true), (4, .pointer (some ⟨ab, 0, none⟩)), (5, .pointer (some ⟨bw2, 0, none⟩)), (6, .int .i64 (i : Int)), (7, .pointer (some ⟨bw5, 0, none⟩)), (8, .int .i64 id), (9, .int .i64 kk)]) ?_ ?_
  · apply wc_seq
    apply wc_region
    refine wr_fieldAddr rfl rfl ?_
    cases hnr : d.near
    · refine wr_load (v := .bool false) rfl rfl rfl hcw5 (by simp [GDl, hnr]) ?_
      (repeat first | apply wr_end | apply wc_skip | (apply wc_false; exact rfl))
      exact ⟨by trivial, rfl, d.id, d.ty, hdo.id, hdo.ty, rfl, rfl, rfl, rfl, rfl, rfl, rfl, rfl, trivial⟩
    · refine wr_load (v := .bool true) rfl rfl rfl hcw5 (by simp [GDl, hnr]) ?_
      obtain ⟨u, hu, hub⟩ := wrap_nat d.id
      obtain ⟨u2, hu2, hub2⟩ := wrap_nat d.ty
      (repeat first | (apply wr_move; exact rfl; with_reducible (conv => enter [6, 3]; whnf)) | apply wr_end | apply wc_seq | apply wc_region | (apply wr_conv; (iterate 2 exact rfl); (first | exact w_fit (by dsimp only [kIn]; first | done | omega) | with_reducible assumption | rfl)) | (apply wc_true; exact rfl))
      refine wr_remN (n := u) (m := 6) rfl rfl rfl (by decide) ?_
      have hm6 : u % 6 < 6 := Nat.mod_lt _ (by decide)
      generalize u % 6 = r at hm6
      (repeat first | (apply wr_move; exact rfl; with_reducible (conv => enter [6, 3]; whnf)) | (apply wr_assign; exact rfl; with_reducible (conv => enter [6, 3]; whnf)) | apply wr_end | apply wc_region | (apply wr_add; (iterate 3 exact rfl); exact w_fit (by dsimp only [kIn]; first | done | omega)) | (apply wr_conv; (iterate 2 exact rfl); exact w_fit (by dsimp only [kIn]; first | done | omega)) | (apply wr_conv; (iterate 2 exact rfl); (first | exact w_fit (by dsimp only [kIn]; first | done | omega) | with_reducible assumption | rfl)))
      refine wr_remN (n := u2) (m := 5) rfl rfl rfl (by decide) ?_
      have hm5 : u2 % 5 < 5 := Nat.mod_lt _ (by decide)
      generalize u2 % 5 = r2 at hm5
      (repeat first | (apply wr_assign; exact rfl; with_reducible (conv => enter [6, 3]; whnf)) | apply wr_end | (apply wr_add; (iterate 3 exact rfl); exact w_fit (by dsimp only [kIn]; first | done | omega)) | (apply wr_conv; (iterate 2 exact rfl); exact w_fit (by dsimp only [kIn]; first | done | omega)))
      exact ⟨by trivial, rfl, 1 + (r : Int), 1 + (r2 : Int), by omega, by omega, rfl, rfl, rfl, rfl, rfl, rfl, rfl, rfl, trivial⟩
  rintro ds' f' w5' ⟨rfl, rfl, id, kk, hid, hkk, hs⟩
  rw [← setL_self f' _ hs.all]
  clear hs
  apply wc_seq
  apply wc_region
  apply wr_assign; exact rfl; with_reducible (conv => enter [6, 3]; whnf)
  apply wr_end
  apply wc_seq
  refine wc_cut (fun ds' f' w' => ds' = [] ∧ ∃ W6, MgAt w' 0 ab wb cb W6 ∧ RefAt w' bw2 W6 ∧ w'.heap[bw5]? = some (.cells (GDl d).toArray 36 (0, 0)) ∧ Keeps NoB w w' ∧ Slots f' [(0, .slice (some ⟨vb, vo, none⟩) dl.length vc), (3, .bool true), (4, .pointer (some ⟨ab, 0, none⟩)), (5, .pointer (some ⟨bw2, 0, none⟩)), (6, .int .i64 (i : Int)), (7, .pointer (some ⟨bw5, 0, none⟩)), (8, .int .i64 id), (9, .int .i64 kk), (10, .bool true)]) ?_ ?_
  · have nc5 := mD_nc h5
    apply wc_seq
    apply wc_region
    refine wr_fieldAddr rfl rfl ?_
    refine wr_load (v := .int .u8 (d.kind : Int)) rfl rfl rfl hcw5 rfl ?_
    refine wr_remN (n := d.kind) (m := 5) rfl rfl rfl (by decide) ?_
    obtain ⟨q4, hq4⟩ : ∃ q, q = d.kind % 5 := ⟨_, rfl⟩
    rw [← hq4]
    by_cases hk4 : q4 = 4
    · (repeat first | (apply wr_move; exact rfl; with_reducible (conv => enter [6, 3]; whnf)) | apply wr_end | apply wc_region | (apply wr_cmp; (iterate 3 exact rfl); exact cmpT (by dsimp only [cmpP]; first | done | omega)) | (apply wc_true; exact rfl))
      refine wr_call (vs := [.pointer (some ⟨ab, 0, none⟩), .int .i64 id]) rfl (dropM_ca h5 id) rfl ?_
      rintro v w6 ⟨⟨e, rfl, he⟩, h6, hk6⟩
      have hr6 := hr5.keepM hk6 nc5
      have hc6 := heap_keepM hcw5 hk6 nc5
      (repeat first | (apply wr_move; exact rfl; with_reducible (conv => enter [6, 3]; whnf)))
      refine wr_call (vs := [.pointer (some ⟨bw2, 0, none⟩), .int .i64 id]) rfl (refDrop_ca hr6 h5.dom id) rfl ?_
      rintro v w7 ⟨⟨e', rfl, he'⟩, hr7, hk7⟩
      obtain ⟨L, _, hL, _⟩ := hr6.at'
      have h7 := h6.keepC hk7 hL (by decide) (by decide)
      have hc7 := hk7.heap hc6 (fun e => by omega)
      have hz6 := hk6.size
      have hK7 := (hK5.trans' hk6 (fun i hi e => hmD i hi e)).trans' hk7 (fun i hi e => by omega)
      rcases he with ⟨rfl, kx, hx⟩ | ⟨rfl, hx⟩ <;> rcases he' with ⟨rfl, ky, hy⟩ | ⟨rfl, hy⟩
      · (repeat first | (apply wr_assign; exact rfl; with_reducible (conv => enter [6, 3]; whnf)) | apply wr_end | (apply wr_cmp; (iterate 3 exact rfl); exact cmpT (by dsimp only [cmpP]; first | done | omega)))
        exact ⟨by trivial, dropW W id, h7, hr7, hc7, hK7, rfl, rfl, rfl, rfl, rfl, rfl, rfl, rfl, rfl, trivial⟩
      · exact absurd (hy kx) hx
      · exact absurd (hx ky) hy
      · (repeat first | (apply wr_assign; exact rfl; with_reducible (conv => enter [6, 3]; whnf)) | apply wr_end | (apply wr_cmp; (iterate 3 exact rfl); exact cmpT (by dsimp only [cmpP]; first | done | omega)))
        exact ⟨by trivial, dropW W id, h7, hr7, hc7, hK7, rfl, rfl, rfl, rfl, rfl, rfl, rfl, rfl, rfl, trivial⟩
    · (repeat first | (apply wr_move; exact rfl; with_reducible (conv => enter [6, 3]; whnf)) | apply wr_end | apply wc_seq | apply wc_region | (apply wr_cmp; (iterate 3 exact rfl); exact cmpF (by dsimp only [cmpN]; first | done | omega)) | (apply wc_false; exact rfl))
      refine wr_loadAll (cs := GDl d) rfl rfl rfl hcw5 rfl ?_
      refine wr_call (vs := [.agg (GDl d).toArray]) rfl (wantD_ca d hdo5) rfl ?_
      rintro sv w6 ⟨hs6, hk6⟩
      have hwl := wantD_len hdo.many
      have hwf : Fine (wantD d) := ofP_fine _
      have nc6 := mD_nc (h5.keepN hk6)
      refine wr_call (vs := [.pointer (some ⟨ab, 0, none⟩), .int .i64 id, .int .i64 kk, sv]) rfl (setF_ca (h5.keepN hk6) (hg.keep (hK5.trans hk6)) (id, kk) hs6 hwf (by omega)) rfl ?_
      rintro v w7 ⟨⟨⟨mn, ln, rfl, hm7, hl7⟩, h7⟩, hk7⟩
      obtain ⟨F, hF⟩ : ∃ F, F = setF W (id, kk) (wantD d) := ⟨_, rfl⟩
      rw [← hF] at hm7 hl7 h7 ⊢
      have hFm : F.1.2.length ≤ 3400000 ∧ F.2.1.2.length ≤ 3400000 := by
        rw [hF]; exact setF_len h5.small (by omega)
      have hz6 := hk6.size
      have hz7 := hk7.size
      have hK7 := (hK5.trans hk6).trans' hk7 (fun i hi e => hmD i hi e)
      apply wr_move; exact rfl; with_reducible (conv => enter [6, 3]; whnf)
      apply wr_extract; (iterate 3 exact rfl); with_reducible (conv => enter [6, 3]; whnf)
      apply wr_extract; (iterate 3 exact rfl); with_reducible (conv => enter [6, 3]; whnf)
      apply wr_extract; (iterate 3 exact rfl); with_reducible (conv => enter [6, 3]; whnf)
      apply wr_alloc
      focus exact rfl
      refine wr_name ?_
      intro wxa hwwxa
      obtain ⟨bwxa, hbwxa⟩ : ∃ b, b = (w7).heap.size := ⟨_, rfl⟩
      have hkwxa : Keeps NoB w7 wxa := by rw [hwwxa]; exact (Keeps.refl NoB w7).alloc _
      have hcwxa : (wxa).heap[bwxa]? = some (.cells ([.bool false, nilV]).toArray 41 (0, 0)) := by rw [hwwxa, hbwxa]; exact heap_alloc_same _ _
      rw [← hbwxa]
      clear hwwxa
      apply wr_alloc
      focus exact rfl
      refine wr_name ?_
      intro wxb hwwxb
      obtain ⟨bwxb, hbwxb⟩ : ∃ b, b = (wxa).heap.size := ⟨_, rfl⟩
      have hkwxb : Keeps NoB wxa wxb := by rw [hwwxb]; exact (Keeps.refl NoB wxa).alloc _
      have hcwxb : (wxb).heap[bwxb]? = some (.cells ([.bool false, nilV]).toArray 41 (0, 0)) := by rw [hwwxb, hbwxb]; exact heap_alloc_same _ _
      rw [← hbwxb]
      clear hwwxb
      have hcawx := hkwxb.heap hcwxa (fun h => h)
      have hlrwx := lt_of_heap hcwxa
      refine wr_storeAll (cs := [.bool F.1.1, mn]) rfl rfl rfl (by intro u hu; simp at hu; rcases hu with rfl | rfl; rfl; exact hm7.one.1) hcawx (rfl) (rfl) ?_
      refine wr_name ?_
      intro wxc hwwxc
      have hkwxc : Keeps (· = bwxa) wxb wxc := by rw [hwwxc]; exact (Keeps.refl _ wxb).put _ (fun _ => rfl)
      have hcwxc : (wxc).heap[bwxa]? = some (.cells ([.bool F.1.1, mn]).toArray 41 (0, 0)) := by rw [hwwxc]; exact World.putObj_heap_same (lt_of_heap hcawx)
      clear hwwxc
      have hcbwx := hkwxc.heap hcwxb (fun e => by omega)
      refine wr_storeAll (cs := [.bool F.2.1.1, ln]) rfl rfl rfl (by intro u hu; simp at hu; rcases hu with rfl | rfl; rfl; exact hl7.one.1) hcbwx (rfl) (rfl) ?_
      refine wr_name ?_
      intro wxd hwwxd
      have hkwxd : Keeps (· = bwxb) wxc wxd := by rw [hwwxd]; exact (Keeps.refl _ wxc).put _ (fun _ => rfl)
      have hcwxd : (wxd).heap[bwxb]? = some (.cells ([.bool F.2.1.1, ln]).toArray 41 (0, 0)) := by rw [hwwxd]; exact World.putObj_heap_same (lt_of_heap hcbwx)
      clear hwwxd
      have hccwx := hkwxd.heap hcwxc (fun e => by omega)
      have hkkwx : Keeps NoB w7 wxd := ((hkwxa.trans hkwxb).trans' hkwxc (fun i hi e => by omega)).trans' hkwxd (fun i hi e => by omega)
      have h8 := h7.keepN hkkwx
      have hr8 := ((hr5.keep hk6).keepM hk7 nc6).keep hkkwx
      have hc8 := hkkwx.heap (heap_keepM (hk6.heap hcw5 (fun h => h)) hk7 nc6) (fun h => h)
      have hm8 := hm7.keep hkkwx
      have hl8 := hl7.keep hkkwx
      have hK8 := hK7.trans hkkwx
      have hz8 := hkkwx.size
      have hdo8 : dlOk wxd d := { hdo with row := hdo.row.keep hK8 (fun _ _ h => h) }
      (repeat first | (apply wr_move; exact rfl; with_reducible (conv => enter [6, 3]; whnf)) | (apply wr_assign; exact rfl; with_reducible (conv => enter [6, 3]; whnf)) | apply wr_end | apply wc_seq | apply wc_region)
      refine wr_loadAll (cs := GDl d) rfl rfl rfl hc8 rfl ?_
      refine wr_call (vs := [.agg (GDl d).toArray]) rfl (wantD_ca d hdo8) rfl ?_
      rintro sv2 w9 ⟨hs9, hk9⟩
      refine wr_call (vs := [sv2]) rfl (refSet_ca hs9) rfl ?_
      rintro sv3 w10 ⟨hs10, hk10⟩
      have hk810 := hk9.trans hk10
      have hr10 := hr8.keep hk810
      refine wr_call (vs := [.pointer (some ⟨bw2, 0, none⟩), .int .i64 id, .int .i64 kk, sv3]) rfl (refSetF_ca hr10 h5.dom h5.fine h5.small (id, kk) hs10 hwf (by omega)) rfl ?_
      rintro v w11 ⟨⟨⟨mn2, ln2, rfl, hm11, hl11⟩, hr11⟩, hk11⟩
      rw [← hF] at hm11 hl11 hr11 ⊢
      obtain ⟨L, _, hL, _, hLs⟩ := hr10.at'
      have hne := arr_ne2 hLs
      have h11 := (h8.keepN hk810).keepC hk11 hL (by decide) (by decide)
      have hc11 := hk11.heap (hk810.heap hc8 (fun h => h)) (fun e => by omega)
      have hmM := (hm8.keep hk810).put hk11 hL hne
      have hlM := (hl8.keep hk810).put hk11 hL hne
      have hca11 := hk11.heap (hk810.heap hccwx (fun h => h)) (fun e => by omega)
      have hcb11 := hk11.heap (hk810.heap hcwxd (fun h => h)) (fun e => by omega)
      have hz10 := hk810.size
      have hK11 := (hK8.trans hk810).trans' hk11 (fun i hi e => by omega)
      apply wr_move; exact rfl; with_reducible (conv => enter [6, 3]; whnf)
      apply wr_extract; (iterate 3 exact rfl); with_reducible (conv => enter [6, 3]; whnf)
      apply wr_extract; (iterate 3 exact rfl); with_reducible (conv => enter [6, 3]; whnf)
      apply wr_extract; (iterate 3 exact rfl); with_reducible (conv => enter [6, 3]; whnf)
      apply wr_alloc
      focus exact rfl
      refine wr_name ?_
      intro wya hwwya
      obtain ⟨bwya, hbwya⟩ : ∃ b, b = (w11).heap.size := ⟨_, rfl⟩
      have hkwya : Keeps NoB w11 wya := by rw [hwwya]; exact (Keeps.refl NoB w11).alloc _
      have hcwya : (wya).heap[bwya]? = some (.cells ([.bool false, nilV]).toArray 29 (0, 0)) := by rw [hwwya, hbwya]; exact heap_alloc_same _ _
      rw [← hbwya]
      clear hwwya
      apply wr_alloc
      focus exact rfl
      refine wr_name ?_
      intro wyb hwwyb
      obtain ⟨bwyb, hbwyb⟩ : ∃ b, b = (wya).heap.size := ⟨_, rfl⟩
      have hkwyb : Keeps NoB wya wyb := by rw [hwwyb]; exact (Keeps.refl NoB wya).alloc _
      have hcwyb : (wyb).heap[bwyb]? = some (.cells ([.bool false, nilV]).toArray 29 (0, 0)) := by rw [hwwyb, hbwyb]; exact heap_alloc_same _ _
      rw [← hbwyb]
      clear hwwyb
      have hcawy := hkwyb.heap hcwya (fun h => h)
      have hlrwy := lt_of_heap hcwya
      refine wr_storeAll (cs := [.bool F.1.1, mn2]) rfl rfl rfl (by intro u hu; simp at hu; rcases hu with rfl | rfl; rfl; exact hm11.one.1) hcawy (rfl) (rfl) ?_
      refine wr_name ?_
      intro wyc hwwyc
      have hkwyc : Keeps (· = bwya) wyb wyc := by rw [hwwyc]; exact (Keeps.refl _ wyb).put _ (fun _ => rfl)
      have hcwyc : (wyc).heap[bwya]? = some (.cells ([.bool F.1.1, mn2]).toArray 29 (0, 0)) := by rw [hwwyc]; exact World.putObj_heap_same (lt_of_heap hcawy)
      clear hwwyc
      have hcbwy := hkwyc.heap hcwyb (fun e => by omega)
      refine wr_storeAll (cs := [.bool F.2.1.1, ln2]) rfl rfl rfl (by intro u hu; simp at hu; rcases hu with rfl | rfl; rfl; exact hl11.one.1) hcbwy (rfl) (rfl) ?_
      refine wr_name ?_
      intro wyd hwwyd
      have hkwyd : Keeps (· = bwyb) wyc wyd := by rw [hwwyd]; exact (Keeps.refl _ wyc).put _ (fun _ => rfl)
      have hcwyd : (wyd).heap[bwyb]? = some (.cells ([.bool F.2.1.1, ln2]).toArray 29 (0, 0)) := by rw [hwwyd]; exact World.putObj_heap_same (lt_of_heap hcbwy)
      clear hwwyd
      have hccwy := hkwyd.heap hcwyc (fun e => by omega)
      have hkkwy : Keeps NoB w11 wyd := ((hkwya.trans hkwyb).trans' hkwyc (fun i hi e => by omega)).trans' hkwyd (fun i hi e => by omega)
      have hca12 := hkkwy.heap hca11 (fun h => h)
      have hcb12 := hkkwy.heap hcb11 (fun h => h)
      (repeat first | (apply wr_assign; exact rfl; with_reducible (conv => enter [6, 3]; whnf)) | apply wr_end | apply wc_seq | apply wc_region)
      refine wr_loadAll (cs := [.bool F.1.1, mn]) rfl rfl rfl hca12 rfl ?_
      refine wr_loadAll (cs := [.bool F.1.1, mn2]) rfl rfl rfl hccwy rfl ?_
      refine wr_call (vs := [SetV F.1.1 mn, SetV F.1.1 mn2]) rfl (lawSame_ca F.1 F.1 _ _ wyd (hmM.keep hkkwy) (hm11.keep hkkwy) (by omega) (by omega)) rfl ?_
      rintro _ w13 ⟨rfl, hk13⟩
      rw [sameP_self]
      have hcb13 := hk13.heap hcb12 (fun h => h)
      have hcd13 := hk13.heap hcwyd (fun h => h)
      (repeat first | (apply wr_assign; exact rfl; with_reducible (conv => enter [6, 3]; whnf)) | apply wr_end | apply wc_seq | apply wc_region)
      refine wr_loadAll (cs := [.bool F.2.1.1, ln]) rfl rfl rfl hcb13 rfl ?_
      refine wr_loadAll (cs := [.bool F.2.1.1, ln2]) rfl rfl rfl hcd13 rfl ?_
      refine wr_call (vs := [SetV F.2.1.1 ln, SetV F.2.1.1 ln2]) rfl (lawSame_ca F.2.1 F.2.1 _ _ w13 ((hlM.keep hkkwy).keep hk13) ((hl11.keep hkkwy).keep hk13) (by omega) (by omega)) rfl ?_
      rintro _ w14 ⟨rfl, hk14⟩
      rw [sameP_self]
      have hkE := hkkwy.trans (hk13.trans hk14)
      (repeat first | (apply wr_move; exact rfl; with_reducible (conv => enter [6, 3]; whnf)) | (apply wr_assign; exact rfl; with_reducible (conv => enter [6, 3]; whnf)) | apply wr_end | apply wc_region | (apply wr_cmp; (iterate 3 exact rfl); exact cmpT (by dsimp only [cmpP]; first | done | omega)) | (apply wr_pick (t := true); (iterate 2 exact rfl); with_reducible (conv => enter [6, 3]; whnf)))
      exact ⟨by trivial, F.2.2.2, h11.keepN hkE, hr11.keep hkE, hkE.heap hc11 (fun h => h), hK11.trans hkE, rfl, rfl, rfl, rfl, rfl, rfl, rfl, rfl, rfl, trivial⟩
  rintro ds' f' w6 ⟨rfl, W6, h6, hr6, hc6, hK6, hs⟩
  rw [← setL_self f' _ hs.all]
  clear hs
  have hul := unF_len h6.small kk
  have hll := leF_len h6.small kk
  have hwl := h6.small (id, kk)
  (repeat first | (apply wr_move; exact rfl; with_reducible (conv => enter [6, 3]; whnf)) | apply wr_end | apply wc_seq | apply wc_region | apply wc_skip | (apply wr_not; iterate 2 exact rfl) | (apply wc_false; exact rfl))
  refine wr_call (vs := [.pointer (some ⟨ab, 0, none⟩), .int .i64 kk]) rfl (unF_ca h6 kk) rfl ?_
  rintro v1 wa ⟨hua, hka⟩
  (repeat first | (apply wr_move; exact rfl; with_reducible (conv => enter [6, 3]; whnf)))
  refine wr_call (vs := [.pointer (some ⟨bw2, 0, none⟩), .int .i64 kk]) rfl (refUnF_ca (hr6.keep hka) h6.dom h6.fine h6.small kk) rfl ?_
  rintro v2 wb' ⟨hub, hkb⟩
  refine wr_call (vs := [v1, v2]) rfl (lawSame_ca _ _ _ _ wb' (hua.keep hkb) hub (by omega) (by omega)) rfl ?_
  rintro _ wc ⟨rfl, hkc⟩
  rw [sameP_self]
  have hk6c := hka.trans (hkb.trans hkc)
  have hc := h6.keepN hk6c
  have hrc := hr6.keep hk6c
  (repeat first | (apply wr_move; exact rfl; with_reducible (conv => enter [6, 3]; whnf)) | (apply wr_assign; exact rfl; with_reducible (conv => enter [6, 3]; whnf)) | apply wr_end | apply wc_seq | apply wc_region)
  refine wr_call (vs := [.pointer (some ⟨ab, 0, none⟩), .int .i64 id, .int .i64 kk]) rfl (wantM_ca hc (id, kk)) rfl ?_
  rintro v1 wd ⟨hud, hkd⟩
  (repeat first | (apply wr_move; exact rfl; with_reducible (conv => enter [6, 3]; whnf)))
  refine wr_call (vs := [.pointer (some ⟨bw2, 0, none⟩), .int .i64 id, .int .i64 kk]) rfl (refWant_ca (hrc.keep hkd) hc.dom id kk) rfl ?_
  rintro v2 we ⟨hue, hke⟩
  refine wr_call (vs := [v1, v2]) rfl (lawSame_ca _ _ _ _ we (hud.keep hke) hue (by omega) (by omega)) rfl ?_
  rintro _ wf ⟨rfl, hkf⟩
  rw [sameP_self]
  have hk6f := hk6c.trans (hkd.trans (hke.trans hkf))
  have hf := h6.keepN hk6f
  have hrf := hr6.keep hk6f
  (repeat first | (apply wr_move; exact rfl; with_reducible (conv => enter [6, 3]; whnf)) | (apply wr_assign; exact rfl; with_reducible (conv => enter [6, 3]; whnf)) | apply wr_end | apply wc_seq | apply wc_region)
  refine wr_call (vs := [.pointer (some ⟨ab, 0, none⟩), .int .i64 kk]) rfl (leF_ca hf kk) rfl ?_
  rintro v1 wg ⟨hug, hkg⟩
  (repeat first | (apply wr_move; exact rfl; with_reducible (conv => enter [6, 3]; whnf)))
  refine wr_call (vs := [.pointer (some ⟨bw2, 0, none⟩), .int .i64 kk]) rfl (refLeF_ca (hrf.keep hkg) hf.dom hf.fine hf.small kk) rfl ?_
  rintro v2 wh ⟨huh, hkh⟩
  refine wr_call (vs := [v1, v2]) rfl (lawSame_ca _ _ _ _ wh (hug.keep hkh) huh (by omega) (by omega)) rfl ?_
  rintro _ wi ⟨rfl, hki⟩
  rw [sameP_self]
  have hk6i := hk6f.trans (hkg.trans (hkh.trans hki))
  have hi' := h6.keepN hk6i
  have hri := hr6.keep hk6i
  have hci := hk6i.heap hc6 (fun h => h)
  (repeat first | (apply wr_move; exact rfl; with_reducible (conv => enter [6, 3]; whnf)) | (apply wr_assign; exact rfl; with_reducible (conv => enter [6, 3]; whnf)) | apply wr_end | apply wc_seq | apply wc_region | (apply wr_fieldAddr; iterate 2 exact rfl) | (apply wr_load; (iterate 3 exact rfl); (focus repeat first | with_reducible assumption | exact heap_alloc_same _ _ | exact World.putObj_heap_same (by first | omega | (simp only [World.size_alloc, World.putObj_size, ne_eq]; omega)) | ((first | refine hAl ?_ ?_ | refine hPu ?_ ?_); focus first | omega | (simp only [World.size_alloc, World.putObj_size, ne_eq]; omega))); exact rfl; conv => enter [6, 3]; whnf))
  refine wr_call (vs := [.int .u8 ((d.name : Nat) : Int)]) rfl (nameX_ca d.name hdo.name wi) rfl ?_
  rintro _ wj ⟨rfl, hkj⟩
  have hnml := nameT_len d.name
  obtain ⟨nm, hnm⟩ : ∃ n, n = nameT d.name := ⟨_, rfl⟩
  rw [← hnm] at hnml ⊢
  clear hnm
  refine wr_build (ps := [(0, .int .i64 kk), (1, S nm)]) (cs := [.int .i64 kk, S nm]) rfl rfl rfl rfl ?_
  (repeat first | (apply wr_alloc; exact rfl))
  refine wr_storeAll (cs := [.int .i64 kk, S nm]) rfl rfl rfl (by intro u hu; simp at hu; rcases hu with rfl | rfl <;> rfl) (heap_alloc_same _ _) rfl rfl ?_
  refine wr_name ?_
  intro wk hwwk
  obtain ⟨bwk, hbwk⟩ : ∃ b, b = (wj).heap.size := ⟨_, rfl⟩
  have hkwk : Keeps NoB wj wk := by rw [hwwk]; exact ((Keeps.refl NoB wj).alloc _).put _ (fun h => by omega)
  have hcwk : (wk).heap[bwk]? = some (.cells ([.int .i64 kk, S nm]).toArray 55 (0, 0)) := by rw [hwwk, hbwk]; exact World.putObj_heap_same (by simp)
  rw [← hbwk]
  clear hwwk
  have hk6k := hk6i.trans (hkj.trans hkwk)
  (repeat first | (apply wr_move; exact rfl; with_reducible (conv => enter [6, 3]; whnf)) | apply wr_end | apply wc_seq | apply wc_region)
  refine wr_loadAll (cs := [.int .i64 kk, S nm]) rfl rfl rfl hcwk rfl ?_
  refine wr_call (vs := [.pointer (some ⟨ab, 0, none⟩), .agg #[.int .i64 kk, S nm]]) rfl (whoV_ca (h6.keepN hk6k) kk nm (by omega)) rfl ?_
  rintro v1 wl ⟨hol, hkl⟩
  have hk6l := hk6k.trans hkl
  (repeat first | (apply wr_move; exact rfl; with_reducible (conv => enter [6, 3]; whnf)) | (apply wr_assign; exact rfl; with_reducible (conv => enter [6, 3]; whnf)) | apply wr_end | apply wc_seq | apply wc_region)
  refine wr_loadAll (cs := [.int .i64 kk, S nm]) rfl rfl rfl (hkl.heap hcwk (fun h => h)) rfl ?_
  refine wr_call (vs := [.pointer (some ⟨bw2, 0, none⟩), .agg #[.int .i64 kk, S nm]]) rfl (refWho_ca (hr6.keep hk6l) h6.dom h6.small kk nm (by omega)) rfl ?_
  rintro v2 wm ⟨hom, hkm⟩
  have hk6m := hk6l.trans hkm
  obtain ⟨WL, hWL⟩ : ∃ l, l = whoL W6 kk nm := ⟨_, rfl⟩
  have hWn : WL.length ≤ 33 := by rw [hWL]; exact whoL_len _ _ _
  rw [← hWL] at hol hom
  obtain ⟨xa, xc, rfl, hxat⟩ := ints_at ((SlR.of_own hol).keep hkm (fun _ _ h => h))
  obtain ⟨ya, yc, rfl, hyat⟩ := ints_at (SlR.of_own hom)
  (repeat first | (apply wr_move; exact rfl; with_reducible (conv => enter [6, 3]; whnf)) | (apply wr_assign; exact rfl; with_reducible (conv => enter [6, 3]; whnf)) | apply wr_end | apply wc_seq | apply wc_region | apply wc_skip | apply wc_block | (apply wr_not; iterate 2 exact rfl) | (apply wr_len_slice; iterate 2 exact rfl) | (apply wr_cmp; (iterate 3 exact rfl); exact cmpF (by dsimp only [cmpN]; first | done | omega)) | (apply wr_pick (t := false); (iterate 2 exact rfl); with_reducible (conv => enter [6, 3]; whnf)) | (apply wc_false; exact rfl))
  refine wc_loopL (α := Nat) (fun j => [(0, .slice (some ⟨vb, vo, none⟩) dl.length vc), (3, .bool true), (4, .pointer (some ⟨ab, 0, none⟩)), (5, .pointer (some ⟨bw2, 0, none⟩)), (6, .int .i64 (i : Int)), (7, .pointer (some ⟨bw5, 0, none⟩)), (23, .slice xa WL.length xc), (24, .slice ya WL.length yc), (25, .int .i64 (j : Int))])
    (fun j ds w' => ds = [] ∧ j ≤ WL.length ∧ Keeps NoB wm w') (fun j => WL.length - j) 0
    ⟨rfl, Nat.zero_le _, Keeps.refl _ _⟩ ⟨rfl, rfl, rfl, rfl, rfl, rfl, rfl, rfl, rfl, trivial⟩ ?_
  rintro j ds f1 wn ⟨rfl, hj, hkn⟩
  by_cases hjl : j < WL.length
  · obtain ⟨y, hy⟩ : ∃ u, WL[j]? = some u := ⟨WL[j], by simp [hjl]⟩
    obtain ⟨xb, xo, rfl, xcur, xe, xf, hxb, hxr⟩ := hxat (by omega)
    obtain ⟨yb, yo, rfl, ycur, ye, yf, hyb, hyr⟩ := hyat (by omega)
    have hxbn := hkn.heap hxb (fun h => h)
    have hybn := hkn.heap hyb (fun h => h)
    have hkz : ∀ {w'}, Keeps NoB wn.drew w' → Keeps NoB wn w' := fun hk => (Keeps.refl NoB wn).drew.trans hk
    (repeat first | (apply wr_move; exact rfl; with_reducible (conv => enter [6, 3]; whnf)) | apply wr_end | apply wc_seq | apply wc_region | apply wc_skip | apply wc_block | (apply wr_len_slice; iterate 2 exact rfl) | (apply wr_cmp; (iterate 3 exact rfl); exact cmpT (by dsimp only [cmpP]; first | done | omega)) | (apply wc_true; exact rfl))
    refine wc_drawP (l := _) 9 _ (by kernel_rfl) (by kernel_rfl) rfl (by kernel_rfl) (by kernel_rfl) (by decide) ?_
    apply chP_pure
    focus
      intro xx w' hk hF
      apply wr_move; exact rfl; with_reducible (conv => enter [6, 3]; whnf)
      apply wr_nil
      exact ⟨rfl, Keeps.refl _ _⟩
    focus (intro xx yy h; rfl)
    focus kernel_rfl
    apply chP_pure
    focus
      intro xx w' hk hF
      apply wr_move; exact rfl; with_reducible (conv => enter [6, 3]; whnf)
      apply wr_nil
      exact ⟨rfl, Keeps.refl _ _⟩
    focus (intro xx yy h; rfl)
    focus kernel_rfl
    apply chP_pure
    focus
      intro xx w' hk hF
      refine wr_indexAddr (i := j) rfl rfl rfl hjl ?_
      apply wr_nil
      exact ⟨rfl, Keeps.refl _ _⟩
    focus (intro xx yy h; rfl)
    focus kernel_rfl
    apply chP_pure
    focus
      intro xx w' hk hF
      refine wr_load (v := .int .i64 (y)) rfl rfl rfl ((hkz hk).heap hxbn (fun h => h)) (hxr j y hy) ?_
      apply wr_nil
      exact ⟨rfl, Keeps.refl _ _⟩
    focus (intro xx yy h; rfl)
    focus kernel_rfl
    apply chP_pure
    focus
      intro xx w' hk hF
      apply wr_move; exact rfl; with_reducible (conv => enter [6, 3]; whnf)
      apply wr_nil
      exact ⟨rfl, Keeps.refl _ _⟩
    focus (intro xx yy h; rfl)
    focus kernel_rfl
    apply chP_pure
    focus
      intro xx w' hk hF
      apply wr_move; exact rfl; with_reducible (conv => enter [6, 3]; whnf)
      apply wr_nil
      exact ⟨rfl, Keeps.refl _ _⟩
    focus (intro xx yy h; rfl)
    focus kernel_rfl
    apply chP_pure
    focus
      intro xx w' hk hF
      refine wr_indexAddr (i := j) rfl rfl rfl hjl ?_
      apply wr_nil
      exact ⟨rfl, Keeps.refl _ _⟩
    focus (intro xx yy h; rfl)
    focus kernel_rfl
    apply chP_pure
    focus
      intro xx w' hk hF
      refine wr_load (v := .int .i64 (y)) rfl rfl rfl ((hkz hk).heap hybn (fun h => h)) (hyr j y hy) ?_
      apply wr_nil
      exact ⟨rfl, Keeps.refl _ _⟩
    focus (intro xx yy h; rfl)
    focus kernel_rfl
    apply chP_pure
    focus
      intro xx w' hk hF
      refine wr_cmp rfl rfl rfl (cmpF (by dsimp only [cmpN]; first | done | omega)) ?_
      apply wr_nil
      exact ⟨rfl, Keeps.refl _ _⟩
    focus (intro xx yy h; rfl)
    focus kernel_rfl
    refine chP_nil ?_
    intro xx wo hko' hF
    have hko := hkz hko'
    clear hF
    (repeat first | (apply wr_move; exact rfl; with_reducible (conv => enter [6, 3]; whnf)) | (apply wr_assign; exact rfl; with_reducible (conv => enter [6, 3]; whnf)) | apply wr_end | apply wc_region | apply wc_skip | (apply wr_add; (iterate 3 exact rfl); exact w_fit (by dsimp only [kIn]; first | done | omega)) | (apply wc_false; exact rfl))
    exact ⟨j + 1, by omega, ⟨by trivial, hjl, hkn.trans hko⟩, rfl, rfl, rfl, rfl, rfl, rfl, rfl, rfl, rfl, trivial⟩
  have hk6n := hk6m.trans hkn
  have h9 := h6.keepN hk6n
  have hr9 := hr6.keep hk6n
  have hc9 := hk6n.heap hc6 (fun h => h)
  have hkz : ∀ {w'}, Keeps NoB wn.drew w' → Keeps NoB wn w' := fun hk => (Keeps.refl NoB wn).drew.trans hk
  have hcD := hc9
  obtain ⟨km, hkm5⟩ : ∃ q, q = d.many % 5 := ⟨_, rfl⟩
  have hkmd : km < 5 := by omega
  have hkl5 := keysL_len h6.small (km + 1)
  (repeat first | (apply wr_move; exact rfl; with_reducible (conv => enter [6, 3]; whnf)) | apply wr_end | apply wc_seq | apply wc_region | (apply wr_len_slice; iterate 2 exact rfl) | (apply wr_cmp; (iterate 3 exact rfl); exact cmpF (by dsimp only [cmpN]; first | done | omega)) | (apply wc_false; exact rfl) | (apply wc_exit; try simp only [thenE, inBlockE, bodyQ, ↓reduceIte, Nat.reduceEqDiff]))
  refine wc_drawP (l := _) 15 _ (by kernel_rfl) (by kernel_rfl) rfl (by kernel_rfl) (by kernel_rfl) (by decide) ?_
  apply chP_pure
  focus
    intro xx w' hk hF
    apply wr_move; exact rfl; with_reducible (conv => enter [6, 3]; whnf)
    apply wr_nil
    exact ⟨rfl, Keeps.refl _ _⟩
  focus (intro xx yy h; rfl)
  focus kernel_rfl
  apply chP_pure
  focus
    intro xx w' hk hF
    refine wr_fieldAddr rfl rfl ?_
    apply wr_nil
    exact ⟨rfl, Keeps.refl _ _⟩
  focus (intro xx yy h; rfl)
  focus kernel_rfl
  apply chP_pure
  focus
    intro xx w' hk hF
    refine wr_load (v := .int .u8 (d.many : Int)) rfl rfl rfl ((hkz hk).heap hc9 (fun h => h)) rfl ?_
    apply wr_nil
    exact ⟨rfl, Keeps.refl _ _⟩
  focus (intro xx yy h; rfl)
  focus kernel_rfl
  apply chP_pure
  focus
    intro xx w' hk hF
    refine wr_remN (n := d.many) (m := 5) rfl rfl rfl (by decide) ?_; rw [← hkm5]
    apply wr_nil
    exact ⟨rfl, Keeps.refl _ _⟩
  focus (intro xx yy h; rfl)
  focus kernel_rfl
  apply chP_pure
  focus
    intro xx w' hk hF
    refine wr_conv (c := (km : Int)) rfl rfl (w_fit (by dsimp only [kIn]; omega)) ?_
    apply wr_nil
    exact ⟨rfl, Keeps.refl _ _⟩
  focus (intro xx yy h; rfl)
  focus kernel_rfl
  apply chP_pure
  focus
    intro xx w' hk hF
    refine wr_add (c := ((km + 1 : Nat) : Int)) rfl rfl rfl (by rw [w_fit (by dsimp only [kIn]; omega)]; omega) ?_
    apply wr_nil
    exact ⟨rfl, Keeps.refl _ _⟩
  focus (intro xx yy h; rfl)
  focus kernel_rfl
  refine chP_fact (fun yq => yq) (fun yq w' => SlR w' 1 yq (keysL W6 (km + 1)).length (SL (keysL W6 (km + 1)))) (fun yq w' w'' h k => h.keep k (fun _ _ h => h)) ?_ ?_
  focus
    intro xx w' hk hF
    refine wr_call (vs := [.pointer (some ⟨ab, 0, none⟩), .int .i64 ((km + 1 : Nat) : Int)]) rfl (keysM2_ca (h9.keepN (hkz hk)) (km + 1) (by omega) (by omega)) rfl ?_
    rintro v w'' ⟨hR, hkc⟩
    apply wr_nil
    exact ⟨v, rfl, SlR.of_own hR, hkc⟩
  apply chP_pure
  focus
    intro xx w' hk hF
    apply wr_move; exact rfl; with_reducible (conv => enter [6, 3]; whnf)
    apply wr_nil
    exact ⟨rfl, Keeps.refl _ _⟩
  focus (intro xx yy h; rfl)
  focus kernel_rfl
  apply chP_pure
  focus
    intro xx w' hk hF
    refine wr_fieldAddr rfl rfl ?_
    apply wr_nil
    exact ⟨rfl, Keeps.refl _ _⟩
  focus (intro xx yy h; rfl)
  focus kernel_rfl
  apply chP_pure
  focus
    intro xx w' hk hF
    refine wr_load (v := .int .u8 (d.many : Int)) rfl rfl rfl ((hkz hk).heap hc9 (fun h => h)) rfl ?_
    apply wr_nil
    exact ⟨rfl, Keeps.refl _ _⟩
  focus (intro xx yy h; rfl)
  focus kernel_rfl
  apply chP_pure
  focus
    intro xx w' hk hF
    refine wr_remN (n := d.many) (m := 5) rfl rfl rfl (by decide) ?_; rw [← hkm5]
    apply wr_nil
    exact ⟨rfl, Keeps.refl _ _⟩
  focus (intro xx yy h; rfl)
  focus kernel_rfl
  apply chP_pure
  focus
    intro xx w' hk hF
    refine wr_conv (c := (km : Int)) rfl rfl (w_fit (by dsimp only [kIn]; omega)) ?_
    apply wr_nil
    exact ⟨rfl, Keeps.refl _ _⟩
  focus (intro xx yy h; rfl)
  focus kernel_rfl
  apply chP_pure
  focus
    intro xx w' hk hF
    refine wr_add (c := ((km + 1 : Nat) : Int)) rfl rfl rfl (by rw [w_fit (by dsimp only [kIn]; omega)]; omega) ?_
    apply wr_nil
    exact ⟨rfl, Keeps.refl _ _⟩
  focus (intro xx yy h; rfl)
  focus kernel_rfl
  refine chP_fact (fun yq => yq) (fun yq w' => SlR w' 1 yq (keysL W6 (km + 1)).length (SL (keysL W6 (km + 1)))) (fun yq w' w'' h k => h.keep k (fun _ _ h => h)) ?_ ?_
  focus
    intro xx w' hk hF
    refine wr_call (vs := [.pointer (some ⟨bw2, 0, none⟩), .int .i64 ((km + 1 : Nat) : Int)]) rfl (refKeys_ca (hr9.keep (hkz hk)) h6.dom h6.fine h6.small (km + 1) (by omega) (by omega)) rfl ?_
    rintro v w'' ⟨hR, hkc⟩
    apply wr_nil
    exact ⟨v, rfl, SlR.of_own hR, hkc⟩
  apply chP_pure
  focus
    intro xx w' hk hF
    refine wr_call (vs := [xx 6, xx 13]) rfl (texts_ca (keysL W6 (km + 1)) (keysL W6 (km + 1)) _ _ w' (hF 6 (by kernel_rfl)) (hF 13 (by kernel_rfl)) (by omega) (by omega)) rfl ?_
    rintro v w'' ⟨rfl, hkc⟩
    apply wr_nil
    exact ⟨rfl, hkc⟩
  focus (intro xx yy h; rfl)
  focus kernel_rfl
  refine chP_nil ?_
  intro xx wo hko' hF
  have hko := hkz hko'
  clear hF
  rw [decide_eq_true rfl]
  (repeat first | (apply wr_move; exact rfl; with_reducible (conv => enter [6, 3]; whnf)) | (apply wr_assign; exact rfl; with_reducible (conv => enter [6, 3]; whnf)) | apply wr_end | apply wc_seq | apply wc_region | apply wc_skip | (apply wr_not; iterate 2 exact rfl) | (apply wr_add; (iterate 3 exact rfl); exact w_fit (by dsimp only [kIn]; first | done | omega)) | (apply wc_false; exact rfl))
  exact ⟨(i + 1, W6), by dsimp only; omega, ⟨by trivial, ⟨by omega, h9.keepN hko, hr9.keep hko, hK6.trans (hk6n.trans hko)⟩⟩, rfl, rfl, rfl, rfl, rfl, trivial⟩
end Go.Proofs.YtajajahofkialaaGreatDoor
