/- MergeAgain. -/
import Derived.Test.YtajajahofkialaaGreatDoorHn
namespace Go.Proofs.YtajajahofkialaaGreatDoor
open Go Go.V Go.RowKit
set_option linter.unusedVariables false
set_option linter.unusedSimpArgs false

/- The head: $1 after New. -/
/- A set of a few: $1 slice, $2 bytes, $3 world, $4 stem, $5 SlR, $6 bytes small, $7 how many. -/
set_option maxRecDepth 100000 in
set_option maxHeartbeats 16000000 in
theorem again_law (al bl cl : List Nat) (a b c : Value) {w : World} {p q : Addr} (hg : GloM w p q) (ha : SlR w 1 a al.length (IB al)) (ha8 : ∀ x ∈ al, x < 256) (hb : SlR w 1 b bl.length (IB bl)) (hb8 : ∀ x ∈ bl, x < 256) (hc : SlR w 1 c cl.length (IB cl)) (hc8 : ∀ x ∈ cl, x < 256) :
    Ca Tryz.prog 5 #[a, b, c] w fun v w' => v = .bool true ∧ Keeps NoB w w' := by
  refine ca_of_body (args := [a, b, c]) Tryz.func5 rfl (by kernel_rfl) ?_
  (repeat first | (apply wr_assign; exact rfl; with_reducible (conv => enter [6, 3]; whnf)) | apply wr_end | apply wc_seq | apply wc_region)
  refine wr_call (vs := []) rfl (examples_ca hg) rfl ?_
  rintro v w0 ⟨rfl, hk0'⟩
  have hz0 := hk0'.size
  have hg0 := hg.keep hk0'
  (repeat first | (apply wr_move; exact rfl; with_reducible (conv => enter [6, 3]; whnf)) | (apply wr_assign; exact rfl; with_reducible (conv => enter [6, 3]; whnf)) | apply wr_end | apply wc_seq | apply wc_region | apply wc_skip | (apply wr_not; iterate 2 exact rfl) | (apply wc_false; exact rfl))
  refine wr_call (vs := []) rfl (newM_ca w0) rfl ?_
  rintro v w1 ⟨⟨ab, wb, cb, rfl, h1, hab, hwb, hcb⟩, hk1⟩
  have hmD : ∀ i, i < w.heap.size → ¬ mD wb cb i := fun i hi e => by
    rcases e with e | e
    · omega
    · have := hcb i e; omega
  have hK1 := hk0'.trans hk1
  have hg1 := hg0.keep hk1
  have hz1 := hK1.size
  (repeat first | (apply wr_move; exact rfl; with_reducible (conv => enter [6, 3]; whnf)) | (apply wr_assign; exact rfl; with_reducible (conv => enter [6, 3]; whnf)) | apply wr_end | apply wc_seq | apply wc_region)
  refine wr_ptrNil rfl rfl ?_
  (repeat first | (apply wr_move; exact rfl; with_reducible (conv => enter [6, 3]; whnf)) | apply wr_end | apply wc_seq | apply wc_region | apply wc_skip | (apply wc_false; exact rfl))
  refine wr_call (vs := [a, .int .i64 ((10 : Nat) : Int)]) rfl (few_ca al a 10 (by decide) w1 (ha.keep hK1 (fun _ _ h => h)) ha8) rfl ?_
  rintro v xu ⟨hfw, hkxu⟩
  have hle := namesF_le al 10
  refine wr_call (vs := [v]) rfl (ofO_ca (namesF al 10) v xu (SlR.of_own hfw) (by omega) (namesF_ok al 10)) rfl ?_
  rintro sv xv ⟨hsv, hkxv⟩
  obtain ⟨x, hxe⟩ : ∃ W, W = ofP (namesF al 10) := ⟨_, rfl⟩
  have hxf : Fine x := by rw [hxe]; exact ofP_fine _
  have hxl : (x).2.length ≤ 10 := by rw [hxe]; have := ofP_le (namesF al 10); omega
  rw [← hxe] at hsv
  obtain ⟨xn, rfl, hxo⟩ := hsv
  have hxR : SetR xv x (SetV (x).1 xn) := ⟨xn, rfl, SlR.of_own hxo⟩
  clear hxe hfw hxo
  have hkx := hkxu.trans hkxv
  (repeat first | (apply wr_alloc; exact rfl))
  refine wr_storeAll (cs := [.bool x.1, xn]) rfl rfl rfl (by intro u hu; simp at hu; rcases hu with rfl | rfl; rfl; exact hxR.one.1) (heap_alloc_same _ _) rfl rfl ?_
  refine wr_name ?_
  intro w2 hww2
  obtain ⟨bw2, hbw2⟩ : ∃ b, b = (xv).heap.size := ⟨_, rfl⟩
  have hkw2 : Keeps NoB xv w2 := by rw [hww2]; exact ((Keeps.refl NoB xv).alloc _).put _ (fun h => by omega)
  have hcw2 : (w2).heap[bw2]? = some (.cells ([.bool x.1, xn]).toArray 41 (0, 0)) := by rw [hww2, hbw2]; exact World.putObj_heap_same (by simp)
  rw [← hbw2]
  clear hww2
  have hk12 := hkx.trans hkw2
  have hxR := hxR.keep hkw2
  have hK2 := hK1.trans hk12
  (repeat first | (apply wr_move; exact rfl; with_reducible (conv => enter [6, 3]; whnf)) | apply wr_end | apply wc_seq | apply wc_region)
  refine wr_call (vs := [b, .int .i64 ((10 : Nat) : Int)]) rfl (few_ca bl b 10 (by decide) w2 (hb.keep hK2 (fun _ _ h => h)) hb8) rfl ?_
  rintro v yu ⟨hfw, hkyu⟩
  have hle := namesF_le bl 10
  refine wr_call (vs := [v]) rfl (ofO_ca (namesF bl 10) v yu (SlR.of_own hfw) (by omega) (namesF_ok bl 10)) rfl ?_
  rintro sv yv ⟨hsv, hkyv⟩
  obtain ⟨y, hye⟩ : ∃ W, W = ofP (namesF bl 10) := ⟨_, rfl⟩
  have hyf : Fine y := by rw [hye]; exact ofP_fine _
  have hyl : (y).2.length ≤ 10 := by rw [hye]; have := ofP_le (namesF bl 10); omega
  rw [← hye] at hsv
  obtain ⟨yn, rfl, hyo⟩ := hsv
  have hyR : SetR yv y (SetV (y).1 yn) := ⟨yn, rfl, SlR.of_own hyo⟩
  clear hye hfw hyo
  have hky := hkyu.trans hkyv
  (repeat first | (apply wr_alloc; exact rfl))
  refine wr_storeAll (cs := [.bool y.1, yn]) rfl rfl rfl (by intro u hu; simp at hu; rcases hu with rfl | rfl; rfl; exact hyR.one.1) (heap_alloc_same _ _) rfl rfl ?_
  refine wr_name ?_
  intro w3 hww3
  obtain ⟨bw3, hbw3⟩ : ∃ b, b = (yv).heap.size := ⟨_, rfl⟩
  have hkw3 : Keeps NoB yv w3 := by rw [hww3]; exact ((Keeps.refl NoB yv).alloc _).put _ (fun h => by omega)
  have hcw3 : (w3).heap[bw3]? = some (.cells ([.bool y.1, yn]).toArray 41 (0, 0)) := by rw [hww3, hbw3]; exact World.putObj_heap_same (by simp)
  rw [← hbw3]
  clear hww3
  have hk23 := hky.trans hkw3
  have hxR := hxR.keep hk23
  have hyR := hyR.keep hkw3
  have hcx3 := hk23.heap hcw2 (fun h => h)
  have hK3 := hK2.trans hk23
  (repeat first | (apply wr_move; exact rfl; with_reducible (conv => enter [6, 3]; whnf)) | apply wr_end | apply wc_seq | apply wc_region)
  refine wr_call (vs := [c, .int .i64 ((10 : Nat) : Int)]) rfl (few_ca cl c 10 (by decide) w3 (hc.keep hK3 (fun _ _ h => h)) hc8) rfl ?_
  rintro v zu ⟨hfw, hkzu⟩
  have hle := namesF_le cl 10
  refine wr_call (vs := [v]) rfl (ofO_ca (namesF cl 10) v zu (SlR.of_own hfw) (by omega) (namesF_ok cl 10)) rfl ?_
  rintro sv zv ⟨hsv, hkzv⟩
  obtain ⟨z, hze⟩ : ∃ W, W = ofP (namesF cl 10) := ⟨_, rfl⟩
  have hzf : Fine z := by rw [hze]; exact ofP_fine _
  have hzl : (z).2.length ≤ 10 := by rw [hze]; have := ofP_le (namesF cl 10); omega
  rw [← hze] at hsv
  obtain ⟨zn, rfl, hzo⟩ := hsv
  have hzR : SetR zv z (SetV (z).1 zn) := ⟨zn, rfl, SlR.of_own hzo⟩
  clear hze hfw hzo
  have hkz := hkzu.trans hkzv
  (repeat first | (apply wr_alloc; exact rfl))
  refine wr_storeAll (cs := [.bool z.1, zn]) rfl rfl rfl (by intro u hu; simp at hu; rcases hu with rfl | rfl; rfl; exact hzR.one.1) (heap_alloc_same _ _) rfl rfl ?_
  refine wr_name ?_
  intro w4 hww4
  obtain ⟨bw4, hbw4⟩ : ∃ b, b = (zv).heap.size := ⟨_, rfl⟩
  have hkw4 : Keeps NoB zv w4 := by rw [hww4]; exact ((Keeps.refl NoB zv).alloc _).put _ (fun h => by omega)
  have hcw4 : (w4).heap[bw4]? = some (.cells ([.bool z.1, zn]).toArray 41 (0, 0)) := by rw [hww4, hbw4]; exact World.putObj_heap_same (by simp)
  rw [← hbw4]
  clear hww4
  have hk34 := hkz.trans hkw4
  have hxR4 := hxR.keep hk34
  have hyR4 := hyR.keep hk34
  have hzR4 := hzR.keep hkw4
  have hcx4 := hk34.heap hcx3 (fun h => h)
  have hcy4 := hk34.heap hcw3 (fun h => h)
  have hK4 := hK3.trans hk34
  have hk14 := (hk12.trans hk23).trans hk34
  have h4 := h1.keepN hk14
  have hg4 := hg1.keep hk14
  -- what all want, step by step
  obtain ⟨Wa, hWa⟩ : ∃ W, W = updW noW (1, ((1 : Nat) : Int)) x := ⟨_, rfl⟩
  obtain ⟨Wb, hWb⟩ : ∃ W, W = updW Wa (2, ((1 : Nat) : Int)) y := ⟨_, rfl⟩
  obtain ⟨Wc, hWc⟩ : ∃ W, W = updW Wb (1, ((1 : Nat) : Int)) z := ⟨_, rfl⟩
  have haf : ∀ t, Fine (Wa t) := by rw [hWa]; exact updW_fine noW_fine _ hxf
  have hUa : (unionK Wa 1).2.length ≤ 10 := by
    rw [hWa, unionK_add noW_fine (by decide) rfl hxf rfl, unionK_no]
    have := union2_le noneP x
    simp only [noneP, List.length_nil] at this
    show (unionP [noneP, x]).2.length ≤ 10
    unfold noneP
    omega
  have hWa2 : Wa (2, ((1 : Nat) : Int)) = noneP := by rw [hWa]; exact updW_ne _ (by decide)
  have hUb : (unionK Wb 1).2.length ≤ 20 := by
    rw [hWb, unionK_add haf (by decide) hWa2 hyf rfl]
    have := union2_le (unionK Wa 1) y
    omega
  have hWb1 : Wb (1, ((1 : Nat) : Int)) = x := by rw [hWb, updW_ne _ (by decide), hWa, updW_get]
  have hUc : (unionK Wc 1).2.length ≤ 20 := by
    have e : Wc = updW (updW noW (1, ((1 : Nat) : Int)) z) (2, ((1 : Nat) : Int)) y := by
      rw [hWc, hWb, hWa, updW_comm _ _ (show ((2 : Int), ((1 : Nat) : Int)) ≠ (1, ((1 : Nat) : Int)) by decide), updW_upd]
    rw [e, unionK_add (updW_fine noW_fine _ hzf) (by decide) (updW_ne _ (by decide)) hyf rfl, unionK_add noW_fine (by decide) rfl hzf rfl, unionK_no]
    have h1 := union2_le noneP z
    have h2 := union2_le (unionP [noneP, z]) y
    simp only [noneP, List.length_nil] at h1
    unfold noneP at h2 ⊢
    omega
  have hbx : updW Wb (1, ((1 : Nat) : Int)) x = Wb := updW_same hWb1
  have hcx : updW Wc (1, ((1 : Nat) : Int)) x = Wb := by rw [hWc, updW_upd, hbx]
  (repeat first | (apply wr_move; exact rfl; with_reducible (conv => enter [6, 3]; whnf)) | apply wr_end | apply wc_seq | apply wc_region)
  refine wr_loadAll (cs := [.bool x.1, xn]) rfl rfl rfl hcx4 rfl ?_
  refine wr_call (vs := [.pointer (some ⟨ab, 0, none⟩), .int .i64 1, .int .i64 1, SetV x.1 xn]) rfl (setM_ok h4 hg4 (id := 1) (k := 1) (by decide) hxR4 hxf (by omega) (fits_of (by omega) (by rw [← hWa]; omega))) rfl ?_
  rintro v w5 ⟨⟨h5, _, _, rfl, _, _⟩, hk5⟩
  rw [← hWa] at h5
  have nc4 := mD_nc h4
  have hg5 := hg4.keepD hk5 nc4
  have hcx5 := heap_keepM hcx4 hk5 nc4
  have hcy5 := heap_keepM hcy4 hk5 nc4
  have hcz5 := heap_keepM hcw4 hk5 nc4
  have hxR5 := hxR4.keepM hk5 nc4
  have hyR5 := hyR4.keepM hk5 nc4
  have hzR5 := hzR4.keepM hk5 nc4
  have hK5 : Keeps NoB w w5 := hK4.trans' hk5 (fun i hi e => hmD i hi e)
  (repeat first | (apply wr_move; exact rfl; with_reducible (conv => enter [6, 3]; whnf)) | apply wr_end | apply wc_seq | apply wc_region)
  refine wr_loadAll (cs := [.bool y.1, yn]) rfl rfl rfl hcy5 rfl ?_
  refine wr_call (vs := [.pointer (some ⟨ab, 0, none⟩), .int .i64 2, .int .i64 1, SetV y.1 yn]) rfl (setM_ok h5 hg5 (id := 2) (k := 1) (by decide) hyR5 hyf (by omega) (fits_of (by omega) (by rw [← hWb]; omega))) rfl ?_
  rintro v w6 ⟨⟨h6, _, _, rfl, _, _⟩, hk6⟩
  rw [← hWb] at h6
  have nc5 := mD_nc h5
  have hg6 := hg5.keepD hk6 nc5
  have hcx6 := heap_keepM hcx5 hk6 nc5
  have hcz6 := heap_keepM hcz5 hk6 nc5
  have hxR6 := hxR5.keepM hk6 nc5
  have hzR6 := hzR5.keepM hk6 nc5
  have hK6 : Keeps NoB w w6 := hK5.trans' hk6 (fun i hi e => hmD i hi e)
  (repeat first | (apply wr_move; exact rfl; with_reducible (conv => enter [6, 3]; whnf)) | apply wr_end | apply wc_seq | apply wc_region)
  refine wr_call (vs := [.pointer (some ⟨ab, 0, none⟩), .int .i64 1]) rfl (unionM_ca h6 1 (by decide) (by decide)) rfl ?_
  rintro v w7 ⟨⟨un, rfl, hun⟩, hk7⟩
  obtain ⟨U, hU⟩ : ∃ U, U = unionK Wb 1 := ⟨_, rfl⟩
  obtain ⟨V, hV⟩ : ∃ U, U = unionK Wc 1 := ⟨_, rfl⟩
  rw [← hU] at hun hUb ⊢
  rw [← hV] at hUc
  have huR7 : SetR w7 U (SetV U.1 un) := ⟨un, rfl, SlR.of_own hun⟩
  (repeat first | (apply wr_alloc; exact rfl))
  refine wr_storeAll (cs := [.bool U.1, un]) rfl rfl rfl (by intro u hu; simp at hu; rcases hu with rfl | rfl; rfl; exact huR7.one.1) (heap_alloc_same _ _) rfl rfl ?_
  refine wr_name ?_
  intro w8 hww8
  obtain ⟨bw8, hbw8⟩ : ∃ b, b = (w7).heap.size := ⟨_, rfl⟩
  have hkw8 : Keeps NoB w7 w8 := by rw [hww8]; exact ((Keeps.refl NoB w7).alloc _).put _ (fun h => by omega)
  have hcw8 : (w8).heap[bw8]? = some (.cells ([.bool U.1, un]).toArray 41 (0, 0)) := by rw [hww8, hbw8]; exact World.putObj_heap_same (by simp)
  rw [← hbw8]
  clear hww8
  have hk68 := hk7.trans hkw8
  have h8 := h6.keepN hk68
  have hg8 := hg6.keep hk68
  have hcx8 := hk68.heap hcx6 (fun h => h)
  have hcz8 := hk68.heap hcz6 (fun h => h)
  have hxR8 := hxR6.keep hk68
  have hzR8 := hzR6.keep hk68
  have huR8 := huR7.keep hkw8
  have hK8 := hK6.trans hk68
  (repeat first | (apply wr_move; exact rfl; with_reducible (conv => enter [6, 3]; whnf)) | apply wr_end | apply wc_seq | apply wc_region)
  refine wr_loadAll (cs := [.bool x.1, xn]) rfl rfl rfl hcx8 rfl ?_
  refine wr_call (vs := [.pointer (some ⟨ab, 0, none⟩), .int .i64 1, .int .i64 1, SetV x.1 xn]) rfl (setM_ok h8 hg8 (id := 1) (k := 1) (by decide) hxR8 hxf (by omega) (fits_of (by omega) (by rw [hbx, ← hU]; omega))) rfl ?_
  rintro v w9 ⟨⟨h9, m1, l1, rfl, hm1, hl1⟩, hk9⟩
  rw [hbx] at h9 hm1 hl1 ⊢
  rw [← hU, less_self] at hm1 hl1 ⊢
  have nc8 := mD_nc h8
  have hg9 := hg8.keepD hk9 nc8
  have hcx9 := heap_keepM hcx8 hk9 nc8
  have hcz9 := heap_keepM hcz8 hk9 nc8
  have hcu9 := heap_keepM hcw8 hk9 nc8
  have hxR9 := hxR8.keepM hk9 nc8
  have hzR9 := hzR8.keepM hk9 nc8
  have huR9 := huR8.keepM hk9 nc8
  have hK9 : Keeps NoB w w9 := hK8.trans' hk9 (fun i hi e => hmD i hi e)
  apply wr_move; exact rfl; with_reducible (conv => enter [6, 3]; whnf)
  apply wr_extract; (iterate 3 exact rfl); with_reducible (conv => enter [6, 3]; whnf)
  apply wr_extract; (iterate 3 exact rfl); with_reducible (conv => enter [6, 3]; whnf)
  apply wr_extract; (iterate 3 exact rfl); with_reducible (conv => enter [6, 3]; whnf)
  apply wr_alloc
  focus exact rfl
  refine wr_name ?_
  intro wxa hwwxa
  obtain ⟨bwxa, hbwxa⟩ : ∃ b, b = (w9).heap.size := ⟨_, rfl⟩
  have hkwxa : Keeps NoB w9 wxa := by rw [hwwxa]; exact (Keeps.refl NoB w9).alloc _
  have hcwxa : (wxa).heap[bwxa]? = some (.cells ([.bool false, nilV]).toArray 41 (0, 0)) := by rw [hwwxa, hbwxa]; exact heap_alloc_same _ _
  rw [← hbwxa]
  clear hwwxa
  apply wr_alloc
  focus exact rfl
  refine wr_name ?_
  intro wxb hwwxb
  obtain ⟨bwxb, hbwxb⟩ : ∃ b, b = (wxa).heap.size := ⟨_, rfl⟩
  have hkwxb : Keeps NoB wxa wxb := by rw [hwwxb]; exact (Keeps.refl NoB wxa).alloc _
  have hcwxb : (wxb).heap[bwxb]? = some (.cells ([.bool false, nilV]).toArray 41 (0, 0)) := by rw [hwwxb, hbwxb]; exact heap_alloc_same _ _
  rw [← hbwxb]
  clear hwwxb
  have hcawx := hkwxb.heap hcwxa (fun h => h)
  have hlrwx := lt_of_heap hcwxa
  refine wr_storeAll (cs := [.bool false, m1]) rfl rfl rfl (by intro u hu; simp at hu; rcases hu with rfl | rfl; rfl; exact hm1.one.1) hcawx (rfl) (rfl) ?_
  refine wr_name ?_
  intro wxc hwwxc
  have hkwxc : Keeps (· = bwxa) wxb wxc := by rw [hwwxc]; exact (Keeps.refl _ wxb).put _ (fun _ => rfl)
  have hcwxc : (wxc).heap[bwxa]? = some (.cells ([.bool false, m1]).toArray 41 (0, 0)) := by rw [hwwxc]; exact World.putObj_heap_same (lt_of_heap hcawx)
  clear hwwxc
  have hcbwx := hkwxc.heap hcwxb (fun e => by omega)
  refine wr_storeAll (cs := [.bool false, l1]) rfl rfl rfl (by intro u hu; simp at hu; rcases hu with rfl | rfl; rfl; exact hl1.one.1) hcbwx (rfl) (rfl) ?_
  refine wr_name ?_
  intro wxd hwwxd
  have hkwxd : Keeps (· = bwxb) wxc wxd := by rw [hwwxd]; exact (Keeps.refl _ wxc).put _ (fun _ => rfl)
  have hcwxd : (wxd).heap[bwxb]? = some (.cells ([.bool false, l1]).toArray 41 (0, 0)) := by rw [hwwxd]; exact World.putObj_heap_same (lt_of_heap hcbwx)
  clear hwwxd
  have hccwx := hkwxd.heap hcwxc (fun e => by omega)
  have hkkwx : Keeps NoB w9 wxd := ((hkwxa.trans hkwxb).trans' hkwxc (fun i hi e => by omega)).trans' hkwxd (fun i hi e => by omega)
  have ha' := h9.keepN hkkwx
  have hga := hg9.keep hkkwx
  have hcxa := hkkwx.heap hcx9 (fun h => h)
  have hcza := hkkwx.heap hcz9 (fun h => h)
  have hcua := hkkwx.heap hcu9 (fun h => h)
  have hxRa := hxR9.keep hkkwx
  have hzRa := hzR9.keep hkkwx
  have huRa := huR9.keep hkkwx
  have hm1a := hm1.keep hkkwx
  have hl1a := hl1.keep hkkwx
  have hKa := hK9.trans hkkwx
  (repeat first | (apply wr_move; exact rfl; with_reducible (conv => enter [6, 3]; whnf)) | (apply wr_assign; exact rfl; with_reducible (conv => enter [6, 3]; whnf)) | apply wr_end | apply wc_seq | apply wc_region)
  refine wr_loadAll (cs := [.bool z.1, zn]) rfl rfl rfl hcza rfl ?_
  refine wr_call (vs := [.pointer (some ⟨ab, 0, none⟩), .int .i64 1, .int .i64 1, SetV z.1 zn]) rfl (setM_ok ha' hga (id := 1) (k := 1) (by decide) hzRa hzf (by omega) (fits_of (by omega) (by rw [← hWc, ← hV]; omega))) rfl ?_
  rintro v wb' ⟨⟨hb', m2, l2, rfl, hm2, hl2⟩, hkb⟩
  rw [← hWc] at hb' hm2 hl2 ⊢
  rw [← hU, ← hV] at hm2 hl2 ⊢
  have nca := mD_nc ha'
  have hgb := hga.keepD hkb nca
  have hcxb := heap_keepM hcxa hkb nca
  have hcub := heap_keepM hcua hkb nca
  have hxRb := hxRa.keepM hkb nca
  have huRb := huRa.keepM hkb nca
  have hm1b := hm1a.keepM hkb nca
  have hl1b := hl1a.keepM hkb nca
  have hc1b := heap_keepM hccwx hkb nca
  have hd1b := heap_keepM hcwxd hkb nca
  have hKb : Keeps NoB w wb' := hKa.trans' hkb (fun i hi e => hmD i hi e)
  apply wr_move; exact rfl; with_reducible (conv => enter [6, 3]; whnf)
  apply wr_extract; (iterate 3 exact rfl); with_reducible (conv => enter [6, 3]; whnf)
  apply wr_extract; (iterate 3 exact rfl); with_reducible (conv => enter [6, 3]; whnf)
  apply wr_extract; (iterate 3 exact rfl); with_reducible (conv => enter [6, 3]; whnf)
  apply wr_alloc
  focus exact rfl
  refine wr_name ?_
  intro wya hwwya
  obtain ⟨bwya, hbwya⟩ : ∃ b, b = (wb').heap.size := ⟨_, rfl⟩
  have hkwya : Keeps NoB wb' wya := by rw [hwwya]; exact (Keeps.refl NoB wb').alloc _
  have hcwya : (wya).heap[bwya]? = some (.cells ([.bool false, nilV]).toArray 41 (0, 0)) := by rw [hwwya, hbwya]; exact heap_alloc_same _ _
  rw [← hbwya]
  clear hwwya
  apply wr_alloc
  focus exact rfl
  refine wr_name ?_
  intro wyb hwwyb
  obtain ⟨bwyb, hbwyb⟩ : ∃ b, b = (wya).heap.size := ⟨_, rfl⟩
  have hkwyb : Keeps NoB wya wyb := by rw [hwwyb]; exact (Keeps.refl NoB wya).alloc _
  have hcwyb : (wyb).heap[bwyb]? = some (.cells ([.bool false, nilV]).toArray 41 (0, 0)) := by rw [hwwyb, hbwyb]; exact heap_alloc_same _ _
  rw [← hbwyb]
  clear hwwyb
  have hcawy := hkwyb.heap hcwya (fun h => h)
  have hlrwy := lt_of_heap hcwya
  refine wr_storeAll (cs := [.bool (lessP V U).1, m2]) rfl rfl rfl (by intro u hu; simp at hu; rcases hu with rfl | rfl; rfl; exact hm2.one.1) hcawy (rfl) (rfl) ?_
  refine wr_name ?_
  intro wyc hwwyc
  have hkwyc : Keeps (· = bwya) wyb wyc := by rw [hwwyc]; exact (Keeps.refl _ wyb).put _ (fun _ => rfl)
  have hcwyc : (wyc).heap[bwya]? = some (.cells ([.bool (lessP V U).1, m2]).toArray 41 (0, 0)) := by rw [hwwyc]; exact World.putObj_heap_same (lt_of_heap hcawy)
  clear hwwyc
  have hcbwy := hkwyc.heap hcwyb (fun e => by omega)
  refine wr_storeAll (cs := [.bool (lessP U V).1, l2]) rfl rfl rfl (by intro u hu; simp at hu; rcases hu with rfl | rfl; rfl; exact hl2.one.1) hcbwy (rfl) (rfl) ?_
  refine wr_name ?_
  intro wyd hwwyd
  have hkwyd : Keeps (· = bwyb) wyc wyd := by rw [hwwyd]; exact (Keeps.refl _ wyc).put _ (fun _ => rfl)
  have hcwyd : (wyd).heap[bwyb]? = some (.cells ([.bool (lessP U V).1, l2]).toArray 41 (0, 0)) := by rw [hwwyd]; exact World.putObj_heap_same (lt_of_heap hcbwy)
  clear hwwyd
  have hccwy := hkwyd.heap hcwyc (fun e => by omega)
  have hkkwy : Keeps NoB wb' wyd := ((hkwya.trans hkwyb).trans' hkwyc (fun i hi e => by omega)).trans' hkwyd (fun i hi e => by omega)
  have hc' := hb'.keepN hkkwy
  have hgc := hgb.keep hkkwy
  have hcxc := hkkwy.heap hcxb (fun h => h)
  have hcuc := hkkwy.heap hcub (fun h => h)
  have hc1c := hkkwy.heap hc1b (fun h => h)
  have hd1c := hkkwy.heap hd1b (fun h => h)
  have hxRc := hxRb.keep hkkwy
  have huRc := huRb.keep hkkwy
  have hm1c := hm1b.keep hkkwy
  have hl1c := hl1b.keep hkkwy
  have hm2c := hm2.keep hkkwy
  have hl2c := hl2.keep hkkwy
  have hKc := hKb.trans hkkwy
  (repeat first | (apply wr_move; exact rfl; with_reducible (conv => enter [6, 3]; whnf)) | (apply wr_assign; exact rfl; with_reducible (conv => enter [6, 3]; whnf)) | apply wr_end | apply wc_seq | apply wc_region)
  refine wr_loadAll (cs := [.bool x.1, xn]) rfl rfl rfl hcxc rfl ?_
  refine wr_call (vs := [.pointer (some ⟨ab, 0, none⟩), .int .i64 1, .int .i64 1, SetV x.1 xn]) rfl (setM_ok hc' hgc (id := 1) (k := 1) (by decide) hxRc hxf (by omega) (fits_of (by omega) (by rw [hcx, ← hU]; omega))) rfl ?_
  rintro v wd ⟨⟨hd', m3, l3, rfl, hm3, hl3⟩, hkd⟩
  rw [hcx] at hd' hm3 hl3 ⊢
  rw [← hU, ← hV] at hm3 hl3 ⊢
  have ncc := mD_nc hc'
  have hcud := heap_keepM hcuc hkd ncc
  have huRd := huRc.keepM hkd ncc
  have hm1d := hm1c.keepM hkd ncc
  have hl1d := hl1c.keepM hkd ncc
  have hm2d := hm2c.keepM hkd ncc
  have hl2d := hl2c.keepM hkd ncc
  have hc1d := heap_keepM hc1c hkd ncc
  have hd1d := heap_keepM hd1c hkd ncc
  have hc2d := heap_keepM hccwy hkd ncc
  have hd2d := heap_keepM hcwyd hkd ncc
  have hKd : Keeps NoB w wd := hKc.trans' hkd (fun i hi e => hmD i hi e)
  apply wr_move; exact rfl; with_reducible (conv => enter [6, 3]; whnf)
  apply wr_extract; (iterate 3 exact rfl); with_reducible (conv => enter [6, 3]; whnf)
  apply wr_extract; (iterate 3 exact rfl); with_reducible (conv => enter [6, 3]; whnf)
  apply wr_extract; (iterate 3 exact rfl); with_reducible (conv => enter [6, 3]; whnf)
  apply wr_alloc
  focus exact rfl
  refine wr_name ?_
  intro wea hwwea
  obtain ⟨bwea, hbwea⟩ : ∃ b, b = (wd).heap.size := ⟨_, rfl⟩
  have hkwea : Keeps NoB wd wea := by rw [hwwea]; exact (Keeps.refl NoB wd).alloc _
  have hcwea : (wea).heap[bwea]? = some (.cells ([.bool false, nilV]).toArray 41 (0, 0)) := by rw [hwwea, hbwea]; exact heap_alloc_same _ _
  rw [← hbwea]
  clear hwwea
  apply wr_alloc
  focus exact rfl
  refine wr_name ?_
  intro web hwweb
  obtain ⟨bweb, hbweb⟩ : ∃ b, b = (wea).heap.size := ⟨_, rfl⟩
  have hkweb : Keeps NoB wea web := by rw [hwweb]; exact (Keeps.refl NoB wea).alloc _
  have hcweb : (web).heap[bweb]? = some (.cells ([.bool false, nilV]).toArray 41 (0, 0)) := by rw [hwweb, hbweb]; exact heap_alloc_same _ _
  rw [← hbweb]
  clear hwweb
  have hcawe := hkweb.heap hcwea (fun h => h)
  have hlrwe := lt_of_heap hcwea
  refine wr_storeAll (cs := [.bool (lessP U V).1, m3]) rfl rfl rfl (by intro u hu; simp at hu; rcases hu with rfl | rfl; rfl; exact hm3.one.1) hcawe (rfl) (rfl) ?_
  refine wr_name ?_
  intro wec hwwec
  have hkwec : Keeps (· = bwea) web wec := by rw [hwwec]; exact (Keeps.refl _ web).put _ (fun _ => rfl)
  have hcwec : (wec).heap[bwea]? = some (.cells ([.bool (lessP U V).1, m3]).toArray 41 (0, 0)) := by rw [hwwec]; exact World.putObj_heap_same (lt_of_heap hcawe)
  clear hwwec
  have hcbwe := hkwec.heap hcweb (fun e => by omega)
  refine wr_storeAll (cs := [.bool (lessP V U).1, l3]) rfl rfl rfl (by intro u hu; simp at hu; rcases hu with rfl | rfl; rfl; exact hl3.one.1) hcbwe (rfl) (rfl) ?_
  refine wr_name ?_
  intro wed hwwed
  have hkwed : Keeps (· = bweb) wec wed := by rw [hwwed]; exact (Keeps.refl _ wec).put _ (fun _ => rfl)
  have hcwed : (wed).heap[bweb]? = some (.cells ([.bool (lessP V U).1, l3]).toArray 41 (0, 0)) := by rw [hwwed]; exact World.putObj_heap_same (lt_of_heap hcbwe)
  clear hwwed
  have hccwe := hkwed.heap hcwec (fun e => by omega)
  have hkkwe : Keeps NoB wd wed := ((hkwea.trans hkweb).trans' hkwec (fun i hi e => by omega)).trans' hkwed (fun i hi e => by omega)
  have hde := hd'.keepN hkkwe
  have hcue := hkkwe.heap hcud (fun h => h)
  have hc1e := hkkwe.heap hc1d (fun h => h)
  have hd1e := hkkwe.heap hd1d (fun h => h)
  have hc2e := hkkwe.heap hc2d (fun h => h)
  have hd2e := hkkwe.heap hd2d (fun h => h)
  have huRe := huRd.keep hkkwe
  have hm1e := hm1d.keep hkkwe
  have hl1e := hl1d.keep hkkwe
  have hm2e := hm2d.keep hkkwe
  have hl2e := hl2d.keep hkkwe
  have hm3e := hm3.keep hkkwe
  have hl3e := hl3.keep hkkwe
  have hKe := hKd.trans hkkwe
  have hEm : (!(false, ([] : TX)).1 && decide ((false, ([] : TX)).2.length = 0)) = true := rfl
  have hUV := lessP_le U V
  have hVU := lessP_le V U
  have hk0 : ∀ {w'}, Keeps NoB wed.drew w' → Keeps NoB wed w' := fun hk => (Keeps.refl NoB wed).drew.trans hk
  (repeat first | (apply wr_assign; exact rfl; with_reducible (conv => enter [6, 3]; whnf)) | apply wr_end | apply wc_seq)
  refine wc_drawP (l := _) 38 _ (by kernel_rfl) (by kernel_rfl) rfl (by kernel_rfl) (by kernel_rfl) (by decide) ?_
  apply chP_pure
  focus
    intro xx w' hk hF
    apply wr_move; exact rfl; with_reducible (conv => enter [6, 3]; whnf)
    apply wr_nil
    exact ⟨rfl, Keeps.refl _ _⟩
  focus (intro xx yy h; rfl)
  focus kernel_rfl
  apply chP_pure
  focus
    intro xx w' hk hF
    apply wr_move; exact rfl; with_reducible (conv => enter [6, 3]; whnf)
    apply wr_nil
    exact ⟨rfl, Keeps.refl _ _⟩
  focus (intro xx yy h; rfl)
  focus kernel_rfl
  apply chP_pure
  focus
    intro xx w' hk hF
    apply wr_move; exact rfl; with_reducible (conv => enter [6, 3]; whnf)
    apply wr_nil
    exact ⟨rfl, Keeps.refl _ _⟩
  focus (intro xx yy h; rfl)
  focus kernel_rfl
  apply chP_pure
  focus
    intro xx w' hk hF
    refine wr_cmp (c := true) rfl rfl rfl (cmpT (by dsimp only [cmpP])) ?_
    apply wr_nil
    exact ⟨rfl, Keeps.refl _ _⟩
  focus (intro xx yy h; rfl)
  focus kernel_rfl
  apply chP_pure
  focus
    intro xx w' hk hF
    apply wr_pick (t := true); (iterate 2 exact rfl); with_reducible (conv => enter [6, 3]; whnf)
    apply wr_nil
    exact ⟨rfl, Keeps.refl _ _⟩
  focus (intro xx yy h; rfl)
  focus kernel_rfl
  apply chP_pure
  focus
    intro xx w' hk hF
    apply wr_move; exact rfl; with_reducible (conv => enter [6, 3]; whnf)
    apply wr_nil
    exact ⟨rfl, Keeps.refl _ _⟩
  focus (intro xx yy h; rfl)
  focus kernel_rfl
  apply chP_pure
  focus
    intro xx w' hk hF
    apply wr_move; exact rfl; with_reducible (conv => enter [6, 3]; whnf)
    apply wr_nil
    exact ⟨rfl, Keeps.refl _ _⟩
  focus (intro xx yy h; rfl)
  focus kernel_rfl
  apply chP_pure
  focus
    intro xx w' hk hF
    refine wr_cmp (c := true) rfl rfl rfl (cmpT (by dsimp only [cmpP])) ?_
    apply wr_nil
    exact ⟨rfl, Keeps.refl _ _⟩
  focus (intro xx yy h; rfl)
  focus kernel_rfl
  apply chP_pure
  focus
    intro xx w' hk hF
    apply wr_pick (t := true); (iterate 2 exact rfl); with_reducible (conv => enter [6, 3]; whnf)
    apply wr_nil
    exact ⟨rfl, Keeps.refl _ _⟩
  focus (intro xx yy h; rfl)
  focus kernel_rfl
  apply chP_pure
  focus
    intro xx w' hk hF
    apply wr_move; exact rfl; with_reducible (conv => enter [6, 3]; whnf)
    apply wr_nil
    exact ⟨rfl, Keeps.refl _ _⟩
  focus (intro xx yy h; rfl)
  focus kernel_rfl
  apply chP_pure
  focus
    intro xx w' hk hF
    apply wr_move; exact rfl; with_reducible (conv => enter [6, 3]; whnf)
    apply wr_nil
    exact ⟨rfl, Keeps.refl _ _⟩
  focus (intro xx yy h; rfl)
  focus kernel_rfl
  apply chP_pure
  focus
    intro xx w' hk hF
    refine wr_cmp (c := true) rfl rfl rfl (cmpT (by dsimp only [cmpP])) ?_
    apply wr_nil
    exact ⟨rfl, Keeps.refl _ _⟩
  focus (intro xx yy h; rfl)
  focus kernel_rfl
  apply chP_pure
  focus
    intro xx w' hk hF
    apply wr_pick (t := true); (iterate 2 exact rfl); with_reducible (conv => enter [6, 3]; whnf)
    apply wr_nil
    exact ⟨rfl, Keeps.refl _ _⟩
  focus (intro xx yy h; rfl)
  focus kernel_rfl
  apply chP_pure
  focus
    intro xx w' hk hF
    apply wr_move; exact rfl; with_reducible (conv => enter [6, 3]; whnf)
    apply wr_nil
    exact ⟨rfl, Keeps.refl _ _⟩
  focus (intro xx yy h; rfl)
  focus kernel_rfl
  apply chP_pure
  focus
    intro xx w' hk hF
    refine wr_loadAll (cs := [.bool false, m1]) rfl rfl rfl ((hk0 hk).heap hc1e (fun h => h)) rfl ?_
    apply wr_nil
    exact ⟨rfl, Keeps.refl _ _⟩
  focus (intro xx yy h; rfl)
  focus kernel_rfl
  apply chP_pure
  focus
    intro xx w' hk hF
    refine wr_call (vs := [SetV false m1]) rfl (empty_cb true hEm (hm1e.keep (hk0 hk))) rfl ?_
    rintro v w'' ⟨rfl, hkc⟩
    apply wr_nil
    exact ⟨rfl, hkc⟩
  focus (intro xx yy h; rfl)
  focus kernel_rfl
  apply chP_pure
  focus
    intro xx w' hk hF
    apply wr_pick (t := true); (iterate 2 exact rfl); with_reducible (conv => enter [6, 3]; whnf)
    apply wr_nil
    exact ⟨rfl, Keeps.refl _ _⟩
  focus (intro xx yy h; rfl)
  focus kernel_rfl
  apply chP_pure
  focus
    intro xx w' hk hF
    apply wr_move; exact rfl; with_reducible (conv => enter [6, 3]; whnf)
    apply wr_nil
    exact ⟨rfl, Keeps.refl _ _⟩
  focus (intro xx yy h; rfl)
  focus kernel_rfl
  apply chP_pure
  focus
    intro xx w' hk hF
    refine wr_loadAll (cs := [.bool false, l1]) rfl rfl rfl ((hk0 hk).heap hd1e (fun h => h)) rfl ?_
    apply wr_nil
    exact ⟨rfl, Keeps.refl _ _⟩
  focus (intro xx yy h; rfl)
  focus kernel_rfl
  apply chP_pure
  focus
    intro xx w' hk hF
    refine wr_call (vs := [SetV false l1]) rfl (empty_cb true hEm (hl1e.keep (hk0 hk))) rfl ?_
    rintro v w'' ⟨rfl, hkc⟩
    apply wr_nil
    exact ⟨rfl, hkc⟩
  focus (intro xx yy h; rfl)
  focus kernel_rfl
  apply chP_pure
  focus
    intro xx w' hk hF
    apply wr_pick (t := true); (iterate 2 exact rfl); with_reducible (conv => enter [6, 3]; whnf)
    apply wr_nil
    exact ⟨rfl, Keeps.refl _ _⟩
  focus (intro xx yy h; rfl)
  focus kernel_rfl
  apply chP_pure
  focus
    intro xx w' hk hF
    apply wr_move; exact rfl; with_reducible (conv => enter [6, 3]; whnf)
    apply wr_nil
    exact ⟨rfl, Keeps.refl _ _⟩
  focus (intro xx yy h; rfl)
  focus kernel_rfl
  apply chP_pure
  focus
    intro xx w' hk hF
    refine wr_loadAll (cs := [.bool (lessP V U).1, m2]) rfl rfl rfl ((hk0 hk).heap hc2e (fun h => h)) rfl ?_
    apply wr_nil
    exact ⟨rfl, Keeps.refl _ _⟩
  focus (intro xx yy h; rfl)
  focus kernel_rfl
  apply chP_pure
  focus
    intro xx w' hk hF
    refine wr_loadAll (cs := [.bool (lessP V U).1, l3]) rfl rfl rfl ((hk0 hk).heap hcwed (fun h => h)) rfl ?_
    apply wr_nil
    exact ⟨rfl, Keeps.refl _ _⟩
  focus (intro xx yy h; rfl)
  focus kernel_rfl
  apply chP_pure
  focus
    intro xx w' hk hF
    refine wr_call (vs := [SetV (lessP V U).1 m2, SetV (lessP V U).1 l3]) rfl (same_cb true (sameP_self _) (hm2e.keep (hk0 hk)) (hl3e.keep (hk0 hk)) (by omega) (by omega)) rfl ?_
    rintro v w'' ⟨rfl, hkc⟩
    apply wr_nil
    exact ⟨rfl, hkc⟩
  focus (intro xx yy h; rfl)
  focus kernel_rfl
  apply chP_pure
  focus
    intro xx w' hk hF
    apply wr_pick (t := true); (iterate 2 exact rfl); with_reducible (conv => enter [6, 3]; whnf)
    apply wr_nil
    exact ⟨rfl, Keeps.refl _ _⟩
  focus (intro xx yy h; rfl)
  focus kernel_rfl
  apply chP_pure
  focus
    intro xx w' hk hF
    apply wr_move; exact rfl; with_reducible (conv => enter [6, 3]; whnf)
    apply wr_nil
    exact ⟨rfl, Keeps.refl _ _⟩
  focus (intro xx yy h; rfl)
  focus kernel_rfl
  apply chP_pure
  focus
    intro xx w' hk hF
    refine wr_loadAll (cs := [.bool (lessP U V).1, l2]) rfl rfl rfl ((hk0 hk).heap hd2e (fun h => h)) rfl ?_
    apply wr_nil
    exact ⟨rfl, Keeps.refl _ _⟩
  focus (intro xx yy h; rfl)
  focus kernel_rfl
  apply chP_pure
  focus
    intro xx w' hk hF
    refine wr_loadAll (cs := [.bool (lessP U V).1, m3]) rfl rfl rfl ((hk0 hk).heap hccwe (fun h => h)) rfl ?_
    apply wr_nil
    exact ⟨rfl, Keeps.refl _ _⟩
  focus (intro xx yy h; rfl)
  focus kernel_rfl
  apply chP_pure
  focus
    intro xx w' hk hF
    refine wr_call (vs := [SetV (lessP U V).1 l2, SetV (lessP U V).1 m3]) rfl (same_cb true (sameP_self _) (hl2e.keep (hk0 hk)) (hm3e.keep (hk0 hk)) (by omega) (by omega)) rfl ?_
    rintro v w'' ⟨rfl, hkc⟩
    apply wr_nil
    exact ⟨rfl, hkc⟩
  focus (intro xx yy h; rfl)
  focus kernel_rfl
  apply chP_pure
  focus
    intro xx w' hk hF
    apply wr_pick (t := true); (iterate 2 exact rfl); with_reducible (conv => enter [6, 3]; whnf)
    apply wr_nil
    exact ⟨rfl, Keeps.refl _ _⟩
  focus (intro xx yy h; rfl)
  focus kernel_rfl
  apply chP_pure
  focus
    intro xx w' hk hF
    apply wr_move; exact rfl; with_reducible (conv => enter [6, 3]; whnf)
    apply wr_nil
    exact ⟨rfl, Keeps.refl _ _⟩
  focus (intro xx yy h; rfl)
  focus kernel_rfl
  apply chP_pure
  focus
    intro xx w' hk hF
    apply wr_move; exact rfl; with_reducible (conv => enter [6, 3]; whnf)
    apply wr_nil
    exact ⟨rfl, Keeps.refl _ _⟩
  focus (intro xx yy h; rfl)
  focus kernel_rfl
  refine chP_fact (fun y => y) (fun y w' => SetR w' U y) (fun y w' w'' h k => h.keep k) ?_ ?_
  focus
    intro xx w' hk hF
    refine wr_call (vs := [.pointer (some ⟨ab, 0, none⟩), .int .i64 1]) rfl (unionR_ca (hde.keepN (hk0 hk)) 1 (by decide) (by decide) hU.symm) rfl ?_
    rintro v w'' ⟨hR, hkc⟩
    apply wr_nil
    exact ⟨v, rfl, hR, hkc⟩
  apply chP_pure
  focus
    intro xx w' hk hF
    refine wr_loadAll (cs := [.bool U.1, un]) rfl rfl rfl ((hk0 hk).heap hcue (fun h => h)) rfl ?_
    apply wr_nil
    exact ⟨rfl, Keeps.refl _ _⟩
  focus (intro xx yy h; rfl)
  focus kernel_rfl
  apply chP_pure
  focus
    intro xx w' hk hF
    refine wr_call (vs := [xx 33, SetV U.1 un]) rfl (same_cb true (sameP_self _) (hF 33 (by kernel_rfl)) (huRe.keep (hk0 hk)) (by omega) (by omega)) rfl ?_
    rintro v w'' ⟨rfl, hkc⟩
    apply wr_nil
    exact ⟨rfl, hkc⟩
  focus (intro xx yy h; rfl)
  focus kernel_rfl
  apply chP_pure
  focus
    intro xx w' hk hF
    apply wr_pick (t := true); (iterate 2 exact rfl); with_reducible (conv => enter [6, 3]; whnf)
    apply wr_nil
    exact ⟨rfl, Keeps.refl _ _⟩
  focus (intro xx yy h; rfl)
  focus kernel_rfl
  apply chP_pure
  focus
    intro xx w' hk hF
    apply wr_assign; exact rfl; with_reducible (conv => enter [6, 3]; whnf)
    apply wr_nil
    exact ⟨rfl, Keeps.refl _ _⟩
  focus (intro xx yy h; rfl)
  focus kernel_rfl
  refine chP_nil ?_
  intro xx wz hkz' hF
  clear hF
  have hkez := hk0 hkz'
  (repeat first | apply wr_end | (apply wc_ret; try simp only [thenE, inBlockE, bodyQ]))
  exact leave1 (v := .bool true) rfl rfl ⟨rfl, hKe.trans hkez⟩
end Go.Proofs.YtajajahofkialaaGreatDoor
