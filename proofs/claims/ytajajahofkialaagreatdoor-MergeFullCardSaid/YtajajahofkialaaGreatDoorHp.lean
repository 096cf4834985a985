/- MergeFull. -/
import Derived.Test.YtajajahofkialaaGreatDoorHn
namespace Go.Proofs.YtajajahofkialaaGreatDoor
open Go Go.V Go.RowKit
set_option linter.unusedVariables false
set_option linter.unusedSimpArgs false

/- The head: $1 after New. -/
/- A set of a few: $1 slice, $2 bytes, $3 world, $4 stem, $5 SlR, $6 bytes small, $7 how many. -/
def nmF (i : Nat) : TT := [UInt8.ofNat (97 + i / 20), UInt8.ofNat (97 + i % 20)]
def lstF (a n : Nat) : TX := (List.range n).map fun j => nmF (a + j)
def lstA : TX := lstF 0 180
theorem lstF_len (a n : Nat) : (lstF a n).length = n := by simp [lstF]
theorem lstF_sub {a n : Nat} (h : a + n ≤ 180) : lstF a n = (lstA.drop a).take n := by
  apply List.ext_getElem?
  intro i
  unfold lstA lstF
  rw [List.getElem?_take, List.getElem?_drop]
  by_cases hi : i < n
  · rw [if_pos hi]
    simp [hi, show a + i < 180 by omega]
  · rw [if_neg hi]
    simp [hi]
theorem lstA_rises : Rises lstA := by
  unfold Rises
  decide +kernel
theorem lstA_ok : ∀ x ∈ lstA, nameOk x := by decide +kernel
theorem sub_fine {l : TX} (h : l.Sublist lstA) : Fine (false, l) := ⟨lstA_rises.sublist h, fun x hx => lstA_ok x (h.subset hx)⟩
theorem lstF_fine {a n : Nat} (h : a + n ≤ 180) : Fine (false, lstF a n) := by
  rw [lstF_sub h]
  exact sub_fine ((List.take_sublist _ _).trans (List.drop_sublist _ _))
theorem two_fine {x y : Nat} (hx : x ≤ 100) (hy : y ≤ 80) : Fine (false, lstF 0 x ++ lstF 100 y) := by
  rw [lstF_sub (show 0 + x ≤ 180 by omega), lstF_sub (show 100 + y ≤ 180 by omega), List.drop_zero]
  refine sub_fine ?_
  have h1 : (lstA.take x).Sublist (lstA.take 100) := by
    rw [show lstA.take x = (lstA.take 100).take x by rw [List.take_take, Nat.min_eq_left hx]]
    exact List.take_sublist _ _
  have := List.Sublist.append h1 (List.take_sublist y (lstA.drop 100))
  rwa [List.take_append_drop] at this
theorem two_union {x y : Nat} (hx : x ≤ 100) (hy : y ≤ 80) : unionP [(false, lstF 0 x), (false, lstF 100 y)] = (false, lstF 0 x ++ lstF 100 y) := by
  refine fine_ext (union_fine2 (lstF_fine (by omega)) (lstF_fine (by omega))) (two_fine hx hy) (union_all2 _ _) fun z => ?_
  rw [mem_union2, List.mem_append]
theorem two_apart {x y : Nat} (hx : x ≤ 100) (hy : y ≤ 80) : ∀ z ∈ lstF 0 x, z ∉ lstF 100 y := by
  have h := (two_fine hx hy).1
  unfold Rises at h
  rw [List.pairwise_append] at h
  intro z h1 h2
  exact ltT_irrefl z (h.2.2 z h1 z h2)
theorem two_more {x y : Nat} (hx : x ≤ 100) (hy : y ≤ 80) : lessP (false, lstF 0 x ++ lstF 100 y) (false, lstF 0 x) = (false, lstF 100 y) := by
  refine fine_ext (lessP_fine (two_fine hx hy)) (lstF_fine (by omega)) rfl fun z => ?_
  rw [mem_lessP, List.mem_append]
  constructor
  · rintro ⟨h1 | h1, h2⟩
    · exact absurd h1 h2
    · exact h1
  · intro h1
    exact ⟨.inr h1, fun h2 => two_apart hx hy z h2 h1⟩
theorem two_less {x y : Nat} : lessP (false, lstF 0 x) (false, lstF 0 x ++ lstF 100 y) = noneP := by
  have h2 : (lessP (false, lstF 0 x) (false, lstF 0 x ++ lstF 100 y)).2 = [] := List.eq_nil_iff_forall_not_mem.2 fun z hz => by
    rw [mem_lessP] at hz
    exact hz.2 (List.mem_append_left _ hz.1)
  exact Prod.ext rfl h2
theorem chr2_bytes {i : Nat} (h : i < 180) : bytesV (nmF i) = [.int .u8 (97 + ((i / 20 : Nat) : Int)), .int .u8 (97 + ((i % 20 : Nat) : Int))] := by
  have h1 : ((UInt8.ofNat (97 + i / 20)).toNat : Int) = 97 + ((i / 20 : Nat) : Int) := by
    rw [UInt8.toNat_ofNat']
    omega
  have h2 : ((UInt8.ofNat (97 + i % 20)).toNat : Int) = 97 + ((i % 20 : Nat) : Int) := by
    rw [UInt8.toNat_ofNat']
    omega
  show [Value.int .u8 ((UInt8.ofNat (97 + i / 20)).toNat : Int), Value.int .u8 ((UInt8.ofNat (97 + i % 20)).toNat : Int)] = _
  rw [h1, h2]
set_option maxRecDepth 100000 in
set_option maxHeartbeats 4000000 in
theorem of1_ca (a n : Nat) (h : a + n ≤ 180) (w : World) : Ca Tryz.prog 36 #[.int .i64 (a : Int), .int .i64 (n : Int)] w fun v w' => SetR w' (false, lstF a n) v ∧ Keeps NoB w w' := by
  refine ca_of_body (args := [.int .i64 (a : Int), .int .i64 (n : Int)]) Tryz.func36 rfl (by kernel_rfl) ?_
  apply wc_seq
  apply wc_region
  apply wr_alloc
  focus exact rfl
  refine wr_name ?_
  intro w1 hww1
  obtain ⟨bw1, hbw1⟩ : ∃ b, b = (w).heap.size := ⟨_, rfl⟩
  have hkw1 : Keeps NoB w w1 := by rw [hww1]; exact (Keeps.refl NoB w).alloc _
  have hcw1 : (w1).heap[bw1]? = some (.cells ([.bool false, nilV]).toArray 41 (0, 0)) := by rw [hww1, hbw1]; exact heap_alloc_same _ _
  rw [← hbw1]
  clear hww1
  (repeat first | (apply wr_move; exact rfl; with_reducible (conv => enter [6, 3]; whnf)) | (apply wr_assign; exact rfl; with_reducible (conv => enter [6, 3]; whnf)) | apply wr_end | apply wc_seq | apply wc_region | apply wc_block)
  refine wc_loopL (α := Nat × Value) (fun p => [(0, .int .i64 (a : Int)), (1, .int .i64 (n : Int)), (4, .pointer (some ⟨bw1, 0, none⟩)), (5, p.2), (6, .int .i64 ((a + p.1 : Nat) : Int))])
    (fun p ds w' => ds = [] ∧ p.1 ≤ n ∧ w'.ownsRow w1.heap.size 9 1 p.2 p.1 (SL (lstF a p.1)) ∧ Keeps NoB w1 w') (fun p => n - p.1) (0, nilV)
    ⟨rfl, Nat.zero_le _, own_nilV _ _ _ _, Keeps.refl _ _⟩ ⟨rfl, rfl, rfl, rfl, rfl, trivial⟩ ?_
  rintro ⟨i, v⟩ ds f0 w2 ⟨rfl, hi, ho, hk02⟩
  dsimp only at hi ho ⊢
  by_cases hlt : i < n
  · have hi80 : a + i < 180 := by omega
    have hq : (a + i) / 20 ≤ 9 := by omega
    have hr : (a + i) % 20 < 20 := Nat.mod_lt _ (by decide)
    (repeat first | (apply wr_move; exact rfl; with_reducible (conv => enter [6, 3]; whnf)) | apply wr_end | apply wc_seq | apply wc_region | apply wc_skip | apply wc_block | (apply wr_cmp; (iterate 3 exact rfl); exact cmpT (by dsimp only [cmpP]; first | done | omega)) | (apply wr_add; (iterate 3 exact rfl); exact w_fit (by dsimp only [kIn]; first | done | omega)) | (apply wc_true; exact rfl))
    refine wr_quoN (n := a + i) (m := 20) rfl rfl rfl (by decide) (w_fit (by dsimp only [kIn]; omega)) ?_
    (repeat first | (apply wr_move; exact rfl; with_reducible (conv => enter [6, 3]; whnf)) | (apply wr_add; (iterate 3 exact rfl); exact w_fit (by dsimp only [kIn]; first | done | omega)) | (apply wr_conv; (iterate 2 exact rfl); exact w_fit (by dsimp only [kIn]; first | done | omega)))
    refine wr_remN (n := a + i) (m := 20) rfl rfl rfl (by decide) ?_
    (repeat first | (apply wr_add; (iterate 3 exact rfl); exact w_fit (by dsimp only [kIn]; first | done | omega)) | (apply wr_conv; (iterate 2 exact rfl); exact w_fit (by dsimp only [kIn]; first | done | omega)))
    refine wr_buildSlice (vs := [.int .u8 (97 + (((a + i) / 20 : Nat) : Int)), .int .u8 (97 + (((a + i) % 20 : Nat) : Int))]) rfl rfl (by intro v hv; simp at hv; rcases hv with rfl | rfl <;> rfl) rfl (by decide) (by decide) (by decide) ?_
    refine wr_name ?_
    intro w3 hw3
    have hk3 : Keeps NoB w2 w3 := by rw [hw3]; exact (Keeps.refl NoB w2).alloc _
    have hc3 : w3.heap[w2.heap.size]? = some (.cells (bytesV (nmF (a + i))).toArray 5 (0, 0)) := by rw [hw3, chr2_bytes hi80]; exact heap_alloc_same _ _
    clear hw3
    refine wr_bytes2str (n := 2) (l := nmF (a + i)) rfl rfl (slR_blk hc3 rfl) ?_
    refine wr_buildSlice (vs := [S (nmF (a + i))]) rfl rfl (by intro v hv; simp at hv; subst hv; rfl) rfl (by decide) (by decide) (by decide) ?_
    have hk4 : Keeps NoB w2 (w3.alloc (.cells (List.flatMap (fun v : Value => v.cells.toList) [S (nmF (a + i))]).toArray 9)) := hk3.alloc _
    have ho4 := own_keep ho hk4 (fun _ _ h => h)
    refine wr_append (base := w1.heap.size) (v := v) (n := i) (m := 1) (news := [S (nmF (a + i))]) rfl rfl ho4 rfl (heap_alloc_same _ _) rfl (by intro u hu; simp at hu; subst hu; rfl) rfl (by decide) (by omega) (by omega) (Nat.le_trans hk02.size hk4.size) ?_
    intro v5 w5 ho5 hk5 _
    have hk05 : Keeps NoB w1 w5 := (hk02.trans hk4).trans' hk5 (fun q hq e => by have := V.F.own_geF ho4 e; omega)
    (repeat first | (apply wr_move; exact rfl; with_reducible (conv => enter [6, 3]; whnf)) | (apply wr_assign; exact rfl; with_reducible (conv => enter [6, 3]; whnf)) | apply wr_end | apply wc_region | (apply wr_add; (iterate 3 exact rfl); exact w_fit (by dsimp only [kIn]; first | done | omega)) | (apply wr_nil; try simp only [thenE, inBlockE, bodyQ]))
    exact ⟨(i + 1, v5), by dsimp only; omega, ⟨by trivial, hlt, by
      have : SL (lstF a (i + 1)) = SL (lstF a i) ++ [S (nmF (a + i))] := by simp [SL, lstF, List.range_succ]
      rw [this]
      exact ho5, hk05⟩, rfl, rfl, rfl, rfl, rfl, trivial⟩
  have hik : i = n := by omega
  subst hik
  have hk01 := hkw1.trans hk02
  have hz1 := hkw1.size
  (repeat first | (apply wr_move; exact rfl; with_reducible (conv => enter [6, 3]; whnf)) | apply wr_end | apply wc_seq | apply wc_region | (apply wr_cmp; (iterate 3 exact rfl); exact cmpF (by dsimp only [cmpN]; first | done | omega)) | (apply wr_add; (iterate 3 exact rfl); exact w_fit (by dsimp only [kIn]; first | done | omega)) | (apply wc_false; exact rfl) | (apply wc_exit; try simp only [thenE, inBlockE, bodyQ, ↓reduceIte, Nat.reduceEqDiff]))
  refine wr_call (vs := [v]) rfl (ofO_ca (lstF a i) v w2 (by rw [lstF_len]; exact SlR.of_own ho) (by rw [lstF_len]; omega) (fun x hx => by have := nameOk_le ((lstF_fine h).2 x hx); omega)) rfl ?_
  rintro sv w4 ⟨hsv, hk4⟩
  have e : ofP (lstF a i) = (false, lstF a i) := ofP_listP (lstF_fine h)
  rw [e] at hsv
  obtain ⟨nv, rfl, hnv⟩ := hsv
  have hR : SetR w4 (false, lstF a i) (SetV false nv) := ⟨nv, rfl, SlR.of_own hnv⟩
  have hc4 := (hk02.trans hk4).heap hcw1 (fun h => h)
  refine wr_storeAll (cs := [.bool false, nv]) rfl rfl rfl (by intro u hu; simp at hu; rcases hu with rfl | rfl; rfl; exact own_one hnv) hc4 rfl rfl ?_
  (repeat first | apply wr_end | (apply wc_ret; try simp only [thenE, inBlockE, bodyQ]))
  exact leaveN (vs := [SetV false nv]) (resv_cells (cs := [.bool false, nv]) (e := 41) (fr := (0, 0)) rfl rfl (World.putObj_heap_same (lt_of_heap hc4)) rfl resv_nil) ⟨hR.put ((Keeps.refl (· = bw1) w4).put _ (fun _ => rfl)) hc4 (setCells_ne false nilV (fun t h => by cases h)), (hk01.trans hk4).trans' ((Keeps.refl (· = bw1) w4).put _ (fun _ => rfl)) (fun i hi e => by omega)⟩
set_option maxRecDepth 100000 in
set_option maxHeartbeats 16000000 in
theorem full_law (a b : Nat) (ha : a < 256) (hb : b < 256) {w : World} {p q : Addr} (hg : GloM w p q) : Ca Tryz.prog 7 #[.int .u8 (a : Int), .int .u8 (b : Int)] w fun v w' => v = .bool true ∧ Keeps NoB w w' := by
  refine ca_of_body (args := [.int .u8 (a : Int), .int .u8 (b : Int)]) Tryz.func7 rfl (by kernel_rfl) ?_
  (repeat first | (apply wr_assign; exact rfl; with_reducible (conv => enter [6, 3]; whnf)) | apply wr_end | apply wc_seq | apply wc_region)
  refine wr_call (vs := []) rfl (examples_ca hg) rfl ?_
  rintro v w0 ⟨rfl, hk0'⟩
  have hz0 := hk0'.size
  have hg0 := hg.keep hk0'
  (repeat first | (apply wr_move; exact rfl; with_reducible (conv => enter [6, 3]; whnf)) | (apply wr_assign; exact rfl; with_reducible (conv => enter [6, 3]; whnf)) | apply wr_end | apply wc_seq | apply wc_region | apply wc_skip | (apply wr_not; iterate 2 exact rfl) | (apply wc_false; exact rfl))
  refine wr_call (vs := []) rfl (newM_ca w0) rfl ?_
  rintro v w1 ⟨⟨ab, wb, cb, rfl, h1, hab, hwb, hcb⟩, hk1⟩
  have hmD : ∀ i, i < w.heap.size → ¬ mD wb cb i := fun i hi e => by
    rcases e with e | e
    · omega
    · have := hcb i e; omega
  have hK1 := hk0'.trans hk1
  have hg1 := hg0.keep hk1
  have hz1 := hK1.size
  (repeat first | (apply wr_move; exact rfl; with_reducible (conv => enter [6, 3]; whnf)) | (apply wr_assign; exact rfl; with_reducible (conv => enter [6, 3]; whnf)) | apply wr_end | apply wc_seq | apply wc_region)
  refine wr_ptrNil rfl rfl ?_
  (repeat first | (apply wr_move; exact rfl; with_reducible (conv => enter [6, 3]; whnf)) | (apply wr_assign; exact rfl; with_reducible (conv => enter [6, 3]; whnf)) | apply wr_end | apply wc_seq | apply wc_region | apply wc_skip | (apply wc_false; exact rfl))
  refine wr_remN (n := a) (m := 65) rfl rfl rfl (by decide) ?_
  have hx64 : a % 65 ≤ 64 := by have := Nat.mod_lt a (show 0 < 65 by decide); omega
  (repeat first | (apply wr_move; exact rfl; with_reducible (conv => enter [6, 3]; whnf)) | (apply wr_assign; exact rfl; with_reducible (conv => enter [6, 3]; whnf)) | apply wr_end | apply wc_seq | apply wc_region | (apply wr_conv; (iterate 2 exact rfl); exact w_fit (by dsimp only [kIn]; first | done | omega)))
  refine wr_remN (n := b) (m := 80) rfl rfl rfl (by decide) ?_
  have hy79 : b % 80 ≤ 79 := by have := Nat.mod_lt b (show 0 < 80 by decide); omega
  obtain ⟨x, hx⟩ : ∃ x, x = a % 65 := ⟨_, rfl⟩
  obtain ⟨y, hy⟩ : ∃ y, y = b % 80 := ⟨_, rfl⟩
  rw [← hx] at hx64 ⊢
  rw [← hy] at hy79 ⊢
  clear hx hy
  (repeat first | (apply wr_move; exact rfl; with_reducible (conv => enter [6, 3]; whnf)) | (apply wr_assign; exact rfl; with_reducible (conv => enter [6, 3]; whnf)) | apply wr_end | apply wc_seq | apply wc_region | (apply wr_conv; (iterate 2 exact rfl); exact w_fit (by dsimp only [kIn]; first | done | omega)))
  refine wr_callv (vs := [.int .i64 ((0 : Nat) : Int), .int .i64 (x : Int)]) rfl (callV_func (first := #[]) (cap := #[]) (by kernel_rfl) (of1_ca 0 x (by omega) w1)) rfl rfl ?_
  rintro v w2 ⟨hxR, hk2⟩
  have h2 := h1.keepN hk2
  have hg2 := hg1.keep hk2
  have hK2 := hK1.trans hk2
  obtain ⟨X, hX⟩ : ∃ X : PS, X = (false, lstF 0 x) := ⟨_, rfl⟩
  obtain ⟨Y, hY⟩ : ∃ Y : PS, Y = (false, lstF 100 y) := ⟨_, rfl⟩
  have hXf : Fine X := by rw [hX]; exact lstF_fine (by omega)
  have hYf : Fine Y := by rw [hY]; exact lstF_fine (by omega)
  have hXl : X.2.length = x := by rw [hX]; exact lstF_len 0 x
  have hYl : Y.2.length = y := by rw [hY]; exact lstF_len 100 y
  rw [← hX] at hxR
  obtain ⟨Wa, hWa⟩ : ∃ W, W = updW noW (2, ((1 : Nat) : Int)) X := ⟨_, rfl⟩
  obtain ⟨Wb, hWb⟩ : ∃ W, W = updW Wa (3, ((1 : Nat) : Int)) Y := ⟨_, rfl⟩
  have hUa : unionK Wa 1 = X := by rw [hWa, unionK_add noW_fine (by decide) rfl hXf rfl, unionK_no, union_none1 hXf]
  have hUb : unionK Wb 1 = (false, lstF 0 x ++ lstF 100 y) := by
    rw [hWb, unionK_add (by rw [hWa]; exact updW_fine noW_fine _ hXf) (by decide) (by rw [hWa]; exact updW_ne _ (by decide)) hYf rfl, hUa, hX, hY]
    exact two_union (by omega) (by omega)
  have hXL : (listP X).length = x := by rw [hX]; exact lstF_len 0 x
  have hYL : (listP Y).length = y := by rw [hY]; exact lstF_len 100 y
  have hfit1 : fitsS noW (2, ((1 : Nat) : Int)) 1 X = true := by
    unfold fitsS
    rw [← hWa, hUa, hXL, decide_eq_true hx64]
    rfl
  have hfit2 : fitsS Wa (3, ((1 : Nat) : Int)) 1 Y = decide (x + y ≤ 64) := by
    unfold fitsS
    rw [← hWb, hUb, hYL, show (listP (false, lstF 0 x ++ lstF 100 y)).length = x + y by show (lstF 0 x ++ lstF 100 y).length = _; rw [List.length_append, lstF_len, lstF_len]]
    by_cases h : x + y ≤ 64
    · rw [decide_eq_true (show y ≤ 64 by omega), decide_eq_true h]; rfl
    · rw [decide_eq_false h, Bool.and_false]
  refine wr_call (vs := [.pointer (some ⟨ab, 0, none⟩), .int .i64 2, .int .i64 1, v]) rfl (setM_ok h2 hg2 (id := 2) (k := 1) (by decide) hxR hXf (by omega) hfit1) rfl ?_
  rintro v w3 ⟨⟨h3, m1, l1, rfl, hm1, hl1⟩, hk3⟩
  rw [← hWa] at h3 hm1 hl1 ⊢
  rw [hUa, unionK_no] at hm1 hl1 ⊢
  rw [less_noneR] at hm1 ⊢
  rw [less_noneL] at hl1 ⊢
  have hg3 := hg2.keepD hk3 (mD_nc h2)
  have hK3 : Keeps NoB w w3 := hK2.trans' hk3 (fun i hi e => hmD i hi e)
  have hEm : (!(noneP).1 && decide ((noneP).2.length = 0)) = true := rfl
  by_cases hfit : x + y ≤ 64
  · rw [decide_eq_true hfit] at hfit2
    apply wr_move; exact rfl; with_reducible (conv => enter [6, 3]; whnf)
    apply wr_extract; (iterate 3 exact rfl); with_reducible (conv => enter [6, 3]; whnf)
    apply wr_extract; (iterate 3 exact rfl); with_reducible (conv => enter [6, 3]; whnf)
    apply wr_extract; (iterate 3 exact rfl); with_reducible (conv => enter [6, 3]; whnf)
    apply wr_alloc
    focus exact rfl
    refine wr_name ?_
    intro wxa hwwxa
    obtain ⟨bwxa, hbwxa⟩ : ∃ b, b = (w3).heap.size := ⟨_, rfl⟩
    have hkwxa : Keeps NoB w3 wxa := by rw [hwwxa]; exact (Keeps.refl NoB w3).alloc _
    have hcwxa : (wxa).heap[bwxa]? = some (.cells ([.bool false, nilV]).toArray 41 (0, 0)) := by rw [hwwxa, hbwxa]; exact heap_alloc_same _ _
    rw [← hbwxa]
    clear hwwxa
    apply wr_alloc
    focus exact rfl
    refine wr_name ?_
    intro wxb hwwxb
    obtain ⟨bwxb, hbwxb⟩ : ∃ b, b = (wxa).heap.size := ⟨_, rfl⟩
    have hkwxb : Keeps NoB wxa wxb := by rw [hwwxb]; exact (Keeps.refl NoB wxa).alloc _
    have hcwxb : (wxb).heap[bwxb]? = some (.cells ([.bool false, nilV]).toArray 41 (0, 0)) := by rw [hwwxb, hbwxb]; exact heap_alloc_same _ _
    rw [← hbwxb]
    clear hwwxb
    have hcawx := hkwxb.heap hcwxa (fun h => h)
    have hlrwx := lt_of_heap hcwxa
    refine wr_storeAll (cs := [.bool X.1, m1]) rfl rfl rfl (by intro u hu; simp at hu; rcases hu with rfl | rfl; rfl; exact hm1.one.1) hcawx (rfl) (rfl) ?_
    refine wr_name ?_
    intro wxc hwwxc
    have hkwxc : Keeps (· = bwxa) wxb wxc := by rw [hwwxc]; exact (Keeps.refl _ wxb).put _ (fun _ => rfl)
    have hcwxc : (wxc).heap[bwxa]? = some (.cells ([.bool X.1, m1]).toArray 41 (0, 0)) := by rw [hwwxc]; exact World.putObj_heap_same (lt_of_heap hcawx)
    clear hwwxc
    have hcbwx := hkwxc.heap hcwxb (fun e => by omega)
    refine wr_storeAll (cs := [.bool noneP.1, l1]) rfl rfl rfl (by intro u hu; simp at hu; rcases hu with rfl | rfl; rfl; exact hl1.one.1) hcbwx (rfl) (rfl) ?_
    refine wr_name ?_
    intro wxd hwwxd
    have hkwxd : Keeps (· = bwxb) wxc wxd := by rw [hwwxd]; exact (Keeps.refl _ wxc).put _ (fun _ => rfl)
    have hcwxd : (wxd).heap[bwxb]? = some (.cells ([.bool noneP.1, l1]).toArray 41 (0, 0)) := by rw [hwwxd]; exact World.putObj_heap_same (lt_of_heap hcbwx)
    clear hwwxd
    have hccwx := hkwxd.heap hcwxc (fun e => by omega)
    have hkkwx : Keeps NoB w3 wxd := ((hkwxa.trans hkwxb).trans' hkwxc (fun i hi e => by omega)).trans' hkwxd (fun i hi e => by omega)
    have h4 := h3.keepN hkkwx
    have hg4 := hg3.keep hkkwx
    have hK4 := hK3.trans hkkwx
    (repeat first | (apply wr_move; exact rfl; with_reducible (conv => enter [6, 3]; whnf)) | (apply wr_assign; exact rfl; with_reducible (conv => enter [6, 3]; whnf)) | apply wr_end | apply wc_seq | apply wc_region)
    refine wr_callv (vs := [.int .i64 ((100 : Nat) : Int), .int .i64 (y : Int)]) rfl (callV_func (first := #[]) (cap := #[]) (by kernel_rfl) (of1_ca 100 y (by omega) wxd)) rfl rfl ?_
    rintro v w5 ⟨hyR, hk5⟩
    have h5 := h4.keepN hk5
    have hg5 := hg4.keep hk5
    have hK5 := hK4.trans hk5
    refine wr_call (vs := [.pointer (some ⟨ab, 0, none⟩), .int .i64 3, .int .i64 1, v]) rfl (setM_ok h5 hg5 (id := 3) (k := 1) (by decide) (by rw [hY]; exact hyR) hYf (by omega) hfit2) rfl ?_
    rintro v w6 ⟨⟨h6, m2, l2, rfl, hm2, hl2⟩, hk6⟩
    rw [← hWb] at h6 hm2 hl2 ⊢
    rw [hUa, hUb, hX] at hm2 hl2 ⊢
    rw [two_more (by omega) (by omega)] at hm2 ⊢
    rw [two_less] at hl2 ⊢
    have hK6 : Keeps NoB w w6 := hK5.trans' hk6 (fun i hi e => hmD i hi e)
    apply wr_move; exact rfl; with_reducible (conv => enter [6, 3]; whnf)
    apply wr_extract; (iterate 3 exact rfl); with_reducible (conv => enter [6, 3]; whnf)
    apply wr_extract; (iterate 3 exact rfl); with_reducible (conv => enter [6, 3]; whnf)
    apply wr_extract; (iterate 3 exact rfl); with_reducible (conv => enter [6, 3]; whnf)
    apply wr_alloc
    focus exact rfl
    refine wr_name ?_
    intro wya hwwya
    obtain ⟨bwya, hbwya⟩ : ∃ b, b = (w6).heap.size := ⟨_, rfl⟩
    have hkwya : Keeps NoB w6 wya := by rw [hwwya]; exact (Keeps.refl NoB w6).alloc _
    have hcwya : (wya).heap[bwya]? = some (.cells ([.bool false, nilV]).toArray 41 (0, 0)) := by rw [hwwya, hbwya]; exact heap_alloc_same _ _
    rw [← hbwya]
    clear hwwya
    apply wr_alloc
    focus exact rfl
    refine wr_name ?_
    intro wyb hwwyb
    obtain ⟨bwyb, hbwyb⟩ : ∃ b, b = (wya).heap.size := ⟨_, rfl⟩
    have hkwyb : Keeps NoB wya wyb := by rw [hwwyb]; exact (Keeps.refl NoB wya).alloc _
    have hcwyb : (wyb).heap[bwyb]? = some (.cells ([.bool false, nilV]).toArray 41 (0, 0)) := by rw [hwwyb, hbwyb]; exact heap_alloc_same _ _
    rw [← hbwyb]
    clear hwwyb
    have hcawy := hkwyb.heap hcwya (fun h => h)
    have hlrwy := lt_of_heap hcwya
    refine wr_storeAll (cs := [.bool false, m2]) rfl rfl rfl (by intro u hu; simp at hu; rcases hu with rfl | rfl; rfl; exact hm2.one.1) hcawy (rfl) (rfl) ?_
    refine wr_name ?_
    intro wyc hwwyc
    have hkwyc : Keeps (· = bwya) wyb wyc := by rw [hwwyc]; exact (Keeps.refl _ wyb).put _ (fun _ => rfl)
    have hcwyc : (wyc).heap[bwya]? = some (.cells ([.bool false, m2]).toArray 41 (0, 0)) := by rw [hwwyc]; exact World.putObj_heap_same (lt_of_heap hcawy)
    clear hwwyc
    have hcbwy := hkwyc.heap hcwyb (fun e => by omega)
    refine wr_storeAll (cs := [.bool noneP.1, l2]) rfl rfl rfl (by intro u hu; simp at hu; rcases hu with rfl | rfl; rfl; exact hl2.one.1) hcbwy (rfl) (rfl) ?_
    refine wr_name ?_
    intro wyd hwwyd
    have hkwyd : Keeps (· = bwyb) wyc wyd := by rw [hwwyd]; exact (Keeps.refl _ wyc).put _ (fun _ => rfl)
    have hcwyd : (wyd).heap[bwyb]? = some (.cells ([.bool noneP.1, l2]).toArray 41 (0, 0)) := by rw [hwwyd]; exact World.putObj_heap_same (lt_of_heap hcbwy)
    clear hwwyd
    have hccwy := hkwyd.heap hcwyc (fun e => by omega)
    have hkkwy : Keeps NoB w6 wyd := ((hkwya.trans hkwyb).trans' hkwyc (fun i hi e => by omega)).trans' hkwyd (fun i hi e => by omega)
    have h7 := h6.keepN hkkwy
    have hK7 := hK6.trans hkkwy
    have hl2y := hl2.keep hkkwy
    obtain ⟨ma, mc, hme, _⟩ := slr_strs hm2.row
    rw [hme] at hccwy
    rw [show ((false, lstF 100 y) : PS).2.length = y from lstF_len 100 y] at hccwy
    (repeat first | (apply wr_move; exact rfl; with_reducible (conv => enter [6, 3]; whnf)) | (apply wr_assign; exact rfl; with_reducible (conv => enter [6, 3]; whnf)) | apply wr_end | apply wc_seq | apply wc_region | (apply wr_cmp; (iterate 3 exact rfl); exact cmpT (by dsimp only [cmpP]; first | done | omega)) | (apply wr_pick (t := true); (iterate 2 exact rfl); with_reducible (conv => enter [6, 3]; whnf)) | (apply wr_add; (iterate 3 exact rfl); exact w_fit (by dsimp only [kIn]; first | done | omega)))
    refine wr_boolEq (c := true) rfl rfl rfl rfl ?_
    (repeat first | (apply wr_move; exact rfl; with_reducible (conv => enter [6, 3]; whnf)) | (apply wr_fieldAddr; iterate 2 exact rfl) | (apply wr_len_slice; iterate 2 exact rfl) | (apply wr_load; (iterate 3 exact rfl); (focus repeat first | with_reducible assumption | exact heap_alloc_same _ _ | exact World.putObj_heap_same (by first | omega | (simp only [World.size_alloc, World.putObj_size, ne_eq]; omega)) | ((first | refine hAl ?_ ?_ | refine hPu ?_ ?_); focus first | omega | (simp only [World.size_alloc, World.putObj_size, ne_eq]; omega))); exact rfl; conv => enter [6, 3]; whnf) | (apply wr_cmp; (iterate 3 exact rfl); exact cmpT (by dsimp only [cmpP]; first | done | omega)) | (apply wr_pick (t := true); (iterate 2 exact rfl); with_reducible (conv => enter [6, 3]; whnf)) | (apply wr_skip; exact rfl))
    refine wr_loadAll (cs := [.bool noneP.1, l2]) rfl rfl rfl hcwyd rfl ?_
    refine wr_call (vs := [SetV noneP.1 l2]) rfl (empty_cb true hEm hl2y) rfl ?_
    rintro v w8 ⟨rfl, hk8⟩
    (repeat first | (apply wr_move; exact rfl; with_reducible (conv => enter [6, 3]; whnf)) | (apply wr_assign; exact rfl; with_reducible (conv => enter [6, 3]; whnf)) | apply wr_end | (apply wr_pick (t := true); (iterate 2 exact rfl); with_reducible (conv => enter [6, 3]; whnf)) | (apply wc_ret; try simp only [thenE, inBlockE, bodyQ]) | (apply wr_skip; exact rfl))
    exact leave1 (v := .bool true) rfl rfl ⟨rfl, hK7.trans hk8⟩
  · rw [decide_eq_false hfit] at hfit2
    apply wr_move; exact rfl; with_reducible (conv => enter [6, 3]; whnf)
    apply wr_extract; (iterate 3 exact rfl); with_reducible (conv => enter [6, 3]; whnf)
    apply wr_extract; (iterate 3 exact rfl); with_reducible (conv => enter [6, 3]; whnf)
    apply wr_extract; (iterate 3 exact rfl); with_reducible (conv => enter [6, 3]; whnf)
    apply wr_alloc
    focus exact rfl
    refine wr_name ?_
    intro wxa hwwxa
    obtain ⟨bwxa, hbwxa⟩ : ∃ b, b = (w3).heap.size := ⟨_, rfl⟩
    have hkwxa : Keeps NoB w3 wxa := by rw [hwwxa]; exact (Keeps.refl NoB w3).alloc _
    have hcwxa : (wxa).heap[bwxa]? = some (.cells ([.bool false, nilV]).toArray 41 (0, 0)) := by rw [hwwxa, hbwxa]; exact heap_alloc_same _ _
    rw [← hbwxa]
    clear hwwxa
    apply wr_alloc
    focus exact rfl
    refine wr_name ?_
    intro wxb hwwxb
    obtain ⟨bwxb, hbwxb⟩ : ∃ b, b = (wxa).heap.size := ⟨_, rfl⟩
    have hkwxb : Keeps NoB wxa wxb := by rw [hwwxb]; exact (Keeps.refl NoB wxa).alloc _
    have hcwxb : (wxb).heap[bwxb]? = some (.cells ([.bool false, nilV]).toArray 41 (0, 0)) := by rw [hwwxb, hbwxb]; exact heap_alloc_same _ _
    rw [← hbwxb]
    clear hwwxb
    have hcawx := hkwxb.heap hcwxa (fun h => h)
    have hlrwx := lt_of_heap hcwxa
    refine wr_storeAll (cs := [.bool X.1, m1]) rfl rfl rfl (by intro u hu; simp at hu; rcases hu with rfl | rfl; rfl; exact hm1.one.1) hcawx (rfl) (rfl) ?_
    refine wr_name ?_
    intro wxc hwwxc
    have hkwxc : Keeps (· = bwxa) wxb wxc := by rw [hwwxc]; exact (Keeps.refl _ wxb).put _ (fun _ => rfl)
    have hcwxc : (wxc).heap[bwxa]? = some (.cells ([.bool X.1, m1]).toArray 41 (0, 0)) := by rw [hwwxc]; exact World.putObj_heap_same (lt_of_heap hcawx)
    clear hwwxc
    have hcbwx := hkwxc.heap hcwxb (fun e => by omega)
    refine wr_storeAll (cs := [.bool noneP.1, l1]) rfl rfl rfl (by intro u hu; simp at hu; rcases hu with rfl | rfl; rfl; exact hl1.one.1) hcbwx (rfl) (rfl) ?_
    refine wr_name ?_
    intro wxd hwwxd
    have hkwxd : Keeps (· = bwxb) wxc wxd := by rw [hwwxd]; exact (Keeps.refl _ wxc).put _ (fun _ => rfl)
    have hcwxd : (wxd).heap[bwxb]? = some (.cells ([.bool noneP.1, l1]).toArray 41 (0, 0)) := by rw [hwwxd]; exact World.putObj_heap_same (lt_of_heap hcbwx)
    clear hwwxd
    have hccwx := hkwxd.heap hcwxc (fun e => by omega)
    have hkkwx : Keeps NoB w3 wxd := ((hkwxa.trans hkwxb).trans' hkwxc (fun i hi e => by omega)).trans' hkwxd (fun i hi e => by omega)
    have h4 := h3.keepN hkkwx
    have hg4 := hg3.keep hkkwx
    have hK4 := hK3.trans hkkwx
    (repeat first | (apply wr_move; exact rfl; with_reducible (conv => enter [6, 3]; whnf)) | (apply wr_assign; exact rfl; with_reducible (conv => enter [6, 3]; whnf)) | apply wr_end | apply wc_seq | apply wc_region)
    refine wr_callv (vs := [.int .i64 ((100 : Nat) : Int), .int .i64 (y : Int)]) rfl (callV_func (first := #[]) (cap := #[]) (by kernel_rfl) (of1_ca 100 y (by omega) wxd)) rfl rfl ?_
    rintro v w5 ⟨hyR, hk5⟩
    have h5 := h4.keepN hk5
    have hg5 := hg4.keep hk5
    have hK5 := hK4.trans hk5
    refine wr_call (vs := [.pointer (some ⟨ab, 0, none⟩), .int .i64 3, .int .i64 1, v]) rfl (setM_ca h5 hg5 (3, ((1 : Nat) : Int)) hyR (by rw [← hY]; exact hYf) (by rw [lstF_len]; omega)) rfl ?_
    rintro v w6 ⟨hR, hk6⟩
    rw [← hY] at hR
    rcases hR with ⟨j, hj, _, hf, _⟩ | ⟨j, hj, _, _, h6, rfl⟩ | ⟨hn, _⟩
    · have hj : j = 1 := by have hj : (j : Int) = ((1 : Nat) : Int) := hj; omega
      subst hj
      rw [hfit2] at hf; cases hf
    rotate_left
    · exact absurd (by decide) hn
    have hK6 : Keeps NoB w w6 := hK5.trans' hk6 (fun i hi e => hmD i hi e)
    apply wr_move; exact rfl; with_reducible (conv => enter [6, 3]; whnf)
    apply wr_extract; (iterate 3 exact rfl); with_reducible (conv => enter [6, 3]; whnf)
    apply wr_extract; (iterate 3 exact rfl); with_reducible (conv => enter [6, 3]; whnf)
    apply wr_extract; (iterate 3 exact rfl); with_reducible (conv => enter [6, 3]; whnf)
    apply wr_alloc
    focus exact rfl
    refine wr_name ?_
    intro wya hwwya
    obtain ⟨bwya, hbwya⟩ : ∃ b, b = (w6).heap.size := ⟨_, rfl⟩
    have hkwya : Keeps NoB w6 wya := by rw [hwwya]; exact (Keeps.refl NoB w6).alloc _
    have hcwya : (wya).heap[bwya]? = some (.cells ([.bool false, nilV]).toArray 41 (0, 0)) := by rw [hwwya, hbwya]; exact heap_alloc_same _ _
    rw [← hbwya]
    clear hwwya
    apply wr_alloc
    focus exact rfl
    refine wr_name ?_
    intro wyb hwwyb
    obtain ⟨bwyb, hbwyb⟩ : ∃ b, b = (wya).heap.size := ⟨_, rfl⟩
    have hkwyb : Keeps NoB wya wyb := by rw [hwwyb]; exact (Keeps.refl NoB wya).alloc _
    have hcwyb : (wyb).heap[bwyb]? = some (.cells ([.bool false, nilV]).toArray 41 (0, 0)) := by rw [hwwyb, hbwyb]; exact heap_alloc_same _ _
    rw [← hbwyb]
    clear hwwyb
    have hcawy := hkwyb.heap hcwya (fun h => h)
    have hlrwy := lt_of_heap hcwya
    refine wr_storeAll (cs := [.bool false, nilV]) rfl rfl rfl (zset_one) hcawy (rfl) (rfl) ?_
    refine wr_name ?_
    intro wyc hwwyc
    have hkwyc : Keeps (· = bwya) wyb wyc := by rw [hwwyc]; exact (Keeps.refl _ wyb).put _ (fun _ => rfl)
    have hcwyc : (wyc).heap[bwya]? = some (.cells ([.bool false, nilV]).toArray 41 (0, 0)) := by rw [hwwyc]; exact World.putObj_heap_same (lt_of_heap hcawy)
    clear hwwyc
    have hcbwy := hkwyc.heap hcwyb (fun e => by omega)
    refine wr_storeAll (cs := [.bool false, nilV]) rfl rfl rfl (zset_one) hcbwy (rfl) (rfl) ?_
    refine wr_name ?_
    intro wyd hwwyd
    have hkwyd : Keeps (· = bwyb) wyc wyd := by rw [hwwyd]; exact (Keeps.refl _ wyc).put _ (fun _ => rfl)
    have hcwyd : (wyd).heap[bwyb]? = some (.cells ([.bool false, nilV]).toArray 41 (0, 0)) := by rw [hwwyd]; exact World.putObj_heap_same (lt_of_heap hcbwy)
    clear hwwyd
    have hccwy := hkwyd.heap hcwyc (fun e => by omega)
    have hkkwy : Keeps NoB w6 wyd := ((hkwya.trans hkwyb).trans' hkwyc (fun i hi e => by omega)).trans' hkwyd (fun i hi e => by omega)
    have h7 := h6.keepN hkkwy
    have hK7 := hK6.trans hkkwy
    (repeat first | (apply wr_move; exact rfl; with_reducible (conv => enter [6, 3]; whnf)) | (apply wr_assign; exact rfl; with_reducible (conv => enter [6, 3]; whnf)) | apply wr_end | apply wc_seq | apply wc_region | (apply wr_cmp; (iterate 3 exact rfl); exact cmpT (by dsimp only [cmpP]; first | done | omega)) | (apply wr_cmp; (iterate 3 exact rfl); exact cmpF (by dsimp only [cmpN]; first | done | omega)) | (apply wr_pick (t := true); (iterate 2 exact rfl); with_reducible (conv => enter [6, 3]; whnf)) | (apply wr_add; (iterate 3 exact rfl); exact w_fit (by dsimp only [kIn]; first | done | omega)))
    refine wr_boolEq (c := true) rfl rfl rfl rfl ?_
    (repeat first | (apply wr_move; exact rfl; with_reducible (conv => enter [6, 3]; whnf)) | (apply wr_not; iterate 2 exact rfl) | (apply wr_cmp; (iterate 3 exact rfl); exact cmpT (by dsimp only [cmpP]; first | done | omega)) | (apply wr_cmp; (iterate 3 exact rfl); exact cmpF (by dsimp only [cmpN]; first | done | omega)) | (apply wr_pick (t := true); (iterate 2 exact rfl); with_reducible (conv => enter [6, 3]; whnf)) | (apply wr_pick (t := false); (iterate 2 exact rfl); with_reducible (conv => enter [6, 3]; whnf)) | (apply wr_skip; exact rfl))
    refine wr_loadAll (cs := [.bool false, nilV]) rfl rfl rfl hccwy rfl ?_
    refine wr_call (vs := [SetV false nilV]) rfl (empty_cb true hEm (zset_R wyd)) rfl ?_
    rintro v w8 ⟨rfl, hk8⟩
    have hd8 := hk8.heap hcwyd (fun h => h)
    (repeat first | (apply wr_move; exact rfl; with_reducible (conv => enter [6, 3]; whnf)) | (apply wr_pick (t := true); (iterate 2 exact rfl); with_reducible (conv => enter [6, 3]; whnf)) | (apply wr_pick (t := false); (iterate 2 exact rfl); with_reducible (conv => enter [6, 3]; whnf)))
    refine wr_loadAll (cs := [.bool false, nilV]) rfl rfl rfl hd8 rfl ?_
    refine wr_call (vs := [SetV false nilV]) rfl (empty_cb true hEm (zset_R w8)) rfl ?_
    rintro v w9 ⟨rfl, hk9⟩
    have hk79 := hk8.trans hk9
    (repeat first | (apply wr_move; exact rfl; with_reducible (conv => enter [6, 3]; whnf)) | (apply wr_pick (t := true); (iterate 2 exact rfl); with_reducible (conv => enter [6, 3]; whnf)))
    refine wr_call (vs := [.pointer (some ⟨ab, 0, none⟩), .int .i64 1]) rfl (unionR_ca (h7.keepN hk79) 1 (by decide) (by decide) hUa) rfl ?_
    rintro uv wa ⟨hu, hka⟩
    (repeat first | (apply wr_move; exact rfl; with_reducible (conv => enter [6, 3]; whnf)))
    refine wr_callv (vs := [.int .i64 ((0 : Nat) : Int), .int .i64 (x : Int)]) rfl (callV_func (first := #[]) (cap := #[]) (by kernel_rfl) (of1_ca 0 x (by omega) wa)) rfl rfl ?_
    rintro ov wb' ⟨ho, hkb⟩
    rw [← hX] at ho
    refine wr_call (vs := [uv, ov]) rfl (same_cb true (sameP_self X) (hu.keep hkb) ho (by omega) (by omega)) rfl ?_
    rintro v wc ⟨rfl, hkc⟩
    have hk7c := ((hk79.trans hka).trans hkb).trans hkc
    (repeat first | (apply wr_move; exact rfl; with_reducible (conv => enter [6, 3]; whnf)))
    refine wr_call (vs := [.pointer (some ⟨ab, 0, none⟩), .int .i64 3, .int .i64 1]) rfl (wantM_ca (h7.keepN hk7c) (3, ((1 : Nat) : Int))) rfl ?_
    rintro nv wd ⟨hn, hkd⟩
    rw [show Wa (3, ((1 : Nat) : Int)) = noneP by rw [hWa]; exact updW_ne _ (by decide)] at hn
    refine wr_call (vs := [nv]) rfl (empty_cb true hEm hn) rfl ?_
    rintro v we ⟨rfl, hke⟩
    (repeat first | (apply wr_assign; exact rfl; with_reducible (conv => enter [6, 3]; whnf)) | apply wr_end | (apply wr_pick (t := true); (iterate 2 exact rfl); with_reducible (conv => enter [6, 3]; whnf)) | (apply wr_pick (t := false); (iterate 2 exact rfl); with_reducible (conv => enter [6, 3]; whnf)) | (apply wc_ret; try simp only [thenE, inBlockE, bodyQ]))
    exact leave1 (v := .bool true) rfl rfl ⟨rfl, ((hK7.trans hk7c).trans hkd).trans hke⟩
end Go.Proofs.YtajajahofkialaaGreatDoor
