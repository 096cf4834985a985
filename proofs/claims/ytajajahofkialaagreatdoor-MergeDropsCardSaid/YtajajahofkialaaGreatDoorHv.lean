/- MergeDrops. -/
import Derived.Test.YtajajahofkialaaGreatDoorHu
namespace Go.Proofs.YtajajahofkialaaGreatDoor
open Go Go.V Go.RowKit
set_option linter.unusedVariables false
set_option linter.unusedSimpArgs false

/- The head: $1 after New. -/
/- A set of a few: $1 slice, $2 bytes, $3 world, $4 stem, $5 SlR, $6 bytes small, $7 how many. -/
theorem unionK_oth {Wn : WF} {t : TY} (s : PS) {k : Nat} (hk : (k : Int) ≠ t.2) : unionK (updW Wn t s) k = unionK Wn k := by
  refine ofP_congr fun x => ?_
  rw [mem_allL, mem_allL]
  have e : ∀ i : Nat, updW Wn t s ((i : Int), (k : Int)) = Wn ((i : Int), (k : Int)) := fun i => updW_ne s (fun e => hk (by rw [← e]))
  constructor
  · rintro ⟨i, hi, h⟩
    rw [e] at h
    exact ⟨i, hi, h⟩
  · rintro ⟨i, hi, h⟩
    exact ⟨i, hi, by rw [e]; exact h⟩
theorem drop_W (x y z : PS) : dropW (dropW (updW (updW (updW noW (4, ((1 : Nat) : Int)) x) (4, ((2 : Nat) : Int)) y) (5, ((1 : Nat) : Int)) z) 4) 4 = updW noW (5, ((1 : Nat) : Int)) z := by
  funext t
  obtain ⟨a, b⟩ := t
  unfold dropW
  by_cases h : a = 4
  · subst h
    rw [if_pos rfl, updW_ne _ (fun e => by have := congrArg Prod.fst e; simp at this)]
  · rw [if_neg h, if_neg h]
    by_cases h2 : ((a, b) : TY) = (5, ((1 : Nat) : Int))
    · rw [h2, updW_get, updW_get]
    · rw [updW_ne _ h2, updW_ne _ h2, updW_ne _ (fun e => h (congrArg Prod.fst e)), updW_ne _ (fun e => h (congrArg Prod.fst e))]
set_option maxRecDepth 100000 in
set_option maxHeartbeats 16000000 in
theorem drops_law (al bl cl : List Nat) (a b c : Value) {w : World} {p q : Addr} (hg : GloM w p q) (ha : SlR w 1 a al.length (IB al)) (ha8 : ∀ x ∈ al, x < 256) (hb : SlR w 1 b bl.length (IB bl)) (hb8 : ∀ x ∈ bl, x < 256) (hc : SlR w 1 c cl.length (IB cl)) (hc8 : ∀ x ∈ cl, x < 256) :
    Ca Tryz.prog 6 #[a, b, c] w fun v w' => v = .bool true ∧ Keeps NoB w w' := by
  refine ca_of_body (args := [a, b, c]) Tryz.func6 rfl (by kernel_rfl) ?_
  (repeat first | (apply wr_assign; exact rfl; with_reducible (conv => enter [6, 3]; whnf)) | apply wr_end | apply wc_seq | apply wc_region)
  refine wr_call (vs := []) rfl (examples_ca hg) rfl ?_
  rintro v w0 ⟨rfl, hk0'⟩
  have hz0 := hk0'.size
  have hg0 := hg.keep hk0'
  (repeat first | (apply wr_move; exact rfl; with_reducible (conv => enter [6, 3]; whnf)) | (apply wr_assign; exact rfl; with_reducible (conv => enter [6, 3]; whnf)) | apply wr_end | apply wc_seq | apply wc_region | apply wc_skip | (apply wr_not; iterate 2 exact rfl) | (apply wc_false; exact rfl))
  refine wr_call (vs := []) rfl (newM_ca w0) rfl ?_
  rintro v w1 ⟨⟨ab, wb, cb, rfl, h1, hab, hwb, hcb⟩, hk1⟩
  have hmD : ∀ i, i < w.heap.size → ¬ mD wb cb i := fun i hi e => by
    rcases e with e | e
    · omega
    · have := hcb i e; omega
  have hK1 := hk0'.trans hk1
  have hg1 := hg0.keep hk1
  have hz1 := hK1.size
  (repeat first | (apply wr_move; exact rfl; with_reducible (conv => enter [6, 3]; whnf)) | (apply wr_assign; exact rfl; with_reducible (conv => enter [6, 3]; whnf)) | apply wr_end | apply wc_seq | apply wc_region)
  refine wr_ptrNil rfl rfl ?_
  (repeat first | (apply wr_move; exact rfl; with_reducible (conv => enter [6, 3]; whnf)) | apply wr_end | apply wc_seq | apply wc_region | apply wc_skip | (apply wc_false; exact rfl))
  refine wr_call (vs := [a, .int .i64 ((10 : Nat) : Int)]) rfl (few_ca al a 10 (by decide) w1 (ha.keep hK1 (fun _ _ h => h)) ha8) rfl ?_
  rintro v xu ⟨hfw, hkxu⟩
  have hle := namesF_le al 10
  refine wr_call (vs := [v]) rfl (ofO_ca (namesF al 10) v xu (SlR.of_own hfw) (by omega) (namesF_ok al 10)) rfl ?_
  rintro sv xv ⟨hsv, hkxv⟩
  obtain ⟨x, hxe⟩ : ∃ W, W = ofP (namesF al 10) := ⟨_, rfl⟩
  have hxf : Fine x := by rw [hxe]; exact ofP_fine _
  have hxl : (x).2.length ≤ 10 := by rw [hxe]; have := ofP_le (namesF al 10); omega
  rw [← hxe] at hsv
  obtain ⟨xn, rfl, hxo⟩ := hsv
  have hxR : SetR xv x (SetV (x).1 xn) := ⟨xn, rfl, SlR.of_own hxo⟩
  clear hxe hfw hxo
  have hkx := hkxu.trans hkxv
  (repeat first | (apply wr_alloc; exact rfl))
  refine wr_storeAll (cs := [.bool x.1, xn]) rfl rfl rfl (by intro u hu; simp at hu; rcases hu with rfl | rfl; rfl; exact hxR.one.1) (heap_alloc_same _ _) rfl rfl ?_
  refine wr_name ?_
  intro w2 hww2
  obtain ⟨bw2, hbw2⟩ : ∃ b, b = (xv).heap.size := ⟨_, rfl⟩
  have hkw2 : Keeps NoB xv w2 := by rw [hww2]; exact ((Keeps.refl NoB xv).alloc _).put _ (fun h => by omega)
  have hcw2 : (w2).heap[bw2]? = some (.cells ([.bool x.1, xn]).toArray 41 (0, 0)) := by rw [hww2, hbw2]; exact World.putObj_heap_same (by simp)
  rw [← hbw2]
  clear hww2
  have hk12 := hkx.trans hkw2
  have hxR := hxR.keep hkw2
  have hK2 := hK1.trans hk12
  (repeat first | (apply wr_move; exact rfl; with_reducible (conv => enter [6, 3]; whnf)) | apply wr_end | apply wc_seq | apply wc_region)
  refine wr_call (vs := [b, .int .i64 ((10 : Nat) : Int)]) rfl (few_ca bl b 10 (by decide) w2 (hb.keep hK2 (fun _ _ h => h)) hb8) rfl ?_
  rintro v yu ⟨hfw, hkyu⟩
  have hle := namesF_le bl 10
  refine wr_call (vs := [v]) rfl (ofO_ca (namesF bl 10) v yu (SlR.of_own hfw) (by omega) (namesF_ok bl 10)) rfl ?_
  rintro sv yv ⟨hsv, hkyv⟩
  obtain ⟨y, hye⟩ : ∃ W, W = ofP (namesF bl 10) := ⟨_, rfl⟩
  have hyf : Fine y := by rw [hye]; exact ofP_fine _
  have hyl : (y).2.length ≤ 10 := by rw [hye]; have := ofP_le (namesF bl 10); omega
  rw [← hye] at hsv
  obtain ⟨yn, rfl, hyo⟩ := hsv
  have hyR : SetR yv y (SetV (y).1 yn) := ⟨yn, rfl, SlR.of_own hyo⟩
  clear hye hfw hyo
  have hky := hkyu.trans hkyv
  (repeat first | (apply wr_alloc; exact rfl))
  refine wr_storeAll (cs := [.bool y.1, yn]) rfl rfl rfl (by intro u hu; simp at hu; rcases hu with rfl | rfl; rfl; exact hyR.one.1) (heap_alloc_same _ _) rfl rfl ?_
  refine wr_name ?_
  intro w3 hww3
  obtain ⟨bw3, hbw3⟩ : ∃ b, b = (yv).heap.size := ⟨_, rfl⟩
  have hkw3 : Keeps NoB yv w3 := by rw [hww3]; exact ((Keeps.refl NoB yv).alloc _).put _ (fun h => by omega)
  have hcw3 : (w3).heap[bw3]? = some (.cells ([.bool y.1, yn]).toArray 41 (0, 0)) := by rw [hww3, hbw3]; exact World.putObj_heap_same (by simp)
  rw [← hbw3]
  clear hww3
  have hk23 := hky.trans hkw3
  have hxR := hxR.keep hk23
  have hyR := hyR.keep hkw3
  have hcx3 := hk23.heap hcw2 (fun h => h)
  have hK3 := hK2.trans hk23
  (repeat first | (apply wr_move; exact rfl; with_reducible (conv => enter [6, 3]; whnf)) | apply wr_end | apply wc_seq | apply wc_region)
  refine wr_call (vs := [c, .int .i64 ((10 : Nat) : Int)]) rfl (few_ca cl c 10 (by decide) w3 (hc.keep hK3 (fun _ _ h => h)) hc8) rfl ?_
  rintro v zu ⟨hfw, hkzu⟩
  have hle := namesF_le cl 10
  refine wr_call (vs := [v]) rfl (ofO_ca (namesF cl 10) v zu (SlR.of_own hfw) (by omega) (namesF_ok cl 10)) rfl ?_
  rintro sv zv ⟨hsv, hkzv⟩
  obtain ⟨z, hze⟩ : ∃ W, W = ofP (namesF cl 10) := ⟨_, rfl⟩
  have hzf : Fine z := by rw [hze]; exact ofP_fine _
  have hzl : (z).2.length ≤ 10 := by rw [hze]; have := ofP_le (namesF cl 10); omega
  rw [← hze] at hsv
  obtain ⟨zn, rfl, hzo⟩ := hsv
  have hzR : SetR zv z (SetV (z).1 zn) := ⟨zn, rfl, SlR.of_own hzo⟩
  clear hze hfw hzo
  have hkz := hkzu.trans hkzv
  (repeat first | (apply wr_alloc; exact rfl))
  refine wr_storeAll (cs := [.bool z.1, zn]) rfl rfl rfl (by intro u hu; simp at hu; rcases hu with rfl | rfl; rfl; exact hzR.one.1) (heap_alloc_same _ _) rfl rfl ?_
  refine wr_name ?_
  intro w4 hww4
  obtain ⟨bw4, hbw4⟩ : ∃ b, b = (zv).heap.size := ⟨_, rfl⟩
  have hkw4 : Keeps NoB zv w4 := by rw [hww4]; exact ((Keeps.refl NoB zv).alloc _).put _ (fun h => by omega)
  have hcw4 : (w4).heap[bw4]? = some (.cells ([.bool z.1, zn]).toArray 41 (0, 0)) := by rw [hww4, hbw4]; exact World.putObj_heap_same (by simp)
  rw [← hbw4]
  clear hww4
  have hk34 := hkz.trans hkw4
  have hxR4 := hxR.keep hk34
  have hyR4 := hyR.keep hk34
  have hzR4 := hzR.keep hkw4
  have hcx4 := hk34.heap hcx3 (fun h => h)
  have hcy4 := hk34.heap hcw3 (fun h => h)
  have hK4 := hK3.trans hk34
  have hk14 := (hk12.trans hk23).trans hk34
  have h4 := h1.keepN hk14
  obtain ⟨Wa, hWa⟩ : ∃ W, W = updW noW (4, ((1 : Nat) : Int)) x := ⟨_, rfl⟩
  obtain ⟨Wb, hWb⟩ : ∃ W, W = updW Wa (4, ((2 : Nat) : Int)) y := ⟨_, rfl⟩
  obtain ⟨Wc, hWc⟩ : ∃ W, W = updW Wb (5, ((1 : Nat) : Int)) z := ⟨_, rfl⟩
  have haf : ∀ t, Fine (Wa t) := by rw [hWa]; exact updW_fine noW_fine _ hxf
  have hbf : ∀ t, Fine (Wb t) := by rw [hWb]; exact updW_fine haf _ hyf
  have hUa : unionK Wa 1 = x := by rw [hWa, unionK_add noW_fine (by decide) rfl hxf rfl, unionK_no, union_none1 hxf]
  have hUa2 : unionK Wa 2 = noneP := by rw [hWa, unionK_oth _ (by decide), unionK_no]
  have hUb : unionK Wb 2 = y := by rw [hWb, unionK_add haf (by decide) (by rw [hWa]; exact updW_ne _ (by decide)) hyf rfl, hUa2, union_none1 hyf]
  have hUb1 : unionK Wb 1 = x := by rw [hWb, unionK_oth _ (by decide), hUa]
  have hUc : (unionK Wc 1).2.length ≤ 20 := by
    rw [hWc, unionK_add hbf (by decide) (by rw [hWb, hWa, updW_ne _ (by decide), updW_ne _ (by decide)]) hzf rfl, hUb1]
    have := union2_le x z
    omega
  (repeat first | (apply wr_move; exact rfl; with_reducible (conv => enter [6, 3]; whnf)) | apply wr_end | apply wc_seq | apply wc_region)
  refine wr_loadAll (cs := [.bool x.1, xn]) rfl rfl rfl hcx4 rfl ?_
  refine wr_call (vs := [.pointer (some ⟨ab, 0, none⟩), .int .i64 4, .int .i64 1, SetV x.1 xn]) rfl (setM_ok h4 (hg.keep hK4) (id := 4) (k := 1) (by decide) hxR4 hxf (by omega) (fits_of (by omega) (by rw [← hWa, hUa]; omega))) rfl ?_
  rintro v w5 ⟨⟨h5, _⟩, hk5⟩
  have h5 : MgAt w5 0 ab wb cb Wa := hWa ▸ h5
  have nc4 := mD_nc h4
  have hK5 : Keeps NoB w w5 := hK4.trans' hk5 (fun i hi e => hmD i hi e)
  have hyR5 := hyR4.keepM hk5 nc4
  (repeat first | (apply wr_move; exact rfl; with_reducible (conv => enter [6, 3]; whnf)) | apply wr_end | apply wc_seq | apply wc_region)
  refine wr_loadAll (cs := [.bool y.1, yn]) rfl rfl rfl (heap_keepM hcy4 hk5 nc4) rfl ?_
  refine wr_call (vs := [.pointer (some ⟨ab, 0, none⟩), .int .i64 4, .int .i64 2, SetV y.1 yn]) rfl (setM_ok h5 (hg.keep hK5) (id := 4) (k := 2) (by decide) hyR5 hyf (by omega) (fits_of (by omega) (by rw [← hWb, hUb]; omega))) rfl ?_
  rintro v w6 ⟨⟨h6, _⟩, hk6⟩
  have h6 : MgAt w6 0 ab wb cb Wb := hWb ▸ h6
  have nc5 := mD_nc h5
  have hK6 : Keeps NoB w w6 := hK5.trans' hk6 (fun i hi e => hmD i hi e)
  have hzR6 := (hzR4.keepM hk5 nc4).keepM hk6 nc5
  (repeat first | (apply wr_move; exact rfl; with_reducible (conv => enter [6, 3]; whnf)) | apply wr_end | apply wc_seq | apply wc_region)
  refine wr_loadAll (cs := [.bool z.1, zn]) rfl rfl rfl (heap_keepM (heap_keepM hcw4 hk5 nc4) hk6 nc5) rfl ?_
  refine wr_call (vs := [.pointer (some ⟨ab, 0, none⟩), .int .i64 5, .int .i64 1, SetV z.1 zn]) rfl (setM_ok h6 (hg.keep hK6) (id := 5) (k := 1) (by decide) hzR6 hzf (by omega) (fits_of (by omega) (by rw [← hWc]; omega))) rfl ?_
  rintro v w7 ⟨⟨h7, _⟩, hk7⟩
  have h7 : MgAt w7 0 ab wb cb Wc := hWc ▸ h7
  have nc6 := mD_nc h6
  have nc7 := mD_nc h7
  have hK7 : Keeps NoB w w7 := hK6.trans' hk7 (fun i hi e => hmD i hi e)
  (repeat first | (apply wr_move; exact rfl; with_reducible (conv => enter [6, 3]; whnf)) | apply wr_end | apply wc_seq | apply wc_region)
  refine wr_call (vs := [.pointer (some ⟨ab, 0, none⟩), .int .i64 4]) rfl (dropM_ca h7 4) rfl ?_
  rintro v w8 ⟨⟨e, rfl, he⟩, h8, hk8⟩
  have nc8 := mD_nc h8
  have hK8 : Keeps NoB w w8 := hK7.trans' hk8 (fun i hi e => hmD i hi e)
  (repeat first | (apply wr_move; exact rfl; with_reducible (conv => enter [6, 3]; whnf)) | (apply wr_assign; exact rfl; with_reducible (conv => enter [6, 3]; whnf)) | apply wr_end | apply wc_seq | apply wc_region)
  refine wr_call (vs := [.pointer (some ⟨ab, 0, none⟩), .int .i64 4]) rfl (dropM_ca h8 4) rfl ?_
  rintro v w9 ⟨⟨f, rfl, hf⟩, h9, hk9⟩
  have hf5 : f = 5 := by
    rcases hf with ⟨_, kk, hne⟩ | ⟨h, _⟩
    · exact absurd (by unfold dropW; rw [if_pos rfl]) hne
    · exact h
  subst hf5
  have hK9 : Keeps NoB w w9 := hK8.trans' hk9 (fun i hi e => hmD i hi e)
  have hx9 := ((((hxR4.keepM hk5 nc4).keepM hk6 nc5).keepM hk7 nc6).keepM hk8 nc7).keepM hk9 nc8
  have hy9 := (((hyR5.keepM hk6 nc5).keepM hk7 nc6).keepM hk8 nc7).keepM hk9 nc8
  have hz9 := ((hzR6.keepM hk7 nc6).keepM hk8 nc7).keepM hk9 nc8
  have hcx9 := heap_keepM (heap_keepM (heap_keepM (heap_keepM (heap_keepM hcx4 hk5 nc4) hk6 nc5) hk7 nc6) hk8 nc7) hk9 nc8
  have hcy9 := heap_keepM (heap_keepM (heap_keepM (heap_keepM (heap_keepM hcy4 hk5 nc4) hk6 nc5) hk7 nc6) hk8 nc7) hk9 nc8
  have hcz9 := heap_keepM (heap_keepM (heap_keepM (heap_keepM (heap_keepM hcw4 hk5 nc4) hk6 nc5) hk7 nc6) hk8 nc7) hk9 nc8
  obtain ⟨W5, hW5⟩ : ∃ W, W = dropW (dropW Wc 4) 4 := ⟨_, rfl⟩
  rw [← hW5] at h9
  have hW5e : W5 = updW noW (5, ((1 : Nat) : Int)) z := by rw [hW5, hWc, hWb, hWa, drop_W]
  have hN1 : W5 (4, 1) = noneP := by rw [hW5]; unfold dropW; rw [if_pos rfl]
  have hN2 : W5 (4, 2) = noneP := by rw [hW5]; unfold dropW; rw [if_pos rfl]
  have hU1 : unionK W5 1 = z := by rw [hW5e, unionK_add noW_fine (by decide) rfl hzf rfl, unionK_no, union_none1 hzf]
  have hU2 : unionK W5 2 = noneP := by rw [hW5e, unionK_oth _ (by decide), unionK_no]
  have hC1 : Wc (4, ((1 : Nat) : Int)) = x := by rw [hWc, hWb, hWa, updW_ne _ (by decide), updW_ne _ (by decide), updW_get]
  have hC2 : Wc (4, ((2 : Nat) : Int)) = y := by rw [hWc, hWb, updW_ne _ (by decide), updW_get]
  have hC3 : ∀ kk, x = noneP → y = noneP → Wc (4, kk) = noneP := fun kk hx0 hy0 => by
    rw [hWc, hWb, hWa, updW_ne _ (fun e => by have := congrArg Prod.fst e; simp at this), hx0, hy0]
    unfold updW
    split
    · rfl
    · split <;> rfl
  cases hBx : (!x.1 && decide (x.2.length = 0))
  focus
    have hxn : x ≠ noneP := fun e => by rw [(noneP_iff x).2 e] at hBx; cases hBx
    have he0 : e = 0 := by
      rcases he with ⟨h, _⟩ | ⟨_, h⟩
      · exact h
      · exact absurd (hC1.symm.trans (h _)) hxn
    subst he0
    (repeat first | (apply wr_assign; exact rfl; with_reducible (conv => enter [6, 3]; whnf)) | apply wr_end | apply wc_seq | apply wc_region)
    refine wr_loadAll (cs := [.bool x.1, xn]) rfl rfl rfl hcx9 rfl ?_
    refine wr_call (vs := [SetV x.1 xn]) rfl (empty_cb false hBx hx9) rfl ?_
    rintro v wf ⟨rfl, hkf⟩
    have hf := h9.keepN hkf
    have hKF := hK9.trans hkf
    have hczf := hkf.heap hcz9 (fun h => h)
    have hzf2 := hz9.keep hkf
    have hk0 : ∀ {w'}, Keeps NoB wf.drew w' → Keeps NoB wf w' := fun hk => (Keeps.refl NoB wf).drew.trans hk
    (repeat first | (apply wr_move; exact rfl; with_reducible (conv => enter [6, 3]; whnf)) | (apply wr_assign; exact rfl; with_reducible (conv => enter [6, 3]; whnf)) | apply wr_end | apply wc_seq | (apply wr_pick (t := false); (iterate 2 exact rfl); with_reducible (conv => enter [6, 3]; whnf)) | (apply wr_skip; exact rfl))
    refine wc_drawP (l := _) 34 _ (by kernel_rfl) (by kernel_rfl) rfl (by kernel_rfl) (by kernel_rfl) (by decide) ?_
    apply chP_pure
    focus
      intro xx w' hk hF
      apply wr_move; exact rfl; with_reducible (conv => enter [6, 3]; whnf)
      apply wr_nil
      exact ⟨rfl, Keeps.refl _ _⟩
    focus (intro xx yy h; rfl)
    focus kernel_rfl
    apply chP_pure
    focus
      intro xx w' hk hF
      apply wr_move; exact rfl; with_reducible (conv => enter [6, 3]; whnf)
      apply wr_nil
      exact ⟨rfl, Keeps.refl _ _⟩
    focus (intro xx yy h; rfl)
    focus kernel_rfl
    apply chP_pure
    focus
      intro xx w' hk hF
      apply wr_move; exact rfl; with_reducible (conv => enter [6, 3]; whnf)
      apply wr_nil
      exact ⟨rfl, Keeps.refl _ _⟩
    focus (intro xx yy h; rfl)
    focus kernel_rfl
    apply chP_pure
    focus
      intro xx w' hk hF
      apply wr_cmp; (iterate 3 exact rfl); exact cmpT (by dsimp only [cmpP]; first | done | omega)
      apply wr_nil
      exact ⟨rfl, Keeps.refl _ _⟩
    focus (intro xx yy h; rfl)
    focus kernel_rfl
    apply chP_pure
    focus
      intro xx w' hk hF
      apply wr_move; exact rfl; with_reducible (conv => enter [6, 3]; whnf)
      apply wr_nil
      exact ⟨rfl, Keeps.refl _ _⟩
    focus (intro xx yy h; rfl)
    focus kernel_rfl
    apply chP_pure
    focus
      intro xx w' hk hF
      apply wr_not; iterate 2 exact rfl
      apply wr_nil
      exact ⟨rfl, Keeps.refl _ _⟩
    focus (intro xx yy h; rfl)
    focus kernel_rfl
    apply chP_pure
    focus
      intro xx w' hk hF
      refine wr_boolEq (c := true) rfl rfl rfl rfl ?_
      apply wr_nil
      exact ⟨rfl, Keeps.refl _ _⟩
    focus (intro xx yy h; rfl)
    focus kernel_rfl
    apply chP_pure
    focus
      intro xx w' hk hF
      apply wr_pick (t := true); (iterate 2 exact rfl); with_reducible (conv => enter [6, 3]; whnf)
      apply wr_nil
      exact ⟨rfl, Keeps.refl _ _⟩
    focus (intro xx yy h; rfl)
    focus kernel_rfl
    apply chP_pure
    focus
      intro xx w' hk hF
      apply wr_move; exact rfl; with_reducible (conv => enter [6, 3]; whnf)
      apply wr_nil
      exact ⟨rfl, Keeps.refl _ _⟩
    focus (intro xx yy h; rfl)
    focus kernel_rfl
    apply chP_pure
    focus
      intro xx w' hk hF
      apply wr_move; exact rfl; with_reducible (conv => enter [6, 3]; whnf)
      apply wr_nil
      exact ⟨rfl, Keeps.refl _ _⟩
    focus (intro xx yy h; rfl)
    focus kernel_rfl
    apply chP_pure
    focus
      intro xx w' hk hF
      apply wr_cmp; (iterate 3 exact rfl); exact cmpT (by dsimp only [cmpP]; first | done | omega)
      apply wr_nil
      exact ⟨rfl, Keeps.refl _ _⟩
    focus (intro xx yy h; rfl)
    focus kernel_rfl
    apply chP_pure
    focus
      intro xx w' hk hF
      apply wr_pick (t := true); (iterate 2 exact rfl); with_reducible (conv => enter [6, 3]; whnf)
      apply wr_nil
      exact ⟨rfl, Keeps.refl _ _⟩
    focus (intro xx yy h; rfl)
    focus kernel_rfl
    apply chP_pure
    focus
      intro xx w' hk hF
      apply wr_move; exact rfl; with_reducible (conv => enter [6, 3]; whnf)
      apply wr_nil
      exact ⟨rfl, Keeps.refl _ _⟩
    focus (intro xx yy h; rfl)
    focus kernel_rfl
    apply chP_pure
    focus
      intro xx w' hk hF
      apply wr_move; exact rfl; with_reducible (conv => enter [6, 3]; whnf)
      apply wr_nil
      exact ⟨rfl, Keeps.refl _ _⟩
    focus (intro xx yy h; rfl)
    focus kernel_rfl
    refine chP_fact (fun yq => yq) (fun yq w' => SetR w' (W5 (4, 1)) yq) (fun yq w' w'' h k => h.keep k) ?_ ?_
    focus
      intro xx w' hk hF
      refine wr_call (vs := [.pointer (some ⟨ab, 0, none⟩), .int .i64 4, .int .i64 1]) rfl (wantM_ca (hf.keepN (hk0 hk)) (4, 1)) rfl ?_
      rintro v w'' ⟨hR, hkc⟩
      apply wr_nil
      exact ⟨v, rfl, hR, hkc⟩
    apply chP_pure
    focus
      intro xx w' hk hF
      refine wr_call (vs := [xx 14]) rfl (empty_cb true (by rw [hN1]; rfl) (hF 14 (by kernel_rfl))) rfl ?_
      rintro v w'' ⟨rfl, hkc⟩
      apply wr_nil
      exact ⟨rfl, hkc⟩
    focus (intro xx yy h; rfl)
    focus kernel_rfl
    apply chP_pure
    focus
      intro xx w' hk hF
      apply wr_pick (t := true); (iterate 2 exact rfl); with_reducible (conv => enter [6, 3]; whnf)
      apply wr_nil
      exact ⟨rfl, Keeps.refl _ _⟩
    focus (intro xx yy h; rfl)
    focus kernel_rfl
    apply chP_pure
    focus
      intro xx w' hk hF
      apply wr_move; exact rfl; with_reducible (conv => enter [6, 3]; whnf)
      apply wr_nil
      exact ⟨rfl, Keeps.refl _ _⟩
    focus (intro xx yy h; rfl)
    focus kernel_rfl
    apply chP_pure
    focus
      intro xx w' hk hF
      apply wr_move; exact rfl; with_reducible (conv => enter [6, 3]; whnf)
      apply wr_nil
      exact ⟨rfl, Keeps.refl _ _⟩
    focus (intro xx yy h; rfl)
    focus kernel_rfl
    refine chP_fact (fun yq => yq) (fun yq w' => SetR w' (W5 (4, 2)) yq) (fun yq w' w'' h k => h.keep k) ?_ ?_
    focus
      intro xx w' hk hF
      refine wr_call (vs := [.pointer (some ⟨ab, 0, none⟩), .int .i64 4, .int .i64 2]) rfl (wantM_ca (hf.keepN (hk0 hk)) (4, 2)) rfl ?_
      rintro v w'' ⟨hR, hkc⟩
      apply wr_nil
      exact ⟨v, rfl, hR, hkc⟩
    apply chP_pure
    focus
      intro xx w' hk hF
      refine wr_call (vs := [xx 19]) rfl (empty_cb true (by rw [hN2]; rfl) (hF 19 (by kernel_rfl))) rfl ?_
      rintro v w'' ⟨rfl, hkc⟩
      apply wr_nil
      exact ⟨rfl, hkc⟩
    focus (intro xx yy h; rfl)
    focus kernel_rfl
    apply chP_pure
    focus
      intro xx w' hk hF
      apply wr_pick (t := true); (iterate 2 exact rfl); with_reducible (conv => enter [6, 3]; whnf)
      apply wr_nil
      exact ⟨rfl, Keeps.refl _ _⟩
    focus (intro xx yy h; rfl)
    focus kernel_rfl
    apply chP_pure
    focus
      intro xx w' hk hF
      apply wr_move; exact rfl; with_reducible (conv => enter [6, 3]; whnf)
      apply wr_nil
      exact ⟨rfl, Keeps.refl _ _⟩
    focus (intro xx yy h; rfl)
    focus kernel_rfl
    apply chP_pure
    focus
      intro xx w' hk hF
      apply wr_move; exact rfl; with_reducible (conv => enter [6, 3]; whnf)
      apply wr_nil
      exact ⟨rfl, Keeps.refl _ _⟩
    focus (intro xx yy h; rfl)
    focus kernel_rfl
    refine chP_fact (fun yq => yq) (fun yq w' => SetR w' z yq) (fun yq w' w'' h k => h.keep k) ?_ ?_
    focus
      intro xx w' hk hF
      refine wr_call (vs := [.pointer (some ⟨ab, 0, none⟩), .int .i64 1]) rfl (unionR_ca (hf.keepN (hk0 hk)) 1 (by decide) (by decide) hU1) rfl ?_
      rintro v w'' ⟨hR, hkc⟩
      apply wr_nil
      exact ⟨v, rfl, hR, hkc⟩
    apply chP_pure
    focus
      intro xx w' hk hF
      refine wr_loadAll (cs := [.bool z.1, zn]) rfl rfl rfl ((hk0 hk).heap hczf (fun h => h)) rfl ?_
      apply wr_nil
      exact ⟨rfl, Keeps.refl _ _⟩
    focus (intro xx yy h; rfl)
    focus kernel_rfl
    apply chP_pure
    focus
      intro xx w' hk hF
      refine wr_call (vs := [xx 24, SetV z.1 zn]) rfl (same_cb true (sameP_self z) (hF 24 (by kernel_rfl)) (hzf2.keep (hk0 hk)) (by omega) (by omega)) rfl ?_
      rintro v w'' ⟨rfl, hkc⟩
      apply wr_nil
      exact ⟨rfl, hkc⟩
    focus (intro xx yy h; rfl)
    focus kernel_rfl
    apply chP_pure
    focus
      intro xx w' hk hF
      apply wr_pick (t := true); (iterate 2 exact rfl); with_reducible (conv => enter [6, 3]; whnf)
      apply wr_nil
      exact ⟨rfl, Keeps.refl _ _⟩
    focus (intro xx yy h; rfl)
    focus kernel_rfl
    apply chP_pure
    focus
      intro xx w' hk hF
      apply wr_move; exact rfl; with_reducible (conv => enter [6, 3]; whnf)
      apply wr_nil
      exact ⟨rfl, Keeps.refl _ _⟩
    focus (intro xx yy h; rfl)
    focus kernel_rfl
    apply chP_pure
    focus
      intro xx w' hk hF
      apply wr_move; exact rfl; with_reducible (conv => enter [6, 3]; whnf)
      apply wr_nil
      exact ⟨rfl, Keeps.refl _ _⟩
    focus (intro xx yy h; rfl)
    focus kernel_rfl
    refine chP_fact (fun yq => yq) (fun yq w' => SetR w' noneP yq) (fun yq w' w'' h k => h.keep k) ?_ ?_
    focus
      intro xx w' hk hF
      refine wr_call (vs := [.pointer (some ⟨ab, 0, none⟩), .int .i64 2]) rfl (unionR_ca (hf.keepN (hk0 hk)) 2 (by decide) (by decide) hU2) rfl ?_
      rintro v w'' ⟨hR, hkc⟩
      apply wr_nil
      exact ⟨v, rfl, hR, hkc⟩
    apply chP_pure
    focus
      intro xx w' hk hF
      refine wr_call (vs := [xx 30]) rfl (empty_cb true rfl (hF 30 (by kernel_rfl))) rfl ?_
      rintro v w'' ⟨rfl, hkc⟩
      apply wr_nil
      exact ⟨rfl, hkc⟩
    focus (intro xx yy h; rfl)
    focus kernel_rfl
    apply chP_pure
    focus
      intro xx w' hk hF
      apply wr_pick (t := true); (iterate 2 exact rfl); with_reducible (conv => enter [6, 3]; whnf)
      apply wr_nil
      exact ⟨rfl, Keeps.refl _ _⟩
    focus (intro xx yy h; rfl)
    focus kernel_rfl
    apply chP_pure
    focus
      intro xx w' hk hF
      apply wr_assign; exact rfl; with_reducible (conv => enter [6, 3]; whnf)
      apply wr_nil
      exact ⟨rfl, Keeps.refl _ _⟩
    focus (intro xx yy h; rfl)
    focus kernel_rfl
    refine chP_nil ?_
    intro xx wz hkz' hF
    have hkz := hk0 hkz'
    clear hF
    (repeat first | apply wr_end | (apply wc_ret; try simp only [thenE, inBlockE, bodyQ]))
    exact leave1 (v := .bool true) rfl rfl ⟨rfl, hKF.trans hkz⟩
  have hxn : x = noneP := (noneP_iff x).1 hBx
  (repeat first | (apply wr_assign; exact rfl; with_reducible (conv => enter [6, 3]; whnf)) | apply wr_end | apply wc_seq | apply wc_region)
  refine wr_loadAll (cs := [.bool x.1, xn]) rfl rfl rfl hcx9 rfl ?_
  refine wr_call (vs := [SetV x.1 xn]) rfl (empty_cb true hBx hx9) rfl ?_
  rintro v wa ⟨rfl, hka⟩
  have hya := hy9.keep hka
  have hcya := hka.heap hcy9 (fun h => h)
  cases hBy : (!y.1 && decide (y.2.length = 0))
  focus
    have hyn : y ≠ noneP := fun e => by rw [(noneP_iff y).2 e] at hBy; cases hBy
    have he0 : e = 0 := by
      rcases he with ⟨h, _⟩ | ⟨_, h⟩
      · exact h
      · exact absurd (hC2.symm.trans (h _)) hyn
    subst he0
    (repeat first | (apply wr_move; exact rfl; with_reducible (conv => enter [6, 3]; whnf)))
    refine wr_loadAll (cs := [.bool y.1, yn]) rfl rfl rfl hcya rfl ?_
    refine wr_call (vs := [SetV y.1 yn]) rfl (empty_cb false hBy hya) rfl ?_
    rintro v wf ⟨rfl, hkf'⟩
    have hkf := hka.trans hkf'
    have hf := h9.keepN hkf
    have hKF := hK9.trans hkf
    have hczf := hkf.heap hcz9 (fun h => h)
    have hzf2 := hz9.keep hkf
    have hk0 : ∀ {w'}, Keeps NoB wf.drew w' → Keeps NoB wf w' := fun hk => (Keeps.refl NoB wf).drew.trans hk
    (repeat first | (apply wr_assign; exact rfl; with_reducible (conv => enter [6, 3]; whnf)) | apply wr_end | apply wc_seq | (apply wr_pick (t := true); (iterate 2 exact rfl); with_reducible (conv => enter [6, 3]; whnf)))
    refine wc_drawP (l := _) 34 _ (by kernel_rfl) (by kernel_rfl) rfl (by kernel_rfl) (by kernel_rfl) (by decide) ?_
    apply chP_pure
    focus
      intro xx w' hk hF
      apply wr_move; exact rfl; with_reducible (conv => enter [6, 3]; whnf)
      apply wr_nil
      exact ⟨rfl, Keeps.refl _ _⟩
    focus (intro xx yy h; rfl)
    focus kernel_rfl
    apply chP_pure
    focus
      intro xx w' hk hF
      apply wr_move; exact rfl; with_reducible (conv => enter [6, 3]; whnf)
      apply wr_nil
      exact ⟨rfl, Keeps.refl _ _⟩
    focus (intro xx yy h; rfl)
    focus kernel_rfl
    apply chP_pure
    focus
      intro xx w' hk hF
      apply wr_move; exact rfl; with_reducible (conv => enter [6, 3]; whnf)
      apply wr_nil
      exact ⟨rfl, Keeps.refl _ _⟩
    focus (intro xx yy h; rfl)
    focus kernel_rfl
    apply chP_pure
    focus
      intro xx w' hk hF
      apply wr_cmp; (iterate 3 exact rfl); exact cmpT (by dsimp only [cmpP]; first | done | omega)
      apply wr_nil
      exact ⟨rfl, Keeps.refl _ _⟩
    focus (intro xx yy h; rfl)
    focus kernel_rfl
    apply chP_pure
    focus
      intro xx w' hk hF
      apply wr_move; exact rfl; with_reducible (conv => enter [6, 3]; whnf)
      apply wr_nil
      exact ⟨rfl, Keeps.refl _ _⟩
    focus (intro xx yy h; rfl)
    focus kernel_rfl
    apply chP_pure
    focus
      intro xx w' hk hF
      apply wr_not; iterate 2 exact rfl
      apply wr_nil
      exact ⟨rfl, Keeps.refl _ _⟩
    focus (intro xx yy h; rfl)
    focus kernel_rfl
    apply chP_pure
    focus
      intro xx w' hk hF
      refine wr_boolEq (c := true) rfl rfl rfl rfl ?_
      apply wr_nil
      exact ⟨rfl, Keeps.refl _ _⟩
    focus (intro xx yy h; rfl)
    focus kernel_rfl
    apply chP_pure
    focus
      intro xx w' hk hF
      apply wr_pick (t := true); (iterate 2 exact rfl); with_reducible (conv => enter [6, 3]; whnf)
      apply wr_nil
      exact ⟨rfl, Keeps.refl _ _⟩
    focus (intro xx yy h; rfl)
    focus kernel_rfl
    apply chP_pure
    focus
      intro xx w' hk hF
      apply wr_move; exact rfl; with_reducible (conv => enter [6, 3]; whnf)
      apply wr_nil
      exact ⟨rfl, Keeps.refl _ _⟩
    focus (intro xx yy h; rfl)
    focus kernel_rfl
    apply chP_pure
    focus
      intro xx w' hk hF
      apply wr_move; exact rfl; with_reducible (conv => enter [6, 3]; whnf)
      apply wr_nil
      exact ⟨rfl, Keeps.refl _ _⟩
    focus (intro xx yy h; rfl)
    focus kernel_rfl
    apply chP_pure
    focus
      intro xx w' hk hF
      apply wr_cmp; (iterate 3 exact rfl); exact cmpT (by dsimp only [cmpP]; first | done | omega)
      apply wr_nil
      exact ⟨rfl, Keeps.refl _ _⟩
    focus (intro xx yy h; rfl)
    focus kernel_rfl
    apply chP_pure
    focus
      intro xx w' hk hF
      apply wr_pick (t := true); (iterate 2 exact rfl); with_reducible (conv => enter [6, 3]; whnf)
      apply wr_nil
      exact ⟨rfl, Keeps.refl _ _⟩
    focus (intro xx yy h; rfl)
    focus kernel_rfl
    apply chP_pure
    focus
      intro xx w' hk hF
      apply wr_move; exact rfl; with_reducible (conv => enter [6, 3]; whnf)
      apply wr_nil
      exact ⟨rfl, Keeps.refl _ _⟩
    focus (intro xx yy h; rfl)
    focus kernel_rfl
    apply chP_pure
    focus
      intro xx w' hk hF
      apply wr_move; exact rfl; with_reducible (conv => enter [6, 3]; whnf)
      apply wr_nil
      exact ⟨rfl, Keeps.refl _ _⟩
    focus (intro xx yy h; rfl)
    focus kernel_rfl
    refine chP_fact (fun yq => yq) (fun yq w' => SetR w' (W5 (4, 1)) yq) (fun yq w' w'' h k => h.keep k) ?_ ?_
    focus
      intro xx w' hk hF
      refine wr_call (vs := [.pointer (some ⟨ab, 0, none⟩), .int .i64 4, .int .i64 1]) rfl (wantM_ca (hf.keepN (hk0 hk)) (4, 1)) rfl ?_
      rintro v w'' ⟨hR, hkc⟩
      apply wr_nil
      exact ⟨v, rfl, hR, hkc⟩
    apply chP_pure
    focus
      intro xx w' hk hF
      refine wr_call (vs := [xx 14]) rfl (empty_cb true (by rw [hN1]; rfl) (hF 14 (by kernel_rfl))) rfl ?_
      rintro v w'' ⟨rfl, hkc⟩
      apply wr_nil
      exact ⟨rfl, hkc⟩
    focus (intro xx yy h; rfl)
    focus kernel_rfl
    apply chP_pure
    focus
      intro xx w' hk hF
      apply wr_pick (t := true); (iterate 2 exact rfl); with_reducible (conv => enter [6, 3]; whnf)
      apply wr_nil
      exact ⟨rfl, Keeps.refl _ _⟩
    focus (intro xx yy h; rfl)
    focus kernel_rfl
    apply chP_pure
    focus
      intro xx w' hk hF
      apply wr_move; exact rfl; with_reducible (conv => enter [6, 3]; whnf)
      apply wr_nil
      exact ⟨rfl, Keeps.refl _ _⟩
    focus (intro xx yy h; rfl)
    focus kernel_rfl
    apply chP_pure
    focus
      intro xx w' hk hF
      apply wr_move; exact rfl; with_reducible (conv => enter [6, 3]; whnf)
      apply wr_nil
      exact ⟨rfl, Keeps.refl _ _⟩
    focus (intro xx yy h; rfl)
    focus kernel_rfl
    refine chP_fact (fun yq => yq) (fun yq w' => SetR w' (W5 (4, 2)) yq) (fun yq w' w'' h k => h.keep k) ?_ ?_
    focus
      intro xx w' hk hF
      refine wr_call (vs := [.pointer (some ⟨ab, 0, none⟩), .int .i64 4, .int .i64 2]) rfl (wantM_ca (hf.keepN (hk0 hk)) (4, 2)) rfl ?_
      rintro v w'' ⟨hR, hkc⟩
      apply wr_nil
      exact ⟨v, rfl, hR, hkc⟩
    apply chP_pure
    focus
      intro xx w' hk hF
      refine wr_call (vs := [xx 19]) rfl (empty_cb true (by rw [hN2]; rfl) (hF 19 (by kernel_rfl))) rfl ?_
      rintro v w'' ⟨rfl, hkc⟩
      apply wr_nil
      exact ⟨rfl, hkc⟩
    focus (intro xx yy h; rfl)
    focus kernel_rfl
    apply chP_pure
    focus
      intro xx w' hk hF
      apply wr_pick (t := true); (iterate 2 exact rfl); with_reducible (conv => enter [6, 3]; whnf)
      apply wr_nil
      exact ⟨rfl, Keeps.refl _ _⟩
    focus (intro xx yy h; rfl)
    focus kernel_rfl
    apply chP_pure
    focus
      intro xx w' hk hF
      apply wr_move; exact rfl; with_reducible (conv => enter [6, 3]; whnf)
      apply wr_nil
      exact ⟨rfl, Keeps.refl _ _⟩
    focus (intro xx yy h; rfl)
    focus kernel_rfl
    apply chP_pure
    focus
      intro xx w' hk hF
      apply wr_move; exact rfl; with_reducible (conv => enter [6, 3]; whnf)
      apply wr_nil
      exact ⟨rfl, Keeps.refl _ _⟩
    focus (intro xx yy h; rfl)
    focus kernel_rfl
    refine chP_fact (fun yq => yq) (fun yq w' => SetR w' z yq) (fun yq w' w'' h k => h.keep k) ?_ ?_
    focus
      intro xx w' hk hF
      refine wr_call (vs := [.pointer (some ⟨ab, 0, none⟩), .int .i64 1]) rfl (unionR_ca (hf.keepN (hk0 hk)) 1 (by decide) (by decide) hU1) rfl ?_
      rintro v w'' ⟨hR, hkc⟩
      apply wr_nil
      exact ⟨v, rfl, hR, hkc⟩
    apply chP_pure
    focus
      intro xx w' hk hF
      refine wr_loadAll (cs := [.bool z.1, zn]) rfl rfl rfl ((hk0 hk).heap hczf (fun h => h)) rfl ?_
      apply wr_nil
      exact ⟨rfl, Keeps.refl _ _⟩
    focus (intro xx yy h; rfl)
    focus kernel_rfl
    apply chP_pure
    focus
      intro xx w' hk hF
      refine wr_call (vs := [xx 24, SetV z.1 zn]) rfl (same_cb true (sameP_self z) (hF 24 (by kernel_rfl)) (hzf2.keep (hk0 hk)) (by omega) (by omega)) rfl ?_
      rintro v w'' ⟨rfl, hkc⟩
      apply wr_nil
      exact ⟨rfl, hkc⟩
    focus (intro xx yy h; rfl)
    focus kernel_rfl
    apply chP_pure
    focus
      intro xx w' hk hF
      apply wr_pick (t := true); (iterate 2 exact rfl); with_reducible (conv => enter [6, 3]; whnf)
      apply wr_nil
      exact ⟨rfl, Keeps.refl _ _⟩
    focus (intro xx yy h; rfl)
    focus kernel_rfl
    apply chP_pure
    focus
      intro xx w' hk hF
      apply wr_move; exact rfl; with_reducible (conv => enter [6, 3]; whnf)
      apply wr_nil
      exact ⟨rfl, Keeps.refl _ _⟩
    focus (intro xx yy h; rfl)
    focus kernel_rfl
    apply chP_pure
    focus
      intro xx w' hk hF
      apply wr_move; exact rfl; with_reducible (conv => enter [6, 3]; whnf)
      apply wr_nil
      exact ⟨rfl, Keeps.refl _ _⟩
    focus (intro xx yy h; rfl)
    focus kernel_rfl
    refine chP_fact (fun yq => yq) (fun yq w' => SetR w' noneP yq) (fun yq w' w'' h k => h.keep k) ?_ ?_
    focus
      intro xx w' hk hF
      refine wr_call (vs := [.pointer (some ⟨ab, 0, none⟩), .int .i64 2]) rfl (unionR_ca (hf.keepN (hk0 hk)) 2 (by decide) (by decide) hU2) rfl ?_
      rintro v w'' ⟨hR, hkc⟩
      apply wr_nil
      exact ⟨v, rfl, hR, hkc⟩
    apply chP_pure
    focus
      intro xx w' hk hF
      refine wr_call (vs := [xx 30]) rfl (empty_cb true rfl (hF 30 (by kernel_rfl))) rfl ?_
      rintro v w'' ⟨rfl, hkc⟩
      apply wr_nil
      exact ⟨rfl, hkc⟩
    focus (intro xx yy h; rfl)
    focus kernel_rfl
    apply chP_pure
    focus
      intro xx w' hk hF
      apply wr_pick (t := true); (iterate 2 exact rfl); with_reducible (conv => enter [6, 3]; whnf)
      apply wr_nil
      exact ⟨rfl, Keeps.refl _ _⟩
    focus (intro xx yy h; rfl)
    focus kernel_rfl
    apply chP_pure
    focus
      intro xx w' hk hF
      apply wr_assign; exact rfl; with_reducible (conv => enter [6, 3]; whnf)
      apply wr_nil
      exact ⟨rfl, Keeps.refl _ _⟩
    focus (intro xx yy h; rfl)
    focus kernel_rfl
    refine chP_nil ?_
    intro xx wz hkz' hF
    have hkz := hk0 hkz'
    clear hF
    (repeat first | apply wr_end | (apply wc_ret; try simp only [thenE, inBlockE, bodyQ]))
    exact leave1 (v := .bool true) rfl rfl ⟨rfl, hKF.trans hkz⟩
  have hyn : y = noneP := (noneP_iff y).1 hBy
  have he5 : e = 5 := by
    rcases he with ⟨_, kk, h⟩ | ⟨h, _⟩
    · exact absurd (hC3 kk hxn hyn) h
    · exact h
  subst he5
  (repeat first | (apply wr_move; exact rfl; with_reducible (conv => enter [6, 3]; whnf)))
  refine wr_loadAll (cs := [.bool y.1, yn]) rfl rfl rfl hcya rfl ?_
  refine wr_call (vs := [SetV y.1 yn]) rfl (empty_cb true hBy hya) rfl ?_
  rintro v wf ⟨rfl, hkf'⟩
  have hkf := hka.trans hkf'
  have hf := h9.keepN hkf
  have hKF := hK9.trans hkf
  have hczf := hkf.heap hcz9 (fun h => h)
  have hzf2 := hz9.keep hkf
  have hk0 : ∀ {w'}, Keeps NoB wf.drew w' → Keeps NoB wf w' := fun hk => (Keeps.refl NoB wf).drew.trans hk
  (repeat first | (apply wr_assign; exact rfl; with_reducible (conv => enter [6, 3]; whnf)) | apply wr_end | apply wc_seq | (apply wr_pick (t := true); (iterate 2 exact rfl); with_reducible (conv => enter [6, 3]; whnf)))
  refine wc_drawP (l := _) 34 _ (by kernel_rfl) (by kernel_rfl) rfl (by kernel_rfl) (by kernel_rfl) (by decide) ?_
  apply chP_pure
  focus
    intro xx w' hk hF
    apply wr_move; exact rfl; with_reducible (conv => enter [6, 3]; whnf)
    apply wr_nil
    exact ⟨rfl, Keeps.refl _ _⟩
  focus (intro xx yy h; rfl)
  focus kernel_rfl
  apply chP_pure
  focus
    intro xx w' hk hF
    apply wr_move; exact rfl; with_reducible (conv => enter [6, 3]; whnf)
    apply wr_nil
    exact ⟨rfl, Keeps.refl _ _⟩
  focus (intro xx yy h; rfl)
  focus kernel_rfl
  apply chP_pure
  focus
    intro xx w' hk hF
    apply wr_move; exact rfl; with_reducible (conv => enter [6, 3]; whnf)
    apply wr_nil
    exact ⟨rfl, Keeps.refl _ _⟩
  focus (intro xx yy h; rfl)
  focus kernel_rfl
  apply chP_pure
  focus
    intro xx w' hk hF
    apply wr_cmp; (iterate 3 exact rfl); exact cmpF (by dsimp only [cmpN]; first | done | omega)
    apply wr_nil
    exact ⟨rfl, Keeps.refl _ _⟩
  focus (intro xx yy h; rfl)
  focus kernel_rfl
  apply chP_pure
  focus
    intro xx w' hk hF
    apply wr_move; exact rfl; with_reducible (conv => enter [6, 3]; whnf)
    apply wr_nil
    exact ⟨rfl, Keeps.refl _ _⟩
  focus (intro xx yy h; rfl)
  focus kernel_rfl
  apply chP_pure
  focus
    intro xx w' hk hF
    apply wr_not; iterate 2 exact rfl
    apply wr_nil
    exact ⟨rfl, Keeps.refl _ _⟩
  focus (intro xx yy h; rfl)
  focus kernel_rfl
  apply chP_pure
  focus
    intro xx w' hk hF
    refine wr_boolEq (c := true) rfl rfl rfl rfl ?_
    apply wr_nil
    exact ⟨rfl, Keeps.refl _ _⟩
  focus (intro xx yy h; rfl)
  focus kernel_rfl
  apply chP_pure
  focus
    intro xx w' hk hF
    apply wr_pick (t := true); (iterate 2 exact rfl); with_reducible (conv => enter [6, 3]; whnf)
    apply wr_nil
    exact ⟨rfl, Keeps.refl _ _⟩
  focus (intro xx yy h; rfl)
  focus kernel_rfl
  apply chP_pure
  focus
    intro xx w' hk hF
    apply wr_move; exact rfl; with_reducible (conv => enter [6, 3]; whnf)
    apply wr_nil
    exact ⟨rfl, Keeps.refl _ _⟩
  focus (intro xx yy h; rfl)
  focus kernel_rfl
  apply chP_pure
  focus
    intro xx w' hk hF
    apply wr_move; exact rfl; with_reducible (conv => enter [6, 3]; whnf)
    apply wr_nil
    exact ⟨rfl, Keeps.refl _ _⟩
  focus (intro xx yy h; rfl)
  focus kernel_rfl
  apply chP_pure
  focus
    intro xx w' hk hF
    apply wr_cmp; (iterate 3 exact rfl); exact cmpT (by dsimp only [cmpP]; first | done | omega)
    apply wr_nil
    exact ⟨rfl, Keeps.refl _ _⟩
  focus (intro xx yy h; rfl)
  focus kernel_rfl
  apply chP_pure
  focus
    intro xx w' hk hF
    apply wr_pick (t := true); (iterate 2 exact rfl); with_reducible (conv => enter [6, 3]; whnf)
    apply wr_nil
    exact ⟨rfl, Keeps.refl _ _⟩
  focus (intro xx yy h; rfl)
  focus kernel_rfl
  apply chP_pure
  focus
    intro xx w' hk hF
    apply wr_move; exact rfl; with_reducible (conv => enter [6, 3]; whnf)
    apply wr_nil
    exact ⟨rfl, Keeps.refl _ _⟩
  focus (intro xx yy h; rfl)
  focus kernel_rfl
  apply chP_pure
  focus
    intro xx w' hk hF
    apply wr_move; exact rfl; with_reducible (conv => enter [6, 3]; whnf)
    apply wr_nil
    exact ⟨rfl, Keeps.refl _ _⟩
  focus (intro xx yy h; rfl)
  focus kernel_rfl
  refine chP_fact (fun yq => yq) (fun yq w' => SetR w' (W5 (4, 1)) yq) (fun yq w' w'' h k => h.keep k) ?_ ?_
  focus
    intro xx w' hk hF
    refine wr_call (vs := [.pointer (some ⟨ab, 0, none⟩), .int .i64 4, .int .i64 1]) rfl (wantM_ca (hf.keepN (hk0 hk)) (4, 1)) rfl ?_
    rintro v w'' ⟨hR, hkc⟩
    apply wr_nil
    exact ⟨v, rfl, hR, hkc⟩
  apply chP_pure
  focus
    intro xx w' hk hF
    refine wr_call (vs := [xx 14]) rfl (empty_cb true (by rw [hN1]; rfl) (hF 14 (by kernel_rfl))) rfl ?_
    rintro v w'' ⟨rfl, hkc⟩
    apply wr_nil
    exact ⟨rfl, hkc⟩
  focus (intro xx yy h; rfl)
  focus kernel_rfl
  apply chP_pure
  focus
    intro xx w' hk hF
    apply wr_pick (t := true); (iterate 2 exact rfl); with_reducible (conv => enter [6, 3]; whnf)
    apply wr_nil
    exact ⟨rfl, Keeps.refl _ _⟩
  focus (intro xx yy h; rfl)
  focus kernel_rfl
  apply chP_pure
  focus
    intro xx w' hk hF
    apply wr_move; exact rfl; with_reducible (conv => enter [6, 3]; whnf)
    apply wr_nil
    exact ⟨rfl, Keeps.refl _ _⟩
  focus (intro xx yy h; rfl)
  focus kernel_rfl
  apply chP_pure
  focus
    intro xx w' hk hF
    apply wr_move; exact rfl; with_reducible (conv => enter [6, 3]; whnf)
    apply wr_nil
    exact ⟨rfl, Keeps.refl _ _⟩
  focus (intro xx yy h; rfl)
  focus kernel_rfl
  refine chP_fact (fun yq => yq) (fun yq w' => SetR w' (W5 (4, 2)) yq) (fun yq w' w'' h k => h.keep k) ?_ ?_
  focus
    intro xx w' hk hF
    refine wr_call (vs := [.pointer (some ⟨ab, 0, none⟩), .int .i64 4, .int .i64 2]) rfl (wantM_ca (hf.keepN (hk0 hk)) (4, 2)) rfl ?_
    rintro v w'' ⟨hR, hkc⟩
    apply wr_nil
    exact ⟨v, rfl, hR, hkc⟩
  apply chP_pure
  focus
    intro xx w' hk hF
    refine wr_call (vs := [xx 19]) rfl (empty_cb true (by rw [hN2]; rfl) (hF 19 (by kernel_rfl))) rfl ?_
    rintro v w'' ⟨rfl, hkc⟩
    apply wr_nil
    exact ⟨rfl, hkc⟩
  focus (intro xx yy h; rfl)
  focus kernel_rfl
  apply chP_pure
  focus
    intro xx w' hk hF
    apply wr_pick (t := true); (iterate 2 exact rfl); with_reducible (conv => enter [6, 3]; whnf)
    apply wr_nil
    exact ⟨rfl, Keeps.refl _ _⟩
  focus (intro xx yy h; rfl)
  focus kernel_rfl
  apply chP_pure
  focus
    intro xx w' hk hF
    apply wr_move; exact rfl; with_reducible (conv => enter [6, 3]; whnf)
    apply wr_nil
    exact ⟨rfl, Keeps.refl _ _⟩
  focus (intro xx yy h; rfl)
  focus kernel_rfl
  apply chP_pure
  focus
    intro xx w' hk hF
    apply wr_move; exact rfl; with_reducible (conv => enter [6, 3]; whnf)
    apply wr_nil
    exact ⟨rfl, Keeps.refl _ _⟩
  focus (intro xx yy h; rfl)
  focus kernel_rfl
  refine chP_fact (fun yq => yq) (fun yq w' => SetR w' z yq) (fun yq w' w'' h k => h.keep k) ?_ ?_
  focus
    intro xx w' hk hF
    refine wr_call (vs := [.pointer (some ⟨ab, 0, none⟩), .int .i64 1]) rfl (unionR_ca (hf.keepN (hk0 hk)) 1 (by decide) (by decide) hU1) rfl ?_
    rintro v w'' ⟨hR, hkc⟩
    apply wr_nil
    exact ⟨v, rfl, hR, hkc⟩
  apply chP_pure
  focus
    intro xx w' hk hF
    refine wr_loadAll (cs := [.bool z.1, zn]) rfl rfl rfl ((hk0 hk).heap hczf (fun h => h)) rfl ?_
    apply wr_nil
    exact ⟨rfl, Keeps.refl _ _⟩
  focus (intro xx yy h; rfl)
  focus kernel_rfl
  apply chP_pure
  focus
    intro xx w' hk hF
    refine wr_call (vs := [xx 24, SetV z.1 zn]) rfl (same_cb true (sameP_self z) (hF 24 (by kernel_rfl)) (hzf2.keep (hk0 hk)) (by omega) (by omega)) rfl ?_
    rintro v w'' ⟨rfl, hkc⟩
    apply wr_nil
    exact ⟨rfl, hkc⟩
  focus (intro xx yy h; rfl)
  focus kernel_rfl
  apply chP_pure
  focus
    intro xx w' hk hF
    apply wr_pick (t := true); (iterate 2 exact rfl); with_reducible (conv => enter [6, 3]; whnf)
    apply wr_nil
    exact ⟨rfl, Keeps.refl _ _⟩
  focus (intro xx yy h; rfl)
  focus kernel_rfl
  apply chP_pure
  focus
    intro xx w' hk hF
    apply wr_move; exact rfl; with_reducible (conv => enter [6, 3]; whnf)
    apply wr_nil
    exact ⟨rfl, Keeps.refl _ _⟩
  focus (intro xx yy h; rfl)
  focus kernel_rfl
  apply chP_pure
  focus
    intro xx w' hk hF
    apply wr_move; exact rfl; with_reducible (conv => enter [6, 3]; whnf)
    apply wr_nil
    exact ⟨rfl, Keeps.refl _ _⟩
  focus (intro xx yy h; rfl)
  focus kernel_rfl
  refine chP_fact (fun yq => yq) (fun yq w' => SetR w' noneP yq) (fun yq w' w'' h k => h.keep k) ?_ ?_
  focus
    intro xx w' hk hF
    refine wr_call (vs := [.pointer (some ⟨ab, 0, none⟩), .int .i64 2]) rfl (unionR_ca (hf.keepN (hk0 hk)) 2 (by decide) (by decide) hU2) rfl ?_
    rintro v w'' ⟨hR, hkc⟩
    apply wr_nil
    exact ⟨v, rfl, hR, hkc⟩
  apply chP_pure
  focus
    intro xx w' hk hF
    refine wr_call (vs := [xx 30]) rfl (empty_cb true rfl (hF 30 (by kernel_rfl))) rfl ?_
    rintro v w'' ⟨rfl, hkc⟩
    apply wr_nil
    exact ⟨rfl, hkc⟩
  focus (intro xx yy h; rfl)
  focus kernel_rfl
  apply chP_pure
  focus
    intro xx w' hk hF
    apply wr_pick (t := true); (iterate 2 exact rfl); with_reducible (conv => enter [6, 3]; whnf)
    apply wr_nil
    exact ⟨rfl, Keeps.refl _ _⟩
  focus (intro xx yy h; rfl)
  focus kernel_rfl
  apply chP_pure
  focus
    intro xx w' hk hF
    apply wr_assign; exact rfl; with_reducible (conv => enter [6, 3]; whnf)
    apply wr_nil
    exact ⟨rfl, Keeps.refl _ _⟩
  focus (intro xx yy h; rfl)
  focus kernel_rfl
  refine chP_nil ?_
  intro xx wz hkz' hF
  have hkz := hk0 hkz'
  clear hF
  (repeat first | apply wr_end | (apply wc_ret; try simp only [thenE, inBlockE, bodyQ]))
  exact leave1 (v := .bool true) rfl rfl ⟨rfl, hKF.trans hkz⟩
end Go.Proofs.YtajajahofkialaaGreatDoor
