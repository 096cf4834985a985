/- noriaref14: Keys. -/
import Derived.Test.YtajajahofkialaaGreatDoorIh
namespace Go.Proofs.YtajajahofkialaaGreatDoor
open Go Go.V Go.RowKit
set_option linter.unusedVariables false
set_option linter.unusedSimpArgs false

/- The head: $1 after New. -/
/- A set of a few: $1 slice, $2 bytes, $3 world, $4 stem, $5 SlR, $6 bytes small, $7 how many. -/
def cN (Wn : WF) (k : Nat) (u : TT) (j : Nat) : Nat := (List.range (j + 1)).countP fun id : Nat => decide (u ∈ listP (Wn ((id : Int), (k : Int))))
theorem cN_succ (Wn : WF) (k : Nat) (u : TT) (j : Nat) : cN Wn k u (j + 1) = cN Wn k u j + (if u ∈ listP (Wn (((j + 1 : Nat) : Int), (k : Int))) then 1 else 0) := by
  unfold cN
  rw [List.range_succ (n := j + 1), List.countP_append]
  congr 1
  rw [List.countP_cons, List.countP_nil, Nat.zero_add]
  by_cases h : u ∈ listP (Wn (((j + 1 : Nat) : Int), (k : Int))) <;> simp [h]
theorem cN_zero {Wn : WF} (hd : ∀ t, ¬ inDom t → Wn t = noneP) (k : Nat) (u : TT) : cN Wn k u 0 = 0 := by
  unfold cN
  rw [show List.range (0 + 1) = [0] from rfl, List.countP_cons, List.countP_nil, hd _ (fun h => by have := h.1; simp at this)]
  simp [listP, noneP]
theorem cN_le (Wn : WF) (k : Nat) (u : TT) (j : Nat) : cN Wn k u j ≤ j + 1 := by
  unfold cN
  have := List.countP_le_length (p := fun id : Nat => decide (u ∈ listP (Wn ((id : Int), (k : Int))))) (l := List.range (j + 1))
  rw [List.length_range] at this
  exact this
theorem cN_cnt (Wn : WF) (k : Nat) (u : TT) : (cntW Wn k u).toNat = cN Wn k u 32 := by
  unfold cntW cN
  rw [Int.toNat_natCast]
set_option maxRecDepth 100000 in
set_option maxHeartbeats 16000000 in
theorem refKeys_ca {w : World} {xb : Nat} {Wn : WF} (h : RefAt w xb Wn) (hd : ∀ t, ¬ inDom t → Wn t = noneP) (hf : ∀ t, Fine (Wn t)) (hsm : ∀ t, (Wn t).2.length ≤ 100000) (k : Nat) (hk1 : 1 ≤ k) (hk5 : k ≤ 5) :
    Ca Tryz.prog 29 #[.pointer (some ⟨xb, 0, none⟩), .int .i64 (k : Int)] w fun v w' => w'.ownsRow w.heap.size 9 1 v (keysL Wn k).length (SL (keysL Wn k)) ∧ Keeps NoB w w' := by
  refine ca_of_body (args := [.pointer (some ⟨xb, 0, none⟩), .int .i64 (k : Int)]) Tryz.func29 rfl (by kernel_rfl) ?_
  (repeat first | (apply wr_move; exact rfl; with_reducible (conv => enter [6, 3]; whnf)) | (apply wr_assign; exact rfl; with_reducible (conv => enter [6, 3]; whnf)) | apply wr_end | apply wc_seq | apply wc_region)
  refine wr_call (vs := [.pointer (some ⟨xb, 0, none⟩), .int .i64 (k : Int)]) rfl (refUnion14_ca h hd hf hsm k hk1 hk5) rfl ?_
  rintro v w1 ⟨hu, hk01⟩
  obtain ⟨U, hU⟩ : ∃ U, U = unionK Wn k := ⟨_, rfl⟩
  rw [← hU] at hu
  have hUf : Fine U := by rw [hU]; exact ofP_fine _
  have hUl : U.2.length ≤ 3400000 := by rw [hU]; exact Nat.le_trans (ofP_le _) (allL_len hsm k)
  have hkl : keysL Wn k = (listP U).map (keyT Wn k) := by unfold keysL; rw [← hU]
  have hll := listP_le U
  refine wr_call (vs := [v]) rfl (refList_ca U v w1 hu (by omega)) rfl ?_
  rintro lv w2 ⟨hlv, hk12⟩
  obtain ⟨ua, uc, rfl, _, huat⟩ := slr_strs hlv
  have hk02 := hk01.trans hk12
  obtain ⟨L, h1, h2, h3, h4⟩ := (h.keep hk02).at'
  rw [hkl]
  (repeat first | (apply wr_assign; exact rfl; with_reducible (conv => enter [6, 3]; whnf)) | apply wr_end | apply wc_seq | apply wc_region | apply wc_block)
  refine wc_loopL (α := Nat × Value) (fun p => [(0, .pointer (some ⟨xb, 0, none⟩)), (1, .int .i64 (k : Int)), (5, .slice ua (listP U).length uc), (6, p.2), (7, .int .i64 (p.1 : Int))])
    (fun p ds w' => ds = [] ∧ p.1 ≤ (listP U).length ∧ w'.ownsRow w2.heap.size 9 1 p.2 p.1 (SL (((listP U).take p.1).map (keyT Wn k))) ∧ Keeps NoB w2 w') (fun p => (listP U).length - p.1) (0, nilV)
    ⟨rfl, Nat.zero_le _, own_nilV _ _ _ _, Keeps.refl _ _⟩ ⟨rfl, rfl, rfl, rfl, rfl, trivial⟩ ?_
  rintro ⟨i, ov⟩ ds f0 w3 ⟨rfl, hi, ho3, hk23⟩
  dsimp only at hi ho3 ⊢
  have hk03 := hk02.trans hk23
  by_cases hlt : i < (listP U).length
  rotate_left
  · have hie : i = (listP U).length := by omega
    subst hie
    rw [List.take_length] at ho3
    have hml : ((listP U).map (keyT Wn k)).length = (listP U).length := List.length_map _
    rw [hml]
    (repeat first | (apply wr_move; exact rfl; with_reducible (conv => enter [6, 3]; whnf)) | (apply wr_assign; exact rfl; with_reducible (conv => enter [6, 3]; whnf)) | apply wr_end | apply wc_seq | apply wc_region | (apply wr_len_slice; iterate 2 exact rfl) | (apply wr_cmp; (iterate 3 exact rfl); exact cmpF (by dsimp only [cmpN]; first | done | omega)) | (apply wc_false; exact rfl) | (apply wc_exit; try simp only [thenE, inBlockE, bodyQ, ↓reduceIte, Nat.reduceEqDiff]) | (apply wc_ret; try simp only [thenE, inBlockE, bodyQ]))
    exact leave1 (v := ov) rfl rfl ⟨own_down ho3 hk02.size, hk03⟩
  obtain ⟨bu, ou, rfl, curu, eu, fru, hbu, hru⟩ := huat (by omega)
  obtain ⟨u, hux⟩ : ∃ x, (listP U)[i]? = some x := ⟨(listP U)[i], by simp [hlt]⟩
  have hui := hru i u hux
  have hul : u.length ≤ 64 := by
    rcases (mem_listP U u).1 (List.mem_of_getElem? hux) with ⟨_, rfl⟩ | h1
    · decide
    · exact nameOk_le (hUf.2 u h1)
  (repeat first | (apply wr_move; exact rfl; with_reducible (conv => enter [6, 3]; whnf)) | (apply wr_assign; exact rfl; with_reducible (conv => enter [6, 3]; whnf)) | apply wr_end | apply wc_seq | apply wc_region | apply wc_skip | apply wc_block | (apply wr_len_slice; iterate 2 exact rfl) | (apply wr_cmp; (iterate 3 exact rfl); exact cmpT (by dsimp only [cmpP]; first | done | omega)) | (apply wc_true; exact rfl))
  refine wc_loopL (α := Nat) (fun j => [(0, .pointer (some ⟨xb, 0, none⟩)), (1, .int .i64 (k : Int)), (5, .slice (some ⟨bu, ou, none⟩) (listP U).length uc), (6, ov), (7, .int .i64 (i : Int)), (8, .int .u64 ((cN Wn k u j : Nat) : Int)), (9, .int .i64 ((j + 1 : Nat) : Int))])
    (fun j ds w' => ds = [] ∧ j ≤ 32 ∧ Keeps NoB w3 w') (fun j => 32 - j) 0
    ⟨rfl, by decide, Keeps.refl _ _⟩ ⟨rfl, rfl, rfl, rfl, rfl, congrArg (fun n : Nat => Value.int .u64 (n : Int)) (cN_zero hd k u).symm, rfl, trivial⟩ ?_
  rintro j ds f0 w4 ⟨rfl, hj, hk34⟩
  have hcl := cN_le Wn k u j
  have hk24 := hk23.trans hk34
  by_cases hjl : j < 32
  · obtain ⟨v, hv⟩ := ref_sel h3 (id := j + 1) (k := k) (by omega) (by omega)
    have hvr := (SE_R (h4 _ (List.mem_of_mem_drop (List.mem_of_getElem? hv)))).keep hk24
    dsimp only at hvr
    have h24 := hk24.heap h2 (fun h => h)
    have hsj := hsm (((j + 1 : Nat) : Int), (k : Int))
    have hlj := listP_le (Wn (((j + 1 : Nat) : Int), (k : Int)))
    (repeat first | (apply wr_move; exact rfl; with_reducible (conv => enter [6, 3]; whnf)) | apply wr_end | apply wc_seq | apply wc_region | apply wc_skip | apply wc_block | (apply wr_fieldAddr; iterate 2 exact rfl) | (apply wr_nilCheck; iterate 2 exact rfl) | (apply wr_cmp; (iterate 3 exact rfl); exact cmpT (by dsimp only [cmpP]; first | done | omega)) | (apply wc_true; exact rfl))
    refine wr_indexArr (i := j + 1) rfl rfl rfl (by omega) ?_
    refine wr_indexArr (i := k) rfl rfl rfl (by omega) ?_
    refine wr_loadElem (G := GSt) (n := 6) (i := k) (l := L.drop ((j + 1) * 6)) (o := 0 + (j + 1) * 12) rfl rfl GSt_len rfl h24 (ref_cells L (j + 1)) (by omega) (hv) rfl ?_
    refine wr_call (vs := [SetV (Wn (((j + 1 : Nat) : Int), (k : Int))).1 v]) rfl (refList_ca _ _ w4 hvr (by omega)) rfl ?_
    rintro lv w5 ⟨hlv5, hk45⟩
    obtain ⟨la, lc, rfl, _, hlat⟩ := slr_strs hlv5
    (repeat first | (apply wr_assign; exact rfl; with_reducible (conv => enter [6, 3]; whnf)) | apply wr_end | apply wc_seq | apply wc_region | apply wc_block)
    refine wc_loopL (α := Nat) (fun q => [(0, .pointer (some ⟨xb, 0, none⟩)), (1, .int .i64 (k : Int)), (5, .slice (some ⟨bu, ou, none⟩) (listP U).length uc), (6, ov), (7, .int .i64 (i : Int)), (8, .int .u64 ((cN Wn k u j + ((listP (Wn (((j + 1 : Nat) : Int), (k : Int)))).take q).countP (fun a => decide (a = u)) : Nat) : Int)), (9, .int .i64 ((j + 1 : Nat) : Int)), (10, .slice la (listP (Wn (((j + 1 : Nat) : Int), (k : Int)))).length lc), (11, .int .i64 (q : Int))])
      (fun q ds w' => ds = [] ∧ q ≤ (listP (Wn (((j + 1 : Nat) : Int), (k : Int)))).length ∧ Keeps NoB w5 w') (fun q => (listP (Wn (((j + 1 : Nat) : Int), (k : Int)))).length - q) 0
      ⟨rfl, Nat.zero_le _, Keeps.refl _ _⟩ ⟨rfl, rfl, rfl, rfl, rfl, rfl, rfl, rfl, rfl, trivial⟩ ?_
    rintro q ds f0 w6 ⟨rfl, hq, hk56⟩
    have hk36 := hk34.trans (hk45.trans hk56)
    have hcq : ((listP (Wn (((j + 1 : Nat) : Int), (k : Int)))).take q).countP (fun a => decide (a = u)) ≤ 100001 := by
      have h1 := List.countP_le_length (p := fun a => decide (a = u)) (l := (listP (Wn (((j + 1 : Nat) : Int), (k : Int)))).take q)
      rw [List.length_take] at h1
      omega
    by_cases hql : q < (listP (Wn (((j + 1 : Nat) : Int), (k : Int)))).length
    · obtain ⟨yq, hyq⟩ : ∃ u, (listP (Wn (((j + 1 : Nat) : Int), (k : Int))))[q]? = some u := ⟨(listP (Wn (((j + 1 : Nat) : Int), (k : Int))))[q], by simp [hql]⟩
      obtain ⟨bl2, ol2, rfl, curl, el, frl, hbl2, hrl⟩ := hlat (by omega)
      have hbl6 := hk56.heap hbl2 (fun h => h)
      have hbu6 := (hk23.trans hk36).heap hbu (fun h => h)
      have hkz : ∀ {w'}, Keeps NoB w6.drew w' → Keeps NoB w6 w' := fun hk => (Keeps.refl NoB w6).drew.trans hk
      obtain ⟨cc, hcc⟩ : ∃ c, decide (yq = u) = c := ⟨_, rfl⟩
      have hcnt : ((listP (Wn (((j + 1 : Nat) : Int), (k : Int)))).take (q + 1)).countP (fun a => decide (a = u)) = ((listP (Wn (((j + 1 : Nat) : Int), (k : Int)))).take q).countP (fun a => decide (a = u)) + (if cc then 1 else 0) := by
        rw [List.take_add_one, hyq, List.countP_append, ← hcc]
        simp
      (repeat first | (apply wr_move; exact rfl; with_reducible (conv => enter [6, 3]; whnf)) | apply wr_end | apply wc_seq | apply wc_region | apply wc_skip | apply wc_block | (apply wr_len_slice; iterate 2 exact rfl) | (apply wr_cmp; (iterate 3 exact rfl); exact cmpT (by dsimp only [cmpP]; first | done | omega)) | (apply wc_true; exact rfl))
      refine wc_drawP (l := _) 9 _ (by kernel_rfl) (by kernel_rfl) rfl (by kernel_rfl) (by kernel_rfl) (by decide) ?_
      apply chP_pure
      focus
        intro xx w' hk hF
        apply wr_move; exact rfl; with_reducible (conv => enter [6, 3]; whnf)
        apply wr_nil
        exact ⟨rfl, Keeps.refl _ _⟩
      focus (intro xx yy h; rfl)
      focus kernel_rfl
      apply chP_pure
      focus
        intro xx w' hk hF
        apply wr_move; exact rfl; with_reducible (conv => enter [6, 3]; whnf)
        apply wr_nil
        exact ⟨rfl, Keeps.refl _ _⟩
      focus (intro xx yy h; rfl)
      focus kernel_rfl
      apply chP_pure
      focus
        intro xx w' hk hF
        refine wr_indexAddr (i := q) rfl rfl rfl hql ?_
        apply wr_nil
        exact ⟨rfl, Keeps.refl _ _⟩
      focus (intro xx yy h; rfl)
      focus kernel_rfl
      apply chP_pure
      focus
        intro xx w' hk hF
        refine wr_load (v := S (yq)) rfl rfl rfl ((hkz hk).heap hbl6 (fun h => h)) (hrl q yq hyq) ?_
        apply wr_nil
        exact ⟨rfl, Keeps.refl _ _⟩
      focus (intro xx yy h; rfl)
      focus kernel_rfl
      apply chP_pure
      focus
        intro xx w' hk hF
        apply wr_move; exact rfl; with_reducible (conv => enter [6, 3]; whnf)
        apply wr_nil
        exact ⟨rfl, Keeps.refl _ _⟩
      focus (intro xx yy h; rfl)
      focus kernel_rfl
      apply chP_pure
      focus
        intro xx w' hk hF
        apply wr_move; exact rfl; with_reducible (conv => enter [6, 3]; whnf)
        apply wr_nil
        exact ⟨rfl, Keeps.refl _ _⟩
      focus (intro xx yy h; rfl)
      focus kernel_rfl
      apply chP_pure
      focus
        intro xx w' hk hF
        refine wr_indexAddr (i := i) rfl rfl rfl hlt ?_
        apply wr_nil
        exact ⟨rfl, Keeps.refl _ _⟩
      focus (intro xx yy h; rfl)
      focus kernel_rfl
      apply chP_pure
      focus
        intro xx w' hk hF
        refine wr_load (v := S (u)) rfl rfl rfl ((hkz hk).heap hbu6 (fun h => h)) (hui) ?_
        apply wr_nil
        exact ⟨rfl, Keeps.refl _ _⟩
      focus (intro xx yy h; rfl)
      focus kernel_rfl
      apply chP_pure
      focus
        intro xx w' hk hF
        refine wr_streqc (c := cc) rfl rfl rfl hcc ?_
        apply wr_nil
        exact ⟨rfl, Keeps.refl _ _⟩
      focus (intro xx yy h; rfl)
      focus kernel_rfl
      refine chP_nil ?_
      intro xx w7 hk67' hF
      have hk67 := hkz hk67'
      clear hF
      cases cc
      · (repeat first | (apply wr_move; exact rfl; with_reducible (conv => enter [6, 3]; whnf)) | (apply wr_assign; exact rfl; with_reducible (conv => enter [6, 3]; whnf)) | apply wr_end | apply wc_region | apply wc_skip | (apply wr_add; (iterate 3 exact rfl); exact w_fit (by dsimp only [kIn]; first | done | omega)) | (apply wc_false; exact rfl))
        exact ⟨q + 1, by omega, ⟨by trivial, hql, hk56.trans hk67⟩, rfl, rfl, rfl, rfl, rfl, congrArg (Value.int .u64) (by rw [hcnt]; simp), rfl, rfl, rfl, trivial⟩
      · (repeat first | (apply wr_move; exact rfl; with_reducible (conv => enter [6, 3]; whnf)) | (apply wr_assign; exact rfl; with_reducible (conv => enter [6, 3]; whnf)) | apply wr_end | apply wc_region | (apply wr_add; (iterate 3 exact rfl); exact w_fit (by dsimp only [kIn]; first | done | omega)) | (apply wc_true; exact rfl) | (apply wr_nil; try simp only [thenE, inBlockE, bodyQ]))
        exact ⟨q + 1, by omega, ⟨by trivial, hql, hk56.trans hk67⟩, rfl, rfl, rfl, rfl, rfl, congrArg (Value.int .u64) (by rw [hcnt]; simp; omega), rfl, rfl, rfl, trivial⟩
    have hqe : q = (listP (Wn (((j + 1 : Nat) : Int), (k : Int)))).length := by omega
    subst hqe
    have hend : cN Wn k u (j + 1) = cN Wn k u j + ((listP (Wn (((j + 1 : Nat) : Int), (k : Int)))).take (listP (Wn (((j + 1 : Nat) : Int), (k : Int)))).length).countP (fun a => decide (a = u)) := by
      rw [List.take_length, countP_nodup (listP_nodup (hf _)) u, cN_succ]
    (repeat first | (apply wr_move; exact rfl; with_reducible (conv => enter [6, 3]; whnf)) | (apply wr_assign; exact rfl; with_reducible (conv => enter [6, 3]; whnf)) | apply wr_end | apply wc_seq | apply wc_region | (apply wr_len_slice; iterate 2 exact rfl) | (apply wr_cmp; (iterate 3 exact rfl); exact cmpF (by dsimp only [cmpN]; first | done | omega)) | (apply wr_add; (iterate 3 exact rfl); exact w_fit (by dsimp only [kIn]; first | done | omega)) | (apply wc_false; exact rfl) | (apply wc_exit; try simp only [thenE, inBlockE, bodyQ, ↓reduceIte, Nat.reduceEqDiff]))
    exact ⟨j + 1, by omega, ⟨by trivial, hjl, hk36⟩, rfl, rfl, rfl, rfl, rfl, congrArg (fun n : Nat => Value.int .u64 (n : Int)) hend.symm, congrArg (Value.int .i64) (by omega), trivial⟩
  have hje : j = 32 := by omega
  subst hje
  have hbu4 := hk24.heap hbu (fun h => h)
  have hkz : ∀ {w'}, Keeps NoB w4.drew w' → Keeps NoB w4 w' := fun hk => (Keeps.refl NoB w4).drew.trans hk
  have ho4 := own_keep ho3 hk34 (fun _ _ h => h)
  have hkt : keyT Wn k u = u ++ [32] ++ Lib.decDigits (cN Wn k u 32) := by unfold keyT; rw [cN_cnt]
  have hdl := dec_len (show cN Wn k u 32 < 100 by omega)
  (repeat first | (apply wr_move; exact rfl; with_reducible (conv => enter [6, 3]; whnf)) | apply wr_end | apply wc_seq | apply wc_region | (apply wr_cmp; (iterate 3 exact rfl); exact cmpF (by dsimp only [cmpN]; first | done | omega)) | (apply wc_false; exact rfl) | (apply wc_exit; try simp only [thenE, inBlockE, bodyQ, ↓reduceIte, Nat.reduceEqDiff]))
  refine wc_drawP (l := _) 10 _ (by kernel_rfl) (by kernel_rfl) rfl (by kernel_rfl) (by kernel_rfl) (by decide) ?_
  apply chP_pure
  focus
    intro xx w' hk hF
    apply wr_move; exact rfl; with_reducible (conv => enter [6, 3]; whnf)
    apply wr_nil
    exact ⟨rfl, Keeps.refl _ _⟩
  focus (intro xx yy h; rfl)
  focus kernel_rfl
  apply chP_pure
  focus
    intro xx w' hk hF
    apply wr_move; exact rfl; with_reducible (conv => enter [6, 3]; whnf)
    apply wr_nil
    exact ⟨rfl, Keeps.refl _ _⟩
  focus (intro xx yy h; rfl)
  focus kernel_rfl
  apply chP_pure
  focus
    intro xx w' hk hF
    apply wr_move; exact rfl; with_reducible (conv => enter [6, 3]; whnf)
    apply wr_nil
    exact ⟨rfl, Keeps.refl _ _⟩
  focus (intro xx yy h; rfl)
  focus kernel_rfl
  apply chP_pure
  focus
    intro xx w' hk hF
    refine wr_indexAddr (i := i) rfl rfl rfl hlt ?_
    apply wr_nil
    exact ⟨rfl, Keeps.refl _ _⟩
  focus (intro xx yy h; rfl)
  focus kernel_rfl
  apply chP_pure
  focus
    intro xx w' hk hF
    refine wr_load (v := S (u)) rfl rfl rfl ((hkz hk).heap hbu4 (fun h => h)) (hui) ?_
    apply wr_nil
    exact ⟨rfl, Keeps.refl _ _⟩
  focus (intro xx yy h; rfl)
  focus kernel_rfl
  apply chP_pure
  focus
    intro xx w' hk hF
    refine wr_cat (a := u) (b := [32]) rfl rfl rfl (by simp only [List.length_cons, List.length_nil]; omega) ?_
    apply wr_nil
    exact ⟨rfl, Keeps.refl _ _⟩
  focus (intro xx yy h; rfl)
  focus kernel_rfl
  apply chP_pure
  focus
    intro xx w' hk hF
    apply wr_move; exact rfl; with_reducible (conv => enter [6, 3]; whnf)
    apply wr_nil
    exact ⟨rfl, Keeps.refl _ _⟩
  focus (intro xx yy h; rfl)
  focus kernel_rfl
  apply chP_pure
  focus
    intro xx w' hk hF
    refine wr_call (vs := [.int .u64 ((cN Wn k u 32 : Nat) : Int)]) rfl (digits_ca (cN Wn k u 32) (by omega) w') rfl ?_
    rintro v w'' ⟨rfl, hkc⟩
    apply wr_nil
    exact ⟨rfl, hkc⟩
  focus (intro xx yy h; rfl)
  focus kernel_rfl
  apply chP_pure
  focus
    intro xx w' hk hF
    refine wr_cat (a := u ++ [32]) (b := Lib.decDigits (cN Wn k u 32)) rfl rfl rfl (by simp only [List.length_append, List.length_cons, List.length_nil]; omega) ?_
    apply wr_nil
    exact ⟨rfl, Keeps.refl _ _⟩
  focus (intro xx yy h; rfl)
  focus kernel_rfl
  refine chP_fact (fun yq => .slice (some ⟨blkOf yq, 0, none⟩) 1 1) (fun yq w' => w'.heap[blkOf yq]? = some (.cells #[S (u ++ [32] ++ Lib.decDigits (cN Wn k u 32))] 9 (0, 0))) (fun yq w' w'' h k => k.heap h (fun h => h)) ?_ ?_
  focus
    intro xx w' hk hF
    refine wr_buildSlice (vs := [S (u ++ [32] ++ Lib.decDigits (cN Wn k u 32))]) rfl rfl (by intro v hv; simp at hv; subst hv; rfl) rfl (by decide) (by decide) (by decide) ?_
    apply wr_nil
    exact ⟨.pointer (some ⟨w'.heap.size, 0, none⟩), rfl, heap_alloc_same _ _, (Keeps.refl _ _).alloc _⟩
  refine chP_nil ?_
  intro xx w5 hk5' hF
  have hk5 := hkz hk5'
  have hB : w5.heap[blkOf (xx 9)]? = some (.cells ([S (u ++ [32] ++ Lib.decDigits (cN Wn k u 32))] : List Value).toArray 9 (0, 0)) := hF 9 (by decide)
  clear hF
  have ho5 := own_keep ho4 hk5 (fun _ _ h => h)
  have hk25 := hk24.trans hk5
  refine wr_append (base := w2.heap.size) (v := ov) (n := i) (m := 1) (news := [S (u ++ [32] ++ Lib.decDigits (cN Wn k u 32))]) rfl rfl ho5 rfl hB rfl (by intro u hu; simp at hu; subst hu; rfl) rfl (by decide) (by omega) (by omega) hk25.size ?_
  intro v6 w6 ho6 hk6 _
  have hk26 : Keeps NoB w2 w6 := hk25.trans' hk6 (fun q hq e => by have := V.F.own_geF ho5 e; omega)
  (repeat first | (apply wr_move; exact rfl; with_reducible (conv => enter [6, 3]; whnf)) | (apply wr_assign; exact rfl; with_reducible (conv => enter [6, 3]; whnf)) | apply wr_end | apply wc_region | (apply wr_add; (iterate 3 exact rfl); exact w_fit (by dsimp only [kIn]; first | done | omega)) | (apply wr_nil; try simp only [thenE, inBlockE, bodyQ]))
  refine ⟨(i + 1, v6), by dsimp only; omega, ⟨by trivial, hlt, ?_, hk26⟩, rfl, rfl, rfl, rfl, rfl, trivial⟩
  dsimp only
  rw [List.take_add_one, hux]
  simp only [Option.toList_some, List.map_append, List.map_cons, List.map_nil, SL]
  rw [hkt]
  exact ho6
end Go.Proofs.YtajajahofkialaaGreatDoor
