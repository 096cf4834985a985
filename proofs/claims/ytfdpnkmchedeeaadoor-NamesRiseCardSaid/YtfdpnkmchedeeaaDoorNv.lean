/- NamesRise: the walk. -/
import Derived.Test.YtfdpnkmchedeeaaDoorNr
namespace Go.Proofs.YtfdpnkmchedeeaaDoor
open Go Go.V Go.RowKit
set_option linter.unusedVariables false
set_option linter.unusedSimpArgs false

set_option maxRecDepth 100000 in
set_option maxHeartbeats 8000000 in
theorem rise_law (l : TX) (m : List Nat) (lv mv : Value) (w : World) (hl : SlR w 1 lv l.length (SL l)) (hm : SlR w 1 mv m.length (IB m)) (hln : l.length ≤ 8796093021952) (hok : ∀ x ∈ l, x.length ≤ 9223372036854775807) (hm8 : ∀ x ∈ m, x < 256) :
    Ca Tryd.prog 5 #[lv, mv] w fun v w' => v = .bool true ∧ Keeps NoB w w' := by
  refine ca_of_body (args := [lv, mv]) Tryd.func5 rfl (by kernel_rfl) ?_
  (repeat first | (apply wr_assign; exact rfl; with_reducible (conv => enter [6, 3]; whnf)) | apply wr_end | apply wc_seq | apply wc_region)
  refine wr_call (vs := []) rfl (examples_ca w) rfl ?_
  rintro v w0 ⟨rfl, hk0w⟩
  (repeat first | (apply wr_move; exact rfl; with_reducible (conv => enter [6, 3]; whnf)) | (apply wr_assign; exact rfl; with_reducible (conv => enter [6, 3]; whnf)) | apply wr_end | apply wc_seq | apply wc_region | apply wc_skip | (apply wr_not; iterate 2 exact rfl) | (apply wc_false; exact rfl))
  have hl0 := hl.keep hk0w (fun _ _ h => h)
  refine wr_appendR (v := .slice none 0 0) (base := w0.heap.size) (n := 0) (m := l.length) (xs := []) (news := SL l) rfl rfl (own_nil _ _ _ _) rfl hl0 (by intro u hu; simp [SL] at hu; obtain ⟨x, _, rfl⟩ := hu; rfl) rfl (by decide) (by omega) (by omega) (by omega) ?_
  intro v1 w1 ho1 hk1 _
  rw [Nat.zero_add, List.nil_append] at ho1
  replace hk1 : Keeps NoB w0 w1 := hk1.mono (fun b _ e => by cases e)
  (repeat first | (apply wr_move; exact rfl; with_reducible (conv => enter [6, 3]; whnf)))
  refine wr_call (vs := [mv]) rfl (few_ca m mv w1 (hm.keep (hk0w.trans hk1) (fun _ _ h => h)) hm8) rfl ?_
  rintro v2 w2 ⟨ho2, hk2⟩
  have hfl := fewF_le m
  have hs1 := hk1.size
  have hs2 := hk2.size
  refine wr_appendR (v := v1) (base := w0.heap.size) (n := l.length) (m := (fewF m).length) (xs := SL l) (news := SL (fewF m)) rfl rfl (own_keep ho1 hk2 (fun _ _ h => h)) rfl (SlR.of_own ho2) (by intro u hu; simp [SL] at hu; obtain ⟨x, _, rfl⟩ := hu; rfl) rfl (by decide) (by omega) (by omega) (by omega) ?_
  intro v3 w3 ho3 hk3 _
  rw [SL_append, ← List.length_append] at ho3
  have hk03 : Keeps NoB w0 w3 := Keeps.trans' (hk1.trans hk2) hk3 (fun i hi e => by have := own_ge ho1 e; omega)
  obtain ⟨L, hL⟩ : ∃ L, L = l ++ fewF m := ⟨_, rfl⟩
  have hLn : L.length ≤ 8796093021972 := by rw [hL, List.length_append]; omega
  have hLok : ∀ x ∈ L, x.length ≤ 9223372036854775807 := by
    intro x hx
    rw [hL, List.mem_append] at hx
    exact hx.elim (hok x) (fewF_ok m x)
  rw [← hL] at ho3
  refine wr_call (vs := [v3]) rfl (of_ca L v3 w3 (SlR.of_own ho3) (by omega) hLok) rfl ?_
  rintro v wq ⟨hR, hkq⟩
  have hfs := ofP_fine L
  have hls := ofP_le L
  obtain ⟨sQ, hse⟩ : ∃ s, s = ofP L := ⟨_, rfl⟩
  rw [← hse] at hR
  obtain ⟨sA, sl⟩ := sQ
  obtain ⟨sv, rfl, hsr⟩ := hR
  dsimp only at hsr
  obtain ⟨sn, sc, rfl, _, _⟩ := slr_strs hsr
  (repeat first | (apply wr_alloc; exact rfl))
  refine wr_storeAll (cs := [.bool sA, .slice sn sl.length sc]) rfl rfl rfl (by intro u hu; simp at hu; rcases hu with rfl | rfl <;> rfl) (heap_alloc_same _ _) rfl rfl ?_
  refine wr_name ?_
  intro ws hws
  obtain ⟨bs, hbs⟩ : ∃ bs, bs = wq.heap.size := ⟨_, rfl⟩
  have hks : Keeps NoB wq ws := by rw [hws]; exact ((Keeps.refl NoB wq).alloc _).put _ (fun h => by omega)
  have hcs : ws.heap[bs]? = some (.cells #[.bool sA, .slice sn sl.length sc] 27 (0, 0)) := by rw [hws, hbs]; exact World.putObj_heap_same (by simp)
  rw [← hbs]
  clear hws
  replace hsr := hsr.keep hks (fun _ _ h => h)
  have hkws : Keeps NoB w ws := ((hk0w.trans hk03).trans hkq).trans hks
  rw [← hse] at hfs hls
  dsimp only at hls
  obtain ⟨sn', sc', e', _, hats⟩ := slr_strs hsr
  cases e'
  (repeat first | (apply wr_assign; exact rfl; with_reducible (conv => enter [6, 3]; whnf)) | apply wr_end | apply wc_seq | apply wc_region | apply wc_block)
  refine wc_loopL (α := Nat) (fun i => [(5, .bool true), (6, .pointer (some ⟨bs, 0, none⟩)), (7, .int .i64 (i : Int))])
    (fun i ds w' => ds = [] ∧ i ≤ sl.length ∧ Keeps NoB ws w') (fun i => sl.length - i) 0 ⟨rfl, Nat.zero_le _, Keeps.refl _ _⟩ ⟨rfl, rfl, rfl, trivial⟩ ?_
  rintro i ds f0 w4 ⟨rfl, hi, hk4⟩
  have hcs4 := hk4.heap hcs (fun h => h)
  have hsr4 := hsr.keep hk4 (fun _ _ h => h)
  by_cases hlt : i < sl.length
  rotate_left
  · skip
    cases sA with
    | true =>
      (repeat first | (apply wr_move; exact rfl; with_reducible (conv => enter [6, 3]; whnf)) | (apply wr_assign; exact rfl; with_reducible (conv => enter [6, 3]; whnf)) | apply wr_end | apply wc_seq | apply wc_region | (apply wr_fieldAddr; iterate 2 exact rfl) | (apply wr_len_slice; iterate 2 exact rfl) | (apply wr_load; (iterate 3 exact rfl); (focus repeat first | with_reducible assumption | exact heap_alloc_same _ _ | exact World.putObj_heap_same (by first | omega | (simp only [World.size_alloc, World.putObj_size, ne_eq]; omega)) | ((first | refine hAl ?_ ?_ | refine hPu ?_ ?_); focus first | omega | (simp only [World.size_alloc, World.putObj_size, ne_eq]; omega))); exact rfl; conv => enter [6, 3]; whnf) | (apply wr_cmp; (iterate 3 exact rfl); exact cmpF (by dsimp only [cmpN]; first | done | omega)) | (apply wr_add; (iterate 3 exact rfl); exact w_fit (by dsimp only [kIn]; first | done | omega)) | (apply wc_true; exact rfl) | (apply wc_false; exact rfl) | (apply wc_exit; try simp only [thenE, inBlockE, bodyQ, ↓reduceIte, Nat.reduceEqDiff]))
      refine wr_loadAll (cs := [.bool true, .slice sn sl.length sc]) rfl rfl rfl hcs4 rfl ?_
      refine wr_call (vs := [SetV true (.slice sn sl.length sc)]) rfl (list_ca (true, sl) _ w4 ⟨_, rfl, hsr4⟩ (by dsimp only; omega)) rfl ?_
      rintro v w5 ⟨hls, hk5⟩
      obtain ⟨a5, c5, rfl, _⟩ := hls.shape
      rw [show (listP (true, sl)).length = sl.length + 1 by simp [listP]]
      have hcs5 := hk5.heap hcs4 (fun h => h)
      (repeat first | (apply wr_move; exact rfl; with_reducible (conv => enter [6, 3]; whnf)) | (apply wr_len_slice; iterate 2 exact rfl) | (apply wr_cmp; (iterate 3 exact rfl); exact cmpT (by dsimp only [cmpP]; first | done | omega)) | (apply wr_pick (t := true); (iterate 2 exact rfl); with_reducible (conv => enter [6, 3]; whnf)))
      refine wr_loadAll (cs := [.bool true, .slice sn sl.length sc]) rfl rfl rfl hcs5 rfl ?_
      refine wr_call (vs := [SetV true (.slice sn sl.length sc)]) rfl (empty_cb (s := (true, sl)) (false) rfl ⟨_, rfl, hsr4.keep hk5 (fun _ _ h => h)⟩) rfl ?_
      rintro v w6 ⟨rfl, hk6⟩
      (repeat first | (apply wr_move; exact rfl; with_reducible (conv => enter [6, 3]; whnf)) | (apply wr_cmp; (iterate 3 exact rfl); exact cmpF (by dsimp only [cmpN]; first | done | omega)))
      refine wr_boolEq (c := true) rfl rfl rfl (by simp) ?_
      (repeat first | (apply wr_assign; exact rfl; with_reducible (conv => enter [6, 3]; whnf)) | apply wr_end | (apply wr_pick (t := true); (iterate 2 exact rfl); with_reducible (conv => enter [6, 3]; whnf)) | (apply wc_ret; try simp only [thenE, inBlockE, bodyQ]))
      exact leave1 (v := .bool true) rfl rfl ⟨rfl, hkws.trans (hk4.trans (hk5.trans hk6))⟩
    | false =>
      by_cases hz : sl.length = 0
      · skip
        (repeat first | (apply wr_move; exact rfl; with_reducible (conv => enter [6, 3]; whnf)) | (apply wr_assign; exact rfl; with_reducible (conv => enter [6, 3]; whnf)) | apply wr_end | apply wc_seq | apply wc_region | apply wc_skip | (apply wr_fieldAddr; iterate 2 exact rfl) | (apply wr_len_slice; iterate 2 exact rfl) | (apply wr_load; (iterate 3 exact rfl); (focus repeat first | with_reducible assumption | exact heap_alloc_same _ _ | exact World.putObj_heap_same (by first | omega | (simp only [World.size_alloc, World.putObj_size, ne_eq]; omega)) | ((first | refine hAl ?_ ?_ | refine hPu ?_ ?_); focus first | omega | (simp only [World.size_alloc, World.putObj_size, ne_eq]; omega))); exact rfl; conv => enter [6, 3]; whnf) | (apply wr_cmp; (iterate 3 exact rfl); exact cmpF (by dsimp only [cmpN]; first | done | omega)) | (apply wc_false; exact rfl) | (apply wc_exit; try simp only [thenE, inBlockE, bodyQ, ↓reduceIte, Nat.reduceEqDiff]))
        refine wr_loadAll (cs := [.bool false, .slice sn sl.length sc]) rfl rfl rfl hcs4 rfl ?_
        refine wr_call (vs := [SetV false (.slice sn sl.length sc)]) rfl (list_ca (false, sl) _ w4 ⟨_, rfl, hsr4⟩ (by dsimp only; omega)) rfl ?_
        rintro v w5 ⟨hls, hk5⟩
        obtain ⟨a5, c5, rfl, _⟩ := hls.shape
        rw [show (listP (false, sl)).length = sl.length by simp [listP]]
        have hcs5 := hk5.heap hcs4 (fun h => h)
        (repeat first | (apply wr_move; exact rfl; with_reducible (conv => enter [6, 3]; whnf)) | (apply wr_len_slice; iterate 2 exact rfl) | (apply wr_cmp; (iterate 3 exact rfl); exact cmpT (by dsimp only [cmpP]; first | done | omega)) | (apply wr_pick (t := true); (iterate 2 exact rfl); with_reducible (conv => enter [6, 3]; whnf)))
        refine wr_loadAll (cs := [.bool false, .slice sn sl.length sc]) rfl rfl rfl hcs5 rfl ?_
        refine wr_call (vs := [SetV false (.slice sn sl.length sc)]) rfl (empty_cb (s := (false, sl)) (true) (by simp [hz]) ⟨_, rfl, hsr4.keep hk5 (fun _ _ h => h)⟩) rfl ?_
        rintro v w6 ⟨rfl, hk6⟩
        (repeat first | (apply wr_move; exact rfl; with_reducible (conv => enter [6, 3]; whnf)) | (apply wr_cmp; (iterate 3 exact rfl); exact cmpT (by dsimp only [cmpP]; first | done | omega)))
        refine wr_boolEq (c := true) rfl rfl rfl (by simp) ?_
        (repeat first | (apply wr_assign; exact rfl; with_reducible (conv => enter [6, 3]; whnf)) | apply wr_end | (apply wr_pick (t := true); (iterate 2 exact rfl); with_reducible (conv => enter [6, 3]; whnf)) | (apply wc_ret; try simp only [thenE, inBlockE, bodyQ]))
        exact leave1 (v := .bool true) rfl rfl ⟨rfl, hkws.trans (hk4.trans (hk5.trans hk6))⟩
      · skip
        (repeat first | (apply wr_move; exact rfl; with_reducible (conv => enter [6, 3]; whnf)) | (apply wr_assign; exact rfl; with_reducible (conv => enter [6, 3]; whnf)) | apply wr_end | apply wc_seq | apply wc_region | apply wc_skip | (apply wr_fieldAddr; iterate 2 exact rfl) | (apply wr_len_slice; iterate 2 exact rfl) | (apply wr_load; (iterate 3 exact rfl); (focus repeat first | with_reducible assumption | exact heap_alloc_same _ _ | exact World.putObj_heap_same (by first | omega | (simp only [World.size_alloc, World.putObj_size, ne_eq]; omega)) | ((first | refine hAl ?_ ?_ | refine hPu ?_ ?_); focus first | omega | (simp only [World.size_alloc, World.putObj_size, ne_eq]; omega))); exact rfl; conv => enter [6, 3]; whnf) | (apply wr_cmp; (iterate 3 exact rfl); exact cmpF (by dsimp only [cmpN]; first | done | omega)) | (apply wc_false; exact rfl) | (apply wc_exit; try simp only [thenE, inBlockE, bodyQ, ↓reduceIte, Nat.reduceEqDiff]))
        refine wr_loadAll (cs := [.bool false, .slice sn sl.length sc]) rfl rfl rfl hcs4 rfl ?_
        refine wr_call (vs := [SetV false (.slice sn sl.length sc)]) rfl (list_ca (false, sl) _ w4 ⟨_, rfl, hsr4⟩ (by dsimp only; omega)) rfl ?_
        rintro v w5 ⟨hls, hk5⟩
        obtain ⟨a5, c5, rfl, _⟩ := hls.shape
        rw [show (listP (false, sl)).length = sl.length by simp [listP]]
        have hcs5 := hk5.heap hcs4 (fun h => h)
        (repeat first | (apply wr_move; exact rfl; with_reducible (conv => enter [6, 3]; whnf)) | (apply wr_len_slice; iterate 2 exact rfl) | (apply wr_cmp; (iterate 3 exact rfl); exact cmpT (by dsimp only [cmpP]; first | done | omega)) | (apply wr_pick (t := true); (iterate 2 exact rfl); with_reducible (conv => enter [6, 3]; whnf)))
        refine wr_loadAll (cs := [.bool false, .slice sn sl.length sc]) rfl rfl rfl hcs5 rfl ?_
        refine wr_call (vs := [SetV false (.slice sn sl.length sc)]) rfl (empty_cb (s := (false, sl)) (false) (by simp [hz]) ⟨_, rfl, hsr4.keep hk5 (fun _ _ h => h)⟩) rfl ?_
        rintro v w6 ⟨rfl, hk6⟩
        (repeat first | (apply wr_move; exact rfl; with_reducible (conv => enter [6, 3]; whnf)) | (apply wr_cmp; (iterate 3 exact rfl); exact cmpF (by dsimp only [cmpN]; first | done | omega)))
        refine wr_boolEq (c := true) rfl rfl rfl (by simp) ?_
        (repeat first | (apply wr_assign; exact rfl; with_reducible (conv => enter [6, 3]; whnf)) | apply wr_end | (apply wr_pick (t := true); (iterate 2 exact rfl); with_reducible (conv => enter [6, 3]; whnf)) | (apply wc_ret; try simp only [thenE, inBlockE, bodyQ]))
        exact leave1 (v := .bool true) rfl rfl ⟨rfl, hkws.trans (hk4.trans (hk5.trans hk6))⟩
  obtain ⟨b, o, rfl, cur, e, fr, hb, hr⟩ := hats (by omega)
  have hb4 := hk4.heap hb (fun h => h)
  obtain ⟨x, hx⟩ : ∃ x, sl[i]? = some x := ⟨sl[i], by simp [hlt]⟩
  have hcx := hr i x hx
  have hxm := List.mem_of_getElem? hx
  have hxn := hfs.2 x hxm
  have hxl : x.length ≤ 9223372036854775807 := by have := nameOk_le hxn; omega
  have hxh : hasP (sA, sl) x = true := by rw [hasP_def, decide_eq_true hxn, decide_eq_true hxm]; simp
  have hk0 : ∀ {w'}, Keeps NoB w4.drew w' → Keeps NoB w4 w' := fun hk => (Keeps.refl NoB w4).drew.trans hk
  (repeat first | (apply wr_move; exact rfl; with_reducible (conv => enter [6, 3]; whnf)) | apply wr_end | apply wc_seq | apply wc_region | apply wc_skip | apply wc_block | (apply wr_fieldAddr; iterate 2 exact rfl) | (apply wr_len_slice; iterate 2 exact rfl) | (apply wr_load; (iterate 3 exact rfl); (focus repeat first | with_reducible assumption | exact heap_alloc_same _ _ | exact World.putObj_heap_same (by first | omega | (simp only [World.size_alloc, World.putObj_size, ne_eq]; omega)) | ((first | refine hAl ?_ ?_ | refine hPu ?_ ?_); focus first | omega | (simp only [World.size_alloc, World.putObj_size, ne_eq]; omega))); exact rfl; conv => enter [6, 3]; whnf) | (apply wr_cmp; (iterate 3 exact rfl); exact cmpT (by dsimp only [cmpP]; first | done | omega)) | (apply wc_true; exact rfl))
  cases i with
  | zero =>
    refine wc_drawP (l := _) 26 _ (by kernel_rfl) (by kernel_rfl) rfl (by kernel_rfl) (by kernel_rfl) (by decide) ?_
    apply chP_pure
    focus
      intro xx w' hk hF
      apply wr_move; exact rfl; with_reducible (conv => enter [6, 3]; whnf)
      apply wr_nil
      exact ⟨rfl, Keeps.refl _ _⟩
    focus (intro xx yy h; rfl)
    focus kernel_rfl
    apply chP_pure
    focus
      intro xx w' hk hF
      refine wr_cmp rfl rfl rfl (cmpF (by dsimp only [cmpN]; omega)) ?_
      apply wr_nil
      exact ⟨rfl, Keeps.refl _ _⟩
    focus (intro xx yy h; rfl)
    focus kernel_rfl
    apply chP_pure
    focus
      intro xx w' hk hF
      apply wr_move; exact rfl; with_reducible (conv => enter [6, 3]; whnf)
      apply wr_nil
      exact ⟨rfl, Keeps.refl _ _⟩
    focus (intro xx yy h; rfl)
    focus kernel_rfl
    apply chP_pure
    focus
      intro xx w' hk hF
      refine wr_skip rfl ?_
      apply wr_nil
      exact ⟨rfl, Keeps.refl _ _⟩
    focus (intro xx yy h; rfl)
    focus kernel_rfl
    apply chP_pure
    focus
      intro xx w' hk hF
      refine wr_skip rfl ?_
      apply wr_nil
      exact ⟨rfl, Keeps.refl _ _⟩
    focus (intro xx yy h; rfl)
    focus kernel_rfl
    apply chP_pure
    focus
      intro xx w' hk hF
      refine wr_skip rfl ?_
      apply wr_nil
      exact ⟨rfl, Keeps.refl _ _⟩
    focus (intro xx yy h; rfl)
    focus kernel_rfl
    apply chP_pure
    focus
      intro xx w' hk hF
      refine wr_skip rfl ?_
      apply wr_nil
      exact ⟨rfl, Keeps.refl _ _⟩
    focus (intro xx yy h; rfl)
    focus kernel_rfl
    apply chP_pure
    focus
      intro xx w' hk hF
      refine wr_skip rfl ?_
      apply wr_nil
      exact ⟨rfl, Keeps.refl _ _⟩
    focus (intro xx yy h; rfl)
    focus kernel_rfl
    apply chP_pure
    focus
      intro xx w' hk hF
      refine wr_skip rfl ?_
      apply wr_nil
      exact ⟨rfl, Keeps.refl _ _⟩
    focus (intro xx yy h; rfl)
    focus kernel_rfl
    apply chP_pure
    focus
      intro xx w' hk hF
      refine wr_skip rfl ?_
      apply wr_nil
      exact ⟨rfl, Keeps.refl _ _⟩
    focus (intro xx yy h; rfl)
    focus kernel_rfl
    apply chP_pure
    focus
      intro xx w' hk hF
      refine wr_skip rfl ?_
      apply wr_nil
      exact ⟨rfl, Keeps.refl _ _⟩
    focus (intro xx yy h; rfl)
    focus kernel_rfl
    apply chP_pure
    focus
      intro xx w' hk hF
      refine wr_skip rfl ?_
      apply wr_nil
      exact ⟨rfl, Keeps.refl _ _⟩
    focus (intro xx yy h; rfl)
    focus kernel_rfl
    apply chP_pure
    focus
      intro xx w' hk hF
      refine wr_skip rfl ?_
      apply wr_nil
      exact ⟨rfl, Keeps.refl _ _⟩
    focus (intro xx yy h; rfl)
    focus kernel_rfl
    apply chP_pure
    focus
      intro xx w' hk hF
      refine wr_skip rfl ?_
      apply wr_nil
      exact ⟨rfl, Keeps.refl _ _⟩
    focus (intro xx yy h; rfl)
    focus kernel_rfl
    apply chP_pure
    focus
      intro xx w' hk hF
      refine wr_skip rfl ?_
      apply wr_nil
      exact ⟨rfl, Keeps.refl _ _⟩
    focus (intro xx yy h; rfl)
    focus kernel_rfl
    apply chP_pure
    focus
      intro xx w' hk hF
      first
      | (apply wr_pick (t := true); (iterate 2 exact rfl); with_reducible (conv => enter [6, 3]; whnf); apply wr_nil; exact ⟨rfl, Keeps.refl _ _⟩)
      | (apply wr_pick (t := false); (iterate 2 exact rfl); with_reducible (conv => enter [6, 3]; whnf); apply wr_nil; exact ⟨rfl, Keeps.refl _ _⟩)
    focus (intro xx yy h; rfl)
    focus kernel_rfl
    apply chP_pure
    focus
      intro xx w' hk hF
      apply wr_move; exact rfl; with_reducible (conv => enter [6, 3]; whnf)
      apply wr_nil
      exact ⟨rfl, Keeps.refl _ _⟩
    focus (intro xx yy h; rfl)
    focus kernel_rfl
    apply chP_pure
    focus
      intro xx w' hk hF
      refine wr_loadAll (cs := [.bool sA, .slice (some ⟨b, o, none⟩) sl.length sc]) rfl rfl rfl ((hk0 hk).heap hcs4 (fun h => h)) rfl ?_
      apply wr_nil
      exact ⟨rfl, Keeps.refl _ _⟩
    focus (intro xx yy h; rfl)
    focus kernel_rfl
    apply chP_pure
    focus
      intro xx w' hk hF
      refine wr_fieldAddr rfl rfl ?_
      apply wr_nil
      exact ⟨rfl, Keeps.refl _ _⟩
    focus (intro xx yy h; rfl)
    focus kernel_rfl
    apply chP_pure
    focus
      intro xx w' hk hF
      refine wr_load (v := .slice (some ⟨b, o, none⟩) sl.length sc) rfl rfl rfl ((hk0 hk).heap hcs4 (fun h => h)) rfl ?_
      apply wr_nil
      exact ⟨rfl, Keeps.refl _ _⟩
    focus (intro xx yy h; rfl)
    focus kernel_rfl
    apply chP_pure
    focus
      intro xx w' hk hF
      apply wr_move; exact rfl; with_reducible (conv => enter [6, 3]; whnf)
      apply wr_nil
      exact ⟨rfl, Keeps.refl _ _⟩
    focus (intro xx yy h; rfl)
    focus kernel_rfl
    apply chP_pure
    focus
      intro xx w' hk hF
      refine wr_indexAddr (i := 0) rfl rfl rfl hlt ?_
      apply wr_nil
      exact ⟨rfl, Keeps.refl _ _⟩
    focus (intro xx yy h; rfl)
    focus kernel_rfl
    apply chP_pure
    focus
      intro xx w' hk hF
      refine wr_load (v := S x) rfl rfl rfl ((hk0 hk).heap hb4 (fun h => h)) hcx ?_
      apply wr_nil
      exact ⟨rfl, Keeps.refl _ _⟩
    focus (intro xx yy h; rfl)
    focus kernel_rfl
    apply chP_pure
    focus
      intro xx w' hk hF
      refine wr_call (vs := [SetV sA (.slice (some ⟨b, o, none⟩) sl.length sc), S x]) rfl (has_cb true hxh hxl ⟨_, rfl, hsr4.keep (hk0 hk) (fun _ _ h => h)⟩ (by dsimp only; omega)) rfl ?_
      rintro v w'' ⟨rfl, hkc⟩
      apply wr_nil
      exact ⟨rfl, hkc⟩
    focus (intro xx yy h; rfl)
    focus kernel_rfl
    apply chP_pure
    focus
      intro xx w' hk hF
      apply wr_not; iterate 2 exact rfl
      apply wr_nil
      exact ⟨rfl, Keeps.refl _ _⟩
    focus (intro xx yy h; rfl)
    focus kernel_rfl
    apply chP_pure
    focus
      intro xx w' hk hF
      first
      | (apply wr_pick (t := true); (iterate 2 exact rfl); with_reducible (conv => enter [6, 3]; whnf); apply wr_nil; exact ⟨rfl, Keeps.refl _ _⟩)
      | (apply wr_pick (t := false); (iterate 2 exact rfl); with_reducible (conv => enter [6, 3]; whnf); apply wr_nil; exact ⟨rfl, Keeps.refl _ _⟩)
    focus (intro xx yy h; rfl)
    focus kernel_rfl
    refine chP_nil ?_
    intro xx w5 hk5 hF
    (repeat first | (apply wr_move; exact rfl; with_reducible (conv => enter [6, 3]; whnf)) | (apply wr_assign; exact rfl; with_reducible (conv => enter [6, 3]; whnf)) | apply wr_end | apply wc_region | apply wc_skip | (apply wr_add; (iterate 3 exact rfl); exact w_fit (by dsimp only [kIn]; first | done | omega)) | (apply wc_false; exact rfl))
    exact ⟨0 + 1, by omega, ⟨by trivial, hlt, hk4.trans (hk0 hk5)⟩, rfl, rfl, by simp, trivial⟩
  | succ k =>
    obtain ⟨y, hy⟩ : ∃ y, sl[k]? = some y := ⟨sl[k]'(by omega), by simp [show k < sl.length by omega]⟩
    have hcy := hr k y hy
    have hlt2 : y < x := by
      obtain ⟨h1, rfl⟩ := List.getElem?_eq_some_iff.1 hx
      obtain ⟨h2, rfl⟩ := List.getElem?_eq_some_iff.1 hy
      exact List.pairwise_iff_getElem.1 hfs.1 k (k + 1) h2 h1 (by omega)
    have hw1 : IntKind.i64.wrap (((k + 1 : Nat) : Int) - 1) = (k : Int) := by rw [w_i64 (by omega)]; omega
    refine wc_drawP (l := _) 26 _ (by kernel_rfl) (by kernel_rfl) rfl (by kernel_rfl) (by kernel_rfl) (by decide) ?_
    apply chP_pure
    focus
      intro xx w' hk hF
      apply wr_move; exact rfl; with_reducible (conv => enter [6, 3]; whnf)
      apply wr_nil
      exact ⟨rfl, Keeps.refl _ _⟩
    focus (intro xx yy h; rfl)
    focus kernel_rfl
    apply chP_pure
    focus
      intro xx w' hk hF
      refine wr_cmp rfl rfl rfl (cmpT (by dsimp only [cmpP]; omega)) ?_
      apply wr_nil
      exact ⟨rfl, Keeps.refl _ _⟩
    focus (intro xx yy h; rfl)
    focus kernel_rfl
    apply chP_pure
    focus
      intro xx w' hk hF
      apply wr_move; exact rfl; with_reducible (conv => enter [6, 3]; whnf)
      apply wr_nil
      exact ⟨rfl, Keeps.refl _ _⟩
    focus (intro xx yy h; rfl)
    focus kernel_rfl
    apply chP_pure
    focus
      intro xx w' hk hF
      refine wr_fieldAddr rfl rfl ?_
      apply wr_nil
      exact ⟨rfl, Keeps.refl _ _⟩
    focus (intro xx yy h; rfl)
    focus kernel_rfl
    apply chP_pure
    focus
      intro xx w' hk hF
      refine wr_load (v := .slice (some ⟨b, o, none⟩) sl.length sc) rfl rfl rfl ((hk0 hk).heap hcs4 (fun h => h)) rfl ?_
      apply wr_nil
      exact ⟨rfl, Keeps.refl _ _⟩
    focus (intro xx yy h; rfl)
    focus kernel_rfl
    apply chP_pure
    focus
      intro xx w' hk hF
      apply wr_move; exact rfl; with_reducible (conv => enter [6, 3]; whnf)
      apply wr_nil
      exact ⟨rfl, Keeps.refl _ _⟩
    focus (intro xx yy h; rfl)
    focus kernel_rfl
    apply chP_pure
    focus
      intro xx w' hk hF
      refine wr_sub rfl rfl rfl hw1 ?_
      apply wr_nil
      exact ⟨rfl, Keeps.refl _ _⟩
    focus (intro xx yy h; rfl)
    focus kernel_rfl
    apply chP_pure
    focus
      intro xx w' hk hF
      refine wr_indexAddr (i := k) rfl rfl rfl (by omega) ?_
      apply wr_nil
      exact ⟨rfl, Keeps.refl _ _⟩
    focus (intro xx yy h; rfl)
    focus kernel_rfl
    apply chP_pure
    focus
      intro xx w' hk hF
      refine wr_load (v := S y) rfl rfl rfl ((hk0 hk).heap hb4 (fun h => h)) hcy ?_
      apply wr_nil
      exact ⟨rfl, Keeps.refl _ _⟩
    focus (intro xx yy h; rfl)
    focus kernel_rfl
    apply chP_pure
    focus
      intro xx w' hk hF
      refine wr_fieldAddr rfl rfl ?_
      apply wr_nil
      exact ⟨rfl, Keeps.refl _ _⟩
    focus (intro xx yy h; rfl)
    focus kernel_rfl
    apply chP_pure
    focus
      intro xx w' hk hF
      refine wr_load (v := .slice (some ⟨b, o, none⟩) sl.length sc) rfl rfl rfl ((hk0 hk).heap hcs4 (fun h => h)) rfl ?_
      apply wr_nil
      exact ⟨rfl, Keeps.refl _ _⟩
    focus (intro xx yy h; rfl)
    focus kernel_rfl
    apply chP_pure
    focus
      intro xx w' hk hF
      apply wr_move; exact rfl; with_reducible (conv => enter [6, 3]; whnf)
      apply wr_nil
      exact ⟨rfl, Keeps.refl _ _⟩
    focus (intro xx yy h; rfl)
    focus kernel_rfl
    apply chP_pure
    focus
      intro xx w' hk hF
      refine wr_indexAddr (i := k + 1) rfl rfl rfl hlt ?_
      apply wr_nil
      exact ⟨rfl, Keeps.refl _ _⟩
    focus (intro xx yy h; rfl)
    focus kernel_rfl
    apply chP_pure
    focus
      intro xx w' hk hF
      refine wr_load (v := S x) rfl rfl rfl ((hk0 hk).heap hb4 (fun h => h)) hcx ?_
      apply wr_nil
      exact ⟨rfl, Keeps.refl _ _⟩
    focus (intro xx yy h; rfl)
    focus kernel_rfl
    apply chP_pure
    focus
      intro xx w' hk hF
      refine wr_strcmp (a := y) (b := x) (c := false) rfl rfl rfl (.inr (.inr (.inr ⟨rfl, by rw [Go.Proofs.bytesLess_eq, decide_eq_true hlt2]; rfl⟩))) ?_
      apply wr_nil
      exact ⟨rfl, Keeps.refl _ _⟩
    focus (intro xx yy h; rfl)
    focus kernel_rfl
    apply chP_pure
    focus
      intro xx w' hk hF
      first
      | (apply wr_pick (t := true); (iterate 2 exact rfl); with_reducible (conv => enter [6, 3]; whnf); apply wr_nil; exact ⟨rfl, Keeps.refl _ _⟩)
      | (apply wr_pick (t := false); (iterate 2 exact rfl); with_reducible (conv => enter [6, 3]; whnf); apply wr_nil; exact ⟨rfl, Keeps.refl _ _⟩)
    focus (intro xx yy h; rfl)
    focus kernel_rfl
    apply chP_pure
    focus
      intro xx w' hk hF
      apply wr_move; exact rfl; with_reducible (conv => enter [6, 3]; whnf)
      apply wr_nil
      exact ⟨rfl, Keeps.refl _ _⟩
    focus (intro xx yy h; rfl)
    focus kernel_rfl
    apply chP_pure
    focus
      intro xx w' hk hF
      refine wr_loadAll (cs := [.bool sA, .slice (some ⟨b, o, none⟩) sl.length sc]) rfl rfl rfl ((hk0 hk).heap hcs4 (fun h => h)) rfl ?_
      apply wr_nil
      exact ⟨rfl, Keeps.refl _ _⟩
    focus (intro xx yy h; rfl)
    focus kernel_rfl
    apply chP_pure
    focus
      intro xx w' hk hF
      refine wr_fieldAddr rfl rfl ?_
      apply wr_nil
      exact ⟨rfl, Keeps.refl _ _⟩
    focus (intro xx yy h; rfl)
    focus kernel_rfl
    apply chP_pure
    focus
      intro xx w' hk hF
      refine wr_load (v := .slice (some ⟨b, o, none⟩) sl.length sc) rfl rfl rfl ((hk0 hk).heap hcs4 (fun h => h)) rfl ?_
      apply wr_nil
      exact ⟨rfl, Keeps.refl _ _⟩
    focus (intro xx yy h; rfl)
    focus kernel_rfl
    apply chP_pure
    focus
      intro xx w' hk hF
      apply wr_move; exact rfl; with_reducible (conv => enter [6, 3]; whnf)
      apply wr_nil
      exact ⟨rfl, Keeps.refl _ _⟩
    focus (intro xx yy h; rfl)
    focus kernel_rfl
    apply chP_pure
    focus
      intro xx w' hk hF
      refine wr_indexAddr (i := k + 1) rfl rfl rfl hlt ?_
      apply wr_nil
      exact ⟨rfl, Keeps.refl _ _⟩
    focus (intro xx yy h; rfl)
    focus kernel_rfl
    apply chP_pure
    focus
      intro xx w' hk hF
      refine wr_load (v := S x) rfl rfl rfl ((hk0 hk).heap hb4 (fun h => h)) hcx ?_
      apply wr_nil
      exact ⟨rfl, Keeps.refl _ _⟩
    focus (intro xx yy h; rfl)
    focus kernel_rfl
    apply chP_pure
    focus
      intro xx w' hk hF
      refine wr_call (vs := [SetV sA (.slice (some ⟨b, o, none⟩) sl.length sc), S x]) rfl (has_cb true hxh hxl ⟨_, rfl, hsr4.keep (hk0 hk) (fun _ _ h => h)⟩ (by dsimp only; omega)) rfl ?_
      rintro v w'' ⟨rfl, hkc⟩
      apply wr_nil
      exact ⟨rfl, hkc⟩
    focus (intro xx yy h; rfl)
    focus kernel_rfl
    apply chP_pure
    focus
      intro xx w' hk hF
      apply wr_not; iterate 2 exact rfl
      apply wr_nil
      exact ⟨rfl, Keeps.refl _ _⟩
    focus (intro xx yy h; rfl)
    focus kernel_rfl
    apply chP_pure
    focus
      intro xx w' hk hF
      first
      | (apply wr_pick (t := true); (iterate 2 exact rfl); with_reducible (conv => enter [6, 3]; whnf); apply wr_nil; exact ⟨rfl, Keeps.refl _ _⟩)
      | (apply wr_pick (t := false); (iterate 2 exact rfl); with_reducible (conv => enter [6, 3]; whnf); apply wr_nil; exact ⟨rfl, Keeps.refl _ _⟩)
    focus (intro xx yy h; rfl)
    focus kernel_rfl
    refine chP_nil ?_
    intro xx w5 hk5 hF
    (repeat first | (apply wr_move; exact rfl; with_reducible (conv => enter [6, 3]; whnf)) | (apply wr_assign; exact rfl; with_reducible (conv => enter [6, 3]; whnf)) | apply wr_end | apply wc_region | apply wc_skip | (apply wr_add; (iterate 3 exact rfl); exact w_fit (by dsimp only [kIn]; first | done | omega)) | (apply wc_false; exact rfl))
    exact ⟨k + 1 + 1, by omega, ⟨by trivial, hlt, hk4.trans (hk0 hk5)⟩, rfl, rfl, by simp, trivial⟩
end Go.Proofs.YtfdpnkmchedeeaaDoor
