/- ClientHaves. -/
import Derived.Test.YtahlhldkcekbfaaGreatDoorGm
import Derived.Test.YtahlhldkcekbfaaGreatDoorGl
namespace Go.Proofs.YtahlhldkcekbfaaGreatDoor
open Go Go.V Go.RowKit
set_option linter.unusedVariables false
set_option linter.unusedSimpArgs false

def hvOf (x : Nat) : HV := (nameT x, 7)
def nwT : TT := [110, 101, 119, 47, 120]
theorem nw_not (n : Nat) : nameT n ≠ nwT := by
  unfold nameT nwT
  split
  · decide
  · have h : ∀ i, i < 12 → UInt8.ofNat (97 + i) ≠ 110 := by decide
    intro e
    injection e with e1 e2
    exact h _ (Nat.mod_lt _ (by decide)) e1
theorem nw_ok : nameOk nwT := by decide
def manyOf (W : PS) (ml : List Nat) (i : Nat) : Nat := (((ml.take i).map hvOf).filter fun h => hasP W h.1).length
theorem manyOf_le (W : PS) (ml : List Nat) (i : Nat) : manyOf W ml i ≤ i := by
  unfold manyOf
  refine Nat.le_trans (List.length_filter_le _ _) ?_
  rw [List.length_map, List.length_take]; omega
theorem manyOf_succ {W : PS} {ml : List Nat} {i x : Nat} (hx : ml[i]? = some x) : manyOf W ml (i + 1) = manyOf W ml i + (if hasP W (nameT x) = true then 1 else 0) := by
  unfold manyOf
  rw [List.take_add_one, hx]
  simp only [Option.toList_some, List.map_append, List.map_cons, List.map_nil, List.filter_append, List.length_append]
  congr 1
  show (List.filter (fun h : HV => hasP W h.1) [(nameT x, 7)]).length = _
  cases h : hasP W (nameT x) <;> simp [h]
theorem askE_open {c : CLc} {k : Int} {W : PS} {hn : Nat} {t : TPc} (ht : topicOf c k = t) (hs : sameP t.1.1 W = false) (hk : typedB k = true) (hl : W.2.length ≤ 63) (hl2 : t.1.1.2.length ≤ 63) (hh : hn ≤ 64) : askE c k W hn = none := by
  have h1 := listP_le W
  have h2 : (moreL c t.1.1 W).length ≤ 64 := by
    unfold moreL
    split
    · have := listP_le (lessP W t.1.1)
      have := lessP_le W t.1.1
      omega
    · simp
  have h3 : (lessL c t.1.1 W).length ≤ 64 := by
    unfold lessL
    split
    · have := listP_le (lessP t.1.1 W)
      have := lessP_le t.1.1 W
      omega
    · simp
  unfold askE
  rw [ht, hk, hs, decide_eq_true (show (listP W).length ≤ 64 by omega), decide_eq_true h2, decide_eq_true h3, decide_eq_true hh]
  cases t.2.1 <;> rfl
set_option maxRecDepth 100000 in
set_option maxHeartbeats 8000000 in
theorem haves_law (delta : Bool) (bl ml : List Nat) (sl tl : Value) {w : World} (hE : ErrT w) (hsl : SlR w 1 sl bl.length (IB bl)) (hb8 : ∀ x ∈ bl, x < 256) (htl : SlR w 1 tl ml.length (IB ml)) (hm8 : ∀ x ∈ ml, x < 256) :
    Ca Tryz.prog 6 #[.bool delta, sl, tl] w fun v w' => v = .bool true ∧ Keeps NoB w w' := by
  obtain ⟨ma, mc, rfl, hmcap, hmat⟩ := htl.shape
  refine ca_of_body (args := [.bool delta, sl, .slice ma ml.length mc]) Tryz.func6 rfl (by kernel_rfl) ?_
  (repeat first | (apply wr_assign; exact rfl; with_reducible (conv => enter [6, 3]; whnf)) | apply wr_end | apply wc_seq | apply wc_region)
  refine wr_call (vs := []) rfl (examples_ca hE) rfl ?_
  rintro v w1 ⟨rfl, hk1⟩
  have hz1 := hk1.size
  have hE1 := hE.keep hk1
  (repeat first | (apply wr_move; exact rfl; with_reducible (conv => enter [6, 3]; whnf)) | (apply wr_assign; exact rfl; with_reducible (conv => enter [6, 3]; whnf)) | apply wr_end | apply wc_seq | apply wc_region | apply wc_skip | (apply wr_not; iterate 2 exact rfl) | (apply wc_false; exact rfl))
  refine wr_call (vs := [sl, .int .i64 (12 : Nat)]) rfl (few_ca bl sl 12 (by decide) w1 (hsl.keep hk1 (fun _ _ h => h)) hb8) rfl ?_
  rintro v w2 ⟨hfw, hk2⟩
  have hle := namesF_le bl 12
  refine wr_call (vs := [v]) rfl (ofO_ca (namesF bl 12) v w2 (SlR.of_own hfw) (by omega) (namesF_ok bl 12)) rfl ?_
  rintro sv w3 ⟨hsv, hk3⟩
  obtain ⟨W, hW⟩ : ∃ W, W = ofP (namesF bl 12) := ⟨_, rfl⟩
  have hWf : Fine W := by rw [hW]; exact ofP_fine _
  have hWl : W.2.length ≤ 12 := by rw [hW]; have := ofP_le (namesF bl 12); omega
  have hWn : nwT ∉ W.2 := by
    rw [hW, mem_ofP]
    rintro ⟨h, _⟩
    simp only [namesF, List.mem_map] at h
    obtain ⟨n, _, h⟩ := h
    exact nw_not n h
  rw [← hW] at hsv
  obtain ⟨nv, rfl, hnv⟩ := hsv
  clear hW hfw
  have hk03 := (hk1.trans hk2).trans hk3
  have hz3 := hk03.size
  have hz12 := (hk1.trans hk2).size
  (repeat first | (apply wr_alloc; exact rfl))
  refine wr_storeAll (cs := [.bool W.1, nv]) rfl rfl rfl (by intro u hu; simp at hu; rcases hu with rfl | rfl; rfl; exact own_one hnv) (heap_alloc_same _ _) rfl rfl ?_
  refine wr_name ?_
  intro w4 hww4
  obtain ⟨bw4, hbw4⟩ : ∃ b, b = (w3).heap.size := ⟨_, rfl⟩
  have hkw4 : Keeps NoB w3 w4 := by rw [hww4]; exact ((Keeps.refl NoB w3).alloc _).put _ (fun h => by omega)
  have hcw4 : (w4).heap[bw4]? = some (.cells ([.bool W.1, nv]).toArray 26 (0, 0)) := by rw [hww4, hbw4]; exact World.putObj_heap_same (by simp)
  rw [← hbw4]
  clear hww4
  have hk04 := hk03.trans hkw4
  have hnv4 : w4.ownsRow w.heap.size 9 1 nv W.2.length (SL W.2) := own_down (own_keep hnv hkw4 (fun _ _ h => h)) (by omega)
  clear hnv
  (repeat first | (apply wr_assign; exact rfl; with_reducible (conv => enter [6, 3]; whnf)) | apply wr_end | apply wc_seq | apply wc_region | apply wc_block)
  refine wc_loopL (α := Nat × Value) (fun p => [(0, .bool delta), (2, .slice ma ml.length mc), (7, .bool true), (8, .pointer (some ⟨bw4, 0, none⟩)), (9, p.2), (10, .int .i64 (manyOf W ml p.1 : Nat)), (11, .int .i64 (p.1 : Int))])
    (fun p ds w' => ds = [] ∧ p.1 ≤ ml.length ∧ p.1 ≤ 12 ∧ w'.ownsRow w.heap.size 55 2 p.2 p.1 (((ml.take p.1).map hvOf).flatMap GHv) ∧ w'.ownsRow w.heap.size 9 1 nv W.2.length (SL W.2) ∧ w'.heap[bw4]? = some (.cells [.bool W.1, nv].toArray 26 (0, 0)) ∧ Keeps NoB w w') (fun p => ml.length - p.1) (0, nilV)
    ⟨rfl, Nat.zero_le _, Nat.zero_le _, own_nilV _ _ _ _, hnv4, hcw4, hk04⟩ ⟨rfl, rfl, rfl, rfl, rfl, rfl, rfl, trivial⟩ ?_
  rintro ⟨i, hvv⟩ ds f0 w5 ⟨rfl, hi, hi12, hhv5, hnv5, hc5, hk05⟩
  dsimp only at hi hi12 hhv5 ⊢
  have hmle := manyOf_le W ml i
  by_cases hgo : i < ml.length ∧ i < 12
  · obtain ⟨hlt, hlt2⟩ := hgo
    obtain ⟨b, o, rfl, cur, e, fr, hb, hr⟩ := hmat (by omega)
    obtain ⟨x, hx⟩ : ∃ x, ml[i]? = some x := ⟨ml[i], by simp [hlt]⟩
    have hx8 := hm8 x (List.mem_of_getElem? hx)
    have hcell : cur[o + i * 1]? = some (.int .u8 (x : Int)) := by rw [Nat.mul_one, hr i (by omega)]; simp [IB, hx]
    have hb5 := hk05.heap hb (fun h => h)
    have hsucc := manyOf_succ (W := W) hx
    (repeat first | (apply wr_move; exact rfl; with_reducible (conv => enter [6, 3]; whnf)) | apply wr_end | apply wc_seq | apply wc_region | apply wc_skip | apply wc_block | (apply wr_len_slice; iterate 2 exact rfl) | (apply wr_cmp; (iterate 3 exact rfl); exact cmpT (by dsimp only [cmpP]; first | done | omega)) | (apply wr_pick (t := true); (iterate 2 exact rfl); with_reducible (conv => enter [6, 3]; whnf)) | (apply wc_true; exact rfl))
    refine wr_indexAddr (i := i) rfl rfl rfl hlt ?_
    refine wr_load (v := .int .u8 (x : Int)) rfl rfl rfl hb5 hcell ?_
    refine wr_call (vs := [.int .u8 (x : Int)]) rfl (nameX_ca x hx8 w5) rfl ?_
    rintro v w6 ⟨rfl, hk6⟩
    refine wr_build (ps := [(0, S (nameT x)), (1, .int .u64 7)]) (cs := GHv (hvOf x)) rfl rfl rfl rfl ?_
    refine wr_buildSlice (vs := [.agg (GHv (hvOf x)).toArray]) rfl rfl (by intro v hv; simp at hv; subst hv; rfl) rfl (by decide) (by decide) (by decide) ?_
    have hk6a : Keeps NoB w5 (w6.alloc (.cells (List.flatMap (fun v : Value => v.cells.toList) [.agg (GHv (hvOf x)).toArray]).toArray 55)) := hk6.alloc _
    refine wr_append (base := w.heap.size) (v := hvv) (n := i) (m := 1) (news := GHv (hvOf x)) rfl rfl (own_keep hhv5 hk6a (fun _ _ h => h)) rfl (heap_alloc_same _ _) rfl (GHv_one _) rfl (by decide) (by omega) (by omega) (by have := hk05.size; have := hk6.size; simp; omega) ?_
    intro hvv' w7 hhv7 hk7 _
    have hhv6 := own_keep hhv5 hk6a (fun _ _ h => h)
    have hnv7 := own_keep (own_keep hnv5 hk6a (fun _ _ h => h)) hk7 (own_own (own_keep hnv5 hk6a (fun _ _ h => h)) hhv6 (by decide))
    have hc7 := hk7.heap (hk6a.heap hc5 (fun h => h)) (fun e => V.F.own_neT hhv6 (hk6a.heap hc5 (fun h => h)) (by decide) _ e rfl)
    have hk57 := hk6a.upD.trans hk7
    have hk07 : Keeps NoB w w7 := (hk05.trans hk6a).trans' hk7 (fun q hq e => by have := V.F.own_geF hhv6 e; omega)
    have hb7 := hk07.heap hb (fun h => h)
    have hk0 : ∀ {w'}, Keeps NoB w7.drew w' → Keeps NoB w7 w' := fun hk => (Keeps.refl NoB w7).drew.trans hk
    have hrow7 : w7.ownsRow w.heap.size 55 2 hvv' (i + 1) (((ml.take (i + 1)).map hvOf).flatMap GHv) := by
      rw [List.take_add_one, hx]
      simp only [Option.toList_some, List.map_append, List.map_cons, List.map_nil, List.flatMap_append]
      simpa using hhv7
    have hmle' := manyOf_le W ml (i + 1)
    obtain ⟨B, hB⟩ : ∃ B, B = hasP W (nameT x) := ⟨_, rfl⟩
    rw [← hB] at hsucc
    (repeat first | (apply wr_assign; exact rfl; with_reducible (conv => enter [6, 3]; whnf)) | apply wr_end | apply wc_seq)
    refine wc_drawP (l := _) 7 _ (by kernel_rfl) (by kernel_rfl) rfl (by kernel_rfl) (by kernel_rfl) (by decide) ?_
    apply chP_pure
    focus
      intro xx w' hk hF
      refine wr_loadAll (cs := [.bool W.1, nv]) rfl rfl rfl ((hk0 hk).heap hc7 (fun h => h)) rfl ?_
      apply wr_nil
      exact ⟨rfl, Keeps.refl _ _⟩
    focus (intro xx yy h; rfl)
    focus kernel_rfl
    apply chP_pure
    focus
      intro xx w' hk hF
      apply wr_move; exact rfl; with_reducible (conv => enter [6, 3]; whnf)
      apply wr_nil
      exact ⟨rfl, Keeps.refl _ _⟩
    focus (intro xx yy h; rfl)
    focus kernel_rfl
    apply chP_pure
    focus
      intro xx w' hk hF
      apply wr_move; exact rfl; with_reducible (conv => enter [6, 3]; whnf)
      apply wr_nil
      exact ⟨rfl, Keeps.refl _ _⟩
    focus (intro xx yy h; rfl)
    focus kernel_rfl
    apply chP_pure
    focus
      intro xx w' hk hF
      refine wr_indexAddr (i := i) rfl rfl rfl hlt ?_
      apply wr_nil
      exact ⟨rfl, Keeps.refl _ _⟩
    focus (intro xx yy h; rfl)
    focus kernel_rfl
    apply chP_pure
    focus
      intro xx w' hk hF
      refine wr_load (v := .int .u8 (x : Int)) rfl rfl rfl ((hk0 hk).heap hb7 (fun h => h)) hcell ?_
      apply wr_nil
      exact ⟨rfl, Keeps.refl _ _⟩
    focus (intro xx yy h; rfl)
    focus kernel_rfl
    apply chP_pure
    focus
      intro xx w' hk hF
      refine wr_call (vs := [.int .u8 (x : Int)]) rfl (nameX_ca x hx8 w') rfl ?_
      rintro v w'' ⟨rfl, hkc⟩
      apply wr_nil
      exact ⟨rfl, hkc⟩
    focus (intro xx yy h; rfl)
    focus kernel_rfl
    apply chP_pure
    focus
      intro xx w' hk hF
      refine wr_call (vs := [SetV W.1 nv, S (nameT x)]) rfl (has_cb B hB.symm (by have := nameT_len x; omega) ⟨nv, rfl, SlR.of_own (own_keep hnv7 (hk0 hk) (fun _ _ h => h))⟩ (by omega)) rfl ?_
      rintro v w'' ⟨rfl, hkc⟩
      apply wr_nil
      exact ⟨rfl, hkc⟩
    focus (intro xx yy h; rfl)
    focus kernel_rfl
    refine chP_nil ?_
    intro xx w8 hk8 hF
    clear hF
    have hk78 := hk0 hk8
    cases B with
    | true =>
      (repeat first | (apply wr_move; exact rfl; with_reducible (conv => enter [6, 3]; whnf)) | (apply wr_assign; exact rfl; with_reducible (conv => enter [6, 3]; whnf)) | apply wr_end | apply wc_region | (apply wr_add; (iterate 3 exact rfl); exact w_fit (by dsimp only [kIn]; first | done | omega)) | (apply wc_true; exact rfl) | (apply wr_nil; try simp only [thenE, inBlockE, bodyQ]))
      exact ⟨(i + 1, hvv'), by dsimp only; omega, ⟨by trivial, hlt, hlt2, own_keep hrow7 hk78 (fun _ _ h => h), own_keep hnv7 hk78 (fun _ _ h => h), hk78.heap hc7 (fun h => h), hk07.trans hk78⟩, rfl, rfl, rfl, rfl, rfl, by dsimp only; rw [hsucc]; rfl, rfl, trivial⟩
    | false =>
      (repeat first | (apply wr_move; exact rfl; with_reducible (conv => enter [6, 3]; whnf)) | (apply wr_assign; exact rfl; with_reducible (conv => enter [6, 3]; whnf)) | apply wr_end | apply wc_region | apply wc_skip | (apply wr_add; (iterate 3 exact rfl); exact w_fit (by dsimp only [kIn]; first | done | omega)) | (apply wc_false; exact rfl))
      exact ⟨(i + 1, hvv'), by dsimp only; omega, ⟨by trivial, hlt, hlt2, own_keep hrow7 hk78 (fun _ _ h => h), own_keep hnv7 hk78 (fun _ _ h => h), hk78.heap hc7 (fun h => h), hk07.trans hk78⟩, rfl, rfl, rfl, rfl, rfl, by dsimp only; rw [hsucc]; rfl, rfl, trivial⟩
  obtain ⟨hv, hhve⟩ : ∃ hv, hv = (ml.take i).map hvOf := ⟨_, rfl⟩
  have hil : i = hv.length := by rw [hhve, List.length_map, List.length_take]; omega
  rw [← hhve, hil] at hhv5
  have hvx : ∀ x ∈ hv, x.1.length ≤ 9223372036854775807 := by
    intro x hx
    rw [hhve, List.mem_map] at hx
    obtain ⟨n, _, rfl⟩ := hx
    have := nameT_len n
    show (nameT n).length ≤ _
    omega
  obtain ⟨va, vc, hvve⟩ := own_sl hhv5
  obtain ⟨n1, hn1⟩ : ∃ n1, n1 = w5.heap.size := ⟨_, rfl⟩
  have hbn : bw4 < n1 := by rw [hn1]; exact lt_of_heap hc5
  have hc5d : w5.drew.heap[bw4]? = _ := hc5
  have heq : askE (newC delta) 1 W hv.length = none := askE_zero (topicOf_new _ _) (by decide) (by omega) (by omega)
  by_cases hlt : i < ml.length
  · have hlt2 : ¬ i < 12 := fun h => hgo ⟨hlt, h⟩
    (repeat first | (apply wr_move; exact rfl; with_reducible (conv => enter [6, 3]; whnf)) | apply wr_end | apply wc_seq | apply wc_region | (apply wr_len_slice; iterate 2 exact rfl) | (apply wr_cmp; (iterate 3 exact rfl); exact cmpT (by dsimp only [cmpP]; first | done | omega)) | (apply wr_cmp; (iterate 3 exact rfl); exact cmpF (by dsimp only [cmpN]; first | done | omega)) | (apply wr_pick (t := true); (iterate 2 exact rfl); with_reducible (conv => enter [6, 3]; whnf)) | (apply wc_false; exact rfl) | (apply wc_exit; try simp only [thenE, inBlockE, bodyQ, ↓reduceIte, Nat.reduceEqDiff]))
    refine V.F.wc_drawE (l := _) (V.F.E3 n1 bw4 1000 11 TCl 12 TRq) (V.F.E30 bw4 1000) 14 _ (by kernel_rfl) (by kernel_rfl) rfl (by kernel_rfl) (by kernel_rfl) (by decide) (V.F.e3_E0 (by rw [hn1]; exact Nat.le_refl _)) ?_
    apply V.F.chP_pure
    focus
      intro xx w' hk hF
      apply wr_move; exact rfl; with_reducible (conv => enter [6, 3]; whnf)
      apply wr_nil
      exact ⟨rfl, V.F.Kp.of (Keeps.refl _ _)⟩
    focus (intro xx yy h; rfl)
    focus kernel_rfl
    apply V.F.chP_pure
    focus
      intro xx w' hk hF
      refine wr_call (vs := [.bool delta]) rfl (newCl_ca delta w') rfl ?_
      rintro v w'' ⟨rfl, hkc⟩
      apply wr_nil
      exact ⟨rfl, V.F.Kp.of hkc⟩
    focus (intro xx yy h; rfl)
    focus kernel_rfl
    apply V.F.chP_pure
    focus
      intro xx w' hk hF
      refine wr_loadAll (cs := [.bool W.1, nv]) rfl rfl rfl ((V.F.e3_mon (by kernel_rfl) hk).heap hc5d (fun h => h)) rfl ?_
      apply wr_nil
      exact ⟨rfl, V.F.Kp.of (Keeps.refl _ _)⟩
    focus (intro xx yy h; rfl)
    focus kernel_rfl
    apply V.F.chP_pure
    focus
      intro xx w' hk hF
      apply wr_move; exact rfl; with_reducible (conv => enter [6, 3]; whnf)
      apply wr_nil
      exact ⟨rfl, V.F.Kp.of (Keeps.refl _ _)⟩
    focus (intro xx yy h; rfl)
    focus kernel_rfl
    refine V.F.chP_fact (fun y => y) (fun _ y w' => AskOk w' n1 (newC delta) 1 W hv y) (fun _ _ _ _ _ a => a) (by kernel_rfl) (fun x y w w' h k => askOk_E3 h hbn (by decide) (by decide) (by decide) (by decide) k) ?_ ?_
    focus
      intro xx w' hk hF
      have hsz := (V.F.e3_mon' hk).size
      have hk0 := V.F.e3_mon (by kernel_rfl) hk
      have hkd := hk05.drew.trans hk0
      have hS : SetR w' W (SetV W.1 nv) := ⟨nv, rfl, SlR.of_own (own_keep hnv5 ((Keeps.refl NoB w5).drew.trans hk0) (fun _ _ h => h))⟩
      have hV : SlR w' 2 hvv hv.length (hv.flatMap GHv) := SlR.of_own (own_keep hhv5 ((Keeps.refl NoB w5).drew.trans hk0) (fun _ _ h => h))
      refine wr_call (vs := [CliV (newC delta), .int .i64 1, SetV W.1 nv, hvv]) rfl (ask_cb (newC_at w' delta) (hE.keep hkd) 1 hS hWf (by omega) hvx hV) rfl ?_
      rintro v w'' ⟨hR, hkc⟩
      apply wr_nil
      refine ⟨v, rfl, ?_, V.F.Kp.of hkc⟩
      rcases hR with ⟨e, he, _⟩ | ⟨_, hR⟩
      · rw [heq] at he; cases he
      · exact hR.down (hn1 ▸ hsz)
    apply V.F.chP_pure
    focus
      intro xx w' hk hF
      apply wr_move; exact rfl; with_reducible (conv => enter [6, 3]; whnf)
      apply wr_nil
      exact ⟨rfl, V.F.Kp.of (Keeps.refl _ _)⟩
    focus (intro xx yy h; exact h 4 (by kernel_rfl))
    focus kernel_rfl
    refine V.F.chP_pure (v := fun x => tupI (x 4) 0) ?_ (fun x y h => congrArg (fun u => tupI u 0) (h 4 (by kernel_rfl))) (by kernel_rfl) ?_
    focus
      intro xx w' hk hF
      have hA : AskOk w' n1 (newC delta) 1 W hv (xx 4) := hF 4 (by kernel_rfl)
      obtain ⟨nv, sub, uns, hav, hx, _⟩ := hA
      refine wr_extract (v := tupI (xx 4) 0) rfl hx (by rw [hx]; rfl) ?_
      apply wr_nil
      exact ⟨rfl, V.F.Kp.of (Keeps.refl _ _)⟩
    refine V.F.chP_pure (v := fun x => tupI (x 4) 1) ?_ (fun x y h => congrArg (fun u => tupI u 1) (h 4 (by kernel_rfl))) (by kernel_rfl) ?_
    focus
      intro xx w' hk hF
      have hA : AskOk w' n1 (newC delta) 1 W hv (xx 4) := hF 4 (by kernel_rfl)
      obtain ⟨nv, sub, uns, hav, hx, _⟩ := hA
      refine wr_extract (v := tupI (xx 4) 1) rfl hx (by rw [hx]; rfl) ?_
      apply wr_nil
      exact ⟨rfl, V.F.Kp.of (Keeps.refl _ _)⟩
    refine V.F.chP_pure (v := fun x => tupI (x 4) 2) ?_ (fun x y h => congrArg (fun u => tupI u 2) (h 4 (by kernel_rfl))) (by kernel_rfl) ?_
    focus
      intro xx w' hk hF
      have hA : AskOk w' n1 (newC delta) 1 W hv (xx 4) := hF 4 (by kernel_rfl)
      obtain ⟨nv, sub, uns, hav, hx, _⟩ := hA
      refine wr_extract (v := tupI (xx 4) 2) rfl hx (by rw [hx]; rfl) ?_
      apply wr_nil
      exact ⟨rfl, V.F.Kp.of (Keeps.refl _ _)⟩
    refine V.F.chP_fact (fun y => .pointer (some ⟨blkOf y, 0, none⟩)) (fun _ y w' => V.F.Fr w' n1 32 25 (blkOf y)) (fun _ _ _ _ _ a => a) (by kernel_rfl) (fun x y w w' h k => h.keep k) ?_ ?_
    focus
      intro xx w' hk hF
      have hsz := (V.F.e3_mon' hk).size
      apply wr_alloc
      focus exact rfl
      apply wr_nil
      exact ⟨.pointer (some ⟨w'.heap.size, 0, none⟩), rfl, ⟨hn1 ▸ hsz, _, heap_alloc_same _ _, rfl⟩, V.F.Kp.of ((Keeps.refl _ _).alloc _)⟩
    refine V.F.chP_fact (fun y => .pointer (some ⟨blkOf y, 0, none⟩)) (fun _ y w' => V.F.Fr w' n1 42 7 (blkOf y)) (fun _ _ _ _ _ a => a) (by kernel_rfl) (fun x y w w' h k => h.keep k) ?_ ?_
    focus
      intro xx w' hk hF
      have hsz := (V.F.e3_mon' hk).size
      apply wr_alloc
      focus exact rfl
      apply wr_nil
      exact ⟨.pointer (some ⟨w'.heap.size, 0, none⟩), rfl, ⟨hn1 ▸ hsz, _, heap_alloc_same _ _, rfl⟩, V.F.Kp.of ((Keeps.refl _ _).alloc _)⟩
    refine V.F.chP_fact (fun _ => undef) (fun x _ w' => n1 ≤ blkOf (x 9) ∧ w'.heap[blkOf (x 9)]? = some (.cells (cellsV (tupI (x 4) 0)) 32 (0, 0))) (fun x x' y w h a => by rw [← h 4 (by kernel_rfl), ← h 9 (by kernel_rfl)]; exact a) (by kernel_rfl) (fun x y w w' h k => ⟨h.1, V.F.blk2_E3 h.2 (Nat.ne_of_lt (Nat.lt_of_lt_of_le hbn h.1)) (by decide) k⟩) ?_ ?_
    focus
      intro xx w' hk hF
      have hA : AskOk w' n1 (newC delta) 1 W hv (xx 4) := hF 4 (by kernel_rfl)
      obtain ⟨A, R, hx, hA1, hR1, hA2, hR2⟩ := hA.cells (newC_at w' delta) (by omega)
      obtain ⟨hfr, cs, hg, hcs⟩ : V.F.Fr w' n1 32 25 (blkOf (xx 9)) := hF 9 (by kernel_rfl)
      refine wr_storeAll (cs := A) rfl rfl (by show tupI (xx 4) 0 = _; rw [hx]; rfl) hA2 hg hA1 hcs ?_
      apply wr_nil
      exact ⟨undef, rfl, ⟨hfr, by rw [hx]; exact World.putObj_heap_same (lt_of_heap hg)⟩, V.F.Kp.put hg (by rw [List.size_toArray, hA1, hcs]) (.inr (.inl ⟨rfl, hfr, _, _, hg⟩))⟩
    refine V.F.chP_fact (fun _ => undef) (fun x _ w' => n1 ≤ blkOf (x 10) ∧ w'.heap[blkOf (x 10)]? = some (.cells (cellsV (tupI (x 4) 1)) 42 (0, 0))) (fun x x' y w h a => by rw [← h 4 (by kernel_rfl), ← h 10 (by kernel_rfl)]; exact a) (by kernel_rfl) (fun x y w w' h k => ⟨h.1, V.F.blk3_E3 h.2 (Nat.ne_of_lt (Nat.lt_of_lt_of_le hbn h.1)) (by decide) k⟩) ?_ ?_
    focus
      intro xx w' hk hF
      have hA : AskOk w' n1 (newC delta) 1 W hv (xx 4) := hF 4 (by kernel_rfl)
      obtain ⟨A, R, hx, hA1, hR1, hA2, hR2⟩ := hA.cells (newC_at w' delta) (by omega)
      obtain ⟨hfr, cs, hg, hcs⟩ : V.F.Fr w' n1 42 7 (blkOf (xx 10)) := hF 10 (by kernel_rfl)
      refine wr_storeAll (cs := R) rfl rfl (by show tupI (xx 4) 1 = _; rw [hx]; rfl) hR2 hg hR1 hcs ?_
      apply wr_nil
      exact ⟨undef, rfl, ⟨hfr, by rw [hx]; exact World.putObj_heap_same (lt_of_heap hg)⟩, V.F.Kp.put hg (by rw [List.size_toArray, hR1, hcs]) (.inr (.inr ⟨rfl, hfr, _, _, hg⟩))⟩
    refine V.F.chP_pure (v := fun x => tupI (x 4) 2) ?_ (fun x y h => congrArg (fun u => tupI u 2) (h 4 (by kernel_rfl))) (by kernel_rfl) ?_
    focus
      intro xx w' hk hF
      apply wr_assign; exact rfl
      apply wr_nil
      exact ⟨rfl, V.F.Kp.of (Keeps.refl _ _)⟩
    refine V.F.chP_nil ?_
    intro xx w6 hk6' hF
    have hk6 : Keeps NoB w5 w6 := (Keeps.refl NoB w5).drew.trans (V.F.e3_all0 hk6')
    obtain ⟨nv2, sub, uns, hav, hx4, hnv2, ⟨ls, hls, hsub⟩, ⟨lu, hlu, huns⟩, ⟨lh, hlh, hhav⟩⟩ : AskOk w6 n1 (newC delta) 1 W hv (xx 4) := hF 4 (by decide)
    have hq6 : n1 ≤ blkOf (xx 9) ∧ w6.heap[blkOf (xx 9)]? = some (.cells (cellsV (tupI (xx 4) 0)) 32 (0, 0)) := hF 11 (by decide)
    have hr6 : n1 ≤ blkOf (xx 10) ∧ w6.heap[blkOf (xx 10)]? = some (.cells (cellsV (tupI (xx 4) 1)) 42 (0, 0)) := hF 12 (by decide)
    clear hF
    obtain ⟨bq, hbq⟩ : ∃ r, r = blkOf (xx 9) := ⟨_, rfl⟩
    obtain ⟨br, hbr⟩ : ∃ r, r = blkOf (xx 10) := ⟨_, rfl⟩
    rw [hx4, ← hbq] at hq6
    rw [hx4, ← hbr] at hr6
    replace hq6 : n1 ≤ bq ∧ w6.heap[bq]? = some (.cells (GCl (askC (newC delta) 1 W nv2)).toArray 32 (0, 0)) := hq6
    replace hr6 : n1 ≤ br ∧ w6.heap[br]? = some (.cells (GRq 1 (newC delta).1 (if (newC delta).1 = true then 0 else (topicOf (newC delta) 1).2.2) sub uns hav []).toArray 42 (0, 0)) := hr6
    obtain ⟨c1, hc1⟩ : ∃ c, c = askC (newC delta) 1 W nv2 := ⟨_, rfl⟩
    rw [← hc1] at hq6
    have hO6 : CliO w6 n1 c1 := by rw [hc1]; exact askC_O (newC_O w6 n1 delta) 1 hnv2 (by omega) hWf
    have ht1 : topicOf c1 1 = ((W, nv2), true, 0) := by rw [hc1, topicOf_ask (by simp [newC]) (by decide), topicOf_new]; rfl
    have hd1 : c1.1 = delta := by rw [hc1]; rfl
    have hl1 := hO6.len
    have hlh : lh.length = if delta = true then manyOf W ml i else 0 := by
      rw [hlh, show (newC delta).1 = delta from rfl, topicOf_new]
      cases delta with
      | true => unfold manyOf; rw [hhve]; rfl
      | false => rfl
    dsimp only [Nat.reduceAdd]
    rw [hx4, ← hbq, ← hbr]
    obtain ⟨nn, hnn⟩ : ∃ n : Nat, n = (if (newC delta).1 = true then 0 else (topicOf (newC delta) 1).2.2) := ⟨_, rfl⟩
    rw [← hnn, show (newC delta).1 = delta from rfl] at hr6
    clear hnn hc1 hx4 hsub huns hls hlu
    obtain ⟨ea, ec, rfl⟩ := own_sl hhav
    rw [hlh] at hr6
    clear hhav
    have hk06 := hk05.trans hk6
    have hnv6 := own_keep hnv5 hk6 (fun _ _ h => h)
    have hhv6 := own_keep hhv5 hk6 (fun _ _ h => h)
    have hc6 := hk6.heap hc5 (fun h => h)
    obtain ⟨_, hq6⟩ := hq6
    obtain ⟨_, hr6⟩ := hr6
    (repeat first | apply wr_end | apply wc_seq | apply wc_region)
    refine wr_loadAll (cs := [.bool W.1, nv]) rfl rfl rfl hc6 rfl ?_
    refine wr_buildSlice (vs := [S nwT]) rfl rfl (by intro v hv; simp at hv; subst hv; rfl) rfl (by decide) (by decide) (by decide) ?_
    refine wr_name ?_
    intro w7 hw7
    have hk7 : Keeps NoB w6 w7 := by rw [hw7]; exact (Keeps.refl NoB w6).alloc _
    have hc7 : w7.heap[w6.heap.size]? = some (.cells (SL [nwT]).toArray 9 (0, 0)) := by rw [hw7]; exact heap_alloc_same _ _
    clear hw7
    refine wr_call (vs := [SetV W.1 nv, .slice (some ⟨w6.heap.size, 0, none⟩) 1 1]) rfl (add_ca W [nwT] _ _ w7 ⟨nv, rfl, SlR.of_own (own_keep hnv6 hk7 (fun _ _ h => h))⟩ (slR_blk hc7 rfl) (by omega) (by decide) (by decide)) rfl ?_
    rintro v w8 ⟨⟨nv8, rfl, hs8⟩, hk8⟩
    (repeat first | (apply wr_alloc; exact rfl))
    refine wr_storeAll (cs := [.bool (unionP [W, ofP [nwT]]).1, nv8]) rfl rfl rfl (by intro u hu; simp at hu; rcases hu with rfl | rfl; rfl; obtain ⟨_, _, e, _⟩ := slr_strs hs8; rw [e]; rfl) (heap_alloc_same _ _) rfl rfl ?_
    refine wr_name ?_
    intro w9 hww9
    obtain ⟨bw9, hbw9⟩ : ∃ b, b = (w8).heap.size := ⟨_, rfl⟩
    have hkw9 : Keeps NoB w8 w9 := by rw [hww9]; exact ((Keeps.refl NoB w8).alloc _).put _ (fun h => by omega)
    have hcw9 : (w9).heap[bw9]? = some (.cells ([.bool (unionP [W, ofP [nwT]]).1, nv8]).toArray 26 (0, 0)) := by rw [hww9, hbw9]; exact World.putObj_heap_same (by simp)
    rw [← hbw9]
    clear hww9
    have hk69 := (hk7.trans hk8).trans hkw9
    have hk09 := hk06.trans hk69
    have hs9 : SetR w9 (unionP [W, ofP [nwT]]) (SetV (unionP [W, ofP [nwT]]).1 nv8) := ⟨nv8, rfl, hs8.keep hkw9 (fun _ _ h => h)⟩
    obtain ⟨W2, hW2⟩ : ∃ W2, W2 = unionP [W, ofP [nwT]] := ⟨_, rfl⟩
    rw [← hW2] at hs9 hcw9
    have hW2f : Fine W2 := by rw [hW2]; exact union_fine2 hWf (ofP_fine _)
    have hW2l : W2.2.length ≤ 13 := by
      rw [hW2]
      have h1 := unionP_le [W, ofP [nwT]]
      have h2 := ofP_le [nwT]
      simp only [List.flatMap_cons, List.flatMap_nil, List.append_nil, List.length_append, List.length_cons, List.length_nil] at h1 h2
      omega
    have hne : sameP W W2 = false := by
      cases h : sameP W W2 with
      | false => rfl
      | true =>
        have e := (sameP_iff W W2).1 h
        exact absurd (by rw [e, hW2, mem_union2]; exact .inr ((mem_ofP _ _).2 ⟨by simp, nw_ok⟩)) hWn
    have hO9 := hO6.keep hk69
    have hq9 := hk69.heap hq6 (fun h => h)
    have hr9 := hk69.heap hr6 (fun h => h)
    have hhv9 := own_keep hhv6 hk69 (fun _ _ h => h)
    (repeat first | apply wr_end | apply wc_seq | apply wc_region)
    refine wr_loadAll (cs := GCl c1) rfl rfl rfl hq9 (GCl_len hl1) ?_
    refine wr_loadAll (cs := [.bool W2.1, nv8]) rfl rfl rfl hcw9 rfl ?_
    (repeat first | (apply wr_move; exact rfl; with_reducible (conv => enter [6, 3]; whnf)))
    refine wr_call (vs := [CliV c1, .int .i64 1, SetV W2.1 nv8, hvv]) rfl (ask_cb hO9.at (hE.keep hk09) 1 hs9 hW2f (by omega) hvx (SlR.of_own hhv9)) rfl ?_
    rintro v wa ⟨hR, hka⟩
    rcases hR with ⟨e, he, _⟩ | ⟨_, hR⟩
    focus
      rw [askE_open ht1 hne (by decide) (by omega) (by dsimp only; omega) (by omega)] at he; cases he
    obtain ⟨nv3, sub3, uns3, hav3, rfl, hnv3, ⟨ls3, hls3, hsub3⟩, ⟨lu3, hlu3, huns3⟩, ⟨lh3, hlh3, hhav3⟩⟩ := hR
    have hlh3 : lh3.length = 0 := by
      rw [hlh3, ht1]
      cases c1.1 <;> rfl
    have hOa : CliO wa w.heap.size (askC c1 1 W2 nv3) := askC_O ((hO9.keep hka).down (by have := hk05.size; omega)) 1 (own_down hnv3 hk09.size) (by omega) hW2f
    apply wr_move; exact rfl; with_reducible (conv => enter [6, 3]; whnf)
    apply wr_extract; (iterate 3 exact rfl); with_reducible (conv => enter [6, 3]; whnf)
    apply wr_extract; (iterate 3 exact rfl); with_reducible (conv => enter [6, 3]; whnf)
    apply wr_extract; (iterate 3 exact rfl); with_reducible (conv => enter [6, 3]; whnf)
    apply wr_alloc
    focus exact rfl
    refine wr_name ?_
    intro wxa hwwxa
    obtain ⟨bwxa, hbwxa⟩ : ∃ b, b = (wa).heap.size := ⟨_, rfl⟩
    have hkwxa : Keeps NoB wa wxa := by rw [hwwxa]; exact (Keeps.refl NoB wa).alloc _
    have hcwxa : (wxa).heap[bwxa]? = some (.cells (GCl (newC false)).toArray 32 (0, 0)) := by rw [hwwxa, hbwxa]; exact heap_alloc_same _ _
    rw [← hbwxa]
    clear hwwxa
    apply wr_alloc
    focus exact rfl
    refine wr_name ?_
    intro wxb hwwxb
    obtain ⟨bwxb, hbwxb⟩ : ∃ b, b = (wxa).heap.size := ⟨_, rfl⟩
    have hkwxb : Keeps NoB wxa wxb := by rw [hwwxb]; exact (Keeps.refl NoB wxa).alloc _
    have hcwxb : (wxb).heap[bwxb]? = some (.cells (zeroRq).toArray 42 (0, 0)) := by rw [hwwxb, hbwxb]; exact heap_alloc_same _ _
    rw [← hbwxb]
    clear hwwxb
    have hcawx := hkwxb.heap hcwxa (fun h => h)
    have hlrwx := lt_of_heap hcwxa
    refine wr_storeAll (cs := GCl (askC c1 1 W2 nv3)) rfl rfl rfl (GCl_one hOa.at) hcawx (GCl_len hOa.len) (rfl) ?_
    refine wr_name ?_
    intro wxc hwwxc
    have hkwxc : Keeps (· = bwxa) wxb wxc := by rw [hwwxc]; exact (Keeps.refl _ wxb).put _ (fun _ => rfl)
    have hcwxc : (wxc).heap[bwxa]? = some (.cells (GCl (askC c1 1 W2 nv3)).toArray 32 (0, 0)) := by rw [hwwxc]; exact World.putObj_heap_same (lt_of_heap hcawx)
    clear hwwxc
    have hcbwx := hkwxc.heap hcwxb (fun e => by omega)
    refine wr_storeAll (cs := GRq 1 c1.1 (if c1.1 = true then 0 else (topicOf c1 1).2.2) sub3 uns3 hav3 []) rfl rfl rfl (GRq_one (own_one hsub3) (own_one huns3) (own_one hhav3)) hcbwx (rfl) (rfl) ?_
    refine wr_name ?_
    intro wxd hwwxd
    have hkwxd : Keeps (· = bwxb) wxc wxd := by rw [hwwxd]; exact (Keeps.refl _ wxc).put _ (fun _ => rfl)
    have hcwxd : (wxd).heap[bwxb]? = some (.cells (GRq 1 c1.1 (if c1.1 = true then 0 else (topicOf c1 1).2.2) sub3 uns3 hav3 []).toArray 42 (0, 0)) := by rw [hwwxd]; exact World.putObj_heap_same (lt_of_heap hcbwx)
    clear hwwxd
    have hccwx := hkwxd.heap hcwxc (fun e => by omega)
    have hkkwx : Keeps NoB wa wxd := ((hkwxa.trans hkwxb).trans' hkwxc (fun i hi e => by omega)).trans' hkwxd (fun i hi e => by omega)
    have hrx := (hka.trans hkkwx).heap hr9 (fun h => h)
    obtain ⟨ea3, ec3, rfl⟩ := own_sl hhav3
    rw [hlh3] at hcwxd
    have hmle2 := manyOf_le W ml i
    cases delta with
    | true =>
      rw [if_pos rfl] at hrx
      (repeat first | (apply wr_move; exact rfl; with_reducible (conv => enter [6, 3]; whnf)) | (apply wr_assign; exact rfl; with_reducible (conv => enter [6, 3]; whnf)) | apply wr_end | apply wc_seq | apply wc_region | apply wc_skip | (apply wr_fieldAddr; iterate 2 exact rfl) | (apply wr_not; iterate 2 exact rfl) | (apply wr_len_slice; iterate 2 exact rfl) | (apply wr_load; (iterate 3 exact rfl); (focus repeat first | with_reducible assumption | exact heap_alloc_same _ _ | exact World.putObj_heap_same (by first | omega | (simp only [World.size_alloc, World.putObj_size, ne_eq]; omega)) | ((first | refine hAl ?_ ?_ | refine hPu ?_ ?_); focus first | omega | (simp only [World.size_alloc, World.putObj_size, ne_eq]; omega))); exact rfl; conv => enter [6, 3]; whnf) | (apply wr_cmp; (iterate 3 exact rfl); exact cmpT (by dsimp only [cmpP]; first | done | omega)) | (apply wr_pick (t := true); (iterate 2 exact rfl); with_reducible (conv => enter [6, 3]; whnf)) | (apply wc_false; exact rfl))
      refine wr_boolEq (c := true) rfl rfl rfl rfl ?_
      (repeat first | (apply wr_assign; exact rfl; with_reducible (conv => enter [6, 3]; whnf)) | apply wr_end | (apply wr_pick (t := true); (iterate 2 exact rfl); with_reducible (conv => enter [6, 3]; whnf)) | (apply wc_ret; try simp only [thenE, inBlockE, bodyQ]))
      exact leave1 (v := .bool true) rfl rfl ⟨rfl, (hk09.trans hka).trans hkkwx⟩
    | false =>
      rw [if_neg (by decide)] at hrx
      (repeat first | (apply wr_move; exact rfl; with_reducible (conv => enter [6, 3]; whnf)) | (apply wr_assign; exact rfl; with_reducible (conv => enter [6, 3]; whnf)) | apply wr_end | apply wc_seq | apply wc_region | (apply wr_fieldAddr; iterate 2 exact rfl) | (apply wr_not; iterate 2 exact rfl) | (apply wr_len_slice; iterate 2 exact rfl) | (apply wr_load; (iterate 3 exact rfl); (focus repeat first | with_reducible assumption | exact heap_alloc_same _ _ | exact World.putObj_heap_same (by first | omega | (simp only [World.size_alloc, World.putObj_size, ne_eq]; omega)) | ((first | refine hAl ?_ ?_ | refine hPu ?_ ?_); focus first | omega | (simp only [World.size_alloc, World.putObj_size, ne_eq]; omega))); exact rfl; conv => enter [6, 3]; whnf) | (apply wr_cmp; (iterate 3 exact rfl); exact cmpT (by dsimp only [cmpP]; first | done | omega)) | (apply wr_pick (t := true); (iterate 2 exact rfl); with_reducible (conv => enter [6, 3]; whnf)) | (apply wc_true; exact rfl))
      refine wr_boolEq (c := true) rfl rfl rfl rfl ?_
      (repeat first | (apply wr_assign; exact rfl; with_reducible (conv => enter [6, 3]; whnf)) | apply wr_end | (apply wr_pick (t := true); (iterate 2 exact rfl); with_reducible (conv => enter [6, 3]; whnf)) | (apply wc_ret; try simp only [thenE, inBlockE, bodyQ]))
      exact leave1 (v := .bool true) rfl rfl ⟨rfl, (hk09.trans hka).trans hkkwx⟩
  · skip
    (repeat first | (apply wr_move; exact rfl; with_reducible (conv => enter [6, 3]; whnf)) | apply wr_end | apply wc_seq | apply wc_region | (apply wr_len_slice; iterate 2 exact rfl) | (apply wr_cmp; (iterate 3 exact rfl); exact cmpF (by dsimp only [cmpN]; first | done | omega)) | (apply wr_pick (t := false); (iterate 2 exact rfl); with_reducible (conv => enter [6, 3]; whnf)) | (apply wc_false; exact rfl) | (apply wc_exit; try simp only [thenE, inBlockE, bodyQ, ↓reduceIte, Nat.reduceEqDiff]) | (apply wr_skip; exact rfl))
    refine V.F.wc_drawE (l := _) (V.F.E3 n1 bw4 1000 11 TCl 12 TRq) (V.F.E30 bw4 1000) 14 _ (by kernel_rfl) (by kernel_rfl) rfl (by kernel_rfl) (by kernel_rfl) (by decide) (V.F.e3_E0 (by rw [hn1]; exact Nat.le_refl _)) ?_
    apply V.F.chP_pure
    focus
      intro xx w' hk hF
      apply wr_move; exact rfl; with_reducible (conv => enter [6, 3]; whnf)
      apply wr_nil
      exact ⟨rfl, V.F.Kp.of (Keeps.refl _ _)⟩
    focus (intro xx yy h; rfl)
    focus kernel_rfl
    apply V.F.chP_pure
    focus
      intro xx w' hk hF
      refine wr_call (vs := [.bool delta]) rfl (newCl_ca delta w') rfl ?_
      rintro v w'' ⟨rfl, hkc⟩
      apply wr_nil
      exact ⟨rfl, V.F.Kp.of hkc⟩
    focus (intro xx yy h; rfl)
    focus kernel_rfl
    apply V.F.chP_pure
    focus
      intro xx w' hk hF
      refine wr_loadAll (cs := [.bool W.1, nv]) rfl rfl rfl ((V.F.e3_mon (by kernel_rfl) hk).heap hc5d (fun h => h)) rfl ?_
      apply wr_nil
      exact ⟨rfl, V.F.Kp.of (Keeps.refl _ _)⟩
    focus (intro xx yy h; rfl)
    focus kernel_rfl
    apply V.F.chP_pure
    focus
      intro xx w' hk hF
      apply wr_move; exact rfl; with_reducible (conv => enter [6, 3]; whnf)
      apply wr_nil
      exact ⟨rfl, V.F.Kp.of (Keeps.refl _ _)⟩
    focus (intro xx yy h; rfl)
    focus kernel_rfl
    refine V.F.chP_fact (fun y => y) (fun _ y w' => AskOk w' n1 (newC delta) 1 W hv y) (fun _ _ _ _ _ a => a) (by kernel_rfl) (fun x y w w' h k => askOk_E3 h hbn (by decide) (by decide) (by decide) (by decide) k) ?_ ?_
    focus
      intro xx w' hk hF
      have hsz := (V.F.e3_mon' hk).size
      have hk0 := V.F.e3_mon (by kernel_rfl) hk
      have hkd := hk05.drew.trans hk0
      have hS : SetR w' W (SetV W.1 nv) := ⟨nv, rfl, SlR.of_own (own_keep hnv5 ((Keeps.refl NoB w5).drew.trans hk0) (fun _ _ h => h))⟩
      have hV : SlR w' 2 hvv hv.length (hv.flatMap GHv) := SlR.of_own (own_keep hhv5 ((Keeps.refl NoB w5).drew.trans hk0) (fun _ _ h => h))
      refine wr_call (vs := [CliV (newC delta), .int .i64 1, SetV W.1 nv, hvv]) rfl (ask_cb (newC_at w' delta) (hE.keep hkd) 1 hS hWf (by omega) hvx hV) rfl ?_
      rintro v w'' ⟨hR, hkc⟩
      apply wr_nil
      refine ⟨v, rfl, ?_, V.F.Kp.of hkc⟩
      rcases hR with ⟨e, he, _⟩ | ⟨_, hR⟩
      · rw [heq] at he; cases he
      · exact hR.down (hn1 ▸ hsz)
    apply V.F.chP_pure
    focus
      intro xx w' hk hF
      apply wr_move; exact rfl; with_reducible (conv => enter [6, 3]; whnf)
      apply wr_nil
      exact ⟨rfl, V.F.Kp.of (Keeps.refl _ _)⟩
    focus (intro xx yy h; exact h 4 (by kernel_rfl))
    focus kernel_rfl
    refine V.F.chP_pure (v := fun x => tupI (x 4) 0) ?_ (fun x y h => congrArg (fun u => tupI u 0) (h 4 (by kernel_rfl))) (by kernel_rfl) ?_
    focus
      intro xx w' hk hF
      have hA : AskOk w' n1 (newC delta) 1 W hv (xx 4) := hF 4 (by kernel_rfl)
      obtain ⟨nv, sub, uns, hav, hx, _⟩ := hA
      refine wr_extract (v := tupI (xx 4) 0) rfl hx (by rw [hx]; rfl) ?_
      apply wr_nil
      exact ⟨rfl, V.F.Kp.of (Keeps.refl _ _)⟩
    refine V.F.chP_pure (v := fun x => tupI (x 4) 1) ?_ (fun x y h => congrArg (fun u => tupI u 1) (h 4 (by kernel_rfl))) (by kernel_rfl) ?_
    focus
      intro xx w' hk hF
      have hA : AskOk w' n1 (newC delta) 1 W hv (xx 4) := hF 4 (by kernel_rfl)
      obtain ⟨nv, sub, uns, hav, hx, _⟩ := hA
      refine wr_extract (v := tupI (xx 4) 1) rfl hx (by rw [hx]; rfl) ?_
      apply wr_nil
      exact ⟨rfl, V.F.Kp.of (Keeps.refl _ _)⟩
    refine V.F.chP_pure (v := fun x => tupI (x 4) 2) ?_ (fun x y h => congrArg (fun u => tupI u 2) (h 4 (by kernel_rfl))) (by kernel_rfl) ?_
    focus
      intro xx w' hk hF
      have hA : AskOk w' n1 (newC delta) 1 W hv (xx 4) := hF 4 (by kernel_rfl)
      obtain ⟨nv, sub, uns, hav, hx, _⟩ := hA
      refine wr_extract (v := tupI (xx 4) 2) rfl hx (by rw [hx]; rfl) ?_
      apply wr_nil
      exact ⟨rfl, V.F.Kp.of (Keeps.refl _ _)⟩
    refine V.F.chP_fact (fun y => .pointer (some ⟨blkOf y, 0, none⟩)) (fun _ y w' => V.F.Fr w' n1 32 25 (blkOf y)) (fun _ _ _ _ _ a => a) (by kernel_rfl) (fun x y w w' h k => h.keep k) ?_ ?_
    focus
      intro xx w' hk hF
      have hsz := (V.F.e3_mon' hk).size
      apply wr_alloc
      focus exact rfl
      apply wr_nil
      exact ⟨.pointer (some ⟨w'.heap.size, 0, none⟩), rfl, ⟨hn1 ▸ hsz, _, heap_alloc_same _ _, rfl⟩, V.F.Kp.of ((Keeps.refl _ _).alloc _)⟩
    refine V.F.chP_fact (fun y => .pointer (some ⟨blkOf y, 0, none⟩)) (fun _ y w' => V.F.Fr w' n1 42 7 (blkOf y)) (fun _ _ _ _ _ a => a) (by kernel_rfl) (fun x y w w' h k => h.keep k) ?_ ?_
    focus
      intro xx w' hk hF
      have hsz := (V.F.e3_mon' hk).size
      apply wr_alloc
      focus exact rfl
      apply wr_nil
      exact ⟨.pointer (some ⟨w'.heap.size, 0, none⟩), rfl, ⟨hn1 ▸ hsz, _, heap_alloc_same _ _, rfl⟩, V.F.Kp.of ((Keeps.refl _ _).alloc _)⟩
    refine V.F.chP_fact (fun _ => undef) (fun x _ w' => n1 ≤ blkOf (x 9) ∧ w'.heap[blkOf (x 9)]? = some (.cells (cellsV (tupI (x 4) 0)) 32 (0, 0))) (fun x x' y w h a => by rw [← h 4 (by kernel_rfl), ← h 9 (by kernel_rfl)]; exact a) (by kernel_rfl) (fun x y w w' h k => ⟨h.1, V.F.blk2_E3 h.2 (Nat.ne_of_lt (Nat.lt_of_lt_of_le hbn h.1)) (by decide) k⟩) ?_ ?_
    focus
      intro xx w' hk hF
      have hA : AskOk w' n1 (newC delta) 1 W hv (xx 4) := hF 4 (by kernel_rfl)
      obtain ⟨A, R, hx, hA1, hR1, hA2, hR2⟩ := hA.cells (newC_at w' delta) (by omega)
      obtain ⟨hfr, cs, hg, hcs⟩ : V.F.Fr w' n1 32 25 (blkOf (xx 9)) := hF 9 (by kernel_rfl)
      refine wr_storeAll (cs := A) rfl rfl (by show tupI (xx 4) 0 = _; rw [hx]; rfl) hA2 hg hA1 hcs ?_
      apply wr_nil
      exact ⟨undef, rfl, ⟨hfr, by rw [hx]; exact World.putObj_heap_same (lt_of_heap hg)⟩, V.F.Kp.put hg (by rw [List.size_toArray, hA1, hcs]) (.inr (.inl ⟨rfl, hfr, _, _, hg⟩))⟩
    refine V.F.chP_fact (fun _ => undef) (fun x _ w' => n1 ≤ blkOf (x 10) ∧ w'.heap[blkOf (x 10)]? = some (.cells (cellsV (tupI (x 4) 1)) 42 (0, 0))) (fun x x' y w h a => by rw [← h 4 (by kernel_rfl), ← h 10 (by kernel_rfl)]; exact a) (by kernel_rfl) (fun x y w w' h k => ⟨h.1, V.F.blk3_E3 h.2 (Nat.ne_of_lt (Nat.lt_of_lt_of_le hbn h.1)) (by decide) k⟩) ?_ ?_
    focus
      intro xx w' hk hF
      have hA : AskOk w' n1 (newC delta) 1 W hv (xx 4) := hF 4 (by kernel_rfl)
      obtain ⟨A, R, hx, hA1, hR1, hA2, hR2⟩ := hA.cells (newC_at w' delta) (by omega)
      obtain ⟨hfr, cs, hg, hcs⟩ : V.F.Fr w' n1 42 7 (blkOf (xx 10)) := hF 10 (by kernel_rfl)
      refine wr_storeAll (cs := R) rfl rfl (by show tupI (xx 4) 1 = _; rw [hx]; rfl) hR2 hg hR1 hcs ?_
      apply wr_nil
      exact ⟨undef, rfl, ⟨hfr, by rw [hx]; exact World.putObj_heap_same (lt_of_heap hg)⟩, V.F.Kp.put hg (by rw [List.size_toArray, hR1, hcs]) (.inr (.inr ⟨rfl, hfr, _, _, hg⟩))⟩
    refine V.F.chP_pure (v := fun x => tupI (x 4) 2) ?_ (fun x y h => congrArg (fun u => tupI u 2) (h 4 (by kernel_rfl))) (by kernel_rfl) ?_
    focus
      intro xx w' hk hF
      apply wr_assign; exact rfl
      apply wr_nil
      exact ⟨rfl, V.F.Kp.of (Keeps.refl _ _)⟩
    refine V.F.chP_nil ?_
    intro xx w6 hk6' hF
    have hk6 : Keeps NoB w5 w6 := (Keeps.refl NoB w5).drew.trans (V.F.e3_all0 hk6')
    obtain ⟨nv2, sub, uns, hav, hx4, hnv2, ⟨ls, hls, hsub⟩, ⟨lu, hlu, huns⟩, ⟨lh, hlh, hhav⟩⟩ : AskOk w6 n1 (newC delta) 1 W hv (xx 4) := hF 4 (by decide)
    have hq6 : n1 ≤ blkOf (xx 9) ∧ w6.heap[blkOf (xx 9)]? = some (.cells (cellsV (tupI (xx 4) 0)) 32 (0, 0)) := hF 11 (by decide)
    have hr6 : n1 ≤ blkOf (xx 10) ∧ w6.heap[blkOf (xx 10)]? = some (.cells (cellsV (tupI (xx 4) 1)) 42 (0, 0)) := hF 12 (by decide)
    clear hF
    obtain ⟨bq, hbq⟩ : ∃ r, r = blkOf (xx 9) := ⟨_, rfl⟩
    obtain ⟨br, hbr⟩ : ∃ r, r = blkOf (xx 10) := ⟨_, rfl⟩
    rw [hx4, ← hbq] at hq6
    rw [hx4, ← hbr] at hr6
    replace hq6 : n1 ≤ bq ∧ w6.heap[bq]? = some (.cells (GCl (askC (newC delta) 1 W nv2)).toArray 32 (0, 0)) := hq6
    replace hr6 : n1 ≤ br ∧ w6.heap[br]? = some (.cells (GRq 1 (newC delta).1 (if (newC delta).1 = true then 0 else (topicOf (newC delta) 1).2.2) sub uns hav []).toArray 42 (0, 0)) := hr6
    obtain ⟨c1, hc1⟩ : ∃ c, c = askC (newC delta) 1 W nv2 := ⟨_, rfl⟩
    rw [← hc1] at hq6
    have hO6 : CliO w6 n1 c1 := by rw [hc1]; exact askC_O (newC_O w6 n1 delta) 1 hnv2 (by omega) hWf
    have ht1 : topicOf c1 1 = ((W, nv2), true, 0) := by rw [hc1, topicOf_ask (by simp [newC]) (by decide), topicOf_new]; rfl
    have hd1 : c1.1 = delta := by rw [hc1]; rfl
    have hl1 := hO6.len
    have hlh : lh.length = if delta = true then manyOf W ml i else 0 := by
      rw [hlh, show (newC delta).1 = delta from rfl, topicOf_new]
      cases delta with
      | true => unfold manyOf; rw [hhve]; rfl
      | false => rfl
    dsimp only [Nat.reduceAdd]
    rw [hx4, ← hbq, ← hbr]
    obtain ⟨nn, hnn⟩ : ∃ n : Nat, n = (if (newC delta).1 = true then 0 else (topicOf (newC delta) 1).2.2) := ⟨_, rfl⟩
    rw [← hnn, show (newC delta).1 = delta from rfl] at hr6
    clear hnn hc1 hx4 hsub huns hls hlu
    obtain ⟨ea, ec, rfl⟩ := own_sl hhav
    rw [hlh] at hr6
    clear hhav
    have hk06 := hk05.trans hk6
    have hnv6 := own_keep hnv5 hk6 (fun _ _ h => h)
    have hhv6 := own_keep hhv5 hk6 (fun _ _ h => h)
    have hc6 := hk6.heap hc5 (fun h => h)
    obtain ⟨_, hq6⟩ := hq6
    obtain ⟨_, hr6⟩ := hr6
    (repeat first | apply wr_end | apply wc_seq | apply wc_region)
    refine wr_loadAll (cs := [.bool W.1, nv]) rfl rfl rfl hc6 rfl ?_
    refine wr_buildSlice (vs := [S nwT]) rfl rfl (by intro v hv; simp at hv; subst hv; rfl) rfl (by decide) (by decide) (by decide) ?_
    refine wr_name ?_
    intro w7 hw7
    have hk7 : Keeps NoB w6 w7 := by rw [hw7]; exact (Keeps.refl NoB w6).alloc _
    have hc7 : w7.heap[w6.heap.size]? = some (.cells (SL [nwT]).toArray 9 (0, 0)) := by rw [hw7]; exact heap_alloc_same _ _
    clear hw7
    refine wr_call (vs := [SetV W.1 nv, .slice (some ⟨w6.heap.size, 0, none⟩) 1 1]) rfl (add_ca W [nwT] _ _ w7 ⟨nv, rfl, SlR.of_own (own_keep hnv6 hk7 (fun _ _ h => h))⟩ (slR_blk hc7 rfl) (by omega) (by decide) (by decide)) rfl ?_
    rintro v w8 ⟨⟨nv8, rfl, hs8⟩, hk8⟩
    (repeat first | (apply wr_alloc; exact rfl))
    refine wr_storeAll (cs := [.bool (unionP [W, ofP [nwT]]).1, nv8]) rfl rfl rfl (by intro u hu; simp at hu; rcases hu with rfl | rfl; rfl; obtain ⟨_, _, e, _⟩ := slr_strs hs8; rw [e]; rfl) (heap_alloc_same _ _) rfl rfl ?_
    refine wr_name ?_
    intro w9 hww9
    obtain ⟨bw9, hbw9⟩ : ∃ b, b = (w8).heap.size := ⟨_, rfl⟩
    have hkw9 : Keeps NoB w8 w9 := by rw [hww9]; exact ((Keeps.refl NoB w8).alloc _).put _ (fun h => by omega)
    have hcw9 : (w9).heap[bw9]? = some (.cells ([.bool (unionP [W, ofP [nwT]]).1, nv8]).toArray 26 (0, 0)) := by rw [hww9, hbw9]; exact World.putObj_heap_same (by simp)
    rw [← hbw9]
    clear hww9
    have hk69 := (hk7.trans hk8).trans hkw9
    have hk09 := hk06.trans hk69
    have hs9 : SetR w9 (unionP [W, ofP [nwT]]) (SetV (unionP [W, ofP [nwT]]).1 nv8) := ⟨nv8, rfl, hs8.keep hkw9 (fun _ _ h => h)⟩
    obtain ⟨W2, hW2⟩ : ∃ W2, W2 = unionP [W, ofP [nwT]] := ⟨_, rfl⟩
    rw [← hW2] at hs9 hcw9
    have hW2f : Fine W2 := by rw [hW2]; exact union_fine2 hWf (ofP_fine _)
    have hW2l : W2.2.length ≤ 13 := by
      rw [hW2]
      have h1 := unionP_le [W, ofP [nwT]]
      have h2 := ofP_le [nwT]
      simp only [List.flatMap_cons, List.flatMap_nil, List.append_nil, List.length_append, List.length_cons, List.length_nil] at h1 h2
      omega
    have hne : sameP W W2 = false := by
      cases h : sameP W W2 with
      | false => rfl
      | true =>
        have e := (sameP_iff W W2).1 h
        exact absurd (by rw [e, hW2, mem_union2]; exact .inr ((mem_ofP _ _).2 ⟨by simp, nw_ok⟩)) hWn
    have hO9 := hO6.keep hk69
    have hq9 := hk69.heap hq6 (fun h => h)
    have hr9 := hk69.heap hr6 (fun h => h)
    have hhv9 := own_keep hhv6 hk69 (fun _ _ h => h)
    (repeat first | apply wr_end | apply wc_seq | apply wc_region)
    refine wr_loadAll (cs := GCl c1) rfl rfl rfl hq9 (GCl_len hl1) ?_
    refine wr_loadAll (cs := [.bool W2.1, nv8]) rfl rfl rfl hcw9 rfl ?_
    (repeat first | (apply wr_move; exact rfl; with_reducible (conv => enter [6, 3]; whnf)))
    refine wr_call (vs := [CliV c1, .int .i64 1, SetV W2.1 nv8, hvv]) rfl (ask_cb hO9.at (hE.keep hk09) 1 hs9 hW2f (by omega) hvx (SlR.of_own hhv9)) rfl ?_
    rintro v wa ⟨hR, hka⟩
    rcases hR with ⟨e, he, _⟩ | ⟨_, hR⟩
    focus
      rw [askE_open ht1 hne (by decide) (by omega) (by dsimp only; omega) (by omega)] at he; cases he
    obtain ⟨nv3, sub3, uns3, hav3, rfl, hnv3, ⟨ls3, hls3, hsub3⟩, ⟨lu3, hlu3, huns3⟩, ⟨lh3, hlh3, hhav3⟩⟩ := hR
    have hlh3 : lh3.length = 0 := by
      rw [hlh3, ht1]
      cases c1.1 <;> rfl
    have hOa : CliO wa w.heap.size (askC c1 1 W2 nv3) := askC_O ((hO9.keep hka).down (by have := hk05.size; omega)) 1 (own_down hnv3 hk09.size) (by omega) hW2f
    apply wr_move; exact rfl; with_reducible (conv => enter [6, 3]; whnf)
    apply wr_extract; (iterate 3 exact rfl); with_reducible (conv => enter [6, 3]; whnf)
    apply wr_extract; (iterate 3 exact rfl); with_reducible (conv => enter [6, 3]; whnf)
    apply wr_extract; (iterate 3 exact rfl); with_reducible (conv => enter [6, 3]; whnf)
    apply wr_alloc
    focus exact rfl
    refine wr_name ?_
    intro wxa hwwxa
    obtain ⟨bwxa, hbwxa⟩ : ∃ b, b = (wa).heap.size := ⟨_, rfl⟩
    have hkwxa : Keeps NoB wa wxa := by rw [hwwxa]; exact (Keeps.refl NoB wa).alloc _
    have hcwxa : (wxa).heap[bwxa]? = some (.cells (GCl (newC false)).toArray 32 (0, 0)) := by rw [hwwxa, hbwxa]; exact heap_alloc_same _ _
    rw [← hbwxa]
    clear hwwxa
    apply wr_alloc
    focus exact rfl
    refine wr_name ?_
    intro wxb hwwxb
    obtain ⟨bwxb, hbwxb⟩ : ∃ b, b = (wxa).heap.size := ⟨_, rfl⟩
    have hkwxb : Keeps NoB wxa wxb := by rw [hwwxb]; exact (Keeps.refl NoB wxa).alloc _
    have hcwxb : (wxb).heap[bwxb]? = some (.cells (zeroRq).toArray 42 (0, 0)) := by rw [hwwxb, hbwxb]; exact heap_alloc_same _ _
    rw [← hbwxb]
    clear hwwxb
    have hcawx := hkwxb.heap hcwxa (fun h => h)
    have hlrwx := lt_of_heap hcwxa
    refine wr_storeAll (cs := GCl (askC c1 1 W2 nv3)) rfl rfl rfl (GCl_one hOa.at) hcawx (GCl_len hOa.len) (rfl) ?_
    refine wr_name ?_
    intro wxc hwwxc
    have hkwxc : Keeps (· = bwxa) wxb wxc := by rw [hwwxc]; exact (Keeps.refl _ wxb).put _ (fun _ => rfl)
    have hcwxc : (wxc).heap[bwxa]? = some (.cells (GCl (askC c1 1 W2 nv3)).toArray 32 (0, 0)) := by rw [hwwxc]; exact World.putObj_heap_same (lt_of_heap hcawx)
    clear hwwxc
    have hcbwx := hkwxc.heap hcwxb (fun e => by omega)
    refine wr_storeAll (cs := GRq 1 c1.1 (if c1.1 = true then 0 else (topicOf c1 1).2.2) sub3 uns3 hav3 []) rfl rfl rfl (GRq_one (own_one hsub3) (own_one huns3) (own_one hhav3)) hcbwx (rfl) (rfl) ?_
    refine wr_name ?_
    intro wxd hwwxd
    have hkwxd : Keeps (· = bwxb) wxc wxd := by rw [hwwxd]; exact (Keeps.refl _ wxc).put _ (fun _ => rfl)
    have hcwxd : (wxd).heap[bwxb]? = some (.cells (GRq 1 c1.1 (if c1.1 = true then 0 else (topicOf c1 1).2.2) sub3 uns3 hav3 []).toArray 42 (0, 0)) := by rw [hwwxd]; exact World.putObj_heap_same (lt_of_heap hcbwx)
    clear hwwxd
    have hccwx := hkwxd.heap hcwxc (fun e => by omega)
    have hkkwx : Keeps NoB wa wxd := ((hkwxa.trans hkwxb).trans' hkwxc (fun i hi e => by omega)).trans' hkwxd (fun i hi e => by omega)
    have hrx := (hka.trans hkkwx).heap hr9 (fun h => h)
    obtain ⟨ea3, ec3, rfl⟩ := own_sl hhav3
    rw [hlh3] at hcwxd
    have hmle2 := manyOf_le W ml i
    cases delta with
    | true =>
      rw [if_pos rfl] at hrx
      (repeat first | (apply wr_move; exact rfl; with_reducible (conv => enter [6, 3]; whnf)) | (apply wr_assign; exact rfl; with_reducible (conv => enter [6, 3]; whnf)) | apply wr_end | apply wc_seq | apply wc_region | apply wc_skip | (apply wr_fieldAddr; iterate 2 exact rfl) | (apply wr_not; iterate 2 exact rfl) | (apply wr_len_slice; iterate 2 exact rfl) | (apply wr_load; (iterate 3 exact rfl); (focus repeat first | with_reducible assumption | exact heap_alloc_same _ _ | exact World.putObj_heap_same (by first | omega | (simp only [World.size_alloc, World.putObj_size, ne_eq]; omega)) | ((first | refine hAl ?_ ?_ | refine hPu ?_ ?_); focus first | omega | (simp only [World.size_alloc, World.putObj_size, ne_eq]; omega))); exact rfl; conv => enter [6, 3]; whnf) | (apply wr_cmp; (iterate 3 exact rfl); exact cmpT (by dsimp only [cmpP]; first | done | omega)) | (apply wr_pick (t := true); (iterate 2 exact rfl); with_reducible (conv => enter [6, 3]; whnf)) | (apply wc_false; exact rfl))
      refine wr_boolEq (c := true) rfl rfl rfl rfl ?_
      (repeat first | (apply wr_assign; exact rfl; with_reducible (conv => enter [6, 3]; whnf)) | apply wr_end | (apply wr_pick (t := true); (iterate 2 exact rfl); with_reducible (conv => enter [6, 3]; whnf)) | (apply wc_ret; try simp only [thenE, inBlockE, bodyQ]))
      exact leave1 (v := .bool true) rfl rfl ⟨rfl, (hk09.trans hka).trans hkkwx⟩
    | false =>
      rw [if_neg (by decide)] at hrx
      (repeat first | (apply wr_move; exact rfl; with_reducible (conv => enter [6, 3]; whnf)) | (apply wr_assign; exact rfl; with_reducible (conv => enter [6, 3]; whnf)) | apply wr_end | apply wc_seq | apply wc_region | (apply wr_fieldAddr; iterate 2 exact rfl) | (apply wr_not; iterate 2 exact rfl) | (apply wr_len_slice; iterate 2 exact rfl) | (apply wr_load; (iterate 3 exact rfl); (focus repeat first | with_reducible assumption | exact heap_alloc_same _ _ | exact World.putObj_heap_same (by first | omega | (simp only [World.size_alloc, World.putObj_size, ne_eq]; omega)) | ((first | refine hAl ?_ ?_ | refine hPu ?_ ?_); focus first | omega | (simp only [World.size_alloc, World.putObj_size, ne_eq]; omega))); exact rfl; conv => enter [6, 3]; whnf) | (apply wr_cmp; (iterate 3 exact rfl); exact cmpT (by dsimp only [cmpP]; first | done | omega)) | (apply wr_pick (t := true); (iterate 2 exact rfl); with_reducible (conv => enter [6, 3]; whnf)) | (apply wc_true; exact rfl))
      refine wr_boolEq (c := true) rfl rfl rfl rfl ?_
      (repeat first | (apply wr_assign; exact rfl; with_reducible (conv => enter [6, 3]; whnf)) | apply wr_end | (apply wr_pick (t := true); (iterate 2 exact rfl); with_reducible (conv => enter [6, 3]; whnf)) | (apply wc_ret; try simp only [thenE, inBlockE, bodyQ]))
      exact leave1 (v := .bool true) rfl rfl ⟨rfl, (hk09.trans hka).trans hkkwx⟩
end Go.Proofs.YtahlhldkcekbfaaGreatDoor
