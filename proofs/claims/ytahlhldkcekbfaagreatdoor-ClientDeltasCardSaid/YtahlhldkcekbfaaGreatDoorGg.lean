/- The client: Take. -/
import Derived.Test.YtahlhldkcekbfaaGreatDoorGf
import Derived.Test.YtahlhldkcekbfaaGreatDoorVK
namespace Go.Proofs.YtahlhldkcekbfaaGreatDoor
open Go Go.V Go.RowKit
set_option linter.unusedVariables false
set_option linter.unusedSimpArgs false

theorem er_cells (a : Option Int) : (erV a).cells = #[erV a] := by cases a <;> rfl
theorem er_size (a : Option Int) : (erV a).cells.size = 1 := by cases a <;> rfl
theorem er3 (a b c : Option Int) : (List.flatMap (fun v : Value => v.cells.toList) [erV a, erV b, erV c]).toArray = #[erV a, erV b, erV c] := by simp [er_cells]
theorem er2 (a b : Option Int) : (List.flatMap (fun v : Value => v.cells.toList) [erV a, erV b]).toArray = #[erV a, erV b] := by simp [er_cells]
def setN (t : TPc) (n : Nat) : TPc := (t.1, t.2.1, n)
theorem GCl_split {c : CLc} {q : Nat} {t : TPc} (hq : c.2[q]? = some t) (t' : TPc) : ∃ P R : List Value, P.length = q * 4 ∧ c.2.flatMap GTp = P ++ (GTp t ++ R) ∧ (c.2.set q t').flatMap GTp = P ++ (GTp t' ++ R) := by
  obtain ⟨hql, hqe⟩ := List.getElem?_eq_some_iff.1 hq
  have h1 := flat_set GTp_len c.2 q t' hql
  have h2 := flat_set GTp_len c.2 q t hql
  have h3 : c.2.set q t = c.2 := by rw [← hqe]; exact List.set_getElem_self hql
  rw [h3] at h2
  refine ⟨(c.2.flatMap GTp).take (q * 4), (c.2.flatMap GTp).drop (q * 4 + 4), ?_, ?_, ?_⟩
  · rw [List.length_take, flat_len GTp_len]; omega
  · rw [← List.append_assoc]; exact h2
  · rw [← List.append_assoc]; exact h1
theorem GCl_setN {c : CLc} {q : Nat} {t : TPc} (hq : c.2[q]? = some t) {n : Nat} : (GCl c).toArray.setIfInBounds (1 + q * 4 + 3) (.int .u64 (n : Int)) = (GCl (c.1, c.2.set q (setN t n))).toArray := by
  obtain ⟨P, R, hP, e1, e2⟩ := GCl_split hq (setN t n)
  apply Array.toList_inj.1
  rw [Array.toList_setIfInBounds]
  show (Value.bool c.1 :: c.2.flatMap GTp).set (1 + q * 4 + 3) _ = Value.bool c.1 :: (c.2.set q (setN t n)).flatMap GTp
  rw [e1, e2, show 1 + q * 4 + 3 = (q * 4 + 3) + 1 by omega, List.set_cons_succ, List.set_append_right _ _ (by omega), hP, show q * 4 + 3 - q * 4 = 3 by omega]
  rfl
/-- A response's cells. -/
def GRp (k : Int) (d m : Bool) (n ver : Nat) (rs rm : Value) : List Value := [.int .i64 k, .bool d, .bool m, .int .u64 (n : Int), .int .u64 (ver : Int), rs, rm]
abbrev zeroRp : List Value := GRp 0 false false 0 0 (.slice none 0 0) (.slice none 0 0)
def takeE (B : Bool) (c : CLc) (k : Int) (d : Bool) (n : Nat) : Option Int := firstO [errOf B 1, errOf ((topicOf c k).2.1 && (d == c.1)) 7, errOf (decide ((topicOf c k).2.2 < n)) 6]
def takeC (c : CLc) (k : Int) (n : Nat) : CLc := (c.1, c.2.set k.toNat (setN (topicOf c k) n))
set_option maxRecDepth 100000 in
set_option maxHeartbeats 8000000 in
theorem take_ca {c : CLc} {w : World} (h : CliAt w c) (hE : ErrT w) (k : Int) (d m : Bool) (n ver : Nat) (rs rm : Value) (B : Bool) (hn : n ≤ 18446744073709551615) (hrs : rs.oneCell' = true) (hrm : rm.oneCell' = true) (hBk : B = true → typedB k = true)
    (hB : ∀ w', Keeps NoB w w' → Ca Tryz.prog 36 #[.agg (GRp k d m n ver rs rm).toArray] w' fun v w'' => v = .bool B ∧ Keeps NoB w' w'') :
    Ca Tryz.prog 11 #[CliV c, .agg (GRp k d m n ver rs rm).toArray] w fun v w' => v = .tuple #[CliV (if takeE B c k d n = none then takeC c k n else c), .int .i64 ((takeE B c k d n).getD 0)] ∧ Keeps NoB w w' := by
  refine ca_of_body (args := [CliV c, .agg (GRp k d m n ver rs rm).toArray]) Tryz.func11 rfl (by kernel_rfl) ?_
  apply wc_seq
  apply wc_region
  refine wr_box (v := CliV c) rfl rfl ?_
  refine wr_name ?_
  intro w1 hww1
  obtain ⟨bw1, hbw1⟩ : ∃ b, b = (w).heap.size := ⟨_, rfl⟩
  have hkw1 : Keeps NoB w w1 := by rw [hww1]; exact (Keeps.refl NoB w).alloc _
  have hcw1 : (w1).heap[bw1]? = some (.cells (GCl c).toArray 32 (0, 0)) := by rw [hww1, hbw1]; exact heap_alloc_same _ _
  rw [← hbw1]
  clear hww1
  refine wr_box (v := .agg (GRp k d m n ver rs rm).toArray) rfl rfl ?_
  refine wr_name ?_
  intro w2 hww2
  obtain ⟨bw2, hbw2⟩ : ∃ b, b = (w1).heap.size := ⟨_, rfl⟩
  have hkw2 : Keeps NoB w1 w2 := by rw [hww2]; exact (Keeps.refl NoB w1).alloc _
  have hcw2 : (w2).heap[bw2]? = some (.cells (GRp k d m n ver rs rm).toArray 39 (0, 0)) := by rw [hww2, hbw2]; exact heap_alloc_same _ _
  rw [← hbw2]
  clear hww2
  apply wr_alloc
  focus exact rfl
  refine wr_name ?_
  intro w4 hww4
  obtain ⟨bw4, hbw4⟩ : ∃ b, b = (w2).heap.size := ⟨_, rfl⟩
  have hkw4 : Keeps NoB w2 w4 := by rw [hww4]; exact (Keeps.refl NoB w2).alloc _
  have hcw4 : (w4).heap[bw4]? = some (.cells (GCl (newC false)).toArray 32 (0, 0)) := by rw [hww4, hbw4]; exact heap_alloc_same _ _
  rw [← hbw4]
  clear hww4
  have hk4 := (hkw1.trans hkw2).trans hkw4
  have hc14 := (hkw2.trans hkw4).heap hcw1 (fun h => h)
  have hc24 := hkw4.heap hcw2 (fun h => h)
  have hz1 := hkw1.size
  have hz2 := hkw2.size
  have hl4 := lt_of_heap hcw4
  (repeat first | (apply wr_assign; exact rfl; with_reducible (conv => enter [6, 3]; whnf)) | apply wr_end | apply wc_seq | apply wc_region)
  refine wr_loadAll (cs := GCl c) rfl rfl rfl hc14 (GCl_len h.len) ?_
  (repeat first | (apply wr_fieldAddr; iterate 2 exact rfl) | (apply wr_load; (iterate 3 exact rfl); (focus repeat first | with_reducible assumption | exact heap_alloc_same _ _ | exact World.putObj_heap_same (by first | omega | (simp only [World.size_alloc, World.putObj_size, ne_eq]; omega)) | ((first | refine hAl ?_ ?_ | refine hPu ?_ ?_); focus first | omega | (simp only [World.size_alloc, World.putObj_size, ne_eq]; omega))); exact rfl; conv => enter [6, 3]; whnf))
  refine wr_call (vs := [CliV c, .int .i64 k]) rfl (topic_ca (h.keep hk4) k) rfl ?_
  rintro v w5 ⟨rfl, hk5⟩
  obtain ⟨t, ht⟩ : ∃ t, t = topicOf c k := ⟨_, rfl⟩
  have hta : TpAt w5 t := by rw [ht]; exact topicOf_at ((h.keep hk4).keep hk5) k
  rw [← ht]
  (repeat first | (apply wr_alloc; exact rfl))
  refine wr_storeAll (cs := GTp t) rfl rfl rfl (GTp_one hta) (heap_alloc_same _ _) rfl rfl ?_
  refine wr_name ?_
  intro w6 hww6
  obtain ⟨bw6, hbw6⟩ : ∃ b, b = (w5).heap.size := ⟨_, rfl⟩
  have hkw6 : Keeps NoB w5 w6 := by rw [hww6]; exact ((Keeps.refl NoB w5).alloc _).put _ (fun h => by omega)
  have hcw6 : (w6).heap[bw6]? = some (.cells (GTp t).toArray 29 (0, 0)) := by rw [hww6, hbw6]; exact World.putObj_heap_same (by simp)
  rw [← hbw6]
  clear hww6
  have hk46 := hk5.trans hkw6
  have hkf6 := hk4.trans hk46
  have hc16 := hk46.heap hc14 (fun h => h)
  have hc26 := hk46.heap hc24 (fun h => h)
  have hc46 := hk46.heap hcw4 (fun h => h)
  have hl16 := lt_of_heap hcw1
  have hl24 := lt_of_heap hc24
  have hk0 : ∀ {w'}, Keeps NoB w6.drew w' → Keeps NoB w6 w' := fun hk => (Keeps.refl NoB w6).drew.trans hk
  have heq : takeE B c k d n = firstO [errOf B 1, errOf (t.2.1 && (d == c.1)) 7, errOf (decide (t.2.2 < n)) 6] := by rw [ht]; rfl
  obtain ⟨er, her⟩ : ∃ er, er = takeE B c k d n := ⟨_, rfl⟩
  rw [← her] at heq ⊢
  obtain ⟨⟨⟨ta, tl⟩, tv⟩, op, no⟩ := t
  have htv := SE_one hta
  have hno : no ≤ 18446744073709551615 := hta.2.2
  dsimp only at heq htv
  cases op with
  | true =>
    by_cases hlt : no < n
    · skip
      rw [decide_eq_true hlt] at heq
      (repeat first | apply wr_end | apply wc_seq)
      refine wc_drawP (l := _) 22 _ (by kernel_rfl) (by kernel_rfl) rfl (by kernel_rfl) (by kernel_rfl) (by decide) ?_
      apply chP_pure
      focus
        intro xx w' hk hF
        refine wr_loadAll (cs := GRp k d m n ver rs rm) rfl rfl rfl ((hk0 hk).heap hc26 (fun h => h)) rfl ?_
        apply wr_nil
        exact ⟨rfl, Keeps.refl _ _⟩
      focus (intro xx yy h; rfl)
      focus kernel_rfl
      apply chP_pure
      focus
        intro xx w' hk hF
        refine wr_call (vs := [.agg (GRp k d m n ver rs rm).toArray]) rfl (hB w' (hkf6.trans (hk0 hk))) rfl ?_
        rintro v w'' ⟨rfl, hkc⟩
        apply wr_nil
        exact ⟨rfl, hkc⟩
      focus (intro xx yy h; rfl)
      focus kernel_rfl
      apply chP_pure
      focus
        intro xx w' hk hF
        refine wr_call (vs := [.bool B, .int .i64 1]) rfl (need_ca B 1 w') rfl ?_
        rintro v w'' ⟨rfl, rfl⟩
        apply wr_nil
        exact ⟨rfl, Keeps.refl _ _⟩
      focus (intro xx yy h; rfl)
      focus kernel_rfl
      apply chP_pure
      focus
        intro xx w' hk hF
        refine wr_fieldAddr rfl rfl ?_
        apply wr_nil
        exact ⟨rfl, Keeps.refl _ _⟩
      focus (intro xx yy h; rfl)
      focus kernel_rfl
      apply chP_pure
      focus
        intro xx w' hk hF
        refine wr_load (v := .bool true) rfl rfl rfl ((hk0 hk).heap hcw6 (fun h => h)) rfl ?_
        apply wr_nil
        exact ⟨rfl, Keeps.refl _ _⟩
      focus (intro xx yy h; rfl)
      focus kernel_rfl
      apply chP_pure
      focus
        intro xx w' hk hF
        apply wr_move; exact rfl; with_reducible (conv => enter [6, 3]; whnf)
        apply wr_nil
        exact ⟨rfl, Keeps.refl _ _⟩
      focus (intro xx yy h; rfl)
      focus kernel_rfl
      apply chP_pure
      focus
        intro xx w' hk hF
        first
        | (refine wr_skip rfl ?_; apply wr_nil; exact ⟨rfl, Keeps.refl _ _⟩)
        | ((refine wr_fieldAddr rfl rfl ?_); apply wr_nil; exact ⟨rfl, Keeps.refl _ _⟩)
      focus (intro xx yy h; rfl)
      focus kernel_rfl
      apply chP_pure
      focus
        intro xx w' hk hF
        first
        | (refine wr_skip rfl ?_; apply wr_nil; exact ⟨rfl, Keeps.refl _ _⟩)
        | ((refine wr_load (v := .bool d) rfl rfl rfl ((hk0 hk).heap hc26 (fun h => h)) rfl ?_); apply wr_nil; exact ⟨rfl, Keeps.refl _ _⟩)
      focus (intro xx yy h; rfl)
      focus kernel_rfl
      apply chP_pure
      focus
        intro xx w' hk hF
        first
        | (refine wr_skip rfl ?_; apply wr_nil; exact ⟨rfl, Keeps.refl _ _⟩)
        | ((refine wr_fieldAddr rfl rfl ?_); apply wr_nil; exact ⟨rfl, Keeps.refl _ _⟩)
      focus (intro xx yy h; rfl)
      focus kernel_rfl
      apply chP_pure
      focus
        intro xx w' hk hF
        first
        | (refine wr_skip rfl ?_; apply wr_nil; exact ⟨rfl, Keeps.refl _ _⟩)
        | ((refine wr_load (v := .bool c.1) rfl rfl rfl ((hk0 hk).heap hc16 (fun h => h)) rfl ?_); apply wr_nil; exact ⟨rfl, Keeps.refl _ _⟩)
      focus (intro xx yy h; rfl)
      focus kernel_rfl
      apply chP_pure
      focus
        intro xx w' hk hF
        first
        | (refine wr_skip rfl ?_; apply wr_nil; exact ⟨rfl, Keeps.refl _ _⟩)
        | ((refine wr_boolEq (c := (d == c.1)) rfl rfl rfl rfl ?_); apply wr_nil; exact ⟨rfl, Keeps.refl _ _⟩)
      focus (intro xx yy h; rfl)
      focus kernel_rfl
      apply chP_pure
      focus
        intro xx w' hk hF
        first
        | (apply wr_pick (t := true); (iterate 2 exact rfl); with_reducible (conv => enter [6, 3]; whnf); apply wr_nil; exact ⟨rfl, Keeps.refl _ _⟩)
        | (apply wr_pick (t := false); (iterate 2 exact rfl); with_reducible (conv => enter [6, 3]; whnf); apply wr_nil; exact ⟨rfl, Keeps.refl _ _⟩)
      focus (intro xx yy h; rfl)
      focus kernel_rfl
      apply chP_pure
      focus
        intro xx w' hk hF
        refine wr_call (vs := [.bool ((d == c.1)), .int .i64 7]) rfl (need_ca ((d == c.1)) 7 w') rfl ?_
        rintro v w'' ⟨rfl, rfl⟩
        apply wr_nil
        exact ⟨rfl, Keeps.refl _ _⟩
      focus (intro xx yy h; rfl)
      focus kernel_rfl
      apply chP_pure
      focus
        intro xx w' hk hF
        refine wr_fieldAddr rfl rfl ?_
        apply wr_nil
        exact ⟨rfl, Keeps.refl _ _⟩
      focus (intro xx yy h; rfl)
      focus kernel_rfl
      apply chP_pure
      focus
        intro xx w' hk hF
        refine wr_load (v := .int .u64 (n : Int)) rfl rfl rfl ((hk0 hk).heap hc26 (fun h => h)) rfl ?_
        apply wr_nil
        exact ⟨rfl, Keeps.refl _ _⟩
      focus (intro xx yy h; rfl)
      focus kernel_rfl
      apply chP_pure
      focus
        intro xx w' hk hF
        refine wr_fieldAddr rfl rfl ?_
        apply wr_nil
        exact ⟨rfl, Keeps.refl _ _⟩
      focus (intro xx yy h; rfl)
      focus kernel_rfl
      apply chP_pure
      focus
        intro xx w' hk hF
        refine wr_load (v := .int .u64 (no : Int)) rfl rfl rfl ((hk0 hk).heap hcw6 (fun h => h)) rfl ?_
        apply wr_nil
        exact ⟨rfl, Keeps.refl _ _⟩
      focus (intro xx yy h; rfl)
      focus kernel_rfl
      apply chP_pure
      focus
        intro xx w' hk hF
        apply wr_cmp; (iterate 3 exact rfl); exact cmpT (by dsimp only [cmpP]; omega)
        apply wr_nil
        exact ⟨rfl, Keeps.refl _ _⟩
      focus (intro xx yy h; rfl)
      focus kernel_rfl
      apply chP_pure
      focus
        intro xx w' hk hF
        refine wr_call (vs := [.bool true, .int .i64 6]) rfl (need_ca true 6 w') rfl ?_
        rintro v w'' ⟨rfl, rfl⟩
        apply wr_nil
        exact ⟨rfl, Keeps.refl _ _⟩
      focus (intro xx yy h; rfl)
      focus kernel_rfl
      refine chP_fact (fun y => .slice (some ⟨blkOf y, 0, none⟩) 3 3) (fun y w' => w'.heap[blkOf y]? = some (.cells #[erV (errOf B 1), erV (errOf ((d == c.1)) 7), erV (errOf true 6)] 97 (0, 0))) (fun y w' w'' h k => k.heap h (fun h => h)) ?_ ?_
      focus
        intro xx w' hk hF
        refine wr_buildSlice (vs := [erV (errOf B 1), erV (errOf ((d == c.1)) 7), erV (errOf true 6)]) rfl rfl (by intro v hv; simp at hv; rcases hv with rfl | rfl | rfl <;> exact er_size _) rfl (by decide) (by decide) (by decide) ?_
        apply wr_nil
        exact ⟨.pointer (some ⟨w'.heap.size, 0, none⟩), rfl, (by rw [← er3]; exact heap_alloc_same _ _), (Keeps.refl _ _).alloc _⟩
      apply chP_pure
      focus
        intro xx w' hk hF
        refine wr_call (vs := [.slice (some ⟨blkOf (xx 19), 0, none⟩) 3 3]) rfl (first_ca [errOf B 1, errOf ((d == c.1)) 7, errOf true 6] (by simp) (blkOf (xx 19)) _ _ w' (hF 19 (by kernel_rfl))) rfl ?_
        rintro v w'' ⟨rfl, rfl⟩
        apply wr_nil
        exact ⟨rfl, Keeps.refl _ _⟩
      focus (intro xx yy h; rfl)
      focus kernel_rfl
      apply chP_pure
      focus
        intro xx w' hk hF
        apply wr_assign; exact rfl; with_reducible (conv => enter [6, 3]; whnf)
        apply wr_nil
        exact ⟨rfl, Keeps.refl _ _⟩
      focus (intro xx yy h; rfl)
      focus kernel_rfl
      refine chP_nil ?_
      intro xx w7 hk7' hF
      have hk7 := hk0 hk7'
      have hc17 := hk7.heap hc16 (fun h => h)
      have hc27 := hk7.heap hc26 (fun h => h)
      have hc47 := hk7.heap hc46 (fun h => h)
      have hkf7 := hkf6.trans hk7
      clear hF
      simp only [Bool.true_and, Bool.false_and] at heq
      rw [show firstO _ = er from heq.symm]
      (repeat first | (apply wr_move; exact rfl; with_reducible (conv => enter [6, 3]; whnf)) | apply wr_end | apply wc_seq | apply wc_region)
      refine wr_bin rfl rfl rfl (by cases er <;> simp [eqGuard, erV]) (run_neEr er _) ?_
      cases er with
      | some e =>
        have hc17d : w7.drew.heap[bw1]? = _ := hc17
        have hED : ∀ {w'}, Keeps (fun q => q = bw4) w7.drew w' → ErrT w' := fun hk => by
          obtain ⟨T, fr, hg⟩ := hE
          have hl := lt_of_heap hg
          exact ⟨T, fr, hk.heap (hkf7.heap hg (fun h => h)) (fun e => by omega)⟩
        (repeat first | apply wr_end | apply wc_seq | (apply wc_true; exact rfl))
        refine V.L.wc_drawL (l := _) (V.L.mono1 w7.drew 3 bw4 (.cells (GCl (newC false)).toArray 32 (0, 0)) (.cells (GCl c).toArray 32 (0, 0))) (by kernel_rfl) (by kernel_rfl) ⟨Keeps.refl _ _, hc47⟩ ?_
        apply V.L.ch_step
        focus
          apply V.L.mono_read rfl
          intro w hk
          refine wr_loadAll (cs := GCl c) rfl rfl rfl (hk.heap hc17d (fun e => by omega)) (GCl_len h.len) ?_
          apply wr_nil
          exact ⟨rfl, Keeps.refl _ _⟩
        apply V.L.ch_step
        focus
          apply V.L.mono_read rfl
          intro w hk
          apply wr_move; exact rfl; with_reducible (conv => enter [6, 3]; whnf)
          apply wr_nil
          exact ⟨rfl, Keeps.refl _ _⟩
        apply V.L.ch_step
        focus
          apply V.L.mono_read rfl
          intro w hk
          refine wr_call (vs := [erV (some e)]) rfl (told_ca (some e) w (hED hk)) rfl ?_
          rintro v w' ⟨rfl, hk'⟩
          apply wr_nil
          exact ⟨rfl, hk'⟩
        apply V.L.ch_step
        focus
          apply V.L.mono_st
          intro w hk hb
          refine wr_storeAll (cs := GCl c) rfl rfl rfl (GCl_one h) hb (GCl_len h.len) rfl ?_
          apply wr_nil
          exact ⟨rfl, rfl⟩
        apply V.L.ch_step
        focus
          apply V.L.mono_read rfl
          intro w hk
          apply wr_assign; exact rfl; with_reducible (conv => enter [6, 3]; whnf)
          apply wr_nil
          exact ⟨rfl, Keeps.refl _ _⟩
        refine V.L.ch_nil ?_
        intro w8 hS
        obtain ⟨hk8, hc8⟩ := V.L.mono_end hS (by kernel_rfl)
        (repeat first | (apply wc_ret; try simp only [thenE, inBlockE, bodyQ]))
        exact leaveN (vs := [CliV c, .int .i64 e]) (resv_cells (cs := GCl c) (e := 32) (fr := (0, 0)) rfl rfl hc8 (GCl_len h.len) (resv_tmp rfl resv_nil)) ⟨rfl, hkf7.drew.trans' hk8 (fun i hi e => by omega)⟩
      | none =>
        have hBt : B = true := by
          cases B with
          | true => rfl
          | false => simp [firstO, errOf] at heq
        have hk15 : 1 ≤ k ∧ k ≤ 5 := by have := hBk hBt; unfold typedB at this; simpa using this
        obtain ⟨q, rfl⟩ := Int.eq_ofNat_of_zero_le (show 0 ≤ k by omega)
        have hq6 : q < 6 := by omega
        obtain ⟨t, htq⟩ : ∃ t, c.2[q]? = some t := ⟨c.2[q]'(by rw [h.len]; omega), by simp [h.len, hq6]⟩
        have hto : topicOf c (q : Int) = t := by unfold topicOf; rw [if_pos (hBk hBt), Int.toNat_natCast, htq]; rfl
        have htc : takeC c (q : Int) n = (c.1, c.2.set q (setN t n)) := by unfold takeC; rw [hto, Int.toNat_natCast]
        (repeat first | apply wr_end | apply wc_seq | apply wc_region | apply wc_skip | (apply wr_fieldAddr; iterate 2 exact rfl) | (apply wr_load; (iterate 3 exact rfl); (focus repeat first | with_reducible assumption | exact heap_alloc_same _ _ | exact World.putObj_heap_same (by first | omega | (simp only [World.size_alloc, World.putObj_size, ne_eq]; omega)) | ((first | refine hAl ?_ ?_ | refine hPu ?_ ?_); focus first | omega | (simp only [World.size_alloc, World.putObj_size, ne_eq]; omega))); exact rfl; conv => enter [6, 3]; whnf) | (apply wc_false; exact rfl))
        refine wr_indexArr (i := q) rfl rfl rfl hq6 ?_
        (repeat first | (apply wr_fieldAddr; iterate 2 exact rfl))
        refine wr_store (v := .int .u64 (n : Int)) (u := .int .u64 (t.2.2 : Int)) rfl rfl rfl rfl hc17 (by have := GCl_get (j := 3) htq rfl; simpa using this) ?_
        generalize hw8 : World.putObj w7 _ _ = w8
        have hc18 : w8.heap[bw1]? = some (.cells (GCl (takeC c (q : Int) n)).toArray 32 (0, 0)) := by
          rw [← hw8, htc, show 0 + 1 + q * 4 + 3 = 1 + q * 4 + 3 by omega, GCl_setN htq]
          exact World.putObj_heap_same (lt_of_heap hc17)
        have hk8 : Keeps (· = bw1) w7 w8 := by rw [← hw8]; exact (Keeps.refl _ w7).put _ (fun _ => rfl)
        have hc48 := hk8.heap hc47 (fun e => by omega)
        have hl48 : (takeC c (q : Int) n).2.length = 6 := by rw [htc]; simp [h.len]
        have hone : ∀ u ∈ GCl (takeC c (q : Int) n), u.oneCell' = true := by
          rw [htc]
          exact GCl_one (w := w) ⟨by simp [h.len], fun y hy => by
            rcases List.mem_or_eq_of_mem_set hy with hy | rfl
            · exact h.at' y hy
            · exact ⟨(h.at' t (List.mem_of_getElem? htq)).1, (h.at' t (List.mem_of_getElem? htq)).2.1, hn⟩⟩
        clear hw8
        (repeat first | apply wr_end | apply wc_seq | apply wc_region)
        refine wr_loadAll (cs := GCl (takeC c (q : Int) n)) rfl rfl rfl hc18 (GCl_len hl48) ?_
        refine wr_storeAll (cs := GCl (takeC c (q : Int) n)) rfl rfl rfl hone hc48 (GCl_len hl48) rfl ?_
        (repeat first | (apply wr_assign; exact rfl; with_reducible (conv => enter [6, 3]; whnf)) | apply wr_end | (apply wc_ret; try simp only [thenE, inBlockE, bodyQ]))
        exact leaveN (vs := [CliV (takeC c (q : Int) n), .int .i64 0]) (resv_cells (cs := GCl (takeC c (q : Int) n)) (e := 32) (fr := (0, 0)) rfl rfl (World.putObj_heap_same (lt_of_heap hc48)) (GCl_len hl48) (resv_tmp rfl resv_nil)) ⟨rfl, (hkf7.trans' hk8 (fun i hi e => by omega)).trans' ((Keeps.refl (· = bw4) w8).put _ (fun _ => rfl)) (fun i hi e => by omega)⟩
    · skip
      rw [decide_eq_false hlt] at heq
      (repeat first | apply wr_end | apply wc_seq)
      refine wc_drawP (l := _) 22 _ (by kernel_rfl) (by kernel_rfl) rfl (by kernel_rfl) (by kernel_rfl) (by decide) ?_
      apply chP_pure
      focus
        intro xx w' hk hF
        refine wr_loadAll (cs := GRp k d m n ver rs rm) rfl rfl rfl ((hk0 hk).heap hc26 (fun h => h)) rfl ?_
        apply wr_nil
        exact ⟨rfl, Keeps.refl _ _⟩
      focus (intro xx yy h; rfl)
      focus kernel_rfl
      apply chP_pure
      focus
        intro xx w' hk hF
        refine wr_call (vs := [.agg (GRp k d m n ver rs rm).toArray]) rfl (hB w' (hkf6.trans (hk0 hk))) rfl ?_
        rintro v w'' ⟨rfl, hkc⟩
        apply wr_nil
        exact ⟨rfl, hkc⟩
      focus (intro xx yy h; rfl)
      focus kernel_rfl
      apply chP_pure
      focus
        intro xx w' hk hF
        refine wr_call (vs := [.bool B, .int .i64 1]) rfl (need_ca B 1 w') rfl ?_
        rintro v w'' ⟨rfl, rfl⟩
        apply wr_nil
        exact ⟨rfl, Keeps.refl _ _⟩
      focus (intro xx yy h; rfl)
      focus kernel_rfl
      apply chP_pure
      focus
        intro xx w' hk hF
        refine wr_fieldAddr rfl rfl ?_
        apply wr_nil
        exact ⟨rfl, Keeps.refl _ _⟩
      focus (intro xx yy h; rfl)
      focus kernel_rfl
      apply chP_pure
      focus
        intro xx w' hk hF
        refine wr_load (v := .bool true) rfl rfl rfl ((hk0 hk).heap hcw6 (fun h => h)) rfl ?_
        apply wr_nil
        exact ⟨rfl, Keeps.refl _ _⟩
      focus (intro xx yy h; rfl)
      focus kernel_rfl
      apply chP_pure
      focus
        intro xx w' hk hF
        apply wr_move; exact rfl; with_reducible (conv => enter [6, 3]; whnf)
        apply wr_nil
        exact ⟨rfl, Keeps.refl _ _⟩
      focus (intro xx yy h; rfl)
      focus kernel_rfl
      apply chP_pure
      focus
        intro xx w' hk hF
        first
        | (refine wr_skip rfl ?_; apply wr_nil; exact ⟨rfl, Keeps.refl _ _⟩)
        | ((refine wr_fieldAddr rfl rfl ?_); apply wr_nil; exact ⟨rfl, Keeps.refl _ _⟩)
      focus (intro xx yy h; rfl)
      focus kernel_rfl
      apply chP_pure
      focus
        intro xx w' hk hF
        first
        | (refine wr_skip rfl ?_; apply wr_nil; exact ⟨rfl, Keeps.refl _ _⟩)
        | ((refine wr_load (v := .bool d) rfl rfl rfl ((hk0 hk).heap hc26 (fun h => h)) rfl ?_); apply wr_nil; exact ⟨rfl, Keeps.refl _ _⟩)
      focus (intro xx yy h; rfl)
      focus kernel_rfl
      apply chP_pure
      focus
        intro xx w' hk hF
        first
        | (refine wr_skip rfl ?_; apply wr_nil; exact ⟨rfl, Keeps.refl _ _⟩)
        | ((refine wr_fieldAddr rfl rfl ?_); apply wr_nil; exact ⟨rfl, Keeps.refl _ _⟩)
      focus (intro xx yy h; rfl)
      focus kernel_rfl
      apply chP_pure
      focus
        intro xx w' hk hF
        first
        | (refine wr_skip rfl ?_; apply wr_nil; exact ⟨rfl, Keeps.refl _ _⟩)
        | ((refine wr_load (v := .bool c.1) rfl rfl rfl ((hk0 hk).heap hc16 (fun h => h)) rfl ?_); apply wr_nil; exact ⟨rfl, Keeps.refl _ _⟩)
      focus (intro xx yy h; rfl)
      focus kernel_rfl
      apply chP_pure
      focus
        intro xx w' hk hF
        first
        | (refine wr_skip rfl ?_; apply wr_nil; exact ⟨rfl, Keeps.refl _ _⟩)
        | ((refine wr_boolEq (c := (d == c.1)) rfl rfl rfl rfl ?_); apply wr_nil; exact ⟨rfl, Keeps.refl _ _⟩)
      focus (intro xx yy h; rfl)
      focus kernel_rfl
      apply chP_pure
      focus
        intro xx w' hk hF
        first
        | (apply wr_pick (t := true); (iterate 2 exact rfl); with_reducible (conv => enter [6, 3]; whnf); apply wr_nil; exact ⟨rfl, Keeps.refl _ _⟩)
        | (apply wr_pick (t := false); (iterate 2 exact rfl); with_reducible (conv => enter [6, 3]; whnf); apply wr_nil; exact ⟨rfl, Keeps.refl _ _⟩)
      focus (intro xx yy h; rfl)
      focus kernel_rfl
      apply chP_pure
      focus
        intro xx w' hk hF
        refine wr_call (vs := [.bool ((d == c.1)), .int .i64 7]) rfl (need_ca ((d == c.1)) 7 w') rfl ?_
        rintro v w'' ⟨rfl, rfl⟩
        apply wr_nil
        exact ⟨rfl, Keeps.refl _ _⟩
      focus (intro xx yy h; rfl)
      focus kernel_rfl
      apply chP_pure
      focus
        intro xx w' hk hF
        refine wr_fieldAddr rfl rfl ?_
        apply wr_nil
        exact ⟨rfl, Keeps.refl _ _⟩
      focus (intro xx yy h; rfl)
      focus kernel_rfl
      apply chP_pure
      focus
        intro xx w' hk hF
        refine wr_load (v := .int .u64 (n : Int)) rfl rfl rfl ((hk0 hk).heap hc26 (fun h => h)) rfl ?_
        apply wr_nil
        exact ⟨rfl, Keeps.refl _ _⟩
      focus (intro xx yy h; rfl)
      focus kernel_rfl
      apply chP_pure
      focus
        intro xx w' hk hF
        refine wr_fieldAddr rfl rfl ?_
        apply wr_nil
        exact ⟨rfl, Keeps.refl _ _⟩
      focus (intro xx yy h; rfl)
      focus kernel_rfl
      apply chP_pure
      focus
        intro xx w' hk hF
        refine wr_load (v := .int .u64 (no : Int)) rfl rfl rfl ((hk0 hk).heap hcw6 (fun h => h)) rfl ?_
        apply wr_nil
        exact ⟨rfl, Keeps.refl _ _⟩
      focus (intro xx yy h; rfl)
      focus kernel_rfl
      apply chP_pure
      focus
        intro xx w' hk hF
        apply wr_cmp; (iterate 3 exact rfl); exact cmpF (by dsimp only [cmpN]; omega)
        apply wr_nil
        exact ⟨rfl, Keeps.refl _ _⟩
      focus (intro xx yy h; rfl)
      focus kernel_rfl
      apply chP_pure
      focus
        intro xx w' hk hF
        refine wr_call (vs := [.bool false, .int .i64 6]) rfl (need_ca false 6 w') rfl ?_
        rintro v w'' ⟨rfl, rfl⟩
        apply wr_nil
        exact ⟨rfl, Keeps.refl _ _⟩
      focus (intro xx yy h; rfl)
      focus kernel_rfl
      refine chP_fact (fun y => .slice (some ⟨blkOf y, 0, none⟩) 3 3) (fun y w' => w'.heap[blkOf y]? = some (.cells #[erV (errOf B 1), erV (errOf ((d == c.1)) 7), erV (errOf false 6)] 97 (0, 0))) (fun y w' w'' h k => k.heap h (fun h => h)) ?_ ?_
      focus
        intro xx w' hk hF
        refine wr_buildSlice (vs := [erV (errOf B 1), erV (errOf ((d == c.1)) 7), erV (errOf false 6)]) rfl rfl (by intro v hv; simp at hv; rcases hv with rfl | rfl | rfl <;> exact er_size _) rfl (by decide) (by decide) (by decide) ?_
        apply wr_nil
        exact ⟨.pointer (some ⟨w'.heap.size, 0, none⟩), rfl, (by rw [← er3]; exact heap_alloc_same _ _), (Keeps.refl _ _).alloc _⟩
      apply chP_pure
      focus
        intro xx w' hk hF
        refine wr_call (vs := [.slice (some ⟨blkOf (xx 19), 0, none⟩) 3 3]) rfl (first_ca [errOf B 1, errOf ((d == c.1)) 7, errOf false 6] (by simp) (blkOf (xx 19)) _ _ w' (hF 19 (by kernel_rfl))) rfl ?_
        rintro v w'' ⟨rfl, rfl⟩
        apply wr_nil
        exact ⟨rfl, Keeps.refl _ _⟩
      focus (intro xx yy h; rfl)
      focus kernel_rfl
      apply chP_pure
      focus
        intro xx w' hk hF
        apply wr_assign; exact rfl; with_reducible (conv => enter [6, 3]; whnf)
        apply wr_nil
        exact ⟨rfl, Keeps.refl _ _⟩
      focus (intro xx yy h; rfl)
      focus kernel_rfl
      refine chP_nil ?_
      intro xx w7 hk7' hF
      have hk7 := hk0 hk7'
      have hc17 := hk7.heap hc16 (fun h => h)
      have hc27 := hk7.heap hc26 (fun h => h)
      have hc47 := hk7.heap hc46 (fun h => h)
      have hkf7 := hkf6.trans hk7
      clear hF
      simp only [Bool.true_and, Bool.false_and] at heq
      rw [show firstO _ = er from heq.symm]
      (repeat first | (apply wr_move; exact rfl; with_reducible (conv => enter [6, 3]; whnf)) | apply wr_end | apply wc_seq | apply wc_region)
      refine wr_bin rfl rfl rfl (by cases er <;> simp [eqGuard, erV]) (run_neEr er _) ?_
      cases er with
      | some e =>
        have hc17d : w7.drew.heap[bw1]? = _ := hc17
        have hED : ∀ {w'}, Keeps (fun q => q = bw4) w7.drew w' → ErrT w' := fun hk => by
          obtain ⟨T, fr, hg⟩ := hE
          have hl := lt_of_heap hg
          exact ⟨T, fr, hk.heap (hkf7.heap hg (fun h => h)) (fun e => by omega)⟩
        (repeat first | apply wr_end | apply wc_seq | (apply wc_true; exact rfl))
        refine V.L.wc_drawL (l := _) (V.L.mono1 w7.drew 3 bw4 (.cells (GCl (newC false)).toArray 32 (0, 0)) (.cells (GCl c).toArray 32 (0, 0))) (by kernel_rfl) (by kernel_rfl) ⟨Keeps.refl _ _, hc47⟩ ?_
        apply V.L.ch_step
        focus
          apply V.L.mono_read rfl
          intro w hk
          refine wr_loadAll (cs := GCl c) rfl rfl rfl (hk.heap hc17d (fun e => by omega)) (GCl_len h.len) ?_
          apply wr_nil
          exact ⟨rfl, Keeps.refl _ _⟩
        apply V.L.ch_step
        focus
          apply V.L.mono_read rfl
          intro w hk
          apply wr_move; exact rfl; with_reducible (conv => enter [6, 3]; whnf)
          apply wr_nil
          exact ⟨rfl, Keeps.refl _ _⟩
        apply V.L.ch_step
        focus
          apply V.L.mono_read rfl
          intro w hk
          refine wr_call (vs := [erV (some e)]) rfl (told_ca (some e) w (hED hk)) rfl ?_
          rintro v w' ⟨rfl, hk'⟩
          apply wr_nil
          exact ⟨rfl, hk'⟩
        apply V.L.ch_step
        focus
          apply V.L.mono_st
          intro w hk hb
          refine wr_storeAll (cs := GCl c) rfl rfl rfl (GCl_one h) hb (GCl_len h.len) rfl ?_
          apply wr_nil
          exact ⟨rfl, rfl⟩
        apply V.L.ch_step
        focus
          apply V.L.mono_read rfl
          intro w hk
          apply wr_assign; exact rfl; with_reducible (conv => enter [6, 3]; whnf)
          apply wr_nil
          exact ⟨rfl, Keeps.refl _ _⟩
        refine V.L.ch_nil ?_
        intro w8 hS
        obtain ⟨hk8, hc8⟩ := V.L.mono_end hS (by kernel_rfl)
        (repeat first | (apply wc_ret; try simp only [thenE, inBlockE, bodyQ]))
        exact leaveN (vs := [CliV c, .int .i64 e]) (resv_cells (cs := GCl c) (e := 32) (fr := (0, 0)) rfl rfl hc8 (GCl_len h.len) (resv_tmp rfl resv_nil)) ⟨rfl, hkf7.drew.trans' hk8 (fun i hi e => by omega)⟩
      | none =>
        have hBt : B = true := by
          cases B with
          | true => rfl
          | false => simp [firstO, errOf] at heq
        have hk15 : 1 ≤ k ∧ k ≤ 5 := by have := hBk hBt; unfold typedB at this; simpa using this
        obtain ⟨q, rfl⟩ := Int.eq_ofNat_of_zero_le (show 0 ≤ k by omega)
        have hq6 : q < 6 := by omega
        obtain ⟨t, htq⟩ : ∃ t, c.2[q]? = some t := ⟨c.2[q]'(by rw [h.len]; omega), by simp [h.len, hq6]⟩
        have hto : topicOf c (q : Int) = t := by unfold topicOf; rw [if_pos (hBk hBt), Int.toNat_natCast, htq]; rfl
        have htc : takeC c (q : Int) n = (c.1, c.2.set q (setN t n)) := by unfold takeC; rw [hto, Int.toNat_natCast]
        (repeat first | apply wr_end | apply wc_seq | apply wc_region | apply wc_skip | (apply wr_fieldAddr; iterate 2 exact rfl) | (apply wr_load; (iterate 3 exact rfl); (focus repeat first | with_reducible assumption | exact heap_alloc_same _ _ | exact World.putObj_heap_same (by first | omega | (simp only [World.size_alloc, World.putObj_size, ne_eq]; omega)) | ((first | refine hAl ?_ ?_ | refine hPu ?_ ?_); focus first | omega | (simp only [World.size_alloc, World.putObj_size, ne_eq]; omega))); exact rfl; conv => enter [6, 3]; whnf) | (apply wc_false; exact rfl))
        refine wr_indexArr (i := q) rfl rfl rfl hq6 ?_
        (repeat first | (apply wr_fieldAddr; iterate 2 exact rfl))
        refine wr_store (v := .int .u64 (n : Int)) (u := .int .u64 (t.2.2 : Int)) rfl rfl rfl rfl hc17 (by have := GCl_get (j := 3) htq rfl; simpa using this) ?_
        generalize hw8 : World.putObj w7 _ _ = w8
        have hc18 : w8.heap[bw1]? = some (.cells (GCl (takeC c (q : Int) n)).toArray 32 (0, 0)) := by
          rw [← hw8, htc, show 0 + 1 + q * 4 + 3 = 1 + q * 4 + 3 by omega, GCl_setN htq]
          exact World.putObj_heap_same (lt_of_heap hc17)
        have hk8 : Keeps (· = bw1) w7 w8 := by rw [← hw8]; exact (Keeps.refl _ w7).put _ (fun _ => rfl)
        have hc48 := hk8.heap hc47 (fun e => by omega)
        have hl48 : (takeC c (q : Int) n).2.length = 6 := by rw [htc]; simp [h.len]
        have hone : ∀ u ∈ GCl (takeC c (q : Int) n), u.oneCell' = true := by
          rw [htc]
          exact GCl_one (w := w) ⟨by simp [h.len], fun y hy => by
            rcases List.mem_or_eq_of_mem_set hy with hy | rfl
            · exact h.at' y hy
            · exact ⟨(h.at' t (List.mem_of_getElem? htq)).1, (h.at' t (List.mem_of_getElem? htq)).2.1, hn⟩⟩
        clear hw8
        (repeat first | apply wr_end | apply wc_seq | apply wc_region)
        refine wr_loadAll (cs := GCl (takeC c (q : Int) n)) rfl rfl rfl hc18 (GCl_len hl48) ?_
        refine wr_storeAll (cs := GCl (takeC c (q : Int) n)) rfl rfl rfl hone hc48 (GCl_len hl48) rfl ?_
        (repeat first | (apply wr_assign; exact rfl; with_reducible (conv => enter [6, 3]; whnf)) | apply wr_end | (apply wc_ret; try simp only [thenE, inBlockE, bodyQ]))
        exact leaveN (vs := [CliV (takeC c (q : Int) n), .int .i64 0]) (resv_cells (cs := GCl (takeC c (q : Int) n)) (e := 32) (fr := (0, 0)) rfl rfl (World.putObj_heap_same (lt_of_heap hc48)) (GCl_len hl48) (resv_tmp rfl resv_nil)) ⟨rfl, (hkf7.trans' hk8 (fun i hi e => by omega)).trans' ((Keeps.refl (· = bw4) w8).put _ (fun _ => rfl)) (fun i hi e => by omega)⟩
  | false =>
    by_cases hlt : no < n
    · skip
      rw [decide_eq_true hlt] at heq
      (repeat first | apply wr_end | apply wc_seq)
      refine wc_drawP (l := _) 22 _ (by kernel_rfl) (by kernel_rfl) rfl (by kernel_rfl) (by kernel_rfl) (by decide) ?_
      apply chP_pure
      focus
        intro xx w' hk hF
        refine wr_loadAll (cs := GRp k d m n ver rs rm) rfl rfl rfl ((hk0 hk).heap hc26 (fun h => h)) rfl ?_
        apply wr_nil
        exact ⟨rfl, Keeps.refl _ _⟩
      focus (intro xx yy h; rfl)
      focus kernel_rfl
      apply chP_pure
      focus
        intro xx w' hk hF
        refine wr_call (vs := [.agg (GRp k d m n ver rs rm).toArray]) rfl (hB w' (hkf6.trans (hk0 hk))) rfl ?_
        rintro v w'' ⟨rfl, hkc⟩
        apply wr_nil
        exact ⟨rfl, hkc⟩
      focus (intro xx yy h; rfl)
      focus kernel_rfl
      apply chP_pure
      focus
        intro xx w' hk hF
        refine wr_call (vs := [.bool B, .int .i64 1]) rfl (need_ca B 1 w') rfl ?_
        rintro v w'' ⟨rfl, rfl⟩
        apply wr_nil
        exact ⟨rfl, Keeps.refl _ _⟩
      focus (intro xx yy h; rfl)
      focus kernel_rfl
      apply chP_pure
      focus
        intro xx w' hk hF
        refine wr_fieldAddr rfl rfl ?_
        apply wr_nil
        exact ⟨rfl, Keeps.refl _ _⟩
      focus (intro xx yy h; rfl)
      focus kernel_rfl
      apply chP_pure
      focus
        intro xx w' hk hF
        refine wr_load (v := .bool false) rfl rfl rfl ((hk0 hk).heap hcw6 (fun h => h)) rfl ?_
        apply wr_nil
        exact ⟨rfl, Keeps.refl _ _⟩
      focus (intro xx yy h; rfl)
      focus kernel_rfl
      apply chP_pure
      focus
        intro xx w' hk hF
        apply wr_move; exact rfl; with_reducible (conv => enter [6, 3]; whnf)
        apply wr_nil
        exact ⟨rfl, Keeps.refl _ _⟩
      focus (intro xx yy h; rfl)
      focus kernel_rfl
      apply chP_pure
      focus
        intro xx w' hk hF
        first
        | (refine wr_skip rfl ?_; apply wr_nil; exact ⟨rfl, Keeps.refl _ _⟩)
        | ((refine wr_fieldAddr rfl rfl ?_); apply wr_nil; exact ⟨rfl, Keeps.refl _ _⟩)
      focus (intro xx yy h; rfl)
      focus kernel_rfl
      apply chP_pure
      focus
        intro xx w' hk hF
        first
        | (refine wr_skip rfl ?_; apply wr_nil; exact ⟨rfl, Keeps.refl _ _⟩)
        | ((refine wr_load (v := .bool d) rfl rfl rfl ((hk0 hk).heap hc26 (fun h => h)) rfl ?_); apply wr_nil; exact ⟨rfl, Keeps.refl _ _⟩)
      focus (intro xx yy h; rfl)
      focus kernel_rfl
      apply chP_pure
      focus
        intro xx w' hk hF
        first
        | (refine wr_skip rfl ?_; apply wr_nil; exact ⟨rfl, Keeps.refl _ _⟩)
        | ((refine wr_fieldAddr rfl rfl ?_); apply wr_nil; exact ⟨rfl, Keeps.refl _ _⟩)
      focus (intro xx yy h; rfl)
      focus kernel_rfl
      apply chP_pure
      focus
        intro xx w' hk hF
        first
        | (refine wr_skip rfl ?_; apply wr_nil; exact ⟨rfl, Keeps.refl _ _⟩)
        | ((refine wr_load (v := .bool c.1) rfl rfl rfl ((hk0 hk).heap hc16 (fun h => h)) rfl ?_); apply wr_nil; exact ⟨rfl, Keeps.refl _ _⟩)
      focus (intro xx yy h; rfl)
      focus kernel_rfl
      apply chP_pure
      focus
        intro xx w' hk hF
        first
        | (refine wr_skip rfl ?_; apply wr_nil; exact ⟨rfl, Keeps.refl _ _⟩)
        | ((refine wr_boolEq (c := (d == c.1)) rfl rfl rfl rfl ?_); apply wr_nil; exact ⟨rfl, Keeps.refl _ _⟩)
      focus (intro xx yy h; rfl)
      focus kernel_rfl
      apply chP_pure
      focus
        intro xx w' hk hF
        first
        | (apply wr_pick (t := true); (iterate 2 exact rfl); with_reducible (conv => enter [6, 3]; whnf); apply wr_nil; exact ⟨rfl, Keeps.refl _ _⟩)
        | (apply wr_pick (t := false); (iterate 2 exact rfl); with_reducible (conv => enter [6, 3]; whnf); apply wr_nil; exact ⟨rfl, Keeps.refl _ _⟩)
      focus (intro xx yy h; rfl)
      focus kernel_rfl
      apply chP_pure
      focus
        intro xx w' hk hF
        refine wr_call (vs := [.bool (false), .int .i64 7]) rfl (need_ca (false) 7 w') rfl ?_
        rintro v w'' ⟨rfl, rfl⟩
        apply wr_nil
        exact ⟨rfl, Keeps.refl _ _⟩
      focus (intro xx yy h; rfl)
      focus kernel_rfl
      apply chP_pure
      focus
        intro xx w' hk hF
        refine wr_fieldAddr rfl rfl ?_
        apply wr_nil
        exact ⟨rfl, Keeps.refl _ _⟩
      focus (intro xx yy h; rfl)
      focus kernel_rfl
      apply chP_pure
      focus
        intro xx w' hk hF
        refine wr_load (v := .int .u64 (n : Int)) rfl rfl rfl ((hk0 hk).heap hc26 (fun h => h)) rfl ?_
        apply wr_nil
        exact ⟨rfl, Keeps.refl _ _⟩
      focus (intro xx yy h; rfl)
      focus kernel_rfl
      apply chP_pure
      focus
        intro xx w' hk hF
        refine wr_fieldAddr rfl rfl ?_
        apply wr_nil
        exact ⟨rfl, Keeps.refl _ _⟩
      focus (intro xx yy h; rfl)
      focus kernel_rfl
      apply chP_pure
      focus
        intro xx w' hk hF
        refine wr_load (v := .int .u64 (no : Int)) rfl rfl rfl ((hk0 hk).heap hcw6 (fun h => h)) rfl ?_
        apply wr_nil
        exact ⟨rfl, Keeps.refl _ _⟩
      focus (intro xx yy h; rfl)
      focus kernel_rfl
      apply chP_pure
      focus
        intro xx w' hk hF
        apply wr_cmp; (iterate 3 exact rfl); exact cmpT (by dsimp only [cmpP]; omega)
        apply wr_nil
        exact ⟨rfl, Keeps.refl _ _⟩
      focus (intro xx yy h; rfl)
      focus kernel_rfl
      apply chP_pure
      focus
        intro xx w' hk hF
        refine wr_call (vs := [.bool true, .int .i64 6]) rfl (need_ca true 6 w') rfl ?_
        rintro v w'' ⟨rfl, rfl⟩
        apply wr_nil
        exact ⟨rfl, Keeps.refl _ _⟩
      focus (intro xx yy h; rfl)
      focus kernel_rfl
      refine chP_fact (fun y => .slice (some ⟨blkOf y, 0, none⟩) 3 3) (fun y w' => w'.heap[blkOf y]? = some (.cells #[erV (errOf B 1), erV (errOf (false) 7), erV (errOf true 6)] 97 (0, 0))) (fun y w' w'' h k => k.heap h (fun h => h)) ?_ ?_
      focus
        intro xx w' hk hF
        refine wr_buildSlice (vs := [erV (errOf B 1), erV (errOf (false) 7), erV (errOf true 6)]) rfl rfl (by intro v hv; simp at hv; rcases hv with rfl | rfl | rfl <;> exact er_size _) rfl (by decide) (by decide) (by decide) ?_
        apply wr_nil
        exact ⟨.pointer (some ⟨w'.heap.size, 0, none⟩), rfl, (by rw [← er3]; exact heap_alloc_same _ _), (Keeps.refl _ _).alloc _⟩
      apply chP_pure
      focus
        intro xx w' hk hF
        refine wr_call (vs := [.slice (some ⟨blkOf (xx 19), 0, none⟩) 3 3]) rfl (first_ca [errOf B 1, errOf (false) 7, errOf true 6] (by simp) (blkOf (xx 19)) _ _ w' (hF 19 (by kernel_rfl))) rfl ?_
        rintro v w'' ⟨rfl, rfl⟩
        apply wr_nil
        exact ⟨rfl, Keeps.refl _ _⟩
      focus (intro xx yy h; rfl)
      focus kernel_rfl
      apply chP_pure
      focus
        intro xx w' hk hF
        apply wr_assign; exact rfl; with_reducible (conv => enter [6, 3]; whnf)
        apply wr_nil
        exact ⟨rfl, Keeps.refl _ _⟩
      focus (intro xx yy h; rfl)
      focus kernel_rfl
      refine chP_nil ?_
      intro xx w7 hk7' hF
      have hk7 := hk0 hk7'
      have hc17 := hk7.heap hc16 (fun h => h)
      have hc27 := hk7.heap hc26 (fun h => h)
      have hc47 := hk7.heap hc46 (fun h => h)
      have hkf7 := hkf6.trans hk7
      clear hF
      simp only [Bool.true_and, Bool.false_and] at heq
      rw [show firstO _ = er from heq.symm]
      (repeat first | (apply wr_move; exact rfl; with_reducible (conv => enter [6, 3]; whnf)) | apply wr_end | apply wc_seq | apply wc_region)
      refine wr_bin rfl rfl rfl (by cases er <;> simp [eqGuard, erV]) (run_neEr er _) ?_
      cases er with
      | some e =>
        have hc17d : w7.drew.heap[bw1]? = _ := hc17
        have hED : ∀ {w'}, Keeps (fun q => q = bw4) w7.drew w' → ErrT w' := fun hk => by
          obtain ⟨T, fr, hg⟩ := hE
          have hl := lt_of_heap hg
          exact ⟨T, fr, hk.heap (hkf7.heap hg (fun h => h)) (fun e => by omega)⟩
        (repeat first | apply wr_end | apply wc_seq | (apply wc_true; exact rfl))
        refine V.L.wc_drawL (l := _) (V.L.mono1 w7.drew 3 bw4 (.cells (GCl (newC false)).toArray 32 (0, 0)) (.cells (GCl c).toArray 32 (0, 0))) (by kernel_rfl) (by kernel_rfl) ⟨Keeps.refl _ _, hc47⟩ ?_
        apply V.L.ch_step
        focus
          apply V.L.mono_read rfl
          intro w hk
          refine wr_loadAll (cs := GCl c) rfl rfl rfl (hk.heap hc17d (fun e => by omega)) (GCl_len h.len) ?_
          apply wr_nil
          exact ⟨rfl, Keeps.refl _ _⟩
        apply V.L.ch_step
        focus
          apply V.L.mono_read rfl
          intro w hk
          apply wr_move; exact rfl; with_reducible (conv => enter [6, 3]; whnf)
          apply wr_nil
          exact ⟨rfl, Keeps.refl _ _⟩
        apply V.L.ch_step
        focus
          apply V.L.mono_read rfl
          intro w hk
          refine wr_call (vs := [erV (some e)]) rfl (told_ca (some e) w (hED hk)) rfl ?_
          rintro v w' ⟨rfl, hk'⟩
          apply wr_nil
          exact ⟨rfl, hk'⟩
        apply V.L.ch_step
        focus
          apply V.L.mono_st
          intro w hk hb
          refine wr_storeAll (cs := GCl c) rfl rfl rfl (GCl_one h) hb (GCl_len h.len) rfl ?_
          apply wr_nil
          exact ⟨rfl, rfl⟩
        apply V.L.ch_step
        focus
          apply V.L.mono_read rfl
          intro w hk
          apply wr_assign; exact rfl; with_reducible (conv => enter [6, 3]; whnf)
          apply wr_nil
          exact ⟨rfl, Keeps.refl _ _⟩
        refine V.L.ch_nil ?_
        intro w8 hS
        obtain ⟨hk8, hc8⟩ := V.L.mono_end hS (by kernel_rfl)
        (repeat first | (apply wc_ret; try simp only [thenE, inBlockE, bodyQ]))
        exact leaveN (vs := [CliV c, .int .i64 e]) (resv_cells (cs := GCl c) (e := 32) (fr := (0, 0)) rfl rfl hc8 (GCl_len h.len) (resv_tmp rfl resv_nil)) ⟨rfl, hkf7.drew.trans' hk8 (fun i hi e => by omega)⟩
      | none =>
        have hBt : B = true := by
          cases B with
          | true => rfl
          | false => simp [firstO, errOf] at heq
        have hk15 : 1 ≤ k ∧ k ≤ 5 := by have := hBk hBt; unfold typedB at this; simpa using this
        obtain ⟨q, rfl⟩ := Int.eq_ofNat_of_zero_le (show 0 ≤ k by omega)
        have hq6 : q < 6 := by omega
        obtain ⟨t, htq⟩ : ∃ t, c.2[q]? = some t := ⟨c.2[q]'(by rw [h.len]; omega), by simp [h.len, hq6]⟩
        have hto : topicOf c (q : Int) = t := by unfold topicOf; rw [if_pos (hBk hBt), Int.toNat_natCast, htq]; rfl
        have htc : takeC c (q : Int) n = (c.1, c.2.set q (setN t n)) := by unfold takeC; rw [hto, Int.toNat_natCast]
        (repeat first | apply wr_end | apply wc_seq | apply wc_region | apply wc_skip | (apply wr_fieldAddr; iterate 2 exact rfl) | (apply wr_load; (iterate 3 exact rfl); (focus repeat first | with_reducible assumption | exact heap_alloc_same _ _ | exact World.putObj_heap_same (by first | omega | (simp only [World.size_alloc, World.putObj_size, ne_eq]; omega)) | ((first | refine hAl ?_ ?_ | refine hPu ?_ ?_); focus first | omega | (simp only [World.size_alloc, World.putObj_size, ne_eq]; omega))); exact rfl; conv => enter [6, 3]; whnf) | (apply wc_false; exact rfl))
        refine wr_indexArr (i := q) rfl rfl rfl hq6 ?_
        (repeat first | (apply wr_fieldAddr; iterate 2 exact rfl))
        refine wr_store (v := .int .u64 (n : Int)) (u := .int .u64 (t.2.2 : Int)) rfl rfl rfl rfl hc17 (by have := GCl_get (j := 3) htq rfl; simpa using this) ?_
        generalize hw8 : World.putObj w7 _ _ = w8
        have hc18 : w8.heap[bw1]? = some (.cells (GCl (takeC c (q : Int) n)).toArray 32 (0, 0)) := by
          rw [← hw8, htc, show 0 + 1 + q * 4 + 3 = 1 + q * 4 + 3 by omega, GCl_setN htq]
          exact World.putObj_heap_same (lt_of_heap hc17)
        have hk8 : Keeps (· = bw1) w7 w8 := by rw [← hw8]; exact (Keeps.refl _ w7).put _ (fun _ => rfl)
        have hc48 := hk8.heap hc47 (fun e => by omega)
        have hl48 : (takeC c (q : Int) n).2.length = 6 := by rw [htc]; simp [h.len]
        have hone : ∀ u ∈ GCl (takeC c (q : Int) n), u.oneCell' = true := by
          rw [htc]
          exact GCl_one (w := w) ⟨by simp [h.len], fun y hy => by
            rcases List.mem_or_eq_of_mem_set hy with hy | rfl
            · exact h.at' y hy
            · exact ⟨(h.at' t (List.mem_of_getElem? htq)).1, (h.at' t (List.mem_of_getElem? htq)).2.1, hn⟩⟩
        clear hw8
        (repeat first | apply wr_end | apply wc_seq | apply wc_region)
        refine wr_loadAll (cs := GCl (takeC c (q : Int) n)) rfl rfl rfl hc18 (GCl_len hl48) ?_
        refine wr_storeAll (cs := GCl (takeC c (q : Int) n)) rfl rfl rfl hone hc48 (GCl_len hl48) rfl ?_
        (repeat first | (apply wr_assign; exact rfl; with_reducible (conv => enter [6, 3]; whnf)) | apply wr_end | (apply wc_ret; try simp only [thenE, inBlockE, bodyQ]))
        exact leaveN (vs := [CliV (takeC c (q : Int) n), .int .i64 0]) (resv_cells (cs := GCl (takeC c (q : Int) n)) (e := 32) (fr := (0, 0)) rfl rfl (World.putObj_heap_same (lt_of_heap hc48)) (GCl_len hl48) (resv_tmp rfl resv_nil)) ⟨rfl, (hkf7.trans' hk8 (fun i hi e => by omega)).trans' ((Keeps.refl (· = bw4) w8).put _ (fun _ => rfl)) (fun i hi e => by omega)⟩
    · skip
      rw [decide_eq_false hlt] at heq
      (repeat first | apply wr_end | apply wc_seq)
      refine wc_drawP (l := _) 22 _ (by kernel_rfl) (by kernel_rfl) rfl (by kernel_rfl) (by kernel_rfl) (by decide) ?_
      apply chP_pure
      focus
        intro xx w' hk hF
        refine wr_loadAll (cs := GRp k d m n ver rs rm) rfl rfl rfl ((hk0 hk).heap hc26 (fun h => h)) rfl ?_
        apply wr_nil
        exact ⟨rfl, Keeps.refl _ _⟩
      focus (intro xx yy h; rfl)
      focus kernel_rfl
      apply chP_pure
      focus
        intro xx w' hk hF
        refine wr_call (vs := [.agg (GRp k d m n ver rs rm).toArray]) rfl (hB w' (hkf6.trans (hk0 hk))) rfl ?_
        rintro v w'' ⟨rfl, hkc⟩
        apply wr_nil
        exact ⟨rfl, hkc⟩
      focus (intro xx yy h; rfl)
      focus kernel_rfl
      apply chP_pure
      focus
        intro xx w' hk hF
        refine wr_call (vs := [.bool B, .int .i64 1]) rfl (need_ca B 1 w') rfl ?_
        rintro v w'' ⟨rfl, rfl⟩
        apply wr_nil
        exact ⟨rfl, Keeps.refl _ _⟩
      focus (intro xx yy h; rfl)
      focus kernel_rfl
      apply chP_pure
      focus
        intro xx w' hk hF
        refine wr_fieldAddr rfl rfl ?_
        apply wr_nil
        exact ⟨rfl, Keeps.refl _ _⟩
      focus (intro xx yy h; rfl)
      focus kernel_rfl
      apply chP_pure
      focus
        intro xx w' hk hF
        refine wr_load (v := .bool false) rfl rfl rfl ((hk0 hk).heap hcw6 (fun h => h)) rfl ?_
        apply wr_nil
        exact ⟨rfl, Keeps.refl _ _⟩
      focus (intro xx yy h; rfl)
      focus kernel_rfl
      apply chP_pure
      focus
        intro xx w' hk hF
        apply wr_move; exact rfl; with_reducible (conv => enter [6, 3]; whnf)
        apply wr_nil
        exact ⟨rfl, Keeps.refl _ _⟩
      focus (intro xx yy h; rfl)
      focus kernel_rfl
      apply chP_pure
      focus
        intro xx w' hk hF
        first
        | (refine wr_skip rfl ?_; apply wr_nil; exact ⟨rfl, Keeps.refl _ _⟩)
        | ((refine wr_fieldAddr rfl rfl ?_); apply wr_nil; exact ⟨rfl, Keeps.refl _ _⟩)
      focus (intro xx yy h; rfl)
      focus kernel_rfl
      apply chP_pure
      focus
        intro xx w' hk hF
        first
        | (refine wr_skip rfl ?_; apply wr_nil; exact ⟨rfl, Keeps.refl _ _⟩)
        | ((refine wr_load (v := .bool d) rfl rfl rfl ((hk0 hk).heap hc26 (fun h => h)) rfl ?_); apply wr_nil; exact ⟨rfl, Keeps.refl _ _⟩)
      focus (intro xx yy h; rfl)
      focus kernel_rfl
      apply chP_pure
      focus
        intro xx w' hk hF
        first
        | (refine wr_skip rfl ?_; apply wr_nil; exact ⟨rfl, Keeps.refl _ _⟩)
        | ((refine wr_fieldAddr rfl rfl ?_); apply wr_nil; exact ⟨rfl, Keeps.refl _ _⟩)
      focus (intro xx yy h; rfl)
      focus kernel_rfl
      apply chP_pure
      focus
        intro xx w' hk hF
        first
        | (refine wr_skip rfl ?_; apply wr_nil; exact ⟨rfl, Keeps.refl _ _⟩)
        | ((refine wr_load (v := .bool c.1) rfl rfl rfl ((hk0 hk).heap hc16 (fun h => h)) rfl ?_); apply wr_nil; exact ⟨rfl, Keeps.refl _ _⟩)
      focus (intro xx yy h; rfl)
      focus kernel_rfl
      apply chP_pure
      focus
        intro xx w' hk hF
        first
        | (refine wr_skip rfl ?_; apply wr_nil; exact ⟨rfl, Keeps.refl _ _⟩)
        | ((refine wr_boolEq (c := (d == c.1)) rfl rfl rfl rfl ?_); apply wr_nil; exact ⟨rfl, Keeps.refl _ _⟩)
      focus (intro xx yy h; rfl)
      focus kernel_rfl
      apply chP_pure
      focus
        intro xx w' hk hF
        first
        | (apply wr_pick (t := true); (iterate 2 exact rfl); with_reducible (conv => enter [6, 3]; whnf); apply wr_nil; exact ⟨rfl, Keeps.refl _ _⟩)
        | (apply wr_pick (t := false); (iterate 2 exact rfl); with_reducible (conv => enter [6, 3]; whnf); apply wr_nil; exact ⟨rfl, Keeps.refl _ _⟩)
      focus (intro xx yy h; rfl)
      focus kernel_rfl
      apply chP_pure
      focus
        intro xx w' hk hF
        refine wr_call (vs := [.bool (false), .int .i64 7]) rfl (need_ca (false) 7 w') rfl ?_
        rintro v w'' ⟨rfl, rfl⟩
        apply wr_nil
        exact ⟨rfl, Keeps.refl _ _⟩
      focus (intro xx yy h; rfl)
      focus kernel_rfl
      apply chP_pure
      focus
        intro xx w' hk hF
        refine wr_fieldAddr rfl rfl ?_
        apply wr_nil
        exact ⟨rfl, Keeps.refl _ _⟩
      focus (intro xx yy h; rfl)
      focus kernel_rfl
      apply chP_pure
      focus
        intro xx w' hk hF
        refine wr_load (v := .int .u64 (n : Int)) rfl rfl rfl ((hk0 hk).heap hc26 (fun h => h)) rfl ?_
        apply wr_nil
        exact ⟨rfl, Keeps.refl _ _⟩
      focus (intro xx yy h; rfl)
      focus kernel_rfl
      apply chP_pure
      focus
        intro xx w' hk hF
        refine wr_fieldAddr rfl rfl ?_
        apply wr_nil
        exact ⟨rfl, Keeps.refl _ _⟩
      focus (intro xx yy h; rfl)
      focus kernel_rfl
      apply chP_pure
      focus
        intro xx w' hk hF
        refine wr_load (v := .int .u64 (no : Int)) rfl rfl rfl ((hk0 hk).heap hcw6 (fun h => h)) rfl ?_
        apply wr_nil
        exact ⟨rfl, Keeps.refl _ _⟩
      focus (intro xx yy h; rfl)
      focus kernel_rfl
      apply chP_pure
      focus
        intro xx w' hk hF
        apply wr_cmp; (iterate 3 exact rfl); exact cmpF (by dsimp only [cmpN]; omega)
        apply wr_nil
        exact ⟨rfl, Keeps.refl _ _⟩
      focus (intro xx yy h; rfl)
      focus kernel_rfl
      apply chP_pure
      focus
        intro xx w' hk hF
        refine wr_call (vs := [.bool false, .int .i64 6]) rfl (need_ca false 6 w') rfl ?_
        rintro v w'' ⟨rfl, rfl⟩
        apply wr_nil
        exact ⟨rfl, Keeps.refl _ _⟩
      focus (intro xx yy h; rfl)
      focus kernel_rfl
      refine chP_fact (fun y => .slice (some ⟨blkOf y, 0, none⟩) 3 3) (fun y w' => w'.heap[blkOf y]? = some (.cells #[erV (errOf B 1), erV (errOf (false) 7), erV (errOf false 6)] 97 (0, 0))) (fun y w' w'' h k => k.heap h (fun h => h)) ?_ ?_
      focus
        intro xx w' hk hF
        refine wr_buildSlice (vs := [erV (errOf B 1), erV (errOf (false) 7), erV (errOf false 6)]) rfl rfl (by intro v hv; simp at hv; rcases hv with rfl | rfl | rfl <;> exact er_size _) rfl (by decide) (by decide) (by decide) ?_
        apply wr_nil
        exact ⟨.pointer (some ⟨w'.heap.size, 0, none⟩), rfl, (by rw [← er3]; exact heap_alloc_same _ _), (Keeps.refl _ _).alloc _⟩
      apply chP_pure
      focus
        intro xx w' hk hF
        refine wr_call (vs := [.slice (some ⟨blkOf (xx 19), 0, none⟩) 3 3]) rfl (first_ca [errOf B 1, errOf (false) 7, errOf false 6] (by simp) (blkOf (xx 19)) _ _ w' (hF 19 (by kernel_rfl))) rfl ?_
        rintro v w'' ⟨rfl, rfl⟩
        apply wr_nil
        exact ⟨rfl, Keeps.refl _ _⟩
      focus (intro xx yy h; rfl)
      focus kernel_rfl
      apply chP_pure
      focus
        intro xx w' hk hF
        apply wr_assign; exact rfl; with_reducible (conv => enter [6, 3]; whnf)
        apply wr_nil
        exact ⟨rfl, Keeps.refl _ _⟩
      focus (intro xx yy h; rfl)
      focus kernel_rfl
      refine chP_nil ?_
      intro xx w7 hk7' hF
      have hk7 := hk0 hk7'
      have hc17 := hk7.heap hc16 (fun h => h)
      have hc27 := hk7.heap hc26 (fun h => h)
      have hc47 := hk7.heap hc46 (fun h => h)
      have hkf7 := hkf6.trans hk7
      clear hF
      simp only [Bool.true_and, Bool.false_and] at heq
      rw [show firstO _ = er from heq.symm]
      (repeat first | (apply wr_move; exact rfl; with_reducible (conv => enter [6, 3]; whnf)) | apply wr_end | apply wc_seq | apply wc_region)
      refine wr_bin rfl rfl rfl (by cases er <;> simp [eqGuard, erV]) (run_neEr er _) ?_
      cases er with
      | some e =>
        have hc17d : w7.drew.heap[bw1]? = _ := hc17
        have hED : ∀ {w'}, Keeps (fun q => q = bw4) w7.drew w' → ErrT w' := fun hk => by
          obtain ⟨T, fr, hg⟩ := hE
          have hl := lt_of_heap hg
          exact ⟨T, fr, hk.heap (hkf7.heap hg (fun h => h)) (fun e => by omega)⟩
        (repeat first | apply wr_end | apply wc_seq | (apply wc_true; exact rfl))
        refine V.L.wc_drawL (l := _) (V.L.mono1 w7.drew 3 bw4 (.cells (GCl (newC false)).toArray 32 (0, 0)) (.cells (GCl c).toArray 32 (0, 0))) (by kernel_rfl) (by kernel_rfl) ⟨Keeps.refl _ _, hc47⟩ ?_
        apply V.L.ch_step
        focus
          apply V.L.mono_read rfl
          intro w hk
          refine wr_loadAll (cs := GCl c) rfl rfl rfl (hk.heap hc17d (fun e => by omega)) (GCl_len h.len) ?_
          apply wr_nil
          exact ⟨rfl, Keeps.refl _ _⟩
        apply V.L.ch_step
        focus
          apply V.L.mono_read rfl
          intro w hk
          apply wr_move; exact rfl; with_reducible (conv => enter [6, 3]; whnf)
          apply wr_nil
          exact ⟨rfl, Keeps.refl _ _⟩
        apply V.L.ch_step
        focus
          apply V.L.mono_read rfl
          intro w hk
          refine wr_call (vs := [erV (some e)]) rfl (told_ca (some e) w (hED hk)) rfl ?_
          rintro v w' ⟨rfl, hk'⟩
          apply wr_nil
          exact ⟨rfl, hk'⟩
        apply V.L.ch_step
        focus
          apply V.L.mono_st
          intro w hk hb
          refine wr_storeAll (cs := GCl c) rfl rfl rfl (GCl_one h) hb (GCl_len h.len) rfl ?_
          apply wr_nil
          exact ⟨rfl, rfl⟩
        apply V.L.ch_step
        focus
          apply V.L.mono_read rfl
          intro w hk
          apply wr_assign; exact rfl; with_reducible (conv => enter [6, 3]; whnf)
          apply wr_nil
          exact ⟨rfl, Keeps.refl _ _⟩
        refine V.L.ch_nil ?_
        intro w8 hS
        obtain ⟨hk8, hc8⟩ := V.L.mono_end hS (by kernel_rfl)
        (repeat first | (apply wc_ret; try simp only [thenE, inBlockE, bodyQ]))
        exact leaveN (vs := [CliV c, .int .i64 e]) (resv_cells (cs := GCl c) (e := 32) (fr := (0, 0)) rfl rfl hc8 (GCl_len h.len) (resv_tmp rfl resv_nil)) ⟨rfl, hkf7.drew.trans' hk8 (fun i hi e => by omega)⟩
      | none =>
        have hBt : B = true := by
          cases B with
          | true => rfl
          | false => simp [firstO, errOf] at heq
        have hk15 : 1 ≤ k ∧ k ≤ 5 := by have := hBk hBt; unfold typedB at this; simpa using this
        obtain ⟨q, rfl⟩ := Int.eq_ofNat_of_zero_le (show 0 ≤ k by omega)
        have hq6 : q < 6 := by omega
        obtain ⟨t, htq⟩ : ∃ t, c.2[q]? = some t := ⟨c.2[q]'(by rw [h.len]; omega), by simp [h.len, hq6]⟩
        have hto : topicOf c (q : Int) = t := by unfold topicOf; rw [if_pos (hBk hBt), Int.toNat_natCast, htq]; rfl
        have htc : takeC c (q : Int) n = (c.1, c.2.set q (setN t n)) := by unfold takeC; rw [hto, Int.toNat_natCast]
        (repeat first | apply wr_end | apply wc_seq | apply wc_region | apply wc_skip | (apply wr_fieldAddr; iterate 2 exact rfl) | (apply wr_load; (iterate 3 exact rfl); (focus repeat first | with_reducible assumption | exact heap_alloc_same _ _ | exact World.putObj_heap_same (by first | omega | (simp only [World.size_alloc, World.putObj_size, ne_eq]; omega)) | ((first | refine hAl ?_ ?_ | refine hPu ?_ ?_); focus first | omega | (simp only [World.size_alloc, World.putObj_size, ne_eq]; omega))); exact rfl; conv => enter [6, 3]; whnf) | (apply wc_false; exact rfl))
        refine wr_indexArr (i := q) rfl rfl rfl hq6 ?_
        (repeat first | (apply wr_fieldAddr; iterate 2 exact rfl))
        refine wr_store (v := .int .u64 (n : Int)) (u := .int .u64 (t.2.2 : Int)) rfl rfl rfl rfl hc17 (by have := GCl_get (j := 3) htq rfl; simpa using this) ?_
        generalize hw8 : World.putObj w7 _ _ = w8
        have hc18 : w8.heap[bw1]? = some (.cells (GCl (takeC c (q : Int) n)).toArray 32 (0, 0)) := by
          rw [← hw8, htc, show 0 + 1 + q * 4 + 3 = 1 + q * 4 + 3 by omega, GCl_setN htq]
          exact World.putObj_heap_same (lt_of_heap hc17)
        have hk8 : Keeps (· = bw1) w7 w8 := by rw [← hw8]; exact (Keeps.refl _ w7).put _ (fun _ => rfl)
        have hc48 := hk8.heap hc47 (fun e => by omega)
        have hl48 : (takeC c (q : Int) n).2.length = 6 := by rw [htc]; simp [h.len]
        have hone : ∀ u ∈ GCl (takeC c (q : Int) n), u.oneCell' = true := by
          rw [htc]
          exact GCl_one (w := w) ⟨by simp [h.len], fun y hy => by
            rcases List.mem_or_eq_of_mem_set hy with hy | rfl
            · exact h.at' y hy
            · exact ⟨(h.at' t (List.mem_of_getElem? htq)).1, (h.at' t (List.mem_of_getElem? htq)).2.1, hn⟩⟩
        clear hw8
        (repeat first | apply wr_end | apply wc_seq | apply wc_region)
        refine wr_loadAll (cs := GCl (takeC c (q : Int) n)) rfl rfl rfl hc18 (GCl_len hl48) ?_
        refine wr_storeAll (cs := GCl (takeC c (q : Int) n)) rfl rfl rfl hone hc48 (GCl_len hl48) rfl ?_
        (repeat first | (apply wr_assign; exact rfl; with_reducible (conv => enter [6, 3]; whnf)) | apply wr_end | (apply wc_ret; try simp only [thenE, inBlockE, bodyQ]))
        exact leaveN (vs := [CliV (takeC c (q : Int) n), .int .i64 0]) (resv_cells (cs := GCl (takeC c (q : Int) n)) (e := 32) (fr := (0, 0)) rfl rfl (World.putObj_heap_same (lt_of_heap hc48)) (GCl_len hl48) (resv_tmp rfl resv_nil)) ⟨rfl, (hkf7.trans' hk8 (fun i hi e => by omega)).trans' ((Keeps.refl (· = bw4) w8).put _ (fun _ => rfl)) (fun i hi e => by omega)⟩
end Go.Proofs.YtahlhldkcekbfaaGreatDoor
