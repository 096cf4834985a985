/- norialaw09.examples. -/
import Derived.Test.YtfdpnkmchedeeaaDoorNo
namespace Go.Proofs.YtfdpnkmchedeeaaDoor
open Go Go.V Go.RowKit
set_option linter.unusedVariables false
set_option linter.unusedSimpArgs false

theorem ofP_eq {l m : TX} (hm : Rises m) (h : ∀ x, x ∈ m ↔ x ∈ l.filter fun s => decide (nameOk s)) : ofP l = (decide (star ∈ l), m) := by
  refine fine_ext (ofP_fine l) ⟨hm, fun x hx => ?_⟩ rfl fun x => ?_
  · have := (h x).1 hx
    rw [List.mem_filter] at this
    simpa using this.2
  · rw [mem_ofP, h, List.mem_filter]; simp
theorem setsAt_alloc (w : World) (L : List SE) (h : ∀ x ∈ L, SlR w 1 x.2 x.1.2.length (SL x.1.2)) : SetsAt (w.alloc (.cells ((L.map fun x => SetV x.1.1 x.2).flatMap (fun v => v.cells.toList)).toArray 27)) L (.slice (some ⟨w.heap.size, 0, none⟩) L.length L.length) := by
  have e : (L.map fun x => SetV x.1.1 x.2).flatMap (fun v => v.cells.toList) = L.flatMap GSt := by
    rw [List.flatMap_map]; rfl
  have hl : (L.flatMap GSt).length = L.length * 2 := by
    induction L with
    | nil => rfl
    | cons x L ih =>
      rw [List.flatMap_cons, List.length_append, ih (fun y hy => h y (by simp [hy])) (by rw [List.flatMap_map]; rfl)]
      simp [GSt]; omega
  refine ⟨⟨hl, _, _, rfl, Nat.le_refl _, .inr ⟨w.heap.size, 0, _, _, _, rfl, heap_alloc_same _ _, fun j hj => ?_⟩⟩, fun x hx => (h x hx).keep ((Keeps.refl NoB w).alloc _) (fun _ _ h => h)⟩
  rw [e, Nat.zero_add, List.getElem?_toArray]
theorem has_cb {s : PS} {x : TT} {sv : Value} {w : World} (B : Bool) (hB : hasP s x = B) (hx : x.length ≤ 9223372036854775807) (hs : SetR w s sv) (hlen : s.2.length ≤ 8796093022000) :
    Ca Tryd.prog 17 #[sv, S x] w fun v w' => v = .bool B ∧ Keeps NoB w w' := by
  obtain ⟨nv, rfl, h⟩ := hs
  subst hB
  exact has_ca s.1 s.2 x nv w hx h hlen
theorem same_cb {s t : PS} {sv tv : Value} {w : World} (B : Bool) (hB : sameP s t = B) (hs : SetR w s sv) (ht : SetR w t tv) (hsn : s.2.length ≤ 8796093022000) (htn : t.2.length ≤ 8796093022000) :
    Ca Tryd.prog 22 #[sv, tv] w fun v w' => v = .bool B ∧ Keeps NoB w w' := by
  subst hB
  exact same_ca s t sv tv w hs ht hsn htn
theorem same_eq {s t : PS} (h : s = t) : sameP s t = true := (sameP_iff s t).2 h
theorem empty_cb {s : PS} {sv : Value} {w : World} (B : Bool) (hB : (!s.1 && decide (s.2.length = 0)) = B) (hs : SetR w s sv) :
    Ca Tryd.prog 19 #[sv] w fun v w' => v = .bool B ∧ Keeps NoB w w' := by
  obtain ⟨nv, rfl, h⟩ := hs
  subst hB
  exact empty_ca s.1 s.2 nv w h
theorem setR_nil (w : World) : SetR w (false, []) (SetV false (.slice none 0 0)) := ⟨_, rfl, rfl, none, 0, rfl, Nat.le_refl _, .inl ⟨rfl, fun _ => rfl⟩⟩
def exL : TX := [[98], [97], [98], [42], [88]]
theorem ex1 : ofP exL = (true, [[97], [98]]) := by
  rw [ofP_eq (m := [[97], [98]])]
  · rfl
  · unfold Rises; decide
  · intro x
    rw [show exL.filter (fun s => decide (nameOk s)) = [[98], [97], [98]] by decide +kernel]
    simp only [List.mem_cons, List.not_mem_nil, or_false]
    constructor
    · rintro (rfl | rfl) <;> simp
    · rintro (rfl | rfl | rfl) <;> simp
theorem ex2 : ofP [[97]] = (false, [[97]]) := by
  rw [ofP_eq (m := [[97]])]
  · rfl
  · unfold Rises; decide
  · intro x
    rw [show ([[97]] : TX).filter (fun s => decide (nameOk s)) = [[97]] by decide +kernel]
theorem ex3 : unionP [(true, [[97], [98]]), (false, [[97]])] = (true, [[97], [98]]) := by
  refine fine_ext (unionP_fine ?_) ?_ rfl fun x => ?_
  · have h1 := ofP_fine exL
    have h2 := ofP_fine [[97]]
    rw [ex1] at h1
    rw [ex2] at h2
    intro s hs
    simp only [List.mem_cons, List.not_mem_nil, or_false] at hs
    rcases hs with rfl | rfl
    · exact h1
    · exact h2
  · have h1 := ofP_fine exL
    rw [ex1] at h1
    exact h1
  · rw [mem_unionP]
    constructor
    · rintro ⟨s, hs, hx⟩
      simp only [List.mem_cons, List.not_mem_nil, or_false] at hs
      rcases hs with rfl | rfl
      · exact hx
      · simp at hx; simp [hx]
    · exact fun hx => ⟨_, by simp, hx⟩
set_option maxRecDepth 100000 in
set_option maxHeartbeats 4000000 in
theorem examples_ca (w : World) : Ca Tryd.prog 9 #[] w fun v w' => v = .bool true ∧ Keeps NoB w w' := by
  refine ca_of_body (args := []) Tryd.func9 rfl (by kernel_rfl) ?_
  (repeat first | (apply wr_assign; exact rfl; with_reducible (conv => enter [6, 3]; whnf)) | apply wr_end | apply wc_seq | apply wc_region)
  refine wr_buildSlice (vs := exL.map S) rfl rfl (by intro v hv; simp [exL] at hv; rcases hv with rfl | rfl | rfl | rfl | rfl <;> rfl) rfl (by decide) (by decide) (by decide) ?_
  refine wr_name ?_
  intro w1 hw1
  have hk1 : Keeps NoB w w1 := by rw [hw1]; exact (Keeps.refl NoB w).alloc _
  have hs1 : SlR w1 1 (.slice (some ⟨w.heap.size, 0, none⟩) 5 5) exL.length (SL exL) := ⟨rfl, _, _, rfl, by decide, .inr ⟨_, 0, _, _, _, rfl, by rw [hw1]; exact heap_alloc_same _ _, fun j hj => by rw [Nat.zero_add, List.getElem?_toArray]; rfl⟩⟩
  clear hw1
  refine wr_call (vs := [.slice (some ⟨w.heap.size, 0, none⟩) 5 5]) rfl (of_ca exL _ w1 hs1 (by decide) (by decide)) rfl ?_
  rintro v w2 ⟨hR2, hk2⟩
  rw [ex1] at hR2
  obtain ⟨v2, rfl, hs2⟩ := hR2
  obtain ⟨a2, c2, rfl, _, hat2⟩ := slr_strs hs2
  obtain ⟨bb, oo, rfl, cur2, e2, fr2, hb2, hr2⟩ := hat2 (by decide)
  change SlR w2 1 (.slice (some ⟨bb, oo, none⟩) 2 c2) 2 _ at hs2
  (repeat first | (apply wr_alloc; exact rfl))
  refine wr_storeAll (cs := [.bool true, .slice (some ⟨bb, oo, none⟩) 2 c2]) rfl rfl rfl (by intro u hu; simp at hu; rcases hu with rfl | rfl <;> rfl) (heap_alloc_same _ _) rfl rfl ?_
  refine wr_name ?_
  intro w3 hw3
  obtain ⟨b3, hb3⟩ : ∃ b3, b3 = w2.heap.size := ⟨_, rfl⟩
  have hk3 : Keeps NoB w2 w3 := by rw [hw3]; exact ((Keeps.refl NoB w2).alloc _).put _ (fun h => by omega)
  have hc3 : w3.heap[b3]? = some (.cells #[.bool true, .slice (some ⟨bb, oo, none⟩) 2 c2] 27 (0, 0)) := by rw [hw3, hb3]; exact World.putObj_heap_same (by simp)
  rw [← hb3]
  clear hw3
  (repeat first | apply wr_end | apply wc_seq | apply wc_region)
  refine wr_buildSlice (vs := [S [97]]) rfl rfl (by intro v hv; simp at hv; subst hv; rfl) rfl (by decide) (by decide) (by decide) ?_
  refine wr_name ?_
  intro w4 hw4
  have hk4 : Keeps NoB w3 w4 := by rw [hw4]; exact (Keeps.refl NoB w3).alloc _
  have hs4 : SlR w4 1 (.slice (some ⟨w3.heap.size, 0, none⟩) 1 1) ([[97]] : TX).length (SL [[97]]) := ⟨rfl, _, _, rfl, by decide, .inr ⟨_, 0, _, _, _, rfl, by rw [hw4]; exact heap_alloc_same _ _, fun j hj => by rw [Nat.zero_add, List.getElem?_toArray]; rfl⟩⟩
  clear hw4
  refine wr_call (vs := [.slice (some ⟨w3.heap.size, 0, none⟩) 1 1]) rfl (of_ca [[97]] _ w4 hs4 (by decide) (by decide)) rfl ?_
  rintro v w5 ⟨hR5, hk5⟩
  rw [ex2] at hR5
  obtain ⟨v5, rfl, hs5⟩ := hR5
  obtain ⟨a5, c5, rfl, _, _⟩ := slr_strs hs5
  change SlR w5 1 (.slice a5 1 c5) 1 _ at hs5
  (repeat first | (apply wr_alloc; exact rfl))
  refine wr_storeAll (cs := [.bool false, .slice a5 1 c5]) rfl rfl rfl (by intro u hu; simp at hu; rcases hu with rfl | rfl <;> rfl) (heap_alloc_same _ _) rfl rfl ?_
  refine wr_name ?_
  intro w6 hw6
  obtain ⟨b6, hb6⟩ : ∃ b6, b6 = w5.heap.size := ⟨_, rfl⟩
  have hk6 : Keeps NoB w5 w6 := by rw [hw6]; exact ((Keeps.refl NoB w5).alloc _).put _ (fun h => by omega)
  have hc6 : w6.heap[b6]? = some (.cells #[.bool false, .slice a5 1 c5] 27 (0, 0)) := by rw [hw6, hb6]; exact World.putObj_heap_same (by simp)
  rw [← hb6]
  clear hw6
  have hk36 := (hk4.trans hk5).trans hk6
  have hc36 := hk36.heap hc3 (fun h => h)
  have hkw6 := (hk1.trans (hk2.trans hk3)).trans hk36
  have hb26 := (hk3.trans hk36).heap hb2 (fun h => h)
  have hs26 := hs2.keep (hk3.trans hk36) (fun _ _ h => h)
  have hs56 := hs5.keep hk6 (fun _ _ h => h)
  have hk0 : ∀ {w'}, Keeps NoB w6.drew w' → Keeps NoB w6 w' := fun hk => (Keeps.refl NoB w6).drew.trans hk
  have hR1 : ∀ {w'}, Keeps NoB w6.drew w' → SetR w' (true, [[97], [98]]) (SetV true (.slice (some ⟨bb, oo, none⟩) 2 c2)) := fun hk => ⟨_, rfl, hs26.keep (hk0 hk) (fun _ _ h => h)⟩
  have hR2 : ∀ {w'}, Keeps NoB w6.drew w' → SetR w' (false, [[97]]) (SetV false (.slice a5 1 c5)) := fun hk => ⟨_, rfl, hs56.keep (hk0 hk) (fun _ _ h => h)⟩
  (repeat first | apply wr_end | apply wc_seq)
  refine wc_drawP (l := _) 52 _ (by kernel_rfl) (by kernel_rfl) rfl (by kernel_rfl) (by kernel_rfl) (by decide) ?_
  apply chP_pure
  focus
    intro xx w' hk hF
    refine wr_fieldAddr rfl rfl ?_
    apply wr_nil
    exact ⟨rfl, Keeps.refl _ _⟩
  focus (intro xx yy h; rfl)
  focus kernel_rfl
  apply chP_pure
  focus
    intro xx w' hk hF
    refine wr_load (v := .bool true) rfl rfl rfl ((hk0 hk).heap hc36 (fun h => h)) rfl ?_
    apply wr_nil
    exact ⟨rfl, Keeps.refl _ _⟩
  focus (intro xx yy h; rfl)
  focus kernel_rfl
  apply chP_pure
  focus
    intro xx w' hk hF
    apply wr_move; exact rfl; with_reducible (conv => enter [6, 3]; whnf)
    apply wr_nil
    exact ⟨rfl, Keeps.refl _ _⟩
  focus (intro xx yy h; rfl)
  focus kernel_rfl
  apply chP_pure
  focus
    intro xx w' hk hF
    refine wr_fieldAddr rfl rfl ?_
    apply wr_nil
    exact ⟨rfl, Keeps.refl _ _⟩
  focus (intro xx yy h; rfl)
  focus kernel_rfl
  apply chP_pure
  focus
    intro xx w' hk hF
    refine wr_load (v := .slice (some ⟨bb, oo, none⟩) 2 c2) rfl rfl rfl ((hk0 hk).heap hc36 (fun h => h)) rfl ?_
    apply wr_nil
    exact ⟨rfl, Keeps.refl _ _⟩
  focus (intro xx yy h; rfl)
  focus kernel_rfl
  apply chP_pure
  focus
    intro xx w' hk hF
    apply wr_len_slice; iterate 2 exact rfl
    apply wr_nil
    exact ⟨rfl, Keeps.refl _ _⟩
  focus (intro xx yy h; rfl)
  focus kernel_rfl
  apply chP_pure
  focus
    intro xx w' hk hF
    apply wr_cmp; (iterate 3 exact rfl); exact cmpT (by dsimp only [cmpP]; first | done | omega)
    apply wr_nil
    exact ⟨rfl, Keeps.refl _ _⟩
  focus (intro xx yy h; rfl)
  focus kernel_rfl
  apply chP_pure
  focus
    intro xx w' hk hF
    apply wr_pick (t := true); (iterate 2 exact rfl); with_reducible (conv => enter [6, 3]; whnf)
    apply wr_nil
    exact ⟨rfl, Keeps.refl _ _⟩
  focus (intro xx yy h; rfl)
  focus kernel_rfl
  apply chP_pure
  focus
    intro xx w' hk hF
    apply wr_move; exact rfl; with_reducible (conv => enter [6, 3]; whnf)
    apply wr_nil
    exact ⟨rfl, Keeps.refl _ _⟩
  focus (intro xx yy h; rfl)
  focus kernel_rfl
  apply chP_pure
  focus
    intro xx w' hk hF
    refine wr_fieldAddr rfl rfl ?_
    apply wr_nil
    exact ⟨rfl, Keeps.refl _ _⟩
  focus (intro xx yy h; rfl)
  focus kernel_rfl
  apply chP_pure
  focus
    intro xx w' hk hF
    refine wr_load (v := .slice (some ⟨bb, oo, none⟩) 2 c2) rfl rfl rfl ((hk0 hk).heap hc36 (fun h => h)) rfl ?_
    apply wr_nil
    exact ⟨rfl, Keeps.refl _ _⟩
  focus (intro xx yy h; rfl)
  focus kernel_rfl
  apply chP_pure
  focus
    intro xx w' hk hF
    refine wr_indexAddr (i := 0) rfl rfl rfl (by decide) ?_
    apply wr_nil
    exact ⟨rfl, Keeps.refl _ _⟩
  focus (intro xx yy h; rfl)
  focus kernel_rfl
  apply chP_pure
  focus
    intro xx w' hk hF
    refine wr_load (v := S [97]) rfl rfl rfl ((hk0 hk).heap hb26 (fun h => h)) (hr2 0 [97] rfl) ?_
    apply wr_nil
    exact ⟨rfl, Keeps.refl _ _⟩
  focus (intro xx yy h; rfl)
  focus kernel_rfl
  apply chP_pure
  focus
    intro xx w' hk hF
    refine wr_streqc (a := [97]) (b := [97]) (c := true) rfl rfl rfl (by decide) ?_
    apply wr_nil
    exact ⟨rfl, Keeps.refl _ _⟩
  focus (intro xx yy h; rfl)
  focus kernel_rfl
  apply chP_pure
  focus
    intro xx w' hk hF
    apply wr_pick (t := true); (iterate 2 exact rfl); with_reducible (conv => enter [6, 3]; whnf)
    apply wr_nil
    exact ⟨rfl, Keeps.refl _ _⟩
  focus (intro xx yy h; rfl)
  focus kernel_rfl
  apply chP_pure
  focus
    intro xx w' hk hF
    apply wr_move; exact rfl; with_reducible (conv => enter [6, 3]; whnf)
    apply wr_nil
    exact ⟨rfl, Keeps.refl _ _⟩
  focus (intro xx yy h; rfl)
  focus kernel_rfl
  apply chP_pure
  focus
    intro xx w' hk hF
    refine wr_loadAll (cs := [.bool true, .slice (some ⟨bb, oo, none⟩) 2 c2]) rfl rfl rfl ((hk0 hk).heap hc36 (fun h => h)) rfl ?_
    apply wr_nil
    exact ⟨rfl, Keeps.refl _ _⟩
  focus (intro xx yy h; rfl)
  focus kernel_rfl
  apply chP_pure
  focus
    intro xx w' hk hF
    refine wr_call (vs := [SetV true (.slice (some ⟨bb, oo, none⟩) 2 c2), S [122, 122]]) rfl (has_cb true (by decide +kernel) (by decide) (hR1 hk) (by decide)) rfl ?_
    rintro v w'' ⟨rfl, hkc⟩
    apply wr_nil
    exact ⟨rfl, hkc⟩
  focus (intro xx yy h; rfl)
  focus kernel_rfl
  apply chP_pure
  focus
    intro xx w' hk hF
    apply wr_pick (t := true); (iterate 2 exact rfl); with_reducible (conv => enter [6, 3]; whnf)
    apply wr_nil
    exact ⟨rfl, Keeps.refl _ _⟩
  focus (intro xx yy h; rfl)
  focus kernel_rfl
  apply chP_pure
  focus
    intro xx w' hk hF
    apply wr_move; exact rfl; with_reducible (conv => enter [6, 3]; whnf)
    apply wr_nil
    exact ⟨rfl, Keeps.refl _ _⟩
  focus (intro xx yy h; rfl)
  focus kernel_rfl
  apply chP_pure
  focus
    intro xx w' hk hF
    refine wr_loadAll (cs := [.bool true, .slice (some ⟨bb, oo, none⟩) 2 c2]) rfl rfl rfl ((hk0 hk).heap hc36 (fun h => h)) rfl ?_
    apply wr_nil
    exact ⟨rfl, Keeps.refl _ _⟩
  focus (intro xx yy h; rfl)
  focus kernel_rfl
  apply chP_pure
  focus
    intro xx w' hk hF
    refine wr_call (vs := [SetV true (.slice (some ⟨bb, oo, none⟩) 2 c2), S [88]]) rfl (has_cb false (by decide +kernel) (by decide) (hR1 hk) (by decide)) rfl ?_
    rintro v w'' ⟨rfl, hkc⟩
    apply wr_nil
    exact ⟨rfl, hkc⟩
  focus (intro xx yy h; rfl)
  focus kernel_rfl
  apply chP_pure
  focus
    intro xx w' hk hF
    apply wr_not; iterate 2 exact rfl
    apply wr_nil
    exact ⟨rfl, Keeps.refl _ _⟩
  focus (intro xx yy h; rfl)
  focus kernel_rfl
  apply chP_pure
  focus
    intro xx w' hk hF
    apply wr_pick (t := true); (iterate 2 exact rfl); with_reducible (conv => enter [6, 3]; whnf)
    apply wr_nil
    exact ⟨rfl, Keeps.refl _ _⟩
  focus (intro xx yy h; rfl)
  focus kernel_rfl
  apply chP_pure
  focus
    intro xx w' hk hF
    apply wr_move; exact rfl; with_reducible (conv => enter [6, 3]; whnf)
    apply wr_nil
    exact ⟨rfl, Keeps.refl _ _⟩
  focus (intro xx yy h; rfl)
  focus kernel_rfl
  apply chP_pure
  focus
    intro xx w' hk hF
    refine wr_loadAll (cs := [.bool false, .slice a5 1 c5]) rfl rfl rfl ((hk0 hk).heap hc6 (fun h => h)) rfl ?_
    apply wr_nil
    exact ⟨rfl, Keeps.refl _ _⟩
  focus (intro xx yy h; rfl)
  focus kernel_rfl
  apply chP_pure
  focus
    intro xx w' hk hF
    refine wr_call (vs := [SetV false (.slice a5 1 c5), S [98]]) rfl (has_cb false (by decide +kernel) (by decide) (hR2 hk) (by decide)) rfl ?_
    rintro v w'' ⟨rfl, hkc⟩
    apply wr_nil
    exact ⟨rfl, hkc⟩
  focus (intro xx yy h; rfl)
  focus kernel_rfl
  apply chP_pure
  focus
    intro xx w' hk hF
    apply wr_not; iterate 2 exact rfl
    apply wr_nil
    exact ⟨rfl, Keeps.refl _ _⟩
  focus (intro xx yy h; rfl)
  focus kernel_rfl
  apply chP_pure
  focus
    intro xx w' hk hF
    apply wr_pick (t := true); (iterate 2 exact rfl); with_reducible (conv => enter [6, 3]; whnf)
    apply wr_nil
    exact ⟨rfl, Keeps.refl _ _⟩
  focus (intro xx yy h; rfl)
  focus kernel_rfl
  apply chP_pure
  focus
    intro xx w' hk hF
    apply wr_move; exact rfl; with_reducible (conv => enter [6, 3]; whnf)
    apply wr_nil
    exact ⟨rfl, Keeps.refl _ _⟩
  focus (intro xx yy h; rfl)
  focus kernel_rfl
  apply chP_pure
  focus
    intro xx w' hk hF
    refine wr_loadAll (cs := [.bool false, .slice a5 1 c5]) rfl rfl rfl ((hk0 hk).heap hc6 (fun h => h)) rfl ?_
    apply wr_nil
    exact ⟨rfl, Keeps.refl _ _⟩
  focus (intro xx yy h; rfl)
  focus kernel_rfl
  apply chP_pure
  focus
    intro xx w' hk hF
    refine wr_call (vs := [SetV false (.slice a5 1 c5), S [97]]) rfl (has_cb true (by decide +kernel) (by decide) (hR2 hk) (by decide)) rfl ?_
    rintro v w'' ⟨rfl, hkc⟩
    apply wr_nil
    exact ⟨rfl, hkc⟩
  focus (intro xx yy h; rfl)
  focus kernel_rfl
  apply chP_pure
  focus
    intro xx w' hk hF
    apply wr_pick (t := true); (iterate 2 exact rfl); with_reducible (conv => enter [6, 3]; whnf)
    apply wr_nil
    exact ⟨rfl, Keeps.refl _ _⟩
  focus (intro xx yy h; rfl)
  focus kernel_rfl
  apply chP_pure
  focus
    intro xx w' hk hF
    apply wr_move; exact rfl; with_reducible (conv => enter [6, 3]; whnf)
    apply wr_nil
    exact ⟨rfl, Keeps.refl _ _⟩
  focus (intro xx yy h; rfl)
  focus kernel_rfl
  apply chP_pure
  focus
    intro xx w' hk hF
    refine wr_loadAll (cs := [.bool true, .slice (some ⟨bb, oo, none⟩) 2 c2]) rfl rfl rfl ((hk0 hk).heap hc36 (fun h => h)) rfl ?_
    apply wr_nil
    exact ⟨rfl, Keeps.refl _ _⟩
  focus (intro xx yy h; rfl)
  focus kernel_rfl
  apply chP_pure
  focus
    intro xx w' hk hF
    refine wr_loadAll (cs := [.bool false, .slice a5 1 c5]) rfl rfl rfl ((hk0 hk).heap hc6 (fun h => h)) rfl ?_
    apply wr_nil
    exact ⟨rfl, Keeps.refl _ _⟩
  focus (intro xx yy h; rfl)
  focus kernel_rfl
  refine chP_fact (fun y => y) (fun y w' => SetsAt w' [((true, [[97], [98]]), .slice (some ⟨bb, oo, none⟩) 2 c2), ((false, [[97]]), .slice a5 1 c5)] y) (fun y w' w'' h k => h.keep k) ?_ ?_
  focus
    intro xx w' hk hF
    refine wr_buildSlice (vs := [SetV true (.slice (some ⟨bb, oo, none⟩) 2 c2), SetV false (.slice a5 1 c5)]) rfl rfl (by intro v hv; simp at hv; rcases hv with rfl | rfl <;> rfl) rfl (by decide) (by decide) (by decide) ?_
    apply wr_nil
    exact ⟨_, rfl, setsAt_alloc w' [((true, [[97], [98]]), .slice (some ⟨bb, oo, none⟩) 2 c2), ((false, [[97]]), .slice a5 1 c5)] (by intro x hx; simp only [List.mem_cons, List.not_mem_nil, or_false] at hx; rcases hx with rfl | rfl; exact hs26.keep (hk0 hk) (fun _ _ h => h); exact hs56.keep (hk0 hk) (fun _ _ h => h)), (Keeps.refl NoB w').alloc _⟩
  refine chP_fact (fun y => y) (fun y w' => SetR w' (unionP [(true, [[97], [98]]), (false, [[97]])]) y) (fun y w' w'' h k => h.keep k) ?_ ?_
  focus
    intro xx w' hk hF
    refine wr_call (vs := [xx 36]) rfl (union_ca _ _ w' (hF 36 (by kernel_rfl)) (by simp) (by simp [uN])) rfl ?_
    rintro v w'' ⟨hR, hkc⟩
    apply wr_nil
    exact ⟨v, rfl, hR, hkc⟩
  apply chP_pure
  focus
    intro xx w' hk hF
    refine wr_loadAll (cs := [.bool true, .slice (some ⟨bb, oo, none⟩) 2 c2]) rfl rfl rfl ((hk0 hk).heap hc36 (fun h => h)) rfl ?_
    apply wr_nil
    exact ⟨rfl, Keeps.refl _ _⟩
  focus (intro xx yy h; rfl)
  focus kernel_rfl
  apply chP_pure
  focus
    intro xx w' hk hF
    refine wr_call (vs := [xx 37, SetV true (.slice (some ⟨bb, oo, none⟩) 2 c2)]) rfl (same_cb true (same_eq ex3) (hF 37 (by kernel_rfl)) (hR1 hk) (by rw [ex3]; decide) (by decide)) rfl ?_
    rintro v w'' ⟨rfl, hkc⟩
    apply wr_nil
    exact ⟨rfl, hkc⟩
  focus (intro xx yy h; rfl)
  focus kernel_rfl
  apply chP_pure
  focus
    intro xx w' hk hF
    apply wr_pick (t := true); (iterate 2 exact rfl); with_reducible (conv => enter [6, 3]; whnf)
    apply wr_nil
    exact ⟨rfl, Keeps.refl _ _⟩
  focus (intro xx yy h; rfl)
  focus kernel_rfl
  apply chP_pure
  focus
    intro xx w' hk hF
    apply wr_move; exact rfl; with_reducible (conv => enter [6, 3]; whnf)
    apply wr_nil
    exact ⟨rfl, Keeps.refl _ _⟩
  focus (intro xx yy h; rfl)
  focus kernel_rfl
  apply chP_pure
  focus
    intro xx w' hk hF
    refine wr_loadAll (cs := [.bool true, .slice (some ⟨bb, oo, none⟩) 2 c2]) rfl rfl rfl ((hk0 hk).heap hc36 (fun h => h)) rfl ?_
    apply wr_nil
    exact ⟨rfl, Keeps.refl _ _⟩
  focus (intro xx yy h; rfl)
  focus kernel_rfl
  refine chP_fact (fun y => y) (fun y w' => SlR w' 1 y 3 (SL [[42], [97], [98]])) (fun y w' w'' h k => h.keep k (fun _ _ h => h)) ?_ ?_
  focus
    intro xx w' hk hF
    refine wr_call (vs := [SetV true (.slice (some ⟨bb, oo, none⟩) 2 c2)]) rfl (list_ca _ _ w' (hR1 hk) (by decide)) rfl ?_
    rintro v w'' ⟨hR, hkc⟩
    apply wr_nil
    exact ⟨v, rfl, hR, hkc⟩
  apply chP_pure
  focus
    intro xx w' hk hF
    have h1 : SlR w' 1 (xx 43) 3 (SL [[42], [97], [98]]) := hF 43 (by kernel_rfl)
    obtain ⟨a7, c7, e7, _, _⟩ := h1.shape
    refine wr_len_slice (a := a7) (n := 3) (c := c7) rfl (by exact e7) ?_
    apply wr_nil
    exact ⟨rfl, Keeps.refl _ _⟩
  focus (intro xx yy h; rfl)
  focus kernel_rfl
  apply chP_pure
  focus
    intro xx w' hk hF
    apply wr_cmp; (iterate 3 exact rfl); exact cmpT (by dsimp only [cmpP]; first | done | omega)
    apply wr_nil
    exact ⟨rfl, Keeps.refl _ _⟩
  focus (intro xx yy h; rfl)
  focus kernel_rfl
  apply chP_pure
  focus
    intro xx w' hk hF
    apply wr_pick (t := true); (iterate 2 exact rfl); with_reducible (conv => enter [6, 3]; whnf)
    apply wr_nil
    exact ⟨rfl, Keeps.refl _ _⟩
  focus (intro xx yy h; rfl)
  focus kernel_rfl
  apply chP_pure
  focus
    intro xx w' hk hF
    apply wr_move; exact rfl; with_reducible (conv => enter [6, 3]; whnf)
    apply wr_nil
    exact ⟨rfl, Keeps.refl _ _⟩
  focus (intro xx yy h; rfl)
  focus kernel_rfl
  apply chP_pure
  focus
    intro xx w' hk hF
    refine wr_build (ps := []) (cs := [.bool false, .slice none 0 0]) rfl rfl rfl rfl ?_
    apply wr_nil
    exact ⟨rfl, Keeps.refl _ _⟩
  focus (intro xx yy h; rfl)
  focus kernel_rfl
  apply chP_pure
  focus
    intro xx w' hk hF
    refine wr_call (vs := [SetV false (.slice none 0 0)]) rfl (empty_cb true (by decide) (setR_nil w')) rfl ?_
    rintro v w'' ⟨rfl, hkc⟩
    apply wr_nil
    exact ⟨rfl, hkc⟩
  focus (intro xx yy h; rfl)
  focus kernel_rfl
  apply chP_pure
  focus
    intro xx w' hk hF
    apply wr_pick (t := true); (iterate 2 exact rfl); with_reducible (conv => enter [6, 3]; whnf)
    apply wr_nil
    exact ⟨rfl, Keeps.refl _ _⟩
  focus (intro xx yy h; rfl)
  focus kernel_rfl
  apply chP_pure
  focus
    intro xx w' hk hF
    apply wr_assign; exact rfl; with_reducible (conv => enter [6, 3]; whnf)
    apply wr_nil
    exact ⟨rfl, Keeps.refl _ _⟩
  focus (intro xx yy h; rfl)
  focus kernel_rfl
  refine chP_nil ?_
  intro xx w7 hk7 hF
  (repeat first | apply wr_end | (apply wc_ret; try simp only [thenE, inBlockE, bodyQ]))
  exact leave1 (v := .bool true) rfl rfl ⟨rfl, hkw6.trans (hk0 hk7)⟩
end Go.Proofs.YtfdpnkmchedeeaaDoor
