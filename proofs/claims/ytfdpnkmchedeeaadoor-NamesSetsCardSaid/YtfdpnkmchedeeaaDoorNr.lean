/- NamesUnion: the walk. -/
import Derived.Test.YtfdpnkmchedeeaaDoorNq
namespace Go.Proofs.YtfdpnkmchedeeaaDoor
open Go Go.V Go.RowKit
set_option linter.unusedVariables false
set_option linter.unusedSimpArgs false

theorem setsAt_nil (w : World) : SetsAt w [] (.slice none 0 0) := ⟨⟨rfl, none, 0, rfl, Nat.le_refl _, .inl ⟨rfl, fun _ => rfl⟩⟩, fun x hx => by cases hx⟩
def unTab : TX := [[97], [98], [99], [100], [101], [102, 47, 103], [104, 45, 49], [110, 111, 110, 101], [88]]
def unOf (x : Nat) : TT := unTab.getD (x % 9) []
theorem unOf_ok (x : Nat) : (unOf x).length ≤ 9223372036854775807 := by
  have h : ∀ i, i < 9 → (unTab.getD i []).length ≤ 9223372036854775807 := by decide
  exact h (x % 9) (Nat.mod_lt _ (by decide))
set_option maxRecDepth 100000 in
set_option maxHeartbeats 8000000 in
theorem union_law (l m : List Nat) (lv mv : Value) (n : Nat) (w : World) (hl : SlR w 1 lv l.length (IB l)) (hm : SlR w 1 mv m.length (IB m)) (hl8 : ∀ x ∈ l, x < 256) (hm8 : ∀ x ∈ m, x < 256) (hn8 : n < 256) :
    Ca Tryd.prog 4 #[lv, mv, .int .u8 (n : Int)] w fun v w' => v = .bool true ∧ Keeps NoB w w' := by
  refine ca_of_body (args := [lv, mv, .int .u8 (n : Int)]) Tryd.func4 rfl (by kernel_rfl) ?_
  (repeat first | (apply wr_assign; exact rfl; with_reducible (conv => enter [6, 3]; whnf)) | apply wr_end | apply wc_seq | apply wc_region)
  refine wr_call (vs := []) rfl (examples_ca w) rfl ?_
  rintro v w0 ⟨rfl, hk0w⟩
  (repeat first | (apply wr_move; exact rfl; with_reducible (conv => enter [6, 3]; whnf)) | (apply wr_assign; exact rfl; with_reducible (conv => enter [6, 3]; whnf)) | apply wr_end | apply wc_seq | apply wc_region | apply wc_skip | (apply wr_not; iterate 2 exact rfl) | (apply wc_false; exact rfl))
  refine wr_call (vs := [lv]) rfl (few_ca l lv w0 (hl.keep hk0w (fun _ _ h => h)) hl8) rfl ?_
  rintro v waf ⟨ho, hkaf⟩
  skip
  refine wr_call (vs := [v]) rfl (of_ca (fewF l) v waf (SlR.of_own ho) (Nat.le_trans (fewF_le l) (by decide)) (fewF_ok l)) rfl ?_
  rintro v wao ⟨hR, hkao⟩
  have hfa := ofP_fine (fewF l)
  have hla := Nat.le_trans (ofP_le (fewF l)) (fewF_le l)
  have hma := hkaf.trans hkao
  obtain ⟨aQ, hae⟩ : ∃ s, s = ofP (fewF l) := ⟨_, rfl⟩
  rw [← hae] at hR
  obtain ⟨aA, al⟩ := aQ
  obtain ⟨av, rfl, har⟩ := hR
  dsimp only at har
  obtain ⟨an, ac, rfl, _, _⟩ := slr_strs har
  (repeat first | (apply wr_alloc; exact rfl))
  refine wr_storeAll (cs := [.bool aA, .slice an al.length ac]) rfl rfl rfl (by intro u hu; simp at hu; rcases hu with rfl | rfl <;> rfl) (heap_alloc_same _ _) rfl rfl ?_
  refine wr_name ?_
  intro wa hwa
  obtain ⟨ba, hba⟩ : ∃ ba, ba = wao.heap.size := ⟨_, rfl⟩
  have hka : Keeps NoB wao wa := by rw [hwa]; exact ((Keeps.refl NoB wao).alloc _).put _ (fun h => by omega)
  have hca : wa.heap[ba]? = some (.cells #[.bool aA, .slice an al.length ac] 27 (0, 0)) := by rw [hwa, hba]; exact World.putObj_heap_same (by simp)
  rw [← hba]
  clear hwa
  replace har := har.keep hka (fun _ _ h => h)
  have hkwa := hk0w.trans (hma.trans hka)
  (repeat first | (apply wr_move; exact rfl; with_reducible (conv => enter [6, 3]; whnf)) | apply wr_end | apply wc_seq | apply wc_region)
  refine wr_call (vs := [mv]) rfl (few_ca m mv wa (hm.keep hkwa (fun _ _ h => h)) hm8) rfl ?_
  rintro v wbf ⟨ho, hkbf⟩
  skip
  refine wr_call (vs := [v]) rfl (of_ca (fewF m) v wbf (SlR.of_own ho) (Nat.le_trans (fewF_le m) (by decide)) (fewF_ok m)) rfl ?_
  rintro v wbo ⟨hR, hkbo⟩
  have hfb := ofP_fine (fewF m)
  have hlb := Nat.le_trans (ofP_le (fewF m)) (fewF_le m)
  have hmb := hkbf.trans hkbo
  obtain ⟨bQ, hbe⟩ : ∃ s, s = ofP (fewF m) := ⟨_, rfl⟩
  rw [← hbe] at hR
  obtain ⟨bA, bl⟩ := bQ
  obtain ⟨bv, rfl, hbr⟩ := hR
  dsimp only at hbr
  obtain ⟨bn, bc, rfl, _, _⟩ := slr_strs hbr
  (repeat first | (apply wr_alloc; exact rfl))
  refine wr_storeAll (cs := [.bool bA, .slice bn bl.length bc]) rfl rfl rfl (by intro u hu; simp at hu; rcases hu with rfl | rfl <;> rfl) (heap_alloc_same _ _) rfl rfl ?_
  refine wr_name ?_
  intro wb hwb
  obtain ⟨bb, hbb⟩ : ∃ bb, bb = wbo.heap.size := ⟨_, rfl⟩
  have hkb : Keeps NoB wbo wb := by rw [hwb]; exact ((Keeps.refl NoB wbo).alloc _).put _ (fun h => by omega)
  have hcb : wb.heap[bb]? = some (.cells #[.bool bA, .slice bn bl.length bc] 27 (0, 0)) := by rw [hwb, hbb]; exact World.putObj_heap_same (by simp)
  rw [← hbb]
  clear hwb
  replace hbr := hbr.keep hkb (fun _ _ h => h)
  have hkab := hmb.trans hkb
  have hkwb := hkwa.trans hkab
  replace har := har.keep hkab (fun _ _ h => h)
  replace hca := hkab.heap hca (fun h => h)
  rw [← hae] at hfa hla
  rw [← hbe] at hfb hlb
  dsimp only at hla hlb
  (repeat first | apply wr_end | apply wc_seq | apply wc_region)
  refine wr_loadAll (cs := [.bool aA, .slice an al.length ac]) rfl rfl rfl hca rfl ?_
  refine wr_loadAll (cs := [.bool bA, .slice bn bl.length bc]) rfl rfl rfl hcb rfl ?_
  refine wr_buildSlice (vs := [SetV aA (.slice an al.length ac), SetV bA (.slice bn bl.length bc)]) rfl rfl (by intro v hv; simp at hv; rcases hv with rfl | rfl <;> rfl) rfl (by decide) (by decide) (by decide) ?_
  refine wr_name ?_
  intro w1 hw1
  have hk1 : Keeps NoB wb w1 := by rw [hw1]; exact (Keeps.refl NoB wb).alloc _
  have hS1 : SetsAt w1 [((aA, al), .slice an al.length ac), ((bA, bl), .slice bn bl.length bc)] (.slice (some ⟨wb.heap.size, 0, none⟩) 2 2) := by
    rw [hw1]
    refine setsAt_alloc wb [((aA, al), .slice an al.length ac), ((bA, bl), .slice bn bl.length bc)] ?_
    intro x hx
    simp only [List.mem_cons, List.not_mem_nil, or_false] at hx
    rcases hx with rfl | rfl
    · exact har
    · exact hbr
  clear hw1
  refine wr_call (vs := [.slice (some ⟨wb.heap.size, 0, none⟩) 2 2]) rfl (union_ca _ _ w1 hS1 (by simp) (by simp [uN]; omega)) rfl ?_
  rintro v w2 ⟨hR, hk2⟩
  replace hR : SetR w2 (unionP [(aA, al), (bA, bl)]) v := hR
  obtain ⟨uQ, hue⟩ : ∃ s, s = unionP [(aA, al), (bA, bl)] := ⟨_, rfl⟩
  rw [← hue] at hR
  obtain ⟨uA, ul⟩ := uQ
  obtain ⟨uv, rfl, hur⟩ := hR
  dsimp only at hur
  obtain ⟨un, uc, rfl, _, _⟩ := slr_strs hur
  (repeat first | (apply wr_alloc; exact rfl))
  refine wr_storeAll (cs := [.bool uA, .slice un ul.length uc]) rfl rfl rfl (by intro u hu; simp at hu; rcases hu with rfl | rfl <;> rfl) (heap_alloc_same _ _) rfl rfl ?_
  refine wr_name ?_
  intro wu hwu
  obtain ⟨bu, hbu⟩ : ∃ bu, bu = w2.heap.size := ⟨_, rfl⟩
  have hku : Keeps NoB w2 wu := by rw [hwu]; exact ((Keeps.refl NoB w2).alloc _).put _ (fun h => by omega)
  have hcu : wu.heap[bu]? = some (.cells #[.bool uA, .slice un ul.length uc] 27 (0, 0)) := by rw [hwu, hbu]; exact World.putObj_heap_same (by simp)
  rw [← hbu]
  clear hwu
  replace hur := hur.keep hku (fun _ _ h => h)
  have hkbu := (hk1.trans hk2).trans hku
  have hkwu := hkwb.trans hkbu
  replace har := har.keep hkbu (fun _ _ h => h)
  replace hca := hkbu.heap hca (fun h => h)
  replace hbr := hbr.keep hkbu (fun _ _ h => h)
  replace hcb := hkbu.heap hcb (fun h => h)
  (repeat first | apply wr_end | apply wc_seq | apply wc_region)
  refine wr_buildSlice (vs := unTab.map S) rfl rfl (by intro v hv; simp [unTab] at hv; rcases hv with rfl | rfl | rfl | rfl | rfl | rfl | rfl | rfl | rfl <;> rfl) rfl (by decide) (by decide) (by decide) ?_
  refine wr_name ?_
  intro w3 hw3
  have hk3 : Keeps NoB wu w3 := by rw [hw3]; exact (Keeps.refl NoB wu).alloc _
  have hc3 : w3.heap[wu.heap.size]? = some (.cells (unTab.map S).toArray 9 (0, 0)) := by rw [hw3]; exact heap_alloc_same _ _
  clear hw3
  (repeat first | (apply wr_move; exact rfl; with_reducible (conv => enter [6, 3]; whnf)))
  refine wr_remN (n := n) (m := 9) rfl rfl rfl (by omega) ?_
  have hmod : n % 9 < 9 := Nat.mod_lt _ (by decide)
  refine wr_indexAddr (i := n % 9) rfl rfl rfl hmod ?_
  have hv : (unTab.map S).toArray[0 + n % 9 * 1]? = some (S (unOf n)) := by
    unfold unOf
    have h : ∀ j, j < 9 → (unTab.map S).toArray[0 + j * 1]? = some (S (unTab.getD j [])) := by
      intro j hj
      rw [Nat.zero_add, Nat.mul_one, List.getElem?_toArray, List.getElem?_map, List.getD_eq_getElem?_getD]
      have h2 : j < unTab.length := hj
      simp [h2]
    exact h _ hmod
  refine wr_load (v := S (unOf n)) rfl rfl rfl hc3 hv ?_
  obtain ⟨x, hx⟩ : ∃ x, x = unOf n := ⟨_, rfl⟩
  have hxl := unOf_ok n
  rw [← hx] at hxl ⊢
  replace har := har.keep hk3 (fun _ _ h => h)
  replace hca := hk3.heap hca (fun h => h)
  replace hbr := hbr.keep hk3 (fun _ _ h => h)
  replace hcb := hk3.heap hcb (fun h => h)
  replace hur := hur.keep hk3 (fun _ _ h => h)
  replace hcu := hk3.heap hcu (fun h => h)
  have hkw3 := hkwu.trans hk3
  have hk0 : ∀ {w'}, Keeps NoB w3.drew w' → Keeps NoB w3 w' := fun hk => (Keeps.refl NoB w3).drew.trans hk
  have hRa : ∀ {w'}, Keeps NoB w3.drew w' → SetR w' (aA, al) (SetV aA (.slice an al.length ac)) := fun hk => ⟨_, rfl, har.keep (hk0 hk) (fun _ _ h => h)⟩
  have hRb : ∀ {w'}, Keeps NoB w3.drew w' → SetR w' (bA, bl) (SetV bA (.slice bn bl.length bc)) := fun hk => ⟨_, rfl, hbr.keep (hk0 hk) (fun _ _ h => h)⟩
  have hRu : ∀ {w'}, Keeps NoB w3.drew w' → SetR w' (uA, ul) (SetV uA (.slice un ul.length uc)) := fun hk => ⟨_, rfl, hur.keep (hk0 hk) (fun _ _ h => h)⟩
  have hlu : ul.length ≤ 40 := by
    have h1 := unionP_le [(aA, al), (bA, bl)]
    rw [← hue] at h1
    simp at h1
    omega
  have hux : hasP (uA, ul) x = (hasP (aA, al) x || hasP (bA, bl) x) := by rw [hue, union_has]
  have huA : uA = (aA || bA) := by
    have := congrArg Prod.fst hue
    rw [union_all2] at this
    exact this
  have hsw : (uA, ul) = unionP [(bA, bl), (aA, al)] := by rw [hue, union_comm hfa hfb]
  obtain ⟨hA, hhA⟩ : ∃ hA, hasP (aA, al) x = hA := ⟨_, rfl⟩
  obtain ⟨hB, hhB⟩ : ∃ hB, hasP (bA, bl) x = hB := ⟨_, rfl⟩
  rw [hhA, hhB] at hux
  (repeat first | (apply wr_assign; exact rfl; with_reducible (conv => enter [6, 3]; whnf)) | apply wr_end | apply wc_seq)
  cases aA with
  | false =>
    cases hA
    all_goals
      refine wc_drawP (l := _) 47 _ (by kernel_rfl) (by kernel_rfl) rfl (by kernel_rfl) (by kernel_rfl) (by decide) ?_
      apply chP_pure
      focus
        intro xx w' hk hF
        apply wr_move; exact rfl; with_reducible (conv => enter [6, 3]; whnf)
        apply wr_nil
        exact ⟨rfl, Keeps.refl _ _⟩
      focus (intro xx yy h; rfl)
      focus kernel_rfl
      apply chP_pure
      focus
        intro xx w' hk hF
        apply wr_move; exact rfl; with_reducible (conv => enter [6, 3]; whnf)
        apply wr_nil
        exact ⟨rfl, Keeps.refl _ _⟩
      focus (intro xx yy h; rfl)
      focus kernel_rfl
      apply chP_pure
      focus
        intro xx w' hk hF
        refine wr_loadAll (cs := [.bool uA, .slice un ul.length uc]) rfl rfl rfl ((hk0 hk).heap hcu (fun h => h)) rfl ?_
        apply wr_nil
        exact ⟨rfl, Keeps.refl _ _⟩
      focus (intro xx yy h; rfl)
      focus kernel_rfl
      apply chP_pure
      focus
        intro xx w' hk hF
        apply wr_move; exact rfl; with_reducible (conv => enter [6, 3]; whnf)
        apply wr_nil
        exact ⟨rfl, Keeps.refl _ _⟩
      focus (intro xx yy h; rfl)
      focus kernel_rfl
      apply chP_pure
      focus
        intro xx w' hk hF
        refine wr_call (vs := [SetV uA (.slice un ul.length uc), S x]) rfl (has_cb _ hux hxl (hRu hk) (by dsimp only; omega)) rfl ?_
        rintro v w'' ⟨rfl, hkc⟩
        apply wr_nil
        exact ⟨rfl, hkc⟩
      focus (intro xx yy h; rfl)
      focus kernel_rfl
      apply chP_pure
      focus
        intro xx w' hk hF
        refine wr_loadAll (cs := [.bool false, .slice an al.length ac]) rfl rfl rfl ((hk0 hk).heap hca (fun h => h)) rfl ?_
        apply wr_nil
        exact ⟨rfl, Keeps.refl _ _⟩
      focus (intro xx yy h; rfl)
      focus kernel_rfl
      apply chP_pure
      focus
        intro xx w' hk hF
        apply wr_move; exact rfl; with_reducible (conv => enter [6, 3]; whnf)
        apply wr_nil
        exact ⟨rfl, Keeps.refl _ _⟩
      focus (intro xx yy h; rfl)
      focus kernel_rfl
      apply chP_pure
      focus
        intro xx w' hk hF
        refine wr_call (vs := [SetV false (.slice an al.length ac), S x]) rfl (has_cb _ hhA hxl (hRa hk) (by dsimp only; omega)) rfl ?_
        rintro v w'' ⟨rfl, hkc⟩
        apply wr_nil
        exact ⟨rfl, hkc⟩
      focus (intro xx yy h; rfl)
      focus kernel_rfl
      apply chP_pure
      focus
        intro xx w' hk hF
        apply wr_move; exact rfl; with_reducible (conv => enter [6, 3]; whnf)
        apply wr_nil
        exact ⟨rfl, Keeps.refl _ _⟩
      focus (intro xx yy h; rfl)
      focus kernel_rfl
      apply chP_pure
      focus
        intro xx w' hk hF
        first
        | (refine wr_skip rfl ?_; apply wr_nil; exact ⟨rfl, Keeps.refl _ _⟩)
        | (refine wr_loadAll (cs := [.bool bA, .slice bn bl.length bc]) rfl rfl rfl ((hk0 hk).heap hcb (fun h => h)) rfl ?_; apply wr_nil; exact ⟨rfl, Keeps.refl _ _⟩)
      focus (intro xx yy h; rfl)
      focus kernel_rfl
      apply chP_pure
      focus
        intro xx w' hk hF
        first
        | (refine wr_skip rfl ?_; apply wr_nil; exact ⟨rfl, Keeps.refl _ _⟩)
        | (apply wr_move; exact rfl; with_reducible (conv => enter [6, 3]; whnf); apply wr_nil; exact ⟨rfl, Keeps.refl _ _⟩)
      focus (intro xx yy h; rfl)
      focus kernel_rfl
      apply chP_pure
      focus
        intro xx w' hk hF
        first
        | (refine wr_skip rfl ?_; apply wr_nil; exact ⟨rfl, Keeps.refl _ _⟩)
        | (refine wr_call (vs := [SetV bA (.slice bn bl.length bc), S x]) rfl (has_cb _ hhB hxl (hRb hk) (by dsimp only; omega)) rfl ?_; rintro v w'' ⟨rfl, hkc⟩; apply wr_nil; exact ⟨rfl, hkc⟩)
      focus (intro xx yy h; rfl)
      focus kernel_rfl
      apply chP_pure
      focus
        intro xx w' hk hF
        first
        | (apply wr_pick (t := true); (iterate 2 exact rfl); with_reducible (conv => enter [6, 3]; whnf); apply wr_nil; exact ⟨rfl, Keeps.refl _ _⟩)
        | (apply wr_pick (t := false); (iterate 2 exact rfl); with_reducible (conv => enter [6, 3]; whnf); apply wr_nil; exact ⟨rfl, Keeps.refl _ _⟩)
      focus (intro xx yy h; rfl)
      focus kernel_rfl
      apply chP_pure
      focus
        intro xx w' hk hF
        refine wr_boolEq (c := true) rfl rfl rfl (by simp) ?_
        apply wr_nil
        exact ⟨rfl, Keeps.refl _ _⟩
      focus (intro xx yy h; rfl)
      focus kernel_rfl
      apply chP_pure
      focus
        intro xx w' hk hF
        first
        | (apply wr_pick (t := true); (iterate 2 exact rfl); with_reducible (conv => enter [6, 3]; whnf); apply wr_nil; exact ⟨rfl, Keeps.refl _ _⟩)
        | (apply wr_pick (t := false); (iterate 2 exact rfl); with_reducible (conv => enter [6, 3]; whnf); apply wr_nil; exact ⟨rfl, Keeps.refl _ _⟩)
      focus (intro xx yy h; rfl)
      focus kernel_rfl
      apply chP_pure
      focus
        intro xx w' hk hF
        apply wr_move; exact rfl; with_reducible (conv => enter [6, 3]; whnf)
        apply wr_nil
        exact ⟨rfl, Keeps.refl _ _⟩
      focus (intro xx yy h; rfl)
      focus kernel_rfl
      apply chP_pure
      focus
        intro xx w' hk hF
        refine wr_loadAll (cs := [.bool uA, .slice un ul.length uc]) rfl rfl rfl ((hk0 hk).heap hcu (fun h => h)) rfl ?_
        apply wr_nil
        exact ⟨rfl, Keeps.refl _ _⟩
      focus (intro xx yy h; rfl)
      focus kernel_rfl
      apply chP_pure
      focus
        intro xx w' hk hF
        refine wr_loadAll (cs := [.bool bA, .slice bn bl.length bc]) rfl rfl rfl ((hk0 hk).heap hcb (fun h => h)) rfl ?_
        apply wr_nil
        exact ⟨rfl, Keeps.refl _ _⟩
      focus (intro xx yy h; rfl)
      focus kernel_rfl
      apply chP_pure
      focus
        intro xx w' hk hF
        refine wr_loadAll (cs := [.bool false, .slice an al.length ac]) rfl rfl rfl ((hk0 hk).heap hca (fun h => h)) rfl ?_
        apply wr_nil
        exact ⟨rfl, Keeps.refl _ _⟩
      focus (intro xx yy h; rfl)
      focus kernel_rfl
      refine chP_fact (fun y => y) (fun y w' => SetsAt w' [((bA, bl), .slice bn bl.length bc), ((false, al), .slice an al.length ac)] y) (fun y w' w'' h k => h.keep k) ?_ ?_
      focus
        intro xx w' hk hF
        refine wr_buildSlice (vs := [SetV bA (.slice bn bl.length bc), SetV false (.slice an al.length ac)]) rfl rfl (by intro v hv; simp at hv; rcases hv with rfl | rfl <;> rfl) rfl (by decide) (by decide) (by decide) ?_
        apply wr_nil
        exact ⟨_, rfl, setsAt_alloc w' [((bA, bl), .slice bn bl.length bc), ((false, al), .slice an al.length ac)] (by intro x hx; simp only [List.mem_cons, List.not_mem_nil, or_false] at hx; rcases hx with rfl | rfl; exact (hbr.keep (hk0 hk) (fun _ _ h => h)); exact (har.keep (hk0 hk) (fun _ _ h => h))), (Keeps.refl NoB w').alloc _⟩
      refine chP_fact (fun y => y) (fun y w' => SetR w' (unionP [(bA, bl), (false, al)]) y) (fun y w' w'' h k => h.keep k) ?_ ?_
      focus
        intro xx w' hk hF
        refine wr_call (vs := [xx 19]) rfl (union_ca _ _ w' (hF 19 (by kernel_rfl)) (by simp) (by simp [uN]; omega)) rfl ?_
        rintro v w'' ⟨hR, hkc⟩
        apply wr_nil
        exact ⟨v, rfl, hR, hkc⟩
      apply chP_pure
      focus
        intro xx w' hk hF
        refine wr_call (vs := [SetV uA (.slice un ul.length uc), xx 20]) rfl (same_cb true (same_eq hsw) (hRu hk) (hF 20 (by kernel_rfl)) (by dsimp only; omega) (by rw [← hsw]; dsimp only; omega)) rfl ?_
        rintro v w'' ⟨rfl, hkc⟩
        apply wr_nil
        exact ⟨rfl, hkc⟩
      focus (intro xx yy h; rfl)
      focus kernel_rfl
      apply chP_pure
      focus
        intro xx w' hk hF
        first
        | (apply wr_pick (t := true); (iterate 2 exact rfl); with_reducible (conv => enter [6, 3]; whnf); apply wr_nil; exact ⟨rfl, Keeps.refl _ _⟩)
        | (apply wr_pick (t := false); (iterate 2 exact rfl); with_reducible (conv => enter [6, 3]; whnf); apply wr_nil; exact ⟨rfl, Keeps.refl _ _⟩)
      focus (intro xx yy h; rfl)
      focus kernel_rfl
      apply chP_pure
      focus
        intro xx w' hk hF
        apply wr_move; exact rfl; with_reducible (conv => enter [6, 3]; whnf)
        apply wr_nil
        exact ⟨rfl, Keeps.refl _ _⟩
      focus (intro xx yy h; rfl)
      focus kernel_rfl
      apply chP_pure
      focus
        intro xx w' hk hF
        refine wr_loadAll (cs := [.bool false, .slice an al.length ac]) rfl rfl rfl ((hk0 hk).heap hca (fun h => h)) rfl ?_
        apply wr_nil
        exact ⟨rfl, Keeps.refl _ _⟩
      focus (intro xx yy h; rfl)
      focus kernel_rfl
      apply chP_pure
      focus
        intro xx w' hk hF
        refine wr_loadAll (cs := [.bool false, .slice an al.length ac]) rfl rfl rfl ((hk0 hk).heap hca (fun h => h)) rfl ?_
        apply wr_nil
        exact ⟨rfl, Keeps.refl _ _⟩
      focus (intro xx yy h; rfl)
      focus kernel_rfl
      refine chP_fact (fun y => y) (fun y w' => SetsAt w' [((false, al), .slice an al.length ac), ((false, al), .slice an al.length ac)] y) (fun y w' w'' h k => h.keep k) ?_ ?_
      focus
        intro xx w' hk hF
        refine wr_buildSlice (vs := [SetV false (.slice an al.length ac), SetV false (.slice an al.length ac)]) rfl rfl (by intro v hv; simp at hv; rcases hv with rfl | rfl <;> rfl) rfl (by decide) (by decide) (by decide) ?_
        apply wr_nil
        exact ⟨_, rfl, setsAt_alloc w' [((false, al), .slice an al.length ac), ((false, al), .slice an al.length ac)] (by intro x hx; simp only [List.mem_cons, List.not_mem_nil, or_false] at hx; rcases hx with rfl | rfl; exact (har.keep (hk0 hk) (fun _ _ h => h)); exact (har.keep (hk0 hk) (fun _ _ h => h))), (Keeps.refl NoB w').alloc _⟩
      refine chP_fact (fun y => y) (fun y w' => SetR w' (unionP [(false, al), (false, al)]) y) (fun y w' w'' h k => h.keep k) ?_ ?_
      focus
        intro xx w' hk hF
        refine wr_call (vs := [xx 26]) rfl (union_ca _ _ w' (hF 26 (by kernel_rfl)) (by simp) (by simp [uN]; omega)) rfl ?_
        rintro v w'' ⟨hR, hkc⟩
        apply wr_nil
        exact ⟨v, rfl, hR, hkc⟩
      apply chP_pure
      focus
        intro xx w' hk hF
        refine wr_loadAll (cs := [.bool false, .slice an al.length ac]) rfl rfl rfl ((hk0 hk).heap hca (fun h => h)) rfl ?_
        apply wr_nil
        exact ⟨rfl, Keeps.refl _ _⟩
      focus (intro xx yy h; rfl)
      focus kernel_rfl
      apply chP_pure
      focus
        intro xx w' hk hF
        refine wr_call (vs := [xx 27, SetV false (.slice an al.length ac)]) rfl (same_cb true (same_eq (union_self hfa)) (hF 27 (by kernel_rfl)) (hRa hk) (by rw [union_self hfa]; dsimp only; omega) (by dsimp only; omega)) rfl ?_
        rintro v w'' ⟨rfl, hkc⟩
        apply wr_nil
        exact ⟨rfl, hkc⟩
      focus (intro xx yy h; rfl)
      focus kernel_rfl
      apply chP_pure
      focus
        intro xx w' hk hF
        first
        | (apply wr_pick (t := true); (iterate 2 exact rfl); with_reducible (conv => enter [6, 3]; whnf); apply wr_nil; exact ⟨rfl, Keeps.refl _ _⟩)
        | (apply wr_pick (t := false); (iterate 2 exact rfl); with_reducible (conv => enter [6, 3]; whnf); apply wr_nil; exact ⟨rfl, Keeps.refl _ _⟩)
      focus (intro xx yy h; rfl)
      focus kernel_rfl
      apply chP_pure
      focus
        intro xx w' hk hF
        apply wr_move; exact rfl; with_reducible (conv => enter [6, 3]; whnf)
        apply wr_nil
        exact ⟨rfl, Keeps.refl _ _⟩
      focus (intro xx yy h; rfl)
      focus kernel_rfl
      refine chP_fact (fun y => y) (fun y w' => SetR w' (unionP []) y) (fun y w' w'' h k => h.keep k) ?_ ?_
      focus
        intro xx w' hk hF
        refine wr_call (vs := [.slice none 0 0]) rfl (union_ca [] _ w' (setsAt_nil w') (by simp) (by simp [uN])) rfl ?_
        rintro v w'' ⟨hR, hkc⟩
        apply wr_nil
        exact ⟨v, rfl, hR, hkc⟩
      apply chP_pure
      focus
        intro xx w' hk hF
        refine wr_build (ps := []) (cs := [.bool false, .slice none 0 0]) rfl rfl rfl rfl ?_
        apply wr_nil
        exact ⟨rfl, Keeps.refl _ _⟩
      focus (intro xx yy h; rfl)
      focus kernel_rfl
      apply chP_pure
      focus
        intro xx w' hk hF
        refine wr_call (vs := [xx 32, SetV false (.slice none 0 0)]) rfl (same_cb true (same_eq union_none) (hF 32 (by kernel_rfl)) (setR_nil w') (by rw [union_none]; simp) (by simp)) rfl ?_
        rintro v w'' ⟨rfl, hkc⟩
        apply wr_nil
        exact ⟨rfl, hkc⟩
      focus (intro xx yy h; rfl)
      focus kernel_rfl
      apply chP_pure
      focus
        intro xx w' hk hF
        first
        | (apply wr_pick (t := true); (iterate 2 exact rfl); with_reducible (conv => enter [6, 3]; whnf); apply wr_nil; exact ⟨rfl, Keeps.refl _ _⟩)
        | (apply wr_pick (t := false); (iterate 2 exact rfl); with_reducible (conv => enter [6, 3]; whnf); apply wr_nil; exact ⟨rfl, Keeps.refl _ _⟩)
      focus (intro xx yy h; rfl)
      focus kernel_rfl
      apply chP_pure
      focus
        intro xx w' hk hF
        apply wr_move; exact rfl; with_reducible (conv => enter [6, 3]; whnf)
        apply wr_nil
        exact ⟨rfl, Keeps.refl _ _⟩
      focus (intro xx yy h; rfl)
      focus kernel_rfl
      apply chP_pure
      focus
        intro xx w' hk hF
        refine wr_fieldAddr rfl rfl ?_
        apply wr_nil
        exact ⟨rfl, Keeps.refl _ _⟩
      focus (intro xx yy h; rfl)
      focus kernel_rfl
      apply chP_pure
      focus
        intro xx w' hk hF
        refine wr_load (v := .bool uA) rfl rfl rfl ((hk0 hk).heap hcu (fun h => h)) rfl ?_
        apply wr_nil
        exact ⟨rfl, Keeps.refl _ _⟩
      focus (intro xx yy h; rfl)
      focus kernel_rfl
      apply chP_pure
      focus
        intro xx w' hk hF
        refine wr_fieldAddr rfl rfl ?_
        apply wr_nil
        exact ⟨rfl, Keeps.refl _ _⟩
      focus (intro xx yy h; rfl)
      focus kernel_rfl
      apply chP_pure
      focus
        intro xx w' hk hF
        refine wr_load rfl rfl rfl ((hk0 hk).heap hca (fun h => h)) rfl ?_
        apply wr_nil
        exact ⟨rfl, Keeps.refl _ _⟩
      focus (intro xx yy h; rfl)
      focus kernel_rfl
      apply chP_pure
      focus
        intro xx w' hk hF
        apply wr_move; exact rfl; with_reducible (conv => enter [6, 3]; whnf)
        apply wr_nil
        exact ⟨rfl, Keeps.refl _ _⟩
      focus (intro xx yy h; rfl)
      focus kernel_rfl
      apply chP_pure
      focus
        intro xx w' hk hF
        first
        | (refine wr_skip rfl ?_; apply wr_nil; exact ⟨rfl, Keeps.refl _ _⟩)
        | (refine wr_fieldAddr rfl rfl ?_; apply wr_nil; exact ⟨rfl, Keeps.refl _ _⟩)
      focus (intro xx yy h; rfl)
      focus kernel_rfl
      apply chP_pure
      focus
        intro xx w' hk hF
        first
        | (refine wr_skip rfl ?_; apply wr_nil; exact ⟨rfl, Keeps.refl _ _⟩)
        | (refine wr_load (v := .bool bA) rfl rfl rfl ((hk0 hk).heap hcb (fun h => h)) rfl ?_; apply wr_nil; exact ⟨rfl, Keeps.refl _ _⟩)
      focus (intro xx yy h; rfl)
      focus kernel_rfl
      apply chP_pure
      focus
        intro xx w' hk hF
        first
        | (apply wr_pick (t := true); (iterate 2 exact rfl); with_reducible (conv => enter [6, 3]; whnf); apply wr_nil; exact ⟨rfl, Keeps.refl _ _⟩)
        | (apply wr_pick (t := false); (iterate 2 exact rfl); with_reducible (conv => enter [6, 3]; whnf); apply wr_nil; exact ⟨rfl, Keeps.refl _ _⟩)
      focus (intro xx yy h; rfl)
      focus kernel_rfl
      apply chP_pure
      focus
        intro xx w' hk hF
        refine wr_boolEq (c := true) rfl rfl rfl (by rw [huA]; simp) ?_
        apply wr_nil
        exact ⟨rfl, Keeps.refl _ _⟩
      focus (intro xx yy h; rfl)
      focus kernel_rfl
      apply chP_pure
      focus
        intro xx w' hk hF
        first
        | (apply wr_pick (t := true); (iterate 2 exact rfl); with_reducible (conv => enter [6, 3]; whnf); apply wr_nil; exact ⟨rfl, Keeps.refl _ _⟩)
        | (apply wr_pick (t := false); (iterate 2 exact rfl); with_reducible (conv => enter [6, 3]; whnf); apply wr_nil; exact ⟨rfl, Keeps.refl _ _⟩)
      focus (intro xx yy h; rfl)
      focus kernel_rfl
      refine chP_nil ?_
      intro xx w4 hk4 hF
      (repeat first | (apply wr_assign; exact rfl; with_reducible (conv => enter [6, 3]; whnf)) | apply wr_end | (apply wc_ret; try simp only [thenE, inBlockE, bodyQ]))
      exact leave1 (v := .bool true) rfl rfl ⟨rfl, hkw3.trans (hk0 hk4)⟩
  | true =>
    cases hA
    all_goals
      refine wc_drawP (l := _) 47 _ (by kernel_rfl) (by kernel_rfl) rfl (by kernel_rfl) (by kernel_rfl) (by decide) ?_
      apply chP_pure
      focus
        intro xx w' hk hF
        apply wr_move; exact rfl; with_reducible (conv => enter [6, 3]; whnf)
        apply wr_nil
        exact ⟨rfl, Keeps.refl _ _⟩
      focus (intro xx yy h; rfl)
      focus kernel_rfl
      apply chP_pure
      focus
        intro xx w' hk hF
        apply wr_move; exact rfl; with_reducible (conv => enter [6, 3]; whnf)
        apply wr_nil
        exact ⟨rfl, Keeps.refl _ _⟩
      focus (intro xx yy h; rfl)
      focus kernel_rfl
      apply chP_pure
      focus
        intro xx w' hk hF
        refine wr_loadAll (cs := [.bool uA, .slice un ul.length uc]) rfl rfl rfl ((hk0 hk).heap hcu (fun h => h)) rfl ?_
        apply wr_nil
        exact ⟨rfl, Keeps.refl _ _⟩
      focus (intro xx yy h; rfl)
      focus kernel_rfl
      apply chP_pure
      focus
        intro xx w' hk hF
        apply wr_move; exact rfl; with_reducible (conv => enter [6, 3]; whnf)
        apply wr_nil
        exact ⟨rfl, Keeps.refl _ _⟩
      focus (intro xx yy h; rfl)
      focus kernel_rfl
      apply chP_pure
      focus
        intro xx w' hk hF
        refine wr_call (vs := [SetV uA (.slice un ul.length uc), S x]) rfl (has_cb _ hux hxl (hRu hk) (by dsimp only; omega)) rfl ?_
        rintro v w'' ⟨rfl, hkc⟩
        apply wr_nil
        exact ⟨rfl, hkc⟩
      focus (intro xx yy h; rfl)
      focus kernel_rfl
      apply chP_pure
      focus
        intro xx w' hk hF
        refine wr_loadAll (cs := [.bool true, .slice an al.length ac]) rfl rfl rfl ((hk0 hk).heap hca (fun h => h)) rfl ?_
        apply wr_nil
        exact ⟨rfl, Keeps.refl _ _⟩
      focus (intro xx yy h; rfl)
      focus kernel_rfl
      apply chP_pure
      focus
        intro xx w' hk hF
        apply wr_move; exact rfl; with_reducible (conv => enter [6, 3]; whnf)
        apply wr_nil
        exact ⟨rfl, Keeps.refl _ _⟩
      focus (intro xx yy h; rfl)
      focus kernel_rfl
      apply chP_pure
      focus
        intro xx w' hk hF
        refine wr_call (vs := [SetV true (.slice an al.length ac), S x]) rfl (has_cb _ hhA hxl (hRa hk) (by dsimp only; omega)) rfl ?_
        rintro v w'' ⟨rfl, hkc⟩
        apply wr_nil
        exact ⟨rfl, hkc⟩
      focus (intro xx yy h; rfl)
      focus kernel_rfl
      apply chP_pure
      focus
        intro xx w' hk hF
        apply wr_move; exact rfl; with_reducible (conv => enter [6, 3]; whnf)
        apply wr_nil
        exact ⟨rfl, Keeps.refl _ _⟩
      focus (intro xx yy h; rfl)
      focus kernel_rfl
      apply chP_pure
      focus
        intro xx w' hk hF
        first
        | (refine wr_skip rfl ?_; apply wr_nil; exact ⟨rfl, Keeps.refl _ _⟩)
        | (refine wr_loadAll (cs := [.bool bA, .slice bn bl.length bc]) rfl rfl rfl ((hk0 hk).heap hcb (fun h => h)) rfl ?_; apply wr_nil; exact ⟨rfl, Keeps.refl _ _⟩)
      focus (intro xx yy h; rfl)
      focus kernel_rfl
      apply chP_pure
      focus
        intro xx w' hk hF
        first
        | (refine wr_skip rfl ?_; apply wr_nil; exact ⟨rfl, Keeps.refl _ _⟩)
        | (apply wr_move; exact rfl; with_reducible (conv => enter [6, 3]; whnf); apply wr_nil; exact ⟨rfl, Keeps.refl _ _⟩)
      focus (intro xx yy h; rfl)
      focus kernel_rfl
      apply chP_pure
      focus
        intro xx w' hk hF
        first
        | (refine wr_skip rfl ?_; apply wr_nil; exact ⟨rfl, Keeps.refl _ _⟩)
        | (refine wr_call (vs := [SetV bA (.slice bn bl.length bc), S x]) rfl (has_cb _ hhB hxl (hRb hk) (by dsimp only; omega)) rfl ?_; rintro v w'' ⟨rfl, hkc⟩; apply wr_nil; exact ⟨rfl, hkc⟩)
      focus (intro xx yy h; rfl)
      focus kernel_rfl
      apply chP_pure
      focus
        intro xx w' hk hF
        first
        | (apply wr_pick (t := true); (iterate 2 exact rfl); with_reducible (conv => enter [6, 3]; whnf); apply wr_nil; exact ⟨rfl, Keeps.refl _ _⟩)
        | (apply wr_pick (t := false); (iterate 2 exact rfl); with_reducible (conv => enter [6, 3]; whnf); apply wr_nil; exact ⟨rfl, Keeps.refl _ _⟩)
      focus (intro xx yy h; rfl)
      focus kernel_rfl
      apply chP_pure
      focus
        intro xx w' hk hF
        refine wr_boolEq (c := true) rfl rfl rfl (by simp) ?_
        apply wr_nil
        exact ⟨rfl, Keeps.refl _ _⟩
      focus (intro xx yy h; rfl)
      focus kernel_rfl
      apply chP_pure
      focus
        intro xx w' hk hF
        first
        | (apply wr_pick (t := true); (iterate 2 exact rfl); with_reducible (conv => enter [6, 3]; whnf); apply wr_nil; exact ⟨rfl, Keeps.refl _ _⟩)
        | (apply wr_pick (t := false); (iterate 2 exact rfl); with_reducible (conv => enter [6, 3]; whnf); apply wr_nil; exact ⟨rfl, Keeps.refl _ _⟩)
      focus (intro xx yy h; rfl)
      focus kernel_rfl
      apply chP_pure
      focus
        intro xx w' hk hF
        apply wr_move; exact rfl; with_reducible (conv => enter [6, 3]; whnf)
        apply wr_nil
        exact ⟨rfl, Keeps.refl _ _⟩
      focus (intro xx yy h; rfl)
      focus kernel_rfl
      apply chP_pure
      focus
        intro xx w' hk hF
        refine wr_loadAll (cs := [.bool uA, .slice un ul.length uc]) rfl rfl rfl ((hk0 hk).heap hcu (fun h => h)) rfl ?_
        apply wr_nil
        exact ⟨rfl, Keeps.refl _ _⟩
      focus (intro xx yy h; rfl)
      focus kernel_rfl
      apply chP_pure
      focus
        intro xx w' hk hF
        refine wr_loadAll (cs := [.bool bA, .slice bn bl.length bc]) rfl rfl rfl ((hk0 hk).heap hcb (fun h => h)) rfl ?_
        apply wr_nil
        exact ⟨rfl, Keeps.refl _ _⟩
      focus (intro xx yy h; rfl)
      focus kernel_rfl
      apply chP_pure
      focus
        intro xx w' hk hF
        refine wr_loadAll (cs := [.bool true, .slice an al.length ac]) rfl rfl rfl ((hk0 hk).heap hca (fun h => h)) rfl ?_
        apply wr_nil
        exact ⟨rfl, Keeps.refl _ _⟩
      focus (intro xx yy h; rfl)
      focus kernel_rfl
      refine chP_fact (fun y => y) (fun y w' => SetsAt w' [((bA, bl), .slice bn bl.length bc), ((true, al), .slice an al.length ac)] y) (fun y w' w'' h k => h.keep k) ?_ ?_
      focus
        intro xx w' hk hF
        refine wr_buildSlice (vs := [SetV bA (.slice bn bl.length bc), SetV true (.slice an al.length ac)]) rfl rfl (by intro v hv; simp at hv; rcases hv with rfl | rfl <;> rfl) rfl (by decide) (by decide) (by decide) ?_
        apply wr_nil
        exact ⟨_, rfl, setsAt_alloc w' [((bA, bl), .slice bn bl.length bc), ((true, al), .slice an al.length ac)] (by intro x hx; simp only [List.mem_cons, List.not_mem_nil, or_false] at hx; rcases hx with rfl | rfl; exact (hbr.keep (hk0 hk) (fun _ _ h => h)); exact (har.keep (hk0 hk) (fun _ _ h => h))), (Keeps.refl NoB w').alloc _⟩
      refine chP_fact (fun y => y) (fun y w' => SetR w' (unionP [(bA, bl), (true, al)]) y) (fun y w' w'' h k => h.keep k) ?_ ?_
      focus
        intro xx w' hk hF
        refine wr_call (vs := [xx 19]) rfl (union_ca _ _ w' (hF 19 (by kernel_rfl)) (by simp) (by simp [uN]; omega)) rfl ?_
        rintro v w'' ⟨hR, hkc⟩
        apply wr_nil
        exact ⟨v, rfl, hR, hkc⟩
      apply chP_pure
      focus
        intro xx w' hk hF
        refine wr_call (vs := [SetV uA (.slice un ul.length uc), xx 20]) rfl (same_cb true (same_eq hsw) (hRu hk) (hF 20 (by kernel_rfl)) (by dsimp only; omega) (by rw [← hsw]; dsimp only; omega)) rfl ?_
        rintro v w'' ⟨rfl, hkc⟩
        apply wr_nil
        exact ⟨rfl, hkc⟩
      focus (intro xx yy h; rfl)
      focus kernel_rfl
      apply chP_pure
      focus
        intro xx w' hk hF
        first
        | (apply wr_pick (t := true); (iterate 2 exact rfl); with_reducible (conv => enter [6, 3]; whnf); apply wr_nil; exact ⟨rfl, Keeps.refl _ _⟩)
        | (apply wr_pick (t := false); (iterate 2 exact rfl); with_reducible (conv => enter [6, 3]; whnf); apply wr_nil; exact ⟨rfl, Keeps.refl _ _⟩)
      focus (intro xx yy h; rfl)
      focus kernel_rfl
      apply chP_pure
      focus
        intro xx w' hk hF
        apply wr_move; exact rfl; with_reducible (conv => enter [6, 3]; whnf)
        apply wr_nil
        exact ⟨rfl, Keeps.refl _ _⟩
      focus (intro xx yy h; rfl)
      focus kernel_rfl
      apply chP_pure
      focus
        intro xx w' hk hF
        refine wr_loadAll (cs := [.bool true, .slice an al.length ac]) rfl rfl rfl ((hk0 hk).heap hca (fun h => h)) rfl ?_
        apply wr_nil
        exact ⟨rfl, Keeps.refl _ _⟩
      focus (intro xx yy h; rfl)
      focus kernel_rfl
      apply chP_pure
      focus
        intro xx w' hk hF
        refine wr_loadAll (cs := [.bool true, .slice an al.length ac]) rfl rfl rfl ((hk0 hk).heap hca (fun h => h)) rfl ?_
        apply wr_nil
        exact ⟨rfl, Keeps.refl _ _⟩
      focus (intro xx yy h; rfl)
      focus kernel_rfl
      refine chP_fact (fun y => y) (fun y w' => SetsAt w' [((true, al), .slice an al.length ac), ((true, al), .slice an al.length ac)] y) (fun y w' w'' h k => h.keep k) ?_ ?_
      focus
        intro xx w' hk hF
        refine wr_buildSlice (vs := [SetV true (.slice an al.length ac), SetV true (.slice an al.length ac)]) rfl rfl (by intro v hv; simp at hv; rcases hv with rfl | rfl <;> rfl) rfl (by decide) (by decide) (by decide) ?_
        apply wr_nil
        exact ⟨_, rfl, setsAt_alloc w' [((true, al), .slice an al.length ac), ((true, al), .slice an al.length ac)] (by intro x hx; simp only [List.mem_cons, List.not_mem_nil, or_false] at hx; rcases hx with rfl | rfl; exact (har.keep (hk0 hk) (fun _ _ h => h)); exact (har.keep (hk0 hk) (fun _ _ h => h))), (Keeps.refl NoB w').alloc _⟩
      refine chP_fact (fun y => y) (fun y w' => SetR w' (unionP [(true, al), (true, al)]) y) (fun y w' w'' h k => h.keep k) ?_ ?_
      focus
        intro xx w' hk hF
        refine wr_call (vs := [xx 26]) rfl (union_ca _ _ w' (hF 26 (by kernel_rfl)) (by simp) (by simp [uN]; omega)) rfl ?_
        rintro v w'' ⟨hR, hkc⟩
        apply wr_nil
        exact ⟨v, rfl, hR, hkc⟩
      apply chP_pure
      focus
        intro xx w' hk hF
        refine wr_loadAll (cs := [.bool true, .slice an al.length ac]) rfl rfl rfl ((hk0 hk).heap hca (fun h => h)) rfl ?_
        apply wr_nil
        exact ⟨rfl, Keeps.refl _ _⟩
      focus (intro xx yy h; rfl)
      focus kernel_rfl
      apply chP_pure
      focus
        intro xx w' hk hF
        refine wr_call (vs := [xx 27, SetV true (.slice an al.length ac)]) rfl (same_cb true (same_eq (union_self hfa)) (hF 27 (by kernel_rfl)) (hRa hk) (by rw [union_self hfa]; dsimp only; omega) (by dsimp only; omega)) rfl ?_
        rintro v w'' ⟨rfl, hkc⟩
        apply wr_nil
        exact ⟨rfl, hkc⟩
      focus (intro xx yy h; rfl)
      focus kernel_rfl
      apply chP_pure
      focus
        intro xx w' hk hF
        first
        | (apply wr_pick (t := true); (iterate 2 exact rfl); with_reducible (conv => enter [6, 3]; whnf); apply wr_nil; exact ⟨rfl, Keeps.refl _ _⟩)
        | (apply wr_pick (t := false); (iterate 2 exact rfl); with_reducible (conv => enter [6, 3]; whnf); apply wr_nil; exact ⟨rfl, Keeps.refl _ _⟩)
      focus (intro xx yy h; rfl)
      focus kernel_rfl
      apply chP_pure
      focus
        intro xx w' hk hF
        apply wr_move; exact rfl; with_reducible (conv => enter [6, 3]; whnf)
        apply wr_nil
        exact ⟨rfl, Keeps.refl _ _⟩
      focus (intro xx yy h; rfl)
      focus kernel_rfl
      refine chP_fact (fun y => y) (fun y w' => SetR w' (unionP []) y) (fun y w' w'' h k => h.keep k) ?_ ?_
      focus
        intro xx w' hk hF
        refine wr_call (vs := [.slice none 0 0]) rfl (union_ca [] _ w' (setsAt_nil w') (by simp) (by simp [uN])) rfl ?_
        rintro v w'' ⟨hR, hkc⟩
        apply wr_nil
        exact ⟨v, rfl, hR, hkc⟩
      apply chP_pure
      focus
        intro xx w' hk hF
        refine wr_build (ps := []) (cs := [.bool false, .slice none 0 0]) rfl rfl rfl rfl ?_
        apply wr_nil
        exact ⟨rfl, Keeps.refl _ _⟩
      focus (intro xx yy h; rfl)
      focus kernel_rfl
      apply chP_pure
      focus
        intro xx w' hk hF
        refine wr_call (vs := [xx 32, SetV false (.slice none 0 0)]) rfl (same_cb true (same_eq union_none) (hF 32 (by kernel_rfl)) (setR_nil w') (by rw [union_none]; simp) (by simp)) rfl ?_
        rintro v w'' ⟨rfl, hkc⟩
        apply wr_nil
        exact ⟨rfl, hkc⟩
      focus (intro xx yy h; rfl)
      focus kernel_rfl
      apply chP_pure
      focus
        intro xx w' hk hF
        first
        | (apply wr_pick (t := true); (iterate 2 exact rfl); with_reducible (conv => enter [6, 3]; whnf); apply wr_nil; exact ⟨rfl, Keeps.refl _ _⟩)
        | (apply wr_pick (t := false); (iterate 2 exact rfl); with_reducible (conv => enter [6, 3]; whnf); apply wr_nil; exact ⟨rfl, Keeps.refl _ _⟩)
      focus (intro xx yy h; rfl)
      focus kernel_rfl
      apply chP_pure
      focus
        intro xx w' hk hF
        apply wr_move; exact rfl; with_reducible (conv => enter [6, 3]; whnf)
        apply wr_nil
        exact ⟨rfl, Keeps.refl _ _⟩
      focus (intro xx yy h; rfl)
      focus kernel_rfl
      apply chP_pure
      focus
        intro xx w' hk hF
        refine wr_fieldAddr rfl rfl ?_
        apply wr_nil
        exact ⟨rfl, Keeps.refl _ _⟩
      focus (intro xx yy h; rfl)
      focus kernel_rfl
      apply chP_pure
      focus
        intro xx w' hk hF
        refine wr_load (v := .bool uA) rfl rfl rfl ((hk0 hk).heap hcu (fun h => h)) rfl ?_
        apply wr_nil
        exact ⟨rfl, Keeps.refl _ _⟩
      focus (intro xx yy h; rfl)
      focus kernel_rfl
      apply chP_pure
      focus
        intro xx w' hk hF
        refine wr_fieldAddr rfl rfl ?_
        apply wr_nil
        exact ⟨rfl, Keeps.refl _ _⟩
      focus (intro xx yy h; rfl)
      focus kernel_rfl
      apply chP_pure
      focus
        intro xx w' hk hF
        refine wr_load rfl rfl rfl ((hk0 hk).heap hca (fun h => h)) rfl ?_
        apply wr_nil
        exact ⟨rfl, Keeps.refl _ _⟩
      focus (intro xx yy h; rfl)
      focus kernel_rfl
      apply chP_pure
      focus
        intro xx w' hk hF
        apply wr_move; exact rfl; with_reducible (conv => enter [6, 3]; whnf)
        apply wr_nil
        exact ⟨rfl, Keeps.refl _ _⟩
      focus (intro xx yy h; rfl)
      focus kernel_rfl
      apply chP_pure
      focus
        intro xx w' hk hF
        first
        | (refine wr_skip rfl ?_; apply wr_nil; exact ⟨rfl, Keeps.refl _ _⟩)
        | (refine wr_fieldAddr rfl rfl ?_; apply wr_nil; exact ⟨rfl, Keeps.refl _ _⟩)
      focus (intro xx yy h; rfl)
      focus kernel_rfl
      apply chP_pure
      focus
        intro xx w' hk hF
        first
        | (refine wr_skip rfl ?_; apply wr_nil; exact ⟨rfl, Keeps.refl _ _⟩)
        | (refine wr_load (v := .bool bA) rfl rfl rfl ((hk0 hk).heap hcb (fun h => h)) rfl ?_; apply wr_nil; exact ⟨rfl, Keeps.refl _ _⟩)
      focus (intro xx yy h; rfl)
      focus kernel_rfl
      apply chP_pure
      focus
        intro xx w' hk hF
        first
        | (apply wr_pick (t := true); (iterate 2 exact rfl); with_reducible (conv => enter [6, 3]; whnf); apply wr_nil; exact ⟨rfl, Keeps.refl _ _⟩)
        | (apply wr_pick (t := false); (iterate 2 exact rfl); with_reducible (conv => enter [6, 3]; whnf); apply wr_nil; exact ⟨rfl, Keeps.refl _ _⟩)
      focus (intro xx yy h; rfl)
      focus kernel_rfl
      apply chP_pure
      focus
        intro xx w' hk hF
        refine wr_boolEq (c := true) rfl rfl rfl (by rw [huA]; simp) ?_
        apply wr_nil
        exact ⟨rfl, Keeps.refl _ _⟩
      focus (intro xx yy h; rfl)
      focus kernel_rfl
      apply chP_pure
      focus
        intro xx w' hk hF
        first
        | (apply wr_pick (t := true); (iterate 2 exact rfl); with_reducible (conv => enter [6, 3]; whnf); apply wr_nil; exact ⟨rfl, Keeps.refl _ _⟩)
        | (apply wr_pick (t := false); (iterate 2 exact rfl); with_reducible (conv => enter [6, 3]; whnf); apply wr_nil; exact ⟨rfl, Keeps.refl _ _⟩)
      focus (intro xx yy h; rfl)
      focus kernel_rfl
      refine chP_nil ?_
      intro xx w4 hk4 hF
      (repeat first | (apply wr_assign; exact rfl; with_reducible (conv => enter [6, 3]; whnf)) | apply wr_end | (apply wc_ret; try simp only [thenE, inBlockE, bodyQ]))
      exact leave1 (v := .bool true) rfl rfl ⟨rfl, hkw3.trans (hk0 hk4)⟩
end Go.Proofs.YtfdpnkmchedeeaaDoor
