/- NamesOf: the walk. -/
import Derived.Test.YtfdpnkmchedeeaaDoorOa
namespace Go.Proofs.YtfdpnkmchedeeaaDoor
open Go Go.V Go.RowKit
set_option linter.unusedVariables false
set_option linter.unusedSimpArgs false

set_option maxRecDepth 100000 in
set_option maxHeartbeats 8000000 in
theorem of_law (l : List Nat) (raw : TX) (own : Bool) (x : TT) (lv rv : Value) (w : World) (hl : SlR w 1 lv l.length (IB l)) (hl8 : ∀ y ∈ l, y < 256) (hr : SlR w 1 rv raw.length (SL raw)) (hrn : raw.length ≤ 8796093021952) (hok : ∀ y ∈ raw, y.length ≤ 9223372036854775807) (hxl : x.length ≤ 9223372036854775807) :
    Ca Tryd.prog 3 #[lv, rv, .bool own, S x] w fun v w' => v = .bool true ∧ Keeps NoB w w' := by
  refine ca_of_body (args := [lv, rv, .bool own, S x]) Tryd.func3 rfl (by kernel_rfl) ?_
  (repeat first | (apply wr_assign; exact rfl; with_reducible (conv => enter [6, 3]; whnf)) | apply wr_end | apply wc_seq | apply wc_region)
  refine wr_call (vs := []) rfl (examples_ca w) rfl ?_
  rintro v w0 ⟨rfl, hk0w⟩
  (repeat first | (apply wr_move; exact rfl; with_reducible (conv => enter [6, 3]; whnf)) | (apply wr_assign; exact rfl; with_reducible (conv => enter [6, 3]; whnf)) | apply wr_end | apply wc_seq | apply wc_region | apply wc_skip | (apply wr_not; iterate 2 exact rfl) | (apply wc_false; exact rfl))
  refine wc_cut (fun ds f w' => ds = [] ∧ ∃ (L : TX) (v : Value), L.length ≤ 8796093021952 ∧ (∀ y ∈ L, y.length ≤ 9223372036854775807) ∧ SlR w' 1 v L.length (SL L) ∧ Keeps NoB w0 w' ∧ Slots f [(1, v), (3, S x), (9, .bool true)]) ?_ ?_
  · cases own with
    | true =>
      (repeat first | (apply wr_move; exact rfl; with_reducible (conv => enter [6, 3]; whnf)) | apply wc_region | (apply wc_true; exact rfl))
      refine wr_call (vs := [lv]) rfl (few_ca l lv w0 (hl.keep hk0w (fun _ _ h => h)) hl8) rfl ?_
      rintro v w1 ⟨ho, hk1⟩
      (repeat first | (apply wr_assign; exact rfl; with_reducible (conv => enter [6, 3]; whnf)) | apply wr_end)
      exact ⟨by trivial, fewF l, v, Nat.le_trans (fewF_le l) (by decide), fewF_ok l, SlR.of_own ho, hk1, rfl, rfl, rfl, trivial⟩
    | false =>
      (repeat first | apply wc_skip | (apply wc_false; exact rfl))
      exact ⟨by trivial, raw, rv, hrn, hok, hr.keep hk0w (fun _ _ h => h), Keeps.refl _ _, rfl, rfl, rfl, trivial⟩
  rintro ds f1 w1 ⟨rfl, L, v, hLn, hLok, hLs, hk1, hslots⟩
  refine wc_keep _ hslots ?_
  intro f2
  have hfa := ofP_fine L
  have hla := Nat.le_trans (ofP_le L) hLn
  (repeat first | (apply wr_move; exact rfl; with_reducible (conv => enter [6, 3]; whnf)) | apply wc_seq | apply wc_region)
  refine wr_call (vs := [v]) rfl (of_ca L v w1 hLs (by omega) hLok) rfl ?_
  rintro va wao ⟨hR, hkao⟩
  obtain ⟨aQ, hae⟩ : ∃ s, s = ofP L := ⟨_, rfl⟩
  rw [← hae] at hR
  obtain ⟨aA, al⟩ := aQ
  obtain ⟨av, rfl, har⟩ := hR
  dsimp only at har
  obtain ⟨an, ac, rfl, _, _⟩ := slr_strs har
  (repeat first | (apply wr_alloc; exact rfl))
  refine wr_storeAll (cs := [.bool aA, .slice an al.length ac]) rfl rfl rfl (by intro u hu; simp at hu; rcases hu with rfl | rfl <;> rfl) (heap_alloc_same _ _) rfl rfl ?_
  refine wr_name ?_
  intro wa hwa
  obtain ⟨ba, hba⟩ : ∃ ba, ba = wao.heap.size := ⟨_, rfl⟩
  have hka : Keeps NoB wao wa := by rw [hwa]; exact ((Keeps.refl NoB wao).alloc _).put _ (fun h => by omega)
  have hca : wa.heap[ba]? = some (.cells #[.bool aA, .slice an al.length ac] 27 (0, 0)) := by rw [hwa, hba]; exact World.putObj_heap_same (by simp)
  rw [← hba]
  clear hwa
  replace har := har.keep hka (fun _ _ h => h)
  have hk1a := hkao.trans hka
  rw [← hae] at hfa hla
  dsimp only at hla
  (repeat first | (apply wr_move; exact rfl; with_reducible (conv => enter [6, 3]; whnf)) | apply wr_end | apply wc_seq | apply wc_region)
  refine wr_call (vs := [v]) rfl (refOf_ca L v wa (hLs.keep hk1a (fun _ _ h => h)) (by omega) hLok) rfl ?_
  rintro vb wbo ⟨hR, hkbo⟩
  rw [← hae] at hR
  obtain ⟨bQ, hbe⟩ : ∃ s, s = (aA, al) := ⟨_, rfl⟩
  rw [← hbe] at hR
  obtain ⟨bA, bl⟩ := bQ
  obtain ⟨bv, rfl, hbr⟩ := hR
  dsimp only at hbr
  obtain ⟨bn, bc, rfl, _, _⟩ := slr_strs hbr
  (repeat first | (apply wr_alloc; exact rfl))
  refine wr_storeAll (cs := [.bool bA, .slice bn bl.length bc]) rfl rfl rfl (by intro u hu; simp at hu; rcases hu with rfl | rfl <;> rfl) (heap_alloc_same _ _) rfl rfl ?_
  refine wr_name ?_
  intro wb hwb
  obtain ⟨bb, hbb⟩ : ∃ bb, bb = wbo.heap.size := ⟨_, rfl⟩
  have hkb : Keeps NoB wbo wb := by rw [hwb]; exact ((Keeps.refl NoB wbo).alloc _).put _ (fun h => by omega)
  have hcb : wb.heap[bb]? = some (.cells #[.bool bA, .slice bn bl.length bc] 29 (0, 0)) := by rw [hwb, hbb]; exact World.putObj_heap_same (by simp)
  rw [← hbb]
  clear hwb
  replace hbr := hbr.keep hkb (fun _ _ h => h)
  obtain ⟨rfl, rfl⟩ := Prod.mk.inj hbe
  have hkab := hkbo.trans hkb
  have hkwb := ((hk0w.trans hk1).trans hk1a).trans hkab
  have hca2 := hkab.heap hca (fun h => h)
  have har2 := har.keep hkab (fun _ _ h => h)
  (repeat first | apply wr_end | apply wc_seq | apply wc_region)
  refine wr_loadAll (cs := [.bool bA, .slice an bl.length ac]) rfl rfl rfl hca2 rfl ?_
  refine wr_loadAll (cs := [.bool bA, .slice bn bl.length bc]) rfl rfl rfl hcb rfl ?_
  refine wr_call (vs := [SetV bA (.slice an bl.length ac), SetV bA (.slice bn bl.length bc)]) rfl (lawSame_ca (bA, bl) (bA, bl) _ _ wb ⟨_, rfl, har2⟩ ⟨_, rfl, hbr⟩ (by dsimp only; omega) (by dsimp only; omega)) rfl ?_
  rintro v3 w3 ⟨rfl, hk3⟩
  rw [show sameP (bA, bl) (bA, bl) = true from same_eq rfl]
  have hca3 := hk3.heap hca2 (fun h => h)
  have hcb3 := hk3.heap hcb (fun h => h)
  have har3 := har2.keep hk3 (fun _ _ h => h)
  have hbr3 := hbr.keep hk3 (fun _ _ h => h)
  have hk0 : ∀ {w'}, Keeps NoB w3.drew w' → Keeps NoB w3 w' := fun hk => (Keeps.refl NoB w3).drew.trans hk
  have hRa : ∀ {w'}, Keeps NoB w3.drew w' → SetR w' (bA, bl) (SetV bA (.slice an bl.length ac)) := fun hk => ⟨_, rfl, har3.keep (hk0 hk) (fun _ _ h => h)⟩
  have hRb : ∀ {w'}, Keeps NoB w3.drew w' → SetR w' (bA, bl) (SetV bA (.slice bn bl.length bc)) := fun hk => ⟨_, rfl, hbr3.keep (hk0 hk) (fun _ _ h => h)⟩
  (repeat first | (apply wr_assign; exact rfl; with_reducible (conv => enter [6, 3]; whnf)) | apply wr_end | apply wc_seq)
  refine wc_drawP (l := _) 5 _ (by kernel_rfl) (by kernel_rfl) rfl (by kernel_rfl) (by kernel_rfl) (by decide) ?_
  apply chP_pure
  focus
    intro xx w' hk hF
    refine wr_loadAll (cs := [.bool bA, .slice an bl.length ac]) rfl rfl rfl ((hk0 hk).heap hca3 (fun h => h)) rfl ?_
    apply wr_nil
    exact ⟨rfl, Keeps.refl _ _⟩
  focus (intro xx yy h; rfl)
  focus kernel_rfl
  refine chP_fact (fun y => y) (fun y w' => SlR w' 1 y (listP (bA, bl)).length (SL (listP (bA, bl)))) (fun y w' w'' h k => h.keep k (fun _ _ h => h)) ?_ ?_
  focus
    intro xx w' hk hF
    refine wr_call (vs := [SetV bA (.slice an bl.length ac)]) rfl (list_ca (bA, bl) _ w' (hRa hk) (by dsimp only; omega)) rfl ?_
    rintro v w'' ⟨hR, hkc⟩
    apply wr_nil
    exact ⟨v, rfl, hR, hkc⟩
  apply chP_pure
  focus
    intro xx w' hk hF
    refine wr_loadAll (cs := [.bool bA, .slice bn bl.length bc]) rfl rfl rfl ((hk0 hk).heap hcb3 (fun h => h)) rfl ?_
    apply wr_nil
    exact ⟨rfl, Keeps.refl _ _⟩
  focus (intro xx yy h; rfl)
  focus kernel_rfl
  refine chP_fact (fun y => y) (fun y w' => SlR w' 1 y (listP (bA, bl)).length (SL (listP (bA, bl)))) (fun y w' w'' h k => h.keep k (fun _ _ h => h)) ?_ ?_
  focus
    intro xx w' hk hF
    refine wr_call (vs := [SetV bA (.slice bn bl.length bc)]) rfl (refList_ca (bA, bl) _ w' (hRb hk) (by dsimp only; omega)) rfl ?_
    rintro v w'' ⟨hR, hkc⟩
    apply wr_nil
    exact ⟨v, rfl, hR, hkc⟩
  apply chP_pure
  focus
    intro xx w' hk hF
    refine wr_call (vs := [xx 1, xx 3]) rfl (textsSame_ca (listP (bA, bl)) _ _ w' (hF 1 (by kernel_rfl)) (hF 3 (by kernel_rfl)) (by have := listP_le (bA, bl); dsimp only at this; omega)) rfl ?_
    rintro v w'' ⟨rfl, hkc⟩
    apply wr_nil
    exact ⟨rfl, hkc⟩
  focus (intro xx yy h; rfl)
  focus kernel_rfl
  refine chP_nil ?_
  intro xx w4 hk4' hF
  clear hF
  have hk4 := hk0 hk4'
  clear hk4' hRa hRb hk0
  have hca4 := hk4.heap hca3 (fun h => h)
  have hcb4 := hk4.heap hcb3 (fun h => h)
  have har4 := har3.keep hk4 (fun _ _ h => h)
  have hbr4 := hbr3.keep hk4 (fun _ _ h => h)
  (repeat first | (apply wr_assign; exact rfl; with_reducible (conv => enter [6, 3]; whnf)) | apply wr_end | apply wc_seq)
  refine wc_keep [(3, S x), (9, .bool true), (10, .pointer (some ⟨ba, 0, none⟩)), (11, .pointer (some ⟨bb, 0, none⟩)), (12, .bool true), (13, .bool true)] ⟨rfl, rfl, rfl, rfl, rfl, rfl, trivial⟩ ?_
  intro f3
  have hk0 : ∀ {w'}, Keeps NoB w4.drew w' → Keeps NoB w4 w' := fun hk => (Keeps.refl NoB w4).drew.trans hk
  have hRa : ∀ {w'}, Keeps NoB w4.drew w' → SetR w' (bA, bl) (SetV bA (.slice an bl.length ac)) := fun hk => ⟨_, rfl, har4.keep (hk0 hk) (fun _ _ h => h)⟩
  have hRb : ∀ {w'}, Keeps NoB w4.drew w' → SetR w' (bA, bl) (SetV bA (.slice bn bl.length bc)) := fun hk => ⟨_, rfl, hbr4.keep (hk0 hk) (fun _ _ h => h)⟩
  refine wc_drawP (l := _) 30 _ (by kernel_rfl) (by kernel_rfl) rfl (by kernel_rfl) (by kernel_rfl) (by decide) ?_
  apply chP_pure
  focus
    intro xx w' hk hF
    apply wr_move; exact rfl; with_reducible (conv => enter [6, 3]; whnf)
    apply wr_nil
    exact ⟨rfl, Keeps.refl _ _⟩
  focus (intro xx yy h; rfl)
  focus kernel_rfl
  apply chP_pure
  focus
    intro xx w' hk hF
    apply wr_move; exact rfl; with_reducible (conv => enter [6, 3]; whnf)
    apply wr_nil
    exact ⟨rfl, Keeps.refl _ _⟩
  focus (intro xx yy h; rfl)
  focus kernel_rfl
  apply chP_pure
  focus
    intro xx w' hk hF
    apply wr_move; exact rfl; with_reducible (conv => enter [6, 3]; whnf)
    apply wr_nil
    exact ⟨rfl, Keeps.refl _ _⟩
  focus (intro xx yy h; rfl)
  focus kernel_rfl
  apply chP_pure
  focus
    intro xx w' hk hF
    first
    | (apply wr_pick (t := true); (iterate 2 exact rfl); with_reducible (conv => enter [6, 3]; whnf); apply wr_nil; exact ⟨rfl, Keeps.refl _ _⟩)
    | (apply wr_pick (t := false); (iterate 2 exact rfl); with_reducible (conv => enter [6, 3]; whnf); apply wr_nil; exact ⟨rfl, Keeps.refl _ _⟩)
  focus (intro xx yy h; rfl)
  focus kernel_rfl
  apply chP_pure
  focus
    intro xx w' hk hF
    apply wr_move; exact rfl; with_reducible (conv => enter [6, 3]; whnf)
    apply wr_nil
    exact ⟨rfl, Keeps.refl _ _⟩
  focus (intro xx yy h; rfl)
  focus kernel_rfl
  apply chP_pure
  focus
    intro xx w' hk hF
    apply wr_move; exact rfl; with_reducible (conv => enter [6, 3]; whnf)
    apply wr_nil
    exact ⟨rfl, Keeps.refl _ _⟩
  focus (intro xx yy h; rfl)
  focus kernel_rfl
  apply chP_pure
  focus
    intro xx w' hk hF
    first
    | (apply wr_pick (t := true); (iterate 2 exact rfl); with_reducible (conv => enter [6, 3]; whnf); apply wr_nil; exact ⟨rfl, Keeps.refl _ _⟩)
    | (apply wr_pick (t := false); (iterate 2 exact rfl); with_reducible (conv => enter [6, 3]; whnf); apply wr_nil; exact ⟨rfl, Keeps.refl _ _⟩)
  focus (intro xx yy h; rfl)
  focus kernel_rfl
  apply chP_pure
  focus
    intro xx w' hk hF
    apply wr_move; exact rfl; with_reducible (conv => enter [6, 3]; whnf)
    apply wr_nil
    exact ⟨rfl, Keeps.refl _ _⟩
  focus (intro xx yy h; rfl)
  focus kernel_rfl
  apply chP_pure
  focus
    intro xx w' hk hF
    refine wr_loadAll (cs := [.bool bA, .slice an bl.length ac]) rfl rfl rfl ((hk0 hk).heap hca4 (fun h => h)) rfl ?_
    apply wr_nil
    exact ⟨rfl, Keeps.refl _ _⟩
  focus (intro xx yy h; rfl)
  focus kernel_rfl
  apply chP_pure
  focus
    intro xx w' hk hF
    apply wr_move; exact rfl; with_reducible (conv => enter [6, 3]; whnf)
    apply wr_nil
    exact ⟨rfl, Keeps.refl _ _⟩
  focus (intro xx yy h; rfl)
  focus kernel_rfl
  apply chP_pure
  focus
    intro xx w' hk hF
    refine wr_call (vs := [SetV bA (.slice an bl.length ac), S x]) rfl (has_cb _ rfl hxl (hRa hk) (by dsimp only; omega)) rfl ?_
    rintro v w'' ⟨rfl, hkc⟩
    apply wr_nil
    exact ⟨rfl, hkc⟩
  focus (intro xx yy h; rfl)
  focus kernel_rfl
  apply chP_pure
  focus
    intro xx w' hk hF
    refine wr_loadAll (cs := [.bool bA, .slice bn bl.length bc]) rfl rfl rfl ((hk0 hk).heap hcb4 (fun h => h)) rfl ?_
    apply wr_nil
    exact ⟨rfl, Keeps.refl _ _⟩
  focus (intro xx yy h; rfl)
  focus kernel_rfl
  apply chP_pure
  focus
    intro xx w' hk hF
    apply wr_move; exact rfl; with_reducible (conv => enter [6, 3]; whnf)
    apply wr_nil
    exact ⟨rfl, Keeps.refl _ _⟩
  focus (intro xx yy h; rfl)
  focus kernel_rfl
  apply chP_pure
  focus
    intro xx w' hk hF
    refine wr_call (vs := [SetV bA (.slice bn bl.length bc), S x]) rfl (refHas_ca _ rfl hxl (hRb hk) (by dsimp only; omega)) rfl ?_
    rintro v w'' ⟨rfl, hkc⟩
    apply wr_nil
    exact ⟨rfl, hkc⟩
  focus (intro xx yy h; rfl)
  focus kernel_rfl
  apply chP_pure
  focus
    intro xx w' hk hF
    refine wr_boolEq (c := true) rfl rfl rfl (by simp) ?_
    apply wr_nil
    exact ⟨rfl, Keeps.refl _ _⟩
  focus (intro xx yy h; rfl)
  focus kernel_rfl
  apply chP_pure
  focus
    intro xx w' hk hF
    first
    | (apply wr_pick (t := true); (iterate 2 exact rfl); with_reducible (conv => enter [6, 3]; whnf); apply wr_nil; exact ⟨rfl, Keeps.refl _ _⟩)
    | (apply wr_pick (t := false); (iterate 2 exact rfl); with_reducible (conv => enter [6, 3]; whnf); apply wr_nil; exact ⟨rfl, Keeps.refl _ _⟩)
  focus (intro xx yy h; rfl)
  focus kernel_rfl
  apply chP_pure
  focus
    intro xx w' hk hF
    apply wr_move; exact rfl; with_reducible (conv => enter [6, 3]; whnf)
    apply wr_nil
    exact ⟨rfl, Keeps.refl _ _⟩
  focus (intro xx yy h; rfl)
  focus kernel_rfl
  apply chP_pure
  focus
    intro xx w' hk hF
    refine wr_loadAll (cs := [.bool bA, .slice an bl.length ac]) rfl rfl rfl ((hk0 hk).heap hca4 (fun h => h)) rfl ?_
    apply wr_nil
    exact ⟨rfl, Keeps.refl _ _⟩
  focus (intro xx yy h; rfl)
  focus kernel_rfl
  apply chP_pure
  focus
    intro xx w' hk hF
    refine wr_call (vs := [SetV bA (.slice an bl.length ac), S [97]]) rfl (has_cb _ rfl (by decide) (hRa hk) (by dsimp only; omega)) rfl ?_
    rintro v w'' ⟨rfl, hkc⟩
    apply wr_nil
    exact ⟨rfl, hkc⟩
  focus (intro xx yy h; rfl)
  focus kernel_rfl
  apply chP_pure
  focus
    intro xx w' hk hF
    refine wr_loadAll (cs := [.bool bA, .slice bn bl.length bc]) rfl rfl rfl ((hk0 hk).heap hcb4 (fun h => h)) rfl ?_
    apply wr_nil
    exact ⟨rfl, Keeps.refl _ _⟩
  focus (intro xx yy h; rfl)
  focus kernel_rfl
  apply chP_pure
  focus
    intro xx w' hk hF
    refine wr_call (vs := [SetV bA (.slice bn bl.length bc), S [97]]) rfl (refHas_ca _ rfl (by decide) (hRb hk) (by dsimp only; omega)) rfl ?_
    rintro v w'' ⟨rfl, hkc⟩
    apply wr_nil
    exact ⟨rfl, hkc⟩
  focus (intro xx yy h; rfl)
  focus kernel_rfl
  apply chP_pure
  focus
    intro xx w' hk hF
    refine wr_boolEq (c := true) rfl rfl rfl (by simp) ?_
    apply wr_nil
    exact ⟨rfl, Keeps.refl _ _⟩
  focus (intro xx yy h; rfl)
  focus kernel_rfl
  apply chP_pure
  focus
    intro xx w' hk hF
    first
    | (apply wr_pick (t := true); (iterate 2 exact rfl); with_reducible (conv => enter [6, 3]; whnf); apply wr_nil; exact ⟨rfl, Keeps.refl _ _⟩)
    | (apply wr_pick (t := false); (iterate 2 exact rfl); with_reducible (conv => enter [6, 3]; whnf); apply wr_nil; exact ⟨rfl, Keeps.refl _ _⟩)
  focus (intro xx yy h; rfl)
  focus kernel_rfl
  apply chP_pure
  focus
    intro xx w' hk hF
    apply wr_move; exact rfl; with_reducible (conv => enter [6, 3]; whnf)
    apply wr_nil
    exact ⟨rfl, Keeps.refl _ _⟩
  focus (intro xx yy h; rfl)
  focus kernel_rfl
  apply chP_pure
  focus
    intro xx w' hk hF
    refine wr_loadAll (cs := [.bool bA, .slice an bl.length ac]) rfl rfl rfl ((hk0 hk).heap hca4 (fun h => h)) rfl ?_
    apply wr_nil
    exact ⟨rfl, Keeps.refl _ _⟩
  focus (intro xx yy h; rfl)
  focus kernel_rfl
  apply chP_pure
  focus
    intro xx w' hk hF
    refine wr_call (vs := [SetV bA (.slice an bl.length ac)]) rfl (empty_cb _ rfl (hRa hk)) rfl ?_
    rintro v w'' ⟨rfl, hkc⟩
    apply wr_nil
    exact ⟨rfl, hkc⟩
  focus (intro xx yy h; rfl)
  focus kernel_rfl
  apply chP_pure
  focus
    intro xx w' hk hF
    refine wr_loadAll (cs := [.bool bA, .slice bn bl.length bc]) rfl rfl rfl ((hk0 hk).heap hcb4 (fun h => h)) rfl ?_
    apply wr_nil
    exact ⟨rfl, Keeps.refl _ _⟩
  focus (intro xx yy h; rfl)
  focus kernel_rfl
  apply chP_pure
  focus
    intro xx w' hk hF
    refine wr_call (vs := [SetV bA (.slice bn bl.length bc)]) rfl (refEmpty_ca _ rfl (hRb hk)) rfl ?_
    rintro v w'' ⟨rfl, hkc⟩
    apply wr_nil
    exact ⟨rfl, hkc⟩
  focus (intro xx yy h; rfl)
  focus kernel_rfl
  apply chP_pure
  focus
    intro xx w' hk hF
    refine wr_boolEq (c := true) rfl rfl rfl (by simp) ?_
    apply wr_nil
    exact ⟨rfl, Keeps.refl _ _⟩
  focus (intro xx yy h; rfl)
  focus kernel_rfl
  apply chP_pure
  focus
    intro xx w' hk hF
    first
    | (apply wr_pick (t := true); (iterate 2 exact rfl); with_reducible (conv => enter [6, 3]; whnf); apply wr_nil; exact ⟨rfl, Keeps.refl _ _⟩)
    | (apply wr_pick (t := false); (iterate 2 exact rfl); with_reducible (conv => enter [6, 3]; whnf); apply wr_nil; exact ⟨rfl, Keeps.refl _ _⟩)
  focus (intro xx yy h; rfl)
  focus kernel_rfl
  refine chP_nil ?_
  intro xx wz hkz hF
  (repeat first | (apply wr_assign; exact rfl; with_reducible (conv => enter [6, 3]; whnf)) | apply wr_end | (apply wc_ret; try simp only [thenE, inBlockE, bodyQ]))
  exact leave1 (v := .bool true) rfl rfl ⟨rfl, ((hkwb.trans hk3).trans hk4).trans (hk0 hkz)⟩
end Go.Proofs.YtfdpnkmchedeeaaDoor
