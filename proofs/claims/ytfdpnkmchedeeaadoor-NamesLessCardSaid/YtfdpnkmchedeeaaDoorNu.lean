/- NamesLess: the walk. Written by gen_less.py. -/
import Derived.Test.YtfdpnkmchedeeaaDoorNr
namespace Go.Proofs.YtfdpnkmchedeeaaDoor
open Go Go.V Go.RowKit
set_option linter.unusedVariables false
set_option linter.unusedSimpArgs false

set_option maxRecDepth 100000 in
set_option maxHeartbeats 8000000 in
theorem less_law (l m : List Nat) (lv mv : Value) (w : World) (hl : SlR w 1 lv l.length (IB l)) (hm : SlR w 1 mv m.length (IB m)) (hl8 : ∀ x ∈ l, x < 256) (hm8 : ∀ x ∈ m, x < 256) :
    Ca Tryd.prog 6 #[lv, mv] w fun v w' => v = .bool true ∧ Keeps NoB w w' := by
  refine ca_of_body (args := [lv, mv]) Tryd.func6 rfl (by kernel_rfl) ?_
  (repeat first | (apply wr_assign; exact rfl; with_reducible (conv => enter [6, 3]; whnf)) | apply wr_end | apply wc_seq | apply wc_region)
  refine wr_call (vs := []) rfl (examples_ca w) rfl ?_
  rintro v w0 ⟨rfl, hk0w⟩
  (repeat first | (apply wr_move; exact rfl; with_reducible (conv => enter [6, 3]; whnf)) | (apply wr_assign; exact rfl; with_reducible (conv => enter [6, 3]; whnf)) | apply wr_end | apply wc_seq | apply wc_region | apply wc_skip | (apply wr_not; iterate 2 exact rfl) | (apply wc_false; exact rfl))
  refine wr_call (vs := [lv]) rfl (few_ca l lv w0 (hl.keep hk0w (fun _ _ h => h)) hl8) rfl ?_
  rintro v waf ⟨ho, hkaf⟩
  skip
  refine wr_call (vs := [v]) rfl (of_ca (fewF l) v waf (SlR.of_own ho) (Nat.le_trans (fewF_le l) (by decide)) (fewF_ok l)) rfl ?_
  rintro v wao ⟨hR, hkao⟩
  have hfa := ofP_fine (fewF l)
  have hla := Nat.le_trans (ofP_le (fewF l)) (fewF_le l)
  have hma := hkaf.trans hkao
  obtain ⟨aQ, hae⟩ : ∃ s, s = ofP (fewF l) := ⟨_, rfl⟩
  rw [← hae] at hR
  obtain ⟨aA, al⟩ := aQ
  obtain ⟨av, rfl, har⟩ := hR
  dsimp only at har
  obtain ⟨an, ac, rfl, _, _⟩ := slr_strs har
  (repeat first | (apply wr_alloc; exact rfl))
  refine wr_storeAll (cs := [.bool aA, .slice an al.length ac]) rfl rfl rfl (by intro u hu; simp at hu; rcases hu with rfl | rfl <;> rfl) (heap_alloc_same _ _) rfl rfl ?_
  refine wr_name ?_
  intro wa hwa
  obtain ⟨ba, hba⟩ : ∃ ba, ba = wao.heap.size := ⟨_, rfl⟩
  have hka : Keeps NoB wao wa := by rw [hwa]; exact ((Keeps.refl NoB wao).alloc _).put _ (fun h => by omega)
  have hca : wa.heap[ba]? = some (.cells #[.bool aA, .slice an al.length ac] 27 (0, 0)) := by rw [hwa, hba]; exact World.putObj_heap_same (by simp)
  rw [← hba]
  clear hwa
  replace har := har.keep hka (fun _ _ h => h)
  have hkka := hma.trans hka
  have hkw_wa : Keeps NoB w wa := hk0w.trans hkka
  rw [← hae] at hfa hla
  dsimp only at hla
  (repeat first | (apply wr_move; exact rfl; with_reducible (conv => enter [6, 3]; whnf)) | apply wr_end | apply wc_seq | apply wc_region)
  refine wr_call (vs := [mv]) rfl (few_ca m mv wa (hm.keep hkw_wa (fun _ _ h => h)) hm8) rfl ?_
  rintro v wbf ⟨ho, hkbf⟩
  skip
  refine wr_call (vs := [v]) rfl (of_ca (fewF m) v wbf (SlR.of_own ho) (Nat.le_trans (fewF_le m) (by decide)) (fewF_ok m)) rfl ?_
  rintro v wbo ⟨hR, hkbo⟩
  have hfb := ofP_fine (fewF m)
  have hlb := Nat.le_trans (ofP_le (fewF m)) (fewF_le m)
  have hmb := hkbf.trans hkbo
  obtain ⟨bQ, hbe⟩ : ∃ s, s = ofP (fewF m) := ⟨_, rfl⟩
  rw [← hbe] at hR
  obtain ⟨bA, bl⟩ := bQ
  obtain ⟨bv, rfl, hbr⟩ := hR
  dsimp only at hbr
  obtain ⟨bn, bc, rfl, _, _⟩ := slr_strs hbr
  (repeat first | (apply wr_alloc; exact rfl))
  refine wr_storeAll (cs := [.bool bA, .slice bn bl.length bc]) rfl rfl rfl (by intro u hu; simp at hu; rcases hu with rfl | rfl <;> rfl) (heap_alloc_same _ _) rfl rfl ?_
  refine wr_name ?_
  intro wb hwb
  obtain ⟨bb, hbb⟩ : ∃ bb, bb = wbo.heap.size := ⟨_, rfl⟩
  have hkb : Keeps NoB wbo wb := by rw [hwb]; exact ((Keeps.refl NoB wbo).alloc _).put _ (fun h => by omega)
  have hcb : wb.heap[bb]? = some (.cells #[.bool bA, .slice bn bl.length bc] 27 (0, 0)) := by rw [hwb, hbb]; exact World.putObj_heap_same (by simp)
  rw [← hbb]
  clear hwb
  replace hbr := hbr.keep hkb (fun _ _ h => h)
  have hkkb := hmb.trans hkb
  replace har := har.keep hkkb (fun _ _ h => h)
  replace hca := hkkb.heap hca (fun h => h)
  have hkw_wb : Keeps NoB w wb := hkw_wa.trans hkkb
  rw [← hbe] at hfb hlb
  dsimp only at hlb
  (repeat first | apply wr_end | apply wc_seq | apply wc_region)
  refine wr_loadAll (cs := [.bool aA, .slice an al.length ac]) rfl rfl rfl hca rfl ?_
  refine wr_loadAll (cs := [.bool bA, .slice bn bl.length bc]) rfl rfl rfl hcb rfl ?_
  refine wr_call (vs := [SetV aA (.slice an al.length ac), SetV bA (.slice bn bl.length bc)]) rfl (less_ca (aA, al) (bA, bl) _ _ wb ⟨_, rfl, har⟩ ⟨_, rfl, hbr⟩ (by dsimp only; omega) (by dsimp only; omega)) rfl ?_
  rintro v wmoq ⟨hR, hkmoq⟩
  replace hR : SetR wmoq (lessP (aA, al) (bA, bl)) v := hR
  obtain ⟨moQ, hmoe⟩ : ∃ s, s = lessP (aA, al) (bA, bl) := ⟨_, rfl⟩
  rw [← hmoe] at hR
  obtain ⟨moA, mol⟩ := moQ
  obtain ⟨mov, rfl, hmor⟩ := hR
  dsimp only at hmor
  obtain ⟨mon, moc, rfl, _, _⟩ := slr_strs hmor
  (repeat first | (apply wr_alloc; exact rfl))
  refine wr_storeAll (cs := [.bool moA, .slice mon mol.length moc]) rfl rfl rfl (by intro u hu; simp at hu; rcases hu with rfl | rfl <;> rfl) (heap_alloc_same _ _) rfl rfl ?_
  refine wr_name ?_
  intro wmo hwmo
  obtain ⟨bmo, hbmo⟩ : ∃ bmo, bmo = wmoq.heap.size := ⟨_, rfl⟩
  have hkmo : Keeps NoB wmoq wmo := by rw [hwmo]; exact ((Keeps.refl NoB wmoq).alloc _).put _ (fun h => by omega)
  have hcmo : wmo.heap[bmo]? = some (.cells #[.bool moA, .slice mon mol.length moc] 27 (0, 0)) := by rw [hwmo, hbmo]; exact World.putObj_heap_same (by simp)
  rw [← hbmo]
  clear hwmo
  replace hmor := hmor.keep hkmo (fun _ _ h => h)
  have hkkmo := hkmoq.trans hkmo
  replace har := har.keep hkkmo (fun _ _ h => h)
  replace hca := hkkmo.heap hca (fun h => h)
  replace hbr := hbr.keep hkkmo (fun _ _ h => h)
  replace hcb := hkkmo.heap hcb (fun h => h)
  have hkw_wmo : Keeps NoB w wmo := hkw_wb.trans hkkmo
  have hlmo : mol.length ≤ 20 := by have h := lessP_le (aA, al) (bA, bl); rw [← hmoe] at h; dsimp only at h; omega
  have hfmo : Fine (moA, mol) := by rw [hmoe]; exact lessP_fine hfa
  (repeat first | apply wr_end | apply wc_seq | apply wc_region)
  refine wr_loadAll (cs := [.bool aA, .slice an al.length ac]) rfl rfl rfl hca rfl ?_
  refine wr_loadAll (cs := [.bool moA, .slice mon mol.length moc]) rfl rfl rfl hcmo rfl ?_
  refine wr_call (vs := [SetV aA (.slice an al.length ac), SetV moA (.slice mon mol.length moc)]) rfl (less_ca (aA, al) (moA, mol) _ _ wmo ⟨_, rfl, har⟩ ⟨_, rfl, hmor⟩ (by dsimp only; omega) (by dsimp only; omega)) rfl ?_
  rintro v wboq ⟨hR, hkboq⟩
  replace hR : SetR wboq (lessP (aA, al) (moA, mol)) v := hR
  obtain ⟨boQ, hboe⟩ : ∃ s, s = lessP (aA, al) (moA, mol) := ⟨_, rfl⟩
  rw [← hboe] at hR
  obtain ⟨boA, bol⟩ := boQ
  obtain ⟨bov, rfl, hbor⟩ := hR
  dsimp only at hbor
  obtain ⟨bon, boc, rfl, _, _⟩ := slr_strs hbor
  (repeat first | (apply wr_alloc; exact rfl))
  refine wr_storeAll (cs := [.bool boA, .slice bon bol.length boc]) rfl rfl rfl (by intro u hu; simp at hu; rcases hu with rfl | rfl <;> rfl) (heap_alloc_same _ _) rfl rfl ?_
  refine wr_name ?_
  intro wbo hwbo
  obtain ⟨bbo, hbbo⟩ : ∃ bbo, bbo = wboq.heap.size := ⟨_, rfl⟩
  have hkbo : Keeps NoB wboq wbo := by rw [hwbo]; exact ((Keeps.refl NoB wboq).alloc _).put _ (fun h => by omega)
  have hcbo : wbo.heap[bbo]? = some (.cells #[.bool boA, .slice bon bol.length boc] 27 (0, 0)) := by rw [hwbo, hbbo]; exact World.putObj_heap_same (by simp)
  rw [← hbbo]
  clear hwbo
  replace hbor := hbor.keep hkbo (fun _ _ h => h)
  have hkkbo := hkboq.trans hkbo
  replace har := har.keep hkkbo (fun _ _ h => h)
  replace hca := hkkbo.heap hca (fun h => h)
  replace hbr := hbr.keep hkkbo (fun _ _ h => h)
  replace hcb := hkkbo.heap hcb (fun h => h)
  replace hmor := hmor.keep hkkbo (fun _ _ h => h)
  replace hcmo := hkkbo.heap hcmo (fun h => h)
  have hkw_wbo : Keeps NoB w wbo := hkw_wmo.trans hkkbo
  have hlbo : bol.length ≤ 20 := by have h := lessP_le (aA, al) (moA, mol); rw [← hboe] at h; dsimp only at h; omega
  have hfbo : Fine (boA, bol) := by rw [hboe]; exact lessP_fine hfa
  (repeat first | apply wr_end | apply wc_seq | apply wc_region)
  refine wr_loadAll (cs := [.bool moA, .slice mon mol.length moc]) rfl rfl rfl hcmo rfl ?_
  refine wr_loadAll (cs := [.bool boA, .slice bon bol.length boc]) rfl rfl rfl hcbo rfl ?_
  refine wr_buildSlice (vs := [SetV moA (.slice mon mol.length moc), SetV boA (.slice bon bol.length boc)]) rfl rfl (by intro v hv; simp at hv; rcases hv with rfl | rfl <;> rfl) rfl (by decide) (by decide) (by decide) ?_
  refine wr_name ?_
  intro w1 hw1
  have hk_w1 : Keeps NoB wbo w1 := by rw [hw1]; exact (Keeps.refl NoB wbo).alloc _
  have hS_w1 : SetsAt w1 [((moA, mol), .slice mon mol.length moc), ((boA, bol), .slice bon bol.length boc)] (.slice (some ⟨wbo.heap.size, 0, none⟩) 2 2) := by
    rw [hw1]
    refine setsAt_alloc wbo [((moA, mol), .slice mon mol.length moc), ((boA, bol), .slice bon bol.length boc)] ?_
    intro x hx
    simp only [List.mem_cons, List.not_mem_nil, or_false] at hx
    rcases hx with rfl | rfl
    · exact hmor
    · exact hbor
  clear hw1
  replace har := har.keep hk_w1 (fun _ _ h => h)
  replace hca := hk_w1.heap hca (fun h => h)
  replace hbr := hbr.keep hk_w1 (fun _ _ h => h)
  replace hcb := hk_w1.heap hcb (fun h => h)
  replace hmor := hmor.keep hk_w1 (fun _ _ h => h)
  replace hcmo := hk_w1.heap hcmo (fun h => h)
  replace hbor := hbor.keep hk_w1 (fun _ _ h => h)
  replace hcbo := hk_w1.heap hcbo (fun h => h)
  have hkw_w1 : Keeps NoB w w1 := hkw_wbo.trans hk_w1
  refine wr_call (vs := [.slice (some ⟨wbo.heap.size, 0, none⟩) 2 2]) rfl (union_ca _ _ w1 hS_w1 (by simp) (by simp [uN]; omega)) rfl ?_
  rintro v wbaq ⟨hR, hkbaq⟩
  replace hR : SetR wbaq (unionP [(moA, mol), (boA, bol)]) v := hR
  obtain ⟨baQ, hbae⟩ : ∃ s, s = unionP [(moA, mol), (boA, bol)] := ⟨_, rfl⟩
  rw [← hbae] at hR
  obtain ⟨baA, bal⟩ := baQ
  obtain ⟨bav, rfl, hbar⟩ := hR
  dsimp only at hbar
  obtain ⟨ban, bac, rfl, _, _⟩ := slr_strs hbar
  (repeat first | (apply wr_alloc; exact rfl))
  refine wr_storeAll (cs := [.bool baA, .slice ban bal.length bac]) rfl rfl rfl (by intro u hu; simp at hu; rcases hu with rfl | rfl <;> rfl) (heap_alloc_same _ _) rfl rfl ?_
  refine wr_name ?_
  intro wba hwba
  obtain ⟨bba, hbba⟩ : ∃ bba, bba = wbaq.heap.size := ⟨_, rfl⟩
  have hkba : Keeps NoB wbaq wba := by rw [hwba]; exact ((Keeps.refl NoB wbaq).alloc _).put _ (fun h => by omega)
  have hcba : wba.heap[bba]? = some (.cells #[.bool baA, .slice ban bal.length bac] 27 (0, 0)) := by rw [hwba, hbba]; exact World.putObj_heap_same (by simp)
  rw [← hbba]
  clear hwba
  replace hbar := hbar.keep hkba (fun _ _ h => h)
  have hkkba := hkbaq.trans hkba
  replace har := har.keep hkkba (fun _ _ h => h)
  replace hca := hkkba.heap hca (fun h => h)
  replace hbr := hbr.keep hkkba (fun _ _ h => h)
  replace hcb := hkkba.heap hcb (fun h => h)
  replace hmor := hmor.keep hkkba (fun _ _ h => h)
  replace hcmo := hkkba.heap hcmo (fun h => h)
  replace hbor := hbor.keep hkkba (fun _ _ h => h)
  replace hcbo := hkkba.heap hcbo (fun h => h)
  have hkw_wba : Keeps NoB w wba := hkw_w1.trans hkkba
  have hlba : bal.length ≤ 40 := by have h := unionP_le [(moA, mol), (boA, bol)]; rw [← hbae] at h; simp at h; omega
  have hfba : Fine (baA, bal) := by rw [hbae]; exact union_fine2 hfmo hfbo
  have hk0 : ∀ {w'}, Keeps NoB wba.drew w' → Keeps NoB wba w' := fun hk => (Keeps.refl NoB wba).drew.trans hk
  have hRa : ∀ {w'}, Keeps NoB wba.drew w' → SetR w' (aA, al) (SetV aA (.slice an al.length ac)) := fun hk => ⟨_, rfl, har.keep (hk0 hk) (fun _ _ h => h)⟩
  have hRb : ∀ {w'}, Keeps NoB wba.drew w' → SetR w' (bA, bl) (SetV bA (.slice bn bl.length bc)) := fun hk => ⟨_, rfl, hbr.keep (hk0 hk) (fun _ _ h => h)⟩
  have hRmo : ∀ {w'}, Keeps NoB wba.drew w' → SetR w' (moA, mol) (SetV moA (.slice mon mol.length moc)) := fun hk => ⟨_, rfl, hmor.keep (hk0 hk) (fun _ _ h => h)⟩
  have hRbo : ∀ {w'}, Keeps NoB wba.drew w' → SetR w' (boA, bol) (SetV boA (.slice bon bol.length boc)) := fun hk => ⟨_, rfl, hbor.keep (hk0 hk) (fun _ _ h => h)⟩
  have hRba : ∀ {w'}, Keeps NoB wba.drew w' → SetR w' (baA, bal) (SetV baA (.slice ban bal.length bac)) := fun hk => ⟨_, rfl, hbar.keep (hk0 hk) (fun _ _ h => h)⟩
  (repeat first | apply wr_end | apply wc_seq)
  refine wc_drawP (l := _) 5 _ (by kernel_rfl) (by kernel_rfl) rfl (by kernel_rfl) (by kernel_rfl) (by decide) ?_
  apply chP_pure
  focus
    intro xx w' hk hF
    refine wr_loadAll (cs := [.bool aA, .slice an al.length ac]) rfl rfl rfl ((hk0 hk).heap hca (fun h => h)) rfl ?_
    apply wr_nil
    exact ⟨rfl, Keeps.refl _ _⟩
  focus (intro xx yy h; rfl)
  focus kernel_rfl
  apply chP_pure
  focus
    intro xx w' hk hF
    refine wr_loadAll (cs := [.bool bA, .slice bn bl.length bc]) rfl rfl rfl ((hk0 hk).heap hcb (fun h => h)) rfl ?_
    apply wr_nil
    exact ⟨rfl, Keeps.refl _ _⟩
  focus (intro xx yy h; rfl)
  focus kernel_rfl
  refine chP_fact (fun y => y) (fun y w' => SlR w' 1 y (listP (bA, bl)).length (SL (listP (bA, bl)))) (fun y w' w'' h k => h.keep k (fun _ _ h => h)) ?_ ?_
  focus
    intro xx w' hk hF
    refine wr_call (vs := [SetV bA (.slice bn bl.length bc)]) rfl (list_ca _ _ w' (hRb hk) (by dsimp only; omega)) rfl ?_
    rintro v w'' ⟨hR, hkc⟩
    apply wr_nil
    exact ⟨v, rfl, hR, hkc⟩
  refine chP_fact (fun y => y) (fun y w' => SetR w' (unionP [(aA, al), ofP (listP (bA, bl))]) y) (fun y w' w'' h k => h.keep k) ?_ ?_
  focus
    intro xx w' hk hF
    refine wr_call (vs := [SetV aA (.slice an al.length ac), xx 2]) rfl (add_ca (aA, al) (listP (bA, bl)) _ _ w' (hRa hk) (hF 2 (by kernel_rfl)) (by dsimp only; omega) (by have := listP_le (bA, bl); dsimp only at this; omega) (listP_ok hfb)) rfl ?_
    rintro v w'' ⟨hR, hkc⟩
    apply wr_nil
    exact ⟨v, rfl, hR, hkc⟩
  refine chP_fact (fun y => .pointer (some ⟨blkOf y, 0, none⟩)) (fun y w' => w'.heap[blkOf y]? = some (.cells (SetV false (.slice none 0 0)).cells 27 (0, 0)) ∧ wba.heap.size ≤ blkOf y) (fun y w' w'' h k => ⟨k.heap h.1 (fun h => h), h.2⟩) ?_ ?_
  focus
    intro xx w' hk hF
    apply wr_alloc
    focus exact rfl
    apply wr_nil
    exact ⟨.pointer (some ⟨w'.heap.size, 0, none⟩), rfl, ⟨heap_alloc_same _ _, hk.size⟩, (Keeps.refl _ _).alloc _⟩
  refine chP_nil ?_
  intro xx wgrp hkp hF
  have hkgrp := hk0 hkp
  obtain ⟨hcz, hgez⟩ : wgrp.heap[blkOf (xx 4)]? = some (.cells (SetV false (.slice none 0 0)).cells 27 (0, 0)) ∧ wba.heap.size ≤ blkOf (xx 4) := hF 4 (by decide)
  have hR : SetR wgrp (unionP [(aA, al), ofP (listP (bA, bl))]) (xx 3) := hF 3 (by decide)
  obtain ⟨bgr, hbgr⟩ : ∃ b, b = blkOf (xx 4) := ⟨_, rfl⟩
  rw [← hbgr] at hcz hgez
  obtain ⟨grQ, hgre⟩ : ∃ s, s = unionP [(aA, al), ofP (listP (bA, bl))] := ⟨_, rfl⟩
  rw [← hgre] at hR
  obtain ⟨grA, grl⟩ := grQ
  obtain ⟨grv, egr, hgrr⟩ := hR
  dsimp only at egr hgrr
  obtain ⟨grn, grc, rfl, _, _⟩ := slr_strs hgrr
  refine wr_storeAll (b := bgr) (cs := [.bool grA, .slice grn grl.length grc]) rfl (by rw [hbgr]) (by exact egr) (by intro u hu; simp at hu; rcases hu with rfl | rfl <;> rfl) hcz rfl rfl ?_
  refine wr_name ?_
  intro wgr hwgr
  have hkkgr : Keeps NoB wba wgr := by rw [hwgr]; exact hkgrp.put _ (fun h => by omega)
  have hcgr : wgr.heap[bgr]? = some (.cells #[.bool grA, .slice grn grl.length grc] 27 (0, 0)) := by rw [hwgr]; exact World.putObj_heap_same (lt_of_heap hcz)
  have hkzgr : Keeps (· = bgr) wgrp wgr := by rw [hwgr]; exact (Keeps.refl _ _).put _ (fun _ => rfl)
  replace hgrr : SlR wgr 1 (.slice grn grl.length grc) grl.length (SL grl) := slS_put hcz (by intro x h; cases h) rfl hgrr hkzgr
  clear hwgr
  apply wr_end
  refine wc_keep [(5, .bool true), (6, .pointer (some ⟨ba, 0, none⟩)), (7, .pointer (some ⟨bb, 0, none⟩)), (10, .pointer (some ⟨bba, 0, none⟩)), (11, .pointer (some ⟨bgr, 0, none⟩))] ⟨rfl, rfl, rfl, rfl, (by rw [hbgr]), trivial⟩ ?_
  intro fgr
  clear hF egr hkp hk0
  clear hRa
  clear hRb
  clear hRmo
  clear hRbo
  clear hRba
  replace har := har.keep hkkgr (fun _ _ h => h)
  replace hca := hkkgr.heap hca (fun h => h)
  replace hbr := hbr.keep hkkgr (fun _ _ h => h)
  replace hcb := hkkgr.heap hcb (fun h => h)
  replace hmor := hmor.keep hkkgr (fun _ _ h => h)
  replace hcmo := hkkgr.heap hcmo (fun h => h)
  replace hbor := hbor.keep hkkgr (fun _ _ h => h)
  replace hcbo := hkkgr.heap hcbo (fun h => h)
  replace hbar := hbar.keep hkkgr (fun _ _ h => h)
  replace hcba := hkkgr.heap hcba (fun h => h)
  have hkw_wgr : Keeps NoB w wgr := hkw_wba.trans hkkgr
  (repeat first | apply wc_seq)
  rw [ofP_listP hfb] at hgre
  have hlgr : grl.length ≤ 40 := by have h := unionP_le [(aA, al), (bA, bl)]; rw [← hgre] at h; simp at h; omega
  have hfgr : Fine (grA, grl) := by rw [hgre]; exact union_fine2 hfa hfb
  have hk0 : ∀ {w'}, Keeps NoB wgr.drew w' → Keeps NoB wgr w' := fun hk => (Keeps.refl NoB wgr).drew.trans hk
  have hRa : ∀ {w'}, Keeps NoB wgr.drew w' → SetR w' (aA, al) (SetV aA (.slice an al.length ac)) := fun hk => ⟨_, rfl, har.keep (hk0 hk) (fun _ _ h => h)⟩
  have hRb : ∀ {w'}, Keeps NoB wgr.drew w' → SetR w' (bA, bl) (SetV bA (.slice bn bl.length bc)) := fun hk => ⟨_, rfl, hbr.keep (hk0 hk) (fun _ _ h => h)⟩
  have hRmo : ∀ {w'}, Keeps NoB wgr.drew w' → SetR w' (moA, mol) (SetV moA (.slice mon mol.length moc)) := fun hk => ⟨_, rfl, hmor.keep (hk0 hk) (fun _ _ h => h)⟩
  have hRbo : ∀ {w'}, Keeps NoB wgr.drew w' → SetR w' (boA, bol) (SetV boA (.slice bon bol.length boc)) := fun hk => ⟨_, rfl, hbor.keep (hk0 hk) (fun _ _ h => h)⟩
  have hRba : ∀ {w'}, Keeps NoB wgr.drew w' → SetR w' (baA, bal) (SetV baA (.slice ban bal.length bac)) := fun hk => ⟨_, rfl, hbar.keep (hk0 hk) (fun _ _ h => h)⟩
  have hRgr : ∀ {w'}, Keeps NoB wgr.drew w' → SetR w' (grA, grl) (SetV grA (.slice grn grl.length grc)) := fun hk => ⟨_, rfl, hgrr.keep (hk0 hk) (fun _ _ h => h)⟩
  skip
  refine wc_drawP (l := _) 7 _ (by kernel_rfl) (by kernel_rfl) rfl (by kernel_rfl) (by kernel_rfl) (by decide) ?_
  apply chP_pure
  focus
    intro xx w' hk hF
    refine wr_loadAll (cs := [.bool grA, .slice grn grl.length grc]) rfl rfl rfl ((hk0 hk).heap hcgr (fun h => h)) rfl ?_
    apply wr_nil
    exact ⟨rfl, Keeps.refl _ _⟩
  focus (intro xx yy h; rfl)
  focus kernel_rfl
  apply chP_pure
  focus
    intro xx w' hk hF
    refine wr_loadAll (cs := [.bool bA, .slice bn bl.length bc]) rfl rfl rfl ((hk0 hk).heap hcb (fun h => h)) rfl ?_
    apply wr_nil
    exact ⟨rfl, Keeps.refl _ _⟩
  focus (intro xx yy h; rfl)
  focus kernel_rfl
  apply chP_pure
  focus
    intro xx w' hk hF
    refine wr_loadAll (cs := [.bool aA, .slice an al.length ac]) rfl rfl rfl ((hk0 hk).heap hca (fun h => h)) rfl ?_
    apply wr_nil
    exact ⟨rfl, Keeps.refl _ _⟩
  focus (intro xx yy h; rfl)
  focus kernel_rfl
  refine chP_fact (fun y => y) (fun y w' => SetR w' (lessP (bA, bl) (aA, al)) y) (fun y w' w'' h k => h.keep k) ?_ ?_
  focus
    intro xx w' hk hF
    refine wr_call (vs := [SetV bA (.slice bn bl.length bc), SetV aA (.slice an al.length ac)]) rfl (less_ca (bA, bl) (aA, al) _ _ w' (hRb hk) (hRa hk) (by dsimp only; omega) (by dsimp only; omega)) rfl ?_
    rintro v w'' ⟨hR, hkc⟩
    apply wr_nil
    exact ⟨v, rfl, hR, hkc⟩

  refine chP_fact (fun y => y) (fun y w' => SlR w' 1 y (listP (lessP (bA, bl) (aA, al))).length (SL (listP (lessP (bA, bl) (aA, al))))) (fun y w' w'' h k => h.keep k (fun _ _ h => h)) ?_ ?_
  focus
    intro xx w' hk hF
    refine wr_call (vs := [xx 3]) rfl (list_ca _ _ w' (hF 3 (by kernel_rfl)) (by have := lessP_le (bA, bl) (aA, al); dsimp only at this; omega)) rfl ?_
    rintro v w'' ⟨hR, hkc⟩
    apply wr_nil
    exact ⟨v, rfl, hR, hkc⟩
  refine chP_fact (fun y => y) (fun y w' => SetR w' (lessP (grA, grl) (ofP (listP (lessP (bA, bl) (aA, al))))) y) (fun y w' w'' h k => h.keep k) ?_ ?_
  focus
    intro xx w' hk hF
    refine wr_call (vs := [SetV grA (.slice grn grl.length grc), xx 4]) rfl (drop_ca (grA, grl) (listP (lessP (bA, bl) (aA, al))) _ _ w' (hRgr hk) (hF 4 (by kernel_rfl)) (by dsimp only; omega) (by have h1 := lessP_le (bA, bl) (aA, al); have h2 := listP_le (lessP (bA, bl) (aA, al)); dsimp only at h1; omega) (listP_ok (lessP_fine hfb))) rfl ?_
    rintro v w'' ⟨hR, hkc⟩
    apply wr_nil
    exact ⟨v, rfl, hR, hkc⟩
  refine chP_fact (fun y => .pointer (some ⟨blkOf y, 0, none⟩)) (fun y w' => w'.heap[blkOf y]? = some (.cells (SetV false (.slice none 0 0)).cells 27 (0, 0)) ∧ wgr.heap.size ≤ blkOf y) (fun y w' w'' h k => ⟨k.heap h.1 (fun h => h), h.2⟩) ?_ ?_
  focus
    intro xx w' hk hF
    apply wr_alloc
    focus exact rfl
    apply wr_nil
    exact ⟨.pointer (some ⟨w'.heap.size, 0, none⟩), rfl, ⟨heap_alloc_same _ _, hk.size⟩, (Keeps.refl _ _).alloc _⟩
  refine chP_nil ?_
  intro xx wshp hkp hF
  have hkshp := hk0 hkp
  obtain ⟨hcz, hgez⟩ : wshp.heap[blkOf (xx 6)]? = some (.cells (SetV false (.slice none 0 0)).cells 27 (0, 0)) ∧ wgr.heap.size ≤ blkOf (xx 6) := hF 6 (by decide)
  have hR : SetR wshp (lessP (grA, grl) (ofP (listP (lessP (bA, bl) (aA, al))))) (xx 5) := hF 5 (by decide)
  obtain ⟨bsh, hbsh⟩ : ∃ b, b = blkOf (xx 6) := ⟨_, rfl⟩
  rw [← hbsh] at hcz hgez
  obtain ⟨shQ, hshe⟩ : ∃ s, s = lessP (grA, grl) (ofP (listP (lessP (bA, bl) (aA, al)))) := ⟨_, rfl⟩
  rw [← hshe] at hR
  obtain ⟨shA, shl⟩ := shQ
  obtain ⟨shv, esh, hshr⟩ := hR
  dsimp only at esh hshr
  obtain ⟨shn, shc, rfl, _, _⟩ := slr_strs hshr
  refine wr_storeAll (b := bsh) (cs := [.bool shA, .slice shn shl.length shc]) rfl (by rw [hbsh]) (by exact esh) (by intro u hu; simp at hu; rcases hu with rfl | rfl <;> rfl) hcz rfl rfl ?_
  refine wr_name ?_
  intro wsh hwsh
  have hkksh : Keeps NoB wgr wsh := by rw [hwsh]; exact hkshp.put _ (fun h => by omega)
  have hcsh : wsh.heap[bsh]? = some (.cells #[.bool shA, .slice shn shl.length shc] 27 (0, 0)) := by rw [hwsh]; exact World.putObj_heap_same (lt_of_heap hcz)
  have hkzsh : Keeps (· = bsh) wshp wsh := by rw [hwsh]; exact (Keeps.refl _ _).put _ (fun _ => rfl)
  replace hshr : SlR wsh 1 (.slice shn shl.length shc) shl.length (SL shl) := slS_put hcz (by intro x h; cases h) rfl hshr hkzsh
  clear hwsh
  apply wr_end
  refine wc_keep [(5, .bool true), (6, .pointer (some ⟨ba, 0, none⟩)), (7, .pointer (some ⟨bb, 0, none⟩)), (10, .pointer (some ⟨bba, 0, none⟩)), (11, .pointer (some ⟨bgr, 0, none⟩)), (12, .pointer (some ⟨bsh, 0, none⟩))] ⟨rfl, rfl, rfl, rfl, rfl, (by rw [hbsh]), trivial⟩ ?_
  intro fsh
  clear hF esh hkp hk0
  clear hRa
  clear hRb
  clear hRmo
  clear hRbo
  clear hRba
  clear hRgr
  replace har := har.keep hkksh (fun _ _ h => h)
  replace hca := hkksh.heap hca (fun h => h)
  replace hbr := hbr.keep hkksh (fun _ _ h => h)
  replace hcb := hkksh.heap hcb (fun h => h)
  replace hmor := hmor.keep hkksh (fun _ _ h => h)
  replace hcmo := hkksh.heap hcmo (fun h => h)
  replace hbor := hbor.keep hkksh (fun _ _ h => h)
  replace hcbo := hkksh.heap hcbo (fun h => h)
  replace hbar := hbar.keep hkksh (fun _ _ h => h)
  replace hcba := hkksh.heap hcba (fun h => h)
  replace hgrr := hgrr.keep hkksh (fun _ _ h => h)
  replace hcgr := hkksh.heap hcgr (fun h => h)
  have hkw_wsh : Keeps NoB w wsh := hkw_wgr.trans hkksh
  (repeat first | apply wc_seq)
  rw [ofP_listP (lessP_fine hfb)] at hshe
  have hlsh : shl.length ≤ 40 := by have h := lessP_le (grA, grl) (lessP (bA, bl) (aA, al)); rw [← hshe] at h; dsimp only at h; omega
  have q1 : (baA, bal) = (aA, al) := by rw [hbae, hboe, hmoe]; exact less_back hfa
  have q3 : (shA, shl) = (aA, al) := by rw [hshe, hgre]; exact grow_shrink hfa hfb
  have hk0 : ∀ {w'}, Keeps NoB wsh.drew w' → Keeps NoB wsh w' := fun hk => (Keeps.refl NoB wsh).drew.trans hk
  have hRa : ∀ {w'}, Keeps NoB wsh.drew w' → SetR w' (aA, al) (SetV aA (.slice an al.length ac)) := fun hk => ⟨_, rfl, har.keep (hk0 hk) (fun _ _ h => h)⟩
  have hRb : ∀ {w'}, Keeps NoB wsh.drew w' → SetR w' (bA, bl) (SetV bA (.slice bn bl.length bc)) := fun hk => ⟨_, rfl, hbr.keep (hk0 hk) (fun _ _ h => h)⟩
  have hRmo : ∀ {w'}, Keeps NoB wsh.drew w' → SetR w' (moA, mol) (SetV moA (.slice mon mol.length moc)) := fun hk => ⟨_, rfl, hmor.keep (hk0 hk) (fun _ _ h => h)⟩
  have hRbo : ∀ {w'}, Keeps NoB wsh.drew w' → SetR w' (boA, bol) (SetV boA (.slice bon bol.length boc)) := fun hk => ⟨_, rfl, hbor.keep (hk0 hk) (fun _ _ h => h)⟩
  have hRba : ∀ {w'}, Keeps NoB wsh.drew w' → SetR w' (baA, bal) (SetV baA (.slice ban bal.length bac)) := fun hk => ⟨_, rfl, hbar.keep (hk0 hk) (fun _ _ h => h)⟩
  have hRgr : ∀ {w'}, Keeps NoB wsh.drew w' → SetR w' (grA, grl) (SetV grA (.slice grn grl.length grc)) := fun hk => ⟨_, rfl, hgrr.keep (hk0 hk) (fun _ _ h => h)⟩
  have hRsh : ∀ {w'}, Keeps NoB wsh.drew w' → SetR w' (shA, shl) (SetV shA (.slice shn shl.length shc)) := fun hk => ⟨_, rfl, hshr.keep (hk0 hk) (fun _ _ h => h)⟩
  skip
  refine wc_drawP (l := _) 40 _ (by kernel_rfl) (by kernel_rfl) rfl (by kernel_rfl) (by kernel_rfl) (by decide) ?_
  apply chP_pure
  focus
    intro xx w' hk hF
    apply wr_move; exact rfl; with_reducible (conv => enter [6, 3]; whnf)
    apply wr_nil
    exact ⟨rfl, Keeps.refl _ _⟩
  focus (intro xx yy h; rfl)
  focus kernel_rfl
  apply chP_pure
  focus
    intro xx w' hk hF
    apply wr_move; exact rfl; with_reducible (conv => enter [6, 3]; whnf)
    apply wr_nil
    exact ⟨rfl, Keeps.refl _ _⟩
  focus (intro xx yy h; rfl)
  focus kernel_rfl
  apply chP_pure
  focus
    intro xx w' hk hF
    refine wr_loadAll (cs := [.bool baA, .slice ban bal.length bac]) rfl rfl rfl ((hk0 hk).heap hcba (fun h => h)) rfl ?_
    apply wr_nil
    exact ⟨rfl, Keeps.refl _ _⟩
  focus (intro xx yy h; rfl)
  focus kernel_rfl
  apply chP_pure
  focus
    intro xx w' hk hF
    refine wr_loadAll (cs := [.bool aA, .slice an al.length ac]) rfl rfl rfl ((hk0 hk).heap hca (fun h => h)) rfl ?_
    apply wr_nil
    exact ⟨rfl, Keeps.refl _ _⟩
  focus (intro xx yy h; rfl)
  focus kernel_rfl
  apply chP_pure
  focus
    intro xx w' hk hF
    refine wr_call (vs := [SetV baA (.slice ban bal.length bac), SetV aA (.slice an al.length ac)]) rfl (same_cb true (same_eq q1) (hRba hk) (hRa hk) (by dsimp only; omega) (by dsimp only; omega)) rfl ?_
    rintro v w'' ⟨rfl, hkc⟩
    apply wr_nil
    exact ⟨rfl, hkc⟩
  focus (intro xx yy h; rfl)
  focus kernel_rfl
  apply chP_pure
  focus
    intro xx w' hk hF
    first
    | (apply wr_pick (t := true); (iterate 2 exact rfl); with_reducible (conv => enter [6, 3]; whnf); apply wr_nil; exact ⟨rfl, Keeps.refl _ _⟩)
    | (apply wr_pick (t := false); (iterate 2 exact rfl); with_reducible (conv => enter [6, 3]; whnf); apply wr_nil; exact ⟨rfl, Keeps.refl _ _⟩)
  focus (intro xx yy h; rfl)
  focus kernel_rfl
  apply chP_pure
  focus
    intro xx w' hk hF
    apply wr_move; exact rfl; with_reducible (conv => enter [6, 3]; whnf)
    apply wr_nil
    exact ⟨rfl, Keeps.refl _ _⟩
  focus (intro xx yy h; rfl)
  focus kernel_rfl
  apply chP_pure
  focus
    intro xx w' hk hF
    refine wr_loadAll (cs := [.bool aA, .slice an al.length ac]) rfl rfl rfl ((hk0 hk).heap hca (fun h => h)) rfl ?_
    apply wr_nil
    exact ⟨rfl, Keeps.refl _ _⟩
  focus (intro xx yy h; rfl)
  focus kernel_rfl
  apply chP_pure
  focus
    intro xx w' hk hF
    refine wr_loadAll (cs := [.bool aA, .slice an al.length ac]) rfl rfl rfl ((hk0 hk).heap hca (fun h => h)) rfl ?_
    apply wr_nil
    exact ⟨rfl, Keeps.refl _ _⟩
  focus (intro xx yy h; rfl)
  focus kernel_rfl
  refine chP_fact (fun y => y) (fun y w' => SetR w' (lessP (aA, al) (aA, al)) y) (fun y w' w'' h k => h.keep k) ?_ ?_
  focus
    intro xx w' hk hF
    refine wr_call (vs := [SetV aA (.slice an al.length ac), SetV aA (.slice an al.length ac)]) rfl (less_ca (aA, al) (aA, al) _ _ w' (hRa hk) (hRa hk) (by dsimp only; omega) (by dsimp only; omega)) rfl ?_
    rintro v w'' ⟨hR, hkc⟩
    apply wr_nil
    exact ⟨v, rfl, hR, hkc⟩
  apply chP_pure
  focus
    intro xx w' hk hF
    refine wr_call (vs := [xx 9]) rfl (empty_cb true (by rw [less_self]; rfl) (hF 9 (by kernel_rfl))) rfl ?_
    rintro v w'' ⟨rfl, hkc⟩
    apply wr_nil
    exact ⟨rfl, hkc⟩
  focus (intro xx yy h; rfl)
  focus kernel_rfl
  apply chP_pure
  focus
    intro xx w' hk hF
    first
    | (apply wr_pick (t := true); (iterate 2 exact rfl); with_reducible (conv => enter [6, 3]; whnf); apply wr_nil; exact ⟨rfl, Keeps.refl _ _⟩)
    | (apply wr_pick (t := false); (iterate 2 exact rfl); with_reducible (conv => enter [6, 3]; whnf); apply wr_nil; exact ⟨rfl, Keeps.refl _ _⟩)
  focus (intro xx yy h; rfl)
  focus kernel_rfl
  apply chP_pure
  focus
    intro xx w' hk hF
    apply wr_move; exact rfl; with_reducible (conv => enter [6, 3]; whnf)
    apply wr_nil
    exact ⟨rfl, Keeps.refl _ _⟩
  focus (intro xx yy h; rfl)
  focus kernel_rfl
  apply chP_pure
  focus
    intro xx w' hk hF
    refine wr_loadAll (cs := [.bool shA, .slice shn shl.length shc]) rfl rfl rfl ((hk0 hk).heap hcsh (fun h => h)) rfl ?_
    apply wr_nil
    exact ⟨rfl, Keeps.refl _ _⟩
  focus (intro xx yy h; rfl)
  focus kernel_rfl
  apply chP_pure
  focus
    intro xx w' hk hF
    refine wr_loadAll (cs := [.bool aA, .slice an al.length ac]) rfl rfl rfl ((hk0 hk).heap hca (fun h => h)) rfl ?_
    apply wr_nil
    exact ⟨rfl, Keeps.refl _ _⟩
  focus (intro xx yy h; rfl)
  focus kernel_rfl
  apply chP_pure
  focus
    intro xx w' hk hF
    refine wr_call (vs := [SetV shA (.slice shn shl.length shc), SetV aA (.slice an al.length ac)]) rfl (same_cb true (same_eq q3) (hRsh hk) (hRa hk) (by dsimp only; omega) (by dsimp only; omega)) rfl ?_
    rintro v w'' ⟨rfl, hkc⟩
    apply wr_nil
    exact ⟨rfl, hkc⟩
  focus (intro xx yy h; rfl)
  focus kernel_rfl
  apply chP_pure
  focus
    intro xx w' hk hF
    first
    | (apply wr_pick (t := true); (iterate 2 exact rfl); with_reducible (conv => enter [6, 3]; whnf); apply wr_nil; exact ⟨rfl, Keeps.refl _ _⟩)
    | (apply wr_pick (t := false); (iterate 2 exact rfl); with_reducible (conv => enter [6, 3]; whnf); apply wr_nil; exact ⟨rfl, Keeps.refl _ _⟩)
  focus (intro xx yy h; rfl)
  focus kernel_rfl
  apply chP_pure
  focus
    intro xx w' hk hF
    apply wr_move; exact rfl; with_reducible (conv => enter [6, 3]; whnf)
    apply wr_nil
    exact ⟨rfl, Keeps.refl _ _⟩
  focus (intro xx yy h; rfl)
  focus kernel_rfl
  apply chP_pure
  focus
    intro xx w' hk hF
    refine wr_loadAll (cs := [.bool grA, .slice grn grl.length grc]) rfl rfl rfl ((hk0 hk).heap hcgr (fun h => h)) rfl ?_
    apply wr_nil
    exact ⟨rfl, Keeps.refl _ _⟩
  focus (intro xx yy h; rfl)
  focus kernel_rfl
  apply chP_pure
  focus
    intro xx w' hk hF
    refine wr_loadAll (cs := [.bool aA, .slice an al.length ac]) rfl rfl rfl ((hk0 hk).heap hca (fun h => h)) rfl ?_
    apply wr_nil
    exact ⟨rfl, Keeps.refl _ _⟩
  focus (intro xx yy h; rfl)
  focus kernel_rfl
  apply chP_pure
  focus
    intro xx w' hk hF
    refine wr_loadAll (cs := [.bool bA, .slice bn bl.length bc]) rfl rfl rfl ((hk0 hk).heap hcb (fun h => h)) rfl ?_
    apply wr_nil
    exact ⟨rfl, Keeps.refl _ _⟩
  focus (intro xx yy h; rfl)
  focus kernel_rfl
  refine chP_fact (fun y => y) (fun y w' => SetsAt w' [((aA, al), .slice an al.length ac), ((bA, bl), .slice bn bl.length bc)] y) (fun y w' w'' h k => h.keep k) ?_ ?_
  focus
    intro xx w' hk hF
    refine wr_buildSlice (vs := [SetV aA (.slice an al.length ac), SetV bA (.slice bn bl.length bc)]) rfl rfl (by intro v hv; simp at hv; rcases hv with rfl | rfl <;> rfl) rfl (by decide) (by decide) (by decide) ?_
    apply wr_nil
    exact ⟨_, rfl, setsAt_alloc w' [((aA, al), .slice an al.length ac), ((bA, bl), .slice bn bl.length bc)] (by intro x hx; simp only [List.mem_cons, List.not_mem_nil, or_false] at hx; rcases hx with rfl | rfl; exact (har.keep (hk0 hk) (fun _ _ h => h)); exact (hbr.keep (hk0 hk) (fun _ _ h => h))), (Keeps.refl NoB w').alloc _⟩
  refine chP_fact (fun y => y) (fun y w' => SetR w' (unionP [(aA, al), (bA, bl)]) y) (fun y w' w'' h k => h.keep k) ?_ ?_
  focus
    intro xx w' hk hF
    refine wr_call (vs := [xx 21]) rfl (union_ca _ _ w' (hF 21 (by kernel_rfl)) (by simp) (by simp [uN]; omega)) rfl ?_
    rintro v w'' ⟨hR, hkc⟩
    apply wr_nil
    exact ⟨v, rfl, hR, hkc⟩
  apply chP_pure
  focus
    intro xx w' hk hF
    refine wr_call (vs := [SetV grA (.slice grn grl.length grc), xx 22]) rfl (same_cb true (same_eq hgre) (hRgr hk) (hF 22 (by kernel_rfl)) (by dsimp only; omega) (by rw [← hgre]; dsimp only; omega)) rfl ?_
    rintro v w'' ⟨rfl, hkc⟩
    apply wr_nil
    exact ⟨rfl, hkc⟩
  focus (intro xx yy h; rfl)
  focus kernel_rfl
  apply chP_pure
  focus
    intro xx w' hk hF
    first
    | (apply wr_pick (t := true); (iterate 2 exact rfl); with_reducible (conv => enter [6, 3]; whnf); apply wr_nil; exact ⟨rfl, Keeps.refl _ _⟩)
    | (apply wr_pick (t := false); (iterate 2 exact rfl); with_reducible (conv => enter [6, 3]; whnf); apply wr_nil; exact ⟨rfl, Keeps.refl _ _⟩)
  focus (intro xx yy h; rfl)
  focus kernel_rfl
  apply chP_pure
  focus
    intro xx w' hk hF
    apply wr_move; exact rfl; with_reducible (conv => enter [6, 3]; whnf)
    apply wr_nil
    exact ⟨rfl, Keeps.refl _ _⟩
  focus (intro xx yy h; rfl)
  focus kernel_rfl
  apply chP_pure
  focus
    intro xx w' hk hF
    refine wr_loadAll (cs := [.bool aA, .slice an al.length ac]) rfl rfl rfl ((hk0 hk).heap hca (fun h => h)) rfl ?_
    apply wr_nil
    exact ⟨rfl, Keeps.refl _ _⟩
  focus (intro xx yy h; rfl)
  focus kernel_rfl
  apply chP_pure
  focus
    intro xx w' hk hF
    refine wr_loadAll (cs := [.bool aA, .slice an al.length ac]) rfl rfl rfl ((hk0 hk).heap hca (fun h => h)) rfl ?_
    apply wr_nil
    exact ⟨rfl, Keeps.refl _ _⟩
  focus (intro xx yy h; rfl)
  focus kernel_rfl
  refine chP_fact (fun y => y) (fun y w' => SlR w' 1 y (listP (aA, al)).length (SL (listP (aA, al)))) (fun y w' w'' h k => h.keep k (fun _ _ h => h)) ?_ ?_
  focus
    intro xx w' hk hF
    refine wr_call (vs := [SetV aA (.slice an al.length ac)]) rfl (list_ca _ _ w' (hRa hk) (by dsimp only; omega)) rfl ?_
    rintro v w'' ⟨hR, hkc⟩
    apply wr_nil
    exact ⟨v, rfl, hR, hkc⟩
  refine chP_fact (fun y => y) (fun y w' => SetR w' (lessP (aA, al) (ofP (listP (aA, al)))) y) (fun y w' w'' h k => h.keep k) ?_ ?_
  focus
    intro xx w' hk hF
    refine wr_call (vs := [SetV aA (.slice an al.length ac), xx 28]) rfl (drop_ca (aA, al) (listP (aA, al)) _ _ w' (hRa hk) (hF 28 (by kernel_rfl)) (by dsimp only; omega) (by have := listP_le (aA, al); dsimp only at this; omega) (listP_ok hfa)) rfl ?_
    rintro v w'' ⟨hR, hkc⟩
    apply wr_nil
    exact ⟨v, rfl, hR, hkc⟩
  apply chP_pure
  focus
    intro xx w' hk hF
    refine wr_build (ps := []) (cs := [.bool false, .slice none 0 0]) rfl rfl rfl rfl ?_
    apply wr_nil
    exact ⟨rfl, Keeps.refl _ _⟩
  focus (intro xx yy h; rfl)
  focus kernel_rfl
  apply chP_pure
  focus
    intro xx w' hk hF
    refine wr_call (vs := [xx 29, SetV false (.slice none 0 0)]) rfl (same_cb true (same_eq (by rw [ofP_listP hfa]; exact less_self _)) (hF 29 (by kernel_rfl)) (setR_nil w') (by have := lessP_le (aA, al) (ofP (listP (aA, al))); dsimp only at this; omega) (by simp)) rfl ?_
    rintro v w'' ⟨rfl, hkc⟩
    apply wr_nil
    exact ⟨rfl, hkc⟩
  focus (intro xx yy h; rfl)
  focus kernel_rfl
  apply chP_pure
  focus
    intro xx w' hk hF
    first
    | (apply wr_pick (t := true); (iterate 2 exact rfl); with_reducible (conv => enter [6, 3]; whnf); apply wr_nil; exact ⟨rfl, Keeps.refl _ _⟩)
    | (apply wr_pick (t := false); (iterate 2 exact rfl); with_reducible (conv => enter [6, 3]; whnf); apply wr_nil; exact ⟨rfl, Keeps.refl _ _⟩)
  focus (intro xx yy h; rfl)
  focus kernel_rfl
  apply chP_pure
  focus
    intro xx w' hk hF
    apply wr_move; exact rfl; with_reducible (conv => enter [6, 3]; whnf)
    apply wr_nil
    exact ⟨rfl, Keeps.refl _ _⟩
  focus (intro xx yy h; rfl)
  focus kernel_rfl
  apply chP_pure
  focus
    intro xx w' hk hF
    refine wr_loadAll (cs := [.bool aA, .slice an al.length ac]) rfl rfl rfl ((hk0 hk).heap hca (fun h => h)) rfl ?_
    apply wr_nil
    exact ⟨rfl, Keeps.refl _ _⟩
  focus (intro xx yy h; rfl)
  focus kernel_rfl
  refine chP_fact (fun y => y) (fun y w' => SlR w' 1 y (listP (aA, al)).length (SL (listP (aA, al)))) (fun y w' w'' h k => h.keep k (fun _ _ h => h)) ?_ ?_
  focus
    intro xx w' hk hF
    refine wr_call (vs := [SetV aA (.slice an al.length ac)]) rfl (list_ca _ _ w' (hRa hk) (by dsimp only; omega)) rfl ?_
    rintro v w'' ⟨hR, hkc⟩
    apply wr_nil
    exact ⟨v, rfl, hR, hkc⟩
  refine chP_fact (fun y => y) (fun y w' => SetR w' (ofP (listP (aA, al))) y) (fun y w' w'' h k => h.keep k) ?_ ?_
  focus
    intro xx w' hk hF
    refine wr_call (vs := [xx 35]) rfl (of_ca (listP (aA, al)) _ w' (hF 35 (by kernel_rfl)) (by have := listP_le (aA, al); dsimp only at this; omega) (listP_ok hfa)) rfl ?_
    rintro v w'' ⟨hR, hkc⟩
    apply wr_nil
    exact ⟨v, rfl, hR, hkc⟩
  apply chP_pure
  focus
    intro xx w' hk hF
    refine wr_loadAll (cs := [.bool aA, .slice an al.length ac]) rfl rfl rfl ((hk0 hk).heap hca (fun h => h)) rfl ?_
    apply wr_nil
    exact ⟨rfl, Keeps.refl _ _⟩
  focus (intro xx yy h; rfl)
  focus kernel_rfl
  apply chP_pure
  focus
    intro xx w' hk hF
    refine wr_call (vs := [xx 36, SetV aA (.slice an al.length ac)]) rfl (same_cb true (same_eq (ofP_listP hfa)) (hF 36 (by kernel_rfl)) (hRa hk) (by rw [ofP_listP hfa]; dsimp only; omega) (by dsimp only; omega)) rfl ?_
    rintro v w'' ⟨rfl, hkc⟩
    apply wr_nil
    exact ⟨rfl, hkc⟩
  focus (intro xx yy h; rfl)
  focus kernel_rfl
  apply chP_pure
  focus
    intro xx w' hk hF
    first
    | (apply wr_pick (t := true); (iterate 2 exact rfl); with_reducible (conv => enter [6, 3]; whnf); apply wr_nil; exact ⟨rfl, Keeps.refl _ _⟩)
    | (apply wr_pick (t := false); (iterate 2 exact rfl); with_reducible (conv => enter [6, 3]; whnf); apply wr_nil; exact ⟨rfl, Keeps.refl _ _⟩)
  focus (intro xx yy h; rfl)
  focus kernel_rfl
  refine chP_nil ?_
  intro xx wz hkz hF
  (repeat first | (apply wr_assign; exact rfl; with_reducible (conv => enter [6, 3]; whnf)) | apply wr_end | (apply wc_ret; try simp only [thenE, inBlockE, bodyQ]))
  exact leave1 (v := .bool true) rfl rfl ⟨rfl, hkw_wsh.trans (hk0 hkz)⟩
end Go.Proofs.YtfdpnkmchedeeaaDoor
