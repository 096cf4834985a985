/- NamesSets: the walk. Written by gen_sets.py. -/
import Derived.Test.YtfdpnkmchedeeaaDoorOe
namespace Go.Proofs.YtfdpnkmchedeeaaDoor
open Go Go.V Go.RowKit
set_option linter.unusedVariables false
set_option linter.unusedSimpArgs false

theorem setsAt_allocT (T : TypeId) (w : World) (L : List SE) (h : ∀ x ∈ L, SlR w 1 x.2 x.1.2.length (SL x.1.2)) : SetsAt (w.alloc (.cells ((L.map fun x => SetV x.1.1 x.2).flatMap (fun v => v.cells.toList)).toArray T)) L (.slice (some ⟨w.heap.size, 0, none⟩) L.length L.length) := by
  have e : (L.map fun x => SetV x.1.1 x.2).flatMap (fun v => v.cells.toList) = L.flatMap GSt := by
    rw [List.flatMap_map]; rfl
  have hl : (L.flatMap GSt).length = L.length * 2 := by
    clear h e
    induction L with
    | nil => rfl
    | cons x L ih =>
      rw [List.flatMap_cons, List.length_append, ih]
      simp [GSt]; omega
  refine ⟨⟨hl, _, _, rfl, Nat.le_refl _, .inr ⟨w.heap.size, 0, _, _, _, rfl, heap_alloc_same _ _, fun j hj => ?_⟩⟩, fun x hx => (h x hx).keep ((Keeps.refl NoB w).alloc _) (fun _ _ h => h)⟩
  rw [e, Nat.zero_add, List.getElem?_toArray]
theorem lawSame_t (s : PS) (sv tv : Value) (w : World) (hs : SetR w s sv) (ht : SetR w s tv) (hn : s.2.length ≤ 8796093022001) :
    Ca Tryd.prog 13 #[sv, tv] w fun v w' => v = .bool true ∧ Keeps NoB w w' := by
  refine (lawSame_ca s s sv tv w hs ht hn hn).mono ?_
  rintro v w' ⟨rfl, hk⟩
  exact ⟨by rw [same_eq rfl], hk⟩
theorem fewS_ca (l : List Nat) (sl : Value) (w : World) (hsl : SlR w 1 sl l.length (IB l)) (hb8 : ∀ x ∈ l, x < 256) :
    Ca Tryd.prog 10 #[sl] w fun v w' => SlR w' 1 v (fewF l).length (SL (fewF l)) ∧ Keeps NoB w w' := by
  refine (few_ca l sl w hsl hb8).mono ?_
  rintro v w' ⟨ho, hk⟩
  exact ⟨SlR.of_own ho, hk⟩
def rsTab : TX := [[97], [98], [99], [88], [104, 45, 49]]
def rsOf (x : Nat) : TT := rsTab.getD (x % 5) []
theorem rsTab_cell : ∀ j, j < 5 → (rsTab.map S).toArray[0 + j * 1]? = some (S (rsTab.getD j [])) := by
  intro j hj
  rw [Nat.zero_add, Nat.mul_one, List.getElem?_toArray, List.getElem?_map, List.getD_eq_getElem?_getD]
  have h2 : j < rsTab.length := hj
  simp [h2]
def rdAt (i q : Nat) : RD := (1, rsOf q, i, false, [])
def rdL (rs : List Nat) (k : Nat) : List RD := (List.range k).map fun i => rdAt i (rs.getD i 0)
theorem rdL_len (rs : List Nat) (k : Nat) : (rdL rs k).length = k := by simp [rdL]
theorem rdL_snoc {rs : List Nat} {k q : Nat} (h : rs[k]? = some q) : rdL rs (k + 1) = rdL rs k ++ [rdAt k q] := by
  unfold rdL
  rw [List.range_succ, List.map_append, List.map_singleton, List.getD_eq_getElem?_getD, h]; rfl
theorem rdL_ok (rs : List Nat) (k : Nat) : ∀ x ∈ rdL rs k, x.2.1.length ≤ 9223372036854775807 := by
  intro x hx
  simp only [rdL, List.mem_map] at hx
  obtain ⟨i, _, rfl⟩ := hx
  have h : ∀ j, j < 5 → (rsTab.getD j []).length ≤ 9223372036854775807 := by decide
  exact h _ (Nat.mod_lt _ (by decide))
set_option maxRecDepth 100000 in
set_option maxHeartbeats 16000000 in
theorem sets_law (l m n rs : List Nat) (lv mv nv rv : Value) (w : World) (hl : SlR w 1 lv l.length (IB l)) (hm : SlR w 1 mv m.length (IB m)) (hn : SlR w 1 nv n.length (IB n)) (hr : SlR w 1 rv rs.length (IB rs)) (hl8 : ∀ x ∈ l, x < 256) (hm8 : ∀ x ∈ m, x < 256) (hn8 : ∀ x ∈ n, x < 256) (hr8 : ∀ x ∈ rs, x < 256) :
    Ca Tryd.prog 8 #[lv, mv, nv, rv] w fun v w' => v = .bool true ∧ Keeps NoB w w' := by
  refine ca_of_body (args := [lv, mv, nv, rv]) Tryd.func8 rfl (by kernel_rfl) ?_
  (repeat first | (apply wr_assign; exact rfl; with_reducible (conv => enter [6, 3]; whnf)) | apply wr_end | apply wc_seq | apply wc_region)
  refine wr_call (vs := []) rfl (examples_ca w) rfl ?_
  rintro v w0 ⟨rfl, hk0w⟩
  (repeat first | (apply wr_move; exact rfl; with_reducible (conv => enter [6, 3]; whnf)) | (apply wr_assign; exact rfl; with_reducible (conv => enter [6, 3]; whnf)) | apply wr_end | apply wc_seq | apply wc_region | apply wc_skip | (apply wr_not; iterate 2 exact rfl) | (apply wc_false; exact rfl))
  refine wr_call (vs := [lv]) rfl (few_ca l lv w0 (hl.keep hk0w (fun _ _ h => h)) hl8) rfl ?_
  rintro v waf ⟨ho, hkaf⟩
  skip
  refine wr_call (vs := [v]) rfl (of_ca (fewF l) v waf (SlR.of_own ho) (Nat.le_trans (fewF_le l) (by decide)) (fewF_ok l)) rfl ?_
  rintro v wao ⟨hR, hkao⟩
  have hfa := ofP_fine (fewF l)
  have hla := Nat.le_trans (ofP_le (fewF l)) (fewF_le l)
  have hma := hkaf.trans hkao
  obtain ⟨aQ, hae⟩ : ∃ s, s = ofP (fewF l) := ⟨_, rfl⟩
  rw [← hae] at hR
  obtain ⟨aA, al⟩ := aQ
  obtain ⟨av, rfl, har⟩ := hR
  dsimp only at har
  obtain ⟨an, ac, rfl, _, _⟩ := slr_strs har
  (repeat first | (apply wr_alloc; exact rfl))
  refine wr_storeAll (cs := [.bool aA, .slice an al.length ac]) rfl rfl rfl (by intro u hu; simp at hu; rcases hu with rfl | rfl <;> rfl) (heap_alloc_same _ _) rfl rfl ?_
  refine wr_name ?_
  intro wa hwa
  obtain ⟨ba, hba⟩ : ∃ ba, ba = wao.heap.size := ⟨_, rfl⟩
  have hka : Keeps NoB wao wa := by rw [hwa]; exact ((Keeps.refl NoB wao).alloc _).put _ (fun h => by omega)
  have hca : wa.heap[ba]? = some (.cells #[.bool aA, .slice an al.length ac] 27 (0, 0)) := by rw [hwa, hba]; exact World.putObj_heap_same (by simp)
  rw [← hba]
  clear hwa
  replace har := har.keep hka (fun _ _ h => h)
  have hkka := hma.trans hka
  have hkw_wa : Keeps NoB w wa := hk0w.trans hkka
  rw [← hae] at hfa hla
  dsimp only at hla
  (repeat first | (apply wr_move; exact rfl; with_reducible (conv => enter [6, 3]; whnf)) | apply wr_end | apply wc_seq | apply wc_region)
  refine wr_call (vs := [mv]) rfl (few_ca m mv wa (hm.keep hkw_wa (fun _ _ h => h)) hm8) rfl ?_
  rintro v wbf ⟨ho, hkbf⟩
  skip
  refine wr_call (vs := [v]) rfl (of_ca (fewF m) v wbf (SlR.of_own ho) (Nat.le_trans (fewF_le m) (by decide)) (fewF_ok m)) rfl ?_
  rintro v wbo ⟨hR, hkbo⟩
  have hfb := ofP_fine (fewF m)
  have hlb := Nat.le_trans (ofP_le (fewF m)) (fewF_le m)
  have hmb := hkbf.trans hkbo
  obtain ⟨bQ, hbe⟩ : ∃ s, s = ofP (fewF m) := ⟨_, rfl⟩
  rw [← hbe] at hR
  obtain ⟨bA, bl⟩ := bQ
  obtain ⟨bv, rfl, hbr⟩ := hR
  dsimp only at hbr
  obtain ⟨bn, bc, rfl, _, _⟩ := slr_strs hbr
  (repeat first | (apply wr_alloc; exact rfl))
  refine wr_storeAll (cs := [.bool bA, .slice bn bl.length bc]) rfl rfl rfl (by intro u hu; simp at hu; rcases hu with rfl | rfl <;> rfl) (heap_alloc_same _ _) rfl rfl ?_
  refine wr_name ?_
  intro wb hwb
  obtain ⟨bb, hbb⟩ : ∃ bb, bb = wbo.heap.size := ⟨_, rfl⟩
  have hkb : Keeps NoB wbo wb := by rw [hwb]; exact ((Keeps.refl NoB wbo).alloc _).put _ (fun h => by omega)
  have hcb : wb.heap[bb]? = some (.cells #[.bool bA, .slice bn bl.length bc] 27 (0, 0)) := by rw [hwb, hbb]; exact World.putObj_heap_same (by simp)
  rw [← hbb]
  clear hwb
  replace hbr := hbr.keep hkb (fun _ _ h => h)
  have hkkb := hmb.trans hkb
  replace har := har.keep hkkb (fun _ _ h => h)
  replace hca := hkkb.heap hca (fun h => h)
  have hkw_wb : Keeps NoB w wb := hkw_wa.trans hkkb
  rw [← hbe] at hfb hlb
  dsimp only at hlb
  (repeat first | (apply wr_move; exact rfl; with_reducible (conv => enter [6, 3]; whnf)) | apply wr_end | apply wc_seq | apply wc_region)
  refine wr_call (vs := [nv]) rfl (few_ca n nv wb (hn.keep hkw_wb (fun _ _ h => h)) hn8) rfl ?_
  rintro v wgf ⟨ho, hkgf⟩
  skip
  refine wr_call (vs := [v]) rfl (of_ca (fewF n) v wgf (SlR.of_own ho) (Nat.le_trans (fewF_le n) (by decide)) (fewF_ok n)) rfl ?_
  rintro v wgo ⟨hR, hkgo⟩
  have hfg := ofP_fine (fewF n)
  have hlg := Nat.le_trans (ofP_le (fewF n)) (fewF_le n)
  have hmg := hkgf.trans hkgo
  obtain ⟨gQ, hge⟩ : ∃ s, s = ofP (fewF n) := ⟨_, rfl⟩
  rw [← hge] at hR
  obtain ⟨gA, gl⟩ := gQ
  obtain ⟨gv, rfl, hgr⟩ := hR
  dsimp only at hgr
  obtain ⟨gn, gc, rfl, _, _⟩ := slr_strs hgr
  (repeat first | (apply wr_alloc; exact rfl))
  refine wr_storeAll (cs := [.bool gA, .slice gn gl.length gc]) rfl rfl rfl (by intro u hu; simp at hu; rcases hu with rfl | rfl <;> rfl) (heap_alloc_same _ _) rfl rfl ?_
  refine wr_name ?_
  intro wg hwg
  obtain ⟨bg, hbg⟩ : ∃ bg, bg = wgo.heap.size := ⟨_, rfl⟩
  have hkg : Keeps NoB wgo wg := by rw [hwg]; exact ((Keeps.refl NoB wgo).alloc _).put _ (fun h => by omega)
  have hcg : wg.heap[bg]? = some (.cells #[.bool gA, .slice gn gl.length gc] 27 (0, 0)) := by rw [hwg, hbg]; exact World.putObj_heap_same (by simp)
  rw [← hbg]
  clear hwg
  replace hgr := hgr.keep hkg (fun _ _ h => h)
  have hkkg := hmg.trans hkg
  replace har := har.keep hkkg (fun _ _ h => h)
  replace hca := hkkg.heap hca (fun h => h)
  replace hbr := hbr.keep hkkg (fun _ _ h => h)
  replace hcb := hkkg.heap hcb (fun h => h)
  have hkw_wg : Keeps NoB w wg := hkw_wb.trans hkkg
  rw [← hge] at hfg hlg
  dsimp only at hlg
  (repeat first | apply wr_end | apply wc_seq | apply wc_region)
  refine wr_loadAll (cs := [.bool aA, .slice an al.length ac]) rfl rfl rfl hca rfl ?_
  refine wr_call (vs := [SetV aA (.slice an al.length ac)]) rfl (ref_ca (aA, al) _ wg ⟨_, rfl, har⟩) rfl ?_
  rintro v wx1q ⟨hR, hkx1q⟩
  obtain ⟨x1v, rfl, hx1r⟩ := hR
  dsimp only at hx1r
  obtain ⟨x1n, x1c, rfl, _, _⟩ := slr_strs hx1r
  (repeat first | (apply wr_alloc; exact rfl))
  refine wr_storeAll (cs := [.bool aA, .slice x1n al.length x1c]) rfl rfl rfl (by intro u hu; simp at hu; rcases hu with rfl | rfl <;> rfl) (heap_alloc_same _ _) rfl rfl ?_
  refine wr_name ?_
  intro wx1 hwx1
  obtain ⟨bx1, hbx1⟩ : ∃ bx1, bx1 = wx1q.heap.size := ⟨_, rfl⟩
  have hkx1 : Keeps NoB wx1q wx1 := by rw [hwx1]; exact ((Keeps.refl NoB wx1q).alloc _).put _ (fun h => by omega)
  have hcx1 : wx1.heap[bx1]? = some (.cells #[.bool aA, .slice x1n al.length x1c] 29 (0, 0)) := by rw [hwx1, hbx1]; exact World.putObj_heap_same (by simp)
  rw [← hbx1]
  clear hwx1
  replace hx1r := hx1r.keep hkx1 (fun _ _ h => h)
  have hkkx1 := hkx1q.trans hkx1
  replace har := har.keep hkkx1 (fun _ _ h => h)
  replace hca := hkkx1.heap hca (fun h => h)
  replace hbr := hbr.keep hkkx1 (fun _ _ h => h)
  replace hcb := hkkx1.heap hcb (fun h => h)
  replace hgr := hgr.keep hkkx1 (fun _ _ h => h)
  replace hcg := hkkx1.heap hcg (fun h => h)
  have hkw_wx1 : Keeps NoB w wx1 := hkw_wg.trans hkkx1
  (repeat first | apply wr_end | apply wc_seq | apply wc_region)
  refine wr_loadAll (cs := [.bool bA, .slice bn bl.length bc]) rfl rfl rfl hcb rfl ?_
  refine wr_call (vs := [SetV bA (.slice bn bl.length bc)]) rfl (ref_ca (bA, bl) _ wx1 ⟨_, rfl, hbr⟩) rfl ?_
  rintro v wy1q ⟨hR, hky1q⟩
  obtain ⟨y1v, rfl, hy1r⟩ := hR
  dsimp only at hy1r
  obtain ⟨y1n, y1c, rfl, _, _⟩ := slr_strs hy1r
  (repeat first | (apply wr_alloc; exact rfl))
  refine wr_storeAll (cs := [.bool bA, .slice y1n bl.length y1c]) rfl rfl rfl (by intro u hu; simp at hu; rcases hu with rfl | rfl <;> rfl) (heap_alloc_same _ _) rfl rfl ?_
  refine wr_name ?_
  intro wy1 hwy1
  obtain ⟨by1, hby1⟩ : ∃ by1, by1 = wy1q.heap.size := ⟨_, rfl⟩
  have hky1 : Keeps NoB wy1q wy1 := by rw [hwy1]; exact ((Keeps.refl NoB wy1q).alloc _).put _ (fun h => by omega)
  have hcy1 : wy1.heap[by1]? = some (.cells #[.bool bA, .slice y1n bl.length y1c] 29 (0, 0)) := by rw [hwy1, hby1]; exact World.putObj_heap_same (by simp)
  rw [← hby1]
  clear hwy1
  replace hy1r := hy1r.keep hky1 (fun _ _ h => h)
  have hkky1 := hky1q.trans hky1
  replace har := har.keep hkky1 (fun _ _ h => h)
  replace hca := hkky1.heap hca (fun h => h)
  replace hbr := hbr.keep hkky1 (fun _ _ h => h)
  replace hcb := hkky1.heap hcb (fun h => h)
  replace hgr := hgr.keep hkky1 (fun _ _ h => h)
  replace hcg := hkky1.heap hcg (fun h => h)
  replace hx1r := hx1r.keep hkky1 (fun _ _ h => h)
  replace hcx1 := hkky1.heap hcx1 (fun h => h)
  have hkw_wy1 : Keeps NoB w wy1 := hkw_wx1.trans hkky1
  (repeat first | apply wr_end | apply wc_seq | apply wc_region)
  refine wr_loadAll (cs := [.bool gA, .slice gn gl.length gc]) rfl rfl rfl hcg rfl ?_
  refine wr_call (vs := [SetV gA (.slice gn gl.length gc)]) rfl (ref_ca (gA, gl) _ wy1 ⟨_, rfl, hgr⟩) rfl ?_
  rintro v wz1q ⟨hR, hkz1q⟩
  obtain ⟨z1v, rfl, hz1r⟩ := hR
  dsimp only at hz1r
  obtain ⟨z1n, z1c, rfl, _, _⟩ := slr_strs hz1r
  (repeat first | (apply wr_alloc; exact rfl))
  refine wr_storeAll (cs := [.bool gA, .slice z1n gl.length z1c]) rfl rfl rfl (by intro u hu; simp at hu; rcases hu with rfl | rfl <;> rfl) (heap_alloc_same _ _) rfl rfl ?_
  refine wr_name ?_
  intro wz1 hwz1
  obtain ⟨bz1, hbz1⟩ : ∃ bz1, bz1 = wz1q.heap.size := ⟨_, rfl⟩
  have hkz1 : Keeps NoB wz1q wz1 := by rw [hwz1]; exact ((Keeps.refl NoB wz1q).alloc _).put _ (fun h => by omega)
  have hcz1 : wz1.heap[bz1]? = some (.cells #[.bool gA, .slice z1n gl.length z1c] 29 (0, 0)) := by rw [hwz1, hbz1]; exact World.putObj_heap_same (by simp)
  rw [← hbz1]
  clear hwz1
  replace hz1r := hz1r.keep hkz1 (fun _ _ h => h)
  have hkkz1 := hkz1q.trans hkz1
  replace har := har.keep hkkz1 (fun _ _ h => h)
  replace hca := hkkz1.heap hca (fun h => h)
  replace hbr := hbr.keep hkkz1 (fun _ _ h => h)
  replace hcb := hkkz1.heap hcb (fun h => h)
  replace hgr := hgr.keep hkkz1 (fun _ _ h => h)
  replace hcg := hkkz1.heap hcg (fun h => h)
  replace hx1r := hx1r.keep hkkz1 (fun _ _ h => h)
  replace hcx1 := hkkz1.heap hcx1 (fun h => h)
  replace hy1r := hy1r.keep hkkz1 (fun _ _ h => h)
  replace hcy1 := hkkz1.heap hcy1 (fun h => h)
  have hkw_wz1 : Keeps NoB w wz1 := hkw_wy1.trans hkkz1
  (repeat first | apply wr_end | apply wc_seq)
  have hk0 : ∀ {w'}, Keeps NoB wz1.drew w' → Keeps NoB wz1 w' := fun hk => (Keeps.refl NoB wz1).drew.trans hk
  have hRa : ∀ {w'}, Keeps NoB wz1.drew w' → SetR w' (aA, al) (SetV aA (.slice an al.length ac)) := fun hk => ⟨_, rfl, har.keep (hk0 hk) (fun _ _ h => h)⟩
  have hRb : ∀ {w'}, Keeps NoB wz1.drew w' → SetR w' (bA, bl) (SetV bA (.slice bn bl.length bc)) := fun hk => ⟨_, rfl, hbr.keep (hk0 hk) (fun _ _ h => h)⟩
  have hRg : ∀ {w'}, Keeps NoB wz1.drew w' → SetR w' (gA, gl) (SetV gA (.slice gn gl.length gc)) := fun hk => ⟨_, rfl, hgr.keep (hk0 hk) (fun _ _ h => h)⟩
  have hRx1 : ∀ {w'}, Keeps NoB wz1.drew w' → SetR w' (aA, al) (SetV aA (.slice x1n al.length x1c)) := fun hk => ⟨_, rfl, hx1r.keep (hk0 hk) (fun _ _ h => h)⟩
  have hRy1 : ∀ {w'}, Keeps NoB wz1.drew w' → SetR w' (bA, bl) (SetV bA (.slice y1n bl.length y1c)) := fun hk => ⟨_, rfl, hy1r.keep (hk0 hk) (fun _ _ h => h)⟩
  have hRz1 : ∀ {w'}, Keeps NoB wz1.drew w' → SetR w' (gA, gl) (SetV gA (.slice z1n gl.length z1c)) := fun hk => ⟨_, rfl, hz1r.keep (hk0 hk) (fun _ _ h => h)⟩
  skip
  refine wc_drawP (l := _) 11 _ (by kernel_rfl) (by kernel_rfl) rfl (by kernel_rfl) (by kernel_rfl) (by decide) ?_
  apply chP_pure
  focus
    intro xx w' hk hF
    refine wr_loadAll (cs := [.bool aA, .slice an al.length ac]) rfl rfl rfl ((hk0 hk).heap hca (fun h => h)) rfl ?_
    apply wr_nil
    exact ⟨rfl, Keeps.refl _ _⟩
  focus (intro xx yy h; rfl)
  focus kernel_rfl
  apply chP_pure
  focus
    intro xx w' hk hF
    refine wr_loadAll (cs := [.bool bA, .slice bn bl.length bc]) rfl rfl rfl ((hk0 hk).heap hcb (fun h => h)) rfl ?_
    apply wr_nil
    exact ⟨rfl, Keeps.refl _ _⟩
  focus (intro xx yy h; rfl)
  focus kernel_rfl
  apply chP_pure
  focus
    intro xx w' hk hF
    refine wr_loadAll (cs := [.bool gA, .slice gn gl.length gc]) rfl rfl rfl ((hk0 hk).heap hcg (fun h => h)) rfl ?_
    apply wr_nil
    exact ⟨rfl, Keeps.refl _ _⟩
  focus (intro xx yy h; rfl)
  focus kernel_rfl
  refine chP_fact (fun y => y) (fun y w' => SetsAt w' [((aA, al), .slice an al.length ac), ((bA, bl), .slice bn bl.length bc), ((gA, gl), .slice gn gl.length gc)] y) (fun y w' w'' h k => h.keep k) ?_ ?_
  focus
    intro xx w' hk hF
    refine wr_buildSlice (vs := [SetV aA (.slice an al.length ac), SetV bA (.slice bn bl.length bc), SetV gA (.slice gn gl.length gc)]) rfl rfl (by intro v hv; simp at hv; rcases hv with rfl | rfl | rfl <;> rfl) rfl (by decide) (by decide) (by decide) ?_
    apply wr_nil
    exact ⟨_, rfl, setsAt_allocT _ w' [((aA, al), .slice an al.length ac), ((bA, bl), .slice bn bl.length bc), ((gA, gl), .slice gn gl.length gc)] (by intro x hx; simp only [List.mem_cons, List.not_mem_nil, or_false] at hx; rcases hx with rfl | rfl | rfl; exact (har.keep (hk0 hk) (fun _ _ h => h)); exact (hbr.keep (hk0 hk) (fun _ _ h => h)); exact (hgr.keep (hk0 hk) (fun _ _ h => h))), (Keeps.refl NoB w').alloc _⟩
  refine chP_fact (fun y => y) (fun y w' => SetR w' (unionP [(aA, al), (bA, bl), (gA, gl)]) y) (fun y w' w'' h k => h.keep k) ?_ ?_
  focus
    intro xx w' hk hF
    refine wr_call (vs := [xx 3]) rfl (union_ca _ _ w' (hF 3 (by kernel_rfl)) (by simp) (by simp [uN]; omega)) rfl ?_
    rintro v w'' ⟨hR, hkc⟩
    apply wr_nil
    exact ⟨v, rfl, hR, hkc⟩
  apply chP_pure
  focus
    intro xx w' hk hF
    refine wr_loadAll (cs := [.bool aA, .slice x1n al.length x1c]) rfl rfl rfl ((hk0 hk).heap hcx1 (fun h => h)) rfl ?_
    apply wr_nil
    exact ⟨rfl, Keeps.refl _ _⟩
  focus (intro xx yy h; rfl)
  focus kernel_rfl
  apply chP_pure
  focus
    intro xx w' hk hF
    refine wr_loadAll (cs := [.bool bA, .slice y1n bl.length y1c]) rfl rfl rfl ((hk0 hk).heap hcy1 (fun h => h)) rfl ?_
    apply wr_nil
    exact ⟨rfl, Keeps.refl _ _⟩
  focus (intro xx yy h; rfl)
  focus kernel_rfl
  apply chP_pure
  focus
    intro xx w' hk hF
    refine wr_loadAll (cs := [.bool gA, .slice z1n gl.length z1c]) rfl rfl rfl ((hk0 hk).heap hcz1 (fun h => h)) rfl ?_
    apply wr_nil
    exact ⟨rfl, Keeps.refl _ _⟩
  focus (intro xx yy h; rfl)
  focus kernel_rfl
  refine chP_fact (fun y => y) (fun y w' => SetsAt w' [((aA, al), .slice x1n al.length x1c), ((bA, bl), .slice y1n bl.length y1c), ((gA, gl), .slice z1n gl.length z1c)] y) (fun y w' w'' h k => h.keep k) ?_ ?_
  focus
    intro xx w' hk hF
    refine wr_buildSlice (vs := [SetV aA (.slice x1n al.length x1c), SetV bA (.slice y1n bl.length y1c), SetV gA (.slice z1n gl.length z1c)]) rfl rfl (by intro v hv; simp at hv; rcases hv with rfl | rfl | rfl <;> rfl) rfl (by decide) (by decide) (by decide) ?_
    apply wr_nil
    exact ⟨_, rfl, setsAt_allocT _ w' [((aA, al), .slice x1n al.length x1c), ((bA, bl), .slice y1n bl.length y1c), ((gA, gl), .slice z1n gl.length z1c)] (by intro x hx; simp only [List.mem_cons, List.not_mem_nil, or_false] at hx; rcases hx with rfl | rfl | rfl; exact (hx1r.keep (hk0 hk) (fun _ _ h => h)); exact (hy1r.keep (hk0 hk) (fun _ _ h => h)); exact (hz1r.keep (hk0 hk) (fun _ _ h => h))), (Keeps.refl NoB w').alloc _⟩
  refine chP_fact (fun y => y) (fun y w' => SetR w' (unionP [(aA, al), (bA, bl), (gA, gl)]) y) (fun y w' w'' h k => h.keep k) ?_ ?_
  focus
    intro xx w' hk hF
    refine wr_call (vs := [xx 8]) rfl (refUnion_ca _ _ w' (hF 8 (by kernel_rfl)) (by simp) (by simp [uN]; omega)) rfl ?_
    rintro v w'' ⟨hR, hkc⟩
    apply wr_nil
    exact ⟨v, rfl, hR, hkc⟩
  apply chP_pure
  focus
    intro xx w' hk hF
    refine wr_call (vs := [xx 4, xx 9]) rfl (lawSame_t (unionP [(aA, al), (bA, bl), (gA, gl)]) _ _ w' (hF 4 (by kernel_rfl)) (hF 9 (by kernel_rfl)) (by have h := unionP_le [(aA, al), (bA, bl), (gA, gl)]; simp at h; omega)) rfl ?_
    rintro v w'' ⟨rfl, hkc⟩
    apply wr_nil
    exact ⟨rfl, hkc⟩
  focus (intro xx yy h; rfl)
  focus kernel_rfl
  refine chP_nil ?_
  intro xx w1 hkp hF
  clear hF
  have hkdw1 := hk0 hkp
  clear hkp hk0
  clear hRa
  clear hRb
  clear hRg
  clear hRx1
  clear hRy1
  clear hRz1
  replace har := har.keep hkdw1 (fun _ _ h => h)
  replace hca := hkdw1.heap hca (fun h => h)
  replace hbr := hbr.keep hkdw1 (fun _ _ h => h)
  replace hcb := hkdw1.heap hcb (fun h => h)
  replace hgr := hgr.keep hkdw1 (fun _ _ h => h)
  replace hcg := hkdw1.heap hcg (fun h => h)
  replace hx1r := hx1r.keep hkdw1 (fun _ _ h => h)
  replace hcx1 := hkdw1.heap hcx1 (fun h => h)
  replace hy1r := hy1r.keep hkdw1 (fun _ _ h => h)
  replace hcy1 := hkdw1.heap hcy1 (fun h => h)
  replace hz1r := hz1r.keep hkdw1 (fun _ _ h => h)
  replace hcz1 := hkdw1.heap hcz1 (fun h => h)
  have hkw_w1 : Keeps NoB w w1 := hkw_wz1.trans hkdw1
  (repeat first | (apply wr_assign; exact rfl; with_reducible (conv => enter [6, 3]; whnf)) | apply wr_end | apply wc_seq)
  refine wc_keep [(1, mv), (2, nv), (3, rv), (9, .bool true), (10, .pointer (some ⟨ba, 0, none⟩)), (11, .pointer (some ⟨bb, 0, none⟩)), (12, .pointer (some ⟨bg, 0, none⟩)), (13, .pointer (some ⟨bx1, 0, none⟩)), (14, .pointer (some ⟨by1, 0, none⟩)), (15, .pointer (some ⟨bz1, 0, none⟩)), (16, .bool true)] ⟨rfl, rfl, rfl, rfl, rfl, rfl, rfl, rfl, rfl, rfl, rfl, trivial⟩ ?_
  intro f_w1
  have hk0 : ∀ {w'}, Keeps NoB w1.drew w' → Keeps NoB w1 w' := fun hk => (Keeps.refl NoB w1).drew.trans hk
  have hRa : ∀ {w'}, Keeps NoB w1.drew w' → SetR w' (aA, al) (SetV aA (.slice an al.length ac)) := fun hk => ⟨_, rfl, har.keep (hk0 hk) (fun _ _ h => h)⟩
  have hRb : ∀ {w'}, Keeps NoB w1.drew w' → SetR w' (bA, bl) (SetV bA (.slice bn bl.length bc)) := fun hk => ⟨_, rfl, hbr.keep (hk0 hk) (fun _ _ h => h)⟩
  have hRg : ∀ {w'}, Keeps NoB w1.drew w' → SetR w' (gA, gl) (SetV gA (.slice gn gl.length gc)) := fun hk => ⟨_, rfl, hgr.keep (hk0 hk) (fun _ _ h => h)⟩
  have hRx1 : ∀ {w'}, Keeps NoB w1.drew w' → SetR w' (aA, al) (SetV aA (.slice x1n al.length x1c)) := fun hk => ⟨_, rfl, hx1r.keep (hk0 hk) (fun _ _ h => h)⟩
  have hRy1 : ∀ {w'}, Keeps NoB w1.drew w' → SetR w' (bA, bl) (SetV bA (.slice y1n bl.length y1c)) := fun hk => ⟨_, rfl, hy1r.keep (hk0 hk) (fun _ _ h => h)⟩
  have hRz1 : ∀ {w'}, Keeps NoB w1.drew w' → SetR w' (gA, gl) (SetV gA (.slice z1n gl.length z1c)) := fun hk => ⟨_, rfl, hz1r.keep (hk0 hk) (fun _ _ h => h)⟩
  skip
  refine wc_drawP (l := _) 7 _ (by kernel_rfl) (by kernel_rfl) rfl (by kernel_rfl) (by kernel_rfl) (by decide) ?_
  apply chP_pure
  focus
    intro xx w' hk hF
    refine wr_loadAll (cs := [.bool aA, .slice an al.length ac]) rfl rfl rfl ((hk0 hk).heap hca (fun h => h)) rfl ?_
    apply wr_nil
    exact ⟨rfl, Keeps.refl _ _⟩
  focus (intro xx yy h; rfl)
  focus kernel_rfl
  apply chP_pure
  focus
    intro xx w' hk hF
    refine wr_loadAll (cs := [.bool bA, .slice bn bl.length bc]) rfl rfl rfl ((hk0 hk).heap hcb (fun h => h)) rfl ?_
    apply wr_nil
    exact ⟨rfl, Keeps.refl _ _⟩
  focus (intro xx yy h; rfl)
  focus kernel_rfl
  refine chP_fact (fun y => y) (fun y w' => SetR w' (lessP (aA, al) (bA, bl)) y) (fun y w' w'' h k => h.keep k) ?_ ?_
  focus
    intro xx w' hk hF
    refine wr_call (vs := [SetV aA (.slice an al.length ac), SetV bA (.slice bn bl.length bc)]) rfl (less_ca (aA, al) (bA, bl) _ _ w' (hRa hk) (hRb hk) (by dsimp only; omega) (by dsimp only; omega)) rfl ?_
    rintro v w'' ⟨hR, hkc⟩
    apply wr_nil
    exact ⟨v, rfl, hR, hkc⟩
  apply chP_pure
  focus
    intro xx w' hk hF
    refine wr_loadAll (cs := [.bool aA, .slice x1n al.length x1c]) rfl rfl rfl ((hk0 hk).heap hcx1 (fun h => h)) rfl ?_
    apply wr_nil
    exact ⟨rfl, Keeps.refl _ _⟩
  focus (intro xx yy h; rfl)
  focus kernel_rfl
  apply chP_pure
  focus
    intro xx w' hk hF
    refine wr_loadAll (cs := [.bool bA, .slice y1n bl.length y1c]) rfl rfl rfl ((hk0 hk).heap hcy1 (fun h => h)) rfl ?_
    apply wr_nil
    exact ⟨rfl, Keeps.refl _ _⟩
  focus (intro xx yy h; rfl)
  focus kernel_rfl
  refine chP_fact (fun y => y) (fun y w' => SetR w' (lessP (aA, al) (bA, bl)) y) (fun y w' w'' h k => h.keep k) ?_ ?_
  focus
    intro xx w' hk hF
    refine wr_call (vs := [SetV aA (.slice x1n al.length x1c), SetV bA (.slice y1n bl.length y1c)]) rfl (refLess_ca (aA, al) (bA, bl) _ _ w' (hRx1 hk) (hRy1 hk) (by dsimp only; omega) (by dsimp only; omega)) rfl ?_
    rintro v w'' ⟨hR, hkc⟩
    apply wr_nil
    exact ⟨v, rfl, hR, hkc⟩
  apply chP_pure
  focus
    intro xx w' hk hF
    refine wr_call (vs := [xx 2, xx 5]) rfl (lawSame_t (lessP (aA, al) (bA, bl)) _ _ w' (hF 2 (by kernel_rfl)) (hF 5 (by kernel_rfl)) (by have h := lessP_le (aA, al) (bA, bl); dsimp only at h; omega)) rfl ?_
    rintro v w'' ⟨rfl, hkc⟩
    apply wr_nil
    exact ⟨rfl, hkc⟩
  focus (intro xx yy h; rfl)
  focus kernel_rfl
  refine chP_nil ?_
  intro xx w2 hkp hF
  clear hF
  have hkdw2 := hk0 hkp
  clear hkp hk0
  clear hRa
  clear hRb
  clear hRg
  clear hRx1
  clear hRy1
  clear hRz1
  replace har := har.keep hkdw2 (fun _ _ h => h)
  replace hca := hkdw2.heap hca (fun h => h)
  replace hbr := hbr.keep hkdw2 (fun _ _ h => h)
  replace hcb := hkdw2.heap hcb (fun h => h)
  replace hgr := hgr.keep hkdw2 (fun _ _ h => h)
  replace hcg := hkdw2.heap hcg (fun h => h)
  replace hx1r := hx1r.keep hkdw2 (fun _ _ h => h)
  replace hcx1 := hkdw2.heap hcx1 (fun h => h)
  replace hy1r := hy1r.keep hkdw2 (fun _ _ h => h)
  replace hcy1 := hkdw2.heap hcy1 (fun h => h)
  replace hz1r := hz1r.keep hkdw2 (fun _ _ h => h)
  replace hcz1 := hkdw2.heap hcz1 (fun h => h)
  have hkw_w2 : Keeps NoB w w2 := hkw_w1.trans hkdw2
  (repeat first | (apply wr_assign; exact rfl; with_reducible (conv => enter [6, 3]; whnf)) | apply wr_end | apply wc_seq)
  refine wc_keep [(1, mv), (2, nv), (3, rv), (9, .bool true), (10, .pointer (some ⟨ba, 0, none⟩)), (11, .pointer (some ⟨bb, 0, none⟩)), (12, .pointer (some ⟨bg, 0, none⟩)), (13, .pointer (some ⟨bx1, 0, none⟩)), (14, .pointer (some ⟨by1, 0, none⟩)), (15, .pointer (some ⟨bz1, 0, none⟩)), (16, .bool true), (17, .bool true)] ⟨rfl, rfl, rfl, rfl, rfl, rfl, rfl, rfl, rfl, rfl, rfl, rfl, trivial⟩ ?_
  intro f_w2
  have hk0 : ∀ {w'}, Keeps NoB w2.drew w' → Keeps NoB w2 w' := fun hk => (Keeps.refl NoB w2).drew.trans hk
  have hRa : ∀ {w'}, Keeps NoB w2.drew w' → SetR w' (aA, al) (SetV aA (.slice an al.length ac)) := fun hk => ⟨_, rfl, har.keep (hk0 hk) (fun _ _ h => h)⟩
  have hRb : ∀ {w'}, Keeps NoB w2.drew w' → SetR w' (bA, bl) (SetV bA (.slice bn bl.length bc)) := fun hk => ⟨_, rfl, hbr.keep (hk0 hk) (fun _ _ h => h)⟩
  have hRg : ∀ {w'}, Keeps NoB w2.drew w' → SetR w' (gA, gl) (SetV gA (.slice gn gl.length gc)) := fun hk => ⟨_, rfl, hgr.keep (hk0 hk) (fun _ _ h => h)⟩
  have hRx1 : ∀ {w'}, Keeps NoB w2.drew w' → SetR w' (aA, al) (SetV aA (.slice x1n al.length x1c)) := fun hk => ⟨_, rfl, hx1r.keep (hk0 hk) (fun _ _ h => h)⟩
  have hRy1 : ∀ {w'}, Keeps NoB w2.drew w' → SetR w' (bA, bl) (SetV bA (.slice y1n bl.length y1c)) := fun hk => ⟨_, rfl, hy1r.keep (hk0 hk) (fun _ _ h => h)⟩
  have hRz1 : ∀ {w'}, Keeps NoB w2.drew w' → SetR w' (gA, gl) (SetV gA (.slice z1n gl.length z1c)) := fun hk => ⟨_, rfl, hz1r.keep (hk0 hk) (fun _ _ h => h)⟩
  skip
  refine wc_drawP (l := _) 9 _ (by kernel_rfl) (by kernel_rfl) rfl (by kernel_rfl) (by kernel_rfl) (by decide) ?_
  apply chP_pure
  focus
    intro xx w' hk hF
    refine wr_loadAll (cs := [.bool aA, .slice an al.length ac]) rfl rfl rfl ((hk0 hk).heap hca (fun h => h)) rfl ?_
    apply wr_nil
    exact ⟨rfl, Keeps.refl _ _⟩
  focus (intro xx yy h; rfl)
  focus kernel_rfl
  apply chP_pure
  focus
    intro xx w' hk hF
    apply wr_move; exact rfl; with_reducible (conv => enter [6, 3]; whnf)
    apply wr_nil
    exact ⟨rfl, Keeps.refl _ _⟩
  focus (intro xx yy h; rfl)
  focus kernel_rfl
  refine chP_fact (fun y => y) (fun y w' => SlR w' 1 y (fewF m).length (SL (fewF m))) (fun y w' w'' h k => h.keep k (fun _ _ h => h)) ?_ ?_
  focus
    intro xx w' hk hF
    refine wr_call (vs := [mv]) rfl (fewS_ca m mv w' (hm.keep (hkw_w2.trans (hk0 hk)) (fun _ _ h => h)) hm8) rfl ?_
    rintro v w'' ⟨hR, hkc⟩
    apply wr_nil
    exact ⟨v, rfl, hR, hkc⟩
  refine chP_fact (fun y => y) (fun y w' => SetR w' (unionP [(aA, al), ofP (fewF m)]) y) (fun y w' w'' h k => h.keep k) ?_ ?_
  focus
    intro xx w' hk hF
    refine wr_call (vs := [SetV aA (.slice an al.length ac), xx 2]) rfl (add_ca (aA, al) (fewF m) _ _ w' (hRa hk) (hF 2 (by kernel_rfl)) (by dsimp only; omega) (Nat.le_trans (fewF_le m) (by decide)) (fewF_ok m)) rfl ?_
    rintro v w'' ⟨hR, hkc⟩
    apply wr_nil
    exact ⟨v, rfl, hR, hkc⟩
  apply chP_pure
  focus
    intro xx w' hk hF
    refine wr_loadAll (cs := [.bool aA, .slice x1n al.length x1c]) rfl rfl rfl ((hk0 hk).heap hcx1 (fun h => h)) rfl ?_
    apply wr_nil
    exact ⟨rfl, Keeps.refl _ _⟩
  focus (intro xx yy h; rfl)
  focus kernel_rfl
  apply chP_pure
  focus
    intro xx w' hk hF
    apply wr_move; exact rfl; with_reducible (conv => enter [6, 3]; whnf)
    apply wr_nil
    exact ⟨rfl, Keeps.refl _ _⟩
  focus (intro xx yy h; rfl)
  focus kernel_rfl
  refine chP_fact (fun y => y) (fun y w' => SlR w' 1 y (fewF m).length (SL (fewF m))) (fun y w' w'' h k => h.keep k (fun _ _ h => h)) ?_ ?_
  focus
    intro xx w' hk hF
    refine wr_call (vs := [mv]) rfl (fewS_ca m mv w' (hm.keep (hkw_w2.trans (hk0 hk)) (fun _ _ h => h)) hm8) rfl ?_
    rintro v w'' ⟨hR, hkc⟩
    apply wr_nil
    exact ⟨v, rfl, hR, hkc⟩
  refine chP_fact (fun y => y) (fun y w' => SetR w' (unionP [(aA, al), ofP (fewF m)]) y) (fun y w' w'' h k => h.keep k) ?_ ?_
  focus
    intro xx w' hk hF
    refine wr_call (vs := [SetV aA (.slice x1n al.length x1c), xx 6]) rfl (refAdd_ca (aA, al) (fewF m) _ _ w' (hRx1 hk) (hF 6 (by kernel_rfl)) (by dsimp only; omega) (Nat.le_trans (fewF_le m) (by decide)) (fewF_ok m)) rfl ?_
    rintro v w'' ⟨hR, hkc⟩
    apply wr_nil
    exact ⟨v, rfl, hR, hkc⟩
  apply chP_pure
  focus
    intro xx w' hk hF
    refine wr_call (vs := [xx 3, xx 7]) rfl (lawSame_t (unionP [(aA, al), ofP (fewF m)]) _ _ w' (hF 3 (by kernel_rfl)) (hF 7 (by kernel_rfl)) (by have h := unionP_le [(aA, al), ofP (fewF m)]; have h2 := Nat.le_trans (ofP_le (fewF m)) (fewF_le m); simp at h; omega)) rfl ?_
    rintro v w'' ⟨rfl, hkc⟩
    apply wr_nil
    exact ⟨rfl, hkc⟩
  focus (intro xx yy h; rfl)
  focus kernel_rfl
  refine chP_nil ?_
  intro xx w3 hkp hF
  clear hF
  have hkdw3 := hk0 hkp
  clear hkp hk0
  clear hRa
  clear hRb
  clear hRg
  clear hRx1
  clear hRy1
  clear hRz1
  replace har := har.keep hkdw3 (fun _ _ h => h)
  replace hca := hkdw3.heap hca (fun h => h)
  replace hbr := hbr.keep hkdw3 (fun _ _ h => h)
  replace hcb := hkdw3.heap hcb (fun h => h)
  replace hgr := hgr.keep hkdw3 (fun _ _ h => h)
  replace hcg := hkdw3.heap hcg (fun h => h)
  replace hx1r := hx1r.keep hkdw3 (fun _ _ h => h)
  replace hcx1 := hkdw3.heap hcx1 (fun h => h)
  replace hy1r := hy1r.keep hkdw3 (fun _ _ h => h)
  replace hcy1 := hkdw3.heap hcy1 (fun h => h)
  replace hz1r := hz1r.keep hkdw3 (fun _ _ h => h)
  replace hcz1 := hkdw3.heap hcz1 (fun h => h)
  have hkw_w3 : Keeps NoB w w3 := hkw_w2.trans hkdw3
  (repeat first | (apply wr_assign; exact rfl; with_reducible (conv => enter [6, 3]; whnf)) | apply wr_end | apply wc_seq)
  refine wc_keep [(1, mv), (2, nv), (3, rv), (9, .bool true), (10, .pointer (some ⟨ba, 0, none⟩)), (11, .pointer (some ⟨bb, 0, none⟩)), (12, .pointer (some ⟨bg, 0, none⟩)), (13, .pointer (some ⟨bx1, 0, none⟩)), (14, .pointer (some ⟨by1, 0, none⟩)), (15, .pointer (some ⟨bz1, 0, none⟩)), (16, .bool true), (17, .bool true), (18, .bool true)] ⟨rfl, rfl, rfl, rfl, rfl, rfl, rfl, rfl, rfl, rfl, rfl, rfl, rfl, trivial⟩ ?_
  intro f_w3
  have hk0 : ∀ {w'}, Keeps NoB w3.drew w' → Keeps NoB w3 w' := fun hk => (Keeps.refl NoB w3).drew.trans hk
  have hRa : ∀ {w'}, Keeps NoB w3.drew w' → SetR w' (aA, al) (SetV aA (.slice an al.length ac)) := fun hk => ⟨_, rfl, har.keep (hk0 hk) (fun _ _ h => h)⟩
  have hRb : ∀ {w'}, Keeps NoB w3.drew w' → SetR w' (bA, bl) (SetV bA (.slice bn bl.length bc)) := fun hk => ⟨_, rfl, hbr.keep (hk0 hk) (fun _ _ h => h)⟩
  have hRg : ∀ {w'}, Keeps NoB w3.drew w' → SetR w' (gA, gl) (SetV gA (.slice gn gl.length gc)) := fun hk => ⟨_, rfl, hgr.keep (hk0 hk) (fun _ _ h => h)⟩
  have hRx1 : ∀ {w'}, Keeps NoB w3.drew w' → SetR w' (aA, al) (SetV aA (.slice x1n al.length x1c)) := fun hk => ⟨_, rfl, hx1r.keep (hk0 hk) (fun _ _ h => h)⟩
  have hRy1 : ∀ {w'}, Keeps NoB w3.drew w' → SetR w' (bA, bl) (SetV bA (.slice y1n bl.length y1c)) := fun hk => ⟨_, rfl, hy1r.keep (hk0 hk) (fun _ _ h => h)⟩
  have hRz1 : ∀ {w'}, Keeps NoB w3.drew w' → SetR w' (gA, gl) (SetV gA (.slice z1n gl.length z1c)) := fun hk => ⟨_, rfl, hz1r.keep (hk0 hk) (fun _ _ h => h)⟩
  skip
  refine wc_drawP (l := _) 9 _ (by kernel_rfl) (by kernel_rfl) rfl (by kernel_rfl) (by kernel_rfl) (by decide) ?_
  apply chP_pure
  focus
    intro xx w' hk hF
    refine wr_loadAll (cs := [.bool aA, .slice an al.length ac]) rfl rfl rfl ((hk0 hk).heap hca (fun h => h)) rfl ?_
    apply wr_nil
    exact ⟨rfl, Keeps.refl _ _⟩
  focus (intro xx yy h; rfl)
  focus kernel_rfl
  apply chP_pure
  focus
    intro xx w' hk hF
    apply wr_move; exact rfl; with_reducible (conv => enter [6, 3]; whnf)
    apply wr_nil
    exact ⟨rfl, Keeps.refl _ _⟩
  focus (intro xx yy h; rfl)
  focus kernel_rfl
  refine chP_fact (fun y => y) (fun y w' => SlR w' 1 y (fewF n).length (SL (fewF n))) (fun y w' w'' h k => h.keep k (fun _ _ h => h)) ?_ ?_
  focus
    intro xx w' hk hF
    refine wr_call (vs := [nv]) rfl (fewS_ca n nv w' (hn.keep (hkw_w3.trans (hk0 hk)) (fun _ _ h => h)) hn8) rfl ?_
    rintro v w'' ⟨hR, hkc⟩
    apply wr_nil
    exact ⟨v, rfl, hR, hkc⟩
  refine chP_fact (fun y => y) (fun y w' => SetR w' (lessP (aA, al) (ofP (fewF n))) y) (fun y w' w'' h k => h.keep k) ?_ ?_
  focus
    intro xx w' hk hF
    refine wr_call (vs := [SetV aA (.slice an al.length ac), xx 2]) rfl (drop_ca (aA, al) (fewF n) _ _ w' (hRa hk) (hF 2 (by kernel_rfl)) (by dsimp only; omega) (Nat.le_trans (fewF_le n) (by decide)) (fewF_ok n)) rfl ?_
    rintro v w'' ⟨hR, hkc⟩
    apply wr_nil
    exact ⟨v, rfl, hR, hkc⟩
  apply chP_pure
  focus
    intro xx w' hk hF
    refine wr_loadAll (cs := [.bool aA, .slice x1n al.length x1c]) rfl rfl rfl ((hk0 hk).heap hcx1 (fun h => h)) rfl ?_
    apply wr_nil
    exact ⟨rfl, Keeps.refl _ _⟩
  focus (intro xx yy h; rfl)
  focus kernel_rfl
  apply chP_pure
  focus
    intro xx w' hk hF
    apply wr_move; exact rfl; with_reducible (conv => enter [6, 3]; whnf)
    apply wr_nil
    exact ⟨rfl, Keeps.refl _ _⟩
  focus (intro xx yy h; rfl)
  focus kernel_rfl
  refine chP_fact (fun y => y) (fun y w' => SlR w' 1 y (fewF n).length (SL (fewF n))) (fun y w' w'' h k => h.keep k (fun _ _ h => h)) ?_ ?_
  focus
    intro xx w' hk hF
    refine wr_call (vs := [nv]) rfl (fewS_ca n nv w' (hn.keep (hkw_w3.trans (hk0 hk)) (fun _ _ h => h)) hn8) rfl ?_
    rintro v w'' ⟨hR, hkc⟩
    apply wr_nil
    exact ⟨v, rfl, hR, hkc⟩
  refine chP_fact (fun y => y) (fun y w' => SetR w' (lessP (aA, al) (ofP (fewF n))) y) (fun y w' w'' h k => h.keep k) ?_ ?_
  focus
    intro xx w' hk hF
    refine wr_call (vs := [SetV aA (.slice x1n al.length x1c), xx 6]) rfl (refDrop_ca (aA, al) (fewF n) _ _ w' (hRx1 hk) (hF 6 (by kernel_rfl)) (by dsimp only; omega) (Nat.le_trans (fewF_le n) (by decide)) (fewF_ok n)) rfl ?_
    rintro v w'' ⟨hR, hkc⟩
    apply wr_nil
    exact ⟨v, rfl, hR, hkc⟩
  apply chP_pure
  focus
    intro xx w' hk hF
    refine wr_call (vs := [xx 3, xx 7]) rfl (lawSame_t (lessP (aA, al) (ofP (fewF n))) _ _ w' (hF 3 (by kernel_rfl)) (hF 7 (by kernel_rfl)) (by have h := lessP_le (aA, al) (ofP (fewF n)); dsimp only at h; omega)) rfl ?_
    rintro v w'' ⟨rfl, hkc⟩
    apply wr_nil
    exact ⟨rfl, hkc⟩
  focus (intro xx yy h; rfl)
  focus kernel_rfl
  refine chP_nil ?_
  intro xx w4 hkp hF
  clear hF
  have hkdw4 := hk0 hkp
  clear hkp hk0
  clear hRa
  clear hRb
  clear hRg
  clear hRx1
  clear hRy1
  clear hRz1
  replace har := har.keep hkdw4 (fun _ _ h => h)
  replace hca := hkdw4.heap hca (fun h => h)
  replace hbr := hbr.keep hkdw4 (fun _ _ h => h)
  replace hcb := hkdw4.heap hcb (fun h => h)
  replace hgr := hgr.keep hkdw4 (fun _ _ h => h)
  replace hcg := hkdw4.heap hcg (fun h => h)
  replace hx1r := hx1r.keep hkdw4 (fun _ _ h => h)
  replace hcx1 := hkdw4.heap hcx1 (fun h => h)
  replace hy1r := hy1r.keep hkdw4 (fun _ _ h => h)
  replace hcy1 := hkdw4.heap hcy1 (fun h => h)
  replace hz1r := hz1r.keep hkdw4 (fun _ _ h => h)
  replace hcz1 := hkdw4.heap hcz1 (fun h => h)
  have hkw_w4 : Keeps NoB w w4 := hkw_w3.trans hkdw4
  (repeat first | (apply wr_assign; exact rfl; with_reducible (conv => enter [6, 3]; whnf)) | apply wr_end | apply wc_seq | apply wc_region | apply wc_block)
  refine wc_keep [(1, mv), (2, nv), (3, rv), (9, .bool true), (10, .pointer (some ⟨ba, 0, none⟩)), (11, .pointer (some ⟨bb, 0, none⟩)), (12, .pointer (some ⟨bg, 0, none⟩)), (13, .pointer (some ⟨bx1, 0, none⟩)), (14, .pointer (some ⟨by1, 0, none⟩)), (15, .pointer (some ⟨bz1, 0, none⟩)), (16, .bool true), (17, .bool true), (18, .bool true), (19, .bool true), (20, .slice none 0 0), (21, .int .i64 0)] ⟨rfl, rfl, rfl, rfl, rfl, rfl, rfl, rfl, rfl, rfl, rfl, rfl, rfl, rfl, rfl, rfl, trivial⟩ ?_
  intro f_w4
  have hkr := hkw_w4
  obtain ⟨ra, rc, rfl, hrc, hatr⟩ := hr.shape
  skip
  refine wc_loopL (α := Nat × Value) (fun p => [(3, .slice ra rs.length rc), (9, .bool true), (10, .pointer (some ⟨ba, 0, none⟩)), (11, .pointer (some ⟨bb, 0, none⟩)), (12, .pointer (some ⟨bg, 0, none⟩)), (13, .pointer (some ⟨bx1, 0, none⟩)), (14, .pointer (some ⟨by1, 0, none⟩)), (15, .pointer (some ⟨bz1, 0, none⟩)), (16, .bool true), (17, .bool true), (18, .bool true), (19, .bool true), (20, p.2), (21, .int .i64 (p.1 : Int))])
    (fun p ds w' => ds = [] ∧ p.1 ≤ rs.length ∧ p.1 ≤ 10 ∧ w'.ownsRow w4.heap.size 53 5 p.2 p.1 ((rdL rs p.1).flatMap GRd) ∧ Keeps NoB w4 w') (fun p => 10 - p.1) (0, .slice none 0 0)
    ⟨rfl, Nat.zero_le _, Nat.zero_le _, own_nil _ _ _ _, Keeps.refl _ _⟩ ⟨rfl, rfl, rfl, rfl, rfl, rfl, rfl, rfl, rfl, rfl, rfl, rfl, rfl, rfl, trivial⟩ ?_
  rintro ⟨i, v⟩ ds f0 w5 ⟨rfl, hi, hi10, ho, hk5⟩
  dsimp only at hi hi10 ho ⊢
  replace har := har.keep hk5 (fun _ _ h => h)
  replace hca := hk5.heap hca (fun h => h)
  replace hbr := hbr.keep hk5 (fun _ _ h => h)
  replace hcb := hk5.heap hcb (fun h => h)
  replace hgr := hgr.keep hk5 (fun _ _ h => h)
  replace hcg := hk5.heap hcg (fun h => h)
  replace hx1r := hx1r.keep hk5 (fun _ _ h => h)
  replace hcx1 := hk5.heap hcx1 (fun h => h)
  replace hy1r := hy1r.keep hk5 (fun _ _ h => h)
  replace hcy1 := hk5.heap hcy1 (fun h => h)
  replace hz1r := hz1r.keep hk5 (fun _ _ h => h)
  replace hcz1 := hk5.heap hcz1 (fun h => h)
  have hkw_w5 : Keeps NoB w w5 := hkw_w4.trans hk5
  have hs5 := hk5.size
  have hrl := rdL_len rs i
  by_cases hlt : i < rs.length
  rotate_left
  · skip
    have hRl : SlR w5 5 v (rdL rs i).length ((rdL rs i).flatMap GRd) := by rw [rdL_len rs i]; exact SlR.of_own ho
    obtain ⟨RL, hRL⟩ : ∃ RL, RL = rdL rs i := ⟨_, rfl⟩
    have hRo := rdL_ok rs i
    have hRn : RL.length ≤ 10 := by rw [hRL, rdL_len]; omega
    rw [← hRL] at hRl hRo
    (repeat first | (apply wr_move; exact rfl; with_reducible (conv => enter [6, 3]; whnf)) | apply wr_end | apply wc_seq | apply wc_region | (apply wr_len_slice; iterate 2 exact rfl) | (apply wr_cmp; (iterate 3 exact rfl); exact cmpF (by dsimp only [cmpN]; first | done | omega)) | (apply wr_pick (t := false); (iterate 2 exact rfl); with_reducible (conv => enter [6, 3]; whnf)) | (apply wc_false; exact rfl) | (apply wc_exit; try simp only [thenE, inBlockE, bodyQ, ↓reduceIte, Nat.reduceEqDiff]) | (apply wr_skip; exact rfl))
    refine wr_loadAll (cs := [.bool aA, .slice an al.length ac]) rfl rfl rfl hca rfl ?_
    (repeat first | (apply wr_move; exact rfl; with_reducible (conv => enter [6, 3]; whnf)))
    refine wr_call (vs := [SetV aA (.slice an al.length ac), v]) rfl (pick_ca (aA, al) RL _ _ w5 ⟨_, rfl, har⟩ hRl (by dsimp only; omega) (by omega) hRo) rfl ?_
    rintro v1 w9 ⟨hp1, hk9⟩
    replace har := har.keep hk9 (fun _ _ h => h)
    replace hca := hk9.heap hca (fun h => h)
    replace hbr := hbr.keep hk9 (fun _ _ h => h)
    replace hcb := hk9.heap hcb (fun h => h)
    replace hgr := hgr.keep hk9 (fun _ _ h => h)
    replace hcg := hk9.heap hcg (fun h => h)
    replace hx1r := hx1r.keep hk9 (fun _ _ h => h)
    replace hcx1 := hk9.heap hcx1 (fun h => h)
    replace hy1r := hy1r.keep hk9 (fun _ _ h => h)
    replace hcy1 := hk9.heap hcy1 (fun h => h)
    replace hz1r := hz1r.keep hk9 (fun _ _ h => h)
    replace hcz1 := hk9.heap hcz1 (fun h => h)
    have hkw_w9 : Keeps NoB w w9 := hkw_w5.trans hk9
    (repeat first | (apply wr_assign; exact rfl; with_reducible (conv => enter [6, 3]; whnf)) | apply wr_end | apply wc_seq | apply wc_region)
    refine wr_loadAll (cs := [.bool aA, .slice x1n al.length x1c]) rfl rfl rfl hcx1 rfl ?_
    (repeat first | (apply wr_move; exact rfl; with_reducible (conv => enter [6, 3]; whnf)))
    refine wr_call (vs := [SetV aA (.slice x1n al.length x1c), v]) rfl (refPick_ca (aA, al) RL _ _ w9 ⟨_, rfl, hx1r⟩ (hRl.keep hk9 (fun _ _ h => h)) (by dsimp only; omega) (by omega) hRo) rfl ?_
    rintro v2 w10 ⟨hp2, hk10⟩
    replace hp1 := hp1.keep hk10 (fun _ _ h => h)
    replace har := har.keep hk10 (fun _ _ h => h)
    replace hca := hk10.heap hca (fun h => h)
    replace hbr := hbr.keep hk10 (fun _ _ h => h)
    replace hcb := hk10.heap hcb (fun h => h)
    replace hgr := hgr.keep hk10 (fun _ _ h => h)
    replace hcg := hk10.heap hcg (fun h => h)
    replace hx1r := hx1r.keep hk10 (fun _ _ h => h)
    replace hcx1 := hk10.heap hcx1 (fun h => h)
    replace hy1r := hy1r.keep hk10 (fun _ _ h => h)
    replace hcy1 := hk10.heap hcy1 (fun h => h)
    replace hz1r := hz1r.keep hk10 (fun _ _ h => h)
    replace hcz1 := hk10.heap hcz1 (fun h => h)
    have hkw_w10 : Keeps NoB w w10 := hkw_w9.trans hk10
    obtain ⟨PL, hPL⟩ : ∃ PL, PL = pickP (aA, al) RL := ⟨_, rfl⟩
    rw [← hPL] at hp1 hp2
    have hPn : PL.length ≤ 10 := by
      have h := List.length_filter_le (fun r => hasP (aA, al) r.2.1) RL
      rw [hPL]
      exact Nat.le_trans h hRn
    obtain ⟨pa, pc, rfl, _, hatp⟩ := hp1.shape
    obtain ⟨qa, qc, rfl, _, hatq⟩ := hp2.shape
    (repeat first | (apply wr_move; exact rfl; with_reducible (conv => enter [6, 3]; whnf)) | (apply wr_assign; exact rfl; with_reducible (conv => enter [6, 3]; whnf)) | apply wr_end | apply wc_seq | apply wc_region | apply wc_skip | apply wc_block | (apply wr_len_slice; iterate 2 exact rfl) | (apply wr_cmp; (iterate 3 exact rfl); exact cmpF (by dsimp only [cmpN]; first | done | omega)) | (apply wc_false; exact rfl))
    refine wc_loopL (α := Nat) (fun i => [(9, .bool true), (10, .pointer (some ⟨ba, 0, none⟩)), (11, .pointer (some ⟨bb, 0, none⟩)), (13, .pointer (some ⟨bx1, 0, none⟩)), (14, .pointer (some ⟨by1, 0, none⟩)), (16, .bool true), (17, .bool true), (18, .bool true), (19, .bool true), (22, .slice pa PL.length pc), (23, .slice qa PL.length qc), (24, .int .i64 (i : Int))])
      (fun i ds w' => ds = [] ∧ i ≤ PL.length ∧ Keeps NoB w10 w') (fun i => PL.length - i) 0 ⟨rfl, Nat.zero_le _, Keeps.refl _ _⟩ ⟨rfl, rfl, rfl, rfl, rfl, rfl, rfl, rfl, rfl, rfl, rfl, rfl, trivial⟩ ?_
    rintro j ds f1 w11 ⟨rfl, hj, hk11⟩
    by_cases hjl : j < PL.length
    · obtain ⟨pb, po, rfl, pcur, pe, pfr, hpb, hpr⟩ := hatp (by omega)
      obtain ⟨qb, qo, rfl, qcur, qe, qfr, hqb, hqr⟩ := hatq (by omega)
      have hpb2 := hk11.heap hpb (fun h => h)
      have hqb2 := hk11.heap hqb (fun h => h)
      obtain ⟨x, hx⟩ : ∃ x, PL[j]? = some x := ⟨PL[j], by simp [hjl]⟩
      (repeat first | (apply wr_move; exact rfl; with_reducible (conv => enter [6, 3]; whnf)) | apply wr_end | apply wc_seq | apply wc_region | apply wc_skip | apply wc_block | (apply wr_len_slice; iterate 2 exact rfl) | (apply wr_cmp; (iterate 3 exact rfl); exact cmpT (by dsimp only [cmpP]; first | done | omega)) | (apply wc_true; exact rfl))
      refine wc_drawS (l := _) (S := fun w' => w' = w11.drew) (by kernel_rfl) (by kernel_rfl) rfl ?_
      apply ch_step
      focus
        intro w' hS
        subst hS
        apply wr_move; exact rfl; with_reducible (conv => enter [6, 3]; whnf)
        apply wr_nil
        exact ⟨rfl, rfl⟩
      apply ch_step
      focus
        intro w' hS
        subst hS
        apply wr_move; exact rfl; with_reducible (conv => enter [6, 3]; whnf)
        apply wr_nil
        exact ⟨rfl, rfl⟩
      apply ch_step
      focus
        intro w' hS
        subst hS
        refine wr_indexAddr (i := j) rfl rfl rfl hjl ?_
        apply wr_nil
        exact ⟨rfl, rfl⟩
      apply ch_step
      focus
        intro w' hS
        subst hS
        refine wr_loadElem (G := GRd) (n := PL.length) rfl rfl GRd_len rfl hpb2 hpr hjl hx rfl ?_
        apply wr_nil
        exact ⟨rfl, rfl⟩
      apply ch_step
      focus
        intro w' hS
        subst hS
        apply wr_move; exact rfl; with_reducible (conv => enter [6, 3]; whnf)
        apply wr_nil
        exact ⟨rfl, rfl⟩
      apply ch_step
      focus
        intro w' hS
        subst hS
        apply wr_move; exact rfl; with_reducible (conv => enter [6, 3]; whnf)
        apply wr_nil
        exact ⟨rfl, rfl⟩
      apply ch_step
      focus
        intro w' hS
        subst hS
        refine wr_indexAddr (i := j) rfl rfl rfl hjl ?_
        apply wr_nil
        exact ⟨rfl, rfl⟩
      apply ch_step
      focus
        intro w' hS
        subst hS
        refine wr_loadElem (G := GRd) (n := PL.length) rfl rfl GRd_len rfl hqb2 hqr hjl hx rfl ?_
        apply wr_nil
        exact ⟨rfl, rfl⟩
      apply ch_step
      focus
        intro w' hS
        subst hS
        refine wr_structNe (c := false) rfl rfl rfl rd_stood rd_guard (rd_eqOk x x _) (by simp) ?_
        apply wr_nil
        exact ⟨rfl, rfl⟩
      refine ch_nil ?_
      intro w' hS
      subst hS
      (repeat first | (apply wr_move; exact rfl; with_reducible (conv => enter [6, 3]; whnf)) | (apply wr_assign; exact rfl; with_reducible (conv => enter [6, 3]; whnf)) | apply wr_end | apply wc_region | apply wc_skip | (apply wr_add; (iterate 3 exact rfl); exact w_fit (by dsimp only [kIn]; first | done | omega)) | (apply wc_false; exact rfl))
      exact ⟨j + 1, by omega, ⟨by trivial, hjl, hk11.drew⟩, rfl, rfl, rfl, rfl, rfl, rfl, rfl, rfl, rfl, rfl, rfl, by simp, trivial⟩
    replace har := har.keep hk11 (fun _ _ h => h)
    replace hca := hk11.heap hca (fun h => h)
    replace hbr := hbr.keep hk11 (fun _ _ h => h)
    replace hcb := hk11.heap hcb (fun h => h)
    replace hgr := hgr.keep hk11 (fun _ _ h => h)
    replace hcg := hk11.heap hcg (fun h => h)
    replace hx1r := hx1r.keep hk11 (fun _ _ h => h)
    replace hcx1 := hk11.heap hcx1 (fun h => h)
    replace hy1r := hy1r.keep hk11 (fun _ _ h => h)
    replace hcy1 := hk11.heap hcy1 (fun h => h)
    replace hz1r := hz1r.keep hk11 (fun _ _ h => h)
    replace hcz1 := hk11.heap hcz1 (fun h => h)
    have hkw_w11 : Keeps NoB w w11 := hkw_w10.trans hk11
    have hk0 : ∀ {w'}, Keeps NoB w11.drew w' → Keeps NoB w11 w' := fun hk => (Keeps.refl NoB w11).drew.trans hk
    have hRa : ∀ {w'}, Keeps NoB w11.drew w' → SetR w' (aA, al) (SetV aA (.slice an al.length ac)) := fun hk => ⟨_, rfl, har.keep (hk0 hk) (fun _ _ h => h)⟩
    have hRb : ∀ {w'}, Keeps NoB w11.drew w' → SetR w' (bA, bl) (SetV bA (.slice bn bl.length bc)) := fun hk => ⟨_, rfl, hbr.keep (hk0 hk) (fun _ _ h => h)⟩
    have hRg : ∀ {w'}, Keeps NoB w11.drew w' → SetR w' (gA, gl) (SetV gA (.slice gn gl.length gc)) := fun hk => ⟨_, rfl, hgr.keep (hk0 hk) (fun _ _ h => h)⟩
    have hRx1 : ∀ {w'}, Keeps NoB w11.drew w' → SetR w' (aA, al) (SetV aA (.slice x1n al.length x1c)) := fun hk => ⟨_, rfl, hx1r.keep (hk0 hk) (fun _ _ h => h)⟩
    have hRy1 : ∀ {w'}, Keeps NoB w11.drew w' → SetR w' (bA, bl) (SetV bA (.slice y1n bl.length y1c)) := fun hk => ⟨_, rfl, hy1r.keep (hk0 hk) (fun _ _ h => h)⟩
    have hRz1 : ∀ {w'}, Keeps NoB w11.drew w' → SetR w' (gA, gl) (SetV gA (.slice z1n gl.length z1c)) := fun hk => ⟨_, rfl, hz1r.keep (hk0 hk) (fun _ _ h => h)⟩
    (repeat first | (apply wr_move; exact rfl; with_reducible (conv => enter [6, 3]; whnf)) | apply wr_end | apply wc_seq | apply wc_region | (apply wr_len_slice; iterate 2 exact rfl) | (apply wr_cmp; (iterate 3 exact rfl); exact cmpF (by dsimp only [cmpN]; first | done | omega)) | (apply wc_false; exact rfl) | (apply wc_exit; try simp only [thenE, inBlockE, bodyQ, ↓reduceIte, Nat.reduceEqDiff]))
    refine wc_drawP (l := _) 22 _ (by kernel_rfl) (by kernel_rfl) rfl (by kernel_rfl) (by kernel_rfl) (by decide) ?_
    apply chP_pure
    focus
      intro xx w' hk hF
      apply wr_move; exact rfl; with_reducible (conv => enter [6, 3]; whnf)
      apply wr_nil
      exact ⟨rfl, Keeps.refl _ _⟩
    focus (intro xx yy h; rfl)
    focus kernel_rfl
    apply chP_pure
    focus
      intro xx w' hk hF
      apply wr_move; exact rfl; with_reducible (conv => enter [6, 3]; whnf)
      apply wr_nil
      exact ⟨rfl, Keeps.refl _ _⟩
    focus (intro xx yy h; rfl)
    focus kernel_rfl
    apply chP_pure
    focus
      intro xx w' hk hF
      apply wr_move; exact rfl; with_reducible (conv => enter [6, 3]; whnf)
      apply wr_nil
      exact ⟨rfl, Keeps.refl _ _⟩
    focus (intro xx yy h; rfl)
    focus kernel_rfl
    apply chP_pure
    focus
      intro xx w' hk hF
      first
      | (apply wr_pick (t := true); (iterate 2 exact rfl); with_reducible (conv => enter [6, 3]; whnf); apply wr_nil; exact ⟨rfl, Keeps.refl _ _⟩)
      | (apply wr_pick (t := false); (iterate 2 exact rfl); with_reducible (conv => enter [6, 3]; whnf); apply wr_nil; exact ⟨rfl, Keeps.refl _ _⟩)
    focus (intro xx yy h; rfl)
    focus kernel_rfl
    apply chP_pure
    focus
      intro xx w' hk hF
      apply wr_move; exact rfl; with_reducible (conv => enter [6, 3]; whnf)
      apply wr_nil
      exact ⟨rfl, Keeps.refl _ _⟩
    focus (intro xx yy h; rfl)
    focus kernel_rfl
    apply chP_pure
    focus
      intro xx w' hk hF
      apply wr_move; exact rfl; with_reducible (conv => enter [6, 3]; whnf)
      apply wr_nil
      exact ⟨rfl, Keeps.refl _ _⟩
    focus (intro xx yy h; rfl)
    focus kernel_rfl
    apply chP_pure
    focus
      intro xx w' hk hF
      first
      | (apply wr_pick (t := true); (iterate 2 exact rfl); with_reducible (conv => enter [6, 3]; whnf); apply wr_nil; exact ⟨rfl, Keeps.refl _ _⟩)
      | (apply wr_pick (t := false); (iterate 2 exact rfl); with_reducible (conv => enter [6, 3]; whnf); apply wr_nil; exact ⟨rfl, Keeps.refl _ _⟩)
    focus (intro xx yy h; rfl)
    focus kernel_rfl
    apply chP_pure
    focus
      intro xx w' hk hF
      apply wr_move; exact rfl; with_reducible (conv => enter [6, 3]; whnf)
      apply wr_nil
      exact ⟨rfl, Keeps.refl _ _⟩
    focus (intro xx yy h; rfl)
    focus kernel_rfl
    apply chP_pure
    focus
      intro xx w' hk hF
      apply wr_move; exact rfl; with_reducible (conv => enter [6, 3]; whnf)
      apply wr_nil
      exact ⟨rfl, Keeps.refl _ _⟩
    focus (intro xx yy h; rfl)
    focus kernel_rfl
    apply chP_pure
    focus
      intro xx w' hk hF
      first
      | (apply wr_pick (t := true); (iterate 2 exact rfl); with_reducible (conv => enter [6, 3]; whnf); apply wr_nil; exact ⟨rfl, Keeps.refl _ _⟩)
      | (apply wr_pick (t := false); (iterate 2 exact rfl); with_reducible (conv => enter [6, 3]; whnf); apply wr_nil; exact ⟨rfl, Keeps.refl _ _⟩)
    focus (intro xx yy h; rfl)
    focus kernel_rfl
    apply chP_pure
    focus
      intro xx w' hk hF
      apply wr_move; exact rfl; with_reducible (conv => enter [6, 3]; whnf)
      apply wr_nil
      exact ⟨rfl, Keeps.refl _ _⟩
    focus (intro xx yy h; rfl)
    focus kernel_rfl
    apply chP_pure
    focus
      intro xx w' hk hF
      apply wr_move; exact rfl; with_reducible (conv => enter [6, 3]; whnf)
      apply wr_nil
      exact ⟨rfl, Keeps.refl _ _⟩
    focus (intro xx yy h; rfl)
    focus kernel_rfl
    apply chP_pure
    focus
      intro xx w' hk hF
      first
      | (apply wr_pick (t := true); (iterate 2 exact rfl); with_reducible (conv => enter [6, 3]; whnf); apply wr_nil; exact ⟨rfl, Keeps.refl _ _⟩)
      | (apply wr_pick (t := false); (iterate 2 exact rfl); with_reducible (conv => enter [6, 3]; whnf); apply wr_nil; exact ⟨rfl, Keeps.refl _ _⟩)
    focus (intro xx yy h; rfl)
    focus kernel_rfl
    apply chP_pure
    focus
      intro xx w' hk hF
      apply wr_move; exact rfl; with_reducible (conv => enter [6, 3]; whnf)
      apply wr_nil
      exact ⟨rfl, Keeps.refl _ _⟩
    focus (intro xx yy h; rfl)
    focus kernel_rfl
    apply chP_pure
    focus
      intro xx w' hk hF
      refine wr_loadAll (cs := [.bool aA, .slice an al.length ac]) rfl rfl rfl ((hk0 hk).heap hca (fun h => h)) rfl ?_
      apply wr_nil
      exact ⟨rfl, Keeps.refl _ _⟩
    focus (intro xx yy h; rfl)
    focus kernel_rfl
    apply chP_pure
    focus
      intro xx w' hk hF
      refine wr_loadAll (cs := [.bool bA, .slice bn bl.length bc]) rfl rfl rfl ((hk0 hk).heap hcb (fun h => h)) rfl ?_
      apply wr_nil
      exact ⟨rfl, Keeps.refl _ _⟩
    focus (intro xx yy h; rfl)
    focus kernel_rfl
    apply chP_pure
    focus
      intro xx w' hk hF
      refine wr_call (vs := [SetV aA (.slice an al.length ac), SetV bA (.slice bn bl.length bc)]) rfl (same_cb _ rfl (hRa hk) (hRb hk) (by dsimp only; omega) (by dsimp only; omega)) rfl ?_
      rintro v w'' ⟨rfl, hkc⟩
      apply wr_nil
      exact ⟨rfl, hkc⟩
    focus (intro xx yy h; rfl)
    focus kernel_rfl
    apply chP_pure
    focus
      intro xx w' hk hF
      refine wr_loadAll (cs := [.bool aA, .slice x1n al.length x1c]) rfl rfl rfl ((hk0 hk).heap hcx1 (fun h => h)) rfl ?_
      apply wr_nil
      exact ⟨rfl, Keeps.refl _ _⟩
    focus (intro xx yy h; rfl)
    focus kernel_rfl
    apply chP_pure
    focus
      intro xx w' hk hF
      refine wr_loadAll (cs := [.bool bA, .slice y1n bl.length y1c]) rfl rfl rfl ((hk0 hk).heap hcy1 (fun h => h)) rfl ?_
      apply wr_nil
      exact ⟨rfl, Keeps.refl _ _⟩
    focus (intro xx yy h; rfl)
    focus kernel_rfl
    apply chP_pure
    focus
      intro xx w' hk hF
      refine wr_call (vs := [SetV aA (.slice x1n al.length x1c), SetV bA (.slice y1n bl.length y1c)]) rfl (refSame_ca _ rfl (hRx1 hk) (hRy1 hk) (by dsimp only; omega) (by dsimp only; omega)) rfl ?_
      rintro v w'' ⟨rfl, hkc⟩
      apply wr_nil
      exact ⟨rfl, hkc⟩
    focus (intro xx yy h; rfl)
    focus kernel_rfl
    apply chP_pure
    focus
      intro xx w' hk hF
      refine wr_boolEq (c := true) rfl rfl rfl (by simp) ?_
      apply wr_nil
      exact ⟨rfl, Keeps.refl _ _⟩
    focus (intro xx yy h; rfl)
    focus kernel_rfl
    apply chP_pure
    focus
      intro xx w' hk hF
      first
      | (apply wr_pick (t := true); (iterate 2 exact rfl); with_reducible (conv => enter [6, 3]; whnf); apply wr_nil; exact ⟨rfl, Keeps.refl _ _⟩)
      | (apply wr_pick (t := false); (iterate 2 exact rfl); with_reducible (conv => enter [6, 3]; whnf); apply wr_nil; exact ⟨rfl, Keeps.refl _ _⟩)
    focus (intro xx yy h; rfl)
    focus kernel_rfl
    refine chP_nil ?_
    intro xx wz hkz hF
    (repeat first | (apply wr_assign; exact rfl; with_reducible (conv => enter [6, 3]; whnf)) | apply wr_end | (apply wc_ret; try simp only [thenE, inBlockE, bodyQ]))
    exact leave1 (v := .bool true) rfl rfl ⟨rfl, hkw_w11.trans (hk0 hkz)⟩
  by_cases hlt2 : i < 10
  rotate_left
  · skip
    have hRl : SlR w5 5 v (rdL rs i).length ((rdL rs i).flatMap GRd) := by rw [rdL_len rs i]; exact SlR.of_own ho
    obtain ⟨RL, hRL⟩ : ∃ RL, RL = rdL rs i := ⟨_, rfl⟩
    have hRo := rdL_ok rs i
    have hRn : RL.length ≤ 10 := by rw [hRL, rdL_len]; omega
    rw [← hRL] at hRl hRo
    (repeat first | (apply wr_move; exact rfl; with_reducible (conv => enter [6, 3]; whnf)) | apply wr_end | apply wc_seq | apply wc_region | (apply wr_len_slice; iterate 2 exact rfl) | (apply wr_cmp; (iterate 3 exact rfl); exact cmpT (by dsimp only [cmpP]; first | done | omega)) | (apply wr_cmp; (iterate 3 exact rfl); exact cmpF (by dsimp only [cmpN]; first | done | omega)) | (apply wr_pick (t := true); (iterate 2 exact rfl); with_reducible (conv => enter [6, 3]; whnf)) | (apply wc_false; exact rfl) | (apply wc_exit; try simp only [thenE, inBlockE, bodyQ, ↓reduceIte, Nat.reduceEqDiff]))
    refine wr_loadAll (cs := [.bool aA, .slice an al.length ac]) rfl rfl rfl hca rfl ?_
    (repeat first | (apply wr_move; exact rfl; with_reducible (conv => enter [6, 3]; whnf)))
    refine wr_call (vs := [SetV aA (.slice an al.length ac), v]) rfl (pick_ca (aA, al) RL _ _ w5 ⟨_, rfl, har⟩ hRl (by dsimp only; omega) (by omega) hRo) rfl ?_
    rintro v1 w9 ⟨hp1, hk9⟩
    replace har := har.keep hk9 (fun _ _ h => h)
    replace hca := hk9.heap hca (fun h => h)
    replace hbr := hbr.keep hk9 (fun _ _ h => h)
    replace hcb := hk9.heap hcb (fun h => h)
    replace hgr := hgr.keep hk9 (fun _ _ h => h)
    replace hcg := hk9.heap hcg (fun h => h)
    replace hx1r := hx1r.keep hk9 (fun _ _ h => h)
    replace hcx1 := hk9.heap hcx1 (fun h => h)
    replace hy1r := hy1r.keep hk9 (fun _ _ h => h)
    replace hcy1 := hk9.heap hcy1 (fun h => h)
    replace hz1r := hz1r.keep hk9 (fun _ _ h => h)
    replace hcz1 := hk9.heap hcz1 (fun h => h)
    have hkw_w9 : Keeps NoB w w9 := hkw_w5.trans hk9
    (repeat first | (apply wr_assign; exact rfl; with_reducible (conv => enter [6, 3]; whnf)) | apply wr_end | apply wc_seq | apply wc_region)
    refine wr_loadAll (cs := [.bool aA, .slice x1n al.length x1c]) rfl rfl rfl hcx1 rfl ?_
    (repeat first | (apply wr_move; exact rfl; with_reducible (conv => enter [6, 3]; whnf)))
    refine wr_call (vs := [SetV aA (.slice x1n al.length x1c), v]) rfl (refPick_ca (aA, al) RL _ _ w9 ⟨_, rfl, hx1r⟩ (hRl.keep hk9 (fun _ _ h => h)) (by dsimp only; omega) (by omega) hRo) rfl ?_
    rintro v2 w10 ⟨hp2, hk10⟩
    replace hp1 := hp1.keep hk10 (fun _ _ h => h)
    replace har := har.keep hk10 (fun _ _ h => h)
    replace hca := hk10.heap hca (fun h => h)
    replace hbr := hbr.keep hk10 (fun _ _ h => h)
    replace hcb := hk10.heap hcb (fun h => h)
    replace hgr := hgr.keep hk10 (fun _ _ h => h)
    replace hcg := hk10.heap hcg (fun h => h)
    replace hx1r := hx1r.keep hk10 (fun _ _ h => h)
    replace hcx1 := hk10.heap hcx1 (fun h => h)
    replace hy1r := hy1r.keep hk10 (fun _ _ h => h)
    replace hcy1 := hk10.heap hcy1 (fun h => h)
    replace hz1r := hz1r.keep hk10 (fun _ _ h => h)
    replace hcz1 := hk10.heap hcz1 (fun h => h)
    have hkw_w10 : Keeps NoB w w10 := hkw_w9.trans hk10
    obtain ⟨PL, hPL⟩ : ∃ PL, PL = pickP (aA, al) RL := ⟨_, rfl⟩
    rw [← hPL] at hp1 hp2
    have hPn : PL.length ≤ 10 := by
      have h := List.length_filter_le (fun r => hasP (aA, al) r.2.1) RL
      rw [hPL]
      exact Nat.le_trans h hRn
    obtain ⟨pa, pc, rfl, _, hatp⟩ := hp1.shape
    obtain ⟨qa, qc, rfl, _, hatq⟩ := hp2.shape
    (repeat first | (apply wr_move; exact rfl; with_reducible (conv => enter [6, 3]; whnf)) | (apply wr_assign; exact rfl; with_reducible (conv => enter [6, 3]; whnf)) | apply wr_end | apply wc_seq | apply wc_region | apply wc_skip | apply wc_block | (apply wr_len_slice; iterate 2 exact rfl) | (apply wr_cmp; (iterate 3 exact rfl); exact cmpF (by dsimp only [cmpN]; first | done | omega)) | (apply wc_false; exact rfl))
    refine wc_loopL (α := Nat) (fun i => [(9, .bool true), (10, .pointer (some ⟨ba, 0, none⟩)), (11, .pointer (some ⟨bb, 0, none⟩)), (13, .pointer (some ⟨bx1, 0, none⟩)), (14, .pointer (some ⟨by1, 0, none⟩)), (16, .bool true), (17, .bool true), (18, .bool true), (19, .bool true), (22, .slice pa PL.length pc), (23, .slice qa PL.length qc), (24, .int .i64 (i : Int))])
      (fun i ds w' => ds = [] ∧ i ≤ PL.length ∧ Keeps NoB w10 w') (fun i => PL.length - i) 0 ⟨rfl, Nat.zero_le _, Keeps.refl _ _⟩ ⟨rfl, rfl, rfl, rfl, rfl, rfl, rfl, rfl, rfl, rfl, rfl, rfl, trivial⟩ ?_
    rintro j ds f1 w11 ⟨rfl, hj, hk11⟩
    by_cases hjl : j < PL.length
    · obtain ⟨pb, po, rfl, pcur, pe, pfr, hpb, hpr⟩ := hatp (by omega)
      obtain ⟨qb, qo, rfl, qcur, qe, qfr, hqb, hqr⟩ := hatq (by omega)
      have hpb2 := hk11.heap hpb (fun h => h)
      have hqb2 := hk11.heap hqb (fun h => h)
      obtain ⟨x, hx⟩ : ∃ x, PL[j]? = some x := ⟨PL[j], by simp [hjl]⟩
      (repeat first | (apply wr_move; exact rfl; with_reducible (conv => enter [6, 3]; whnf)) | apply wr_end | apply wc_seq | apply wc_region | apply wc_skip | apply wc_block | (apply wr_len_slice; iterate 2 exact rfl) | (apply wr_cmp; (iterate 3 exact rfl); exact cmpT (by dsimp only [cmpP]; first | done | omega)) | (apply wc_true; exact rfl))
      refine wc_drawS (l := _) (S := fun w' => w' = w11.drew) (by kernel_rfl) (by kernel_rfl) rfl ?_
      apply ch_step
      focus
        intro w' hS
        subst hS
        apply wr_move; exact rfl; with_reducible (conv => enter [6, 3]; whnf)
        apply wr_nil
        exact ⟨rfl, rfl⟩
      apply ch_step
      focus
        intro w' hS
        subst hS
        apply wr_move; exact rfl; with_reducible (conv => enter [6, 3]; whnf)
        apply wr_nil
        exact ⟨rfl, rfl⟩
      apply ch_step
      focus
        intro w' hS
        subst hS
        refine wr_indexAddr (i := j) rfl rfl rfl hjl ?_
        apply wr_nil
        exact ⟨rfl, rfl⟩
      apply ch_step
      focus
        intro w' hS
        subst hS
        refine wr_loadElem (G := GRd) (n := PL.length) rfl rfl GRd_len rfl hpb2 hpr hjl hx rfl ?_
        apply wr_nil
        exact ⟨rfl, rfl⟩
      apply ch_step
      focus
        intro w' hS
        subst hS
        apply wr_move; exact rfl; with_reducible (conv => enter [6, 3]; whnf)
        apply wr_nil
        exact ⟨rfl, rfl⟩
      apply ch_step
      focus
        intro w' hS
        subst hS
        apply wr_move; exact rfl; with_reducible (conv => enter [6, 3]; whnf)
        apply wr_nil
        exact ⟨rfl, rfl⟩
      apply ch_step
      focus
        intro w' hS
        subst hS
        refine wr_indexAddr (i := j) rfl rfl rfl hjl ?_
        apply wr_nil
        exact ⟨rfl, rfl⟩
      apply ch_step
      focus
        intro w' hS
        subst hS
        refine wr_loadElem (G := GRd) (n := PL.length) rfl rfl GRd_len rfl hqb2 hqr hjl hx rfl ?_
        apply wr_nil
        exact ⟨rfl, rfl⟩
      apply ch_step
      focus
        intro w' hS
        subst hS
        refine wr_structNe (c := false) rfl rfl rfl rd_stood rd_guard (rd_eqOk x x _) (by simp) ?_
        apply wr_nil
        exact ⟨rfl, rfl⟩
      refine ch_nil ?_
      intro w' hS
      subst hS
      (repeat first | (apply wr_move; exact rfl; with_reducible (conv => enter [6, 3]; whnf)) | (apply wr_assign; exact rfl; with_reducible (conv => enter [6, 3]; whnf)) | apply wr_end | apply wc_region | apply wc_skip | (apply wr_add; (iterate 3 exact rfl); exact w_fit (by dsimp only [kIn]; first | done | omega)) | (apply wc_false; exact rfl))
      exact ⟨j + 1, by omega, ⟨by trivial, hjl, hk11.drew⟩, rfl, rfl, rfl, rfl, rfl, rfl, rfl, rfl, rfl, rfl, rfl, by simp, trivial⟩
    replace har := har.keep hk11 (fun _ _ h => h)
    replace hca := hk11.heap hca (fun h => h)
    replace hbr := hbr.keep hk11 (fun _ _ h => h)
    replace hcb := hk11.heap hcb (fun h => h)
    replace hgr := hgr.keep hk11 (fun _ _ h => h)
    replace hcg := hk11.heap hcg (fun h => h)
    replace hx1r := hx1r.keep hk11 (fun _ _ h => h)
    replace hcx1 := hk11.heap hcx1 (fun h => h)
    replace hy1r := hy1r.keep hk11 (fun _ _ h => h)
    replace hcy1 := hk11.heap hcy1 (fun h => h)
    replace hz1r := hz1r.keep hk11 (fun _ _ h => h)
    replace hcz1 := hk11.heap hcz1 (fun h => h)
    have hkw_w11 : Keeps NoB w w11 := hkw_w10.trans hk11
    have hk0 : ∀ {w'}, Keeps NoB w11.drew w' → Keeps NoB w11 w' := fun hk => (Keeps.refl NoB w11).drew.trans hk
    have hRa : ∀ {w'}, Keeps NoB w11.drew w' → SetR w' (aA, al) (SetV aA (.slice an al.length ac)) := fun hk => ⟨_, rfl, har.keep (hk0 hk) (fun _ _ h => h)⟩
    have hRb : ∀ {w'}, Keeps NoB w11.drew w' → SetR w' (bA, bl) (SetV bA (.slice bn bl.length bc)) := fun hk => ⟨_, rfl, hbr.keep (hk0 hk) (fun _ _ h => h)⟩
    have hRg : ∀ {w'}, Keeps NoB w11.drew w' → SetR w' (gA, gl) (SetV gA (.slice gn gl.length gc)) := fun hk => ⟨_, rfl, hgr.keep (hk0 hk) (fun _ _ h => h)⟩
    have hRx1 : ∀ {w'}, Keeps NoB w11.drew w' → SetR w' (aA, al) (SetV aA (.slice x1n al.length x1c)) := fun hk => ⟨_, rfl, hx1r.keep (hk0 hk) (fun _ _ h => h)⟩
    have hRy1 : ∀ {w'}, Keeps NoB w11.drew w' → SetR w' (bA, bl) (SetV bA (.slice y1n bl.length y1c)) := fun hk => ⟨_, rfl, hy1r.keep (hk0 hk) (fun _ _ h => h)⟩
    have hRz1 : ∀ {w'}, Keeps NoB w11.drew w' → SetR w' (gA, gl) (SetV gA (.slice z1n gl.length z1c)) := fun hk => ⟨_, rfl, hz1r.keep (hk0 hk) (fun _ _ h => h)⟩
    (repeat first | (apply wr_move; exact rfl; with_reducible (conv => enter [6, 3]; whnf)) | apply wr_end | apply wc_seq | apply wc_region | (apply wr_len_slice; iterate 2 exact rfl) | (apply wr_cmp; (iterate 3 exact rfl); exact cmpF (by dsimp only [cmpN]; first | done | omega)) | (apply wc_false; exact rfl) | (apply wc_exit; try simp only [thenE, inBlockE, bodyQ, ↓reduceIte, Nat.reduceEqDiff]))
    refine wc_drawP (l := _) 22 _ (by kernel_rfl) (by kernel_rfl) rfl (by kernel_rfl) (by kernel_rfl) (by decide) ?_
    apply chP_pure
    focus
      intro xx w' hk hF
      apply wr_move; exact rfl; with_reducible (conv => enter [6, 3]; whnf)
      apply wr_nil
      exact ⟨rfl, Keeps.refl _ _⟩
    focus (intro xx yy h; rfl)
    focus kernel_rfl
    apply chP_pure
    focus
      intro xx w' hk hF
      apply wr_move; exact rfl; with_reducible (conv => enter [6, 3]; whnf)
      apply wr_nil
      exact ⟨rfl, Keeps.refl _ _⟩
    focus (intro xx yy h; rfl)
    focus kernel_rfl
    apply chP_pure
    focus
      intro xx w' hk hF
      apply wr_move; exact rfl; with_reducible (conv => enter [6, 3]; whnf)
      apply wr_nil
      exact ⟨rfl, Keeps.refl _ _⟩
    focus (intro xx yy h; rfl)
    focus kernel_rfl
    apply chP_pure
    focus
      intro xx w' hk hF
      first
      | (apply wr_pick (t := true); (iterate 2 exact rfl); with_reducible (conv => enter [6, 3]; whnf); apply wr_nil; exact ⟨rfl, Keeps.refl _ _⟩)
      | (apply wr_pick (t := false); (iterate 2 exact rfl); with_reducible (conv => enter [6, 3]; whnf); apply wr_nil; exact ⟨rfl, Keeps.refl _ _⟩)
    focus (intro xx yy h; rfl)
    focus kernel_rfl
    apply chP_pure
    focus
      intro xx w' hk hF
      apply wr_move; exact rfl; with_reducible (conv => enter [6, 3]; whnf)
      apply wr_nil
      exact ⟨rfl, Keeps.refl _ _⟩
    focus (intro xx yy h; rfl)
    focus kernel_rfl
    apply chP_pure
    focus
      intro xx w' hk hF
      apply wr_move; exact rfl; with_reducible (conv => enter [6, 3]; whnf)
      apply wr_nil
      exact ⟨rfl, Keeps.refl _ _⟩
    focus (intro xx yy h; rfl)
    focus kernel_rfl
    apply chP_pure
    focus
      intro xx w' hk hF
      first
      | (apply wr_pick (t := true); (iterate 2 exact rfl); with_reducible (conv => enter [6, 3]; whnf); apply wr_nil; exact ⟨rfl, Keeps.refl _ _⟩)
      | (apply wr_pick (t := false); (iterate 2 exact rfl); with_reducible (conv => enter [6, 3]; whnf); apply wr_nil; exact ⟨rfl, Keeps.refl _ _⟩)
    focus (intro xx yy h; rfl)
    focus kernel_rfl
    apply chP_pure
    focus
      intro xx w' hk hF
      apply wr_move; exact rfl; with_reducible (conv => enter [6, 3]; whnf)
      apply wr_nil
      exact ⟨rfl, Keeps.refl _ _⟩
    focus (intro xx yy h; rfl)
    focus kernel_rfl
    apply chP_pure
    focus
      intro xx w' hk hF
      apply wr_move; exact rfl; with_reducible (conv => enter [6, 3]; whnf)
      apply wr_nil
      exact ⟨rfl, Keeps.refl _ _⟩
    focus (intro xx yy h; rfl)
    focus kernel_rfl
    apply chP_pure
    focus
      intro xx w' hk hF
      first
      | (apply wr_pick (t := true); (iterate 2 exact rfl); with_reducible (conv => enter [6, 3]; whnf); apply wr_nil; exact ⟨rfl, Keeps.refl _ _⟩)
      | (apply wr_pick (t := false); (iterate 2 exact rfl); with_reducible (conv => enter [6, 3]; whnf); apply wr_nil; exact ⟨rfl, Keeps.refl _ _⟩)
    focus (intro xx yy h; rfl)
    focus kernel_rfl
    apply chP_pure
    focus
      intro xx w' hk hF
      apply wr_move; exact rfl; with_reducible (conv => enter [6, 3]; whnf)
      apply wr_nil
      exact ⟨rfl, Keeps.refl _ _⟩
    focus (intro xx yy h; rfl)
    focus kernel_rfl
    apply chP_pure
    focus
      intro xx w' hk hF
      apply wr_move; exact rfl; with_reducible (conv => enter [6, 3]; whnf)
      apply wr_nil
      exact ⟨rfl, Keeps.refl _ _⟩
    focus (intro xx yy h; rfl)
    focus kernel_rfl
    apply chP_pure
    focus
      intro xx w' hk hF
      first
      | (apply wr_pick (t := true); (iterate 2 exact rfl); with_reducible (conv => enter [6, 3]; whnf); apply wr_nil; exact ⟨rfl, Keeps.refl _ _⟩)
      | (apply wr_pick (t := false); (iterate 2 exact rfl); with_reducible (conv => enter [6, 3]; whnf); apply wr_nil; exact ⟨rfl, Keeps.refl _ _⟩)
    focus (intro xx yy h; rfl)
    focus kernel_rfl
    apply chP_pure
    focus
      intro xx w' hk hF
      apply wr_move; exact rfl; with_reducible (conv => enter [6, 3]; whnf)
      apply wr_nil
      exact ⟨rfl, Keeps.refl _ _⟩
    focus (intro xx yy h; rfl)
    focus kernel_rfl
    apply chP_pure
    focus
      intro xx w' hk hF
      refine wr_loadAll (cs := [.bool aA, .slice an al.length ac]) rfl rfl rfl ((hk0 hk).heap hca (fun h => h)) rfl ?_
      apply wr_nil
      exact ⟨rfl, Keeps.refl _ _⟩
    focus (intro xx yy h; rfl)
    focus kernel_rfl
    apply chP_pure
    focus
      intro xx w' hk hF
      refine wr_loadAll (cs := [.bool bA, .slice bn bl.length bc]) rfl rfl rfl ((hk0 hk).heap hcb (fun h => h)) rfl ?_
      apply wr_nil
      exact ⟨rfl, Keeps.refl _ _⟩
    focus (intro xx yy h; rfl)
    focus kernel_rfl
    apply chP_pure
    focus
      intro xx w' hk hF
      refine wr_call (vs := [SetV aA (.slice an al.length ac), SetV bA (.slice bn bl.length bc)]) rfl (same_cb _ rfl (hRa hk) (hRb hk) (by dsimp only; omega) (by dsimp only; omega)) rfl ?_
      rintro v w'' ⟨rfl, hkc⟩
      apply wr_nil
      exact ⟨rfl, hkc⟩
    focus (intro xx yy h; rfl)
    focus kernel_rfl
    apply chP_pure
    focus
      intro xx w' hk hF
      refine wr_loadAll (cs := [.bool aA, .slice x1n al.length x1c]) rfl rfl rfl ((hk0 hk).heap hcx1 (fun h => h)) rfl ?_
      apply wr_nil
      exact ⟨rfl, Keeps.refl _ _⟩
    focus (intro xx yy h; rfl)
    focus kernel_rfl
    apply chP_pure
    focus
      intro xx w' hk hF
      refine wr_loadAll (cs := [.bool bA, .slice y1n bl.length y1c]) rfl rfl rfl ((hk0 hk).heap hcy1 (fun h => h)) rfl ?_
      apply wr_nil
      exact ⟨rfl, Keeps.refl _ _⟩
    focus (intro xx yy h; rfl)
    focus kernel_rfl
    apply chP_pure
    focus
      intro xx w' hk hF
      refine wr_call (vs := [SetV aA (.slice x1n al.length x1c), SetV bA (.slice y1n bl.length y1c)]) rfl (refSame_ca _ rfl (hRx1 hk) (hRy1 hk) (by dsimp only; omega) (by dsimp only; omega)) rfl ?_
      rintro v w'' ⟨rfl, hkc⟩
      apply wr_nil
      exact ⟨rfl, hkc⟩
    focus (intro xx yy h; rfl)
    focus kernel_rfl
    apply chP_pure
    focus
      intro xx w' hk hF
      refine wr_boolEq (c := true) rfl rfl rfl (by simp) ?_
      apply wr_nil
      exact ⟨rfl, Keeps.refl _ _⟩
    focus (intro xx yy h; rfl)
    focus kernel_rfl
    apply chP_pure
    focus
      intro xx w' hk hF
      first
      | (apply wr_pick (t := true); (iterate 2 exact rfl); with_reducible (conv => enter [6, 3]; whnf); apply wr_nil; exact ⟨rfl, Keeps.refl _ _⟩)
      | (apply wr_pick (t := false); (iterate 2 exact rfl); with_reducible (conv => enter [6, 3]; whnf); apply wr_nil; exact ⟨rfl, Keeps.refl _ _⟩)
    focus (intro xx yy h; rfl)
    focus kernel_rfl
    refine chP_nil ?_
    intro xx wz hkz hF
    (repeat first | (apply wr_assign; exact rfl; with_reducible (conv => enter [6, 3]; whnf)) | apply wr_end | (apply wc_ret; try simp only [thenE, inBlockE, bodyQ]))
    exact leave1 (v := .bool true) rfl rfl ⟨rfl, hkw_w11.trans (hk0 hkz)⟩
  obtain ⟨rb, ro, rfl, rcur, re, rfr, hrb, hrr⟩ := hatr (by omega)
  obtain ⟨q, hq⟩ : ∃ q, rs[i]? = some q := ⟨rs[i], by simp [hlt]⟩
  have hq8 := hr8 q (List.mem_of_getElem? hq)
  have hcell : rcur[ro + i * 1]? = some (.int .u8 (q : Int)) := by rw [Nat.mul_one, hrr i (by omega)]; simp [IB, hq]
  have hrb5 := hkw_w5.heap hrb (fun h => h)
  (repeat first | (apply wr_move; exact rfl; with_reducible (conv => enter [6, 3]; whnf)) | apply wr_end | apply wc_seq | apply wc_region | apply wc_skip | apply wc_block | (apply wr_len_slice; iterate 2 exact rfl) | (apply wr_cmp; (iterate 3 exact rfl); exact cmpT (by dsimp only [cmpP]; first | done | omega)) | (apply wr_pick (t := true); (iterate 2 exact rfl); with_reducible (conv => enter [6, 3]; whnf)) | (apply wc_true; exact rfl))
  refine wr_buildSlice (vs := rsTab.map S) rfl rfl (by intro v hv; simp [rsTab] at hv; rcases hv with rfl | rfl | rfl | rfl | rfl <;> rfl) rfl (by decide) (by decide) (by decide) ?_
  refine wr_name ?_
  intro w6 hw6
  have hk6 : Keeps NoB w5 w6 := by rw [hw6]; exact (Keeps.refl NoB w5).alloc _
  have hc6 : w6.heap[w5.heap.size]? = some (.cells (rsTab.map S).toArray 9 (0, 0)) := by rw [hw6]; exact heap_alloc_same _ _
  clear hw6
  have hrb6 := hk6.heap hrb5 (fun h => h)
  (repeat first | (apply wr_move; exact rfl; with_reducible (conv => enter [6, 3]; whnf)))
  refine wr_indexAddr (i := i) rfl rfl rfl hlt ?_
  refine wr_load (v := .int .u8 (q : Int)) rfl rfl rfl hrb6 hcell ?_
  refine wr_remN (n := q) (m := 5) rfl rfl rfl (by omega) ?_
  have hmod : q % 5 < 5 := Nat.mod_lt _ (by decide)
  refine wr_indexAddr (i := q % 5) rfl rfl rfl hmod ?_
  refine wr_load (v := S (rsOf q)) rfl rfl rfl hc6 (rsTab_cell _ hmod) ?_
  refine wr_build (ps := [(0, .int .i64 1), (1, S (rsOf q))]) (cs := [.int .i64 1, S (rsOf q)]) rfl rfl rfl rfl ?_
  (repeat first | (apply wr_move; exact rfl; with_reducible (conv => enter [6, 3]; whnf)) | (apply wr_conv; (iterate 2 exact rfl); exact w_fit (by dsimp only [kIn]; first | done | omega)))
  refine wr_build (ps := [(0, .agg #[.int .i64 1, S (rsOf q)]), (1, .int .u64 (i : Int))]) (cs := GRd (rdAt i q)) rfl rfl rfl rfl ?_
  refine wr_buildSlice (vs := [.agg (GRd (rdAt i q)).toArray]) rfl rfl (by intro v hv; simp at hv; subst hv; rfl) rfl (by decide) (by decide) (by decide) ?_
  refine wr_name ?_
  intro w7 hw7
  have hk7 : Keeps NoB w6 w7 := by rw [hw7]; exact (Keeps.refl NoB w6).alloc _
  have hc7 : w7.heap[w6.heap.size]? = some (.cells (GRd (rdAt i q)).toArray 53 (0, 0)) := by
    rw [hw7]
    exact (heap_alloc_same _ _).trans (by simp [Value.cells])
  clear hw7
  have ho7 := own_keep ho (hk6.trans hk7) (fun _ _ h => h)
  have hs7 := (hk6.trans hk7).size
  refine wr_append (v := v) (base := w4.heap.size) (n := i) (m := 1) (xs := (rdL rs i).flatMap GRd) (news := GRd (rdAt i q)) rfl rfl ho7 rfl hc7 rfl (GRd_one _) rfl (by decide) (by omega) (by omega) (by omega) ?_
  intro v8 w8 ho8 hk8 _
  (repeat first | (apply wr_move; exact rfl; with_reducible (conv => enter [6, 3]; whnf)) | (apply wr_assign; exact rfl; with_reducible (conv => enter [6, 3]; whnf)) | apply wr_end | apply wc_region | (apply wr_add; (iterate 3 exact rfl); exact w_fit (by dsimp only [kIn]; first | done | omega)) | (apply wr_nil; try simp only [thenE, inBlockE, bodyQ]))
  refine ⟨(i + 1, v8), by dsimp only; omega, ⟨by trivial, hlt, hlt2, ?_, Keeps.trans' (hk5.trans (hk6.trans hk7)) hk8 (fun j hj e => by have := own_ge ho7 e; omega)⟩, rfl, rfl, rfl, rfl, rfl, rfl, rfl, rfl, rfl, rfl, rfl, rfl, rfl, by simp, trivial⟩
  dsimp only
  rw [rdL_snoc hq, List.flatMap_append]
  simpa using ho8
end Go.Proofs.YtfdpnkmchedeeaaDoor
