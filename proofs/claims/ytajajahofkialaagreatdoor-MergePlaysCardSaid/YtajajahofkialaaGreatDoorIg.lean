/- noriaref14: Set of one it knows. -/
import Derived.Test.YtajajahofkialaaGreatDoorIf
namespace Go.Proofs.YtajajahofkialaaGreatDoor
open Go Go.V Go.RowKit
set_option linter.unusedVariables false
set_option linter.unusedSimpArgs false

/- The head: $1 after New. -/
/- A set of a few: $1 slice, $2 bytes, $3 world, $4 stem, $5 SlR, $6 bytes small, $7 how many. -/
theorem set_cells {L : List SE} (h : L.length = 198) (x : SE) {id k : Nat} (hi : id < 33) (hk : k < 6) : (L.flatMap GSt).take (0 + id * 12 + k * 2) ++ GSt x ++ (L.flatMap GSt).drop (0 + id * 12 + k * 2 + 2) = (L.set (id * 6 + k) x).flatMap GSt := by
  rw [show 0 + id * 12 + k * 2 = 0 + (id * 6 + k) * 2 by omega]
  exact flat_set x L (id * 6 + k) (by omega)
set_option maxRecDepth 100000 in
set_option maxHeartbeats 16000000 in
theorem refSetM_ca {w : World} {xb : Nat} {Wn : WF} (h : RefAt w xb Wn) (hd : ∀ t, ¬ inDom t → Wn t = noneP) (hf : ∀ t, Fine (Wn t)) (hsm : ∀ t, (Wn t).2.length ≤ 100000) {id k : Nat} (ht : inDom ((id : Int), (k : Int))) {s : PS} {sv : Value} (hs : SetR w s sv) (hsf : Fine s) (hsl : s.2.length ≤ 90000) :
    Ca Tryz.prog 15 #[.pointer (some ⟨xb, 0, none⟩), .int .i64 (id : Int), .int .i64 (k : Int), sv] w fun v w' => ((fitsS Wn ((id : Int), (k : Int)) k s = true ∧ RefAt w' xb (updW Wn ((id : Int), (k : Int)) s) ∧ ∃ mv lv, v = .tuple #[mv, lv, .int .i64 0] ∧ SetR w' (lessP (unionK (updW Wn ((id : Int), (k : Int)) s) k) (unionK Wn k)) mv ∧ SetR w' (lessP (unionK Wn k) (unionK (updW Wn ((id : Int), (k : Int)) s) k)) lv) ∨
      (fitsS Wn ((id : Int), (k : Int)) k s = false ∧ RefAt w' xb Wn ∧ v = .tuple #[SetV false nilV, SetV false nilV, .int .i64 4])) ∧ Keeps (· = xb) w w' := by
  obtain ⟨nv, rfl, hnv⟩ := hs
  refine ca_of_body (args := [.pointer (some ⟨xb, 0, none⟩), .int .i64 (id : Int), .int .i64 (k : Int), SetV s.1 nv]) Tryz.func15 rfl (by kernel_rfl) ?_
  have hR0 : SetR w s (SetV s.1 nv) := ⟨nv, rfl, hnv⟩
  obtain ⟨a1, a2, a3, a4⟩ := (show 1 ≤ (id : Int) ∧ (id : Int) ≤ 32 ∧ 1 ≤ (k : Int) ∧ (k : Int) ≤ 5 from ht)
  have hid : id < 33 := by omega
  have hk6 : k < 6 := by omega
  obtain ⟨L0, _, hx0, _⟩ := h.at'
  have hxl := lt_of_heap hx0
  apply wc_seq
  apply wc_region
  refine wr_box (v := SetV s.1 nv) rfl rfl ?_
  refine wr_name ?_
  intro w1 hww1
  obtain ⟨bw1, hbw1⟩ : ∃ b, b = (w).heap.size := ⟨_, rfl⟩
  have hkw1 : Keeps NoB w w1 := by rw [hww1]; exact (Keeps.refl NoB w).alloc _
  have hcw1 : (w1).heap[bw1]? = some (.cells ([.bool s.1, nv]).toArray 29 (0, 0)) := by rw [hww1, hbw1]; exact heap_alloc_same _ _
  rw [← hbw1]
  clear hww1
  apply wr_alloc
  focus exact rfl
  refine wr_name ?_
  intro w2 hww2
  obtain ⟨bw2, hbw2⟩ : ∃ b, b = (w1).heap.size := ⟨_, rfl⟩
  have hkw2 : Keeps NoB w1 w2 := by rw [hww2]; exact (Keeps.refl NoB w1).alloc _
  have hcw2 : (w2).heap[bw2]? = some (.cells ([.bool false, nilV]).toArray 29 (0, 0)) := by rw [hww2, hbw2]; exact heap_alloc_same _ _
  rw [← hbw2]
  clear hww2
  apply wr_alloc
  focus exact rfl
  refine wr_name ?_
  intro w3 hww3
  obtain ⟨bw3, hbw3⟩ : ∃ b, b = (w2).heap.size := ⟨_, rfl⟩
  have hkw3 : Keeps NoB w2 w3 := by rw [hww3]; exact (Keeps.refl NoB w2).alloc _
  have hcw3 : (w3).heap[bw3]? = some (.cells ([.bool false, nilV]).toArray 29 (0, 0)) := by rw [hww3, hbw3]; exact heap_alloc_same _ _
  rw [← hbw3]
  clear hww3
  (repeat first | (apply wr_assign; exact rfl; with_reducible (conv => enter [6, 3]; whnf)) | apply wr_end | apply wc_seq | apply wc_region)
  refine wr_build (ps := []) (cs := [.bool false, nilV]) rfl rfl rfl rfl ?_
  (repeat first | (apply wr_alloc; exact rfl))
  refine wr_storeAll (cs := [.bool false, nilV]) rfl rfl rfl (zset_one) (heap_alloc_same _ _) rfl rfl ?_
  refine wr_name ?_
  intro w4 hww4
  obtain ⟨bw4, hbw4⟩ : ∃ b, b = (w3).heap.size := ⟨_, rfl⟩
  have hkw4 : Keeps NoB w3 w4 := by rw [hww4]; exact ((Keeps.refl NoB w3).alloc _).put _ (fun h => by omega)
  have hcw4 : (w4).heap[bw4]? = some (.cells ([.bool false, nilV]).toArray 29 (0, 0)) := by rw [hww4, hbw4]; exact World.putObj_heap_same (by simp)
  rw [← hbw4]
  clear hww4
  have hk14 := (hkw2.trans hkw3).trans hkw4
  have hk04 := hkw1.trans hk14
  have hc14 := hk14.heap hcw1 (fun h => h)
  have hc24 := (hkw3.trans hkw4).heap hcw2 (fun h => h)
  have hc34 := hkw4.heap hcw3 (fun h => h)
  have hl1 := lt_of_heap hcw1
  have hl2 := lt_of_heap hcw2
  have hl3 := lt_of_heap hcw3
  have hl4 := lt_of_heap hcw4
  have hz1 := hkw1.size
  have hls := listP_le s
  have hR4 := hR0.keep hk04
  (repeat first | (apply wr_move; exact rfl; with_reducible (conv => enter [6, 3]; whnf)) | apply wr_end | apply wc_seq | apply wc_region | apply wc_skip | (apply wr_cmp; (iterate 3 exact rfl); exact cmpF (by dsimp only [cmpN]; first | done | omega)) | (apply wr_pick (t := false); (iterate 2 exact rfl); with_reducible (conv => enter [6, 3]; whnf)) | (apply wc_false; exact rfl))
  refine wr_loadAll (cs := [.bool s.1, nv]) rfl rfl rfl hc14 rfl ?_
  refine wr_call (vs := [SetV s.1 nv]) rfl (refList_ca s _ w4 hR4 (by omega)) rfl ?_
  rintro lv w5 ⟨hlv, hk5⟩
  refine wr_call (vs := [lv]) rfl (refOf_ca (listP s) lv w5 hlv (by omega) (listP_ok hsf)) rfl ?_
  rintro v w6 ⟨hsv, hk6'⟩
  rw [ofP_listP hsf] at hsv
  obtain ⟨sn, rfl, hsn⟩ := hsv
  have hs6 : SetR w6 s (SetV s.1 sn) := ⟨sn, rfl, hsn⟩
  have hk46 := hk5.trans hk6'
  have hc16 := hk46.heap hc14 (fun h => h)
  refine wr_storeAll (cs := [.bool s.1, sn]) rfl rfl rfl (by intro u hu; simp at hu; rcases hu with rfl | rfl; rfl; exact hs6.one.1) hc16 (rfl) (rfl) ?_
  refine wr_name ?_
  intro w7 hww7
  have hkw7 : Keeps (· = bw1) w6 w7 := by rw [hww7]; exact (Keeps.refl _ w6).put _ (fun _ => rfl)
  have hcw7 : (w7).heap[bw1]? = some (.cells ([.bool s.1, sn]).toArray 29 (0, 0)) := by rw [hww7]; exact World.putObj_heap_same (lt_of_heap hc16)
  clear hww7
  have hnvs : ∀ (j : Nat) (t : TT), (([.bool s.1, nv] : List Value).toArray)[j]? ≠ some (S t) := setCells_ne s.1 nv (fun t => hR0.one.2 t)
  have hs7 := hs6.put hkw7 hc16 hnvs
  have h7 : RefAt w7 xb Wn := ((h.keep hk04).keep hk46).put hkw7 hc16 hnvs (by omega)
  have hc27 := hkw7.heap (hk46.heap hc24 (fun h => h)) (fun e => by omega)
  have hc37 := hkw7.heap (hk46.heap hc34 (fun h => h)) (fun e => by omega)
  have hc47 := hkw7.heap (hk46.heap hcw4 (fun h => h)) (fun e => by omega)
  have hK7 : Keeps NoB w w7 := (hk04.trans hk46).trans' hkw7 (fun i hi e => by omega)
  have hz47 := hk46.size
  have hz7 := hkw7.size
  (repeat first | (apply wr_move; exact rfl; with_reducible (conv => enter [6, 3]; whnf)) | apply wr_end | apply wc_seq | apply wc_region)
  refine wr_call (vs := [.pointer (some ⟨xb, 0, none⟩), .int .i64 (k : Int)]) rfl (refUnion14_ca h7 hd hf hsm k (by omega) (by omega)) rfl ?_
  rintro v w8 ⟨hu8, hk8⟩
  obtain ⟨U, hU⟩ : ∃ U, U = unionK Wn k := ⟨_, rfl⟩
  rw [← hU] at hu8
  obtain ⟨un, rfl, hun⟩ := hu8
  have hu8 : SetR w8 U (SetV U.1 un) := ⟨un, rfl, hun⟩
  (repeat first | (apply wr_alloc; exact rfl))
  refine wr_storeAll (cs := [.bool U.1, un]) rfl rfl rfl (by intro u hu; simp at hu; rcases hu with rfl | rfl; rfl; exact hu8.one.1) (heap_alloc_same _ _) rfl rfl ?_
  refine wr_name ?_
  intro w9 hww9
  obtain ⟨bw9, hbw9⟩ : ∃ b, b = (w8).heap.size := ⟨_, rfl⟩
  have hkw9 : Keeps NoB w8 w9 := by rw [hww9]; exact ((Keeps.refl NoB w8).alloc _).put _ (fun h => by omega)
  have hcw9 : (w9).heap[bw9]? = some (.cells ([.bool U.1, un]).toArray 29 (0, 0)) := by rw [hww9, hbw9]; exact World.putObj_heap_same (by simp)
  rw [← hbw9]
  clear hww9
  have hk79 := hk8.trans hkw9
  obtain ⟨L, h1, h2, h3, h4⟩ := (h7.keep hk79).at'
  obtain ⟨wv, hwv⟩ := ref_sel h3 (id := id) (k := k) hid hk6
  have hwr := SE_R (h4 _ (List.mem_of_mem_drop (List.mem_of_getElem? hwv)))
  dsimp only at hwr
  (repeat first | (apply wr_move; exact rfl; with_reducible (conv => enter [6, 3]; whnf)) | apply wr_end | apply wc_seq | apply wc_region | (apply wr_fieldAddr; iterate 2 exact rfl) | (apply wr_nilCheck; iterate 2 exact rfl))
  refine wr_indexArr (i := id) rfl rfl rfl (by omega) ?_
  refine wr_indexArr (i := k) rfl rfl rfl (by omega) ?_
  refine wr_loadElem (G := GSt) (n := 6) (i := k) (l := L.drop ((id) * 6)) (o := 0 + (id) * 12) rfl rfl GSt_len rfl h2 (ref_cells L (id)) (by omega) (hwv) rfl ?_
  (repeat first | (apply wr_alloc; exact rfl))
  refine wr_storeAll (cs := [.bool (Wn ((id : Int), (k : Int))).1, wv]) rfl rfl rfl (by intro u hu; simp at hu; rcases hu with rfl | rfl; rfl; exact hwr.one.1) (heap_alloc_same _ _) rfl rfl ?_
  refine wr_name ?_
  intro wa hwwa
  obtain ⟨bwa, hbwa⟩ : ∃ b, b = (w9).heap.size := ⟨_, rfl⟩
  have hkwa : Keeps NoB w9 wa := by rw [hwwa]; exact ((Keeps.refl NoB w9).alloc _).put _ (fun h => by omega)
  have hcwa : (wa).heap[bwa]? = some (.cells ([.bool (Wn ((id : Int), (k : Int))).1, wv]).toArray 29 (0, 0)) := by rw [hwwa, hbwa]; exact World.putObj_heap_same (by simp)
  rw [← hbwa]
  clear hwwa
  have hk7a := hk79.trans hkwa
  have hsa := hs7.keep hk7a
  have hua := (hu8.keep hkw9).keep hkwa
  have hwra := hwr.keep hkwa
  have h2a := hkwa.heap h2 (fun h => h)
  have hc1a := hk7a.heap hcw7 (fun h => h)
  have hc2a := hk7a.heap hc27 (fun h => h)
  have hc3a := hk7a.heap hc37 (fun h => h)
  have hc4a := hk7a.heap hc47 (fun h => h)
  have hcUa := hkwa.heap hcw9 (fun h => h)
  have h4a : ∀ x ∈ L, SlR wa 1 x.2 x.1.2.length (SL x.1.2) := fun x hx => (h4 x hx).keep hkwa (fun _ _ h => h)
  have hKa := hK7.trans hk7a
  have hz7a := hk7a.size
  have hl9 := lt_of_heap hcw9
  have hz78 := hk8.size
  have hz9 := hkw9.size
  have hk0 : ∀ {w'}, Keeps NoB wa.drew w' → Keeps NoB wa w' := fun hk => (Keeps.refl NoB wa).drew.trans hk
  (repeat first | apply wr_end | apply wc_seq)
  refine wc_drawP (l := _) 8 _ (by kernel_rfl) (by kernel_rfl) rfl (by kernel_rfl) (by kernel_rfl) (by decide) ?_
  apply chP_pure
  focus
    intro xx w' hk hF
    apply wr_move; exact rfl; with_reducible (conv => enter [6, 3]; whnf)
    apply wr_nil
    exact ⟨rfl, Keeps.refl _ _⟩
  focus (intro xx yy h; rfl)
  focus kernel_rfl
  apply chP_pure
  focus
    intro xx w' hk hF
    apply wr_move; exact rfl; with_reducible (conv => enter [6, 3]; whnf)
    apply wr_nil
    exact ⟨rfl, Keeps.refl _ _⟩
  focus (intro xx yy h; rfl)
  focus kernel_rfl
  apply chP_pure
  focus
    intro xx w' hk hF
    apply wr_move; exact rfl; with_reducible (conv => enter [6, 3]; whnf)
    apply wr_nil
    exact ⟨rfl, Keeps.refl _ _⟩
  focus (intro xx yy h; rfl)
  focus kernel_rfl
  apply chP_pure
  focus
    intro xx w' hk hF
    refine wr_loadAll (cs := [.bool s.1, sn]) rfl rfl rfl ((hk0 hk).heap hc1a (fun h => h)) rfl ?_
    apply wr_nil
    exact ⟨rfl, Keeps.refl _ _⟩
  focus (intro xx yy h; rfl)
  focus kernel_rfl
  apply chP_pure
  focus
    intro xx w' hk hF
    (apply wr_nilCheck; iterate 2 exact rfl)
    apply wr_nil
    exact ⟨rfl, Keeps.refl _ _⟩
  focus (intro xx yy h; rfl)
  focus kernel_rfl
  apply chP_pure
  focus
    intro xx w' hk hF
    refine wr_fieldAddr rfl rfl ?_
    apply wr_nil
    exact ⟨rfl, Keeps.refl _ _⟩
  focus (intro xx yy h; rfl)
  focus kernel_rfl
  apply chP_pure
  focus
    intro xx w' hk hF
    refine wr_indexArr (i := id) rfl rfl rfl (by omega) ?_
    apply wr_nil
    exact ⟨rfl, Keeps.refl _ _⟩
  focus (intro xx yy h; rfl)
  focus kernel_rfl
  apply chP_pure
  focus
    intro xx w' hk hF
    refine wr_indexArr (i := k) rfl rfl rfl (by omega) ?_
    apply wr_nil
    exact ⟨rfl, Keeps.refl _ _⟩
  focus (intro xx yy h; rfl)
  focus kernel_rfl
  refine chP_nil ?_
  intro xx wb hkb' hF
  have hkb := hk0 hkb'
  clear hF hk0
  have h2b := hkb.heap h2a (fun h => h)
  refine wr_storePart (cs := [.bool s.1, sn]) rfl rfl rfl (by intro u hu; simp at hu; rcases hu with rfl | rfl; rfl; exact hsa.one.1) h2b rfl (by rw [List.size_toArray]; show 0 + id * 12 + k * 2 + 2 ≤ (L.flatMap GSt).length; rw [flat_len2, h1]; omega) ?_
  refine wr_name ?_
  intro wc hwc
  have hkc : Keeps (· = xb) wb wc := by rw [hwc]; exact (Keeps.refl _ _).put _ (fun _ => rfl)
  have h4b : ∀ x ∈ L, SlR wb 1 x.2 x.1.2.length (SL x.1.2) := fun x hx => (h4a x hx).keep hkb (fun _ _ h => h)
  have hnL := arr_ne2 h4b
  obtain ⟨W', hW'⟩ : ∃ V, V = updW Wn ((id : Int), (k : Int)) s := ⟨_, rfl⟩
  have hrc : RefAt wc xb W' := by
    rw [hW']
    refine RefAt_set hid hk6 h1 h2b h3 h4b (hsa.keep hkb) hkc ?_
    rw [hwc, ← set_cells h1 (s, sn) hid hk6]
    exact World.putObj_heap_same (lt_of_heap h2b)
  clear hwc
  have hsc := (hsa.keep hkb).put hkc h2b hnL
  have huc := (hua.keep hkb).put hkc h2b hnL
  have hwrc := (hwra.keep hkb).put hkc h2b hnL
  have hc1c := hkc.heap (hkb.heap hc1a (fun h => h)) (fun e => by omega)
  have hc2c := hkc.heap (hkb.heap hc2a (fun h => h)) (fun e => by omega)
  have hc3c := hkc.heap (hkb.heap hc3a (fun h => h)) (fun e => by omega)
  have hc4c := hkc.heap (hkb.heap hc4a (fun h => h)) (fun e => by omega)
  have hcUc := hkc.heap (hkb.heap hcUa (fun h => h)) (fun e => by omega)
  have hcWc := hkc.heap (hkb.heap hcwa (fun h => h)) (fun e => by omega)
  have hKc : Keeps (· = xb) w wc := (hKa.trans hkb).upD.trans hkc
  rw [← hW']
  have hd' : ∀ t, ¬ inDom t → W' t = noneP := fun t hn => by rw [hW', updW_ne _ (fun e => hn (by rw [e]; exact ht))]; exact hd t hn
  have hf' : ∀ t, Fine (W' t) := by rw [hW']; exact updW_fine hf _ hsf
  have hsm' : ∀ t, (W' t).2.length ≤ 100000 := fun t => by
    rw [hW']
    unfold updW
    split
    · omega
    · exact hsm t
  (repeat first | (apply wr_move; exact rfl; with_reducible (conv => enter [6, 3]; whnf)) | apply wr_end | apply wc_seq | apply wc_region)
  refine wr_call (vs := [.pointer (some ⟨xb, 0, none⟩), .int .i64 (k : Int)]) rfl (refUnion14_ca hrc hd' hf' hsm' k (by omega) (by omega)) rfl ?_
  rintro v wd ⟨hud, hkd⟩
  obtain ⟨U', hU'⟩ : ∃ U, U = unionK W' k := ⟨_, rfl⟩
  rw [← hU'] at hud ⊢
  rw [← hU]
  obtain ⟨un', rfl, hun'⟩ := hud
  have hud : SetR wd U' (SetV U'.1 un') := ⟨un', rfl, hun'⟩
  have hUf' : U'.2.length ≤ 3400000 := by rw [hU']; exact Nat.le_trans (ofP_le _) (allL_len hsm' k)
  have hUf : U.2.length ≤ 3400000 := by rw [hU]; exact Nat.le_trans (ofP_le _) (allL_len hsm k)
  have hlU := listP_le U'
  (repeat first | (apply wr_alloc; exact rfl))
  refine wr_storeAll (cs := [.bool U'.1, un']) rfl rfl rfl (by intro u hu; simp at hu; rcases hu with rfl | rfl; rfl; exact hud.one.1) (heap_alloc_same _ _) rfl rfl ?_
  refine wr_name ?_
  intro we hwwe
  obtain ⟨bwe, hbwe⟩ : ∃ b, b = (wd).heap.size := ⟨_, rfl⟩
  have hkwe : Keeps NoB wd we := by rw [hwwe]; exact ((Keeps.refl NoB wd).alloc _).put _ (fun h => by omega)
  have hcwe : (we).heap[bwe]? = some (.cells ([.bool U'.1, un']).toArray 29 (0, 0)) := by rw [hwwe, hbwe]; exact World.putObj_heap_same (by simp)
  rw [← hbwe]
  clear hwwe
  have hkce := hkd.trans hkwe
  have hse := hsc.keep hkce
  have hue := hud.keep hkwe
  have hc1e := hkce.heap hc1c (fun h => h)
  have hfits : fitsS Wn ((id : Int), (k : Int)) k s = (decide ((listP s).length ≤ 64) && decide ((listP U').length ≤ 64)) := by unfold fitsS; rw [← hW', ← hU']
  (repeat first | apply wr_end | apply wc_seq | apply wc_region)
  refine wr_loadAll (cs := [.bool s.1, sn]) rfl rfl rfl hc1e rfl ?_
  refine wr_call (vs := [SetV s.1 sn]) rfl (refList_ca s _ we hse (by omega)) rfl ?_
  rintro v wf1 ⟨hl1', hkf1⟩
  obtain ⟨la, lc, rfl, _, _⟩ := slr_strs hl1'
  by_cases hb1 : 64 < (listP s).length
  · have hfit : fitsS Wn ((id : Int), (k : Int)) k s = false := by rw [hfits, decide_eq_false (by omega)]; rfl
    obtain ⟨wf, hwf⟩ : ∃ wf, wf = wf1 := ⟨_, rfl⟩
    subst hwf
    have hkFF := hkf1
    have hrf := (hrc.keep hkd).keep (hkwe.trans hkFF)
    have hwrf := hwrc.keep (hkd.trans (hkwe.trans hkFF))
    have hcf : ∀ {b : Nat} {c : Array Value} {T : TypeId} {fr : Nat × Nat}, wc.heap[b]? = some (.cells c T fr) → wf.heap[b]? = some (.cells c T fr) := fun hb => (hkd.trans (hkwe.trans hkFF)).heap hb (fun h => h)
    have hc2f := hcf hc2c
    have hc3f := hcf hc3c
    have hc4f := hcf hc4c
    have hcWf := hcf hcWc
    have hcUf := hcf hcUc
    have hKf : Keeps (· = xb) w wf := hKc.trans (hkd.trans (hkwe.trans hkFF)).upD
    have hk0 : ∀ {w'}, Keeps NoB wf.drew w' → Keeps NoB wf w' := fun hk => (Keeps.refl NoB wf).drew.trans hk
    (repeat first | (apply wr_move; exact rfl; with_reducible (conv => enter [6, 3]; whnf)) | apply wr_end | apply wc_seq | (apply wr_len_slice; iterate 2 exact rfl) | (apply wr_cmp; (iterate 3 exact rfl); exact cmpT (by dsimp only [cmpP]; first | done | omega)) | (apply wr_pick (t := true); (iterate 2 exact rfl); with_reducible (conv => enter [6, 3]; whnf)) | (apply wc_true; exact rfl) | (apply wr_skip; exact rfl))
    refine wc_drawP (l := _) 8 _ (by kernel_rfl) (by kernel_rfl) rfl (by kernel_rfl) (by kernel_rfl) (by decide) ?_
    apply chP_pure
    focus
      intro xx w' hk hF
      apply wr_move; exact rfl; with_reducible (conv => enter [6, 3]; whnf)
      apply wr_nil
      exact ⟨rfl, Keeps.refl _ _⟩
    focus (intro xx yy h; rfl)
    focus kernel_rfl
    apply chP_pure
    focus
      intro xx w' hk hF
      apply wr_move; exact rfl; with_reducible (conv => enter [6, 3]; whnf)
      apply wr_nil
      exact ⟨rfl, Keeps.refl _ _⟩
    focus (intro xx yy h; rfl)
    focus kernel_rfl
    apply chP_pure
    focus
      intro xx w' hk hF
      apply wr_move; exact rfl; with_reducible (conv => enter [6, 3]; whnf)
      apply wr_nil
      exact ⟨rfl, Keeps.refl _ _⟩
    focus (intro xx yy h; rfl)
    focus kernel_rfl
    apply chP_pure
    focus
      intro xx w' hk hF
      refine wr_loadAll (cs := [.bool (Wn ((id : Int), (k : Int))).1, wv]) rfl rfl rfl ((hk0 hk).heap hcWf (fun h => h)) rfl ?_
      apply wr_nil
      exact ⟨rfl, Keeps.refl _ _⟩
    focus (intro xx yy h; rfl)
    focus kernel_rfl
    apply chP_pure
    focus
      intro xx w' hk hF
      (apply wr_nilCheck; iterate 2 exact rfl)
      apply wr_nil
      exact ⟨rfl, Keeps.refl _ _⟩
    focus (intro xx yy h; rfl)
    focus kernel_rfl
    apply chP_pure
    focus
      intro xx w' hk hF
      refine wr_fieldAddr rfl rfl ?_
      apply wr_nil
      exact ⟨rfl, Keeps.refl _ _⟩
    focus (intro xx yy h; rfl)
    focus kernel_rfl
    apply chP_pure
    focus
      intro xx w' hk hF
      refine wr_indexArr (i := id) rfl rfl rfl (by omega) ?_
      apply wr_nil
      exact ⟨rfl, Keeps.refl _ _⟩
    focus (intro xx yy h; rfl)
    focus kernel_rfl
    apply chP_pure
    focus
      intro xx w' hk hF
      refine wr_indexArr (i := k) rfl rfl rfl (by omega) ?_
      apply wr_nil
      exact ⟨rfl, Keeps.refl _ _⟩
    focus (intro xx yy h; rfl)
    focus kernel_rfl
    refine chP_nil ?_
    intro xx wg hkg' hF
    have hkg := hk0 hkg'
    clear hF hk0
    have hrg := hrf.keep hkg
    obtain ⟨L2, g1, g2, g3, g4⟩ := hrg.at'
    refine wr_storePart (cs := [.bool (Wn ((id : Int), (k : Int))).1, wv]) rfl rfl rfl (by intro u hu; simp at hu; rcases hu with rfl | rfl; rfl; exact hwrf.one.1) g2 rfl (by rw [List.size_toArray]; show 0 + id * 12 + k * 2 + 2 ≤ (L2.flatMap GSt).length; rw [flat_len2, g1]; omega) ?_
    refine wr_name ?_
    intro wh hwh
    have hkh : Keeps (· = xb) wg wh := by rw [hwh]; exact (Keeps.refl _ _).put _ (fun _ => rfl)
    have hrh : RefAt wh xb (updW W' ((id : Int), (k : Int)) (Wn ((id : Int), (k : Int)))) := by
      refine RefAt_set hid hk6 g1 g2 g3 g4 (hwrf.keep hkg) hkh ?_
      rw [hwh, ← set_cells g1 (Wn ((id : Int), (k : Int)), wv) hid hk6]
      exact World.putObj_heap_same (lt_of_heap g2)
    clear hwh
    rw [hW', updW_back] at hrh
    have hc2h := hkh.heap (hkg.heap hc2f (fun h => h)) (fun e => by omega)
    have hc3h := hkh.heap (hkg.heap hc3f (fun h => h)) (fun e => by omega)
    have hc4h := hkh.heap (hkg.heap hc4f (fun h => h)) (fun e => by omega)
    have hKh : Keeps (· = xb) w wh := (hKf.trans hkg.upD).trans hkh
    (repeat first | apply wr_end | apply wc_seq)
    refine V.L.wc_drawL (l := _) (V.L.duo wh.drew 2 3 bw2 bw3 zR zR zR zR) (by kernel_rfl) (by kernel_rfl) ⟨Keeps.refl _ _, (show wh.drew.heap[bw2]? = some zR from hc2h), (show wh.drew.heap[bw3]? = some zR from hc3h)⟩ ?_
    apply V.L.ch_step
    focus
      apply duoS_read rfl rfl
      intro w hk hb1 hb2
      refine wr_loadAll (cs := [.bool false, nilV]) rfl rfl rfl (hk.heap (show wh.drew.heap[bw4]? = _ from hc4h) (fun e => by omega)) rfl ?_
      apply wr_nil
      exact ⟨rfl, Keeps.refl _ _⟩
    apply V.L.ch_step
    focus
      apply duoS_read rfl rfl
      intro w hk hb1 hb2
      refine wr_loadAll (cs := [.bool false, nilV]) rfl rfl rfl (hk.heap (show wh.drew.heap[bw4]? = _ from hc4h) (fun e => by omega)) rfl ?_
      apply wr_nil
      exact ⟨rfl, Keeps.refl _ _⟩
    apply V.L.ch_step
    focus
      apply V.L.duo_st1 (by omega) rfl
      intro w hk hb
      refine wr_storeAll (cs := [.bool false, nilV]) rfl rfl rfl (zset_one) hb rfl rfl ?_
      apply wr_nil
      exact ⟨rfl, rfl⟩
    apply V.L.ch_step
    focus
      apply V.L.duo_st2 (by omega) rfl
      intro w hk hb
      refine wr_storeAll (cs := [.bool false, nilV]) rfl rfl rfl (zset_one) hb rfl rfl ?_
      apply wr_nil
      exact ⟨rfl, rfl⟩
    apply V.L.ch_step
    focus
      apply duoS_read rfl rfl
      intro w hk hb1 hb2
      apply wr_assign; exact rfl; with_reducible (conv => enter [6, 3]; whnf)
      apply wr_nil
      exact ⟨rfl, Keeps.refl _ _⟩
    refine V.L.ch_nil ?_
    intro wi hS
    obtain ⟨hki', hc2i, hc3i⟩ := V.L.duo_end hS (by kernel_rfl) (by kernel_rfl)
    have hkhi : Keeps (fun q => q = bw2 ∨ q = bw3) wh wi := (Keeps.refl NoB wh).drew.upD.trans hki'
    have hkN : Keeps NoB wh wi := ⟨hkhi.os, hkhi.tape, hkhi.output, hkhi.size, fun i hi _ => by
      by_cases e3 : i = bw2
      · subst e3; rw [hc2i, hc2h]
      · by_cases e4 : i = bw3
        · subst e4; rw [hc3i, hc3h]
        · exact hkhi.block i hi (fun e => e.elim e3 e4)⟩
    (repeat first | (apply wc_ret; try simp only [thenE, inBlockE, bodyQ]))
    exact leaveN (vs := [SetV false nilV, SetV false nilV, .int .i64 4]) (resv_cells (cs := [.bool false, nilV]) (e := 29) (fr := (0, 0)) rfl rfl hc2i rfl (resv_cells (cs := [.bool false, nilV]) (e := 29) (fr := (0, 0)) rfl rfl hc3i rfl (resv_tmp rfl resv_nil))) ⟨.inr ⟨hfit, hrh.keep hkN, rfl⟩, hKh.trans hkN.upD⟩
  (repeat first | (apply wr_move; exact rfl; with_reducible (conv => enter [6, 3]; whnf)) | (apply wr_len_slice; iterate 2 exact rfl) | (apply wr_cmp; (iterate 3 exact rfl); exact cmpF (by dsimp only [cmpN]; first | done | omega)))
  refine wr_loadAll (cs := [.bool U'.1, un']) rfl rfl rfl (hkf1.heap hcwe (fun h => h)) rfl ?_
  refine wr_call (vs := [SetV U'.1 un']) rfl (refList_ca U' _ wf1 (hue.keep hkf1) (by omega)) rfl ?_
  rintro v wf ⟨hl2', hkf2⟩
  obtain ⟨la2, lc2, rfl, _, _⟩ := slr_strs hl2'
  have hkFF := hkf1.trans hkf2
  have hrf := (hrc.keep hkd).keep (hkwe.trans hkFF)
  have hwrf := hwrc.keep (hkd.trans (hkwe.trans hkFF))
  have hcf : ∀ {b : Nat} {c : Array Value} {T : TypeId} {fr : Nat × Nat}, wc.heap[b]? = some (.cells c T fr) → wf.heap[b]? = some (.cells c T fr) := fun hb => (hkd.trans (hkwe.trans hkFF)).heap hb (fun h => h)
  have hc2f := hcf hc2c
  have hc3f := hcf hc3c
  have hc4f := hcf hc4c
  have hcWf := hcf hcWc
  have hcUf := hcf hcUc
  have hKf : Keeps (· = xb) w wf := hKc.trans (hkd.trans (hkwe.trans hkFF)).upD
  have hk0 : ∀ {w'}, Keeps NoB wf.drew w' → Keeps NoB wf w' := fun hk => (Keeps.refl NoB wf).drew.trans hk
  by_cases hb2 : 64 < (listP U').length
  · have hfit : fitsS Wn ((id : Int), (k : Int)) k s = false := by rw [hfits, decide_eq_true (show (listP s).length ≤ 64 by omega), decide_eq_false (by omega)]; rfl
    (repeat first | apply wr_end | apply wc_seq | (apply wr_len_slice; iterate 2 exact rfl) | (apply wr_cmp; (iterate 3 exact rfl); exact cmpT (by dsimp only [cmpP]; first | done | omega)) | (apply wr_pick (t := false); (iterate 2 exact rfl); with_reducible (conv => enter [6, 3]; whnf)) | (apply wc_true; exact rfl))
    refine wc_drawP (l := _) 8 _ (by kernel_rfl) (by kernel_rfl) rfl (by kernel_rfl) (by kernel_rfl) (by decide) ?_
    apply chP_pure
    focus
      intro xx w' hk hF
      apply wr_move; exact rfl; with_reducible (conv => enter [6, 3]; whnf)
      apply wr_nil
      exact ⟨rfl, Keeps.refl _ _⟩
    focus (intro xx yy h; rfl)
    focus kernel_rfl
    apply chP_pure
    focus
      intro xx w' hk hF
      apply wr_move; exact rfl; with_reducible (conv => enter [6, 3]; whnf)
      apply wr_nil
      exact ⟨rfl, Keeps.refl _ _⟩
    focus (intro xx yy h; rfl)
    focus kernel_rfl
    apply chP_pure
    focus
      intro xx w' hk hF
      apply wr_move; exact rfl; with_reducible (conv => enter [6, 3]; whnf)
      apply wr_nil
      exact ⟨rfl, Keeps.refl _ _⟩
    focus (intro xx yy h; rfl)
    focus kernel_rfl
    apply chP_pure
    focus
      intro xx w' hk hF
      refine wr_loadAll (cs := [.bool (Wn ((id : Int), (k : Int))).1, wv]) rfl rfl rfl ((hk0 hk).heap hcWf (fun h => h)) rfl ?_
      apply wr_nil
      exact ⟨rfl, Keeps.refl _ _⟩
    focus (intro xx yy h; rfl)
    focus kernel_rfl
    apply chP_pure
    focus
      intro xx w' hk hF
      (apply wr_nilCheck; iterate 2 exact rfl)
      apply wr_nil
      exact ⟨rfl, Keeps.refl _ _⟩
    focus (intro xx yy h; rfl)
    focus kernel_rfl
    apply chP_pure
    focus
      intro xx w' hk hF
      refine wr_fieldAddr rfl rfl ?_
      apply wr_nil
      exact ⟨rfl, Keeps.refl _ _⟩
    focus (intro xx yy h; rfl)
    focus kernel_rfl
    apply chP_pure
    focus
      intro xx w' hk hF
      refine wr_indexArr (i := id) rfl rfl rfl (by omega) ?_
      apply wr_nil
      exact ⟨rfl, Keeps.refl _ _⟩
    focus (intro xx yy h; rfl)
    focus kernel_rfl
    apply chP_pure
    focus
      intro xx w' hk hF
      refine wr_indexArr (i := k) rfl rfl rfl (by omega) ?_
      apply wr_nil
      exact ⟨rfl, Keeps.refl _ _⟩
    focus (intro xx yy h; rfl)
    focus kernel_rfl
    refine chP_nil ?_
    intro xx wg hkg' hF
    have hkg := hk0 hkg'
    clear hF hk0
    have hrg := hrf.keep hkg
    obtain ⟨L2, g1, g2, g3, g4⟩ := hrg.at'
    refine wr_storePart (cs := [.bool (Wn ((id : Int), (k : Int))).1, wv]) rfl rfl rfl (by intro u hu; simp at hu; rcases hu with rfl | rfl; rfl; exact hwrf.one.1) g2 rfl (by rw [List.size_toArray]; show 0 + id * 12 + k * 2 + 2 ≤ (L2.flatMap GSt).length; rw [flat_len2, g1]; omega) ?_
    refine wr_name ?_
    intro wh hwh
    have hkh : Keeps (· = xb) wg wh := by rw [hwh]; exact (Keeps.refl _ _).put _ (fun _ => rfl)
    have hrh : RefAt wh xb (updW W' ((id : Int), (k : Int)) (Wn ((id : Int), (k : Int)))) := by
      refine RefAt_set hid hk6 g1 g2 g3 g4 (hwrf.keep hkg) hkh ?_
      rw [hwh, ← set_cells g1 (Wn ((id : Int), (k : Int)), wv) hid hk6]
      exact World.putObj_heap_same (lt_of_heap g2)
    clear hwh
    rw [hW', updW_back] at hrh
    have hc2h := hkh.heap (hkg.heap hc2f (fun h => h)) (fun e => by omega)
    have hc3h := hkh.heap (hkg.heap hc3f (fun h => h)) (fun e => by omega)
    have hc4h := hkh.heap (hkg.heap hc4f (fun h => h)) (fun e => by omega)
    have hKh : Keeps (· = xb) w wh := (hKf.trans hkg.upD).trans hkh
    (repeat first | apply wr_end | apply wc_seq)
    refine V.L.wc_drawL (l := _) (V.L.duo wh.drew 2 3 bw2 bw3 zR zR zR zR) (by kernel_rfl) (by kernel_rfl) ⟨Keeps.refl _ _, (show wh.drew.heap[bw2]? = some zR from hc2h), (show wh.drew.heap[bw3]? = some zR from hc3h)⟩ ?_
    apply V.L.ch_step
    focus
      apply duoS_read rfl rfl
      intro w hk hb1 hb2
      refine wr_loadAll (cs := [.bool false, nilV]) rfl rfl rfl (hk.heap (show wh.drew.heap[bw4]? = _ from hc4h) (fun e => by omega)) rfl ?_
      apply wr_nil
      exact ⟨rfl, Keeps.refl _ _⟩
    apply V.L.ch_step
    focus
      apply duoS_read rfl rfl
      intro w hk hb1 hb2
      refine wr_loadAll (cs := [.bool false, nilV]) rfl rfl rfl (hk.heap (show wh.drew.heap[bw4]? = _ from hc4h) (fun e => by omega)) rfl ?_
      apply wr_nil
      exact ⟨rfl, Keeps.refl _ _⟩
    apply V.L.ch_step
    focus
      apply V.L.duo_st1 (by omega) rfl
      intro w hk hb
      refine wr_storeAll (cs := [.bool false, nilV]) rfl rfl rfl (zset_one) hb rfl rfl ?_
      apply wr_nil
      exact ⟨rfl, rfl⟩
    apply V.L.ch_step
    focus
      apply V.L.duo_st2 (by omega) rfl
      intro w hk hb
      refine wr_storeAll (cs := [.bool false, nilV]) rfl rfl rfl (zset_one) hb rfl rfl ?_
      apply wr_nil
      exact ⟨rfl, rfl⟩
    apply V.L.ch_step
    focus
      apply duoS_read rfl rfl
      intro w hk hb1 hb2
      apply wr_assign; exact rfl; with_reducible (conv => enter [6, 3]; whnf)
      apply wr_nil
      exact ⟨rfl, Keeps.refl _ _⟩
    refine V.L.ch_nil ?_
    intro wi hS
    obtain ⟨hki', hc2i, hc3i⟩ := V.L.duo_end hS (by kernel_rfl) (by kernel_rfl)
    have hkhi : Keeps (fun q => q = bw2 ∨ q = bw3) wh wi := (Keeps.refl NoB wh).drew.upD.trans hki'
    have hkN : Keeps NoB wh wi := ⟨hkhi.os, hkhi.tape, hkhi.output, hkhi.size, fun i hi _ => by
      by_cases e3 : i = bw2
      · subst e3; rw [hc2i, hc2h]
      · by_cases e4 : i = bw3
        · subst e4; rw [hc3i, hc3h]
        · exact hkhi.block i hi (fun e => e.elim e3 e4)⟩
    (repeat first | (apply wc_ret; try simp only [thenE, inBlockE, bodyQ]))
    exact leaveN (vs := [SetV false nilV, SetV false nilV, .int .i64 4]) (resv_cells (cs := [.bool false, nilV]) (e := 29) (fr := (0, 0)) rfl rfl hc2i rfl (resv_cells (cs := [.bool false, nilV]) (e := 29) (fr := (0, 0)) rfl rfl hc3i rfl (resv_tmp rfl resv_nil))) ⟨.inr ⟨hfit, hrh.keep hkN, rfl⟩, hKh.trans hkN.upD⟩
  have hfit : fitsS Wn ((id : Int), (k : Int)) k s = true := by rw [hfits, decide_eq_true (show (listP s).length ≤ 64 by omega), decide_eq_true (show (listP U').length ≤ 64 by omega)]; rfl
  have huf := huc.keep (hkd.trans (hkwe.trans hkFF))
  have huf' := hue.keep hkFF
  have hcU'f := hkFF.heap hcwe (fun h => h)
  (repeat first | apply wr_end | apply wc_seq | apply wc_skip | (apply wr_len_slice; iterate 2 exact rfl) | (apply wr_cmp; (iterate 3 exact rfl); exact cmpF (by dsimp only [cmpN]; first | done | omega)) | (apply wr_pick (t := false); (iterate 2 exact rfl); with_reducible (conv => enter [6, 3]; whnf)) | (apply wc_false; exact rfl))
  refine wc_drawP (l := _) 6 _ (by kernel_rfl) (by kernel_rfl) rfl (by kernel_rfl) (by kernel_rfl) (by decide) ?_
  apply chP_pure
  focus
    intro xx w' hk hF
    refine wr_loadAll (cs := [.bool U'.1, un']) rfl rfl rfl ((hk0 hk).heap hcU'f (fun h => h)) rfl ?_
    apply wr_nil
    exact ⟨rfl, Keeps.refl _ _⟩
  focus (intro xx yy h; rfl)
  focus kernel_rfl
  apply chP_pure
  focus
    intro xx w' hk hF
    refine wr_loadAll (cs := [.bool U.1, un]) rfl rfl rfl ((hk0 hk).heap hcUf (fun h => h)) rfl ?_
    apply wr_nil
    exact ⟨rfl, Keeps.refl _ _⟩
  focus (intro xx yy h; rfl)
  focus kernel_rfl
  refine chP_fact (fun yq => yq) (fun yq w' => SetR w' (lessP U' U) yq) (fun yq w' w'' h k => h.keep k) ?_ ?_
  focus
    intro xx w' hk hF
    refine wr_call (vs := [SetV U'.1 un', SetV U.1 un]) rfl (refLess_ca U' U _ _ w' (huf'.keep (hk0 hk)) (huf.keep (hk0 hk)) (by omega) (by omega)) rfl ?_
    rintro v w'' ⟨hR, hkc⟩
    apply wr_nil
    exact ⟨v, rfl, hR, hkc⟩
  apply chP_pure
  focus
    intro xx w' hk hF
    refine wr_loadAll (cs := [.bool U.1, un]) rfl rfl rfl ((hk0 hk).heap hcUf (fun h => h)) rfl ?_
    apply wr_nil
    exact ⟨rfl, Keeps.refl _ _⟩
  focus (intro xx yy h; rfl)
  focus kernel_rfl
  apply chP_pure
  focus
    intro xx w' hk hF
    refine wr_loadAll (cs := [.bool U'.1, un']) rfl rfl rfl ((hk0 hk).heap hcU'f (fun h => h)) rfl ?_
    apply wr_nil
    exact ⟨rfl, Keeps.refl _ _⟩
  focus (intro xx yy h; rfl)
  focus kernel_rfl
  refine chP_fact (fun yq => yq) (fun yq w' => SetR w' (lessP U U') yq) (fun yq w' w'' h k => h.keep k) ?_ ?_
  focus
    intro xx w' hk hF
    refine wr_call (vs := [SetV U.1 un, SetV U'.1 un']) rfl (refLess_ca U U' _ _ w' (huf.keep (hk0 hk)) (huf'.keep (hk0 hk)) (by omega) (by omega)) rfl ?_
    rintro v w'' ⟨hR, hkc⟩
    apply wr_nil
    exact ⟨v, rfl, hR, hkc⟩
  refine chP_nil ?_
  intro zz wg hkg' hF
  have hkg := hk0 hkg'
  obtain ⟨mv1, hz2, hmv1⟩ : SetR wg (lessP U' U) (zz 2) := hF 2 (by decide)
  obtain ⟨lv1, hz5, hlv1⟩ : SetR wg (lessP U U') (zz 5) := hF 5 (by decide)
  clear hF
  have hRm : SetR wg (lessP U' U) (SetV (lessP U' U).1 mv1) := ⟨mv1, rfl, hmv1⟩
  have hRl : SetR wg (lessP U U') (SetV (lessP U U').1 lv1) := ⟨lv1, rfl, hlv1⟩
  have hc2g := hkg.heap hc2f (fun h => h)
  have hc3g := hkg.heap hc3f (fun h => h)
  dsimp only [Nat.reduceAdd]
  rw [hz2, hz5]
  clear hz2 hz5
  refine wr_storeAll (cs := [.bool (lessP U' U).1, mv1]) rfl rfl rfl (by intro u hu; simp at hu; rcases hu with rfl | rfl; rfl; exact hRm.one.1) hc2g (rfl) (rfl) ?_
  refine wr_name ?_
  intro wh hwwh
  have hkwh : Keeps (· = bw2) wg wh := by rw [hwwh]; exact (Keeps.refl _ wg).put _ (fun _ => rfl)
  have hcwh : (wh).heap[bw2]? = some (.cells ([.bool (lessP U' U).1, mv1]).toArray 29 (0, 0)) := by rw [hwwh]; exact World.putObj_heap_same (lt_of_heap hc2g)
  clear hwwh
  have hc3h := hkwh.heap hc3g (fun e => by omega)
  have hRm1 := hRm.put hkwh hc2g zne2
  have hRl1 := hRl.put hkwh hc2g zne2
  refine wr_storeAll (cs := [.bool (lessP U U').1, lv1]) rfl rfl rfl (by intro u hu; simp at hu; rcases hu with rfl | rfl; rfl; exact hRl.one.1) hc3h (rfl) (rfl) ?_
  refine wr_name ?_
  intro wi hwwi
  have hkwi : Keeps (· = bw3) wh wi := by rw [hwwi]; exact (Keeps.refl _ wh).put _ (fun _ => rfl)
  have hcwi : (wi).heap[bw3]? = some (.cells ([.bool (lessP U U').1, lv1]).toArray 29 (0, 0)) := by rw [hwwi]; exact World.putObj_heap_same (lt_of_heap hc3h)
  clear hwwi
  have hRm2 := hRm1.put hkwi hc3h zne2
  have hRl2 := hRl1.put hkwi hc3h zne2
  have hc2i := hkwi.heap hcwh (fun e => by omega)
  have hri := ((hrf.keep hkg).put hkwh hc2g zne2 (by omega)).put hkwi hc3h zne2 (by omega)
  have hKi : Keeps (· = xb) w wi := ((hKf.trans hkg.upD).trans' hkwh (fun i hi e => by omega)).trans' hkwi (fun i hi e => by omega)
  (repeat first | (apply wr_assign; exact rfl; with_reducible (conv => enter [6, 3]; whnf)) | apply wr_end | (apply wc_ret; try simp only [thenE, inBlockE, bodyQ]))
  exact leaveN (vs := [SetV (lessP U' U).1 mv1, SetV (lessP U U').1 lv1, .int .i64 0]) (resv_cells (cs := [.bool (lessP U' U).1, mv1]) (e := 29) (fr := (0, 0)) rfl rfl hc2i rfl (resv_cells (cs := [.bool (lessP U U').1, lv1]) (e := 29) (fr := (0, 0)) rfl rfl hcwi rfl (resv_tmp rfl resv_nil))) ⟨.inl ⟨hfit, hri, _, _, rfl, hRm2, hRl2⟩, hKi⟩
end Go.Proofs.YtajajahofkialaaGreatDoor
