/- noriaref15: Ready. -/
import Derived.Test.YtjaojihogmnjhaaGreatDoorJg
namespace Go.Proofs.YtjaojihogmnjhaaGreatDoor
open Go Go.V Go.RowKit
set_option linter.unusedVariables false
set_option linter.unusedSimpArgs false

abbrev RST : TypeId := 44
theorem flat_same {L : List RN} {i : Nat} {n n' : RN} (hn : L[i]? = some n) (h : GN n' = GN n) : (L.set i n').flatMap GN = L.flatMap GN := by
  rw [List.flatMap_def, List.flatMap_def, List.map_set, h]
  congr 1
  refine (set_id ?_).symm
  rw [List.getElem?_map, hn]; rfl
theorem RefA.mark {w : World} {base xb i j bb bo bc : Nat} {L : List RN} {n : RN} {bcur : Array Value} {x : BD} (h : RefA w base xb L) (hn : L[i]? = some n) (hv : n.v = .slice (some ⟨bb, bo, none⟩) n.p.bad.length bc) (hg : w.heap[bb]? = some (.cells bcur RBT (0, 0))) (hx : n.p.bad[j]? = some x) :
    RefA (w.putObj bb (.cells (bcur.setIfInBounds (bo + j * 3 + 2) (.bool true)) RBT (0, 0))) base xb (L.set i { n with p := { n.p with bad := n.p.bad.set j (tl x) } }) ∧ Keeps (RD base w) w (w.putObj bb (.cells (bcur.setIfInBounds (bo + j * 3 + 2) (.bool true)) RBT (0, 0))) ∧ (∀ r, r < 3 → bcur[bo + j * 3 + r]? = (GB x)[r]?) := by
  obtain ⟨rv, hxb, hbx, hrow⟩ := h.row
  have hmem := List.mem_of_getElem? hn
  have ho := h.bad n hmem
  rw [hv] at ho
  have hbr : base ≤ bb := (ho.lt bb rfl).1
  have hkp : Keeps (· = bb) w (w.putObj bb (.cells (bcur.setIfInBounds (bo + j * 3 + 2) (.bool true)) RBT (0, 0))) := (Keeps.refl _ w).put _ (fun _ => rfl)
  have hput := ownS_put GB_len ho rfl hg hx (x' := tl x) (r := 2) (u := .bool true) (by decide) (fun r hr => by
    match r, hr with
    | 0, _ => rfl
    | 1, _ => rfl
    | r + 3, _ => rfl) rfl
  refine ⟨h.set hn rfl ⟨rv, hkp.heap hxb (fun e => ?_), ?_⟩ ?_ (fun j' m hj hm => (h.bad m (List.mem_of_getElem? hm)).keep hkp (fun q hq e => ?_)) ?_ (by show (n.p.bad.set j (tl x)).length ≤ 8; rw [List.length_set]; exact h.few n hmem) (fun j' m hj hm q hq => pair_ne sep_symm h.sep hn hm (fun e => hj e.symm) q hq) (h.tb n hmem), hkp.mono (fun q _ e => by have e : q = bb := e; subst e; exact ⟨hbr, _, _, _, hg, .inr (.inr rfl)⟩), ?_⟩
  · rw [← e, hxb] at hg
    cases hg
  · rw [flat_same (n' := { n with p := { n.p with bad := n.p.bad.set j (tl x) } }) hn rfl]
    exact hrow.keep hkp fun q hq e => by
      subst e
      obtain ⟨_, _, c, hc⟩ := hrow.lt q hq
      rw [hg] at hc
      cases hc
  · show OwnS _ base RBT 3 n.v (n.p.bad.set j (tl x)).length ((n.p.bad.set j (tl x)).flatMap GB)
    rw [hv, List.length_set]
    exact hput
  · exact pair_ne sep_symm h.sep hm hn (fun e => hj e) q hq (by rw [hv, e]; rfl)
  · show (n.p.bad.set j (tl x)).Pairwise fun a b => a.1 < b.1
    refine pairwise_set (h.bs n hmem) fun j' m hm => ?_
    have hp := List.pairwise_iff_getElem.1 (h.bs n hmem)
    obtain ⟨h1, e1⟩ := List.getElem?_eq_some_iff.1 hx
    obtain ⟨h2, e2⟩ := List.getElem?_eq_some_iff.1 hm
    refine ⟨fun hlt => ?_, fun hlt => ?_⟩
    · have := hp j' j h2 h1 hlt
      rw [e1, e2] at this; exact this
    · have := hp j j' h1 h2 hlt
      rw [e1, e2] at this; exact this
  · intro r hr
    rcases ho.2 with ⟨e0, _⟩ | ⟨g', o', cap, cur', e0, _, hg', _, _, _, ht⟩
    · cases e0
    · cases e0
      rw [hg] at hg'
      cases hg'
      have hjl := (List.getElem?_eq_some_iff.1 hx).1
      have := ht (j * 3 + r) (by omega)
      rw [Nat.add_assoc, this]
      exact flat_get GB_len _ j x r hx hr
/-- The told version of a note another one. -/
theorem GN_toldp (n : RN) (t : Nat) : (∀ j, j ≠ 35 → (GN { n with p := { n.p with told := t } })[j]? = (GN n)[j]?) ∧ (GN { n with p := { n.p with told := t } })[35]? = some (.int .u64 (t : Int)) := by
  refine ⟨fun j hj => ?_, GN_told _⟩
  by_cases h1 : j < 2
  · have : j = 0 ∨ j = 1 := by omega
    rcases this with rfl | rfl <;> rfl
  · by_cases h2 : j < 35
    · obtain ⟨i, rfl⟩ : ∃ i, j = 2 + i := ⟨j - 2, by omega⟩
      rw [GN_T _ (by omega), GN_T _ (by omega)]
    · by_cases h3 : j < 37
      · have : j = 36 := by omega
        subst this
        rw [GN_v, GN_v]
      · rw [List.getElem?_eq_none (by rw [GN_len]; omega), List.getElem?_eq_none (by rw [GN_len]; omega)]
set_option maxRecDepth 100000 in
set_option maxHeartbeats 16000000 in
theorem readyR_ca {w : World} {base xb : Nat} {L : List RN} (h : RefA w base xb L) (hbase : base ≤ w.heap.size) (hz : ∀ n ∈ L, ∀ id, ¬ idOk id → n.p.T id = 0) (k : KY) (who : List Int) (v0 : Value) (hsl : SlR w 1 v0 who.length (who.map (Value.int .i64))) (hlen : who.length ≤ 9223372036854775807) (hwho : 0 < who.length → ∀ q, v0.ownBlock = some q → ¬ RD base w q ∧ q < w.heap.size) :
    Ca Tryz.prog 8 #[.pointer (some ⟨xb, 0, none⟩), encK k, v0] w fun v w' => (∃ L', RefA w' base xb L' ∧ (∀ x, getL (RL L') x = getL (afterP (RL L) k who) x) ∧ L'.length = L.length) ∧ w'.ownsRow w.heap.size RST 5 v (outsP (getL (RL L) k) k who).length ((outsP (getL (RL L) k) k who).flatMap GS) ∧ Keeps (RD base w) w w' := by
  obtain ⟨ra, rc, hxb, hbx, hrow⟩ := h.shape
  refine ca_of_body (args := [.pointer (some ⟨xb, 0, none⟩), encK k, v0]) Tryz.func8 rfl (by kernel_rfl) ?_
  apply wc_seq
  apply wc_region
  refine wr_box (v := .agg #[.int .i64 k.1, S k.2]) rfl rfl ?_
  refine wr_name ?_
  intro w1 hww1
  obtain ⟨bw1, hbw1⟩ : ∃ b, b = (w).heap.size := ⟨_, rfl⟩
  have hkw1 : Keeps NoB w w1 := by rw [hww1]; exact (Keeps.refl NoB w).alloc _
  have hcw1 : (w1).heap[bw1]? = some (.cells ([.int .i64 k.1, S k.2]).toArray 36 (0, 0)) := by rw [hww1, hbw1]; exact heap_alloc_same _ _
  rw [← hbw1]
  clear hww1
  (repeat first | (apply wr_move; exact rfl; with_reducible (conv => enter [6, 3]; whnf)) | (apply wr_assign; exact rfl; with_reducible (conv => enter [6, 3]; whnf)) | apply wr_end | apply wc_seq | apply wc_region)
  refine wr_loadAll (cs := [.int .i64 k.1, S k.2]) rfl rfl rfl hcw1 rfl ?_
  refine wr_call (vs := [.pointer (some ⟨xb, 0, none⟩), encK k]) rfl (find_ca (h.keepN hkw1) k) rfl ?_
  rintro v w2 ⟨⟨i, b, rfl, hf⟩, hk12⟩
  have hk02 := hkw1.trans hk12
  have h2 := h.keepN hk02
  have hz2 := hk02.size
  cases b with
  | false =>
    have hg := getL_no h.sort hf
    unfold afterP
    rw [hg]
    (repeat first | (apply wr_move; exact rfl; with_reducible (conv => enter [6, 3]; whnf)) | (apply wr_assign; exact rfl; with_reducible (conv => enter [6, 3]; whnf)) | apply wr_end | apply wc_seq | apply wc_region | (apply wr_not; iterate 2 exact rfl) | (apply wr_extract; (iterate 3 exact rfl); with_reducible (conv => enter [6, 3]; whnf)) | (apply wc_true; exact rfl) | (apply wc_ret; try simp only [thenE, inBlockE, bodyQ]))
    exact leave1 (v := .slice none 0 0) rfl rfl ⟨⟨L, h2, fun x => rfl, rfl⟩, ⟨rfl, .inl ⟨rfl, rfl⟩⟩, hk02.upD⟩
  | true =>
    obtain ⟨n, hn, hnk⟩ := FI_yes hf
    obtain ⟨nk, nv, T, told, l⟩ := n
    dsimp only at hnk
    subst hnk
    have hgl := getL_yes h.sort hn
    dsimp only at hgl
    rw [hgl]
    have hmem := List.mem_of_getElem? hn
    have hlt := (List.getElem?_eq_some_iff.1 hn).1
    have hob := h2.bad _ hmem
    have hbs1 := h2.bs _ hmem
    have hfew1 := h2.few _ hmem
    have htb1 := h2.tb _ hmem
    dsimp only at hob hbs1 hfew1 htb1
    have hx2 := hk02.heap hxb (fun h => h)
    have hrow2 := hrow.keep hk02 (fun _ _ h => h)
    obtain ⟨g, o, cap, cur, he, hgb, hg2, hcell⟩ : ∃ g o cap cur, Value.slice ra L.length rc = .slice (some ⟨g, o, none⟩) L.length cap ∧ base ≤ g ∧ w2.heap[g]? = some (.cells cur NTT (0, 0)) ∧ ∀ r, r < 37 → cur[o + i * 37 + r]? = (GN ⟨nk, nv, ⟨T, told, l⟩⟩)[r]? := by
      rcases hrow2.2 with ⟨_, h9⟩ | ⟨g, o, cap, cur, h9, hb9, hg9, _, _, _, ht9⟩
      · omega
      · refine ⟨g, o, cap, cur, h9, hb9, hg9, fun r hr => ?_⟩
        have := ht9 (i * 37 + r) (by omega)
        rw [Nat.add_assoc, this]
        exact flat_get GN_len L i _ r hn hr
    cases he
    obtain ⟨ba, bc, rfl, _, _⟩ := hob.slR.shape
    have hc36 := hcell 36 (by decide)
    rw [GN_v] at hc36
    dsimp only at hc36
    have hc35 := hcell 35 (by decide)
    rw [GN_told] at hc35
    dsimp only at hc35
    have hck2 := hk12.heap hcw1 (fun h => h)
    (repeat first | (apply wr_move; exact rfl; with_reducible (conv => enter [6, 3]; whnf)) | (apply wr_assign; exact rfl; with_reducible (conv => enter [6, 3]; whnf)) | apply wr_end | apply wc_seq | apply wc_region | apply wc_skip | (apply wr_fieldAddr; iterate 2 exact rfl) | (apply wr_not; iterate 2 exact rfl) | (apply wr_nilCheck; iterate 2 exact rfl) | (apply wr_load; (iterate 3 exact rfl); (focus repeat first | with_reducible assumption | exact heap_alloc_same _ _ | exact World.putObj_heap_same (by first | omega | (simp only [World.size_alloc, World.putObj_size, ne_eq]; omega)) | ((first | refine hAl ?_ ?_ | refine hPu ?_ ?_); focus first | omega | (simp only [World.size_alloc, World.putObj_size, ne_eq]; omega))); exact rfl; conv => enter [6, 3]; whnf) | (apply wr_extract; (iterate 3 exact rfl); with_reducible (conv => enter [6, 3]; whnf)) | (apply wc_false; exact rfl))
    refine wr_indexAddr (i := i) rfl rfl rfl hlt ?_
    (repeat first | (apply wr_assign; exact rfl; with_reducible (conv => enter [6, 3]; whnf)) | apply wr_end | apply wc_seq | apply wc_region | apply wc_block)
    obtain ⟨mk, hmk⟩ : ∃ f : Nat → List RN, f = fun j => L.set i ⟨nk, .slice ba l.length bc, ⟨T, told, markB l j⟩⟩ := ⟨_, rfl⟩
    have hmkg : ∀ j, (mk j)[i]? = some ⟨nk, .slice ba l.length bc, ⟨T, told, markB l j⟩⟩ := fun j => by rw [hmk]; exact List.getElem?_set_self hlt
    have hmkl : ∀ j, (mk j).length = L.length := fun j => by rw [hmk]; exact List.length_set
    refine wc_loopL (α := Nat × Value) (fun p => [(0, .pointer (some ⟨xb, 0, none⟩)), (2, v0), (4, .pointer (some ⟨bw1, 0, none⟩)), (9, .pointer (some ⟨g, o + i * 37, none⟩)), (10, p.2), (11, .int .i64 (p.1 : Int))])
      (fun p ds w' => ds = [] ∧ p.1 ≤ l.length ∧ RefA w' base xb (mk p.1) ∧ w'.heap[xb]? = some (.cells #[.slice (some ⟨g, o, none⟩) L.length rc] RAT (0, 0)) ∧ w'.heap[g]? = some (.cells cur NTT (0, 0)) ∧ w'.heap[bw1]? = some (.cells [.int .i64 nk.1, S nk.2].toArray 36 (0, 0)) ∧ w'.ownsRow w2.heap.size RST 5 p.2 (outB nk l p.1).length ((outB nk l p.1).flatMap GS) ∧ Keeps (RD base w2) w2 w') (fun p => l.length - p.1) (0, .slice none 0 0)
      ⟨rfl, Nat.zero_le _, by rw [hmk]; dsimp only; rw [show L.set i ⟨nk, .slice ba l.length bc, ⟨T, told, markB l 0⟩⟩ = L from (by rw [show markB l 0 = l by simp [markB]]; exact (set_id hn).symm)]; exact h2, hx2, hg2, hck2, ⟨rfl, .inl ⟨rfl, rfl⟩⟩, Keeps.refl _ _⟩ ⟨rfl, rfl, rfl, rfl, rfl, rfl, trivial⟩ ?_
    rintro ⟨j, ov⟩ ds f0 w3 ⟨rfl, hj, h3, hx3, hg3, hck3, ho3, hk23⟩
    dsimp only at hj h3 ho3 ⊢
    have hz3 := hk23.size
    have hole := outB_le nk l j
    (repeat first | (apply wr_move; exact rfl; with_reducible (conv => enter [6, 3]; whnf)) | apply wc_seq | apply wc_region | (apply wr_fieldAddr; iterate 2 exact rfl) | (apply wr_nilCheck; iterate 2 exact rfl))
    refine wr_load (v := .slice ba l.length bc) rfl rfl rfl hg3 hc36 ?_
    by_cases hjl : j < l.length
    · obtain ⟨⟨q, dt, td⟩, hx⟩ : ∃ x, l[j]? = some x := ⟨l[j], by simp [hjl]⟩
      have hmx := markB_get hx
      have hms := markB_succ hx
      have hos := outB_succ (k := nk) hx
      have hml := markB_len l j
      have hob3 : OwnS w3 base RBT 3 (.slice ba l.length bc) (markB l j).length ((markB l j).flatMap GB) := h3.bad _ (List.mem_of_getElem? (hmkg j))
      obtain ⟨bb, bo, capb, bcur, he, hbb3⟩ : ∃ bb bo capb bcur, Value.slice ba l.length bc = .slice (some ⟨bb, bo, none⟩) l.length capb ∧ w3.heap[bb]? = some (.cells bcur RBT (0, 0)) := by
        rcases hob3.2 with ⟨_, h9⟩ | ⟨bb, bo, capb, bcur, h9, _, hg9, _⟩
        · omega
        · rw [hml] at h9
          exact ⟨bb, bo, capb, bcur, h9, hg9⟩
      cases he
      have hvj : Value.slice (some ⟨bb, bo, none⟩) l.length bc = .slice (some ⟨bb, bo, none⟩) (markB l j).length bc := by rw [hml]
      obtain ⟨_, _, hcb⟩ := h3.mark (hmkg j) hvj hbb3 hmx
      have hbb2 := (hob.lt bb rfl)
      (repeat first | (apply wr_move; exact rfl; with_reducible (conv => enter [6, 3]; whnf)) | apply wr_end | apply wc_seq | apply wc_region | apply wc_skip | apply wc_block | (apply wr_fieldAddr; iterate 2 exact rfl) | (apply wr_len_slice; iterate 2 exact rfl) | (apply wr_nilCheck; iterate 2 exact rfl) | (apply wr_cmp; (iterate 3 exact rfl); exact cmpT (by dsimp only [cmpP]; first | done | omega)) | (apply wc_true; exact rfl))
      refine wr_load (v := .slice (some ⟨bb, bo, none⟩) l.length bc) rfl rfl rfl hg3 hc36 ?_
      (repeat first | (apply wr_move; exact rfl; with_reducible (conv => enter [6, 3]; whnf)))
      refine wr_indexAddr (i := j) rfl rfl rfl hjl ?_
      refine wr_fieldAddr rfl rfl ?_
      refine wr_load (v := .bool td) rfl rfl rfl hbb3 (hcb 2 (by decide)) ?_
      cases td with
      | true =>
        have hme : markB l (j + 1) = markB l j := by
          rw [hms]
          exact set_same (x := (q, dt, true)) hmx
        have hoe : outB nk l (j + 1) = outB nk l j := by rw [hos]; simp
        have hmke : mk (j + 1) = mk j := by rw [hmk]; dsimp only; rw [hme]
        (repeat first | (apply wr_move; exact rfl; with_reducible (conv => enter [6, 3]; whnf)) | (apply wr_assign; exact rfl; with_reducible (conv => enter [6, 3]; whnf)) | apply wr_end | apply wc_region | apply wc_skip | (apply wr_not; iterate 2 exact rfl) | (apply wr_add; (iterate 3 exact rfl); exact w_fit (by dsimp only [kIn]; first | done | omega)) | (apply wc_false; exact rfl))
        exact ⟨(j + 1, ov), by dsimp only; omega, ⟨by trivial, hjl, by dsimp only; rw [hmke]; exact h3, hx3, hg3, hck3, by dsimp only; rw [hoe]; exact ho3, hk23⟩, rfl, rfl, rfl, rfl, rfl, rfl, trivial⟩
      | false =>
        have hoe : outB nk l (j + 1) = outB nk l j ++ [(nk, q, false, dt)] := by rw [hos]; simp
        have hkz : ∀ {w'}, Keeps NoB w3.drew w' → Keeps NoB w3 w' := fun hk => (Keeps.refl NoB w3).drew.trans hk
        have hk0 : ∀ {w'}, Keeps NoB w3.drew w' → Keeps NoB w3 w' := hkz
        (repeat first | apply wr_end | apply wc_seq | (apply wr_not; iterate 2 exact rfl) | (apply wc_true; exact rfl))
        refine wc_drawP (l := _) 20 _ (by kernel_rfl) (by kernel_rfl) rfl (by kernel_rfl) (by kernel_rfl) (by decide) ?_
        apply chP_pure
        focus
          intro xx w' hk hF
          apply wr_move; exact rfl; with_reducible (conv => enter [6, 3]; whnf)
          apply wr_nil
          exact ⟨rfl, Keeps.refl _ _⟩
        focus (intro xx yy h; rfl)
        focus kernel_rfl
        apply chP_pure
        focus
          intro xx w' hk hF
          refine wr_loadAll (cs := [.int .i64 nk.1, S nk.2]) rfl rfl rfl ((hk0 hk).heap hck3 (fun h => h)) rfl ?_
          apply wr_nil
          exact ⟨rfl, Keeps.refl _ _⟩
        focus (intro xx yy h; rfl)
        focus kernel_rfl
        apply chP_pure
        focus
          intro xx w' hk hF
          apply wr_move; exact rfl; with_reducible (conv => enter [6, 3]; whnf)
          apply wr_nil
          exact ⟨rfl, Keeps.refl _ _⟩
        focus (intro xx yy h; rfl)
        focus kernel_rfl
        apply chP_pure
        focus
          intro xx w' hk hF
          refine wr_nilCheck rfl rfl ?_
          apply wr_nil
          exact ⟨rfl, Keeps.refl _ _⟩
        focus (intro xx yy h; rfl)
        focus kernel_rfl
        apply chP_pure
        focus
          intro xx w' hk hF
          refine wr_fieldAddr rfl rfl ?_
          apply wr_nil
          exact ⟨rfl, Keeps.refl _ _⟩
        focus (intro xx yy h; rfl)
        focus kernel_rfl
        apply chP_pure
        focus
          intro xx w' hk hF
          refine wr_load (v := .slice (some ⟨bb, bo, none⟩) l.length bc) rfl rfl rfl ((hkz hk).heap hg3 (fun h => h)) hc36 ?_
          apply wr_nil
          exact ⟨rfl, Keeps.refl _ _⟩
        focus (intro xx yy h; rfl)
        focus kernel_rfl
        apply chP_pure
        focus
          intro xx w' hk hF
          apply wr_move; exact rfl; with_reducible (conv => enter [6, 3]; whnf)
          apply wr_nil
          exact ⟨rfl, Keeps.refl _ _⟩
        focus (intro xx yy h; rfl)
        focus kernel_rfl
        apply chP_pure
        focus
          intro xx w' hk hF
          refine wr_indexAddr (i := j) rfl rfl rfl hjl ?_
          apply wr_nil
          exact ⟨rfl, Keeps.refl _ _⟩
        focus (intro xx yy h; rfl)
        focus kernel_rfl
        apply chP_pure
        focus
          intro xx w' hk hF
          refine wr_fieldAddr rfl rfl ?_
          apply wr_nil
          exact ⟨rfl, Keeps.refl _ _⟩
        focus (intro xx yy h; rfl)
        focus kernel_rfl
        apply chP_pure
        focus
          intro xx w' hk hF
          refine wr_load (v := .int .u64 (q : Int)) rfl rfl rfl ((hkz hk).heap hbb3 (fun h => h)) (hcb 0 (by decide)) ?_
          apply wr_nil
          exact ⟨rfl, Keeps.refl _ _⟩
        focus (intro xx yy h; rfl)
        focus kernel_rfl
        apply chP_pure
        focus
          intro xx w' hk hF
          apply wr_move; exact rfl; with_reducible (conv => enter [6, 3]; whnf)
          apply wr_nil
          exact ⟨rfl, Keeps.refl _ _⟩
        focus (intro xx yy h; rfl)
        focus kernel_rfl
        apply chP_pure
        focus
          intro xx w' hk hF
          refine wr_nilCheck rfl rfl ?_
          apply wr_nil
          exact ⟨rfl, Keeps.refl _ _⟩
        focus (intro xx yy h; rfl)
        focus kernel_rfl
        apply chP_pure
        focus
          intro xx w' hk hF
          refine wr_fieldAddr rfl rfl ?_
          apply wr_nil
          exact ⟨rfl, Keeps.refl _ _⟩
        focus (intro xx yy h; rfl)
        focus kernel_rfl
        apply chP_pure
        focus
          intro xx w' hk hF
          refine wr_load (v := .slice (some ⟨bb, bo, none⟩) l.length bc) rfl rfl rfl ((hkz hk).heap hg3 (fun h => h)) hc36 ?_
          apply wr_nil
          exact ⟨rfl, Keeps.refl _ _⟩
        focus (intro xx yy h; rfl)
        focus kernel_rfl
        apply chP_pure
        focus
          intro xx w' hk hF
          apply wr_move; exact rfl; with_reducible (conv => enter [6, 3]; whnf)
          apply wr_nil
          exact ⟨rfl, Keeps.refl _ _⟩
        focus (intro xx yy h; rfl)
        focus kernel_rfl
        apply chP_pure
        focus
          intro xx w' hk hF
          refine wr_indexAddr (i := j) rfl rfl rfl hjl ?_
          apply wr_nil
          exact ⟨rfl, Keeps.refl _ _⟩
        focus (intro xx yy h; rfl)
        focus kernel_rfl
        apply chP_pure
        focus
          intro xx w' hk hF
          refine wr_fieldAddr rfl rfl ?_
          apply wr_nil
          exact ⟨rfl, Keeps.refl _ _⟩
        focus (intro xx yy h; rfl)
        focus kernel_rfl
        apply chP_pure
        focus
          intro xx w' hk hF
          refine wr_load (v := S dt) rfl rfl rfl ((hkz hk).heap hbb3 (fun h => h)) (hcb 1 (by decide)) ?_
          apply wr_nil
          exact ⟨rfl, Keeps.refl _ _⟩
        focus (intro xx yy h; rfl)
        focus kernel_rfl
        apply chP_pure
        focus
          intro xx w' hk hF
          refine wr_build (ps := [(0, .agg #[.int .i64 nk.1, S nk.2]), (1, .int .u64 (q : Int)), (3, S dt)]) (cs := GS (nk, q, false, dt)) rfl rfl rfl rfl ?_
          apply wr_nil
          exact ⟨rfl, Keeps.refl _ _⟩
        focus (intro xx yy h; rfl)
        focus kernel_rfl
        refine chP_fact (fun y => .slice (some ⟨blkOf y, 0, none⟩) 1 1) (fun y w' => w'.heap[blkOf y]? = some (.cells (GS (nk, q, false, dt)).toArray RST (0, 0))) (fun y w' w'' h k => k.heap h (fun h => h)) ?_ ?_
        focus
          intro xx w' hk hF
          refine wr_buildSlice (vs := [.agg (GS (nk, q, false, dt)).toArray]) rfl rfl (by intro v hv; simp at hv; subst hv; rfl) rfl (by decide) (by decide) (by decide) ?_
          apply wr_nil
          exact ⟨.pointer (some ⟨w'.heap.size, 0, none⟩), rfl, (heap_alloc_same _ _).trans (by rfl), (Keeps.refl _ _).alloc _⟩
        refine chP_nil ?_
        intro xx w4 hk4' hF
        have hk34 := hkz hk4'
        have hz4 := hk34.size
        have hb4 : w4.heap[blkOf (xx 19)]? = some (.cells (GS (nk, q, false, dt)).toArray RST (0, 0)) := hF 19 (by decide)
        have ho4 := own_keep ho3 hk34 (fun _ _ h => h)
        refine wr_append (v := ov) (n := (outB nk l j).length) (m := 1) (news := GS (nk, q, false, dt)) rfl rfl ho4 rfl hb4 rfl (GS_one _) rfl (by decide) (by omega) (by omega) (by omega) ?_
        intro ov' w5 ho5 hk45 _
        have hro : ∀ q, ov.ownBlock = some q → w2.heap.size ≤ q := fun q hq => (ho3.lt q hq).1
        have hx5 := hk45.heap (hk34.heap hx3 (fun h => h)) (fun e => by have := hro _ e; have := lt_of_heap hx2; omega)
        have hg5 := hk45.heap (hk34.heap hg3 (fun h => h)) (fun e => by have := hro _ e; have := lt_of_heap hg2; omega)
        have hck5 := hk45.heap (hk34.heap hck3 (fun h => h)) (fun e => by have := hro _ e; have := lt_of_heap hck2; omega)
        have hbb5 := hk45.heap (hk34.heap hbb3 (fun h => h)) (fun e => by have := hro _ e; omega)
        have h5 := (h3.keepN hk34).keep hk45 (fun q' hq' e => by
          obtain ⟨_, _, c9, hc9⟩ := (OwnS.of_own ho4).lt q' e
          obtain ⟨_, c, T', fr, hc, ht⟩ := hq'
          rw [hc9] at hc
          cases hc
          revert ht
          decide)
        obtain ⟨hM, hkM, _⟩ := h5.mark (hmkg j) hvj hbb5 hmx
        (repeat first | (apply wr_move; exact rfl; with_reducible (conv => enter [6, 3]; whnf)) | (apply wr_assign; exact rfl; with_reducible (conv => enter [6, 3]; whnf)) | apply wr_end | apply wc_region | (apply wr_fieldAddr; iterate 2 exact rfl) | (apply wr_nilCheck; iterate 2 exact rfl))
        refine wr_load (v := .slice (some ⟨bb, bo, none⟩) l.length bc) rfl rfl rfl hg5 hc36 ?_
        (repeat first | (apply wr_move; exact rfl; with_reducible (conv => enter [6, 3]; whnf)))
        refine wr_indexAddr (i := j) rfl rfl rfl hjl ?_
        refine wr_fieldAddr rfl rfl ?_
        refine wr_store (v := .bool true) rfl rfl rfl rfl hbb5 (hcb 2 (by decide)) ?_
        refine wr_name ?_
        intro w6 hw6
        have hk6 : Keeps (· = bb) w5 w6 := by rw [hw6]; exact (Keeps.refl _ w5).put _ (fun _ => rfl)
        rw [← hw6] at hM hkM
        clear hw6
        have hmke : (mk j).set i ⟨nk, .slice (some ⟨bb, bo, none⟩) l.length bc, ⟨T, told, (markB l j).set j (tl (q, dt, false))⟩⟩ = mk (j + 1) := by rw [hmk]; dsimp only; rw [List.set_set, hms]
        have h6 : RefA w6 base xb (mk (j + 1)) := by rw [← hmke]; exact hM
        have hx6 := hk6.heap hx5 (fun e => ty_ne hx5 hbb5 (by decide) e)
        have hg6 := hk6.heap hg5 (fun e => ty_ne hg5 hbb5 (by decide) e)
        have hck6 := hk6.heap hck5 (fun e => ty_ne hck5 hbb5 (by decide) e)
        have ho6 := own_keep ho5 hk6 (fun q' hq' e => by
          subst e
          obtain ⟨_, _, c9, hc9⟩ := (OwnS.of_own ho5).lt q' hq'
          rw [hbb5] at hc9
          cases hc9)
        have hk26 : Keeps (RD base w2) w2 w6 := ((hk23.trans hk34.upD).trans' (hk45.mono (D' := fun q => w2.heap.size ≤ q) fun q _ e => hro q e) (fun q hq e => by omega)).trans (hk6.mono fun q _ e => by
          have e : q = bb := e
          subst e
          obtain ⟨hb1, _, c9, hc9⟩ := hbb2
          exact ⟨hb1, c9, _, _, hc9, .inr (.inr rfl)⟩)
        (repeat first | (apply wr_move; exact rfl; with_reducible (conv => enter [6, 3]; whnf)) | (apply wr_assign; exact rfl; with_reducible (conv => enter [6, 3]; whnf)) | apply wr_end | apply wc_region | (apply wr_add; (iterate 3 exact rfl); exact w_fit (by dsimp only [kIn]; first | done | omega)) | (apply wr_nil; try simp only [thenE, inBlockE, bodyQ]))
        refine ⟨(j + 1, ov'), by dsimp only; omega, ⟨by trivial, hjl, h6, hx6, hg6, hck6, ?_, hk26⟩, rfl, rfl, rfl, rfl, rfl, rfl, trivial⟩
        dsimp only
        rw [hoe, List.length_append, List.flatMap_append]
        simpa using ho6
    have hje : j = l.length := by omega
    subst hje
    have hgm := getL_yes h3.sort (hmkg l.length)
    dsimp only at hgm
    have hzm : ∀ n ∈ mk l.length, ∀ id, ¬ idOk id → n.p.T id = 0 := fun m hm id hid => by
      rw [hmk] at hm
      rcases mem_set' hm with rfl | ⟨j', _, hm'⟩
      · exact hz _ hmem id hid
      · exact hz m (List.mem_of_getElem? hm') id hid
    have hlp : leastP (some ⟨T, told, markB l l.length⟩) who = leastP (some ⟨T, told, l⟩) who := by cases who <;> rfl
    have hsl3 := slR_keep0 (hsl.keep hk02 (fun _ _ h => h)) hk23 (fun hp q hq hd => by
      obtain ⟨h1, h2'⟩ := hwho hp q hq
      obtain ⟨hb1, c, T', fr, hc, ht⟩ := hd
      refine h1 ⟨hb1, c, T', fr, ?_, ht⟩
      rw [← hk02.block q h2' (fun h => h)]
      exact hc)
    have hbase3 : base ≤ w3.heap.size := by omega
    (repeat first | (apply wr_move; exact rfl; with_reducible (conv => enter [6, 3]; whnf)) | apply wr_end | apply wc_seq | apply wc_region | (apply wr_len_slice; iterate 2 exact rfl) | (apply wr_cmp; (iterate 3 exact rfl); exact cmpF (by dsimp only [cmpN]; first | done | omega)) | (apply wc_false; exact rfl) | (apply wc_exit; try simp only [thenE, inBlockE, bodyQ, ↓reduceIte, Nat.reduceEqDiff]))
    refine wr_loadAll (cs := [.int .i64 nk.1, S nk.2]) rfl rfl rfl hck3 rfl ?_
    (repeat first | (apply wr_move; exact rfl; with_reducible (conv => enter [6, 3]; whnf)))
    refine wr_call (vs := [.pointer (some ⟨xb, 0, none⟩), encK nk, v0]) rfl (leastR_ca h3 hzm nk who v0 hsl3 hlen) rfl ?_
    rintro v w4 ⟨rfl, hk34⟩
    rw [hgm, hlp]
    obtain ⟨ls, hls⟩ : ∃ ls, ls = leastP (some ⟨T, told, l⟩) who := ⟨_, rfl⟩
    rw [← hls]
    have hg4 := hk34.heap hg3 (fun h => h)
    have hx4 := hk34.heap hx3 (fun h => h)
    have hck4 := hk34.heap hck3 (fun h => h)
    have h4 := h3.keepN hk34
    have ho4 := own_keep ho3 hk34 (fun _ _ h => h)
    have hz4 := hk34.size
    have hk24 := hk23.trans hk34.upD
    have hkw4 : Keeps (RD base w) w w4 := keepsRD_trans hk02.upD hk24
    have hro : ∀ q, ov.ownBlock = some q → w2.heap.size ≤ q := fun q hq => (ho3.lt q hq).1
    have hafter : ∀ {L2 : List RN} {n2 : RN}, L2 = (mk l.length).set i n2 → Sorted L2 → n2.k = nk → n2.p = readyN ⟨T, told, l⟩ ls → ∀ x, getL (RL L2) x = getL (afterP (RL L) nk who) x := fun {L2 n2} e hs2 hk2 hp2 x => by
      subst e
      have e2 : (mk l.length).set i n2 = L.set i n2 := by rw [hmk]; dsimp only; rw [List.set_set]
      rw [e2] at hs2 ⊢
      rw [getL_new h.sort hs2 (n := n2) (set_mem h.sort hn hk2) x, hk2]
      unfold afterP
      rw [hgl]
      dsimp only
      rw [getL_put, hp2, hls]
    (repeat first | (apply wr_move; exact rfl; with_reducible (conv => enter [6, 3]; whnf)) | (apply wr_assign; exact rfl; with_reducible (conv => enter [6, 3]; whnf)) | apply wr_end | apply wc_seq | apply wc_region | (apply wr_fieldAddr; iterate 2 exact rfl) | (apply wr_nilCheck; iterate 2 exact rfl))
    refine wr_load (v := .int .u64 (told : Int)) rfl rfl rfl hg4 hc35 ?_
    by_cases hlt2 : told < ls
    rotate_left
    · (repeat first | (apply wr_move; exact rfl; with_reducible (conv => enter [6, 3]; whnf)) | (apply wr_assign; exact rfl; with_reducible (conv => enter [6, 3]; whnf)) | apply wr_end | apply wc_seq | apply wc_region | apply wc_skip | (apply wr_cmp; (iterate 3 exact rfl); exact cmpF (by dsimp only [cmpN]; first | done | omega)) | (apply wc_false; exact rfl) | (apply wc_ret; try simp only [thenE, inBlockE, bodyQ]))
      refine leave1 (v := ov) rfl rfl ⟨⟨mk l.length, h4, hafter (set_id (hmkg l.length)) h4.sort rfl ?_, hmkl _⟩, ?_, hkw4⟩
      · unfold readyN
        rw [if_neg hlt2]
        dsimp only
        rw [markB_all]
      · unfold outsP readyO
        dsimp only
        rw [← hls, if_neg hlt2, List.append_nil]
        exact own_down ho4 (by omega)
    · (repeat first | (apply wr_move; exact rfl; with_reducible (conv => enter [6, 3]; whnf)) | apply wr_end | apply wc_seq | apply wc_region | (apply wr_cmp; (iterate 3 exact rfl); exact cmpT (by dsimp only [cmpP]; first | done | omega)) | (apply wc_true; exact rfl))
      refine wr_loadAll (cs := [.int .i64 nk.1, S nk.2]) rfl rfl rfl hck4 rfl ?_
      (repeat first | (apply wr_move; exact rfl; with_reducible (conv => enter [6, 3]; whnf)))
      refine wr_build (ps := [(0, .agg #[.int .i64 nk.1, S nk.2]), (1, .int .u64 (ls : Int)), (2, .bool true)]) (cs := GS (nk, ls, true, [])) rfl rfl rfl rfl ?_
      refine wr_buildSlice (vs := [.agg (GS (nk, ls, true, [])).toArray]) rfl rfl (by intro v hv; simp at hv; subst hv; rfl) rfl (by decide) (by decide) (by decide) ?_
      refine wr_append (v := ov) (n := (outB nk l l.length).length) (m := 1) (news := GS (nk, ls, true, [])) rfl rfl (ho4.alloc _) rfl (heap_alloc_same _ _) rfl (GS_one _) rfl (by decide) (by omega) (by omega) (by simp; omega) ?_
      intro ov' w5 ho5 hk5 _
      have hk45 : Keeps (fun q => w2.heap.size ≤ q) w4 w5 := (((Keeps.refl NoB w4).alloc _).upD).trans (hk5.mono fun q _ e => hro q e)
      have hg5 := hk45.heap hg4 (fun e => by have := lt_of_heap hg2; omega)
      have hx5 := hk45.heap hx4 (fun e => by have := lt_of_heap hx2; omega)
      have h5 := (h4.keepN ((Keeps.refl NoB w4).alloc _)).keep hk5 (fun q' hq' e => by
        obtain ⟨_, _, c9, hc9⟩ := (OwnS.of_own (ho4.alloc _)).lt q' e
        obtain ⟨_, c, T', fr, hc, ht⟩ := hq'
        rw [hc9] at hc
        cases hc
        revert ht
        decide)
      have htp := GN_toldp ⟨nk, .slice ba l.length bc, ⟨T, told, markB l l.length⟩⟩ ls
      have hxm : w5.heap[xb]? = some (.cells #[.slice (some ⟨g, o, none⟩) (mk l.length).length rc] RAT (0, 0)) := by rw [hmkl]; exact hx5
      obtain ⟨h6, hk6, _⟩ := h5.put hxm hg5 (hmkg l.length) (n' := ⟨nk, .slice ba l.length bc, ⟨T, ls, markB l l.length⟩⟩) rfl rfl rfl (r := 35) (by decide) htp.1 htp.2 htb1
      (repeat first | (apply wr_move; exact rfl; with_reducible (conv => enter [6, 3]; whnf)) | (apply wr_assign; exact rfl; with_reducible (conv => enter [6, 3]; whnf)) | apply wr_end | apply wc_region | (apply wr_fieldAddr; iterate 2 exact rfl) | (apply wr_nilCheck; iterate 2 exact rfl))
      refine wr_store (v := .int .u64 (ls : Int)) rfl rfl rfl rfl hg5 hc35 ?_
      refine wr_name ?_
      intro w6 hw6
      have hk6' : Keeps (· = g) w5 w6 := by rw [hw6]; exact (Keeps.refl _ w5).put _ (fun _ => rfl)
      rw [← hw6] at h6 hk6
      clear hw6
      have ho6 := own_keep ho5 hk6' (fun q' hq' e => by
        subst e
        obtain ⟨_, _, c9, hc9⟩ := (OwnS.of_own ho5).lt q' hq'
        rw [hg5] at hc9
        cases hc9)
      have hkE : Keeps (RD base w) w w6 := keepsRD_trans hk02.upD ((hk24.trans' hk45 (fun q hq e => by omega)).trans (hk6'.mono fun q _ e => by
        have e : q = g := e
        subst e
        exact ⟨hgb, _, _, _, hg2, .inr (.inl rfl)⟩))
      (repeat first | (apply wr_move; exact rfl; with_reducible (conv => enter [6, 3]; whnf)) | (apply wr_assign; exact rfl; with_reducible (conv => enter [6, 3]; whnf)) | apply wr_end | apply wc_seq | apply wc_region | (apply wc_ret; try simp only [thenE, inBlockE, bodyQ]))
      refine leave1 (v := ov') rfl rfl ⟨⟨_, h6, hafter rfl h6.sort rfl ?_, by rw [List.length_set, hmkl]⟩, ?_, hkE⟩
      · unfold readyN
        rw [if_pos hlt2]
        dsimp only
        rw [markB_all]
      · unfold outsP readyO
        dsimp only
        rw [← hls, if_pos hlt2, List.length_append, List.flatMap_append]
        have h77 := own_down ho6 (base' := bw1) (by omega)
        simpa [-List.flatMap_cons, List.flatMap_singleton] using h77
end Go.Proofs.YtjaojihogmnjhaaGreatDoor
