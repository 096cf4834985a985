/- norialaw02.PayloadTypes: what a payload of one type has another one has not. -/
import Derived.Test.YthlbgeonobicbaaDoorYs
namespace Go.Proofs.YthlbgeonobicbaaDoor
open Go Go.V Go.RowKit
set_option linter.unusedVariables false
set_option linter.unusedSimpArgs false

theorem OwnP.types1 {K : Nat} {P : PL} (h : OwnP K P) {k : Nat} (hk : k < 5) : getP ((1 + k : Nat) : Int) (partsB P).flatten = some (if k = K then P else bareP P.name) := by
  have h1 := h.get hk (t := []) (e := []) parseF_nil (fun _ _ _ => rfl) rfl
  rw [List.append_nil] at h1
  rw [h1]
  by_cases e : k = K
  · rw [if_pos e]; rfl
  · rw [if_neg e]; rfl
theorem OwnP.types2 {K : Nat} {P : PL} (h : OwnP K P) {k : Nat} (hk : k < 5) : ∃ t b, putV (putP ((1 + k : Nat) : Int) P) = .tuple #[S t, .bool b] ∧ (k = K → t = (partsB P).flatten ∧ b = true) ∧ (k ≠ K → b = sameB P (bareP P.name)) := by
  by_cases e : k = K
  · subst e
    exact ⟨_, true, by rw [h.put]; rfl, fun _ => ⟨rfl, rfl⟩, fun h => absurd rfl h⟩
  · have h1 := h.putNot hk e
    cases hp : putP ((1 + k : Nat) : Int) P with
    | none => rw [hp] at h1; exact ⟨[], false, rfl, fun h => absurd h e, fun _ => h1⟩
    | some t => rw [hp] at h1; exact ⟨t, true, rfl, fun h => absurd h e, fun _ => h1⟩
set_option maxRecDepth 100000 in
set_option maxHeartbeats 4000000 in
theorem payloadTypes_ca (m : MD) (hm : m.ok) (other : Nat) (hoth : other < 256) (rv av : Value) {p q : Addr} (w : World) (hs : PlS w m.p rv av) (hg : Glo w p q) :
    Ca Tryd.prog 7 #[MdV m rv av, .int .u8 (other : Int)] w fun v w' => v = .bool true ∧ Keeps NoB w w' := by
  have hr1 := slR_one hs.r
  have ha1 := slR_one hs.a
  have hown := own_out m hm
  have hmade := fun (w : World) (hs : PlS w m.p rv av) => made_ca { m with own := true } ⟨hm.p, hm.kind, hm.name, hm.many⟩ rv av w hs
  obtain ⟨P, hP⟩ : ∃ P, P = (MD.out { m with own := true }).2 := ⟨_, rfl⟩
  obtain ⟨K, hK⟩ : ∃ K, K = (MD.out { m with own := true }).1 := ⟨_, rfl⟩
  rw [← hP, ← hK] at hown
  simp only [← hP, ← hK] at hmade
  clear hP hK
  have hok := hown.ok
  obtain ⟨mp, kind, own, name, many⟩ := m
  simp only at hmade hs
  refine ca_of_body (args := [MdV ⟨mp, kind, own, name, many⟩ rv av, .int .u8 (other : Int)]) Tryd.func7 rfl (by kernel_rfl) ?_
  (repeat first | (apply wr_assign; exact rfl; with_reducible (conv => enter [6, 3]; whnf)) | apply wr_end | apply wc_seq | apply wc_region | (apply wr_box; iterate 2 exact rfl))
  refine wr_call (vs := []) rfl (examples_ca (hg.keep ((Keeps.refl NoB w).alloc _) (fun _ _ h => h))) rfl ?_
  rintro v w2 ⟨rfl, hk2⟩
  have hm2 : w2.heap[w.heap.size]? = some (.cells #[S mp.name, .int .u64 (mp.port : Int), S mp.route, rv, .int .u64 (mp.policy : Int), S mp.secret, av, S mp.key, .int .i64 kind, .bool own, .int .u8 (name : Int), .int .u8 (many : Int)] 28 (0, 0)) := hk2.heap (heap_alloc_same w (.cells (MdV ⟨mp, kind, own, name, many⟩ rv av).cells 28)) (fun h => h)
  have hkw2 : Keeps NoB w w2 := ((Keeps.refl NoB w).alloc _).trans hk2
  have hml := lt_of_heap hm2
  (repeat first | (apply wr_move; exact rfl; with_reducible (conv => enter [6, 3]; whnf)) | (apply wr_assign; exact rfl; with_reducible (conv => enter [6, 3]; whnf)) | apply wr_end | apply wc_seq | apply wc_region | apply wc_skip | (apply wr_fieldAddr; iterate 2 exact rfl) | (apply wr_not; iterate 2 exact rfl) | (apply wr_store; (iterate 3 exact rfl); (first | exact rfl | with_reducible assumption); (focus repeat first | with_reducible assumption | exact heap_alloc_same _ _ | exact World.putObj_heap_same (by first | omega | (simp only [World.size_alloc, World.putObj_size, ne_eq]; omega)) | ((first | refine hAl ?_ ?_ | refine hPu ?_ ?_); focus first | omega | (simp only [World.size_alloc, World.putObj_size, ne_eq]; omega))); exact rfl) | (apply wc_false; exact rfl))
  obtain ⟨w3, hw3⟩ : ∃ w3, w3 = w2.putObj w.heap.size (.cells ((#[S mp.name, .int .u64 (mp.port : Int), S mp.route, rv, .int .u64 (mp.policy : Int), S mp.secret, av, S mp.key, .int .i64 kind, .bool own, .int .u8 (name : Int), .int .u8 (many : Int)] : Array Value).setIfInBounds (0 + 9) (.bool true)) 28 (0, 0)) := ⟨_, rfl⟩
  have hkw3 : Keeps NoB w w3 := by rw [hw3]; exact hkw2.put _ (fun h => by omega)
  have hm3 : w3.heap[w.heap.size]? = some (.cells (MdC ⟨mp, kind, true, name, many⟩ rv av).toArray 28 (0, 0)) := by rw [hw3]; exact World.putObj_heap_same hml
  rw [← hw3]
  clear hw3 hk2 hm2 hml hkw2
  refine wr_loadAll (cs := MdC ⟨mp, kind, true, name, many⟩ rv av) rfl rfl rfl hm3 rfl ?_
  refine wr_call (vs := [MdV ⟨mp, kind, true, name, many⟩ rv av]) rfl (hmade w3 (hs.kin hkw3)) rfl ?_
  rintro v w4 ⟨rv', av', rfl, hs4, hk4⟩
  have hr4 := slR_one hs4.r
  have ha4 := slR_one hs4.a
  (repeat first | (apply wr_move; exact rfl; with_reducible (conv => enter [6, 3]; whnf)) | (apply wr_assign; exact rfl; with_reducible (conv => enter [6, 3]; whnf)) | (apply wr_alloc; exact rfl) | (apply wr_extract; (iterate 3 exact rfl); with_reducible (conv => enter [6, 3]; whnf)))
  refine wr_storeAll (cs := PlC P rv' av') rfl rfl rfl (PlC_one hr4 ha4) (heap_alloc_same _ _) rfl rfl ?_
  obtain ⟨w5, hw5⟩ : ∃ w5, w5 = (w4.alloc (.cells (Value.agg PlZ.toArray).cells 26)).putObj w4.heap.size (.cells (PlC P rv' av').toArray 26 (0, 0)) := ⟨_, rfl⟩
  have hk5 : Keeps NoB w4 w5 := by rw [hw5]; exact ((Keeps.refl NoB w4).alloc _).put _ (fun h => by omega)
  have hb5 : w5.heap[w4.heap.size]? = some (.cells (PlC P rv' av').toArray 26 (0, 0)) := by rw [hw5]; exact World.putObj_heap_same (by simp)
  rw [← hw5]
  have hsz5 : w4.heap.size < w5.heap.size := by rw [hw5]; simp
  clear hw5
  have hs5 := hs4.kin hk5
  have hkw5 : Keeps NoB w w5 := hkw3.trans (hk4.trans hk5)
  have hpbw : w.heap.size ≤ w4.heap.size := (hkw3.trans hk4).size
  have hg5 := hg.keep hkw5 (fun _ _ h => h)
  generalize w4.heap.size = pb at hb5 hsz5 hpbw ⊢
  clear hmade hs hm3 hkw3 hk4 hk5 hs4
  have hP : OwnP (kOf kind) P := by rw [hown.p]; exact OwnP.of _ (by rw [← hown.p]; exact hok)
  rw [hown.k]
  clear hown
  generalize kOf kind = kn at hP ⊢
  have hfew := hP.few
  have hlen := hP.len
  have hkn := hP.k
  (repeat first | (apply wr_move; exact rfl; with_reducible (conv => enter [6, 3]; whnf)) | apply wr_end | apply wc_seq | apply wc_region)
  refine wr_remN (n := other) (m := 5) rfl rfl rfl (by decide) ?_
  have hk5 : other % 5 < 5 := Nat.mod_lt _ (by decide)
  generalize other % 5 = kk at hk5 ⊢
  (repeat first | (apply wr_move; exact rfl; with_reducible (conv => enter [6, 3]; whnf)) | (apply wr_assign; exact rfl; with_reducible (conv => enter [6, 3]; whnf)) | apply wr_end | apply wc_seq | apply wc_region | (apply wr_add; (iterate 3 exact rfl); exact w_fit (by dsimp only [kIn]; first | done | omega)) | (apply wr_conv; (iterate 2 exact rfl); exact w_fit (by dsimp only [kIn]; first | done | omega)))
  rw [show (1 : Int) + (kk : Int) = ((1 + kk : Nat) : Int) from by omega]
  refine wr_loadAll (cs := PlC P rv' av') rfl rfl rfl hb5 rfl ?_
  refine wr_call (vs := [.int .i64 ((1 + kn : Nat) : Int), PlV P rv' av']) rfl (pPut_ca _ P hok rv' av' w5 hs5) rfl ?_
  rintro v w6 ⟨rfl, hk6⟩
  rw [hP.put]
  (repeat first | (apply wr_move; exact rfl; with_reducible (conv => enter [6, 3]; whnf)) | (apply wr_assign; exact rfl; with_reducible (conv => enter [6, 3]; whnf)) | apply wr_end | apply wc_seq | apply wc_region | (apply wr_extract; (iterate 3 exact rfl); with_reducible (conv => enter [6, 3]; whnf)))
  refine wr_loadAll (cs := PlC P rv' av') rfl rfl rfl (hk6.heap hb5 (fun h => h)) rfl ?_
  refine wr_call (vs := [.int .i64 ((1 + kk : Nat) : Int), PlV P rv' av']) rfl (pPut_ca _ P hok rv' av' w6 (hs5.kin hk6)) rfl ?_
  rintro v w7 ⟨rfl, hk7⟩
  obtain ⟨t, b, hpv, ht1, ht2⟩ := hP.types2 hk5
  rw [hpv]
  (repeat first | (apply wr_move; exact rfl; with_reducible (conv => enter [6, 3]; whnf)) | (apply wr_assign; exact rfl; with_reducible (conv => enter [6, 3]; whnf)) | apply wr_end | apply wc_seq | apply wc_region | (apply wr_extract; (iterate 3 exact rfl); with_reducible (conv => enter [6, 3]; whnf)))
  refine wr_call (vs := [.int .i64 ((1 + kk : Nat) : Int), S (partsB P).flatten]) rfl (pGet_ca _ _ (by omega) (hg5.keep (hk6.trans hk7) (fun _ _ h => h))) rfl ?_
  rintro v w8 ⟨hgr, hk8⟩
  obtain ⟨rq, aq, rfl, hsq⟩ := getR_some hgr (hP.types1 hk5)
  obtain ⟨Q, hQ⟩ : ∃ Q, Q = if kk = kn then P else bareP P.name := ⟨_, rfl⟩
  rw [← hQ] at hsq ⊢
  (repeat first | (apply wr_move; exact rfl; with_reducible (conv => enter [6, 3]; whnf)) | (apply wr_alloc; exact rfl) | (apply wr_extract; (iterate 3 exact rfl); with_reducible (conv => enter [6, 3]; whnf)))
  refine wr_storeAll (cs := PlC Q rq aq) rfl rfl rfl (PlC_one (slR_one hsq.r) (slR_one hsq.a)) (heap_alloc_same _ _) rfl rfl ?_
  obtain ⟨w9, hw9⟩ : ∃ w', w' = (w8.alloc (.cells (Value.agg PlZ.toArray).cells 26)).putObj w8.heap.size (.cells (PlC Q rq aq).toArray 26 (0, 0)) := ⟨_, rfl⟩
  have kw9 : Keeps NoB w8 w9 := by rw [hw9]; exact ((Keeps.refl NoB w8).alloc _).put _ (fun h => by omega)
  have bw9 : w9.heap[w8.heap.size]? = some (.cells (PlC Q rq aq).toArray 26 (0, 0)) := by rw [hw9]; exact World.putObj_heap_same (by simp)
  rw [← hw9]
  clear hw9
  obtain ⟨qb, eqb⟩ : ∃ b, b = w8.heap.size := ⟨_, rfl⟩
  rw [← eqb] at bw9 ⊢
  have hk59 := (hk6.trans (hk7.trans hk8)).trans kw9
  have hsq9 := hsq.kin kw9
  have hp9 := hk59.heap hb5 (fun h => h)
  have hs9 := hs5.kin hk59
  have hQf : Q.rules.length ≤ 3 ∧ Q.addrs.length ≤ 3 := by
    rw [hQ]; split
    · exact hfew
    · exact ⟨by simp [bareP], by simp [bareP]⟩
  (repeat first | (apply wr_assign; exact rfl; with_reducible (conv => enter [6, 3]; whnf)) | apply wr_end | apply wc_seq | apply wc_region)
  refine wr_loadAll (cs := PlC P rv' av') rfl rfl rfl hp9 rfl ?_
  (repeat first | (apply wr_fieldAddr; iterate 2 exact rfl) | (apply wr_load; (iterate 3 exact rfl); (focus repeat first | with_reducible assumption | exact heap_alloc_same _ _ | exact World.putObj_heap_same (by first | omega | (simp only [World.size_alloc, World.putObj_size, ne_eq]; omega)) | ((first | refine hAl ?_ ?_ | refine hPu ?_ ?_); focus first | omega | (simp only [World.size_alloc, World.putObj_size, ne_eq]; omega))); exact rfl; conv => enter [6, 3]; whnf))
  refine wr_build (ps := [(0, S P.name)]) (cs := PlC (bareP P.name) (.slice none 0 0) (.slice none 0 0)) rfl rfl rfl rfl ?_
  refine wr_call (vs := [PlV P rv' av', PlV (bareP P.name) (.slice none 0 0) (.slice none 0 0)]) rfl (same_ca P (bareP P.name) ⟨by omega, by omega⟩ ⟨by simp [bareP], by simp [bareP]⟩ rv' av' (.slice none 0 0) (.slice none 0 0) w9 hs9 (PlS.none _ _ rfl rfl)) rfl ?_
  rintro v w10 ⟨rfl, hk10⟩
  have hp10 := hk10.heap hp9 (fun h => h)
  have hq10 := hk10.heap bw9 (fun h => h)
  have hkw10 := hkw5.trans (hk59.trans hk10)
  by_cases e : kk = kn
  · obtain ⟨rfl, rfl⟩ := ht1 e
    rw [if_pos e] at hQ
    subst hQ e
    (repeat first | (apply wr_move; exact rfl; with_reducible (conv => enter [6, 3]; whnf)) | (apply wr_assign; exact rfl; with_reducible (conv => enter [6, 3]; whnf)) | apply wr_end | apply wc_seq | apply wc_region | (apply wr_cmp; (iterate 3 exact rfl); exact cmpT (by dsimp only [cmpP]; first | done | omega)) | (apply wr_pick (t := true); (iterate 2 exact rfl); with_reducible (conv => enter [6, 3]; whnf)) | (apply wc_true; exact rfl))
    refine wr_loadAll (cs := PlC Q rv' av') rfl rfl rfl hp10 rfl ?_
    refine wr_loadAll (cs := PlC Q rq aq) rfl rfl rfl hq10 rfl ?_
    refine wr_call (vs := [PlV Q rv' av', PlV Q rq aq]) rfl (same_ca Q Q ⟨by omega, by omega⟩ ⟨by omega, by omega⟩ rv' av' rq aq w10 (hs9.kin hk10) (hsq9.kin hk10)) rfl ?_
    rintro v w11 ⟨rfl, hk11⟩
    rw [(sameB_iff Q Q).2 rfl]
    (repeat first | (apply wr_move; exact rfl; with_reducible (conv => enter [6, 3]; whnf)) | (apply wr_assign; exact rfl; with_reducible (conv => enter [6, 3]; whnf)) | apply wr_end | (apply wr_pick (t := true); (iterate 2 exact rfl); with_reducible (conv => enter [6, 3]; whnf)) | (apply wr_streqc; (iterate 3 exact rfl); (first | exact decide_eq_true (by with_reducible assumption) | exact decide_eq_false (by with_reducible assumption) | exact decide_eq_true rfl | exact rfl)) | (apply wc_ret; try simp only [thenE, inBlockE, bodyQ]))
    exact leave1 (v := .bool true) rfl rfl ⟨rfl, hkw10.trans hk11⟩
  · have hb := ht2 e
    rw [if_neg e] at hQ
    subst hb hQ
    (repeat first | (apply wr_move; exact rfl; with_reducible (conv => enter [6, 3]; whnf)) | (apply wr_assign; exact rfl; with_reducible (conv => enter [6, 3]; whnf)) | apply wr_end | apply wc_seq | apply wc_region | apply wc_skip | (apply wr_cmp; (iterate 3 exact rfl); exact cmpF (by dsimp only [cmpN]; first | done | omega)) | (apply wc_false; exact rfl))
    refine wr_boolEq (c := true) rfl rfl rfl (by simp) ?_
    (repeat first | (apply wr_move; exact rfl; with_reducible (conv => enter [6, 3]; whnf)) | (apply wr_pick (t := true); (iterate 2 exact rfl); with_reducible (conv => enter [6, 3]; whnf)))
    refine wr_loadAll (cs := PlC (bareP P.name) rq aq) rfl rfl rfl hq10 rfl ?_
    (repeat first | (apply wr_fieldAddr; iterate 2 exact rfl) | (apply wr_load; (iterate 3 exact rfl); (focus repeat first | with_reducible assumption | exact heap_alloc_same _ _ | exact World.putObj_heap_same (by first | omega | (simp only [World.size_alloc, World.putObj_size, ne_eq]; omega)) | ((first | refine hAl ?_ ?_ | refine hPu ?_ ?_); focus first | omega | (simp only [World.size_alloc, World.putObj_size, ne_eq]; omega))); exact rfl; conv => enter [6, 3]; whnf))
    refine wr_build (ps := [(0, S P.name)]) (cs := PlC (bareP P.name) (.slice none 0 0) (.slice none 0 0)) rfl rfl rfl rfl ?_
    refine wr_call (vs := [PlV (bareP P.name) rq aq, PlV (bareP P.name) (.slice none 0 0) (.slice none 0 0)]) rfl (same_ca (bareP P.name) (bareP P.name) ⟨by simp [bareP], by simp [bareP]⟩ ⟨by simp [bareP], by simp [bareP]⟩ rq aq (.slice none 0 0) (.slice none 0 0) w10 (hsq9.kin hk10) (PlS.none _ _ rfl rfl)) rfl ?_
    rintro v w11 ⟨rfl, hk11⟩
    rw [(sameB_iff (bareP P.name) (bareP P.name)).2 rfl]
    (repeat first | (apply wr_assign; exact rfl; with_reducible (conv => enter [6, 3]; whnf)) | apply wr_end | (apply wr_pick (t := true); (iterate 2 exact rfl); with_reducible (conv => enter [6, 3]; whnf)) | (apply wc_ret; try simp only [thenE, inBlockE, bodyQ]))
    exact leave1 (v := .bool true) rfl rfl ⟨rfl, hkw10.trans hk11⟩
end Go.Proofs.YthlbgeonobicbaaDoor
