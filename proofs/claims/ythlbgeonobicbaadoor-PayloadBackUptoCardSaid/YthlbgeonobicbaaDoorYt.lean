/- norialaw02.PayloadBack: what was put is got, with fields behind it that nobody knows; the last of a field counts. -/
import Derived.Test.YthlbgeonobicbaaDoorYs
namespace Go.Proofs.YthlbgeonobicbaaDoor
open Go Go.V Go.RowKit
set_option linter.unusedVariables false
set_option linter.unusedSimpArgs false

theorem numlen (num : Int) {n : Nat} (hn : n < 18446744073709551616) : (numberF num n).length ≤ 20 := by
  by_cases h : 1 ≤ num ∧ num < 536870912
  · rw [numberF_eq h, List.length_append]
    have h1 := varint_len (num * 8).toNat (by omega)
    have h2 := varint_len n hn
    omega
  · rw [numberF_no h]; simp
theorem OwnP.back1 {K : Nat} {P : PL} (h : OwnP K P) (num n : Nat) (hnum : num < 65536) (hn : n < 18446744073709551616) : getP ((1 + K : Nat) : Int) ((partsB P).flatten ++ numberF (9 + (num : Int)) n) = some P := by
  have h0 : ∀ j : Int, j ≤ 8 → allF [(⟨9 + (num : Int), 0, n, []⟩ : WF)] j = [] := fun j hj => by
    unfold allF
    rw [List.filter_eq_nil_iff]
    intro x hx
    simp at hx; subst hx; simp; omega
  rw [h.get h.k (parse_number1 (k := 9 + (num : Int)) (by omega) hn) (fun j _ h8 => h0 j h8) (by rw [h0 1 (by decide)]; rfl), if_pos rfl, h0 1 (by decide)]; rfl
theorem OwnP.back2 {K : Nat} {P : PL} (h : OwnP K P) (nm : List UInt8) (hn : nm.length < 18446744073709551616) : getP ((1 + K : Nat) : Int) ((partsB P).flatten ++ textF 1 nm) = some { P with name := nm } := by
  have h0 : ∀ j : Int, 2 ≤ j → j ≤ 8 → allF [(⟨1, 2, 0, nm⟩ : WF)] j = [] := fun j hj _ => by
    unfold allF
    rw [List.filter_eq_nil_iff]
    intro x hx
    simp at hx; subst hx; simp; omega
  rw [h.get h.k (parse_text1 (k := 1) (by decide) hn) h0 rfl, if_pos rfl]; rfl
set_option maxRecDepth 100000 in
set_option maxHeartbeats 4000000 in
theorem payloadBack_ca (m : MD) (hm : m.ok) (nm : List UInt8) (hnm : nm.length ≤ 3000000) (num n : Nat) (hnum : num < 65536) (hn : n < 18446744073709551616) (rv av : Value) {p q : Addr} (w : World) (hs : PlS w m.p rv av) (hg : Glo w p q) :
    Ca Tryd.prog 6 #[MdV m rv av, S nm, .int .u16 (num : Int), .int .u64 (n : Int)] w fun v w' => v = .bool true ∧ Keeps NoB w w' := by
  have hr1 := slR_one hs.r
  have ha1 := slR_one hs.a
  have hown := own_out m hm
  have hmade := fun (w : World) (hs : PlS w m.p rv av) => made_ca { m with own := true } ⟨hm.p, hm.kind, hm.name, hm.many⟩ rv av w hs
  obtain ⟨P, hP⟩ : ∃ P, P = (MD.out { m with own := true }).2 := ⟨_, rfl⟩
  obtain ⟨K, hK⟩ : ∃ K, K = (MD.out { m with own := true }).1 := ⟨_, rfl⟩
  rw [← hP, ← hK] at hown
  simp only [← hP, ← hK] at hmade
  clear hP hK
  have hok := hown.ok
  obtain ⟨mp, kind, own, name, many⟩ := m
  simp only at hmade hs
  refine ca_of_body (args := [MdV ⟨mp, kind, own, name, many⟩ rv av, S nm, .int .u16 (num : Int), .int .u64 (n : Int)]) Tryd.func6 rfl (by kernel_rfl) ?_
  (repeat first | (apply wr_assign; exact rfl; with_reducible (conv => enter [6, 3]; whnf)) | apply wr_end | apply wc_seq | apply wc_region | (apply wr_box; iterate 2 exact rfl))
  refine wr_call (vs := []) rfl (examples_ca (hg.keep ((Keeps.refl NoB w).alloc _) (fun _ _ h => h))) rfl ?_
  rintro v w2 ⟨rfl, hk2⟩
  have hm2 : w2.heap[w.heap.size]? = some (.cells #[S mp.name, .int .u64 (mp.port : Int), S mp.route, rv, .int .u64 (mp.policy : Int), S mp.secret, av, S mp.key, .int .i64 kind, .bool own, .int .u8 (name : Int), .int .u8 (many : Int)] 28 (0, 0)) := hk2.heap (heap_alloc_same w (.cells (MdV ⟨mp, kind, own, name, many⟩ rv av).cells 28)) (fun h => h)
  have hkw2 : Keeps NoB w w2 := ((Keeps.refl NoB w).alloc _).trans hk2
  have hml := lt_of_heap hm2
  (repeat first | (apply wr_move; exact rfl; with_reducible (conv => enter [6, 3]; whnf)) | (apply wr_assign; exact rfl; with_reducible (conv => enter [6, 3]; whnf)) | apply wr_end | apply wc_seq | apply wc_region | apply wc_skip | (apply wr_fieldAddr; iterate 2 exact rfl) | (apply wr_not; iterate 2 exact rfl) | (apply wr_store; (iterate 3 exact rfl); (first | exact rfl | with_reducible assumption); (focus repeat first | with_reducible assumption | exact heap_alloc_same _ _ | exact World.putObj_heap_same (by first | omega | (simp only [World.size_alloc, World.putObj_size, ne_eq]; omega)) | ((first | refine hAl ?_ ?_ | refine hPu ?_ ?_); focus first | omega | (simp only [World.size_alloc, World.putObj_size, ne_eq]; omega))); exact rfl) | (apply wc_false; exact rfl))
  obtain ⟨w3, hw3⟩ : ∃ w3, w3 = w2.putObj w.heap.size (.cells ((#[S mp.name, .int .u64 (mp.port : Int), S mp.route, rv, .int .u64 (mp.policy : Int), S mp.secret, av, S mp.key, .int .i64 kind, .bool own, .int .u8 (name : Int), .int .u8 (many : Int)] : Array Value).setIfInBounds (0 + 9) (.bool true)) 28 (0, 0)) := ⟨_, rfl⟩
  have hkw3 : Keeps NoB w w3 := by rw [hw3]; exact hkw2.put _ (fun h => by omega)
  have hm3 : w3.heap[w.heap.size]? = some (.cells (MdC ⟨mp, kind, true, name, many⟩ rv av).toArray 28 (0, 0)) := by rw [hw3]; exact World.putObj_heap_same hml
  rw [← hw3]
  clear hw3 hk2 hm2 hml hkw2
  refine wr_loadAll (cs := MdC ⟨mp, kind, true, name, many⟩ rv av) rfl rfl rfl hm3 rfl ?_
  refine wr_call (vs := [MdV ⟨mp, kind, true, name, many⟩ rv av]) rfl (hmade w3 (hs.kin hkw3)) rfl ?_
  rintro v w4 ⟨rv', av', rfl, hs4, hk4⟩
  have hr4 := slR_one hs4.r
  have ha4 := slR_one hs4.a
  (repeat first | (apply wr_move; exact rfl; with_reducible (conv => enter [6, 3]; whnf)) | (apply wr_assign; exact rfl; with_reducible (conv => enter [6, 3]; whnf)) | (apply wr_alloc; exact rfl) | (apply wr_extract; (iterate 3 exact rfl); with_reducible (conv => enter [6, 3]; whnf)))
  refine wr_storeAll (cs := PlC P rv' av') rfl rfl rfl (PlC_one hr4 ha4) (heap_alloc_same _ _) rfl rfl ?_
  obtain ⟨w5, hw5⟩ : ∃ w5, w5 = (w4.alloc (.cells (Value.agg PlZ.toArray).cells 26)).putObj w4.heap.size (.cells (PlC P rv' av').toArray 26 (0, 0)) := ⟨_, rfl⟩
  have hk5 : Keeps NoB w4 w5 := by rw [hw5]; exact ((Keeps.refl NoB w4).alloc _).put _ (fun h => by omega)
  have hb5 : w5.heap[w4.heap.size]? = some (.cells (PlC P rv' av').toArray 26 (0, 0)) := by rw [hw5]; exact World.putObj_heap_same (by simp)
  rw [← hw5]
  have hsz5 : w4.heap.size < w5.heap.size := by rw [hw5]; simp
  clear hw5
  have hs5 := hs4.kin hk5
  have hkw5 : Keeps NoB w w5 := hkw3.trans (hk4.trans hk5)
  have hpbw : w.heap.size ≤ w4.heap.size := (hkw3.trans hk4).size
  have hg5 := hg.keep hkw5 (fun _ _ h => h)
  generalize w4.heap.size = pb at hb5 hsz5 hpbw ⊢
  clear hmade hs hm3 hkw3 hk4 hk5 hs4
  have hP : OwnP (kOf kind) P := by rw [hown.p]; exact OwnP.of _ (by rw [← hown.p]; exact hok)
  rw [hown.k]
  clear hown
  generalize kOf kind = kn at hP ⊢
  have hfew := hP.few
  have hlen := hP.len
  (repeat first | (apply wr_move; exact rfl; with_reducible (conv => enter [6, 3]; whnf)) | apply wr_end | apply wc_seq | apply wc_region)
  refine wr_loadAll (cs := PlC P rv' av') rfl rfl rfl hb5 rfl ?_
  refine wr_call (vs := [.int .i64 ((1 + kn : Nat) : Int), PlV P rv' av']) rfl (pPut_ca _ P hok rv' av' w5 hs5) rfl ?_
  rintro v w6 ⟨rfl, hk6⟩
  rw [hP.put]
  (repeat first | (apply wr_move; exact rfl; with_reducible (conv => enter [6, 3]; whnf)) | (apply wr_assign; exact rfl; with_reducible (conv => enter [6, 3]; whnf)) | apply wr_end | apply wc_seq | apply wc_region | (apply wr_add; (iterate 3 exact rfl); exact w_fit (by dsimp only [kIn]; first | done | omega)) | (apply wr_conv; (iterate 2 exact rfl); exact w_fit (by dsimp only [kIn]; first | done | omega)) | (apply wr_extract; (iterate 3 exact rfl); with_reducible (conv => enter [6, 3]; whnf)))
  refine wr_call (vs := [.int .i64 (9 + (num : Int)), .int .u64 (n : Int)]) rfl (number_ca (9 + (num : Int)) n (by omega) hn w6) rfl ?_
  rintro v w7 ⟨rfl, hk7⟩
  have hnl := numlen (9 + (num : Int)) hn
  (repeat first | (apply wr_cat; (iterate 3 exact rfl); (first | omega | (simp only [List.length_append]; omega))))
  refine wr_call (vs := [.int .i64 ((1 + kn : Nat) : Int), S ((partsB P).flatten ++ numberF (9 + (num : Int)) n)]) rfl (pGet_ca _ _ (by rw [List.length_append]; omega) (hg5.keep (hk6.trans hk7) (fun _ _ h => h))) rfl ?_
  rintro v w8 ⟨hgr, hk8⟩
  obtain ⟨rq, aq, rfl, hsq⟩ := getR_some hgr (hP.back1 num n hnum hn)
  have hk58 := hk6.trans (hk7.trans hk8)
  (repeat first | (apply wr_move; exact rfl; with_reducible (conv => enter [6, 3]; whnf)) | (apply wr_alloc; exact rfl) | (apply wr_extract; (iterate 3 exact rfl); with_reducible (conv => enter [6, 3]; whnf)))
  refine wr_storeAll (cs := PlC P rq aq) rfl rfl rfl (PlC_one (slR_one hsq.r) (slR_one hsq.a)) (heap_alloc_same _ _) rfl rfl ?_
  obtain ⟨w9, hw9⟩ : ∃ w', w' = (w8.alloc (.cells (Value.agg PlZ.toArray).cells 26)).putObj w8.heap.size (.cells (PlC P rq aq).toArray 26 (0, 0)) := ⟨_, rfl⟩
  have kw9 : Keeps NoB w8 w9 := by rw [hw9]; exact ((Keeps.refl NoB w8).alloc _).put _ (fun h => by omega)
  have bw9 : w9.heap[w8.heap.size]? = some (.cells (PlC P rq aq).toArray 26 (0, 0)) := by rw [hw9]; exact World.putObj_heap_same (by simp)
  rw [← hw9]
  clear hw9
  obtain ⟨qb, eqb⟩ : ∃ b, b = w8.heap.size := ⟨_, rfl⟩
  rw [← eqb] at bw9 ⊢
  have hk59 := hk58.trans kw9
  have hsq9 := hsq.kin kw9
  (repeat first | (apply wr_move; exact rfl; with_reducible (conv => enter [6, 3]; whnf)) | (apply wr_assign; exact rfl; with_reducible (conv => enter [6, 3]; whnf)) | apply wr_end | apply wc_seq | apply wc_region)
  refine wr_call (vs := [.int .i64 1, S nm]) rfl (text_ca 1 nm (by decide) (by omega) w9) rfl ?_
  rintro v w10 ⟨rfl, hk10⟩
  have htl := textF_len (num := 1) (s := nm) (by omega)
  (repeat first | (apply wr_cat; (iterate 3 exact rfl); (first | omega | (simp only [List.length_append]; omega))))
  refine wr_call (vs := [.int .i64 ((1 + kn : Nat) : Int), S ((partsB P).flatten ++ textF 1 nm)]) rfl (pGet_ca _ _ (by rw [List.length_append]; omega) (hg5.keep (hk59.trans hk10) (fun _ _ h => h))) rfl ?_
  rintro v w11 ⟨hgr2, hk11⟩
  obtain ⟨rr, ar, rfl, hsr⟩ := getR_some hgr2 (hP.back2 nm (by omega))
  (repeat first | (apply wr_move; exact rfl; with_reducible (conv => enter [6, 3]; whnf)) | (apply wr_alloc; exact rfl) | (apply wr_extract; (iterate 3 exact rfl); with_reducible (conv => enter [6, 3]; whnf)))
  refine wr_storeAll (cs := PlC { P with name := nm } rr ar) rfl rfl rfl (PlC_one (slR_one hsr.r) (slR_one hsr.a)) (heap_alloc_same _ _) rfl rfl ?_
  obtain ⟨w12, hw12⟩ : ∃ w', w' = (w11.alloc (.cells (Value.agg PlZ.toArray).cells 26)).putObj w11.heap.size (.cells (PlC { P with name := nm } rr ar).toArray 26 (0, 0)) := ⟨_, rfl⟩
  have kw12 : Keeps NoB w11 w12 := by rw [hw12]; exact ((Keeps.refl NoB w11).alloc _).put _ (fun h => by omega)
  have bw12 : w12.heap[w11.heap.size]? = some (.cells (PlC { P with name := nm } rr ar).toArray 26 (0, 0)) := by rw [hw12]; exact World.putObj_heap_same (by simp)
  rw [← hw12]
  clear hw12
  obtain ⟨rb, erb⟩ : ∃ b, b = w11.heap.size := ⟨_, rfl⟩
  rw [← erb] at bw12 ⊢
  have hk912 := hk10.trans (hk11.trans kw12)
  have hk512 := hk59.trans hk912
  have hp12 := hk512.heap hb5 (fun h => h)
  have hq12 := hk912.heap bw9 (fun h => h)
  have hsr12 := hsr.kin kw12
  have hsq12 := hsq9.kin hk912
  have hs12 := hs5.kin hk512
  (repeat first | (apply wr_assign; exact rfl; with_reducible (conv => enter [6, 3]; whnf)) | apply wr_end | apply wc_seq | apply wc_region)
  refine wr_loadAll (cs := PlC P rv' av') rfl rfl rfl hp12 rfl ?_
  refine wr_alloc rfl ?_
  refine wr_storeAll (cs := PlC P rv' av') rfl rfl rfl (PlC_one hr4 ha4) (heap_alloc_same _ _) rfl rfl ?_
  obtain ⟨w13, hw13⟩ : ∃ w', w' = (w12.alloc (.cells (Value.agg PlZ.toArray).cells 26)).putObj w12.heap.size (.cells (PlC P rv' av').toArray 26 (0, 0)) := ⟨_, rfl⟩
  have kw13 : Keeps NoB w12 w13 := by rw [hw13]; exact ((Keeps.refl NoB w12).alloc _).put _ (fun h => by omega)
  have bw13 : w13.heap[w12.heap.size]? = some (.cells (PlC P rv' av').toArray 26 (0, 0)) := by rw [hw13]; exact World.putObj_heap_same (by simp)
  rw [← hw13]
  clear hw13
  obtain ⟨sb, esb⟩ : ∃ b, b = w12.heap.size := ⟨_, rfl⟩
  rw [← esb] at bw13 ⊢
  refine wr_end ?_
  apply wc_seq
  apply wc_region
  refine wr_move rfl ?_
  refine wr_fieldAddr rfl rfl ?_
  refine wr_store (v := S nm) rfl rfl rfl rfl bw13 rfl ?_
  obtain ⟨w14, h14⟩ : ∃ w', w' = w13.putObj sb (.cells ((PlC P rv' av').toArray.setIfInBounds (0 + 0) (S nm)) 26 (0, 0)) := ⟨_, rfl⟩
  have hk14 : Keeps (· = sb) w13 w14 := by rw [h14]; exact (Keeps.refl _ _).put _ (fun _ => rfl)
  have hb14 : w14.heap[sb]? = some (.cells (PlC { P with name := nm } rv' av').toArray 26 (0, 0)) := by rw [h14]; exact World.putObj_heap_same (lt_of_heap bw13)
  rw [← h14]
  clear h14
  (repeat first | (apply wr_move; exact rfl; with_reducible (conv => enter [6, 3]; whnf)) | apply wr_end | apply wc_seq | apply wc_region | (apply wr_pick (t := true); (iterate 2 exact rfl); with_reducible (conv => enter [6, 3]; whnf)))
  have hk1214 : Keeps NoB w12 w14 := Keeps.trans' kw13 hk14 (fun i hi e => by omega)
  have hp14 := hk1214.heap hp12 (fun h => h)
  have hq14 := hk1214.heap hq12 (fun h => h)
  have hr14 := hk1214.heap bw12 (fun h => h)
  have hs14 := hs12.kin hk1214
  refine wr_loadAll (cs := PlC P rv' av') rfl rfl rfl hp14 rfl ?_
  refine wr_loadAll (cs := PlC P rq aq) rfl rfl rfl hq14 rfl ?_
  refine wr_call (vs := [PlV P rv' av', PlV P rq aq]) rfl (same_ca P P ⟨by omega, by omega⟩ ⟨by omega, by omega⟩ rv' av' rq aq w14 hs14 (hsq12.kin hk1214)) rfl ?_
  rintro v w15 ⟨rfl, hk15⟩
  rw [(sameB_iff P P).2 rfl]
  (repeat first | (apply wr_move; exact rfl; with_reducible (conv => enter [6, 3]; whnf)) | (apply wr_pick (t := true); (iterate 2 exact rfl); with_reducible (conv => enter [6, 3]; whnf)))
  refine wr_loadAll (cs := PlC { P with name := nm } rr ar) rfl rfl rfl (hk15.heap hr14 (fun h => h)) rfl ?_
  refine wr_loadAll (cs := PlC { P with name := nm } rv' av') rfl rfl rfl (hk15.heap hb14 (fun h => h)) rfl ?_
  refine wr_call (vs := [PlV { P with name := nm } rr ar, PlV { P with name := nm } rv' av']) rfl (same_ca { P with name := nm } { P with name := nm } ⟨by dsimp only; omega, by dsimp only; omega⟩ ⟨by dsimp only; omega, by dsimp only; omega⟩ rr ar rv' av' w15 (hsr12.kin (hk1214.trans hk15)) ((hs14.kin hk15).re rfl rfl)) rfl ?_
  rintro v w16 ⟨rfl, hk16⟩
  rw [(sameB_iff { P with name := nm } { P with name := nm }).2 rfl]
  (repeat first | (apply wr_assign; exact rfl; with_reducible (conv => enter [6, 3]; whnf)) | apply wr_end | (apply wr_pick (t := true); (iterate 2 exact rfl); with_reducible (conv => enter [6, 3]; whnf)) | (apply wc_ret; try simp only [thenE, inBlockE, bodyQ]))
  exact leave1 (v := .bool true) rfl rfl ⟨rfl, hkw5.trans (hk512.trans (hk1214.trans (hk15.trans hk16)))⟩
end Go.Proofs.YthlbgeonobicbaaDoor
